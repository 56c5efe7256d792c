/- Store: StoreTexts: the walk. -/
import Derived.Test.YtchmlephgkimcaaTtR
import Derived.Test.YtchmlephgkimcaaTtS
import Derived.Test.YtchmlephgkimcaaPart
import Derived.WalkMore
import Derived.Deep.CutBlock
import Derived.Deep.CutRange
set_option linter.unusedSimpArgs false
set_option linter.unusedVariables false
namespace Go.Proofs.Ytchmlephgkimcaa.Tx
open Go.RowKit Go.Kp Go.St Go.Shelf

theorem Good.more {ks : List ByteArray} {ls : List Nat} {L : List (Kx × Vx)} (h : Good ks ls L) {x : ByteArray} {b : Nat} (hx : ks[ls.length]? = some x) : Good ks (ls ++ [b]) (putL Tm.str x ⟨some ⟨b, 0, none⟩, 1, 1⟩ L) := by
  intro q hq
  rcases putL_mem (fun a b e => Tm.str_zero e) hq with rfl | hq
  · exact ⟨ls.length, b, hx, by simp, rfl⟩
  · obtain ⟨j, b', h1, h2, h3⟩ := h q hq
    refine ⟨j, b', h1, ?_, h3⟩
    rw [List.getElem?_append_left (List.getElem?_eq_some_iff.1 h2).1]
    exact h2
theorem Good.put {ks : List ByteArray} {ls : List Nat} {L : List (Kx × Vx)} (h : Good ks ls L) {x : ByteArray} {j b : Nat} (hx : ks[j]? = some x) (hb : ls[j]? = some b) : Good ks ls (putL Tm.str x ⟨some ⟨b, 0, none⟩, 1, 1⟩ L) := by
  intro q hq
  rcases putL_mem (fun a b e => Tm.str_zero e) hq with rfl | hq
  · exact ⟨j, b, hx, hb, rfl⟩
  · exact h q hq
theorem Good.sub {ks : List ByteArray} {ls : List Nat} {L L' : List (Kx × Vx)} (h : Good ks ls L) (hs : L'.Sublist L) : Good ks ls L' := fun q hq => h q (hs.subset hq)
theorem Lists.more {w w' : World} {ls : List Nat} (h : Lists w ls) {b : Nat} (hk : ∀ b' cs, b' ∈ ls → Blk w b' 3 cs → w'.heap[b']? = w.heap[b']?) (hb : Blk w' b 3 #[.int .i64 (ls.length : Int)]) : Lists w' (ls ++ [b]) := by
  intro j b' hj
  by_cases e : j < ls.length
  · rw [List.getElem?_append_left e] at hj
    have h1 := h j b' hj
    exact (hk b' _ (List.mem_of_getElem? hj) h1).trans h1
  · have hlt := (List.getElem?_eq_some_iff.1 hj).1
    simp at hlt
    obtain rfl : j = ls.length := by omega
    simp at hj
    subst hj
    exact hb
theorem Lists.keep {w w' : World} {ls : List Nat} (h : Lists w ls) (hk : ∀ b' cs, b' ∈ ls → Blk w b' 3 cs → w'.heap[b']? = w.heap[b']?) : Lists w' ls := fun j b hj => (hk b _ (List.mem_of_getElem? hj) (h j b hj)).trans (h j b hj)

theorem maps_keep2 {w w' : World} {g : Nat} {t : Tr} (h : MapS w g t) (hk : ∀ b ty cs, Blk w b ty cs → (ty = 91 ∨ ty = 98) → w'.heap[b]? = w.heap[b]?) : MapS w' g t := by
  obtain ⟨a, h1, h2⟩ := h.cells
  exact ⟨h.last, h.lastM, h.cmp, h.ord, trivial, h.srt, h.few, a, (hk _ _ _ h1 (.inl rfl)).trans h1, h2.same fun b cs hB => hk _ _ _ hB (.inr rfl)⟩
theorem maps_blk {w : World} {g : Nat} {t : Tr} (h : MapS w g t) : ∃ cs, Blk w g 91 cs := by
  obtain ⟨a, h1, _⟩ := h.cells
  exact ⟨_, h1⟩
theorem wk_keep {S' : World → Prop} {id' : Nat} {caps' : Array Value} {p : Kx → Bool} {back : Bool} {g bm bb bo : Nat} {w w' : World} (h : Wk S' id' caps' p back g bm bb bo w) (hS : S' w') (hk : ∀ b ty cs, Blk w b ty cs → ty ≠ 3 → ty ≠ 9 → w'.heap[b]? = w.heap[b]?) : Wk S' id' caps' p back g bm bb bo w' :=
  ⟨(hk _ _ _ h.bm (by decide) (by decide)).trans h.bm, (hk _ _ _ h.bb (by decide) (by decide)).trans h.bb, (hk _ _ _ h.bo (by decide) (by decide)).trans h.bo, hS, h.out⟩
theorem so_keep {id : Nat} {caps : Array Value} {g xm xk : Nat} {key : Kx} {w w' : World} (h : SO (fun _ => True) id caps g xm xk key w) (hk : ∀ b ty cs, Blk w b ty cs → ty ≠ 3 → ty ≠ 9 → w'.heap[b]? = w.heap[b]?) (hx : w'.heap[xk]? = w.heap[xk]?) : SO (fun _ => True) id caps g xm xk key w' := by
  obtain ⟨_, h2, h3, a, h4⟩ := h
  exact ⟨trivial, (hk _ _ _ h2 (by decide) (by decide)).trans h2, hx.trans h3, a, (hk _ _ _ h4 (by decide) (by decide)).trans h4⟩
abbrev SOk (g xm xk : Nat) (key : Kx) : World → Prop := SO (fun _ => True) 50 #[] g xm xk key
theorem so_last (g xm xk : Nat) (key : Kx) : Lasting (SOk g xm xk key) := SO.lasting (fun _ _ _ _ => trivial) _ _ g xm xk key
theorem count_told {t : Tr} (hs : Sorted Tm.str t.toL) (key : Kx) : (told (fun k => decide (Tm.str k key < 0)) false t).length + (told (fun k => decide (0 < Tm.str k key)) true t).length = t.many + (if (getL Tm.str key t.toL).isSome then 1 else 0) := by
  rw [told_from str_ord hs, told_back str_ord hs, List.length_drop, List.length_reverse, List.length_take, T.many_len]
  have hP := placeL_len (c := Tm.str) (key := key) t.toL
  have hG := getL_at (c := Tm.str) (key := key) t.toL
  split
  · rename_i h
    have : placeL Tm.str key t.toL < t.toL.length := by
      cases hx : t.toL[placeL Tm.str key t.toL]? with
      | none => rw [hx] at hG; rw [hG] at h; cases h
      | some x => exact (List.getElem?_eq_some_iff.1 hx).1
    omega
  · omega
/-- The map and the list of lists, while keys come. -/
structure Txs (ks : List ByteArray) (g b8 B0 : Nat) (w3 : World) (k : Nat) (t : Tr) (ls : List Nat) (lv : Value) (W : World) : Prop where
  m : MapS W g t
  c8 : Blk W b8 52 #[lv]
  row : W.ownsRow B0 22 1 lv k (ls.map one)
  len : ls.length = k
  lists : Lists W ls
  good : Good ks ls t.toL
  new : ∀ b ∈ ls, B0 ≤ b
  fr : Fr (fun b => b = g ∨ b = b8 ∨ B0 ≤ b) w3 W
section
variable {ks : List ByteArray} {g b8 B0 : Nat} {w3 W W4 : World} {k : Nat} {t : Tr} {ls : List Nat} {lv v' : Value}
theorem Txs.push (h : Txs ks g b8 B0 w3 k t ls lv W) (hB0 : B0 ≤ W.heap.size)
    (ho : W4.ownsRow B0 22 1 v' (k + 1) (ls.map one ++ [one W.heap.size])) (hg : ((W.alloc (.cells #[.int .i64 (k : Int)] 3)).alloc (.cells #[one W.heap.size] 22)).grownBy W4 lv.ownBlock) :
    Txs ks g b8 B0 w3 (k + 1) t (ls ++ [W.heap.size]) v' (W4.setCell ⟨b8, 0, none⟩ v') := by
  have hb2 : Below W.heap.size W ((W.alloc (.cells #[.int .i64 (k : Int)] 3)).alloc (.cells #[one W.heap.size] 22)) := by go_grown
  have rowT : ∀ q, lv.ownBlock = some q → ∃ cs, Blk ((W.alloc (.cells #[.int .i64 (k : Int)] 3)).alloc (.cells #[one W.heap.size] 22)) q 22 cs := fun q hq => by
    obtain ⟨cs, hB⟩ := own_blk h.row hq
    exact ⟨cs, hB.below hb2⟩
  have keep4 : ∀ b ty cs, Blk ((W.alloc (.cells #[.int .i64 (k : Int)] 3)).alloc (.cells #[one W.heap.size] 22)) b ty cs → ty ≠ 22 → W4.heap[b]? = ((W.alloc (.cells #[.int .i64 (k : Int)] 3)).alloc (.cells #[one W.heap.size] 22)).heap[b]? := fun b ty cs hB hne =>
    hg.block b hB.lt fun e => by
      obtain ⟨cs', hB'⟩ := rowT b e.symm
      exact blk_types hB hB' hne rfl
  have c8 := h.c8.below hb2
  have c84 := (keep4 _ _ _ c8 (by decide)).trans c8
  have c84' : Blk W4 b8 52 #[lv] := c84
  have keep : ∀ b ty cs, Blk W b ty cs → ty ≠ 22 → ty ≠ 52 → (W4.setCell ⟨b8, 0, none⟩ v').heap[b]? = W.heap[b]? := fun b ty cs hB n1 n2 => by
    have h2 := hB.below hb2
    exact (heap_set_ne _ _ _ _ _ (blk_types ((keep4 _ _ _ h2 n1).trans h2) c84' n2)).trans ((keep4 _ _ _ h2 n1).trans (h2.trans hB.symm))
  have hnew : Blk ((W.alloc (.cells #[.int .i64 (k : Int)] 3)).alloc (.cells #[one W.heap.size] 22)) W.heap.size 3 #[.int .i64 (k : Int)] := (heap_old (by simp)).trans (heap_at rfl)
  have hnew4 : Blk W4 W.heap.size 3 #[.int .i64 (k : Int)] := (keep4 _ _ _ hnew (by decide)).trans hnew
  refine ⟨maps_keep2 h.m fun b ty cs hB hty => keep _ _ _ hB (by rcases hty with rfl | rfl <;> decide) (by rcases hty with rfl | rfl <;> decide), blk_set c84', ?_, by simp [h.len], ?_, ?_, ?_, ?_⟩
  · rw [List.map_append, List.map_singleton]
    refine own_kept ho fun q hq => ?_
    obtain ⟨cs, hB⟩ := own_blk ho hq
    exact heap_set_ne _ _ _ _ _ (blk_types hB c84' (by decide))
  · refine h.lists.more (fun b' cs _ hB => keep _ _ _ hB (by decide) (by decide)) ?_
    rw [h.len]
    exact blk_setNe hnew4 (blk_types hnew4 c84' (by decide))
  · intro q hq
    obtain ⟨j, b', h1, h2, h3⟩ := h.good q hq
    refine ⟨j, b', h1, ?_, h3⟩
    rw [List.getElem?_append_left (List.getElem?_eq_some_iff.1 h2).1]
    exact h2
  · intro b hb
    rcases List.mem_append.1 hb with hb | hb
    · exact h.new b hb
    · obtain rfl := List.mem_singleton.1 hb
      exact hB0
  · refine (h.fr.trans ((Fr.next hb2 : Fr (fun b => b = g ∨ b = b8 ∨ B0 ≤ b) _ _).trans ⟨hg.os, hg.tape, hg.output, hg.size, fun b hb hn => hg.block b hb fun e => hn (.inr (.inr ?_))⟩)).set _ (.inr (.inl rfl))
    exact (h.row.lt b e.symm).1
theorem Txs.push8 (h : Txs ks g b8 B0 w3 k t ls lv W) (hg : ((W.alloc (.cells #[.int .i64 (k : Int)] 3)).alloc (.cells #[one W.heap.size] 22)).grownBy W4 lv.ownBlock) : Blk W4 b8 52 #[lv] := by
  have hb2 : Below W.heap.size W ((W.alloc (.cells #[.int .i64 (k : Int)] 3)).alloc (.cells #[one W.heap.size] 22)) := by go_grown
  have c8 := h.c8.below hb2
  refine (hg.block b8 c8.lt fun e => ?_).trans c8
  obtain ⟨cs, hB⟩ := own_blk h.row e.symm
  exact blk_types h.c8 hB (by decide) rfl
theorem Txs.turn {W' : World} {t' : Tr} (h : Txs ks g b8 B0 w3 k t ls lv W) (hg : W.grownBy W' (some g)) (hM : MapS W' g t') (hgood : Good ks ls t'.toL) : Txs ks g b8 B0 w3 k t' ls lv W' := by
  obtain ⟨cg, hG⟩ := maps_blk h.m
  have keep : ∀ b ty cs, Blk W b ty cs → ty ≠ 91 → W'.heap[b]? = W.heap[b]? := fun b ty cs hB hne => hg.block b hB.lt fun e => by
    injection e with e
    exact blk_types hB hG hne e
  refine ⟨hM, (keep _ _ _ h.c8 (by decide)).trans h.c8, own_kept h.row fun q hq => ?_, h.len, h.lists.keep fun b' cs _ hB => keep _ _ _ hB (by decide), hgood, h.new, h.fr.trans ⟨hg.os, hg.tape, hg.output, hg.size, fun b hb hn => hg.block b hb fun e => hn (.inl (by injection e))⟩⟩
  obtain ⟨cs, hB⟩ := own_blk h.row hq
  exact keep _ _ _ hB (by decide)
theorem Txs.below {W' : World} (h : Txs ks g b8 B0 w3 k t ls lv W) (hb : Below W.heap.size W W') : Txs ks g b8 B0 w3 k t ls lv W' := by
  refine ⟨h.m.below hb, h.c8.below hb, own_kept h.row fun q hq => ?_, h.len, h.lists.keep fun b' cs _ hB => hb.block _ hB.lt, h.good, h.new, h.fr.trans (Fr.next hb)⟩
  obtain ⟨cs, hB⟩ := own_blk h.row hq
  exact hb.block _ hB.lt
/-- What stands beside stays. -/
theorem Txs.same (h : Txs ks g b8 B0 w3 k t ls lv W) (hG : ∃ cs, Blk w3 g 91 cs) (h8 : ∃ cs, Blk w3 b8 52 cs) (hB0 : B0 = w3.heap.size) {b : Nat} {ty : TypeId} {cs : Array Value} (hb : Blk w3 b ty cs) (n1 : ty ≠ 91) (n2 : ty ≠ 52) : Blk W b ty cs := by
  obtain ⟨_, hG⟩ := hG
  obtain ⟨_, h8⟩ := h8
  refine (h.fr.block b hb.lt fun hh => ?_).trans hb
  rcases hh with hh | hh | hh
  · exact blk_types hb hG n1 hh
  · exact blk_types hb h8 n2 hh
  · have := hb.lt; omega
end

set_option maxRecDepth 100000 in
set_option maxHeartbeats 16000000 in
theorem texts_any {w : World} (ka : Option Addr) (n kc : Nat) (ks : List ByteArray) (ga : Option Addr) (gn gc : Nat) (gs : List ByteArray) (key : ByteArray)
    (hks : ks.length = n) (hn : n ≤ 8796093022208) (hkr : Rd w w.heap.size ka (ss ks)) (hgs : gs.length = gn) (hgn : gn ≤ 8796093022208) (hgr : Rd w w.heap.size ga (ss gs)) :
    Calls Try.prog 4 #[.slice ka n kc, .slice ga gn gc, .string key] w (Ret (.bool true) w) := by
  have HKS := Lib.hid hks
  have HKR := Lib.hid hkr
  have HGS := Lib.hid hgs
  have HGR := Lib.hid hgr
  clear hks hkr hgs hgr
  refine (callsIn_wide (n := 6)).1 ?_
  refine callsIn_of_wp_marks Try.func4 rfl trivial ?_ rfl
  simp only [Try.ntmps4, List.size_toArray, List.length_cons, List.length_nil, Nat.reduceAdd, Nat.reduceSub, Array.replicate_succ, Array.replicate_zero, List.push_toArray, List.append_toArray, List.nil_append, List.cons_append]
  refine wpIn_wide.2 ?_
  go_upto_region 1 with (fail)
  (refine wp_at (fun w1 => Blk w1 w.heap.size 49 #[.slice ka n kc] ∧ Blk w1 (w.heap.size + 1) 9 #[.string key] ∧ Blk w1 (w.heap.size + 1 + 1) 4 #[.bool false] ∧ Below w.heap.size w w1) ⟨by simp (disch := (first | omega | (simp only [World.size_alloc, World.size_setCell, World.size_drew] <;> omega) | fail)) only [Blk, heap_old, heap_at, heap_set_same, heap_set_ne, heap_drew', Option.map_some, putO_cells], by simp (disch := (first | omega | (simp only [World.size_alloc, World.size_setCell, World.size_drew] <;> omega) | fail)) only [Blk, heap_old, heap_at, heap_set_same, heap_set_ne, heap_drew', Option.map_some, putO_cells], by simp (disch := (first | omega | (simp only [World.size_alloc, World.size_setCell, World.size_drew] <;> omega) | fail)) only [Blk, heap_old, heap_at, heap_set_same, heap_set_ne, heap_drew', Option.map_some, putO_cells], by go_grown⟩ ?_)
  rintro w1 ⟨C3, C5, C6, hB1⟩
  have HB1 := Lib.hid hB1
  have H3 := Lib.hid C3
  have H5 := Lib.hid C5
  have H6 := Lib.hid C6
  have sz1 := hB1.size
  clear hB1 C3 C5 C6
  go_wp2_with fail
  refine (of_any w1).mono ?_
  rintro en w2 ⟨g, rfl, hg, hM, hb2⟩
  have HG := Lib.hid hg
  have HM := Lib.hid hM
  have HB2 := Lib.hid hb2
  have sz2 := hb2.size
  clear hg hM hb2
  go_upto_region 5 with (fail)
  (refine wp_at (fun w3 => Blk w3 w2.heap.size 50 #[ptr g] ∧ Blk w3 (w2.heap.size + 1) 52 #[.slice none 0 0] ∧ Below w2.heap.size w2 w3) ⟨by simp (disch := (first | omega | (simp only [World.size_alloc, World.size_setCell, World.size_drew] <;> omega) | fail)) only [Blk, heap_old, heap_at, heap_set_same, heap_set_ne, heap_drew', Option.map_some, putO_cells], by simp (disch := (first | omega | (simp only [World.size_alloc, World.size_setCell, World.size_drew] <;> omega) | fail)) only [Blk, heap_old, heap_at, heap_set_same, heap_set_ne, heap_drew', Option.map_some, putO_cells], by go_grown⟩ ?_)
  obtain ⟨b7, h7⟩ : ∃ b7, b7 = w2.heap.size := ⟨_, rfl⟩
  obtain ⟨b8, h8⟩ : ∃ b8, b8 = w2.heap.size + 1 := ⟨_, rfl⟩
  rw [← h8, ← h7]
  rintro w3 ⟨C7, C8, hB3⟩
  rw [h7] at hB3
  have HB3 := Lib.hid hB3
  have HN78 := Lib.hid (show w2.heap.size ≤ b7 ∧ w2.heap.size ≤ b8 by omega)
  clear h7 h8
  have HM3 := Lib.hid (HM.out.below hB3)
  have H3' := Lib.hid ((H3.out.below HB2.out).below hB3)
  have H5' := Lib.hid ((H5.out.below HB2.out).below hB3)
  have H6' := Lib.hid ((H6.out.below HB2.out).below hB3)
  have H7 := Lib.hid C7
  have H8 := Lib.hid C8
  have sz3 := hB3.size
  have HBW := Lib.hid (HB1.out.trans ((HB2.out.mono sz1).trans (hB3.mono (Nat.le_trans sz1 sz2))))
  have HT0 : Hid (Txs ks g b8 w3.heap.size w3 0 .nil [] (.slice none 0 0) w3) := Lib.hid ⟨HM3.out, C8, World.ownsRow_nil _ _ _ _, rfl, fun j b h => by simp at h, fun q h => by simp [T.toL] at h, fun b h => by simp at h, Fr.refl _ _⟩
  have HG3 := Lib.hid (maps_blk HM3.out)
  have H83 := Lib.hid (show ∃ cs, Blk w3 b8 52 cs from ⟨_, C8⟩)
  clear hB3 C7 C8 H3 H5 H6
  go_upto_block 0 with (fail)
  refine wp_only ?_
  go_wp2_with fail
  go_loopw [9] (fun vi wr => ∃ (k : Nat) (t : Tr) (ls : List Nat) (lv : Value), vi = .int .i64 k ∧ k ≤ n ∧ t.many ≤ k ∧ Txs ks g b8 w3.heap.size w3 k t ls lv wr) (fun vi _ => n - (intOf vi).toNat)
  case atStart => exact ⟨0, .nil, [], _, rfl, Nat.zero_le _, Nat.le_refl _, HT0.out⟩
  case round =>
    rename World => wr
    obtain ⟨k, t, ls, lv, rfl, hk, hm, hT⟩ := hrel
    have HT := Lib.hid hT
    have D3 := hT.same HG3.out H83.out rfl H3'.out (by decide) (by decide)
    have D7 := hT.same HG3.out H83.out rfl H7.out (by decide) (by decide)
    have szr := hT.fr.size
    have HBr := Lib.hid (show Below w.heap.size w wr from HBW.out.trans (hT.fr.below (fun b hh => by have := HG.out; have := HN78.out; rcases hh with rfl | rfl | hh <;> omega) (by omega)))
    obtain ⟨la, lc, hlv⟩ := own_form hT.row
    subst hlv
    have D8 := hT.c8
    have d3 := D3.cell 0
    have d7 := D7.cell 0
    have d8 := D8.cell 0
    have l3 := D3.lt
    have l7 := D7.lt
    have l8 := D8.lt
    have f8 := D8.free 0
    simp only [List.getElem?_toArray, List.getElem?_cons_zero] at d3 d7 d8
    have HD3 := Lib.hid D3
    have HD7 := Lib.hid D7
    clear hT D3 D7 D8 HT0
    rcases Nat.lt_or_ge k n with hkl | hkg
    · obtain ⟨x, hx⟩ : ∃ x, ks[k]? = some x := ⟨_, List.getElem?_eq_getElem (by rw [HKS.out]; exact hkl)⟩
      have HX := Lib.hid hx
      obtain ⟨kb, ko, rfl, hkb, hkc0⟩ := ss_at HKR.out hx
      have HKC0 := Lib.hid hkc0
      clear hx hkc0
      go_upto_region 8 with (fail)
      apply wp_region_lit
      iterate 4 (go_step; go_step; rename_i KK hKK; (with_reducible refine hKK _ _ ?_); clear hKK KK)
      have hb2 : Below wr.heap.size wr ((wr.alloc (.cells #[.int .i64 (k : Int)] 3)).alloc (.cells #[one wr.heap.size] 22)) := by go_grown
      refine push_one rfl (.tmp 37) (.tmp 40) rfl w3.heap.size (.slice la k lc) k (ls.map one) rfl (own_kept HT.out.row (fun q hq => by
        obtain ⟨cs, hB⟩ := own_blk HT.out.row hq
        exact hb2.block q hB.lt)) (wr.heap.size + 1) 1 wr.heap.size rfl (Blk.cell (t := 22) (cs := #[one wr.heap.size]) (heap_at (by simp)) 0) (by omega) (by simp; omega) ?_
      intro v' w4 ho4 hg4 _
      have HT4 := Lib.hid (HT.out.push szr ho4.out hg4)
      have C84 := HT.out.push8 hg4
      obtain ⟨la', lc', hv'⟩ := own_form ho4.out
      subst hv'
      have g8 := C84.cell 0
      have h8f := C84.free 0
      have g8l := C84.lt
      simp only [List.getElem?_toArray, List.getElem?_cons_zero] at g8
      clear ho4 hg4 C84 hb2 d3 d7 d8 l3 l7 l8 f8
      (try simp only [Act.put, List.setIfInBounds_toArray, List.set_cons_zero, List.set_cons_succ])
      go_upto_region 9 with (fail)
      (refine wp_at (fun w5 => Txs ks g b8 w3.heap.size w3 (k + 1) t (ls ++ [wr.heap.size]) (.slice la' (k + 1) lc') w5) HT4.out ?_)
      intro w5 hT5
      have HT5 := Lib.hid hT5
      have D3 := hT5.same HG3.out H83.out rfl H3'.out (by decide) (by decide)
      have D7 := hT5.same HG3.out H83.out rfl H7.out (by decide) (by decide)
      have hbw5 : Below w.heap.size w w5 := HBW.out.trans (hT5.fr.below (fun b hh => by have := HG.out; have := HN78.out; rcases hh with rfl | rfl | hh <;> omega) (by omega))
      have kc : w5.cell? ⟨kb, ko + k, none⟩ = some (.string x) := (hbw5.cell (p := ⟨kb, ko + k, none⟩) hkb).trans HKC0.out
      have d3 := D3.cell 0
      have d7 := D7.cell 0
      have d8 := hT5.c8.cell 0
      have l3 := D3.lt
      have l7 := D7.lt
      have l8 := hT5.c8.lt
      have kb5 : kb < w5.heap.size := Nat.lt_of_lt_of_le hkb hbw5.size
      obtain ⟨lb, hla, hlbl, hlc⟩ : ∃ lb, la' = some ⟨lb, 0, none⟩ ∧ lb < w5.heap.size ∧ w5.cell? ⟨lb, k, none⟩ = some (one wr.heap.size) := by
        rcases hT5.row.2 with ⟨_, h0⟩ | ⟨lb, lc, cur, h1, h2, h3, h4⟩
        · omega
        · cases h1
          refine ⟨lb, rfl, Blk.lt (t := 22) (cs := cur) h3, ?_⟩
          refine (World.ownsRow.cellAt hT5.row k (by omega)).trans ?_
          simp [HT.out.len]
      subst hla
      have hk1 : (k : Int) < (k : Int) + 1 := by omega
      simp only [List.getElem?_toArray, List.getElem?_cons_zero] at d3 d7 d8
      clear hT5 D3 D7 hbw5 HT4 g8 h8f g8l
      (refine region_keep (fun _ => True) 9 [(0, true), (1, true), (2, true), (3, true), (4, true), (5, true), (6, true), (7, true), (8, true)] (by kernel_rfl) (fun _ _ d _ _ h => by cases d <;> exact h) (by kernel_rfl) ?_; simp only [withOps, List.getElem?_toArray, List.getElem?_cons_zero, List.getElem?_cons_succ, List.drop_succ_cons, List.drop_zero])
      (iterate 9 (refine keep_quiet (v := ?_) rfl ?_ ?_; rotate_left; (focus (intro w' hw'; go_simp; (try with_reducible rfl); done)); try simp only [Act.put, List.setIfInBounds_toArray, List.set_cons_zero, List.set_cons_succ]))
      (with_reducible refine plan_end ?_)
      (try simp only [Act.put, List.setIfInBounds_toArray, List.set_cons_zero, List.set_cons_succ])
      go_wp2_with fail
      have HTd := Lib.hid (HT5.out.below (show Below w5.heap.size w5 w5.drew from (Below.refl _ _).drew))
      refine (Put_any HTd.out.m x ⟨some ⟨wr.heap.size, 0, none⟩, 1, 1⟩ (by omega)).mono ?_
      rintro en w6 ⟨rfl, hM6, hg6⟩
      have HT6 := Lib.hid (HTd.out.turn hg6 hM6 (by
        rw [toL_put str_ord t HT5.out.m.srt]
        exact HT5.out.good.put HX.out (by rw [List.getElem?_append_right (by rw [HT.out.len]; exact Nat.le_refl _), HT.out.len, Nat.sub_self]; rfl)))
      clear hM6 hg6 d3 d7 d8 l3 l7 l8 hlc kc HTd HT5
      go_wp2_with fail
      go_roundw
      case rel => exact ⟨k + 1, _, _, _, by go_num, by omega, by have := many_put Tm.str x ⟨some ⟨wr.heap.size, 0, none⟩, 1, 1⟩ t; omega, HT6.out⟩
      case measure => simp [intOf]; omega
    · obtain rfl : k = n := by omega
      clear d7 d8 l7 l8 f8
      go_upto_block 2 with (fail)
      clear d3 l3
      refine wp_only ?_
      go_wp2_with fail
      go_loopw [10] (fun vi wq => ∃ (j : Nat) (t' : Tr), vi = .int .i64 j ∧ j ≤ gn ∧ t'.many ≤ t.many ∧ Txs ks g b8 w3.heap.size w3 k t' ls (.slice la k lc) wq) (fun vi _ => gn - (intOf vi).toNat)
      case atStart => exact ⟨0, t, rfl, Nat.zero_le _, Nat.le_refl _, HT.out⟩
      case round =>
        rename World => wq
        obtain ⟨j, t', rfl, hj, hm', hT⟩ := hrel
        have HTq := Lib.hid hT
        have D7 := hT.same HG3.out H83.out rfl H7.out (by decide) (by decide)
        have D3 := hT.same HG3.out H83.out rfl H3'.out (by decide) (by decide)
        have D5 := hT.same HG3.out H83.out rfl H5'.out (by decide) (by decide)
        have D6 := hT.same HG3.out H83.out rfl H6'.out (by decide) (by decide)
        have szq := hT.fr.size
        have HBq := Lib.hid (show Below w.heap.size w wq from HBW.out.trans (hT.fr.below (fun b hh => by have := HG.out; have := HN78.out; rcases hh with rfl | rfl | hh <;> omega) (by omega)))
        have HD3 := Lib.hid D3
        have HD5 := Lib.hid D5
        have HD6 := Lib.hid D6
        have HD7 := Lib.hid D7
        have d7 := D7.cell 0
        have l7 := D7.lt
        simp only [List.getElem?_toArray, List.getElem?_cons_zero] at d7
        clear hT D7 D3 D5 D6
        rcases Nat.lt_or_ge j gn with hjl | hjg
        · obtain ⟨x, hx⟩ : ∃ x, gs[j]? = some x := ⟨_, List.getElem?_eq_getElem (by rw [HGS.out]; exact hjl)⟩
          obtain ⟨gb, go, rfl, hgb, hgc⟩ := ss_at (HGR.out.below HBq.out) hx
          have gbq : gb < wq.heap.size := Nat.lt_of_lt_of_le hgb HBq.out.size
          clear hx
          go_wp2_with fail
          (refine region_keep (fun _ => True) 5 [(0, true), (1, true), (2, true), (3, true), (4, true)] (by kernel_rfl) (fun _ _ d _ _ h => by cases d <;> exact h) (by kernel_rfl) ?_; simp only [withOps, List.getElem?_toArray, List.getElem?_cons_zero, List.getElem?_cons_succ, List.drop_succ_cons, List.drop_zero])
          (iterate 5 (refine keep_quiet (v := ?_) rfl ?_ ?_; rotate_left; (focus (intro w' hw'; go_simp; (try with_reducible rfl); done)); try simp only [Act.put, List.setIfInBounds_toArray, List.set_cons_zero, List.set_cons_succ]))
          (with_reducible refine plan_end ?_)
          (try simp only [Act.put, List.setIfInBounds_toArray, List.set_cons_zero, List.set_cons_succ])
          go_wp2_with fail
          have HTd := Lib.hid (HTq.out.below (show Below wq.heap.size wq wq.drew from (Below.refl _ _).drew))
          refine (Take_any HTd.out.m x).mono ?_
          rintro en w6 ⟨rfl, hM6, hg6⟩
          have HT6 := Lib.hid (HTd.out.turn hg6 hM6 (by
            rw [toL_takeT str_ord x HTq.out.m.srt]
            exact HTq.out.good.sub takeL_sub))
          have hmt : (takeT Tm.str x t').many ≤ t'.many := by
            rw [T.many_len, T.many_len, toL_takeT str_ord x HTq.out.m.srt]
            exact takeL_sub.length_le
          clear hM6 hg6 d7 l7 HTd
          go_wp2_with fail
          go_roundw
          case rel => exact ⟨j + 1, _, by go_num, by omega, by omega, HT6.out⟩
          case measure => simp [intOf]; omega
        · obtain rfl : j = gn := by omega
          go_wp2_with fail
          refine (All_any g _).mono ?_
          rintro en y1 ⟨bm0, bb0, bo0, rfl, hW0, hb1⟩
          have HW0 := Lib.hid hW0
          have HY1 := Lib.hid hb1
          have d7 := (HD7.out.below hb1).cell 0
          have l7 := (HD7.out.below hb1).lt
          have d5 := (HD5.out.below hb1).cell 0
          have l5 := (HD5.out.below hb1).lt
          simp only [List.getElem?_toArray, List.getElem?_cons_zero] at d7 d5
          clear hW0 hb1
          go_wp2_with fail
          refine (From_any (HTq.out.below HY1.out).m key).mono ?_
          rintro en y2 ⟨bm1, bb1, bo1, xm1, xk1, rfl, hW1, hb2⟩
          have HW1 := Lib.hid hW1
          have HY2 := Lib.hid (bnext HY1.out hb2)
          have HW0' := Lib.hid (HW0.out.below (fun _ _ _ _ => trivial) hb2)
          have d7 := (HD7.out.below HY2.out).cell 0
          have l7 := (HD7.out.below HY2.out).lt
          have d5 := (HD5.out.below HY2.out).cell 0
          have l5 := (HD5.out.below HY2.out).lt
          simp only [List.getElem?_toArray, List.getElem?_cons_zero] at d7 d5
          clear hW1 hb2 HW0
          go_wp2_with fail
          refine (Back_any (HTq.out.below HY2.out).m key).mono ?_
          rintro en y3 ⟨bm2, bb2, bo2, xm2, xk2, rfl, hW2, hb3⟩
          have HW2 := Lib.hid hW2
          have HY3 := Lib.hid (bnext HY2.out hb3)
          have HW0 := Lib.hid (HW0'.out.below (fun _ _ _ _ => trivial) hb3)
          have HW1' := Lib.hid (HW1.out.below (so_last g xm1 xk1 key) hb3)
          clear hW2 hb3 HW0' HW1 d7 l7 d5 l5
          have hf0 := wk_nil #[.pointer (some ⟨bm0, 0, none⟩), .pointer (some ⟨bb0, 0, none⟩), .pointer (some ⟨bo0, 0, none⟩)]
          have hf1 := wk_nil #[.pointer (some ⟨bm1, 0, none⟩), .pointer (some ⟨bb1, 0, none⟩), .pointer (some ⟨bo1, 0, none⟩)]
          have hf2 := wk_nil #[.pointer (some ⟨bm2, 0, none⟩), .pointer (some ⟨bb2, 0, none⟩), .pointer (some ⟨bo2, 0, none⟩)]
          go_upto_block 4 with (fail)
          clear hf0 hf1 hf2
          (refine wp_at (fun wL => Blk wL y3.heap.size 3 #[.int .i64 0] ∧ Blk wL (y3.heap.size + 1) 9 #[.string ⟨#[]⟩] ∧ Below y3.heap.size y3 wL) ⟨by simp (disch := (first | omega | (simp only [World.size_alloc, World.size_setCell, World.size_drew] <;> omega) | fail)) only [Blk, heap_old, heap_at, heap_set_same, heap_set_ne, heap_drew', Option.map_some, putO_cells], by simp (disch := (first | omega | (simp only [World.size_alloc, World.size_setCell, World.size_drew] <;> omega) | fail)) only [Blk, heap_old, heap_at, heap_set_same, heap_set_ne, heap_drew', Option.map_some, putO_cells], by go_grown⟩ ?_)
          rintro wL ⟨C14, C15, hbL⟩
          obtain ⟨b14, h14⟩ : ∃ b14, y3.heap.size = b14 := ⟨_, rfl⟩
          obtain ⟨b15, h15⟩ : ∃ b15, y3.heap.size + 1 = b15 := ⟨_, rfl⟩
          rw [h15] at C15
          rw [h14] at C14
          rw [h15, h14]
          have HYL := Lib.hid (bnext HY3.out hbL)
          have HTL := Lib.hid (HTq.out.below HYL.out)
          have HWL0 := Lib.hid (HW0.out.below (fun _ _ _ _ => trivial) hbL)
          have HWL1 := Lib.hid (HW1'.out.below (so_last g xm1 xk1 key) hbL)
          have HWL2 := Lib.hid (HW2.out.below (so_last g xm2 xk2 key) hbL)
          have HX12 := Lib.hid (show xk1 < y3.heap.size ∧ xk2 < y3.heap.size from ⟨HW1'.out.so.2.2.1.lt, HW2.out.so.2.2.1.lt⟩)
          have HBL := Lib.hid (HBq.out.trans (HYL.out.mono HBq.out.size))
          have hzL := HYL.out.size
          have hz3 := HY3.out.size
          have HC14 := Lib.hid C14
          have HC15 := Lib.hid C15
          have HE := Lib.hid (show wq.heap.size ≤ b14 ∧ wq.heap.size ≤ b15 ∧ xk1 ≠ b15 ∧ xk2 ≠ b15 by have := HX12.out; omega)
          clear C14 C15 hbL h14 h15 HW0 HW1' HW2 HX12
          (with_reducible refine wp_of_eq (c' := theBlock Try.f4 4) (by kernel_rfl) ?_)
          refine all_any _ (w := wL) (B := w.heap.size) (B0 := w3.heap.size) ka kc ks _ ls _ HTL.out.m (by omega) (HD3.out.below HYL.out) HKS.out (HKR.out.below HBL.out) (HD7.out.below HYL.out) HTL.out.c8 HTL.out.row HTL.out.lists HTL.out.good hn HC14.out HC15.out
            ⟨by have := HE.out; have := HBq.out.size; omega, by have := HE.out; have := HBq.out.size; omega, HBL.out.size⟩ ?_ HWL0.out ?_
          · intro b hb e
            obtain ⟨i, hi⟩ := List.mem_iff_getElem?.1 hb
            have := (HTq.out.lists i b hi).lt
            have := HE.out
            omega
          intro v1 D1 hF1 hN1 hD1 hD1e
          dsimp only
          have hl14 := HC14.out.lt
          have hl15 := HC15.out.lt
          have keep1 : ∀ b, b < wL.heap.size → b ≠ b14 → b ≠ b15 → v1.heap[b]? = wL.heap[b]? := fun b h1 h2 h3 => hF1.block b h1 fun hh => by rcases hh with hh | hh | hh <;> omega
          have keepT : ∀ b ty cs, Blk wL b ty cs → ty ≠ 3 → ty ≠ 9 → v1.heap[b]? = wL.heap[b]? := fun b ty cs hB n1 n2 => keep1 b hB.lt (blk_types hB HC14.out n1) (blk_types hB HC15.out n2)
          have hM1 : MapS v1 g t' := maps_keep2 HTL.out.m fun b ty cs hB hty => keepT b ty cs hB (by rcases hty with rfl | rfl <;> decide) (by rcases hty with rfl | rfl <;> decide)
          have C7 : Blk v1 b7 50 #[ptr g] := (keepT _ _ _ (HD7.out.below HYL.out) (by decide) (by decide)).trans (HD7.out.below HYL.out)
          have he := HE.out
          have hz1 := hF1.size
          have l5q := HD5.out.lt
          have l6q := HD6.out.lt
          have C5 : Blk v1 (w.heap.size + 1) 9 #[.string key] := (keep1 _ (by omega) (by omega) (by omega)).trans (HD5.out.below HYL.out)
          have C6 : Blk v1 (w.heap.size + 1 + 1) 4 #[.bool false] := (keep1 _ (by omega) (by omega) (by omega)).trans (HD6.out.below HYL.out)
          have X1 := wk_keep HWL1.out (so_keep HWL1.out.so keepT (keep1 _ HWL1.out.so.2.2.1.lt (blk_types HWL1.out.so.2.2.1 HC14.out (by decide)) he.2.2.1)) keepT
          have X2 := wk_keep HWL2.out (so_keep HWL2.out.so keepT (keep1 _ HWL2.out.so.2.2.1.lt (blk_types HWL2.out.so.2.2.1 HC14.out (by decide)) he.2.2.2)) keepT
          have HM1 := Lib.hid hM1
          have HC7 := Lib.hid C7
          have HC5 := Lib.hid C5
          have HC6 := Lib.hid C6
          have HX1 := Lib.hid X1
          have HX2 := Lib.hid X2
          have HN1 := Lib.hid hN1
          have HD1 := Lib.hid hD1
          have HBV1 := Lib.hid (show Below w.heap.size w v1 from HBL.out.trans (hF1.below (fun b hh => by have := HBq.out.size; rcases hh with rfl | rfl | hh <;> omega) HBL.out.size))
          have HD1z := Lib.hid (show D1 < v1.heap.size ∧ wL.heap.size ≤ D1 from ⟨(Array.getElem?_eq_some_iff.1 hD1).1, by omega⟩)
          clear hD1e keep1 keepT hM1 C7 C5 C6 X1 X2 hN1 hD1 hF1 hl14 hl15 he
          have d7 := HC7.out.cell 0
          have l7 := HC7.out.lt
          have d5 := HC5.out.cell 0
          have l5 := HC5.out.lt
          simp only [List.getElem?_toArray, List.getElem?_cons_zero] at d7 d5
          obtain ⟨⟨va, vn, vc⟩, hgv⟩ : ∃ gv, (getL Tm.str key t'.toL).getD Sl.zero = gv := ⟨_, rfl⟩
          obtain ⟨gS, hgS⟩ : ∃ gS, (getL Tm.str key t'.toL).isSome = gS := ⟨_, rfl⟩
          have hGet := Get_any HM1.out key
          rw [hgv, hgS] at hGet
          have HGS := Lib.hid hgS
          clear hgv hgS
          go_wp2_with fail
          refine hGet.mono ?_
          clear hGet
          rintro en v2 ⟨rfl, hb2⟩
          have HV2 := Lib.hid hb2
          clear hb2 d7 l7 d5 l5
          dsimp only
          go_upto_block 6 with (fail)
          (refine wp_at (fun v3 => Blk v3 v2.heap.size 3 #[.int .i64 0] ∧ Below v2.heap.size v2 v3) ⟨by simp (disch := (first | omega | (simp only [World.size_alloc, World.size_setCell, World.size_drew] <;> omega) | fail)) only [Blk, heap_old, heap_at, heap_set_same, heap_set_ne, heap_drew', Option.map_some, putO_cells], by go_grown⟩ ?_)
          rintro v3 ⟨C25, hb3⟩
          obtain ⟨b25, h25⟩ : ∃ b25, v2.heap.size = b25 := ⟨_, rfl⟩
          rw [h25] at C25
          rw [h25]
          have HV3 := Lib.hid (bnext HV2.out hb3)
          have hz2 := HV2.out.size
          have hz3 := HV3.out.size
          have HC25 := Lib.hid C25
          have HX1' := Lib.hid (HX1.out.below (so_last g xm1 xk1 key) HV3.out)
          have HX2' := Lib.hid (HX2.out.below (so_last g xm2 xk2 key) HV3.out)
          have HM3' := Lib.hid (HM1.out.below HV3.out)
          have hc25 := C25.lt
          clear C25 hb3
          (with_reducible refine wp_of_eq (c' := theBlock Try.f4 6) (by kernel_rfl) ?_)
          refine from_cnt _ (w := v3) key 0 _ HM3'.out (by omega) (by omega) (HC5.out.below HV3.out) HC25.out HX1'.out (mono_from str_ord HM3'.out.srt) ?_ ?_ ?_
          · intro W' hf
            refine so_keep HX1'.out.so (fun b ty cs hB n1 _ => hf.block b hB.lt fun hh => ?_) (hf.block _ HX1'.out.so.2.2.1.lt fun hh => ?_)
            · rcases hh with hh | hh
              · exact blk_types hB HC25.out n1 hh
              · have := hB.lt; omega
            · rcases hh with hh | hh
              · exact blk_types HX1'.out.so.2.2.1 HC25.out (by decide) hh
              · have := HX1'.out.so.2.2.1.lt; omega
          · intro q hq
            have h := told_out hq
            simp only [decide_eq_false_iff_not] at h
            rw [Tm.str_lt] at h
            simpa using h
          intro v4 D2 hF2 hN2 hD2 hD2e
          dsimp only
          obtain ⟨fl, hfl⟩ : ∃ fl, (told (fun k => decide (Tm.str k key < 0)) false t').length = fl := ⟨_, rfl⟩
          rw [hfl, Nat.zero_add] at hN2
          have hflm : fl ≤ t'.many := by rw [← hfl]; exact told_len _ _ _
          have HFL := Lib.hid hfl
          clear hfl
          have keep4 : ∀ b, b < v3.heap.size → b ≠ b25 → v4.heap[b]? = v3.heap[b]? := fun b h1 h2 => hF2.block b h1 fun hh => by rcases hh with hh | hh <;> omega
          have keepT : ∀ b ty cs, Blk v3 b ty cs → ty ≠ 3 → v4.heap[b]? = v3.heap[b]? := fun b ty cs hB n1 => keep4 b hB.lt (blk_types hB HC25.out n1)
          have hM4 : MapS v4 g t' := maps_keep2 HM3'.out fun b ty cs hB hty => keepT b ty cs hB (by rcases hty with rfl | rfl <;> decide)
          have C7 : Blk v4 b7 50 #[ptr g] := (keepT _ _ _ (HC7.out.below HV3.out) (by decide)).trans (HC7.out.below HV3.out)
          have C5 : Blk v4 (w.heap.size + 1) 9 #[.string key] := (keepT _ _ _ (HC5.out.below HV3.out) (by decide)).trans (HC5.out.below HV3.out)
          have C6 : Blk v4 (w.heap.size + 1 + 1) 4 #[.bool false] := (keepT _ _ _ (HC6.out.below HV3.out) (by decide)).trans (HC6.out.below HV3.out)
          have X2 := wk_keep HX2'.out (so_keep HX2'.out.so (fun b ty cs hB n1 _ => keepT b ty cs hB n1) (keep4 _ HX2'.out.so.2.2.1.lt (blk_types HX2'.out.so.2.2.1 HC25.out (by decide)))) (fun b ty cs hB n1 _ => keepT b ty cs hB n1)
          have l14 := HN1.out.lt
          have hz4 := hF2.size
          have C14 : Blk v4 b14 3 #[.int .i64 (t'.many : Int)] := (keep4 _ (by omega) (by omega)).trans (HN1.out.below HV3.out)
          have d1z := HD1z.out
          have e1 : v4.heap[D1]? = some (.deferred (some [])) := (keep4 _ (by omega) (by omega)).trans ((HV3.out.block _ d1z.1).trans HD1.out)
          have HM4 := Lib.hid hM4
          have I7 := Lib.hid C7
          have I5 := Lib.hid C5
          have I6 := Lib.hid C6
          have I14 := Lib.hid C14
          have I25 := Lib.hid hN2
          have HX2'' := Lib.hid X2
          have HD1' := Lib.hid e1
          have HD2 := Lib.hid hD2
          have HDZ := Lib.hid (show D1 < v1.heap.size ∧ wL.heap.size ≤ D1 ∧ v3.heap.size ≤ D2 ∧ D2 < v4.heap.size from ⟨d1z.1, d1z.2, Nat.le_of_eq hD2e.symm, (Array.getElem?_eq_some_iff.1 hD2).1⟩)
          have HBV4 := Lib.hid (show Below w.heap.size w v4 from (HBV1.out.trans (HV3.out.mono HBV1.out.size)).trans (hF2.below (fun b hh => by have := HBV1.out.size; rcases hh with rfl | hh <;> omega) (by have := HBV1.out.size; omega)))
          clear keep4 keepT hM4 C7 C5 C6 X2 C14 e1 hN2 hD2 hD2e hF2
          go_upto_block 8 with (fail)
          (with_reducible refine wp_of_eq (c' := theBlock Try.f4 8) (by kernel_rfl) ?_)
          refine back_cnt _ (w := v4) key fl _ HM4.out (by omega) (by omega) I5.out I25.out HX2''.out (mono_back str_ord HM4.out.srt) ?_ ?_ ?_
          · intro W' hf
            refine so_keep HX2''.out.so (fun b ty cs hB n1 _ => hf.block b hB.lt fun hh => ?_) (hf.block _ HX2''.out.so.2.2.1.lt fun hh => ?_)
            · rcases hh with hh | hh
              · exact blk_types hB I25.out n1 hh
              · have := hB.lt; omega
            · rcases hh with hh | hh
              · exact blk_types HX2''.out.so.2.2.1 I25.out (by decide) hh
              · have := HX2''.out.so.2.2.1.lt; omega
          · intro q hq
            have h := told_out hq
            simp only [decide_eq_false_iff_not] at h
            rw [Tm.str_gt] at h
            by_cases e : q.1.toList = key.toList
            · simp [e]
            · have := Tm.bl_tri (by simpa using h) (fun e' => e e'.symm)
              simp [this]
          intro v5 D3 hF3 hN3 hD3 hD3e
          dsimp only
          have hcnt := count_told HM4.out.srt key
          rw [HFL.out] at hcnt
          obtain ⟨bl, hbl⟩ : ∃ bl, (told (fun k => decide (0 < Tm.str k key)) true t').length = bl := ⟨_, rfl⟩
          obtain ⟨N, hN⟩ : ∃ N, t'.many = N := ⟨_, rfl⟩
          rw [hbl] at hN3 hcnt
          rw [hN] at hcnt
          have HNM := Lib.hid hN
          have HCNT := Lib.hid hcnt
          have hNb : N ≤ 8796093022208 := by rw [← hN]; omega
          have keep5 : ∀ b, b < v4.heap.size → b ≠ b25 → v5.heap[b]? = v4.heap[b]? := fun b h1 h2 => hF3.block b h1 fun hh => by rcases hh with hh | hh <;> omega
          have keepT : ∀ b ty cs, Blk v4 b ty cs → ty ≠ 3 → v5.heap[b]? = v4.heap[b]? := fun b ty cs hB n1 => keep5 b hB.lt (blk_types hB I25.out n1)
          have hdz := HDZ.out
          have l14 := I14.out.lt
          have hz5 := hF3.size
          have l14q := HN1.out.lt
          have I14N : Blk v5 b14 3 #[.int .i64 (N : Int)] := by
            have h := (keep5 _ l14 (by omega)).trans I14.out
            rw [hN] at h
            exact h
          have HM5 := Lib.hid (show MapS v5 g t' from maps_keep2 HM4.out fun b ty cs hB hty => keepT b ty cs hB (by rcases hty with rfl | rfl <;> decide))
          have J7' := Lib.hid (show Blk v5 b7 50 #[ptr g] from (keepT _ _ _ I7.out (by decide)).trans I7.out)
          have J6' := Lib.hid (show Blk v5 (w.heap.size + 1 + 1) 4 #[.bool false] from (keepT _ _ _ I6.out (by decide)).trans I6.out)
          have J14' := Lib.hid I14N
          have HE1 := Lib.hid ((keep5 D1 (by omega) (by omega)).trans HD1'.out)
          have HE2 := Lib.hid ((keep5 D2 (by omega) (by omega)).trans HD2.out)
          have HE3 := Lib.hid hD3
          have hd3 : D3 < v5.heap.size := (Array.getElem?_eq_some_iff.1 hD3).1
          have hd3' : v4.heap.size ≤ D3 := Nat.le_of_eq hD3e.symm
          clear hD3e
          have sv := HBq.out.size
          have l6v := I6.out.lt
          have HBV5 := Lib.hid (show Below w.heap.size w v5 from HBV4.out.trans (hF3.below (fun b hh => by rcases hh with rfl | hh <;> omega) (by omega)))
          clear hbl hN hcnt keep5 keepT I14N hD3 hF3
          cases gS
          · have hcnt := HCNT.out
            rw [HGS.out] at hcnt
            simp only [Bool.false_eq_true, if_false] at hcnt
            have I25 : Blk v5 b25 3 #[.int .i64 ((N : Int))] := by
              have h := hN3
              rw [hcnt] at h
              exact h
            have d25 := I25.cell 0
            have f25 := I25.free 0
            have l25 := I25.lt
            simp only [List.getElem?_toArray, List.getElem?_cons_zero] at d25
            have H25 := Lib.hid I25
            clear hcnt I25 hN3
            go_upto_region 44 with (fail)
            (refine wp_at (fun v6 => (∀ b, b ≠ b25 → v6.heap[b]? = v5.heap[b]?) ∧ v6.heap.size = v5.heap.size ∧ Blk v6 b25 3 #[.int .i64 (N : Int)] ∧ Fr (fun b => b = b25) v5 v6) ⟨fun b _ => rfl, rfl, H25.out, Fr.refl _ _⟩ ?_)
            rintro v6 ⟨hk6, hs6, B25, hF6⟩
            have keepT : ∀ b ty cs, Blk v5 b ty cs → ty ≠ 3 → v6.heap[b]? = v5.heap[b]? := fun b ty cs hB n1 => hk6 b (blk_types hB H25.out n1)
            have hM6 : MapS v6 g t' := maps_keep2 HM5.out fun b ty cs hB hty => keepT b ty cs hB (by rcases hty with rfl | rfl <;> decide)
            have J7 : Blk v6 b7 50 #[ptr g] := (keepT _ _ _ J7'.out (by decide)).trans J7'.out
            have J6 : Blk v6 (w.heap.size + 1 + 1) 4 #[.bool false] := (keepT _ _ _ J6'.out (by decide)).trans J6'.out
            have J14 : Blk v6 b14 3 #[.int .i64 (N : Int)] := (hk6 _ (by omega)).trans J14'.out
            have z1 : v6.heap[D1]? = some (.deferred (some [])) := (hk6 _ (by omega)).trans HE1.out
            have z2 : v6.heap[D2]? = some (.deferred (some [])) := (hk6 _ (by omega)).trans HE2.out
            have z3 : v6.heap[D3]? = some (.deferred (some [])) := (hk6 _ (by omega)).trans HE3.out
            have HB6 := Lib.hid (show Below w.heap.size w v6 from HBV5.out.trans (hF6.below (fun b hh => by omega) HBV5.out.size))
            have d7 := J7.cell 0
            have l7 := J7.lt
            have d14 := J14.cell 0
            have l14' := J14.lt
            have d25 := B25.cell 0
            have l25 := B25.lt
            simp only [List.getElem?_toArray, List.getElem?_cons_zero] at d7 d14 d25
            have HZ1 := Lib.hid z1
            have HZ2 := Lib.hid z2
            have HZ3 := Lib.hid z3
            have HJ6 := Lib.hid J6
            have HM6 := Lib.hid hM6
            have HS6 := Lib.hid hs6
            have H14' := Lib.hid J14
            have H25' := Lib.hid B25
            clear hk6 B25 hF6 keepT hM6 J7 J6 J14 z1 z2 z3 hs6 H25
            have hNN : ((N : Int) == (N : Int)) = true := by simp
            refine wp_only ?_
            (refine region_keep (fun _ => True) 7 [(0, true), (1, true), (2, false), (3, true), (4, true), (5, true), (6, true)] (by kernel_rfl) (fun _ _ d _ _ h => by cases d <;> exact h) (by kernel_rfl) ?_; simp only [withOps, List.getElem?_toArray, List.getElem?_cons_zero, List.getElem?_cons_succ, List.drop_succ_cons, List.drop_zero])
            (iterate 2 (refine keep_quiet (v := ?_) rfl ?_ ?_; rotate_left; (focus (intro w' hw'; go_simp; (try with_reducible rfl); done)); try simp only [Act.put, List.setIfInBounds_toArray, List.set_cons_zero, List.set_cons_succ]))
            (with_reducible refine plan_loud (fun K hK => ?_))
            go_simp
            refine (Len_any (HM6.out.below (show Below v6.heap.size v6 v6.drew from (Below.refl _ _).drew))).mono ?_
            rw [HNM.out]
            rintro en w_ ⟨rfl, hw_⟩
            obtain rfl : v6.drew = w_ := hw_.symm
            refine hK _ _ (Keep.refl _ _) ?_
            clear hK K
            (try simp only [Act.put, List.setIfInBounds_toArray, List.set_cons_zero, List.set_cons_succ])
            have hNN : ((N : Int) == (N : Int)) = true := by simp
            (iterate 4 (refine keep_quiet (v := ?_) rfl ?_ ?_; rotate_left; (focus (intro w' hw'; go_simp; (try with_reducible rfl); done)); try simp only [Act.put, List.setIfInBounds_toArray, List.set_cons_zero, List.set_cons_succ]))
            (with_reducible refine plan_end ?_)
            (try simp only [Act.put, List.setIfInBounds_toArray, List.set_cons_zero, List.set_cons_succ])
            go_wp2_with fail
            refine (Wx.works_any _).mono ?_
            rintro en v7 ⟨rfl, hb7⟩
            have J6 := Blk.below (w := v6.drew) HJ6.out hb7
            have c6 := J6.cell 0
            have f6 := J6.free 0
            have l6 := J6.lt
            have z1 : v7.heap[D1]? = some (.deferred (some [])) := (hb7.block _ (show D1 < v6.heap.size by have := HS6.out; omega)).trans HZ1.out
            have z2 : v7.heap[D2]? = some (.deferred (some [])) := (hb7.block _ (show D2 < v6.heap.size by have := HS6.out; omega)).trans HZ2.out
            have z3 : v7.heap[D3]? = some (.deferred (some [])) := (hb7.block _ (show D3 < v6.heap.size by have := HS6.out; omega)).trans HZ3.out
            have HY7 := Lib.hid (HB6.out.drew.trans (hb7.mono (show w.heap.size ≤ v6.heap.size from HB6.out.size)))
            have HJ7 := Lib.hid J6
            have HZ1 := Lib.hid z1
            have HZ2 := Lib.hid z2
            have HZ3 := Lib.hid z3
            clear hb7 z1 z2 z3 d7 d14 d25 l7 l25 l14' J6
            go_wp2_with fail
            have k3 : (v7.setCell ⟨w.heap.size + 1 + 1, 0, none⟩ (.bool true)).heap[D3]? = some (.deferred (some [])) := (heap_set_ne _ _ _ _ _ (by omega)).trans HZ3.out
            have k2 : ((v7.setCell ⟨w.heap.size + 1 + 1, 0, none⟩ (.bool true)).putObj D3 (.deferred none)).heap[D2]? = some (.deferred (some [])) := (World.putObj_heap_other (by omega)).trans ((heap_set_ne _ _ _ _ _ (by omega)).trans HZ2.out)
            have k1 : (((v7.setCell ⟨w.heap.size + 1 + 1, 0, none⟩ (.bool true)).putObj D3 (.deferred none)).putObj D2 (.deferred none)).heap[D1]? = some (.deferred (some [])) := (World.putObj_heap_other (by omega)).trans ((World.putObj_heap_other (by omega)).trans ((heap_set_ne _ _ _ _ _ (by omega)).trans HZ1.out))
            refine ⟨by simp, .inl ⟨_, _, rfl, run_takeDeferred k3, ?_⟩⟩
            refine ⟨by simp, .inl ⟨_, _, rfl, run_takeDeferred k2, ?_⟩⟩
            refine ⟨by simp, .inl ⟨_, _, rfl, run_takeDeferred k1, ?_⟩⟩
            have D8 : Blk ((((v7.setCell ⟨w.heap.size + 1 + 1, 0, none⟩ (.bool true)).putObj D3 (.deferred none)).putObj D2 (.deferred none)).putObj D1 (.deferred none)) (w.heap.size + 1 + 1) 4 #[.bool true] := (World.putObj_heap_other (by omega)).trans ((World.putObj_heap_other (by omega)).trans ((World.putObj_heap_other (by omega)).trans (blk_set (n := 0) (v := .bool true) HJ7.out)))
            have hc8 := D8.cell 0
            have hfin : Fr (fun k => w.heap.size ≤ k) v7 ((((v7.setCell ⟨w.heap.size + 1 + 1, 0, none⟩ (.bool true)).putObj D3 (.deferred none)).putObj D2 (.deferred none)).putObj D1 (.deferred none)) :=
              ((((Fr.refl _ _).set _ (by omega)).trans ((OnlyB.put _ D3 _).1.mono fun q _ h => by omega)).trans ((OnlyB.put _ D2 _).1.mono fun q _ h => by omega)).trans ((OnlyB.put _ D1 _).1.mono fun q _ h => by omega)
            refine ⟨.bool true, ?_, rfl, HY7.out.trans (hfin.below (fun _ h => h) HY7.out.size)⟩
            simp [results, Try.f4, go_sem, hc8]
          · have hcnt := HCNT.out
            rw [HGS.out] at hcnt
            simp only [if_true] at hcnt
            have I25 : Blk v5 b25 3 #[.int .i64 ((N : Int) + 1)] := by
              have h := hN3
              rw [hcnt] at h
              exact h
            have d25 := I25.cell 0
            have f25 := I25.free 0
            have l25 := I25.lt
            simp only [List.getElem?_toArray, List.getElem?_cons_zero] at d25
            have H25 := Lib.hid I25
            clear hcnt I25 hN3
            go_upto_region 44 with (fail)
            have B25 := blk_set (n := 0) (v := .int .i64 (N : Int)) H25.out
            (refine wp_at (fun v6 => (∀ b, b ≠ b25 → v6.heap[b]? = v5.heap[b]?) ∧ v6.heap.size = v5.heap.size ∧ Blk v6 b25 3 #[.int .i64 (N : Int)] ∧ Fr (fun b => b = b25) v5 v6) ⟨fun b hb => heap_set_ne _ _ _ _ _ hb, World.size_setCell .., B25, (Fr.refl _ _).set _ rfl⟩ ?_)
            clear B25
            rintro v6 ⟨hk6, hs6, B25, hF6⟩
            have keepT : ∀ b ty cs, Blk v5 b ty cs → ty ≠ 3 → v6.heap[b]? = v5.heap[b]? := fun b ty cs hB n1 => hk6 b (blk_types hB H25.out n1)
            have hM6 : MapS v6 g t' := maps_keep2 HM5.out fun b ty cs hB hty => keepT b ty cs hB (by rcases hty with rfl | rfl <;> decide)
            have J7 : Blk v6 b7 50 #[ptr g] := (keepT _ _ _ J7'.out (by decide)).trans J7'.out
            have J6 : Blk v6 (w.heap.size + 1 + 1) 4 #[.bool false] := (keepT _ _ _ J6'.out (by decide)).trans J6'.out
            have J14 : Blk v6 b14 3 #[.int .i64 (N : Int)] := (hk6 _ (by omega)).trans J14'.out
            have z1 : v6.heap[D1]? = some (.deferred (some [])) := (hk6 _ (by omega)).trans HE1.out
            have z2 : v6.heap[D2]? = some (.deferred (some [])) := (hk6 _ (by omega)).trans HE2.out
            have z3 : v6.heap[D3]? = some (.deferred (some [])) := (hk6 _ (by omega)).trans HE3.out
            have HB6 := Lib.hid (show Below w.heap.size w v6 from HBV5.out.trans (hF6.below (fun b hh => by omega) HBV5.out.size))
            have d7 := J7.cell 0
            have l7 := J7.lt
            have d14 := J14.cell 0
            have l14' := J14.lt
            have d25 := B25.cell 0
            have l25 := B25.lt
            simp only [List.getElem?_toArray, List.getElem?_cons_zero] at d7 d14 d25
            have HZ1 := Lib.hid z1
            have HZ2 := Lib.hid z2
            have HZ3 := Lib.hid z3
            have HJ6 := Lib.hid J6
            have HM6 := Lib.hid hM6
            have HS6 := Lib.hid hs6
            have H14' := Lib.hid J14
            have H25' := Lib.hid B25
            clear hk6 B25 hF6 keepT hM6 J7 J6 J14 z1 z2 z3 hs6 H25
            have hNN : ((N : Int) == (N : Int)) = true := by simp
            refine wp_only ?_
            (refine region_keep (fun _ => True) 7 [(0, true), (1, true), (2, false), (3, true), (4, true), (5, true), (6, true)] (by kernel_rfl) (fun _ _ d _ _ h => by cases d <;> exact h) (by kernel_rfl) ?_; simp only [withOps, List.getElem?_toArray, List.getElem?_cons_zero, List.getElem?_cons_succ, List.drop_succ_cons, List.drop_zero])
            (iterate 2 (refine keep_quiet (v := ?_) rfl ?_ ?_; rotate_left; (focus (intro w' hw'; go_simp; (try with_reducible rfl); done)); try simp only [Act.put, List.setIfInBounds_toArray, List.set_cons_zero, List.set_cons_succ]))
            (with_reducible refine plan_loud (fun K hK => ?_))
            go_simp
            refine (Len_any (HM6.out.below (show Below v6.heap.size v6 v6.drew from (Below.refl _ _).drew))).mono ?_
            rw [HNM.out]
            rintro en w_ ⟨rfl, hw_⟩
            obtain rfl : v6.drew = w_ := hw_.symm
            refine hK _ _ (Keep.refl _ _) ?_
            clear hK K
            (try simp only [Act.put, List.setIfInBounds_toArray, List.set_cons_zero, List.set_cons_succ])
            have hNN : ((N : Int) == (N : Int)) = true := by simp
            (iterate 4 (refine keep_quiet (v := ?_) rfl ?_ ?_; rotate_left; (focus (intro w' hw'; go_simp; (try with_reducible rfl); done)); try simp only [Act.put, List.setIfInBounds_toArray, List.set_cons_zero, List.set_cons_succ]))
            (with_reducible refine plan_end ?_)
            (try simp only [Act.put, List.setIfInBounds_toArray, List.set_cons_zero, List.set_cons_succ])
            go_wp2_with fail
            refine (Wx.works_any _).mono ?_
            rintro en v7 ⟨rfl, hb7⟩
            have J6 := Blk.below (w := v6.drew) HJ6.out hb7
            have c6 := J6.cell 0
            have f6 := J6.free 0
            have l6 := J6.lt
            have z1 : v7.heap[D1]? = some (.deferred (some [])) := (hb7.block _ (show D1 < v6.heap.size by have := HS6.out; omega)).trans HZ1.out
            have z2 : v7.heap[D2]? = some (.deferred (some [])) := (hb7.block _ (show D2 < v6.heap.size by have := HS6.out; omega)).trans HZ2.out
            have z3 : v7.heap[D3]? = some (.deferred (some [])) := (hb7.block _ (show D3 < v6.heap.size by have := HS6.out; omega)).trans HZ3.out
            have HY7 := Lib.hid (HB6.out.drew.trans (hb7.mono (show w.heap.size ≤ v6.heap.size from HB6.out.size)))
            have HJ7 := Lib.hid J6
            have HZ1 := Lib.hid z1
            have HZ2 := Lib.hid z2
            have HZ3 := Lib.hid z3
            clear hb7 z1 z2 z3 d7 d14 d25 l7 l25 l14' J6
            go_wp2_with fail
            have k3 : (v7.setCell ⟨w.heap.size + 1 + 1, 0, none⟩ (.bool true)).heap[D3]? = some (.deferred (some [])) := (heap_set_ne _ _ _ _ _ (by omega)).trans HZ3.out
            have k2 : ((v7.setCell ⟨w.heap.size + 1 + 1, 0, none⟩ (.bool true)).putObj D3 (.deferred none)).heap[D2]? = some (.deferred (some [])) := (World.putObj_heap_other (by omega)).trans ((heap_set_ne _ _ _ _ _ (by omega)).trans HZ2.out)
            have k1 : (((v7.setCell ⟨w.heap.size + 1 + 1, 0, none⟩ (.bool true)).putObj D3 (.deferred none)).putObj D2 (.deferred none)).heap[D1]? = some (.deferred (some [])) := (World.putObj_heap_other (by omega)).trans ((World.putObj_heap_other (by omega)).trans ((heap_set_ne _ _ _ _ _ (by omega)).trans HZ1.out))
            refine ⟨by simp, .inl ⟨_, _, rfl, run_takeDeferred k3, ?_⟩⟩
            refine ⟨by simp, .inl ⟨_, _, rfl, run_takeDeferred k2, ?_⟩⟩
            refine ⟨by simp, .inl ⟨_, _, rfl, run_takeDeferred k1, ?_⟩⟩
            have D8 : Blk ((((v7.setCell ⟨w.heap.size + 1 + 1, 0, none⟩ (.bool true)).putObj D3 (.deferred none)).putObj D2 (.deferred none)).putObj D1 (.deferred none)) (w.heap.size + 1 + 1) 4 #[.bool true] := (World.putObj_heap_other (by omega)).trans ((World.putObj_heap_other (by omega)).trans ((World.putObj_heap_other (by omega)).trans (blk_set (n := 0) (v := .bool true) HJ7.out)))
            have hc8 := D8.cell 0
            have hfin : Fr (fun k => w.heap.size ≤ k) v7 ((((v7.setCell ⟨w.heap.size + 1 + 1, 0, none⟩ (.bool true)).putObj D3 (.deferred none)).putObj D2 (.deferred none)).putObj D1 (.deferred none)) :=
              ((((Fr.refl _ _).set _ (by omega)).trans ((OnlyB.put _ D3 _).1.mono fun q _ h => by omega)).trans ((OnlyB.put _ D2 _).1.mono fun q _ h => by omega)).trans ((OnlyB.put _ D1 _).1.mono fun q _ h => by omega)
            refine ⟨.bool true, ?_, rfl, HY7.out.trans (hfin.below (fun _ h => h) HY7.out.size)⟩
            simp [results, Try.f4, go_sem, hc8]
end Go.Proofs.Ytchmlephgkimcaa.Tx
