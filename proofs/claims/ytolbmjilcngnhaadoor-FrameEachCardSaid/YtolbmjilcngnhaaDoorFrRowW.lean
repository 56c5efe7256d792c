/- FrameRow: the walk. -/
import Derived.Test.YtolbmjilcngnhaaDoorFrRefRow
set_option linter.unusedSimpArgs false
set_option linter.unusedVariables false
namespace Go.Proofs.YtolbmjilcngnhaaDoor
open Go.RowKit Go.Kp

/-- A block whose body 'lent' laid. -/
structure LB where
  (t : UInt8) (g c : Nat) (l : List UInt8)
abbrev LB.v (x : LB) : Value := .slice (some ⟨x.g, 0, none⟩) x.l.length x.c
abbrev LB.bk (x : LB) : Bk := ⟨x.t, x.v, x.l⟩
abbrev LB.pair (x : LB) : UInt8 × List UInt8 := (x.t, x.l)
def LentB (w : World) (x : LB) : Prop := ∃ cs : Array Value, Blk w x.g 5 cs ∧ x.l.length + 2 ≤ x.c ∧ x.c ≤ maxLen ∧ cs.toList.take (x.l.length + 2) = (marked x.l).map B8
theorem LentB.heap {w w' : World} {x : LB} (h : LentB w x) (hh : w'.heap[x.g]? = w.heap[x.g]?) : LentB w' x := by
  obtain ⟨cs, h1, h2⟩ := h
  exact ⟨cs, hh.trans h1, h2⟩
theorem LentB.lt {w : World} {x : LB} (h : LentB w x) : x.g < w.heap.size := by
  obtain ⟨cs, h1, h2⟩ := h
  exact Blk.lt h1
theorem LentB.lent {w : World} {x : LB} (h : LentB w x) : Lent w x.g x.c x.l ∧ Rd w w.heap.size (some ⟨x.g, 0, none⟩) (x.l.map B8) := by
  obtain ⟨cs, h1, h2, h3, h4⟩ := h
  exact lent_use rfl h2 h3 h1 h4
theorem LentB.rd {w : World} {x : LB} (h : LentB w x) : x.bk.rd w w.heap.size := ⟨_, x.c, rfl, (fun h => by cases h), h.lent.2⟩
theorem LentB.byt {w : World} {x : LB} (h : LentB w x) : Byt w x.v x.l.length := by
  obtain ⟨cs, h1, h2, h3, h4⟩ := h
  refine .inr ⟨x.g, x.c, cs, rfl, h1, by omega, h3, fun k hk => ?_⟩
  have e : (cs.toList.take (x.l.length + 2))[k]? = ((marked x.l).map B8)[k]? := by rw [h4]
  rw [List.getElem?_take_of_lt (by omega), List.getElem?_map, marked, List.getElem?_append_left hk, List.getElem?_eq_getElem hk] at e
  exact ⟨x.l[k], by simpa using e⟩

/-- append of one block, whatever its body. -/
theorem append_blk {w : World} {ops : Array Oper} {rest : List Oper} {o : Oper} {a : Act} {Q : Exit → Act → World → Prop} (hgd : o.guard = none) (s x : Operand)
    (ho : o.op = .call { callee := .builtin .append, args := #[s, x], argTypes := #[43, 43] })
    (lo : Nat) (v : Value) (n : Nat) (xs : List Value) (hs : a.eval s = v) (hR : w.ownsRow lo 35 2 v n xs) (t : UInt8) (ba : Option Addr) (bn bc : Nat) (g : Nat) (hx : a.eval x = .slice (some ⟨g, 0, none⟩) 1 1)
    (hg : Blk w g 35 #[B8 t, .slice ba bn bc])
    (hn : n + 1 ≤ 4398046511104) (hlo : lo ≤ w.heap.size)
    (h : ∀ v' w', w'.ownsRow lo 35 2 v' (n + 1) (xs ++ [B8 t, .slice ba bn bc]) → w.grownBy w' v.ownBlock → (v'.ownBlock = v.ownBlock ∨ v'.ownBlock = some w.heap.size) → wpList Tryd.prog ops Q rest (a.put o.dst v') w') :
    wpList Tryd.prog ops Q (o :: rest) a w := by
  obtain ⟨i0, hi, hz0, hz1, hz2⟩ := info_parts info35
  refine wpList_append_own_at w hgd s x 43 ho lo 35 i0 _ 2 32 Tryd.underlying43 hi hz0 hz1 hz2 rfl (by omega) v n _ hs hR ⟨g, 0, none⟩ 1 1 [B8 t, .slice ba bn bc] hx rfl ?_ ?_ (by unfold maxLen; omega) (by omega) hlo fun v' w' h1 h2 _ h4 => h v' w' h1 h2 h4
  · intro j u hu
    rw [Go.WideShapes.add_plain, Nat.zero_add, hg.cell]
    simpa using hu
  · intro u hu
    simp only [List.mem_cons, List.not_mem_nil, or_false] at hu
    rcases hu with rfl | rfl <;> rfl

theorem numB_small (n : Nat) (h : n ≤ 200000) : (Frm.numB n).length ≤ 3 := Frm.numF_len_le 10 n 3 (by omega) (by omega)

/-- What the first loop has laid. -/
structure Laid (lo : Nat) (bs : List Bk) (k : Nat) (v : Value) (ls : List LB) (wr : World) : Prop where
  len : ls.length = k
  same : ls.map LB.pair = (bs.take k).map Bk.pair
  row : wr.ownsRow lo 35 2 v k ((ls.map LB.bk).flatMap Bk.cells)
  each : ∀ x ∈ ls, LentB wr x ∧ lo ≤ x.g ∧ v.ownBlock ≠ some x.g
  apart : ls.Pairwise fun x y => x.g < y.g
theorem Laid.keep {lo : Nat} {bs : List Bk} {k : Nat} {v : Value} {ls : List LB} {w w' : World} (h : Laid lo bs k v ls w) (hk : ∀ b, lo ≤ b → b < w.heap.size → w'.heap[b]? = w.heap[b]?) : Laid lo bs k v ls w' :=
  ⟨h.len, h.same, owns_keep h.row hk, fun x hx => ⟨(h.each x hx).1.heap (hk x.g (h.each x hx).2.1 (h.each x hx).1.lt), (h.each x hx).2⟩, h.apart⟩
theorem Laid.nil (lo : Nat) (bs : List Bk) (w : World) : Laid lo bs 0 (.slice none 0 0) [] w := ⟨rfl, rfl, World.ownsRow_nil _ _ _ _, (fun x hx => by cases hx), List.Pairwise.nil⟩
theorem Laid.snoc {lo : Nat} {bs : List Bk} {k : Nat} {v v' : Value} {ls : List LB} {w w' : World} (h : Laid lo bs k v ls w) (x : LB) (b : Bk) (hb : bs[k]? = some b) (hx : x.pair = b.pair) (hl : LentB w x) (hlo : lo ≤ x.g) (hne : v.ownBlock ≠ some x.g)
    (hap : ∀ y ∈ ls, y.g < x.g) (hrow : w'.ownsRow lo 35 2 v' (k + 1) ((ls.map LB.bk).flatMap Bk.cells ++ x.bk.cells)) (hg : w.grownBy w' v.ownBlock) (hv : v'.ownBlock = v.ownBlock ∨ v'.ownBlock = some w.heap.size) : Laid lo bs (k + 1) v' (ls ++ [x]) w' := by
  have key : ∀ y : LB, LentB w y → v.ownBlock ≠ some y.g → LentB w' y ∧ v'.ownBlock ≠ some y.g := fun y h1 h2 => by
    refine ⟨h1.heap (hg.block y.g h1.lt (fun e => h2 e.symm)), ?_⟩
    rcases hv with e | e
    · rw [e]; exact h2
    · rw [e]
      have := h1.lt
      intro e'
      have := Option.some.inj e'
      omega
  refine ⟨by rw [List.length_append, h.len]; rfl, ?_, ?_, fun y hy => ?_, ?_⟩
  · rw [List.map_append, h.same, take_snoc_map Bk.pair bs k b hb, ← hx]; rfl
  · rw [List.map_append, List.flatMap_append]
    simpa using hrow
  · rcases List.mem_append.1 hy with hy | hy
    · obtain ⟨h1, h2, h3⟩ := h.each y hy
      exact ⟨(key y h1 h3).1, h2, (key y h1 h3).2⟩
    · obtain rfl := List.mem_singleton.1 hy
      exact ⟨(key _ hl hne).1, hlo, (key _ hl hne).2⟩
  · rw [List.pairwise_append]
    refine ⟨h.apart, by simp, fun y hy z hz => ?_⟩
    obtain rfl := List.mem_singleton.1 hz
    exact hap y hy

set_option maxRecDepth 100000 in
set_option maxHeartbeats 8000000 in
theorem rows (a : Option Addr) (n c : Nat) (bs : List Bk) (w : World) (hT : Tab w) (hl : bs.length = n) (hn : n ≤ 4398046511104) (hr : Rd w w.heap.size a (bs.flatMap Bk.cells)) (hb : ∀ x ∈ bs, x.rd w w.heap.size ∧ x.l.length ≤ 140737488351232) :
    Calls Tryd.prog 8 #[.slice a n c] w (Ret (.bool true) w) := by
  have HT := Lib.hid hT
  have HL := Lib.hid hl
  have HR := Lib.hid hr
  have HB := Lib.hid hb
  clear hT hl hr hb
  go_enter Tryd.func8, Tryd.ntmps8
  go_wp2_with fail
  go_loopw [3, 4, 5] (fun s v i wr => ∃ (k sm : Nat) (ls : List LB), k ≤ n ∧ i = .int .i64 k ∧ s = .int .i64 sm ∧ sm ≤ 200000 ∧ k * 10 ≤ sm ∧ szTo bs k ≤ sm ∧ (∀ x ∈ ls, x.l.length ≤ 200000) ∧ Laid w.heap.size bs k v ls wr ∧ Below w.heap.size w wr) (fun _ _ i _ => n - (intOf i).toNat)
  case atStart => exact ⟨0, 0, [], Nat.zero_le _, rfl, rfl, by omega, by omega, by simp [szTo, Frm.rowB], (fun x hx => by cases hx), Laid.nil _ _ _, by go_grown⟩
  case round =>
    obtain ⟨k, sm, ls, hk, rfl, rfl, hsm, hks, hsz, hll, hLd, hB⟩ := hrel
    have HSZ := Lib.hid hsz
    have HLL := Lib.hid hll
    have HLd := Lib.hid hLd
    have sB := hB.size
    clear hsz hll hLd
    rcases Nat.lt_or_ge k n with hlt | hge
    · obtain ⟨x, hx⟩ : ∃ x, bs[k]? = some x := ⟨_, List.getElem?_eq_getElem (by rw [HL.out]; exact hlt)⟩
      have HX := Lib.hid hx
      have HXS := Lib.hid (szTo_succ bs k x hx)
      obtain ⟨b, off, rfl⟩ := rd_some Bk.cells 2 Bk.len (by omega) HR.out (k := k) (by rw [HL.out]; exact hlt)
      obtain ⟨⟨xa, xc, hxv, hxn, hxr⟩, hxl⟩ := HB.out x (List.mem_of_getElem? hx)
      have HXN := Lib.hid hxn
      have HXR := Lib.hid hxr
      have g0 := rd_flat Bk.cells 2 Bk.len HR.out hx (j := 0) rfl
      have g1 := rd_flat Bk.cells 2 Bk.len HR.out hx (j := 1) rfl
      have e0 : wr.cell? ⟨b, off + k * 2, none⟩ = some (B8 x.t) := (hB.cell (p := ⟨b, _, none⟩) g0.2).trans g0.1
      have e1 : wr.cell? ⟨b, off + k * 2 + 1, none⟩ = some (.slice xa x.l.length xc) := by rw [← hxv]; exact (hB.cell (p := ⟨b, _, none⟩) g1.2).trans g1.1
      have lb : b < wr.heap.size := Nat.lt_of_lt_of_le g0.2 sB
      clear hx g0 g1 hxv hxn hxr
      generalize hxn : x.l.length = xn at *
      have HXL := Lib.hid hxn
      clear hxn
      rcases Nat.lt_or_ge 200000 (sm + xn + 10) with hov | hov
      · have hov' : (200000 : Int) < sm + xn + 10 := by omega
        go_wp2_with fail
        refine (known_any _ (HT.out.below hB HT.out.1)).mono ?_
        rintro en w1 ⟨rfl, hb1⟩
        have hB1 := bnext hB hb1
        go_wp2_with fail
        go_returns
        exact ⟨rfl, hB1⟩
      · have hov' : ¬ (200000 : Int) < sm + xn + 10 := by omega
        go_wp2_with fail
        have HOV := Lib.hid hov
        have HXLL := Lib.hid hxl
        have HSM := Lib.hid hsm
        have HN2 := Lib.hid hn
        clear hov hxl hsm hov' hn
        (refine region_keep (fun x => x < wr.heap.size) 14 [(0, true), (1, true), (2, true), (3, true), (4, true), (5, true), (6, true), (7, true), (8, true), (9, true), (10, true), (11, false), (12, true), (13, false)] (by kernel_rfl) (fun _ _ d _ _ h => by cases d <;> exact h) (by kernel_rfl) ?_; simp only [withOps, List.getElem?_toArray, List.getElem?_cons_zero, List.getElem?_cons_succ, List.drop_succ_cons, List.drop_zero])
        (iterate 11 (refine keep_quiet (v := ?_) rfl ?_ ?_; rotate_left; (focus (intro w' hw'; go_simp; (try with_reducible rfl); done)); try simp only [Act.put, List.setIfInBounds_toArray, List.set_cons_zero, List.set_cons_succ]))
        (with_reducible refine plan_loud (fun K hK => ?_))
        go_simp
        refine (lent_any xa xn xc x.l _ HXL.out (by have := HOV.out; omega) HXN.out ((HXR.out.below (hB.trans (show Below w.heap.size wr wr.drew by go_grown))).more sB)).mono ?_
        rintro en w1 ⟨g, cm, cs, rfl, hcm1, hcm2, hg, Am, hcs1, hcs2, hb1⟩
        have hb1' : Below wr.heap.size wr w1 := (show Below wr.heap.size wr wr.drew by go_grown).trans hb1
        have hB1 : Below w.heap.size w w1 := hB.trans (hb1'.mono sB)
        refine hK _ _ (fun y hy => hb1.block y hy) ?_
        clear hK K
        (try simp only [Act.put, List.setIfInBounds_toArray, List.set_cons_zero, List.set_cons_succ])
        (iterate 1 (refine keep_quiet (v := ?_) rfl ?_ ?_; rotate_left; (focus (intro w' hw'; go_simp; (try with_reducible rfl); done)); try simp only [Act.put, List.setIfInBounds_toArray, List.set_cons_zero, List.set_cons_succ]))
        (with_reducible refine plan_loud (fun K hK => ?_))
        go_simp
        refine hK _ _ ?_ ?_
        · exact (Keep.refl _ _).alloc (fun y hy => Nat.lt_of_lt_of_le hy hb1'.size) _
        clear hK K
        (with_reducible refine plan_end ?_)
        (try simp only [Act.put, List.setIfInBounds_toArray, List.set_cons_zero, List.set_cons_succ])
        have hov := HOV.out
        have hxl := HXLL.out
        have hsm := HSM.out
        have hn := HN2.out
        have HLd1 := Lib.hid (HLd.out.keep fun y _ hy => hb1'.block y hy)
        have HLB := Lib.hid (show LentB w1 ⟨x.t, g, cm, x.l⟩ from ⟨cs, Am, by rw [HXL.out]; exact hcm1, hcm2, by rw [HXL.out]; exact hcs2⟩)
        have hgl : wr.heap.size ≤ g := hg
        have s1 := hb1'.size
        have lg := Am.lt
        clear hb1 Am hcs1 hcs2 hg e0 e1
        (with_reducible refine append_blk ?_ (.tmp 33) (.tmp 46) ?_ w.heap.size u4 k ((ls.map LB.bk).flatMap Bk.cells) ?_ ?_ x.t (some ⟨g, 0, none⟩) xn cm w1.heap.size ?_ ?_ ?_ ?_ ?_)
        · rfl
        · rfl
        · rfl
        · exact HLd1.out.row.alloc _
        · rfl
        · exact heap_at rfl
        · omega
        · simp; omega
        intro v2 w2 ho2 hg2 hv2
        have hB2 : Below w.heap.size w w2 := (bnext hB1 (show Below w1.heap.size w1 (w1.alloc (.cells #[B8 x.t, .slice (some ⟨g, 0, none⟩) xn cm] 35)) by go_grown)).grown hg2 (by simp; omega) (fun kk hkk => (HLd1.out.row.lt kk hkk).1)
        have HLd2 := Lib.hid (Laid.snoc (HLd1.out.keep (w' := w1.alloc (.cells #[B8 x.t, .slice (some ⟨g, 0, none⟩) xn cm] 35)) fun y _ hy => heap_old hy) ⟨x.t, g, cm, x.l⟩ x HX.out rfl (HLB.out.heap (heap_old HLB.out.lt)) (Nat.le_trans sB hgl)
          (fun e => by have := (HLd.out.row.lt g e).2; omega) (fun y hy => Nat.lt_of_lt_of_le (HLd.out.each y hy).1.lt hgl) (by have h := ho2; rw [← HXL.out] at h; exact h) hg2 hv2)
        have HLL2 := Lib.hid (show ∀ y ∈ ls ++ [(⟨x.t, g, cm, x.l⟩ : LB)], y.l.length ≤ 200000 from fun y hy => by
          rcases List.mem_append.1 hy with hy | hy
          · exact HLL.out y hy
          · obtain rfl := List.mem_singleton.1 hy
            show x.l.length ≤ _
            rw [HXL.out]; omega)
        have hszn : szTo bs (k + 1) ≤ sm + xn + 10 := by
          have h1 := HXS.out
          have h2 := numB_small xn (by omega)
          have h3 := HSZ.out
          omega
        have HSZN := Lib.hid hszn
        clear ho2 hg2 hv2 HLd1 hszn
        go_wp2_with fail
        go_roundw
        case rel => exact ⟨k + 1, sm + xn + 10, _, by omega, by go_num, by go_num, hov, by omega, HSZN.out, HLL2.out, HLd2.out, hB2⟩
        case measure => simp [intOf]; omega
    · obtain rfl : k = n := by omega
      clear hge hk
      have HTK := Lib.hid (show bs.take k = bs from List.take_of_length_le (by rw [HL.out]; exact Nat.le_refl _))
      have HSM := Lib.hid hsm
      have HPS := Lib.hid (show ls.map LB.pair = bs.map Bk.pair by rw [HLd.out.same, HTK.out])
      have hk20 : k ≤ 20000 := by omega
      clear hsm hks hn
      go_upto_region 10 with (fail)
      apply wp_region_lit
      iterate 3 (go_step; go_step; rename_i KK hKK; (with_reducible refine hKK _ _ ?_); clear hKK KK)
      (with_reducible refine append_blk ?_ (.tmp 48) (.tmp 50) ?_ w.heap.size u4 k ((ls.map LB.bk).flatMap Bk.cells) ?_ ?_ 99 none 0 0 wr.heap.size ?_ ?_ ?_ ?_ ?_)
      · rfl
      · rfl
      · rfl
      · exact HLd.out.row.alloc _
      · rfl
      · exact heap_at rfl
      · omega
      · simp; omega
      intro v2 w2 ho2 hg2 hv2
      have hB2 : Below w.heap.size w w2 := (bnext hB (show Below wr.heap.size wr (wr.alloc (.cells #[B8 99, .slice none 0 0] 35)) by go_grown)).grown hg2 (by simp; omega) (fun kk hkk => (HLd.out.row.lt kk hkk).1)
      have s2 := hg2.size
      rw [World.size_alloc] at s2
      obtain ⟨gl, cl, csl, rfl, hgl, hgl2, Al, hcl1, hcl2, _, hcl⟩ := own_row ho2 (by omega)
      have HEach := Lib.hid (show ∀ x ∈ ls, LentB w2 x ∧ w.heap.size ≤ x.g ∧ x.g ≠ gl from fun x hx => by
        obtain ⟨h1, h2, h3⟩ := HLd.out.each x hx
        have h4 := h1.lt
        refine ⟨h1.heap ((hg2.block x.g (by rw [World.size_alloc]; omega) (fun e => h3 e.symm)).trans (heap_old h4)), h2, fun e => ?_⟩
        rcases hv2 with h5 | h5
        · exact h3 (by rw [← h5, e]; rfl)
        · have h6 : gl = _ := Option.some.inj h5
          rw [World.size_alloc] at h6
          omega)
      have HCL := Lib.hid hcl
      have HAp := Lib.hid HLd.out.apart
      have HLen := Lib.hid HLd.out.len
      have hlc : ((ls.map LB.bk).flatMap Bk.cells).length = k * 2 := by rw [flat_length Bk.cells 2 Bk.len, List.length_map, HLen.out]
      have HC99 := Lib.hid (show csl[k * 2]? = some (B8 99) from hcl _ _ (by rw [List.getElem?_append_right (by rw [hlc]; exact Nat.le_refl _), hlc, Nat.sub_self]; rfl))
      have HRl := Lib.hid (show Rd w2 w2.heap.size (some ⟨gl, 0, none⟩) ((ls.map LB.bk).flatMap Bk.cells) from .inr ⟨gl, 0, rfl, hgl2, fun j u hu => by
        rw [Nat.zero_add, Al.cell]
        exact hcl j u (by rw [List.getElem?_append_left (List.getElem?_eq_some_iff.1 hu).1]; exact hu)⟩)
      have HSl := Lib.hid (show szTo (ls.map LB.bk) k = szTo bs k by
        unfold szTo
        rw [List.map_take, List.map_map, List.map_take, ← HPS.out]; rfl)
      have HSl2 := Lib.hid (show Frm.rowB ((ls.map LB.bk).map Bk.pair) = Frm.rowB (bs.map Bk.pair) by rw [List.map_map, ← HPS.out]; rfl)
      have hkc : k < cl := by omega
      have hmx : maxLen = 9223372036854775807 := rfl
      rw [hmx] at hcl2
      have hB2s := hB2.size
      clear ho2 hg2 hv2 hcl hlc HLd hB hmx
      go_wp2_with fail
      have hrB : ∀ x ∈ bs, x.rd w w.heap.size := fun x hx => (HB.out x hx).1
      refine (refRow_any a k c bs _ HL.out ((HR.out.below hB2).more hB2s) (fun x hx => by
        obtain ⟨xa, xc, h1, h2, h3⟩ := hrB x hx
        exact ⟨xa, xc, h1, h2, (h3.below hB2).more hB2s⟩) (by have := HSZ.out; have := HSM.out; omega) (by omega)).mono ?_
      rintro en w3 ⟨v3, rfl, ho3, hb3⟩
      have hB3 := bnext hB2 hb3
      have s23 := hb3.size
      have HEach := Lib.hid (show ∀ x ∈ ls, LentB w3 x ∧ w.heap.size ≤ x.g ∧ x.g ≠ gl ∧ x.g < w2.heap.size from fun x hx => ⟨(HEach.out x hx).1.heap (hb3.block _ (HEach.out x hx).1.lt), (HEach.out x hx).2.1, (HEach.out x hx).2.2, (HEach.out x hx).1.lt⟩)
      have Al := Al.below hb3
      have HFLB := Lib.hid (show szTo bs k ≤ 200000 by have := HSZ.out; have := HSM.out; omega)
      have hfl2 : (Frm.rowB (bs.map Bk.pair)).length = szTo bs k := by
        unfold szTo
        rw [HTK.out]
      have HFL := Lib.hid hfl2
      generalize hfl : szTo bs k = fl at *
      have HFLE := Lib.hid hfl
      have HL3 := Lib.hid (fun g hg => ho3.lt g hg)
      have HW3 := Lib.hid ho3
      have HRl3 := Lib.hid ((HRl.out.below hb3).more s23)
      obtain ⟨aW, cW, rfl, _⟩ := own_slice ho3
      clear ho3 hb3 hfl2 hfl HRl
      go_wp2_with fail
      refine (Row_ok (some ⟨gl, 0, none⟩) k cl (ls.map LB.bk) _ (HT.out.below hB3 HT.out.1) (by rw [List.length_map, HLen.out]) HRl3.out (fun x hx => by
        obtain ⟨y, hy, rfl⟩ := List.mem_map.1 hx
        exact (HEach.out y hy).1.rd) (by rw [HSl.out]; have := HFLB.out; omega) (by omega)).mono ?_
      rintro en w4 ⟨v4, rfl, ho4, hb4⟩
      rw [HSl.out, HSl2.out] at ho4
      have hB4 := bnext hB3 hb4
      have s34 := hb4.size
      have HEach := Lib.hid (show ∀ x ∈ ls, LentB w4 x ∧ w.heap.size ≤ x.g ∧ x.g ≠ gl ∧ x.g < w2.heap.size from fun x hx => ⟨(HEach.out x hx).1.heap (hb4.block _ (HEach.out x hx).1.lt), (HEach.out x hx).2⟩)
      have Al := Al.below hb4
      have HW3 := Lib.hid (owns_keep HW3.out (fun g _ hg => hb4.block g hg))
      have HW4 := Lib.hid ho4
      have HL4 := Lib.hid (fun g hg => ho4.lt g hg)
      have HRl4 := Lib.hid ((HRl3.out.below hb4).more s34)
      obtain ⟨aA, cA, rfl, _⟩ := own_slice ho4
      clear ho4 hb4 HRl3
      go_wp2_with fail
      refine (Row_ok (some ⟨gl, 0, none⟩) k cl (ls.map LB.bk) _ (HT.out.below hB4 HT.out.1) (by rw [List.length_map, HLen.out]) HRl4.out (fun x hx => by
        obtain ⟨y, hy, rfl⟩ := List.mem_map.1 hx
        exact (HEach.out y hy).1.rd) (by rw [HSl.out]; have := HFLB.out; omega) (by omega)).mono ?_
      rintro en w5 ⟨v5, rfl, ho5, hb5⟩
      rw [HSl.out, HSl2.out] at ho5
      have hB5 := bnext hB4 hb5
      have s45 := hb5.size
      have HEach := Lib.hid (show ∀ x ∈ ls, LentB w5 x ∧ w.heap.size ≤ x.g ∧ x.g ≠ gl ∧ x.g < w2.heap.size from fun x hx => ⟨(HEach.out x hx).1.heap (hb5.block _ (HEach.out x hx).1.lt), (HEach.out x hx).2⟩)
      have Al := Al.below hb5
      have HW3 := Lib.hid (owns_keep HW3.out (fun g _ hg => hb5.block g hg))
      have HW4 := Lib.hid (owns_keep HW4.out (fun g _ hg => hb5.block g hg))
      have HW5 := Lib.hid ho5
      have HRl5 := Lib.hid ((HRl4.out.below hb5).more s45)
      obtain ⟨aB, cB, hvB, hcB1, hcB2, hcB3⟩ := own_slice ho5
      subst hvB
      have HCB2 := Lib.hid hcB2
      have HCB3 := Lib.hid hcB3
      have p3 := own_rd HW3.out
      have p4 := own_rd HW4.out
      obtain ⟨_, _, e3, p31, _, _, _, p32⟩ := p3
      cases e3
      obtain ⟨_, _, e4, p41, _, _, _, p42⟩ := p4
      cases e4
      have r1 := conv_rd aW fl cW _ p31 w5 _ p32
      have r2 := conv_rd aA fl cA _ p41 w5 _ p42
      have hse : ((strOf (Frm.rowB (bs.map Bk.pair))).toList == (strOf (Frm.rowB (bs.map Bk.pair))).toList) = true := by simp
      generalize hstr : strOf (Frm.rowB (bs.map Bk.pair)) = str at *
      have HSTR := Lib.hid hstr
      have hsn : (str.toList != str.toList) = false := by simp
      clear ho5 hb5 HRl4 p31 p32 p41 p42 hcB2 hcB3 hB3 hB4 hstr
      go_wp2_with fail
      refine (SameBlocks_any (some ⟨gl, 0, none⟩) a k k cl c (ls.map LB.bk) bs _ (by rw [List.length_map, HLen.out]) HL.out (by omega) (by omega) HRl5.out ((HR.out.below hB5).more hB5.size) (fun x hx => by
        obtain ⟨y, hy, rfl⟩ := List.mem_map.1 hx
        exact (HEach.out y hy).1.rd) (fun x hx => by
        obtain ⟨xa, xc, h1, h2, h3⟩ := hrB x hx
        exact ⟨xa, xc, h1, h2, (h3.below hB5).more hB5.size⟩)).mono ?_
      rintro en w6 ⟨rfl, hb6⟩
      rw [show decide ((ls.map LB.bk).map Bk.pair = bs.map Bk.pair) = true by rw [decide_eq_true_eq, List.map_map, ← HPS.out]; rfl]
      have hB6 := bnext hB5 hb6
      have s56 := hb6.size
      have HEach := Lib.hid (show ∀ x ∈ ls, LentB w6 x ∧ w.heap.size ≤ x.g ∧ x.g ≠ gl ∧ x.g < w2.heap.size from fun x hx => ⟨(HEach.out x hx).1.heap (hb6.block _ (HEach.out x hx).1.lt), (HEach.out x hx).2⟩)
      have Al := Al.below hb6
      have HW3 := Lib.hid (owns_keep HW3.out (fun g _ hg => hb6.block g hg))
      have HW4 := Lib.hid (owns_keep HW4.out (fun g _ hg => hb6.block g hg))
      have HW5 := Lib.hid (owns_keep HW5.out (fun g _ hg => hb6.block g hg))
      have e99 : w6.cell? ⟨gl, k * 2, none⟩ = some (B8 99) := (Al.cell _).trans HC99.out
      have t99 : ((99 : UInt8).toNat : Int) = 99 := rfl
      have hcl3 : k + 1 ≤ cl := by omega
      have hk1 : k < k + 1 := by omega
      clear hb6 r1 r2 hB5 HRl5
      go_wp2_with fail
      go_loopw [11] (fun i wi => ∃ j : Nat, j ≤ k ∧ i = .int .i64 j ∧ (∀ (m : Nat) (x : LB), j ≤ m → ls[m]? = some x → LentB wi x) ∧ (∀ b : Nat, b < w6.heap.size → (∀ x ∈ ls, x.g ≠ b) → wi.heap[b]? = w6.heap[b]?) ∧ Below w.heap.size w6 wi) (fun i _ => k - (intOf i).toNat)
      case atStart => exact ⟨0, Nat.zero_le _, rfl, fun m x _ hx => (HEach.out x (List.mem_of_getElem? hx)).1, fun _ _ _ => rfl, by go_grown⟩
      case round =>
        clear e99 t99 hse hsn
        obtain ⟨j, hj, rfl, hlj, hkp, hbj⟩ := hrel
        have HLJ := Lib.hid hlj
        have HKP := Lib.hid hkp
        have sj := hbj.size
        have Aj : Blk wr gl 35 csl := (hkp gl Al.lt (fun x hx => (HEach.out x hx).2.2.1)).trans Al
        have hBj : Below w.heap.size w wr := hB6.trans hbj
        clear hlj hkp
        rcases Nat.lt_or_ge j k with hlt | hge
        · obtain ⟨x, hx⟩ : ∃ x, ls[j]? = some x := ⟨_, List.getElem?_eq_getElem (by rw [HLen.out]; exact hlt)⟩
          obtain ⟨y, hy⟩ : ∃ y, bs[j]? = some y := ⟨_, List.getElem?_eq_getElem (by rw [HL.out]; exact hlt)⟩
          have hxy : x.l = y.l := by
            have h1 : (ls.map LB.pair)[j]? = (bs.map Bk.pair)[j]? := by rw [HPS.out]
            rw [List.getElem?_map, List.getElem?_map, hx, hy] at h1
            simp only [Option.map_some, Option.some.injEq, Prod.mk.injEq] at h1
            exact h1.2
          have hxm := List.mem_of_getElem? hx
          have hxl := HLL.out x hxm
          have hlx := HLJ.out j x (Nat.le_refl _) hx
          have HX := Lib.hid hx
          have HXM := Lib.hid hxm
          obtain ⟨b, off, rfl⟩ := rd_some Bk.cells 2 Bk.len (by omega) HR.out (k := j) (by rw [HL.out]; exact hlt)
          obtain ⟨ya, yc, hyv, hyn, hyr⟩ := hrB y (List.mem_of_getElem? hy)
          have g1 := rd_flat Bk.cells 2 Bk.len HR.out hy (j := 1) rfl
          have e1 : wr.cell? ⟨b, off + j * 2 + 1, none⟩ = some (.slice ya x.l.length yc) := by rw [hxy, ← hyv]; exact (hBj.cell (p := ⟨b, _, none⟩) g1.2).trans g1.1
          have e0 : csl[j * 2 + 1]? = some x.v := HCL.out _ _ (by
            rw [List.getElem?_append_left (by rw [flat_length Bk.cells 2 Bk.len, List.length_map, HLen.out]; omega)]
            exact (flat_get Bk.cells 2 Bk.len (ls.map LB.bk) j 1 x.bk (by rw [List.getElem?_map, hx]; rfl) (by omega)).trans rfl)
          have HE0 := Lib.hid e0
          have e2 : wr.cell? ⟨gl, j * 2 + 1, none⟩ = some (.slice (some ⟨x.g, 0, none⟩) x.l.length x.c) := (Aj.cell _).trans e0
          have hyr2 : Rd w w.heap.size ya (x.l.map B8) := by rw [hxy]; exact hyr
          have HYR := Lib.hid hyr2
          have HLX := Lib.hid hlx
          have HBY := Lib.hid hlx.byt
          have lgl := Aj.lt
          have lbr : b < wr.heap.size := Nat.lt_of_lt_of_le g1.2 hBj.size
          have hxg := HEach.out x hxm
          have HXG := Lib.hid hxg
          have HAJ := Lib.hid Aj
          clear hx hy hxy hxm g1 hyv hyn hyr hyr2 hlx e0 hxg Aj
          obtain ⟨xt, xg, xc, xl⟩ := x
          simp only at *
          generalize hxn : xl.length = xn at *
          have HXN := Lib.hid hxn
          clear hxn
          go_wp2_with fail
          (refine region_keep (fun x => x < wr.heap.size) 10 [(0, true), (1, true), (2, true), (3, true), (4, true), (5, true), (6, true), (7, true), (8, true), (9, true)] (by kernel_rfl) (fun _ _ d _ _ h => by cases d <;> exact h) (by kernel_rfl) ?_; simp only [withOps, List.getElem?_toArray, List.getElem?_cons_zero, List.getElem?_cons_succ, List.drop_succ_cons, List.drop_zero])
          (iterate 10 (refine keep_quiet (v := ?_) rfl ?_ ?_; rotate_left; (focus (intro w' hw'; go_simp; (try with_reducible rfl); done)); try simp only [Act.put, List.setIfInBounds_toArray, List.set_cons_zero, List.set_cons_succ]))
          (with_reducible refine plan_end ?_)
          (try simp only [Act.put, List.setIfInBounds_toArray, List.set_cons_zero, List.set_cons_succ])
          go_wp2_with fail
          have HLX1 := Lib.hid (show LentB wr.drew ⟨xt, xg, xc, xl⟩ from HLX.out)
          refine (kept_any xg xc ya xn yc xl _ (by have h := HLX1.out.lent.1; exact h) HXN.out (by omega) ((HYR.out.below (hBj.trans (show Below w.heap.size wr wr.drew by go_grown))).more hBj.size)).mono ?_
          rintro en w7 ⟨rfl, hb7⟩
          have hb7' : Below wr.heap.size wr w7 := (show Below wr.heap.size wr wr.drew by go_grown).trans hb7
          have A7 := HAJ.out.below hb7'
          have e2 : w7.cell? ⟨gl, j * 2 + 1, none⟩ = some (.slice (some ⟨xg, 0, none⟩) xn xc) := (A7.cell _).trans (by have h := HE0.out; rw [LB.v, HXN.out] at h; exact h)
          have HLX2 := Lib.hid (show LentB w7 ⟨xt, xg, xc, xl⟩ from HLX.out.heap (hb7'.block _ HLX.out.lt))
          have lgl := A7.lt
          have s7 := hb7'.size
          clear hb7 e1
          go_wp2_with fail
          refine (spoilt_b (.slice (some ⟨xg, 0, none⟩) xn xc) xn _ (by have h := HLX2.out.byt; rw [LB.v, HXN.out] at h; exact h) (by omega)).mono ?_
          rintro en w8 ⟨rfl, hS⟩
          have hB8 : Below w.heap.size w6 w8 := (hbj.trans (hb7'.mono hBj.size)).trans ⟨hS.2.2.1.os, hS.2.2.1.tape, hS.2.2.1.output, hS.2.2.1.size, fun b hb => hS.1 b (fun e => by
            have h1 : xg = b := Option.some.inj e
            have h2 : w.heap.size ≤ xg := HXG.out.2.1
            omega)⟩
          have HKP8 := Lib.hid (show ∀ b : Nat, b < w6.heap.size → (∀ x ∈ ls, x.g ≠ b) → w8.heap[b]? = w6.heap[b]? from fun b hb hx => (hS.1 b (fun e => hx _ HXM.out (Option.some.inj e))).trans ((hb7'.block b (Nat.lt_of_lt_of_le hb sj)).trans (HKP.out b hb hx)))
          have HLJ8 := Lib.hid (show ∀ (m : Nat) (x : LB), j + 1 ≤ m → ls[m]? = some x → LentB w8 x from fun m x hm hx => by
            have h1 := HLJ.out m x (by omega) hx
            have h2 := h1.heap (hb7'.block _ h1.lt)
            refine h2.heap (hS.1 x.g (fun e => ?_))
            have h3 : xg = x.g := Option.some.inj e
            obtain ⟨hm1, hm2⟩ := List.getElem?_eq_some_iff.1 hx
            obtain ⟨hj1, hj2⟩ := List.getElem?_eq_some_iff.1 HX.out
            have h4 := List.pairwise_iff_getElem.1 HAp.out j m hj1 hm1 (by omega)
            rw [hm2, hj2] at h4
            exact absurd h3 (Nat.ne_of_lt h4))
          clear hS A7 e2 hb7'
          go_wp2_with fail
          go_roundw
          case rel => exact ⟨j + 1, by omega, by go_num, HLJ8.out, HKP8.out, hB8⟩
          case measure => simp [intOf]; omega
        · obtain rfl : j = k := by omega
          have HW4 := Lib.hid (owns_keep HW4.out (fun g hg1 hg2 => HKP.out g hg2 (fun x hx e => by have := (HEach.out x hx).2.2.2; omega)))
          have HW5 := Lib.hid (owns_keep HW5.out (fun g hg1 hg2 => HKP.out g hg2 (fun x hx e => by have := (HEach.out x hx).2.2.2; omega)))
          have HW3 := Lib.hid (owns_keep HW3.out (fun g hg1 hg2 => HKP.out g hg2 (fun x hx e => by have := (HEach.out x hx).2.2.2; omega)))
          clear HLJ HKP Aj
          go_wp2_with fail
          refine (spoilt_b (.slice aA fl cA) fl _ (byt_of_own HW4.out) (by have := HFLB.out; omega)).mono ?_
          rintro en w7 ⟨rfl, hS⟩
          have hB7 : Below w.heap.size w w7 := hBj.trans ⟨hS.2.2.1.os, hS.2.2.1.tape, hS.2.2.1.output, hS.2.2.1.size, fun b hb => hS.1 b (fun e => by
            have h1 := HL4.out b e
            omega)⟩
          have HW5 := Lib.hid (own_grown HW5.out hS.2.2.1 (fun g hg e => by
            have h1 := HL4.out g hg
            have h2 := HW5.out.lt g e
            omega))
          have HW3 := Lib.hid (own_grown HW3.out hS.2.2.1 (fun g hg e => by
            have h1 := HL4.out g hg
            have h2 := HL3.out g e
            omega))
          have s7 := hS.2.1
          clear hS hbj HW4
          go_wp2_with fail
          have p5 := own_rd HW5.out
          obtain ⟨_, _, e5, p51, _, _, _, p52⟩ := p5
          cases e5
          have P51 := Lib.hid p51
          have P52 := Lib.hid p52
          clear p51 p52
          refine (All_heads aB fl cB (Frm.rowB (bs.map Bk.pair)) _ (HT.out.below hB7 HT.out.1) P51.out (by have := HFLB.out; omega) hcB1 HCB2.out HCB3.out P52.out).mono ?_
          rintro en w8 ⟨v8, c8, ps, at_, s8, rfl, hb8, hH8, hW8, hp8, hl8⟩
          have hH0 : Frm.Heads (Frm.rowB (bs.map Bk.pair)) (bs.map Bk.pair) (Frm.rowB (bs.map Bk.pair)).length 0 := ⟨(List.take_length).symm, Nat.le_refl _, .inl ⟨rfl, rfl⟩⟩
          obtain ⟨rfl, rfl, rfl⟩ := Frm.Heads.unique (by rw [HFL.out]; have := HFLB.out; omega) hH8 hH0
          rw [if_pos rfl] at hp8
          rw [HFL.out] at hl8 ⊢
          have hc8 : c8.length = j := by
            have := congrArg List.length hp8
            rw [List.length_map, List.length_map, HL.out] at this
            exact this
          have hB8 := bnext hB7 hb8
          have HW5 := Lib.hid (owns_keep HW5.out (fun g _ hg => hb8.block g hg))
          have HW3 := Lib.hid (owns_keep HW3.out (fun g _ hg => hb8.block g hg))
          have p3 := own_rd HW3.out
          have p5 := own_rd HW5.out
          obtain ⟨_, _, e3, p31, _, _, _, p32⟩ := p3
          cases e3
          obtain ⟨_, _, e5, p51, _, _, _, p52⟩ := p5
          cases e5
          have r1 := conv_rd aW fl cW _ p31 w8 _ p32
          have r2 := conv_rd aB fl cB _ p51 w8 _ p52
          rw [HSTR.out] at r1 r2
          have q8 := rws_read hW8
          obtain ⟨⟨a8, cp8, e8, r8⟩, b8⟩ := q8
          rw [hc8] at e8
          subst e8
          have HR8 := Lib.hid r8
          have HB8 := Lib.hid b8
          have HP8 := Lib.hid hp8
          have HC8 := Lib.hid hc8
          have hse : (str.toList == str.toList) = true := by simp
          clear hH8 hH0 hW8 hp8 hl8 hb8 p31 p32 p51 p52 r8 b8 hc8
          go_wp2_with fail
          refine (SameBlocks_any a8 a j j cp8 c c8 bs _ HC8.out HL.out (by omega) (by omega) HR8.out ((HR.out.below hB8).more hB8.size) HB8.out (fun x hx => by
            obtain ⟨xa, xc, h1, h2, h3⟩ := hrB x hx
            exact ⟨xa, xc, h1, h2, (h3.below hB8).more hB8.size⟩)).mono ?_
          rintro en w9 ⟨rfl, hb9⟩
          rw [show decide (c8.map Bk.pair = bs.map Bk.pair) = true by rw [decide_eq_true_eq]; exact HP8.out]
          have hB9 := bnext hB8 hb9
          clear r1 r2
          go_wp2_with fail
          refine (known_any _ (HT.out.below hB9 HT.out.1)).mono ?_
          rintro en w10 ⟨rfl, hb10⟩
          have hB10 := bnext hB9 hb10
          go_wp2_with fail
          go_returns
          exact ⟨rfl, hB10⟩
end Go.Proofs.YtolbmjilcngnhaaDoor
