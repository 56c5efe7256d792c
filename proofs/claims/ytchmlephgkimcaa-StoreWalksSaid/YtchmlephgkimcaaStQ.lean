/- Store: the law's walk: a walk tells what the document's list says. -/
import Derived.Test.YtchmlephgkimcaaStP
set_option linter.unusedSimpArgs false
set_option linter.unusedVariables false
namespace Go.Proofs.Ytchmlephgkimcaa
open Go.RowKit Go.Kp Go.St Go.Shelf
attribute [local go_sem] Oper.semAt_some

def prs (L : List (Int × Int)) : List Value := L.flatMap fun q => [.int .i64 q.1, .int .i64 q.2]
theorem prs_len : ∀ L, (prs L).length = 2 * L.length
  | [] => rfl
  | q :: L => by have := prs_len L; unfold prs at *; simp only [List.flatMap_cons, List.length_append, List.length_cons, List.length_nil]; omega
theorem prs_at : ∀ {L : List (Int × Int)} {k : Nat} {x : Int × Int}, L[k]? = some x → (prs L)[k * 2]? = some (.int .i64 x.1) ∧ (prs L)[k * 2 + 1]? = some (.int .i64 x.2)
  | q :: L, 0, x, h => by cases (show some q = some x from h); exact ⟨rfl, rfl⟩
  | q :: L, k + 1, x, h => by
    have := prs_at (L := L) (k := k) (x := x) (by simpa using h)
    rw [show (k + 1) * 2 = k * 2 + 1 + 1 by omega]
    exact this
theorem rd_prs {w : World} {B : Nat} {a : Option Addr} {l : List (Int × Int)} (h : Rd w B a (prs l)) (hl : 0 < l.length) : ∃ b off, a = some ⟨b, off, none⟩ ∧ b < B ∧ ∀ (k : Nat) x, l[k]? = some x → w.cell? ⟨b, off + k * 2, none⟩ = some (.int .i64 x.1) ∧ w.cell? ⟨b, off + k * 2 + 1, none⟩ = some (.int .i64 x.2) := by
  rcases h with h | ⟨b, off, h1, h2, h3⟩
  · have := prs_len l
    rw [h] at this
    simp at this
    omega
  · exact ⟨b, off, h1, h2, fun k x hx => ⟨h3 _ _ (prs_at hx).1, by rw [Nat.add_assoc]; exact h3 _ _ (prs_at hx).2⟩⟩
theorem wk_nil (lb : Array Value) (w : World) : (binOp .eql 37 (.func (.func 66) #[] lb) .nilFunc).run Try.prog w = .ok (.bool false) w := by kernel_rfl

theorem walk_seq {S : World → Prop} {id : Nat} {caps : Array Value} {p : Int → Bool} (n : Nat) {W0 W1 : World} (hO : OutF S id caps p) (bm bb bo g : Nat) (back : Bool) (t : Tr) (a : Option Addr) (f : Value) (hf : ∃ caps id, f = .func (.func id) #[] caps)
    (hbm : Blk W1 bm 24 #[.pointer (some ⟨g, 0, none⟩)]) (hg : Blk W1 g 75 #[f, .pointer a]) (ht : TreeAt W0 t a) (hmono : Mono p back t) (hmany : t.many ≤ 8796093022208) :
    SeqK Fence.wide n Try.prog 66 #[.pointer (some ⟨bm, 0, none⟩), .pointer (some ⟨bb, 0, none⟩), .pointer (some ⟨bo, 0, none⟩)] wkArgs (WkT (told p back t)) (fun xs => xs = told p back t) (fun _ => True) (fun _ => False) (fun _ => False) (WkK S W0 bb bo back id caps) W1 := by
  cases back
  · exact walk_seq_false n hO bm bb bo g t a f hf hbm hg ht hmono hmany
  · exact walk_seq_true n hO bm bb bo g t a f hf hbm hg ht hmono hmany
/-- What the walk's iterator leans on, where nothing that lay has turned. -/
theorem Wk.keeps {S : World → Prop} {id : Nat} {caps : Array Value} {p : Int → Bool} {back : Bool} {g bm bb bo : Nat} {w W : World} (h : Wk S id caps p back g bm bb bo w) (hS : Lasting S) (hb : Below w.heap.size w W) : WkK S w bb bo back id caps W :=
  ⟨hS _ _ h.so hb, hb.size, fun b cs hB => hb.block b hB.lt, h.bb.below hb, h.bo.below hb⟩

set_option maxRecDepth 100000 in
set_option maxHeartbeats 8000000 in
theorem lwalk_any {S : World → Prop} {id : Nat} {caps : Array Value} {p : Int → Bool} {back : Bool} {g bm bb bo : Nat} {w : World} (hW : Wk S id caps p back g bm bb bo w) (hS : Lasting S) (f : Value) (hf : ∃ caps id, f = .func (.func id) #[] caps) (t : Tr) (a : Option Addr)
    (hg : Blk w g 75 #[f, .pointer a]) (ht : TreeAt w t a) (hm : Mono p back t) (hmany : t.many ≤ 8796093022208) (av : Option Addr) (cv : Nat) (lv : Int) (L : List (Int × Int)) (hL : L = told p back t)
    (hv : Rd w w.heap.size av (prs L)) (hn : L.length ≤ 8796093022208) :
    Calls Try.prog 49 #[wkV bm bb bo, .slice av L.length cv, .int .i64 lv] w (Ret (.bool true) w) := by
  have HW := Lib.hid hW
  have HS := Lib.hid hS
  have HG := Lib.hid hg
  have HF := Lib.hid hf
  have HT := Lib.hid ht
  have HM := Lib.hid hm
  have HV := Lib.hid hv
  have HTO := Lib.hid hL
  clear hW hS hg hf ht hm hv hL
  obtain ⟨n, hnl⟩ : ∃ n, L.length = n := ⟨_, rfl⟩
  have HN := Lib.hid hnl
  rw [hnl] at hn ⊢
  clear hnl
  refine (callsIn_wide (n := 6)).1 ?_
  refine callsIn_of_wp_marks Try.func49 rfl trivial ?_ rfl
  simp only [Try.ntmps49, List.size_toArray, List.length_cons, List.length_nil, Nat.reduceAdd, Nat.reduceSub, Array.replicate_succ, Array.replicate_zero, List.push_toArray, List.append_toArray, List.nil_append, List.cons_append]
  have hfn := wk_nil #[.pointer (some ⟨bm, 0, none⟩), .pointer (some ⟨bb, 0, none⟩), .pointer (some ⟨bo, 0, none⟩)]
  gi_wp2_with fail
  obtain ⟨wL, hwL⟩ : ∃ wL, ((((w.alloc (.cells #[.slice av n cv] 27)).alloc (.cells #[.int .i64 lv] 3)).alloc (.cells #[.bool false] 4)).alloc (.cells #[.int .i64 0] 3)) = wL := ⟨_, rfl⟩
  have hzL : wL.heap.size = w.heap.size + 4 := by rw [← hwL]; simp
  have hBL : Below w.heap.size w wL := by rw [← hwL]; go_grown
  have B4 : Blk wL w.heap.size 27 #[.slice av n cv] := by rw [← hwL]; simp (disch := (first | omega | (simp only [World.size_alloc, World.size_setCell, World.size_drew] <;> omega) | fail)) only [Blk, heap_old, heap_at, heap_set_same, heap_set_ne, heap_drew', Option.map_some, putO_cells]
  have B5 : Blk wL (w.heap.size + 1) 3 #[.int .i64 lv] := by rw [← hwL]; simp (disch := (first | omega | (simp only [World.size_alloc, World.size_setCell, World.size_drew] <;> omega) | fail)) only [Blk, heap_old, heap_at, heap_set_same, heap_set_ne, heap_drew', Option.map_some, putO_cells]
  have B6 : Blk wL (w.heap.size + 1 + 1) 4 #[.bool false] := by rw [← hwL]; simp (disch := (first | omega | (simp only [World.size_alloc, World.size_setCell, World.size_drew] <;> omega) | fail)) only [Blk, heap_old, heap_at, heap_set_same, heap_set_ne, heap_drew', Option.map_some, putO_cells]
  have B7 : Blk wL (w.heap.size + 1 + 1 + 1) 3 #[.int .i64 0] := by rw [← hwL]; simp (disch := (first | omega | (simp only [World.size_alloc, World.size_setCell, World.size_drew] <;> omega) | fail)) only [Blk, heap_old, heap_at, heap_set_same, heap_set_ne, heap_drew', Option.map_some, putO_cells]
  rw [hwL]
  clear hwL
  refine wpIn_rangeFunc_K rfl (by decide) (gf := 66) (lb := #[.pointer (some ⟨bm, 0, none⟩), .pointer (some ⟨bb, 0, none⟩), .pointer (some ⟨bo, 0, none⟩)]) rfl trivial (enters_of Try.func66 (by kernel_rfl) rfl)
    (encs := wkArgs) (T := WkT L) (S := fun xs => xs = L) (Sp := fun _ => True) (Pf := fun _ => False) (Ro := fun _ => False) (K := WkK S w bb bo back id caps)
    (fun W' hW' => by
      have hb : Below w.heap.size w W' := hBL.trans (hW'.mono hBL.size)
      rw [HTO.out]
      exact walk_seq _ HW.out.out bm bb bo g back t a f HF.out (HW.out.bm.below hb) (HG.out.below hb) HT.out HM.out hmany)
    (fun _ h => h.elim) (fun _ h => h.elim) (fun _ => rfl)
    (fun pre Pv W => (∀ k, Pv k → wL.heap.size ≤ k) ∧ Fr (fun k => k = w.heap.size + 1 + 1 + 1 ∨ wL.heap.size ≤ k) wL W ∧ Blk W (w.heap.size + 1 + 1 + 1) 3 #[.int .i64 pre.length])
    (fun c pre Pv W => c = .ret ∧ (∀ k, Pv k → wL.heap.size ≤ k) ∧ Fr (fun k => k = w.heap.size + 1 + 1 ∨ k = w.heap.size + 1 + 1 + 1 ∨ wL.heap.size ≤ k) wL W ∧ Blk W (w.heap.size + 1 + 1) 4 #[.bool true])
    ?stab ?stabx ?keep ?start ?round ?done ?stop
  case keep =>
    rintro pre Pv W ⟨h1, h2, h3⟩
    exact HW.out.keeps HS.out (hBL.trans ((h2.mono fun k _ h => show w.heap.size ≤ k by omega).below (fun _ h => h) hBL.size))
  case stab =>
    rintro pre Pv Pv' W W' ⟨h1, h2, h3⟩ hf hP
    have hs := h2.size
    refine ⟨fun k hk => (hP k hk).elim (h1 k) (fun h => by omega), h2.trans (hf.mono fun k _ h => h.elim (fun h => .inr (h1 k h)) (fun h => .inr (by omega))), ?_⟩
    exact (hf.block _ h3.lt (fun h => h.elim (fun h => by have := h1 _ h; omega) (fun h => by omega))).trans h3
  case stabx =>
    rintro c pre Pv Pv' W W' ⟨rfl, h1, h2, h3⟩ hf hP
    have hs := h2.size
    refine ⟨rfl, fun k hk => (hP k hk).elim (h1 k) (fun h => by omega), h2.trans (hf.mono fun k _ h => h.elim (fun h => .inr (.inr (h1 k h))) (fun h => .inr (.inr (by omega)))), ?_⟩
    exact (hf.block _ h3.lt (fun h => h.elim (fun h => by have := h1 _ h; omega) (fun h => by omega))).trans h3
  case start => exact ⟨fun _ h => h.elim, Fr.refl _ _, B7⟩
  case round =>
    rintro rl pre x Pv W hrl hrs hp1 hp2 ⟨rr, hrec⟩ hdef ⟨hPv, hF, hN⟩ ⟨⟨R, hSR⟩, hPl⟩
    have hPl' : ∀ k, Pv k → k < W.heap.size := fun k hk => (hPl k hk).elim fun _ h => h.lt
    have HPL := Lib.hid hPl'
    have hFs := hF.size
    have HSR := Lib.hid hSR
    clear hrec hdef hPl hPl' hSR
    obtain ⟨xk, xv⟩ := x
    dsimp only [wkArgs]
    gi_wp2_with fail
    refine ⟨trivial, trivial, fun W2 hO => ?_⟩
    obtain ⟨k, hk⟩ : ∃ k, pre.length = k := ⟨_, rfl⟩
    have hx : L[k]? = some (xk, xv) := by rw [HSR.out, ← hk]; simp
    have hkn : k < n := by rw [← HN.out]; exact (List.getElem?_eq_some_iff.1 hx).1
    have old : ∀ b, b < wL.heap.size → b ≠ w.heap.size + 1 + 1 + 1 → W2.heap[b]? = wL.heap[b]? := fun b hb hne => (hO.at (by omega)).trans (hF.block b hb (fun h => h.elim hne (fun h => by omega)))
    have C4 : Blk W2 w.heap.size 27 #[.slice av n cv] := (old _ (by omega) (by omega)).trans B4
    have C5 : Blk W2 (w.heap.size + 1) 3 #[.int .i64 lv] := (old _ (by omega) (by omega)).trans B5
    have C6 : Blk W2 (w.heap.size + 1 + 1) 4 #[.bool false] := (old _ (by omega) (by omega)).trans B6
    have C7 : Blk W2 (w.heap.size + 1 + 1 + 1) 3 #[.int .i64 k] := (hO.at (by omega)).trans (by rw [← hk]; exact hN)
    have oldc : ∀ b o, b < w.heap.size → W2.cell? ⟨b, o, none⟩ = w.cell? ⟨b, o, none⟩ := fun b o hb => (World.cell?_of_block (a := ⟨b, o, none⟩) (old b (by omega) (by omega))).trans (hBL.cell (p := ⟨b, o, none⟩) hb)
    obtain ⟨vb, vo, rfl, hvb, hvc⟩ := rd_prs HV.out (by rw [HN.out]; omega)
    obtain ⟨e0', e1'⟩ := hvc _ _ hx
    have e0 := (oldc _ _ hvb).trans e0'
    have e1 := (oldc _ _ hvb).trans e1'
    have o2 : W2.heap.size = W.heap.size := hO.2
    have c4 := C4.cell 0
    have c5 := C5.cell 0
    have c7 := C7.cell 0
    have f7 := C7.free 0
    have c6 := C6.cell 0
    have f6 := C6.free 0
    simp only [List.getElem?_toArray, List.getElem?_cons_zero, List.getElem?_cons_succ] at c4 c5 c6 c7
    have hd : decide (n ≤ k) = false := by simp; omega
    have hk' : ¬ (n : Int) ≤ k := by omega
    have HFR := Lib.hid (show Fr (fun k => k = w.heap.size + 1 + 1 + 1 ∨ w.heap.size + 4 ≤ k) wL W2 from (hF.mono fun k _ h => by omega).trans (hO.1.mono fun k _ h => .inr (by omega)))
    have hPv' : ∀ k, Pv k → w.heap.size + 4 ≤ k := fun k h => by have := hPv k h; omega
    have HKE := Lib.hid (show Kept (fun k => Pv k ∨ False) W W2 from ⟨by omega, fun b hb => hO.at (fun e => hb.elim (fun h => hp1 (e ▸ h)) (fun h => h.elim))⟩)
    have l7 := C7.lt
    have l6 := C6.lt
    clear old oldc hvc e0' e1' hx hO hF hN
    rcases Decidable.em (lv = (k : Int) + 1) with hlv | hlv
    · subst hlv
      gi_wp2_with fail
      refine ⟨?_, ?_, rfl, hPv', ?_, ?_⟩
      · rw [heap_set_ne _ _ _ _ _ (by omega), heap_set_ne _ _ _ _ _ (by omega)]
      · rw [heap_set_ne _ _ _ _ _ (by omega), heap_set_ne _ _ _ _ _ (by omega)]
      · exact ((HFR.out.mono fun q _ h => h.elim (fun h => .inr (.inl h)) (fun h => .inr (.inr h))).set _ (.inr (.inl rfl))).set _ (.inl rfl)
      · unfold Blk at C6; simp (disch := (first | omega | (simp only [World.size_alloc, World.size_setCell, World.size_drew] <;> omega) | fail)) only [Blk, heap_old, heap_at, heap_set_same, heap_set_ne, heap_drew', Option.map_some, putO_cells, C6]; rfl
    · have hlv' : ((k : Int) + 1 == lv) = false := by simp; omega
      gi_wp2_with fail
      refine ⟨?_, ?_, ⟨?_, fun b hb => ?_⟩, hPv', HFR.out.set _ (.inl rfl), ?_⟩
      · rw [heap_set_ne _ _ _ _ _ (by omega)]
      · rw [heap_set_ne _ _ _ _ _ (by omega)]
      · rw [World.size_setCell]; exact HKE.out.1
      · rw [heap_set_ne _ _ _ _ _ (hb.elim (fun h => by have := hPv b h; omega) (fun h => h.elim))]
        exact HKE.out.2 b hb
      · rw [List.length_append, hk]
        unfold Blk at C7; simp (disch := (first | omega | (simp only [World.size_alloc, World.size_setCell, World.size_drew] <;> omega) | fail)) only [Blk, heap_old, heap_at, heap_set_same, heap_set_ne, heap_drew', Option.map_some, putO_cells, C7]; rfl
  case done =>
    rintro D xs Pv W hD rfl ⟨hPv, hF, hN⟩ hK
    have hFs := hF.size
    rw [HN.out] at hN
    have C4 : Blk W w.heap.size 27 #[.slice av n cv] := (hF.block _ (by omega) (by omega)).trans B4
    have C6 : Blk W (w.heap.size + 1 + 1) 4 #[.bool false] := (hF.block _ (by omega) (by omega)).trans B6
    have c4 := C4.cell 0
    have c6 := C6.cell 0
    have f6 := C6.free 0
    have c7 := hN.cell 0
    have l6 := C6.lt
    simp only [List.getElem?_toArray, List.getElem?_cons_zero] at c4 c6 c7
    have hnn : ((n : Int) == (n : Int)) = true := by simp
    gi_wp2_with fail
    have hK' : (W.setCell ⟨w.heap.size + 1 + 1, 0, none⟩ (.bool true)).heap[D]? = some (.deferred (some [])) := (heap_set_ne _ _ _ _ _ (by omega)).trans hK
    refine ⟨by simp, .inl ⟨_, _, rfl, run_takeDeferred hK', ?_⟩⟩
    have D8 : Blk ((W.setCell ⟨w.heap.size + 1 + 1, 0, none⟩ (.bool true)).putObj D (.deferred none)) (w.heap.size + 1 + 1) 4 #[.bool true] := (World.putObj_heap_other (by omega)).trans (by unfold Blk at C6; simp (disch := (first | omega | (simp only [World.size_alloc, World.size_setCell, World.size_drew] <;> omega) | fail)) only [Blk, heap_old, heap_at, heap_set_same, heap_set_ne, heap_drew', Option.map_some, putO_cells, C6]; rfl)
    have hc8 := D8.cell 0
    have hfin : Fr (fun k => w.heap.size ≤ k) wL ((W.setCell ⟨w.heap.size + 1 + 1, 0, none⟩ (.bool true)).putObj D (.deferred none)) :=
      ((hF.mono fun q _ h => show w.heap.size ≤ q by omega).set _ (by omega)).trans ((OnlyB.put _ D _).1.mono fun q _ h => by omega)
    refine ⟨.bool true, ?_, rfl, hBL.trans (hfin.below (fun _ h => h) (by omega))⟩
    simp [results, Try.f49, go_sem, hc8]
  case stop =>
    rintro D c pre Pv W hD _ ⟨rfl, hPv, hF, C8⟩ hK
    gi_wp2_with fail
    refine ⟨by simp, .inl ⟨_, _, rfl, run_takeDeferred hK, ?_⟩⟩
    have D8 : Blk (W.putObj D (.deferred none)) (w.heap.size + 1 + 1) 4 #[.bool true] := (World.putObj_heap_other (by omega)).trans C8
    have hc8 := D8.cell 0
    have hfin : Fr (fun k => w.heap.size ≤ k) wL (W.putObj D (.deferred none)) :=
      (hF.mono fun q _ h => show w.heap.size ≤ q by omega).trans ((OnlyB.put _ D _).1.mono fun q _ h => by omega)
    refine ⟨.bool true, ?_, rfl, hBL.trans (hfin.below (fun _ h => h) (by omega))⟩
    simp [results, Try.f49, go_sem, hc8]
end Go.Proofs.Ytchmlephgkimcaa
