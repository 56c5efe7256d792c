/- Store: maps that are none: their walks. -/
import Derived.Test.YtchmlephgkimcaaSuD
set_option linter.unusedSimpArgs false
set_option linter.unusedVariables false
namespace Go.Proofs.Ytchmlephgkimcaa
open Go.RowKit Go.Kp Go.St Go.Shelf
attribute [local go_sem] Oper.semAt_some

/-- A walk of a map that is none. -/
def Wk0 (w : World) (v : Value) : Prop := ∃ bm bb bo m, v = wkV bm bb bo ∧ Blk w bm 24 #[.pointer m] ∧ NoMap w m
theorem walk0_any (m : Option Addr) (back : Bool) (id : Nat) (caps : Array Value) (w : World) (h : NoMap w m) :
    Calls Try.prog 43 #[.pointer m, .bool back, .func (.func id) #[] caps] w fun e w' => ∃ v, e = .returned v ∧ Wk0 w' v ∧ Below w.heap.size w w' := by
  have H := Lib.hid h
  clear h
  go_enter Try.func43, Try.ntmps43
  go_wp2_with fail
  go_returns
  exact ⟨_, rfl, ⟨_, _, _, m, rfl, by simp (disch := (first | omega | (simp only [World.size_alloc, World.size_setCell, World.size_drew] <;> omega) | fail)) only [Blk, heap_old, heap_at, heap_set_same, heap_set_ne, heap_drew', Option.map_some, putO_cells], H.out.below (by go_grown)⟩, by go_grown⟩
theorem All0_any (m : Option Addr) (w : World) (h : NoMap w m) :
    Calls Try.prog 10 #[.pointer m] w fun e w' => ∃ v, e = .returned v ∧ Wk0 w' v ∧ Below w.heap.size w w' := by
  go_enter Try.func10, Try.ntmps10
  go_wp2_with fail
  refine (walk0_any m false _ _ w h).mono ?_
  rintro en w1 ⟨v, rfl, hW, hb⟩
  have HW := Lib.hid hW
  have HB := Lib.hid hb
  clear hW hb
  go_wp2_with fail
  go_returns
  exact ⟨_, rfl, HW.out, HB.out⟩
set_option maxHeartbeats 1000000 in
theorem From0_any (m : Option Addr) (key : Int) (w : World) (h : NoMap w m) :
    Calls Try.prog 11 #[.pointer m, .int .i64 key] w fun e w' => ∃ v, e = .returned v ∧ Wk0 w' v ∧ Below w.heap.size w w' := by
  go_enter Try.func11, Try.ntmps11
  go_upto_region 1 with (fail)
  refine wp_at (fun Z => Blk Z w.heap.size 24 #[.pointer m] ∧ Blk Z (w.heap.size + 1) 3 #[.int .i64 key] ∧ Below w.heap.size w Z) ⟨by simp (disch := (first | omega | (simp only [World.size_alloc, World.size_setCell, World.size_drew] <;> omega) | fail)) only [Blk, heap_old, heap_at, heap_set_same, heap_set_ne, heap_drew', Option.map_some, putO_cells], by simp (disch := (first | omega | (simp only [World.size_alloc, World.size_setCell, World.size_drew] <;> omega) | fail)) only [Blk, heap_old, heap_at, heap_set_same, heap_set_ne, heap_drew', Option.map_some, putO_cells], by go_grown⟩ ?_
  rintro w2 ⟨A, B, hb⟩
  have HB2 := Lib.hid hb
  have cA := A.cell
  have qA := A.lt
  clear A B hb
  go_wp2_with fail
  refine (walk0_any m false _ _ w2 (h.below HB2.out)).mono ?_
  rintro en w1 ⟨v, rfl, hW, hb⟩
  have HW := Lib.hid hW
  have HB := Lib.hid (bnext HB2.out hb)
  clear hW hb
  go_wp2_with fail
  go_returns
  exact ⟨_, rfl, HW.out, HB.out⟩
set_option maxHeartbeats 1000000 in
theorem Back0_any (m : Option Addr) (key : Int) (w : World) (h : NoMap w m) :
    Calls Try.prog 12 #[.pointer m, .int .i64 key] w fun e w' => ∃ v, e = .returned v ∧ Wk0 w' v ∧ Below w.heap.size w w' := by
  go_enter Try.func12, Try.ntmps12
  go_upto_region 1 with (fail)
  refine wp_at (fun Z => Blk Z w.heap.size 24 #[.pointer m] ∧ Blk Z (w.heap.size + 1) 3 #[.int .i64 key] ∧ Below w.heap.size w Z) ⟨by simp (disch := (first | omega | (simp only [World.size_alloc, World.size_setCell, World.size_drew] <;> omega) | fail)) only [Blk, heap_old, heap_at, heap_set_same, heap_set_ne, heap_drew', Option.map_some, putO_cells], by simp (disch := (first | omega | (simp only [World.size_alloc, World.size_setCell, World.size_drew] <;> omega) | fail)) only [Blk, heap_old, heap_at, heap_set_same, heap_set_ne, heap_drew', Option.map_some, putO_cells], by go_grown⟩ ?_
  rintro w2 ⟨A, B, hb⟩
  have HB2 := Lib.hid hb
  have cA := A.cell
  have qA := A.lt
  clear A B hb
  go_wp2_with fail
  refine (walk0_any m true _ _ w2 (h.below HB2.out)).mono ?_
  rintro en w1 ⟨v, rfl, hW, hb⟩
  have HW := Lib.hid hW
  have HB := Lib.hid (bnext HB2.out hb)
  clear hW hb
  go_wp2_with fail
  go_returns
  exact ⟨_, rfl, HW.out, HB.out⟩

set_option maxHeartbeats 1000000 in
theorem walk0_seq (n : Nat) {W1 : World} (bm bb bo : Nat) (m : Option Addr) (hbm : Blk W1 bm 24 #[.pointer m]) (h : NoMap W1 m) (Ro : Nat → Prop) :
    SeqM Fence.wide n Try.prog 66 #[.pointer (some ⟨bm, 0, none⟩), .pointer (some ⟨bb, 0, none⟩), .pointer (some ⟨bo, 0, none⟩)] wkArgs (fun _ _ _ _ => False) (fun xs => xs = []) (fun _ => False) (fun _ => False) Ro W1 := by
  intro rl J Jx hJ hJx hY hJ0
  have HJ0 := Lib.hid hJ0
  have H := Lib.hid h
  have cM := hbm.cell
  have qM := hbm.lt
  clear hY hJ hJx hJ0 h hbm
  refine callsIn_of_wp Try.func66 rfl trivial ?_ rfl
  simp only [Try.ntmps66, List.size_toArray, List.length_cons, List.length_nil, Nat.reduceAdd, Nat.reduceSub, Array.replicate_succ, Array.replicate_zero, List.push_toArray, List.append_toArray, List.nil_append, List.cons_append]
  refine (wpIn_wide (n := n)).2 ?_
  refine wp_scope_straight ?_
  refine (wpIn_wide (n := n)).1 ?_
  gi_wp2_with fail
  refine ⟨trivial, fun h => (by cases h), (callsIn_wide.2 (none0_any H.out)).mono ?_⟩
  rintro en w_ ⟨rfl, hw_⟩
  obtain rfl : W1 = w_ := hw_.symm
  gi_wp2_with fail
  exact ⟨rfl, _, results_none rfl _ _ _, ⟨_, rfl⟩, .inl ⟨[], _, rfl, HJ0.out⟩⟩

set_option maxRecDepth 100000 in
set_option maxHeartbeats 8000000 in
theorem lwalk0_any {w : World} {v : Value} (h : Wk0 w v) : Calls Try.prog 49 #[v, .slice none 0 0, .int .i64 0] w (Ret (.bool true) w) := by
  obtain ⟨bm, bb, bo, m, rfl, hbm, hm⟩ := h
  have HBM := Lib.hid hbm
  have HM := Lib.hid hm
  clear hbm hm
  refine (callsIn_wide (n := 6)).1 ?_
  refine callsIn_of_wp_marks Try.func49 rfl trivial ?_ rfl
  simp only [Try.ntmps49, List.size_toArray, List.length_cons, List.length_nil, Nat.reduceAdd, Nat.reduceSub, Array.replicate_succ, Array.replicate_zero, List.push_toArray, List.append_toArray, List.nil_append, List.cons_append]
  have hfn := wk_nil #[.pointer (some ⟨bm, 0, none⟩), .pointer (some ⟨bb, 0, none⟩), .pointer (some ⟨bo, 0, none⟩)]
  gi_wp2_with fail
  obtain ⟨wL, hwL⟩ : ∃ wL, ((((w.alloc (.cells #[.slice none 0 0] 27)).alloc (.cells #[.int .i64 0] 3)).alloc (.cells #[.bool false] 4)).alloc (.cells #[.int .i64 0] 3)) = wL := ⟨_, rfl⟩
  have hzL : wL.heap.size = w.heap.size + 4 := by rw [← hwL]; simp
  have hBL : Below w.heap.size w wL := by rw [← hwL]; go_grown
  have B4 : Blk wL w.heap.size 27 #[.slice none 0 0] := by rw [← hwL]; simp (disch := (first | omega | (simp only [World.size_alloc, World.size_setCell, World.size_drew] <;> omega) | fail)) only [Blk, heap_old, heap_at, heap_set_same, heap_set_ne, heap_drew', Option.map_some, putO_cells]
  have B6 : Blk wL (w.heap.size + 1 + 1) 4 #[.bool false] := by rw [← hwL]; simp (disch := (first | omega | (simp only [World.size_alloc, World.size_setCell, World.size_drew] <;> omega) | fail)) only [Blk, heap_old, heap_at, heap_set_same, heap_set_ne, heap_drew', Option.map_some, putO_cells]
  have B7 : Blk wL (w.heap.size + 1 + 1 + 1) 3 #[.int .i64 0] := by rw [← hwL]; simp (disch := (first | omega | (simp only [World.size_alloc, World.size_setCell, World.size_drew] <;> omega) | fail)) only [Blk, heap_old, heap_at, heap_set_same, heap_set_ne, heap_drew', Option.map_some, putO_cells]
  rw [hwL]
  clear hwL
  refine wpIn_rangeFunc_M rfl (by decide) (gf := 66) (lb := #[.pointer (some ⟨bm, 0, none⟩), .pointer (some ⟨bb, 0, none⟩), .pointer (some ⟨bo, 0, none⟩)]) rfl trivial (enters_of Try.func66 (by kernel_rfl) rfl)
    (encs := wkArgs) (T := fun _ _ _ _ => False) (S := fun xs => xs = []) (Sp := fun _ => False) (Pf := fun _ => False) (Ro := fun _ => False)
    (fun W' hW' => by
      have hb : Below w.heap.size w W' := hBL.trans (hW'.mono hBL.size)
      exact walk0_seq _ bm bb bo m (HBM.out.below hb) (HM.out.below hb) _)
    (fun _ h => h.elim) (fun _ h => h.elim) (fun _ => rfl)
    (fun _ Pv W => (∀ k, Pv k → wL.heap.size ≤ k) ∧ Fr (fun k => wL.heap.size ≤ k) wL W)
    (fun _ _ _ _ => True)
    ?stab ?stabx ?start ?round ?done ?stop
  case stab =>
    rintro pre Pv Pv' W W' ⟨h1, h2⟩ hf hP
    have hs := h2.size
    exact ⟨fun k hk => (hP k hk).elim (h1 k) (fun h => by omega), h2.trans (hf.mono fun k _ h => h.elim (fun h => h1 k h) (fun h => by omega))⟩
  case stabx => exact fun _ _ _ _ _ _ _ _ _ => trivial
  case start => exact ⟨fun _ h => h.elim, Fr.refl _ _⟩
  case round => exact fun _ _ _ _ _ _ _ _ _ _ _ _ h => h.elim
  case done =>
    rintro D xs Pv W hD rfl ⟨_, hF⟩ hK
    have hFs := hF.size
    have C4 : Blk W w.heap.size 27 #[.slice none 0 0] := (hF.block _ (by omega) (by omega)).trans B4
    have C6 : Blk W (w.heap.size + 1 + 1) 4 #[.bool false] := (hF.block _ (by omega) (by omega)).trans B6
    have c4 := C4.cell 0
    have c6 := C6.cell 0
    have f6 := C6.free 0
    have C7 : Blk W (w.heap.size + 1 + 1 + 1) 3 #[.int .i64 0] := (hF.block _ (by omega) (by omega)).trans B7
    have c7 := C7.cell 0
    have l6 := C6.lt
    simp only [List.getElem?_toArray, List.getElem?_cons_zero] at c4 c6 c7
    gi_wp2_with fail
    have hK' : (W.setCell ⟨w.heap.size + 1 + 1, 0, none⟩ (.bool true)).heap[D]? = some (.deferred (some [])) := (heap_set_ne _ _ _ _ _ (by omega)).trans hK
    refine ⟨by simp, .inl ⟨_, _, rfl, run_takeDeferred hK', ?_⟩⟩
    have D8 : Blk ((W.setCell ⟨w.heap.size + 1 + 1, 0, none⟩ (.bool true)).putObj D (.deferred none)) (w.heap.size + 1 + 1) 4 #[.bool true] := (World.putObj_heap_other (by omega)).trans (by unfold Blk at C6; simp (disch := (first | omega | (simp only [World.size_alloc, World.size_setCell, World.size_drew] <;> omega) | fail)) only [Blk, heap_old, heap_at, heap_set_same, heap_set_ne, heap_drew', Option.map_some, putO_cells, C6]; rfl)
    have hc8 := D8.cell 0
    have hfin : Fr (fun k => w.heap.size ≤ k) wL ((W.setCell ⟨w.heap.size + 1 + 1, 0, none⟩ (.bool true)).putObj D (.deferred none)) :=
      ((hF.mono fun q _ h => show w.heap.size ≤ q by omega).set _ (by omega)).trans ((OnlyB.put _ D _).1.mono fun q _ h => by omega)
    refine ⟨.bool true, ?_, rfl, hBL.trans (hfin.below (fun _ h => h) (by omega))⟩
    simp [results, Try.f49, go_sem, hc8]
  case stop => exact fun _ _ _ _ _ _ h => h.elim
end Go.Proofs.Ytchmlephgkimcaa
