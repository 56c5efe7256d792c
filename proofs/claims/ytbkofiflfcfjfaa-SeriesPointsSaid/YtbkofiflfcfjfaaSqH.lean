/- Panes' windows in order: the comparing function. -/
import Derived.Test.YtbkofiflfcfjfaaSqA
import Derived.Test.YtbkofiflfcfjfaaTmM
import Derived.Laws.Cover1
set_option linter.unusedSimpArgs false
set_option linter.unusedVariables false
namespace Go.Proofs.Ytbkofiflfcfjfaa.Px
open Go.RowKit Go.Kp Go.St

abbrev At.tm (a : At) : Tm.T := ⟨0, a.k, a.s, a.e⟩
def cA (a b : At) : Int := Tm.cmp a.tm b.tm
theorem cA_ord : Ord cA := by
  refine ⟨fun a b => ?_, fun a b d h1 h2 => ?_⟩
  · unfold cA; rw [Tm.cmp_neg a.tm b.tm]; omega
  · unfold cA at *
    have k1 : ¬ Tm.lt b.tm a.tm := by unfold Tm.lt; rw [Tm.cmp_neg]; omega
    have k2 : ¬ Tm.lt d.tm b.tm := by unfold Tm.lt; rw [Tm.cmp_neg]; omega
    have k3 := Tm.le_trans k1 k2
    unfold Tm.lt at k3
    rw [Tm.cmp_neg] at k3
    omega
theorem cA_zero {a b : At} (h : cA a b = 0) : a = b := by
  have h1 := Tm.cmp_zero h
  injection h1 with _ h2 h3 h4
  obtain ⟨k, s, e⟩ := a
  obtain ⟨k', s', e'⟩ := b
  simp only at h2 h3 h4
  subst h2 h3 h4
  rfl
theorem cA_self (a : At) : cA a a = 0 := Tm.cmp_self _
theorem isNaN_int (x : Int) (w : World) : Calls Try.prog 60 #[.int .i64 x] w fun e w' => e = .returned (.bool false) ∧ w' = w := by
  go_enter Try.func60, Try.ntmps60
  go_wp2
  go_returns
  exact ⟨by simp, rfl⟩
theorem isNaN_str (x : ByteArray) (w : World) : Calls Try.prog 59 #[.string x] w fun e w' => e = .returned (.bool false) ∧ w' = w := by
  go_enter Try.func59, Try.ntmps59
  go_wp2
  go_returns
  exact ⟨by simp, rfl⟩
set_option maxHeartbeats 1000000 in
theorem cmpS_any (a b : ByteArray) (w : World) : Calls Try.prog 53 #[.string a, .string b] w fun e w' => e = .returned (.int .i64 (Tm.str a b)) ∧ w' = w := by
  go_enter Try.func53, Try.ntmps53
  go_wp2_with fail
  refine (isNaN_str a _).mono ?_
  rintro en w_ ⟨rfl, hw_⟩
  obtain rfl : w = w_ := hw_.symm
  go_wp2_with fail
  refine (isNaN_str b _).mono ?_
  rintro en w_ ⟨rfl, hw_⟩
  obtain rfl : w = w_ := hw_.symm
  go_wp2
  all_goals go_returns
  all_goals refine ⟨?_, rfl⟩
  all_goals simp [Tm.str, *]
set_option maxHeartbeats 1000000 in
theorem cmpI_any (a b : Int) (w : World) : Calls Try.prog 54 #[.int .i64 a, .int .i64 b] w fun e w' => e = .returned (.int .i64 (Tm.num a b)) ∧ w' = w := by
  go_enter Try.func54, Try.ntmps54
  go_wp2_with fail
  refine (isNaN_int a _).mono ?_
  rintro en w_ ⟨rfl, hw_⟩
  obtain rfl : w = w_ := hw_.symm
  go_wp2_with fail
  refine (isNaN_int b _).mono ?_
  rintro en w_ ⟨rfl, hw_⟩
  obtain rfl : w = w_ := hw_.symm
  go_wp2
  all_goals go_returns
  all_goals refine ⟨?_, rfl⟩
  all_goals simp [Tm.num, *]
  all_goals omega
theorem or_any (b cap : Nat) (c1 c2 c3 : Int) (w : World) (h : Blk w b 3 #[.int .i64 c1, .int .i64 c2, .int .i64 c3]) :
    Calls Try.prog 52 #[.slice (some ⟨b, 0, none⟩) 3 cap] w (Ret (.int .i64 (Tm.or4 0 c1 c2 c3)) w) := by
  have e0 := h.cell 0
  have e1 := h.cell 1
  have e2 := h.cell 2
  simp only [List.getElem?_toArray, List.getElem?_cons_zero, List.getElem?_cons_succ] at e0 e1 e2
  go_enter Try.func52, Try.ntmps52
  go_wp2
  go_rounds 4
  all_goals go_ret
  all_goals refine ⟨?_, by go_grown⟩
  all_goals unfold Tm.or4
  all_goals (first | (simp_all; done) | skip)
theorem boxed2 {w : World} {a b : Kx} : Blk ((w.alloc (.cells (keyC a) 112 (0, 0))).alloc (.cells (keyC b) 112 (0, 0))) w.heap.size 112 (keyC a) ∧ Blk ((w.alloc (.cells (keyC a) 112 (0, 0))).alloc (.cells (keyC b) 112 (0, 0))) (w.heap.size + 1) 112 (keyC b) ∧ Below w.heap.size w ((w.alloc (.cells (keyC a) 112 (0, 0))).alloc (.cells (keyC b) 112 (0, 0))) :=
  ⟨(heap_old (by simp)).trans (heap_at rfl), heap_at (by simp), by go_grown⟩
theorem cA_or (a b : At) : cA a b = Tm.or4 0 (Tm.str a.k b.k) (Tm.num a.s b.s) (Tm.num a.e b.e) := by
  show Tm.or4 (Tm.num 0 0) (Tm.str a.k b.k) (Tm.num a.s b.s) (Tm.num a.e b.e) = _
  rw [Tm.num_self]

set_option maxRecDepth 100000 in
set_option maxHeartbeats 4000000 in
theorem cmpA_any (a b : At) (w : World) : Calls Try.prog 51 #[.agg #[.string a.k, .int .i64 a.s, .int .i64 a.e], .agg #[.string b.k, .int .i64 b.s, .int .i64 b.e]] w (Ret (.int .i64 (cA a b)) w) := by
  rw [cA_or]
  go_enter Try.func51, Try.ntmps51
  go_upto_region 1 with (fail)
  (refine wp_at (fun w1 => Blk w1 w.heap.size 112 (keyC a) ∧ Blk w1 (w.heap.size + 1) 112 (keyC b) ∧ Below w.heap.size w w1) boxed2 ?_)
  rintro w1 ⟨A, B, hB⟩
  have a0 := A.cell 0
  have a1 := A.cell 1
  have a2 := A.cell 2
  have b0 := B.cell 0
  have b1 := B.cell 1
  have b2 := B.cell 2
  simp only [List.getElem?_toArray, List.getElem?_cons_zero, List.getElem?_cons_succ] at a0 a1 a2 b0 b1 b2
  have lA := A.lt
  have lB := B.lt
  (refine region_keep (fun b => b < w1.heap.size) 18 [(0, true), (1, true), (2, true), (3, true), (5, true), (6, true), (7, true), (8, true), (9, true), (10, true), (12, true), (13, true), (14, true), (15, true), (16, true), (17, true), (4, false), (11, false)] (by kernel_rfl) (fun _ _ d _ _ h => by cases d <;> exact h) (by kernel_rfl) ?_; simp only [withOps, List.getElem?_toArray, List.getElem?_cons_zero, List.getElem?_cons_succ, List.drop_succ_cons, List.drop_zero])
  (iterate 16 (refine keep_quiet (v := ?_) rfl ?_ ?_; rotate_left; (focus (intro w' hw'; go_simp; (try with_reducible rfl); done)); try simp only [Act.put, List.setIfInBounds_toArray, List.set_cons_zero, List.set_cons_succ]))
  (with_reducible refine plan_loud (fun K hK => ?_))
  go_simp
  refine (cmpS_any _ _ _).mono ?_
  rintro en w_ ⟨rfl, hw_⟩
  obtain rfl : w1.drew = w_ := hw_.symm
  refine hK _ _ (Keep.refl _ _) ?_
  clear hK K
  (try simp only [Act.put, List.setIfInBounds_toArray, List.set_cons_zero, List.set_cons_succ])
  (with_reducible refine plan_loud (fun K hK => ?_))
  go_simp
  refine (cmpI_any _ _ _).mono ?_
  rintro en w_ ⟨rfl, hw_⟩
  obtain rfl : w1.drew = w_ := hw_.symm
  refine hK _ _ (Keep.refl _ _) ?_
  clear hK K
  (with_reducible refine plan_end ?_)
  (try simp only [Act.put, List.setIfInBounds_toArray, List.set_cons_zero, List.set_cons_succ])
  go_wp2_with fail
  refine (cmpI_any _ _ _).mono ?_
  rintro en w_ ⟨rfl, hw_⟩
  obtain rfl : w1.drew = w_ := hw_.symm
  go_wp2_with fail
  refine (or_any w1.heap.size 3 (Tm.str a.k b.k) (Tm.num a.s b.s) (Tm.num a.e b.e) _ (by simp (disch := (first | omega | (simp only [World.size_alloc, World.size_setCell, World.size_drew] <;> omega) | fail)) only [Blk, heap_old, heap_at, heap_set_same, heap_set_ne, heap_drew', Option.map_some, putO_cells])).mono ?_
  rintro en w6 ⟨rfl, hb6⟩
  have hB6 : Below w.heap.size w w6 := bnext (by go_grown) hb6
  clear hb6
  go_wp2_with fail
  go_returns
  exact ⟨rfl, hB6⟩
/-- The comparing function, as a value. -/
abbrev cmpV : Value := .func (.func 51) #[] #[]
theorem cmp_call (a b : Value) (w : World) : (callFunc 51 (#[a, b] ++ #[])).run Try.prog w = .ok (.enter 51 (#[a, b] ++ #[])) w := by kernel_rfl
end Go.Proofs.Ytbkofiflfcfjfaa.Px
