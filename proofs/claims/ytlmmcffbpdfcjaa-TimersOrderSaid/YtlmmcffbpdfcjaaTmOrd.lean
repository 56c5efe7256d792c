/- TimersOrder: the walk. -/
import Derived.Test.YtlmmcffbpdfcjaaTmKn
set_option linter.unusedSimpArgs false
set_option linter.unusedVariables false
namespace Go.Proofs.Ytlmmcffbpdfcjaa
open Go.RowKit Go.Kp Go.ChangeMaps

set_option maxHeartbeats 2000000 in
theorem order (x y : Tm.T) (w : World) : Calls Try.prog 3 #[vT x, vT y] w (Ret (.bool true) w) := by
  go_enter Try.func3, Try.ntmps3
  go_upto_region 1 with (fail)
  (refine wp_at (fun w1 => Blk w1 w.heap.size 25 (cT x).toArray ∧ Blk w1 (w.heap.size + 1) 25 (cT y).toArray ∧ Below w.heap.size w w1) two_boxes ?_)
  rintro w1 ⟨A, B, hB⟩
  have a0 := A.cell 0
  have a1 := A.cell 1
  have a2 := A.cell 2
  have a3 := A.cell 3
  have b0 := B.cell 0
  have b1 := B.cell 1
  have b2 := B.cell 2
  have b3 := B.cell 3
  simp only [List.getElem?_toArray, List.getElem?_cons_zero, List.getElem?_cons_succ] at a0 a1 a2 a3 b0 b1 b2 b3
  have lA := A.lt
  have lB := B.lt
  go_wp2_with (go_in)
  (refine region_keep (fun b => b < w1.heap.size) 19 [(0, true), (1, true), (3, true), (4, true), (2, false), (5, false), (6, true), (7, true), (8, true), (9, true), (11, true), (12, true), (10, false), (13, false), (14, true), (15, true), (16, true), (17, true), (18, true)] (by kernel_rfl) (fun _ _ d _ _ h => by cases d <;> exact h) (by kernel_rfl) ?_; simp only [withOps, List.getElem?_toArray, List.getElem?_cons_zero, List.getElem?_cons_succ, List.drop_succ_cons, List.drop_zero])
  (iterate 4 (refine keep_quiet (v := ?_) rfl ?_ ?_; rotate_left; (focus (intro w' hw'; go_simp; (try with_reducible rfl); done)); try simp only [Act.put, List.setIfInBounds_toArray, List.set_cons_zero, List.set_cons_succ]))
  (with_reducible refine plan_loud (fun K hK => ?_))
  go_simp
  refine (Compare_any _ _ _).mono ?_
  rintro en w2 ⟨rfl, hb2⟩
  refine hK _ _ ((Keep.refl _ _).below hb2 (by intro x h; simpa using h)) ?_
  clear hK K
  have hB2 : Below w1.heap.size w1 w2 := bnext (by go_grown) hb2
  clear hb2
  (try simp only [Act.put, List.setIfInBounds_toArray, List.set_cons_zero, List.set_cons_succ])
  (with_reducible refine plan_loud (fun K hK => ?_))
  go_simp
  refine (refCompare_any _ _ _).mono ?_
  rintro en w3 ⟨rfl, hb3⟩
  refine hK _ _ ((Keep.refl _ _).below hb3 (by have := hB2.size; intro x h; omega)) ?_
  clear hK K
  have hB3 : Below w1.heap.size w1 w3 := bnext hB2 hb3
  clear hb3
  have A3 := A.below hB3
  have B3 := B.below hB3
  clear a0 a1 a2 a3 b0 b1 b2 b3
  have a0 := A3.cell 0
  have a1 := A3.cell 1
  have a2 := A3.cell 2
  have a3 := A3.cell 3
  have b0 := B3.cell 0
  have b1 := B3.cell 1
  have b2 := B3.cell 2
  have b3 := B3.cell 3
  simp only [List.getElem?_toArray, List.getElem?_cons_zero, List.getElem?_cons_succ] at a0 a1 a2 a3 b0 b1 b2 b3
  (try simp only [Act.put, List.setIfInBounds_toArray, List.set_cons_zero, List.set_cons_succ])
  (iterate 6 (refine keep_quiet (v := ?_) rfl ?_ ?_; rotate_left; (focus (intro w' hw'; go_simp; (try with_reducible rfl); done)); try simp only [Act.put, List.setIfInBounds_toArray, List.set_cons_zero, List.set_cons_succ]))
  (with_reducible refine plan_loud (fun K hK => ?_))
  go_simp
  refine (Compare_any _ _ _).mono ?_
  rintro en w4 ⟨rfl, hb4⟩
  refine hK _ _ ((Keep.refl _ _).below hb4 (by have := hB3.size; intro x h; omega)) ?_
  clear hK K
  have hB4 : Below w1.heap.size w1 w4 := bnext hB3 hb4
  clear hb4
  (try simp only [Act.put, List.setIfInBounds_toArray, List.set_cons_zero, List.set_cons_succ])
  (with_reducible refine plan_loud (fun K hK => ?_))
  go_simp
  refine (refCompare_any _ _ _).mono ?_
  rintro en w5 ⟨rfl, hb5⟩
  refine hK _ _ ((Keep.refl _ _).below hb5 (by have := hB4.size; intro x h; omega)) ?_
  clear hK K
  have hB5 : Below w1.heap.size w1 w5 := bnext hB4 hb5
  have A5 := A.below hB5
  have B5 := B.below hB5
  clear a0 a1 a2 a3 b0 b1 b2 b3
  have a0 := A5.cell 0
  have a1 := A5.cell 1
  have a2 := A5.cell 2
  have a3 := A5.cell 3
  have b0 := B5.cell 0
  have b1 := B5.cell 1
  have b2 := B5.cell 2
  have b3 := B5.cell 3
  simp only [List.getElem?_toArray, List.getElem?_cons_zero, List.getElem?_cons_succ] at a0 a1 a2 a3 b0 b1 b2 b3
  clear hb5 hB2 hB3 hB4
  (try simp only [Act.put, List.setIfInBounds_toArray, List.set_cons_zero, List.set_cons_succ])
  (iterate 5 (refine keep_quiet (v := ?_) rfl ?_ ?_; rotate_left; (focus (intro w' hw'; go_simp; (try with_reducible rfl); done)); try simp only [Act.put, List.setIfInBounds_toArray, List.set_cons_zero, List.set_cons_succ]))
  (with_reducible refine plan_end ?_)
  (try simp only [Act.put, List.setIfInBounds_toArray, List.set_cons_zero, List.set_cons_succ])
  go_wp2_with fail
  refine (Compare_any _ _ _).mono ?_
  rintro en w6 ⟨rfl, hb6⟩
  have hB6 : Below w1.heap.size w1 w6 := bnext hB5 hb6
  clear hb6
  rw [Tm.cmp_self]
  go_wp2_with fail
  refine (known_any _).mono ?_
  rintro en w7 ⟨rfl, hb7⟩
  have hB7 : Below w1.heap.size w1 w7 := bnext hB6 hb7
  clear hb7
  go_wp2_with fail
  go_returns
  exact ⟨rfl, bnext hB hB7⟩
end Go.Proofs.Ytlmmcffbpdfcjaa
