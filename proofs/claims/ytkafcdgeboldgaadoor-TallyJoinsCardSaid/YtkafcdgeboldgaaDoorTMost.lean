/- TallyMost: at MaxCount. -/
import Derived.Test.YtkafcdgeboldgaaDoorTWorks
set_option linter.unusedSimpArgs false
set_option linter.unusedVariables false
namespace Go.Proofs.YtkafcdgeboldgaaDoor
open Go.RowKit Go.Kp

theorem cell_lt {w : World} {b o : Nat} {v : Value} (h : w.cell? ⟨b, o, none⟩ = some v) : b < w.heap.size := by
  rcases Nat.lt_or_ge b w.heap.size with h1 | h1
  · exact h1
  · simp [World.cell?, Array.getElem?_eq_none h1] at h
theorem tz2 (w : World) (h1 : w.cell? ⟨1, 1, none⟩ = some (.int .u8 1)) : Calls Tryd.prog 28 #[.int .u64 2] w (Ret (.int .i64 1) w) := by
  have ha : bits .and .u64 2 (IntKind.u64.wrap (-2)) = 2 := by kernel_rfl
  have hm : IntKind.u64.wrap (2 * 285870213051353865) = 571740426102707730 := by kernel_rfl
  go_enter Tryd.func28, Tryd.ntmps28
  go_wp2
  go_returns
  exact ⟨rfl, by go_grown⟩
theorem tz6 (w : World) (h1 : w.cell? ⟨1, 1, none⟩ = some (.int .u8 1)) : Calls Tryd.prog 28 #[.int .u64 6] w (Ret (.int .i64 1) w) := by
  have ha : bits .and .u64 6 (IntKind.u64.wrap (-6)) = 2 := by kernel_rfl
  have hm : IntKind.u64.wrap (2 * 285870213051353865) = 571740426102707730 := by kernel_rfl
  go_enter Tryd.func28, Tryd.ntmps28
  go_wp2
  go_returns
  exact ⟨rfl, by go_grown⟩
theorem tz7 (w : World) (h1 : w.cell? ⟨1, 0, none⟩ = some (.int .u8 0)) : Calls Tryd.prog 28 #[.int .u64 7] w (Ret (.int .i64 0) w) := by
  have ha : bits .and .u64 7 (IntKind.u64.wrap (-7)) = 1 := by kernel_rfl
  have hm : IntKind.u64.wrap 285870213051353865 = 285870213051353865 := by kernel_rfl
  go_enter Tryd.func28, Tryd.ntmps28
  go_wp2
  go_returns
  exact ⟨rfl, by go_grown⟩

theorem can_over (w : World) : Calls Tryd.prog 19 #[(Tally.mk 9007199254740993 6 2 2).val] w (Ret (.bool false) w) := by
  go_enter Tryd.func19, Tryd.ntmps19
  go_wp2
  go_returns
  exact ⟨rfl, by go_grown⟩
theorem can_wide (v : Int) (w : World) : Calls Tryd.prog 19 #[(Tally.mk 9007199254740992 v 2 3).val] w (Ret (.bool true) w) := by
  go_enter Tryd.func19, Tryd.ntmps19
  go_wp2_with (go_in)
  (refine region_keep (fun _ => True) 10 [(0, true), (1, true), (2, true), (3, true), (4, true), (5, true), (7, true), (8, true), (9, true), (6, false)] (by kernel_rfl) (fun _ _ d _ _ h => by cases d <;> exact h) (by kernel_rfl) ?_; simp only [withOps, List.getElem?_toArray, List.getElem?_cons_zero, List.getElem?_cons_succ, List.drop_succ_cons, List.drop_zero])
  (iterate 3 (refine keep_quiet (v := ?_) rfl ?_ ?_; rotate_left; (focus (intro w' hw'; go_simp; (try with_reducible rfl); done)); try simp only [Act.put, List.setIfInBounds_toArray, List.set_cons_zero, List.set_cons_succ]))
  (iterate 6 ((with_reducible refine plan_skip ?_ ?_); (focus rfl); try simp only [Act.put, List.setIfInBounds_toArray, List.set_cons_zero, List.set_cons_succ]))
  (with_reducible refine plan_loud (fun K hK => ?_))
  go_simp
  (with_reducible refine hK _ _ (Keep.refl _ _) ?_)
  clear hK K
  (with_reducible refine plan_end ?_)
  (try simp only [Act.put, List.setIfInBounds_toArray, List.set_cons_zero, List.set_cons_succ])
  go_wp2
  go_returns
  exact ⟨rfl, by go_grown⟩
theorem can_even (w : World) (h1 : w.cell? ⟨1, 1, none⟩ = some (.int .u8 1)) : Calls Tryd.prog 19 #[(Tally.mk 9007199254740992 6 2 2).val] w (Ret (.bool true) w) := by
  have hl := cell_lt h1
  go_enter Tryd.func19, Tryd.ntmps19
  go_wp2_with (go_in)
  (refine region_keep (fun b => b = w.heap.size) 10 [(0, true), (1, true), (2, true), (3, true), (4, true), (5, true), (7, true), (8, true), (9, true), (6, false)] (by kernel_rfl) (fun _ _ d _ _ h => by cases d <;> exact h) (by kernel_rfl) ?_; simp only [withOps, List.getElem?_toArray, List.getElem?_cons_zero, List.getElem?_cons_succ, List.drop_succ_cons, List.drop_zero])
  (repeat (refine keep_quiet (v := ?_) rfl ?_ ?_; rotate_left; (focus (intro w' hw'; go_simp; (try with_reducible rfl); done)); try simp only [Act.put, List.setIfInBounds_toArray, List.set_cons_zero, List.set_cons_succ]))
  (with_reducible refine plan_loud (fun K hK => ?_))
  go_simp
  refine (tz6 _ ?_).mono ?_
  · exact (Below.cell (p := ⟨1, 1, none⟩) (show Below w.heap.size w _ by go_grown) hl).trans h1
  rintro en w1 ⟨rfl, hb1⟩
  refine hK _ _ ((Keep.refl _ _).below hb1 (by rintro x rfl; simp; omega)) ?_
  clear hK K
  (with_reducible refine plan_end ?_)
  (try simp only [Act.put, List.setIfInBounds_toArray, List.set_cons_zero, List.set_cons_succ])
  have hB1 : Below w.heap.size w w1 := bnext (by go_grown) hb1
  have e1 : w1.cell? ⟨1, 1, none⟩ = some (.int .u8 1) := (hB1.cell (p := ⟨1, 1, none⟩) hl).trans h1
  clear hb1
  go_wp2_with fail
  refine (tz2 _ e1).mono ?_
  rintro en w2 ⟨rfl, hb2⟩
  have hB2 : Below w.heap.size w w2 := bnext (by go_grown) hb2
  go_wp2
  go_returns
  exact ⟨rfl, by go_grown⟩
theorem can_odd (w : World) (h0 : w.cell? ⟨1, 0, none⟩ = some (.int .u8 0)) (h1 : w.cell? ⟨1, 1, none⟩ = some (.int .u8 1)) : Calls Tryd.prog 19 #[(Tally.mk 9007199254740992 7 2 2).val] w (Ret (.bool false) w) := by
  have hl := cell_lt h1
  go_enter Tryd.func19, Tryd.ntmps19
  go_wp2_with (go_in)
  (refine region_keep (fun b => b = w.heap.size) 10 [(0, true), (1, true), (2, true), (3, true), (4, true), (5, true), (7, true), (8, true), (9, true), (6, false)] (by kernel_rfl) (fun _ _ d _ _ h => by cases d <;> exact h) (by kernel_rfl) ?_; simp only [withOps, List.getElem?_toArray, List.getElem?_cons_zero, List.getElem?_cons_succ, List.drop_succ_cons, List.drop_zero])
  (repeat (refine keep_quiet (v := ?_) rfl ?_ ?_; rotate_left; (focus (intro w' hw'; go_simp; (try with_reducible rfl); done)); try simp only [Act.put, List.setIfInBounds_toArray, List.set_cons_zero, List.set_cons_succ]))
  (with_reducible refine plan_loud (fun K hK => ?_))
  go_simp
  refine (tz7 _ ?_).mono ?_
  · exact (Below.cell (p := ⟨1, 0, none⟩) (show Below w.heap.size w _ by go_grown) hl).trans h0
  rintro en w1 ⟨rfl, hb1⟩
  refine hK _ _ ((Keep.refl _ _).below hb1 (by rintro x rfl; simp; omega)) ?_
  clear hK K
  (with_reducible refine plan_end ?_)
  (try simp only [Act.put, List.setIfInBounds_toArray, List.set_cons_zero, List.set_cons_succ])
  have hB1 : Below w.heap.size w w1 := bnext (by go_grown) hb1
  have e1 : w1.cell? ⟨1, 1, none⟩ = some (.int .u8 1) := (hB1.cell (p := ⟨1, 1, none⟩) hl).trans h1
  clear hb1
  go_wp2_with fail
  refine (tz2 _ e1).mono ?_
  rintro en w2 ⟨rfl, hb2⟩
  have hB2 : Below w.heap.size w w2 := bnext (by go_grown) hb2
  go_wp2
  go_returns
  exact ⟨rfl, by go_grown⟩
end Go.Proofs.YtkafcdgeboldgaaDoor
