/- Store: the order of texts: cmp.Compare. -/
import Derived.Test.YtchmlephgkimcaaTtG
import Derived.Test.YtchmlephgkimcaaTmM
import Derived.Laws.Cover1
set_option linter.unusedSimpArgs false
set_option linter.unusedVariables false
namespace Go.Proofs.Ytchmlephgkimcaa.Tx
open Go.RowKit Go.Kp Go.St

theorem str_ord : Ord Tm.str := by
  refine ⟨fun a b => by rw [Tm.str_lt, Tm.str_gt], fun a b d h1 h2 => ?_⟩
  have e1 : ¬ 0 < Tm.str a b := by omega
  have e2 : ¬ 0 < Tm.str b d := by omega
  rw [Tm.str_gt] at e1 e2
  have h : ¬ 0 < Tm.str a d := by
    rw [Tm.str_gt]
    intro h3
    by_cases hab : a.toList = b.toList
    · rw [hab] at h3
      exact e2 h3
    · have h4 := Tm.bl_tri (by simpa using e1) (fun e => hab e.symm)
      exact e2 (Tm.bl_trans h3 h4)
  omega
theorem isNaN_any (a : ByteArray) (w : World) : Calls Try.prog 67 #[.string a] w fun e w' => e = .returned (.bool false) ∧ w' = w := by
  go_enter Try.func67, Try.ntmps67
  go_wp2
  go_returns
  exact ⟨by simp, rfl⟩
set_option maxHeartbeats 1000000 in
theorem cmpS_any (a b : ByteArray) (w : World) : Calls Try.prog 50 #[.string a, .string b] w fun e w' => e = .returned (.int .i64 (Tm.str a b)) ∧ w' = w := by
  go_enter Try.func50, Try.ntmps50
  go_wp2_with fail
  refine (isNaN_any a _).mono ?_
  rintro en w_ ⟨rfl, hw_⟩
  obtain rfl : w = w_ := hw_.symm
  go_wp2_with fail
  refine (isNaN_any b _).mono ?_
  rintro en w_ ⟨rfl, hw_⟩
  obtain rfl : w = w_ := hw_.symm
  go_wp2
  all_goals go_returns
  all_goals refine ⟨?_, rfl⟩
  all_goals simp [Tm.str, *]
theorem of_cmp : CmpF (fun _ => True) 50 #[] Tm.str := ⟨fun a b w => by kernel_rfl, fun a b w _ => cmpS_any a b w⟩
end Go.Proofs.Ytchmlephgkimcaa.Tx
