/- Panes as points: the value of a pane, the program's and the document's. -/
import Derived.Test.YtbkofiflfcfjfaaSqR
import Derived.Test.YtbkofiflfcfjfaaSeS
import Derived.Test.YtbkofiflfcfjfaaSeQ
set_option linter.unusedSimpArgs false
set_option linter.unusedVariables false
namespace Go.Proofs.Ytbkofiflfcfjfaa.Px
open Go.RowKit Go.Kp Go.St Go.Ser

/-- What is asked for of a pane. -/
def ValR (v : Pn) (b : Int) (r : Nat) : Prop :=
  if b = 1 then r = floatOfInt .f64 v.count else if b = 2 then r = floatOfInt .f64 v.sum else if b = 3 then (if v.count = 0 then nanP r else Res .quo (floatOfInt .f64 v.sum) (floatOfInt .f64 v.count) r) else if b = 4 then r = floatOfInt .f64 v.min else r = floatOfInt .f64 v.max
theorem ValR.congr {v : Pn} {b : Int} {r r' : Nat} (h : ValR v b r) (h' : ValR v b r') : Fq r r' := by
  unfold ValR at h h'
  split at h
  · rename_i e
    rw [if_pos e] at h'
    subst h h'
    exact Fq.refl _
  · rename_i e
    rw [if_neg e] at h'
    split at h
    · rename_i e
      rw [if_pos e] at h'
      subst h h'
      exact Fq.refl _
    · rename_i e
      rw [if_neg e] at h'
      split at h
      · rename_i e
        rw [if_pos e] at h'
        split at h
        · rename_i e
          rw [if_pos e] at h'
          exact .inr ⟨h, h'⟩
        · rename_i e
          rw [if_neg e] at h'
          exact Res.congr h h' (Fq.refl _) (Fq.refl _)
      · rename_i e
        rw [if_neg e] at h'
        split at h
        · rename_i e
          rw [if_pos e] at h'
          subst h h'
          exact Fq.refl _
        · rename_i e
          rw [if_neg e] at h'
          subst h h'
          exact Fq.refl _
theorem nan_any (w : World) : Calls Try.prog 57 #[] w (Ret (.float .f64 9221120237041090561) w) := by
  have hf : (callFunc 10 #[.int .u64 9221120237041090561]).run Try.prog w = .ok (.value (.float .f64 9221120237041090561)) w := frombits 9221120237041090561 w
  go_enter Try.func57, Try.ntmps57
  go_wp2
  go_returns
  exact ⟨rfl, by go_grown⟩
theorem nan_is : nanP 9221120237041090561 := by unfold nanP; decide
set_option maxHeartbeats 4000000 in
theorem value_any (v : Pn) (b : Int) (w : World) : Calls Try.prog 46 #[.agg (valC v), .int .i64 b] w (FlR (ValR v b) w) := by
  rcases Decidable.em (b = 1) with h1 | h1
  · subst h1
    go_enter Try.func46, Try.ntmps46
    go_wp2
    go_returns
    exact ⟨_, by unfold ValR; rw [if_pos rfl], rfl, by go_grown⟩
  rcases Decidable.em (b = 2) with h2 | h2
  · subst h2
    go_enter Try.func46, Try.ntmps46
    go_wp2
    go_returns
    exact ⟨_, by unfold ValR; rw [if_neg (by decide), if_pos rfl], rfl, by go_grown⟩
  rcases Decidable.em (b = 3) with h3 | h3
  · subst h3
    rcases Decidable.em (v.count = 0) with h0 | h0
    · go_enter Try.func46, Try.ntmps46
      go_wp2_with fail
      refine (nan_any _).mono ?_
      rintro en w1 ⟨rfl, hb1⟩
      have hb : Below w.heap.size w w1 := bnext (by go_grown) hb1
      clear hb1
      go_wp2
      go_returns
      exact ⟨_, by unfold ValR; rw [if_neg (by decide), if_neg (by decide), if_pos rfl, if_pos h0]; exact nan_is, rfl, by go_grown⟩
    · obtain ⟨t, w2, hrun, hres, hw⟩ := quo_any (w.alloc (.cells (valC v) 92 (0, 0))) (floatOfInt .f64 v.sum) (floatOfInt .f64 v.count)
      go_enter Try.func46, Try.ntmps46
      go_wp2
      go_returns
      exact ⟨t, by unfold ValR; rw [if_neg (by decide), if_neg (by decide), if_pos rfl, if_neg h0]; exact hres.out, rfl, Below.trans (show Below w.heap.size w (w.alloc (.cells (valC v) 92 (0, 0))) by go_grown) (hw.out.below _)⟩
  rcases Decidable.em (b = 4) with h4 | h4
  · subst h4
    go_enter Try.func46, Try.ntmps46
    go_wp2
    go_returns
    exact ⟨_, by unfold ValR; rw [if_neg (by decide), if_neg (by decide), if_neg (by decide), if_pos rfl], rfl, by go_grown⟩
  · go_enter Try.func46, Try.ntmps46
    go_wp2
    go_returns
    exact ⟨_, by unfold ValR; rw [if_neg h1, if_neg h2, if_neg h3, if_neg h4], rfl, by go_grown⟩
set_option maxHeartbeats 4000000 in
theorem refValue_any (v : Pn) (b : Int) (w : World) : Calls Try.prog 48 #[.agg (valC v), .int .i64 b] w (FlR (ValR v b) w) := by
  rcases Decidable.em (b = 1) with h1 | h1
  · subst h1
    go_enter Try.func48, Try.ntmps48
    go_wp2
    go_returns
    exact ⟨_, by unfold ValR; rw [if_pos rfl], rfl, by go_grown⟩
  rcases Decidable.em (b = 2) with h2 | h2
  · subst h2
    go_enter Try.func48, Try.ntmps48
    go_wp2
    go_returns
    exact ⟨_, by unfold ValR; rw [if_neg (by decide), if_pos rfl], rfl, by go_grown⟩
  rcases Decidable.em (b = 3) with h3 | h3
  · subst h3
    rcases Decidable.em (v.count = 0) with h0 | h0
    · go_enter Try.func48, Try.ntmps48
      go_wp2_with fail
      refine (nan_any _).mono ?_
      rintro en w1 ⟨rfl, hb1⟩
      have hb : Below w.heap.size w w1 := bnext (by go_grown) hb1
      clear hb1
      go_wp2
      go_returns
      exact ⟨_, by unfold ValR; rw [if_neg (by decide), if_neg (by decide), if_pos rfl, if_pos h0]; exact nan_is, rfl, by go_grown⟩
    · obtain ⟨t, w2, hrun, hres, hw⟩ := quo_any (w.alloc (.cells (valC v) 92 (0, 0))) (floatOfInt .f64 v.sum) (floatOfInt .f64 v.count)
      go_enter Try.func48, Try.ntmps48
      go_wp2
      go_returns
      exact ⟨t, by unfold ValR; rw [if_neg (by decide), if_neg (by decide), if_pos rfl, if_neg h0]; exact hres.out, rfl, Below.trans (show Below w.heap.size w (w.alloc (.cells (valC v) 92 (0, 0))) by go_grown) (hw.out.below _)⟩
  rcases Decidable.em (b = 4) with h4 | h4
  · subst h4
    go_enter Try.func48, Try.ntmps48
    go_wp2
    go_returns
    exact ⟨_, by unfold ValR; rw [if_neg (by decide), if_neg (by decide), if_neg (by decide), if_pos rfl], rfl, by go_grown⟩
  · go_enter Try.func48, Try.ntmps48
    go_wp2
    go_returns
    exact ⟨_, by unfold ValR; rw [if_neg h1, if_neg h2, if_neg h3, if_neg h4], rfl, by go_grown⟩
end Go.Proofs.Ytbkofiflfcfjfaa.Px
