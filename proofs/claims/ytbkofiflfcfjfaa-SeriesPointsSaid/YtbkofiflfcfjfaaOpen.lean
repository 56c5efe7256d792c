/- Arguments of plain struct and array types, opened cell by cell. -/
import Derived.Test.YtbkofiflfcfjfaaBase
import Derived.ShutString
set_option linter.unusedSimpArgs false
set_option linter.unusedVariables false
namespace Go.Kp
open Go.ChangeShapes Go.WideShapes Go.ChangeAt Go.RowKit
variable {H : Type} {enc : TypeId × Value → H} {P : Program} {w : World} {base : Nat} {spare : Nat → Bool} {held : Bool}

theorem okWide_array {r : Reach} {b0 : Nat} {t e : TypeId} {n : Nat} {v : Value} (ht : P.underlying t = some (.array n e)) (h : Value.okWide P w r b0 t v) : ∃ cs, v = .agg cs ∧ cs.size = P.cellsOf t := by
  unfold Value.okWide at h
  simp only [ht] at h
  obtain ⟨cs, rfl, hs, _⟩ := h
  exact ⟨cs, rfl, hs⟩
theorem wf_i64 {n : Int} (h : (Lit.int .i64 n).wf = true) : -9223372036854775808 ≤ n ∧ n ≤ 9223372036854775807 := by
  simp only [Lit.wf, Bool.and_eq_true, decide_eq_true_eq] at h
  have e1 : IntKind.i64.min = -9223372036854775808 := by decide +kernel
  have e2 : IntKind.i64.max = 9223372036854775807 := by decide +kernel
  rw [e1, e2] at h
  exact h
theorem EachCell.int {ts : List TypeId} {cs : List Value} (h : EachCell enc P w base spare held ts cs) (i : Nat) {u : TypeId} {v : Value} {k : IntKind} (hu : ts[i]? = some u) (hv : cs[i]? = some v) (ht : P.underlying u = some (.int k)) :
    ∃ n, v = .int k n ∧ (Lit.int k n).wf = true := by
  obtain ⟨m, y, hy⟩ := h.2 i u v hu hv
  obtain ⟨n, h1, _, h2⟩ := DataW.trod_int ht hy
  simp at h1
  exact ⟨n, h1, h2⟩
theorem EachCell.bool {ts : List TypeId} {cs : List Value} (h : EachCell enc P w base spare held ts cs) (i : Nat) {u : TypeId} {v : Value} (hu : ts[i]? = some u) (hv : cs[i]? = some v) (ht : P.underlying u = some .bool) :
    ∃ b, v = .bool b := by
  obtain ⟨m, y, hy⟩ := h.2 i u v hu hv
  cases m with
  | zero => simp [DataW.trod] at hy
  | succ m =>
    unfold DataW.trod at hy
    simp only [ht] at hy
    split at hy <;> first | exact ⟨_, by simp_all; done⟩ | (simp_all; done)
end Go.Kp
