/- The arguments of this seat's laws, opened. -/
import Derived.Test.YtlmmcffbpdfcjaaTmKn
import Derived.Test.YtlmmcffbpdfcjaaOpen
import Derived.Test.YtlmmcffbpdfcjaaRows
set_option linter.unusedSimpArgs false
set_option linter.unusedVariables false
namespace Go.Proofs.Ytlmmcffbpdfcjaa
open Go.RowKit Go.Kp Go.ChangeShapes Go.WideShapes
variable {H : Type} {enc : TypeId × Value → H} {w : World} {base b0 : Nat} {spare : Nat → Bool} {held : Bool}

theorem own : ownKnob Try.prog.godebug = none := by kernel_rfl
theorem laidOut : laidOutB Try.prog = true := by kernel_rfl
theorem flatTm : flat Try.prog 4 25 = some [2, 9, 2, 2] := by kernel_rfl

theorem ec_string {ts : List TypeId} {cs : List Value} (h : EachCell enc Try.prog w base spare held ts cs) (i : Nat) {u : TypeId} {v : Value} (hu : ts[i]? = some u) (hv : cs[i]? = some v) (ht : Try.prog.underlying u = some .string) :
    ∃ b : ByteArray, v = .string b ∧ b.size ≤ maxLen := by
  obtain ⟨m, y, hy⟩ := h.2 i u v hu hv
  cases m with
  | zero => simp [DataW.trod] at hy
  | succ m =>
    unfold DataW.trod at hy
    simp only [ht] at hy
    split at hy <;> first | (simp_all; done) | (rename_i hh; simp_all; done) | skip
    all_goals (split at hy <;> first | (exact ⟨_, by simp_all, by assumption⟩) | (simp_all; done))
theorem open_tm {r : Reach} {v : Value} {d : DataW H} {p : List MemPlace} (hv : Value.okWide Try.prog w r b0 25 v) (h : DataW.Trod enc Try.prog w base spare held 25 v d p) : ∃ x : Tm.T, v = vT x ∧ Ok x := by
  obtain ⟨cs, rfl, _⟩ := okWide_struct Try.underlying25 hv
  obtain ⟨f, hf⟩ := h
  have E := trod_flat laidOut 4 f 25 _ _ _ flatTm (of_decide_eq_true (by kernel_rfl)) hf
  obtain ⟨l⟩ := cs
  have hl : l.length = 4 := E.1
  match l, hl, E with
  | [a0, a1, a2, a3], _, E =>
    obtain ⟨n0, rfl, h0⟩ := E.int 0 rfl rfl Try.underlying2
    obtain ⟨n1, rfl, h1⟩ := ec_string E 1 rfl rfl Try.underlying9
    obtain ⟨n2, rfl, h2⟩ := E.int 2 rfl rfl Try.underlying2
    obtain ⟨n3, rfl, h3⟩ := E.int 3 rfl rfl Try.underlying2
    exact ⟨⟨n0, n1, n2, n3⟩, rfl, h0, h1, h2, h3⟩
end Go.Proofs.Ytlmmcffbpdfcjaa
