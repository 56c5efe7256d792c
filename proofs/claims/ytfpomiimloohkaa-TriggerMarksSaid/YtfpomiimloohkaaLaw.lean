/- The arguments of this seat's laws, opened. -/
import Derived.Test.YtfpomiimloohkaaTrigE
import Derived.Test.YtfpomiimloohkaaOpen
import Derived.Test.YtfpomiimloohkaaRows
set_option linter.unusedSimpArgs false
set_option linter.unusedVariables false
namespace Go.Proofs.Ytfpomiimloohkaa
open Go.RowKit Go.Kp Go.ChangeShapes Go.WideShapes
variable {H : Type} {enc : TypeId × Value → H} {w : World} {base b0 : Nat} {spare : Nat → Bool} {held : Bool}

theorem own : ownKnob Try.prog.godebug = none := by kernel_rfl
theorem laidOut : laidOutB Try.prog = true := by kernel_rfl
theorem flat24 : flat Try.prog 4 24 = some [3, 3, 22, 2, 2, 2, 2, 2, 3, 4] := by kernel_rfl
theorem flat30 : flat Try.prog 4 30 = some [2, 2, 2, 2, 2, 2, 2, 2, 2] := by kernel_rfl
theorem flat31 : flat Try.prog 4 31 = some [2, 2, 2] := by kernel_rfl
theorem flat26 : flat Try.prog 4 26 = some [2, 2] := by kernel_rfl

theorem open_conf {r : Reach} {v : Value} {d : DataW H} {p : List MemPlace} (hv : Value.okWide Try.prog w r b0 24 v) (h : DataW.Trod enc Try.prog w base spare held 24 v d p) : ∃ c : Conf, v = c.val := by
  obtain ⟨cs, rfl, _⟩ := okWide_struct Try.underlying24 hv
  obtain ⟨f, hf⟩ := h
  have E := trod_flat laidOut 4 f 24 _ _ _ flat24 (of_decide_eq_true (by kernel_rfl)) hf
  obtain ⟨l⟩ := cs
  have hl : l.length = 10 := E.1
  match l, hl, E with
  | [a0, a1, a2, a3, a4, a5, a6, a7, a8, a9], _, E =>
    obtain ⟨n0, rfl, _⟩ := E.int 0 rfl rfl Try.underlying3
    obtain ⟨n1, rfl, _⟩ := E.int 1 rfl rfl Try.underlying3
    obtain ⟨n2, rfl, _⟩ := E.int 2 rfl rfl Try.underlying22
    obtain ⟨n3, rfl, _⟩ := E.int 3 rfl rfl Try.underlying2
    obtain ⟨n4, rfl, _⟩ := E.int 4 rfl rfl Try.underlying2
    obtain ⟨n5, rfl, _⟩ := E.int 5 rfl rfl Try.underlying2
    obtain ⟨n6, rfl, _⟩ := E.int 6 rfl rfl Try.underlying2
    obtain ⟨n7, rfl, _⟩ := E.int 7 rfl rfl Try.underlying2
    obtain ⟨n8, rfl, _⟩ := E.int 8 rfl rfl Try.underlying3
    obtain ⟨n9, rfl⟩ := E.bool 9 rfl rfl Try.underlying4
    exact ⟨⟨n0, n1, n2, n3, n4, n5, n6, n7, n8, n9⟩, rfl⟩

theorem open_win {r : Reach} {v : Value} {d : DataW H} {p : List MemPlace} (hv : Value.okWide Try.prog w r b0 30 v) (h : DataW.Trod enc Try.prog w base spare held 30 v d p) : ∃ x : Win, v = x.val ∧ x.ok := by
  obtain ⟨cs, rfl, _⟩ := okWide_struct Try.underlying30 hv
  obtain ⟨f, hf⟩ := h
  have E := trod_flat laidOut 4 f 30 _ _ _ flat30 (of_decide_eq_true (by kernel_rfl)) hf
  obtain ⟨l⟩ := cs
  have hl : l.length = 9 := E.1
  match l, hl, E with
  | [a0, a1, a2, a3, a4, a5, a6, a7, a8], _, E =>
    obtain ⟨n0, rfl, h0⟩ := E.int 0 rfl rfl Try.underlying2
    obtain ⟨n1, rfl, h1⟩ := E.int 1 rfl rfl Try.underlying2
    obtain ⟨n2, rfl, h2⟩ := E.int 2 rfl rfl Try.underlying2
    obtain ⟨n3, rfl, h3⟩ := E.int 3 rfl rfl Try.underlying2
    obtain ⟨n4, rfl, h4⟩ := E.int 4 rfl rfl Try.underlying2
    obtain ⟨n5, rfl, h5⟩ := E.int 5 rfl rfl Try.underlying2
    obtain ⟨n6, rfl, h6⟩ := E.int 6 rfl rfl Try.underlying2
    obtain ⟨n7, rfl, h7⟩ := E.int 7 rfl rfl Try.underlying2
    obtain ⟨n8, rfl, h8⟩ := E.int 8 rfl rfl Try.underlying2
    exact ⟨⟨n0, n1, n2, n3, n4, n5, n6, n7, n8⟩, rfl, wf_i64 h0, wf_i64 h1, wf_i64 h2, wf_i64 h3, wf_i64 h4, wf_i64 h5, wf_i64 h6, wf_i64 h7, wf_i64 h8⟩

def I64 (n : Int) : Prop := -9223372036854775808 ≤ n ∧ n ≤ 9223372036854775807
theorem open_three {r : Reach} {v : Value} {d : DataW H} {p : List MemPlace} (hv : Value.okWide Try.prog w r b0 31 v) (h : DataW.Trod enc Try.prog w base spare held 31 v d p) : ∃ a b c : Int, v = .agg #[.int .i64 a, .int .i64 b, .int .i64 c] ∧ I64 a ∧ I64 b ∧ I64 c := by
  obtain ⟨cs, rfl, _⟩ := okWide_array Try.underlying31 hv
  obtain ⟨f, hf⟩ := h
  have E := trod_flat laidOut 4 f 31 _ _ _ flat31 (of_decide_eq_true (by kernel_rfl)) hf
  obtain ⟨l⟩ := cs
  have hl : l.length = 3 := E.1
  match l, hl, E with
  | [a0, a1, a2], _, E =>
    obtain ⟨n0, rfl, h0⟩ := E.int 0 rfl rfl Try.underlying2
    obtain ⟨n1, rfl, h1⟩ := E.int 1 rfl rfl Try.underlying2
    obtain ⟨n2, rfl, h2⟩ := E.int 2 rfl rfl Try.underlying2
    exact ⟨n0, n1, n2, rfl, wf_i64 h0, wf_i64 h1, wf_i64 h2⟩
theorem open_span {r : Reach} {v : Value} {d : DataW H} {p : List MemPlace} (hv : Value.okWide Try.prog w r b0 26 v) (h : DataW.Trod enc Try.prog w base spare held 26 v d p) : ∃ a b : Int, v = .agg #[.int .i64 a, .int .i64 b] ∧ I64 a ∧ I64 b := by
  obtain ⟨cs, rfl, _⟩ := okWide_struct Try.underlying26 hv
  obtain ⟨f, hf⟩ := h
  have E := trod_flat laidOut 4 f 26 _ _ _ flat26 (of_decide_eq_true (by kernel_rfl)) hf
  obtain ⟨l⟩ := cs
  have hl : l.length = 2 := E.1
  match l, hl, E with
  | [a0, a1], _, E =>
    obtain ⟨n0, rfl, h0⟩ := E.int 0 rfl rfl Try.underlying2
    obtain ⟨n1, rfl, h1⟩ := E.int 1 rfl rfl Try.underlying2
    exact ⟨n0, n1, rfl, wf_i64 h0, wf_i64 h1⟩
end Go.Proofs.Ytfpomiimloohkaa
