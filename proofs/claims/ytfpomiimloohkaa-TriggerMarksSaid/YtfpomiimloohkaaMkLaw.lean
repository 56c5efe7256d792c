/- The arguments of the laws of a mark, opened. -/
import Derived.Test.YtfpomiimloohkaaMkB
import Derived.Test.YtfpomiimloohkaaLaw
import Derived.Test.YtfpomiimloohkaaLst
set_option linter.unusedSimpArgs false
set_option linter.unusedVariables false
namespace Go.Proofs.Ytfpomiimloohkaa
open Go.RowKit Go.Kp Go.ChangeShapes Go.WideShapes
variable {H : Type} {enc : TypeId × Value → H} {w : World} {base b0 : Nat} {spare : Nat → Bool} {held : Bool}

theorem flat53 : flat Try.prog 4 53 = some [2, 2] := by kernel_rfl
theorem open_two {r : Reach} {v : Value} {d : DataW H} {p : List MemPlace} (hv : Value.okWide Try.prog w r b0 53 v) (h : DataW.Trod enc Try.prog w base spare held 53 v d p) : ∃ a b : Int, v = .agg #[.int .i64 a, .int .i64 b] ∧ I64 a ∧ I64 b := by
  obtain ⟨cs, rfl, _⟩ := okWide_array Try.underlying53 hv
  obtain ⟨f, hf⟩ := h
  have E := trod_flat laidOut 4 f 53 _ _ _ flat53 (of_decide_eq_true (by kernel_rfl)) hf
  obtain ⟨l⟩ := cs
  have hl : l.length = 2 := E.1
  match l, hl, E with
  | [a0, a1], _, E =>
    obtain ⟨n0, rfl, h0⟩ := E.int 0 rfl rfl Try.underlying2
    obtain ⟨n1, rfl, h1⟩ := E.int 1 rfl rfl Try.underlying2
    exact ⟨n0, n1, rfl, wf_i64 h0, wf_i64 h1⟩
theorem open_confL {r : Reach} {v : Value} {d : DataW H} {p : List MemPlace} (hv : Value.okWide Try.prog w r b0 24 v) (h : DataW.Trod enc Try.prog w base spare held 24 v d p) : ∃ c : Conf, v = c.val ∧ I64 c.la := by
  obtain ⟨cs, rfl, _⟩ := okWide_struct Try.underlying24 hv
  obtain ⟨f, hf⟩ := h
  have E := trod_flat laidOut 4 f 24 _ _ _ flat24 (of_decide_eq_true (by kernel_rfl)) hf
  obtain ⟨l⟩ := cs
  have hl : l.length = 10 := E.1
  match l, hl, E with
  | [a0, a1, a2, a3, a4, a5, a6, a7, a8, a9], _, E =>
    obtain ⟨n0, rfl, _⟩ := E.int 0 rfl rfl Try.underlying3
    obtain ⟨n1, rfl, _⟩ := E.int 1 rfl rfl Try.underlying3
    obtain ⟨n2, rfl, _⟩ := E.int 2 rfl rfl Try.underlying22
    obtain ⟨n3, rfl, _⟩ := E.int 3 rfl rfl Try.underlying2
    obtain ⟨n4, rfl, _⟩ := E.int 4 rfl rfl Try.underlying2
    obtain ⟨n5, rfl, _⟩ := E.int 5 rfl rfl Try.underlying2
    obtain ⟨n6, rfl, _⟩ := E.int 6 rfl rfl Try.underlying2
    obtain ⟨n7, rfl, h7⟩ := E.int 7 rfl rfl Try.underlying2
    obtain ⟨n8, rfl, _⟩ := E.int 8 rfl rfl Try.underlying3
    obtain ⟨n9, rfl⟩ := E.bool 9 rfl rfl Try.underlying4
    exact ⟨⟨n0, n1, n2, n3, n4, n5, n6, n7, n8, n9⟩, rfl, wf_i64 h7⟩
theorem win_of {ts : List Value} (E : EachCell enc Try.prog w base spare held [2, 2, 2, 2, 2, 2, 2, 2, 2] ts) : ∃ x : Win, ts = x.cl ∧ x.ok := by
  have hl : ts.length = 9 := E.1
  match ts, hl, E with
  | [a0, a1, a2, a3, a4, a5, a6, a7, a8], _, E =>
    obtain ⟨n0, rfl, h0⟩ := E.int 0 rfl rfl Try.underlying2
    obtain ⟨n1, rfl, h1⟩ := E.int 1 rfl rfl Try.underlying2
    obtain ⟨n2, rfl, h2⟩ := E.int 2 rfl rfl Try.underlying2
    obtain ⟨n3, rfl, h3⟩ := E.int 3 rfl rfl Try.underlying2
    obtain ⟨n4, rfl, h4⟩ := E.int 4 rfl rfl Try.underlying2
    obtain ⟨n5, rfl, h5⟩ := E.int 5 rfl rfl Try.underlying2
    obtain ⟨n6, rfl, h6⟩ := E.int 6 rfl rfl Try.underlying2
    obtain ⟨n7, rfl, h7⟩ := E.int 7 rfl rfl Try.underlying2
    obtain ⟨n8, rfl, h8⟩ := E.int 8 rfl rfl Try.underlying2
    exact ⟨⟨n0, n1, n2, n3, n4, n5, n6, n7, n8⟩, rfl, wf_i64 h0, wf_i64 h1, wf_i64 h2, wf_i64 h3, wf_i64 h4, wf_i64 h5, wf_i64 h6, wf_i64 h7, wf_i64 h8⟩
instance : Inhabited Win := ⟨⟨0, 0, 0, 0, 0, 0, 0, 0, 0⟩⟩
theorem open_wins {r : Reach} {v : Value} {d : DataW H} {p : List MemPlace} (hv : Value.okWide Try.prog w r b0 52 v) (h : DataW.Trod enc Try.prog w base spare held 52 v d p)
    {ts : List TypeId} {ds : List (DataW H)} (hsz : (DataW.weightsEach Try.prog ts ds).all (· ≤ reachBytes) = true) {j : Nat} (hts : ts[j]? = some 52) (hds : ds[j]? = some d) :
    ∃ (a : Option Addr) (cap : Nat) (l : List Win), v = .slice a l.length cap ∧ l.length ≤ 1954687338211 ∧ Rd w w.heap.size a (l.flatMap Win.cl) ∧ (∀ x ∈ l, x.ok) ∧ (a = none → cap = 0) := by
  obtain ⟨a, cap, l, h1, h2, h3, h4, h5, _⟩ := open_rows 52 30 9 72 Win.cl Win.ok Try.underlying52 (by kernel_rfl) (by kernel_rfl) Win.len (by omega)
    (fun f cs y hy => win_of (trod_flat laidOut 4 f 30 _ _ _ flat30 (of_decide_eq_true (by kernel_rfl)) hy)) hv h hsz hts hds
  refine ⟨a, cap, l, h1, ?_, h3, h4, h5⟩
  simp only [reachBytes] at h2
  omega
end Go.Proofs.Ytfpomiimloohkaa
