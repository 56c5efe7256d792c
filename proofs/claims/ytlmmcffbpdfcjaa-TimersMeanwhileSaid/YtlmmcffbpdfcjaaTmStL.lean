/- A list of steps among the arguments. -/
import Derived.Test.YtlmmcffbpdfcjaaTmPl3
import Derived.Test.YtlmmcffbpdfcjaaTmLaw
set_option linter.unusedSimpArgs false
set_option linter.unusedVariables false
namespace Go.Proofs.Ytlmmcffbpdfcjaa
open Go.RowKit Go.Kp Go.ChangeShapes Go.WideShapes
variable {H : Type} {enc : TypeId × Value → H} {w : World} {base b0 : Nat} {spare : Nat → Bool} {held : Bool}

theorem flatStep : flat Try.prog 6 50 = some [3, 3, 3, 2, 9, 2, 2, 2, 9, 2, 2, 2] := by kernel_rfl
theorem r64 {n : Int} (h : (Lit.int .i64 n).wf = true) : R64 n := by
  have := wf_i64 h
  exact this
theorem stp_of {ts : List Value} (E : EachCell enc Try.prog w base spare held [3, 3, 3, 2, 9, 2, 2, 2, 9, 2, 2, 2] ts) : ∃ s : Stp, ts = s.cells ∧ s.ok := by
  have hl : ts.length = 12 := E.1
  match ts, hl, E with
  | [a0, a1, a2, a3, a4, a5, a6, a7, a8, a9, a10, a11], _, E =>
    obtain ⟨n0, rfl, h0⟩ := E.int 0 rfl rfl Try.underlying3
    obtain ⟨n1, rfl, h1⟩ := E.int 1 rfl rfl Try.underlying3
    obtain ⟨n2, rfl, h2⟩ := E.int 2 rfl rfl Try.underlying3
    obtain ⟨n3, rfl, h3⟩ := E.int 3 rfl rfl Try.underlying2
    obtain ⟨n4, rfl, h4⟩ := ec_string E 4 rfl rfl Try.underlying9
    obtain ⟨n5, rfl, h5⟩ := E.int 5 rfl rfl Try.underlying2
    obtain ⟨n6, rfl, h6⟩ := E.int 6 rfl rfl Try.underlying2
    obtain ⟨n7, rfl, h7⟩ := E.int 7 rfl rfl Try.underlying2
    obtain ⟨n8, rfl, h8⟩ := ec_string E 8 rfl rfl Try.underlying9
    obtain ⟨n9, rfl, h9⟩ := E.int 9 rfl rfl Try.underlying2
    obtain ⟨n10, rfl, h10⟩ := E.int 10 rfl rfl Try.underlying2
    obtain ⟨n11, rfl, h11⟩ := E.int 11 rfl rfl Try.underlying2
    exact ⟨⟨n0, n1, n2, ⟨n3, n4, n5, n6⟩, ⟨n7, n8, n9, n10⟩, n11⟩, rfl, r64 h0, r64 h1, r64 h2, ⟨h3, h4, h5, h6⟩, ⟨h7, h8, h9, h10⟩, r64 h11⟩
instance : Inhabited Stp := ⟨⟨0, 0, 0, ⟨0, ⟨#[]⟩, 0, 0⟩, ⟨0, ⟨#[]⟩, 0, 0⟩, 0⟩⟩
theorem open_stps {r : Reach} {v : Value} {d : DataW H} {p : List MemPlace} (hv : Value.okWide Try.prog w r b0 38 v) (h : DataW.Trod enc Try.prog w base spare held 38 v d p)
    {ts : List TypeId} {ds : List (DataW H)} (hsz : (DataW.weightsEach Try.prog ts ds).all (· ≤ reachBytes) = true) {j : Nat} (hts : ts[j]? = some 38) (hds : ds[j]? = some d) :
    ∃ (a : Option Addr) (cap : Nat) (l : List Stp), v = .slice a l.length cap ∧ l.length ≤ 1256584717493 ∧ Rd w w.heap.size a (l.flatMap Stp.cells) ∧ (∀ x ∈ l, x.ok) ∧ (a = none → cap = 0) := by
  obtain ⟨a, cap, l, h1, h2, h3, h4, h5, _⟩ := open_rows 38 50 12 112 Stp.cells Stp.ok Try.underlying38 (by kernel_rfl) (by kernel_rfl) stp_len (by omega)
    (fun f cs y hy => stp_of (trod_flat laidOut 6 f 50 _ _ _ flatStep (of_decide_eq_true (by kernel_rfl)) hy)) hv h hsz hts hds
  refine ⟨a, cap, l, h1, ?_, h3, h4, h5⟩
  simp only [reachBytes] at h2
  omega
end Go.Proofs.Ytlmmcffbpdfcjaa
