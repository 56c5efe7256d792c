/- The arguments of this seat's laws, opened: whole numbers, a list of calls. -/
import Derived.Test.YtchmlephgkimcaaSuI
import Derived.Test.YtchmlephgkimcaaOpen
import Derived.Test.YtchmlephgkimcaaLst
import Derived.Test.YtchmlephgkimcaaRows
import Derived.OpenShut
import Derived.SizedLaws
set_option linter.unusedSimpArgs false
set_option linter.unusedVariables false
namespace Go.Proofs.Ytchmlephgkimcaa
open Go.RowKit Go.Kp Go.ChangeShapes Go.WideShapes
variable {H : Type} {enc : TypeId × Value → H} {w : World} {base b0 : Nat} {spare : Nat → Bool} {held : Bool}

theorem own : ownKnob Try.prog.godebug = none := by kernel_rfl
theorem laidOut : laidOutB Try.prog = true := by kernel_rfl
theorem wrap_wf {n : Int} (h : (Lit.int .i64 n).wf = true) : IntKind.i64.wrap n = n := by
  have h := wf_i64 h
  rw [IntKind.wrap_i64 n]
  omega
theorem flatOp : flat Try.prog 6 45 = some [3, 3, 3, 3, 3, 3] := by kernel_rfl
theorem opr_of {ts : List Value} (E : EachCell enc Try.prog w base spare held [3, 3, 3, 3, 3, 3] ts) : ∃ s : Opr, ts = s.cells ∧ True := by
  have hl : ts.length = 6 := E.1
  match ts, hl, E with
  | [a0, a1, a2, a3, a4, a5], _, E =>
    obtain ⟨n0, rfl, h0⟩ := E.int 0 rfl rfl Try.underlying3
    obtain ⟨n1, rfl, h1⟩ := E.int 1 rfl rfl Try.underlying3
    obtain ⟨n2, rfl, h2⟩ := E.int 2 rfl rfl Try.underlying3
    obtain ⟨n3, rfl, h3⟩ := E.int 3 rfl rfl Try.underlying3
    obtain ⟨n4, rfl, h4⟩ := E.int 4 rfl rfl Try.underlying3
    obtain ⟨n5, rfl, h5⟩ := E.int 5 rfl rfl Try.underlying3
    exact ⟨⟨n0, n1, n2, n3, n4, n5⟩, rfl, trivial⟩
instance : Inhabited Opr := ⟨⟨0, 0, 0, 0, 0, 0⟩⟩
set_option maxRecDepth 100000
theorem open_oprs {r : Reach} {v : Value} {d : DataW H} {p : List MemPlace} (hv : Value.okWide Try.prog w r b0 23 v) (h : DataW.Trod enc Try.prog w base spare held 23 v d p)
    {ts : List TypeId} {ds : List (DataW H)} (hsz : (DataW.weightsEach Try.prog ts ds).all (· ≤ reachBytes) = true) {j : Nat} (hts : ts[j]? = some 23) (hds : ds[j]? = some d) :
    ∃ (a : Option Addr) (cap : Nat) (l : List Opr), v = .slice a l.length cap ∧ l.length ≤ 2932031007402 ∧ Rd w w.heap.size a (l.flatMap Opr.cells) := by
  obtain ⟨a, cap, l, h1, h2, h3, h4, h5, _⟩ := open_rows 23 45 6 48 Opr.cells (fun _ => True) Try.underlying23 (by kernel_rfl) (by kernel_rfl) opr_len (by omega)
    (fun f cs y hy => opr_of (trod_flat laidOut 6 f 45 _ _ _ flatOp (of_decide_eq_true (by kernel_rfl)) hy)) hv h hsz hts hds
  refine ⟨a, cap, l, h1, ?_, h3⟩
  simp only [reachBytes] at h2
  omega
end Go.Proofs.Ytchmlephgkimcaa
