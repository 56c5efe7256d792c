/- A list of panes among the arguments. -/
import Derived.Test.YtbkofiflfcfjfaaSqY
import Derived.Test.YtbkofiflfcfjfaaSeLaw
import Derived.Test.YtbkofiflfcfjfaaLst
set_option linter.unusedSimpArgs false
set_option linter.unusedVariables false
namespace Go.Proofs.Ytbkofiflfcfjfaa.Px
open Go.RowKit Go.Kp Go.ChangeShapes Go.WideShapes
variable {H : Type} {enc : TypeId × Value → H} {w : World} {base b0 : Nat} {spare : Nat → Bool} {held : Bool}

theorem ec_string {ts : List TypeId} {cs : List Value} (h : EachCell enc Try.prog w base spare held ts cs) (i : Nat) {u : TypeId} {v : Value} (hu : ts[i]? = some u) (hv : cs[i]? = some v) (ht : Try.prog.underlying u = some .string) :
    ∃ b : ByteArray, v = .string b ∧ b.size ≤ maxLen := by
  obtain ⟨m, y, hy⟩ := h.2 i u v hu hv
  cases m with
  | zero => simp [DataW.trod] at hy
  | succ m =>
    unfold DataW.trod at hy
    simp only [ht] at hy
    split at hy <;> first | (simp_all; done) | (rename_i hh; simp_all; done) | skip
    all_goals (split at hy <;> first | (exact ⟨_, by simp_all, by assumption⟩) | (simp_all; done))
theorem flatPane : flat Try.prog 6 92 = some [9, 2, 2, 88, 2, 2, 2, 2, 2] := by kernel_rfl
theorem pane_of {ts : List Value} (E : EachCell enc Try.prog w base spare held [9, 2, 2, 88, 2, 2, 2, 2, 2] ts) : ∃ s : Pn, ts = s.cl ∧ True := by
  have hl : ts.length = 9 := E.1
  match ts, hl, E with
  | [a0, a1, a2, a3, a4, a5, a6, a7, a8], _, E =>
    obtain ⟨n0, rfl, _⟩ := ec_string E 0 rfl rfl Try.underlying9
    obtain ⟨n1, rfl, _⟩ := E.int 1 rfl rfl Try.underlying2
    obtain ⟨n2, rfl, _⟩ := E.int 2 rfl rfl Try.underlying2
    obtain ⟨n3, rfl, _⟩ := E.int 3 rfl rfl Try.underlying88
    obtain ⟨n4, rfl, _⟩ := E.int 4 rfl rfl Try.underlying2
    obtain ⟨n5, rfl, _⟩ := E.int 5 rfl rfl Try.underlying2
    obtain ⟨n6, rfl, _⟩ := E.int 6 rfl rfl Try.underlying2
    obtain ⟨n7, rfl, _⟩ := E.int 7 rfl rfl Try.underlying2
    obtain ⟨n8, rfl, _⟩ := E.int 8 rfl rfl Try.underlying2
    exact ⟨⟨n0, n1, n2, n3, n4, n5, n6, n7, n8⟩, rfl, trivial⟩
instance : Inhabited Pn := ⟨Pn.zero⟩
set_option maxRecDepth 100000 in
theorem open_panes {r : Reach} {v : Value} {d : DataW H} {p : List MemPlace} (hv : Value.okWide Try.prog w r b0 85 v) (h : DataW.Trod enc Try.prog w base spare held 85 v d p)
    {ts : List TypeId} {ds : List (DataW H)} (hsz : (DataW.weightsEach Try.prog ts ds).all (· ≤ reachBytes) = true) {j : Nat} (hts : ts[j]? = some 85) (hds : ds[j]? = some d) :
    ∃ (a : Option Addr) (cap : Nat) (l : List Pn), v = .slice a l.length cap ∧ l.length ≤ 1759218604391 ∧ Rd w w.heap.size a (l.flatMap Pn.cl) ∧ (a = none → cap = 0) := by
  obtain ⟨a, cap, l, h1, h2, h3, _, h5, _⟩ := open_rows 85 92 9 80 Pn.cl (fun _ => True) Try.underlying85 (by kernel_rfl) (by kernel_rfl) Pn.cl_len (by omega)
    (fun f cs y hy => pane_of (trod_flat laidOut 6 f 92 _ _ _ flatPane (of_decide_eq_true (by kernel_rfl)) hy)) hv h hsz hts hds
  refine ⟨a, cap, l, h1, ?_, h3, h5⟩
  simp only [reachBytes] at h2
  omega
end Go.Proofs.Ytbkofiflfcfjfaa.Px
