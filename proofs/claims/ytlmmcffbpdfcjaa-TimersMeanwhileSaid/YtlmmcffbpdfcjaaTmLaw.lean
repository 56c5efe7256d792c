/- The arguments of this seat's laws, opened. -/
import Derived.Test.YtlmmcffbpdfcjaaTmKn
import Derived.Test.YtlmmcffbpdfcjaaOpen
import Derived.Test.YtlmmcffbpdfcjaaLst
import Derived.Test.YtlmmcffbpdfcjaaRows
set_option linter.unusedSimpArgs false
set_option linter.unusedVariables false
namespace Go.Proofs.Ytlmmcffbpdfcjaa
open Go.RowKit Go.Kp Go.ChangeShapes Go.WideShapes
variable {H : Type} {enc : TypeId × Value → H} {w : World} {base b0 : Nat} {spare : Nat → Bool} {held : Bool}

theorem own : ownKnob Try.prog.godebug = none := by kernel_rfl
theorem laidOut : laidOutB Try.prog = true := by kernel_rfl
theorem flatTm : flat Try.prog 4 25 = some [2, 9, 2, 2] := by kernel_rfl

theorem ec_string {ts : List TypeId} {cs : List Value} (h : EachCell enc Try.prog w base spare held ts cs) (i : Nat) {u : TypeId} {v : Value} (hu : ts[i]? = some u) (hv : cs[i]? = some v) (ht : Try.prog.underlying u = some .string) :
    ∃ b : ByteArray, v = .string b ∧ b.size ≤ maxLen := by
  obtain ⟨m, y, hy⟩ := h.2 i u v hu hv
  cases m with
  | zero => simp [DataW.trod] at hy
  | succ m =>
    unfold DataW.trod at hy
    simp only [ht] at hy
    split at hy <;> first | (simp_all; done) | (rename_i hh; simp_all; done) | skip
    all_goals (split at hy <;> first | (exact ⟨_, by simp_all, by assumption⟩) | (simp_all; done))
theorem open_tm {r : Reach} {v : Value} {d : DataW H} {p : List MemPlace} (hv : Value.okWide Try.prog w r b0 25 v) (h : DataW.Trod enc Try.prog w base spare held 25 v d p) : ∃ x : Tm.T, v = vT x ∧ Ok x := by
  obtain ⟨cs, rfl, _⟩ := okWide_struct Try.underlying25 hv
  obtain ⟨f, hf⟩ := h
  have E := trod_flat laidOut 4 f 25 _ _ _ flatTm (of_decide_eq_true (by kernel_rfl)) hf
  obtain ⟨l⟩ := cs
  have hl : l.length = 4 := E.1
  match l, hl, E with
  | [a0, a1, a2, a3], _, E =>
    obtain ⟨n0, rfl, h0⟩ := E.int 0 rfl rfl Try.underlying2
    obtain ⟨n1, rfl, h1⟩ := ec_string E 1 rfl rfl Try.underlying9
    obtain ⟨n2, rfl, h2⟩ := E.int 2 rfl rfl Try.underlying2
    obtain ⟨n3, rfl, h3⟩ := E.int 3 rfl rfl Try.underlying2
    exact ⟨⟨n0, n1, n2, n3⟩, rfl, h0, h1, h2, h3⟩

/-- What the cells of a timer are. -/
theorem tm_of {ts : List Value} (E : EachCell enc Try.prog w base spare held [2, 9, 2, 2] ts) : ∃ x : Tm.T, ts = cT x ∧ Ok x := by
  have hl : ts.length = 4 := E.1
  match ts, hl, E with
  | [a0, a1, a2, a3], _, E =>
    obtain ⟨n0, rfl, h0⟩ := E.int 0 rfl rfl Try.underlying2
    obtain ⟨n1, rfl, h1⟩ := ec_string E 1 rfl rfl Try.underlying9
    obtain ⟨n2, rfl, h2⟩ := E.int 2 rfl rfl Try.underlying2
    obtain ⟨n3, rfl, h3⟩ := E.int 3 rfl rfl Try.underlying2
    exact ⟨⟨n0, n1, n2, n3⟩, rfl, h0, h1, h2, h3⟩
instance : Inhabited Tm.T := ⟨⟨0, ⟨#[]⟩, 0, 0⟩⟩
/-- A list of timers, however long. -/
theorem open_tms0 {r : Reach} {v : Value} {d : DataW H} {p : List MemPlace} (hv : Value.okWide Try.prog w r b0 29 v) (h : DataW.Trod enc Try.prog w base spare held 29 v d p) :
    ∃ (a : Option Addr) (cap : Nat) (l : List Tm.T), v = .slice a l.length cap ∧ Rd w w.heap.size a (l.flatMap cT) ∧ (∀ x ∈ l, Ok x) ∧ (a = none → cap = 0) ∧ (l = [] ∨ ∃ elems sp, d = .slice elems sp ∧ elems.length = l.length) :=
  open_rows0 29 25 4 cT Ok Try.underlying29 (by kernel_rfl) cT_len (by omega)
    (fun f cs y hy => tm_of (trod_flat laidOut 4 f 25 _ _ _ flatTm (of_decide_eq_true (by kernel_rfl)) hy)) hv h
/-- A list of timers. -/
theorem open_tms {r : Reach} {v : Value} {d : DataW H} {p : List MemPlace} (hv : Value.okWide Try.prog w r b0 29 v) (h : DataW.Trod enc Try.prog w base spare held 29 v d p)
    {ts : List TypeId} {ds : List (DataW H)} (hsz : (DataW.weightsEach Try.prog ts ds).all (· ≤ reachBytes) = true) {j : Nat} (hts : ts[j]? = some 29) (hds : ds[j]? = some d) :
    ∃ (a : Option Addr) (cap : Nat) (l : List Tm.T), v = .slice a l.length cap ∧ l.length ≤ 3518437208780 ∧ Rd w w.heap.size a (l.flatMap cT) ∧ (∀ x ∈ l, Ok x) ∧ (a = none → cap = 0) ∧ (l = [] ∨ ∃ elems sp, d = .slice elems sp ∧ elems.length = l.length) := by
  obtain ⟨a, cap, l, h1, h2, h3⟩ := open_rows 29 25 4 40 cT Ok Try.underlying29 (by kernel_rfl) (by kernel_rfl) cT_len (by omega)
    (fun f cs y hy => tm_of (trod_flat laidOut 4 f 25 _ _ _ flatTm (of_decide_eq_true (by kernel_rfl)) hy)) hv h hsz hts hds
  refine ⟨a, cap, l, h1, ?_, h3⟩
  simp only [reachBytes] at h2
  omega
end Go.Proofs.Ytlmmcffbpdfcjaa
