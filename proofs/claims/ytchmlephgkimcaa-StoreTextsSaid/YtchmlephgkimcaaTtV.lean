/- StoreTexts: THE STATEMENT. What is proved: Rows.StoreTextsSaid: for every input the law returns true, and what was there reads as it did. -/
import Derived.Test.YtchmlephgkimcaaTtU
import Derived.Test.YtchmlephgkimcaaOpen
import Derived.Test.YtchmlephgkimcaaLst
import Derived.Test.YtchmlephgkimcaaRows
import Derived.OpenShut
import Derived.SizedLaws
set_option linter.unusedSimpArgs false
set_option linter.unusedVariables false
namespace Go.Proofs.Ytchmlephgkimcaa
open Go.ChangeShapes Go.WideShapes Go.ChangeAt Go.RowKit Go.Kp
set_option linter.unusedVariables false

theorem own : ownKnob Try.prog.godebug = none := by kernel_rfl
theorem laidOut : laidOutB Try.prog = true := by kernel_rfl
section
variable {H : Type} {enc : TypeId × Value → H} {w : World} {base b0 : Nat} {spare : Nat → Bool} {held : Bool}
theorem ec_string {ts : List TypeId} {cs : List Value} (h : EachCell enc Try.prog w base spare held ts cs) (i : Nat) {u : TypeId} {v : Value} (hu : ts[i]? = some u) (hv : cs[i]? = some v) (ht : Try.prog.underlying u = some .string) :
    ∃ b : ByteArray, v = .string b ∧ b.size ≤ maxLen := by
  obtain ⟨m, y, hy⟩ := h.2 i u v hu hv
  cases m with
  | zero => simp [DataW.trod] at hy
  | succ m =>
    unfold DataW.trod at hy
    simp only [ht] at hy
    split at hy <;> first | (simp_all; done) | (rename_i hh; simp_all; done) | skip
    all_goals (split at hy <;> first | (exact ⟨_, by simp_all, by assumption⟩) | (simp_all; done))
theorem flatSt : flat Try.prog 6 9 = some [9] := by kernel_rfl
theorem str_of {ts : List Value} (E : EachCell enc Try.prog w base spare held [9] ts) : ∃ s : ByteArray, ts = [Value.string s] ∧ True := by
  have hl : ts.length = 1 := E.1
  match ts, hl, E with
  | [a0], _, E =>
    obtain ⟨n0, rfl, _⟩ := ec_string E 0 rfl rfl Try.underlying9
    exact ⟨n0, rfl, trivial⟩
theorem ss_flat (l : List ByteArray) : l.flatMap (fun s => [Value.string s]) = Tx.ss l := by
  unfold Tx.ss
  induction l with
  | nil => rfl
  | cons x l ih => simp [ih]
set_option maxRecDepth 100000
theorem open_texts {r : Reach} {v : Value} {d : DataW H} {p : List MemPlace} (hv : Value.okWide Try.prog w r b0 49 v) (h : DataW.Trod enc Try.prog w base spare held 49 v d p)
    {ts : List TypeId} {ds : List (DataW H)} (hsz : (DataW.weightsEach Try.prog ts ds).all (· ≤ reachBytes) = true) {j : Nat} (hts : ts[j]? = some 49) (hds : ds[j]? = some d) :
    ∃ (a : Option Addr) (cap : Nat) (l : List ByteArray), v = .slice a l.length cap ∧ l.length ≤ 8796093022208 ∧ Rd w w.heap.size a (Tx.ss l) := by
  obtain ⟨a, cap, l, h1, h2, h3, h4, h5, _⟩ := open_rows 49 9 1 16 (fun s => [Value.string s]) (fun _ => True) Try.underlying49 (by kernel_rfl) (by kernel_rfl) (fun _ => rfl) (by omega)
    (fun f cs y hy => str_of (trod_flat laidOut 6 f 9 _ _ _ flatSt (of_decide_eq_true (by kernel_rfl)) hy)) hv h hsz hts hds
  rw [ss_flat] at h3
  refine ⟨a, cap, l, h1, ?_, h3⟩
  simp only [reachBytes] at h2
  omega
end

set_option maxRecDepth 100000 in
theorem texts_lifted (os : Os) (started : os.Started) (H : Type) (enc : TypeId × Value → H) :
    ReturnsInHanded {} Try.checked os 4 .any (Rows.storeTextsSpec.pre6 enc Try.prog Try.f4 Rows.storeTextsRow.domain false) (Rows.storeTextsSpec.post enc Try.prog Try.f4 false true false false) := by
  refine returnsInHanded_of_change_sized (C := Try.checked) own started (by kernel_rfl) Try.func4
    (ChangeSpec.witness6 (enc := enc) (C := Try.checked) false ⟨#[], #[.slice none 0 0, .slice none 0 0, .string .empty], []⟩ 8 (by kernel_rfl) (by kernel_rfl) (by kernel_rfl) (by kernel_rfl)) ?_
  intro W base args ds gs before hval0 hW hcnd hsz0 _
  have hval : ∀ (j : Nat) t v, Try.f4.params[j]? = some t → args[j]? = some v → Value.okWide Try.prog W .any base t v := hval0
  have hsz : (DataW.weightsEach Try.prog (Try.f4.params.toList ++ Rows.storeTextsSpec.plain.varTypes Try.prog) (ds ++ gs)).all (· ≤ reachBytes) = true := hsz0
  clear hsz0
  have hW' := hW
  obtain ⟨p, q, hA0, hV, rfl, hfz, hnd⟩ := hW
  have hA : DataW.TrodAll enc Try.prog W 0 (fun _ => true) true Try.f4.params.toList args.toList ds p := hA0
  rw [Try.params4] at hA hval hsz
  obtain ⟨v0, vs0, d0, ds0, p0, q0, hargs, rfl, rfl, h0, r0⟩ := trodAll_cons hA
  obtain ⟨v1, vs1, d1, ds1, p1, q1, rfl, rfl, rfl, h1, r1⟩ := trodAll_cons r0
  obtain ⟨v2, vs2, d2, ds2, p2, q2, rfl, rfl, rfl, h2, r2⟩ := trodAll_cons r1
  obtain ⟨rfl, rfl, rfl⟩ := trodAll_nil r2
  obtain rfl : args = #[v0, v1, v2] := by cases args; simp_all
  obtain ⟨rfl, rfl⟩ := trodVars_none hV
  obtain ⟨ka, kc, ks, rfl, hkn, hkr⟩ := open_texts (hval 0 _ v0 rfl rfl) h0 hsz (j := 0) rfl rfl
  obtain ⟨ga, gc, gs', rfl, hgn, hgr⟩ := open_texts (hval 1 _ v1 rfl rfl) h1 hsz (j := 1) rfl rfl
  obtain ⟨f2, hf2⟩ := h2
  obtain ⟨cs2, rfl⟩ : ∃ s, v2 = .string s := by
    obtain ⟨s, hs⟩ := okWide_string Try.underlying9 (hval 2 _ v2 rfl rfl)
    exact ⟨s, hs⟩
  refine (Tx.texts_any ka ks.length kc ks ga gs'.length gc gs' cs2 rfl hkn hkr rfl hgn hgr).mono fun e W' ⟨he, bel⟩ => ?_
  subst he
  exact ⟨_, rfl, post_true laidOut hW' rfl rfl (by kernel_rfl) rfl Try.underlying4 bel⟩

theorem texts_over : Rows.storeTextsRow.holds Try.pinned (OpenSpec.ofChange Rows.storeTextsSpec) :=
  OpenClaim.holds_of_wide 4 Try.f4 rfl rfl rfl rfl rfl rfl rfl ⟨rfl, rfl, rfl, rfl, rfl⟩ rfl rfl rfl rfl rfl (by kernel_rfl) Try.func4 (by kernel_rfl)
    (of_decide_eq_true (by kernel_rfl)) (by unfold Func.isWrapper; first | (rw [if_pos (by decide +kernel)]; kernel_rfl) | (rw [if_neg (by decide +kernel)]; exact ⟨rfl, rfl⟩))
    (fun os started H enc _ => texts_lifted os started H enc)

theorem texts_proved : Rows.StoreTextsSaid := texts_over
#print axioms texts_proved
end Go.Proofs.Ytchmlephgkimcaa
