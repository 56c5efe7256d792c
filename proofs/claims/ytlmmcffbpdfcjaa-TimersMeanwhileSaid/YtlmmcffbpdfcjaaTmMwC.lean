/- TimersMeanwhile: THE STATEMENT. What is proved: Rows.TimersMeanwhileSaid: for every input the law returns true, and what was there reads as it did. -/
import Derived.Test.YtlmmcffbpdfcjaaTmMw3
import Derived.Test.YtlmmcffbpdfcjaaTmStL
set_option linter.unusedSimpArgs false
set_option linter.unusedVariables false
namespace Go.Proofs.Ytlmmcffbpdfcjaa
open Go.ChangeShapes Go.WideShapes Go.ChangeAt Go.RowKit Go.Kp
set_option linter.unusedVariables false

set_option maxRecDepth 100000 in
theorem mean_lifted (os : Os) (started : os.Started) (H : Type) (enc : TypeId × Value → H) :
    ReturnsInHanded {} Try.checked os 6 .any (Rows.timersMeanwhileSpec.pre6 enc Try.prog Try.f6 Rows.timersMeanwhileRow.domain false) (Rows.timersMeanwhileSpec.post enc Try.prog Try.f6 false true false false) := by
  refine returnsInHanded_of_change_sized (C := Try.checked) own started (by kernel_rfl) Try.func6
    (ChangeSpec.witness6 (enc := enc) (C := Try.checked) false ⟨#[], #[.slice none 0 0, .slice none 0 0], []⟩ 8 (by kernel_rfl) (by kernel_rfl) (by kernel_rfl) (by kernel_rfl)) ?_
  intro W base args ds gs before hval0 hW hcnd hsz0 _
  have hval : ∀ (j : Nat) t v, Try.f6.params[j]? = some t → args[j]? = some v → Value.okWide Try.prog W .any base t v := hval0
  have hsz : (DataW.weightsEach Try.prog (Try.f6.params.toList ++ Rows.timersMeanwhileSpec.plain.varTypes Try.prog) (ds ++ gs)).all (· ≤ reachBytes) = true := hsz0
  clear hsz0
  have hW' := hW
  obtain ⟨p, q, hA0, hV, rfl, hfz, hnd⟩ := hW
  have hA : DataW.TrodAll enc Try.prog W 0 (fun _ => true) true Try.f6.params.toList args.toList ds p := hA0
  rw [Try.params6] at hA hval hsz
  obtain ⟨v0, vs0, d0, ds0, p0, q0, hargs, rfl, rfl, h0, r0⟩ := trodAll_cons hA
  obtain ⟨v1, vs1, d1, ds1, p1, q1, rfl, rfl, rfl, h1, r1⟩ := trodAll_cons r0
  obtain ⟨rfl, rfl, rfl⟩ := trodAll_nil r1
  obtain rfl : args = #[v0, v1] := by cases args; simp_all
  obtain ⟨rfl, rfl⟩ := trodVars_none hV
  obtain ⟨a, cap, l, rfl, hn, hr, hok, hnil, _⟩ := open_tms (hval 0 _ v0 rfl rfl) h0 hsz (j := 0) rfl rfl
  obtain ⟨sa, sc, ss, rfl, hsn, hsr, hsok, _⟩ := open_stps (hval 1 _ v1 rfl rfl) h1 hsz (j := 1) rfl rfl
  refine (mean a l.length cap l sa ss.length sc ss W rfl hn hnil hr hok rfl hsn hsr hsok).mono fun e W' ⟨he, bel⟩ => ?_
  subst he
  exact ⟨_, rfl, post_true laidOut hW' rfl rfl (by kernel_rfl) rfl Try.underlying4 bel⟩

theorem mean_over : Rows.timersMeanwhileRow.holds Try.pinned (OpenSpec.ofChange Rows.timersMeanwhileSpec) :=
  OpenClaim.holds_of_wide 6 Try.f6 rfl rfl rfl rfl rfl rfl rfl ⟨rfl, rfl, rfl, rfl, rfl⟩ rfl rfl rfl rfl rfl (by kernel_rfl) Try.func6 (by kernel_rfl)
    (of_decide_eq_true (by kernel_rfl)) (by unfold Func.isWrapper; first | (rw [if_pos (by decide +kernel)]; kernel_rfl) | (rw [if_neg (by decide +kernel)]; exact ⟨rfl, rfl⟩))
    (fun os started H enc _ => mean_lifted os started H enc)

theorem mean_proved : Rows.TimersMeanwhileSaid := mean_over
#print axioms mean_proved
end Go.Proofs.Ytlmmcffbpdfcjaa
