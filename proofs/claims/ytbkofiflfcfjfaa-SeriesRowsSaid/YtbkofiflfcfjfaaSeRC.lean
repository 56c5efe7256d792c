/- SeriesRows: THE STATEMENT. What is proved: Rows.SeriesRowsSaid: for every input the law returns true, and what was there reads as it did. -/
import Derived.Test.YtbkofiflfcfjfaaSeR
import Derived.Test.YtbkofiflfcfjfaaSeLaw
set_option linter.unusedSimpArgs false
set_option linter.unusedVariables false
namespace Go.Proofs.Ytbkofiflfcfjfaa
open Go.ChangeShapes Go.WideShapes Go.ChangeAt Go.RowKit Go.Kp
set_option linter.unusedVariables false

set_option maxRecDepth 100000 in
theorem rows_lifted (os : Os) (started : os.Started) (H : Type) (enc : TypeId × Value → H) :
    ReturnsInHanded {} Try.checked os 6 .any (Rows.seriesRowsSpec.pre6 enc Try.prog Try.f6 Rows.seriesRowsRow.domain false) (Rows.seriesRowsSpec.post enc Try.prog Try.f6 false true false false) := by
  refine returnsInHanded_of_change (C := Try.checked) own started (by kernel_rfl) Try.func6
    (ChangeSpec.witness6 (enc := enc) (C := Try.checked) false ⟨#[], #[.slice none 0 0, .int .i64 0, .int .u64 0], []⟩ 8 (by kernel_rfl) (by kernel_rfl) (by kernel_rfl) (by kernel_rfl)) ?_
  intro W base args ds gs before hval0 hW hcnd _
  have hval : ∀ (j : Nat) t v, Try.f6.params[j]? = some t → args[j]? = some v → Value.okWide Try.prog W .any base t v := hval0
  have hW' := hW
  obtain ⟨p, q, hA0, hV, rfl, hfz, hnd⟩ := hW
  have hA : DataW.TrodAll enc Try.prog W 0 (fun _ => true) true Try.f6.params.toList args.toList ds p := hA0
  rw [Try.params6] at hA hval
  obtain ⟨v0, vs0, d0, ds0, p0, q0, hargs, rfl, rfl, h0, r0⟩ := trodAll_cons hA
  obtain ⟨v1, vs1, d1, ds1, p1, q1, rfl, rfl, rfl, h1, r1⟩ := trodAll_cons r0
  obtain ⟨v2, vs2, d2, ds2, p2, q2, rfl, rfl, rfl, h2, r2⟩ := trodAll_cons r1
  obtain ⟨rfl, rfl, rfl⟩ := trodAll_nil r2
  obtain rfl : args = #[v0, v1, v2] := by cases args; simp_all
  obtain ⟨rfl, rfl⟩ := trodVars_none hV
  obtain ⟨a0, c0, l0, rfl, hn0, hr0⟩ := open_bits (hval 0 _ v0 rfl rfl) h0
  obtain ⟨n1, rfl, _, _, hw1⟩ := open_int Try.underlying3 (hval 1 _ v1 rfl rfl) h1
  have hb1 := wf_i64 hw1
  obtain ⟨n2, rfl, _, _, hw2⟩ := open_int Try.underlying27 (hval 2 _ v2 rfl rfl) h2
  obtain ⟨m2, rfl⟩ := Int.eq_ofNat_of_zero_le (wf_u64 hw2)
  refine (rows_any a0 _ c0 n1 m2 l0 W rfl hb1.2 hn0 hr0).mono fun e W' ⟨he, bel⟩ => ?_
  subst he
  exact ⟨_, rfl, post_true laidOut hW' rfl rfl (by kernel_rfl) rfl Try.underlying4 bel⟩

theorem rows_over : Rows.seriesRowsRow.holds Try.pinned (OpenSpec.ofChange Rows.seriesRowsSpec) :=
  OpenClaim.holds_of_wide 6 Try.f6 rfl rfl rfl rfl rfl rfl rfl ⟨rfl, rfl, rfl, rfl, rfl⟩ rfl rfl rfl rfl rfl (by kernel_rfl) Try.func6 (by kernel_rfl)
    (of_decide_eq_true (by kernel_rfl)) (by unfold Func.isWrapper; first | (rw [if_pos (by decide +kernel)]; kernel_rfl) | (rw [if_neg (by decide +kernel)]; exact ⟨rfl, rfl⟩))
    (fun os started H enc _ => rows_lifted os started H enc)

theorem rows_proved : Rows.SeriesRowsSaid := rows_over
#print axioms rows_proved
end Go.Proofs.Ytbkofiflfcfjfaa
