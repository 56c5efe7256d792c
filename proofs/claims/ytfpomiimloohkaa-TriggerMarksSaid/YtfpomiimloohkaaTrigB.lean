/- Behind, the program's and the reference's. -/
import Derived.Test.YtfpomiimloohkaaTrigA
set_option linter.unusedSimpArgs false
set_option linter.unusedVariables false
namespace Go.Proofs.Ytfpomiimloohkaa
open Go.RowKit Go.Kp

def behind (c : Conf) (x : Win) (m : Int) : Int × Bool :=
  if x.e ≤ m then (3, true) else if (c.ea != 0 && decide (c.ea ≤ x.si)) = true then (1, true) else (0, false)
theorem behind_late {c : Conf} {x : Win} {m : Int} (h : x.e ≤ m) : behind c x m = (3, true) := if_pos h
theorem behind_early {c : Conf} {x : Win} {m : Int} (h : m < x.e) (h2 : (c.ea != 0 && decide (c.ea ≤ x.si)) = true) : behind c x m = (1, true) := by
  unfold behind; rw [if_neg (by omega), if_pos h2]
theorem behind_none {c : Conf} {x : Win} {m : Int} (h : m < x.e) (h2 : (c.ea != 0 && decide (c.ea ≤ x.si)) = false) : behind c x m = (0, false) := by
  unfold behind; rw [if_neg (by omega), if_neg (by rw [h2]; decide)]

theorem behind_any (x : Win) (c : Conf) (m : Int) (w : World) :
    Calls Try.prog 8 #[c.val, x.val, .int .i64 m] w (Ret (.tuple #[.int .i64 (behind c x m).1, .bool (behind c x m).2]) w) := by
  go_enter Try.func8, Try.ntmps8
  go_wp2
  refine wp_scope_jumps 0 (fun a' w' => ∃ (k : Int) (u0 u1 u2 u3 u4 u5 u6 u7 u8 u10 u11 u12 u13 u14 u15 u16 u17 u18 u19 u20 u21 u22 u23 u24 u25 : Value), a' = { tmps := #[u0, u1, u2, u3, u4, u5, u6, u7, u8, (.int .i64 k), u10, u11, u12, u13, u14, u15, u16, u17, u18, u19, u20, u21, u22, u23, u24, u25], defers := [] } ∧ behind c x m = (k, true) ∧ Below w.heap.size w w') (fun _ _ => 0) (by rfl) ?_ ?_
  · go_wp2_with (go_at_call 24; refine (tests_any _).mono ?_; rintro e w1 ⟨rfl, hb1⟩; have hB1 : Below w.heap.size w w1 := bnext (by go_grown) hb1; obtain ⟨hc, hf⟩ := bcell hb1; have hz : w.heap.size + 1 < w1.heap.size := (by have := hb1.size; simp at this; omega); have hz0 : w.heap.size < w1.heap.size := (by omega))
    refine region_still_tail 6 (by kernel_rfl) (by kernel_rfl) ?_
    simp only [List.take_succ_cons, List.take_zero, List.drop_succ_cons, List.drop_zero]
    repeat still_step
    refine wpStill_nil ?_
    by_cases h1 : x.e ≤ m
    · have H := Lib.hid (behind_late (c := c) h1)
      go_wp2_with (go_at_call 34; refine (tests1_any _ _ _ _).mono ?_; rintro e w2 ⟨rfl, hb2⟩; have hB2 : Below w.heap.size w w2 := bnext (by go_grown) hb2; obtain ⟨hc2, hf2⟩ := bcell hb2; have hz2 : w1.heap.size < w2.heap.size := (by have := hb2.size; simp at this; omega); have hz3 : w.heap.size < w2.heap.size := (by omega); have hz4 : w.heap.size + 1 < w2.heap.size := (by omega))
      go_step3
      exact ⟨rfl, 3, _, _, _, _, _, _, _, _, _, _, _, _, _, _, _, _, _, _, _, _, _, _, _, _, _, rfl, H.out, hB2⟩
    · have h1a : m < x.e := by omega
      have h1' : decide (x.e ≤ m) = false := by simpa using h1
      go_wp2_with (go_at_call 34; refine (tests1_any _ _ _ _).mono ?_; rintro e w2 ⟨rfl, hb2⟩; have hB2 : Below w.heap.size w w2 := bnext (by go_grown) hb2; obtain ⟨hc2, hf2⟩ := bcell hb2; have hz2 : w1.heap.size < w2.heap.size := (by have := hb2.size; simp at this; omega); have hz3 : w.heap.size < w2.heap.size := (by omega); have hz4 : w.heap.size + 1 < w2.heap.size := (by omega))
      refine region_still_tail 6 (by kernel_rfl) (by kernel_rfl) ?_
      simp only [List.take_succ_cons, List.take_zero, List.drop_succ_cons, List.drop_zero]
      repeat still_step
      refine wpStill_nil ?_
      by_cases h2 : (c.ea != 0 && decide (c.ea ≤ x.si)) = true
      · have H := Lib.hid (behind_early h1a h2)
        go_wp2_with (go_at_call 36; refine (tests2_any _ _ _ _).mono ?_; rintro e w3 ⟨rfl, hb3⟩; have hB3 : Below w.heap.size w w3 := bnext (by go_grown) hb3)
        go_step3
        exact ⟨rfl, 1, _, _, _, _, _, _, _, _, _, _, _, _, _, _, _, _, _, _, _, _, _, _, _, _, _, rfl, H.out, hB3⟩
      · have h2' : (c.ea != 0 && decide (c.ea ≤ x.si)) = false := by simpa using h2
        have H := Lib.hid (behind_none h1a h2')
        go_wp2_with (go_at_call 36; refine (tests2_any _ _ _ _).mono ?_; rintro e w3 ⟨rfl, hb3⟩; have hB3 : Below w.heap.size w w3 := bnext (by go_grown) hb3)
        simp only [Exit.jump]
        go_ret2
        exact ⟨by rw [H.out]; rfl, hB3⟩
  · rintro a' w' ⟨k, u0, u1, u2, u3, u4, u5, u6, u7, u8, u10, u11, u12, u13, u14, u15, u16, u17, u18, u19, u20, u21, u22, u23, u24, u25, rfl, hk, hB⟩
    go_wp2
    simp only [Exit.jump]
    go_ret2
    exact ⟨by rw [hk]; rfl, hB⟩

theorem refBehind_any (x : Win) (c : Conf) (m : Int) (w : World) :
    Calls Try.prog 9 #[c.val, x.val, .int .i64 m] w (Ret (.tuple #[.int .i64 (behind c x m).1, .bool (behind c x m).2]) w) := by
  by_cases h1 : x.e ≤ m
  · have H := Lib.hid (behind_late (c := c) h1)
    go_enter Try.func9, Try.ntmps9
    go_wp2
    go_ret2
    exact ⟨by rw [H.out]; rfl, by go_grown⟩
  · have h1a : m < x.e := by omega
    by_cases h2 : (c.ea != 0 && decide (c.ea ≤ x.si)) = true
    · have H := Lib.hid (behind_early h1a h2)
      have h3 : ¬ c.ea = 0 := by simp at h2; exact h2.1
      have h4 : c.ea ≤ x.si := by simp at h2; exact h2.2
      go_enter Try.func9, Try.ntmps9
      go_wp2
      all_goals go_ret2
      all_goals exact ⟨by rw [H.out]; rfl, by go_grown⟩
    · have h2' : (c.ea != 0 && decide (c.ea ≤ x.si)) = false := by simpa using h2
      have H := Lib.hid (behind_none h1a h2')
      by_cases h3 : c.ea = 0
      · go_enter Try.func9, Try.ntmps9
        go_wp2
        all_goals go_ret2
        all_goals exact ⟨by rw [H.out]; rfl, by go_grown⟩
      · have h4 : x.si < c.ea := by
          simp [h3] at h2
          exact h2
        go_enter Try.func9, Try.ntmps9
        go_wp2
        all_goals go_ret2
        all_goals exact ⟨by rw [H.out]; rfl, by go_grown⟩
end Go.Proofs.Ytfpomiimloohkaa
