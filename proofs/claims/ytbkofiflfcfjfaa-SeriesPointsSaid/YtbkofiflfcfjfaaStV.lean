/- Store: what walks tell of a sorted list. No program in sight. -/
import Derived.Test.YtbkofiflfcfjfaaStJ
set_option linter.unusedSimpArgs false
set_option linter.unusedVariables false
namespace Go.St
variable {κ ν : Type} {c : κ → κ → Int} {key : κ}
theorem filter_from (hc : Ord c) : ∀ {l : List (κ × ν)}, Sorted c l → l.filter (fun q => !decide (c q.1 key < 0)) = l.drop (placeL c key l)
  | [], _ => rfl
  | p :: l, h => by
    obtain ⟨h1, h2⟩ := List.pairwise_cons.1 h
    by_cases hp : c p.1 key < 0
    · simp only [placeL, if_pos hp, List.drop_succ_cons]
      rw [List.filter_cons_of_neg (by simp [hp]), filter_from hc h2]
    · simp only [placeL, if_neg hp, List.drop_zero]
      rw [List.filter_eq_self.2]
      intro q hq
      rcases List.mem_cons.1 hq with rfl | hq
      · simp [hp]
      · have : ¬ c q.1 key < 0 := fun h3 => hp (hc.lt_le (h1 q hq) (Int.le_of_lt h3))
        simp [this]
theorem filter_back (hc : Ord c) : ∀ {l : List (κ × ν)}, Sorted c l → l.filter (fun q => !decide (0 < c q.1 key)) = l.take (placeL c key l + if (getL c key l).isSome then 1 else 0)
  | [], _ => rfl
  | p :: l, h => by
    obtain ⟨h1, h2⟩ := List.pairwise_cons.1 h
    have t1 := hc.turn p.1 key
    have t2 := hc.turn key p.1
    have rest : ¬ c p.1 key < 0 → l.filter (fun q => !decide (0 < c q.1 key)) = [] := fun hp => List.filter_eq_nil_iff.2 fun q hq => by
      have h3 := hc.le_lt (show c key p.1 ≤ 0 by omega) (h1 q hq)
      have h4 := hc.turn key q.1
      have : 0 < c q.1 key := by omega
      simp [this]
    by_cases hp : c p.1 key < 0
    · simp only [placeL, getL, if_pos hp]
      rw [List.filter_cons_of_pos (by simp; omega), filter_back hc h2]
      rw [show placeL c key l + 1 + (if (getL c key l).isSome = true then 1 else 0) = placeL c key l + (if (getL c key l).isSome = true then 1 else 0) + 1 by omega, List.take_succ_cons]
    · simp only [placeL, getL, if_neg hp]
      by_cases h0 : c p.1 key = 0
      · rw [if_pos h0, List.filter_cons_of_pos (by simp; omega), rest hp]
        rfl
      · rw [if_neg h0, List.filter_cons_of_neg (by simp; omega), rest hp]
        rfl
theorem told_all (t : T κ ν) : told (fun _ => false) false t = t.toL := by simp [told, ord]
theorem told_from (hc : Ord c) {t : T κ ν} (h : Sorted c t.toL) : told (fun k => decide (c k key < 0)) false t = t.toL.drop (placeL c key t.toL) := filter_from hc h
theorem told_back (hc : Ord c) {t : T κ ν} (h : Sorted c t.toL) : told (fun k => decide (0 < c k key)) true t = (t.toL.take (placeL c key t.toL + if (getL c key t.toL).isSome then 1 else 0)).reverse := by
  show (t.toL.reverse).filter _ = _
  rw [List.filter_reverse, filter_back hc h]
theorem mono_all (t : T κ ν) : Mono (fun _ => false) false t := List.pairwise_of_forall fun _ _ h => h
theorem mono_from (hc : Ord c) {t : T κ ν} (h : Sorted c t.toL) : Mono (fun k => decide (c k key < 0)) false t := by
  refine List.Pairwise.imp ?_ (show List.Pairwise _ t.toL from h)
  intro a b hab hb
  simp only [decide_eq_true_eq] at hb ⊢
  exact hc.lt_le hab (Int.le_of_lt hb)
theorem mono_back (hc : Ord c) {t : T κ ν} (h : Sorted c t.toL) : Mono (fun k => decide (0 < c k key)) true t := by
  show List.Pairwise _ t.toL.reverse
  rw [List.pairwise_reverse]
  refine List.Pairwise.imp ?_ (show List.Pairwise _ t.toL from h)
  intro a b hab hb
  simp only [decide_eq_true_eq] at hb ⊢
  have h1 := hc.turn key a.1
  have h2 := hc.turn key b.1
  have := hc.lt_le (show c key a.1 < 0 by omega) (Int.le_of_lt hab)
  omega
end Go.St
