/- Tallies of values, with no program in sight: put together, turned about; they can be; their sums. -/
import Derived.Test.YtkafcdgeboldgaaDoorTOf
import Derived.Test.YtkafcdgeboldgaaDoorCanM
import Derived.Test.YtkafcdgeboldgaaDoorFlo
set_option linter.unusedSimpArgs false
set_option linter.unusedVariables false
namespace Go.Proofs.YtkafcdgeboldgaaDoor
open Go.RowKit Go.Kp

theorem joinStep_add (x y : Tally) (v : Int) : joinStep x (add y v) = add (joinStep x y) v := by
  obtain ⟨xc, xs, xi, xa⟩ := x
  obtain ⟨yc, ys, yi, ya⟩ := y
  by_cases hy : yc < 1
  · have e1 : add ⟨yc, ys, yi, ya⟩ v = ⟨1, v, v, v⟩ := by unfold add; rw [if_pos hy]
    have e2 : joinStep ⟨xc, xs, xi, xa⟩ ⟨yc, ys, yi, ya⟩ = ⟨xc, xs, xi, xa⟩ := by unfold joinStep; rw [if_pos hy]
    rw [e1, e2]
    unfold joinStep add
    rw [if_neg (show ¬ (1 : Int) < 1 by omega)]
    by_cases hx : 0 < xc
    · rw [if_pos hx, if_neg (show ¬ xc < 1 by omega)]
      simp only [Tally.mk.injEq, true_and, and_true]
      unfold more; split <;> omega
    · rw [if_neg hx, if_pos (show xc < 1 by omega)]
      simp
      decide
  · have e1 : add ⟨yc, ys, yi, ya⟩ v = ⟨more yc, wrap64 (ys + v), min yi v, max ya v⟩ := by unfold add; rw [if_neg hy]
    have hm : ¬ more yc < 1 := by unfold more; split <;> omega
    rw [e1]
    unfold joinStep
    rw [if_neg hm, if_neg hy]
    by_cases hx : 0 < xc
    · rw [if_pos hx, if_pos hx]
      unfold add
      rw [if_neg (show ¬ min (xc + min yc 9007199254740992) 9007199254740992 < 1 by omega)]
      simp only [Tally.mk.injEq]
      refine ⟨?_, ?_, by omega, by omega⟩
      · unfold more; split <;> split <;> omega
      · unfold wrap64; omega
    · rw [if_neg hx, if_neg hx]
      unfold add
      rw [if_neg (show ¬ min yc 9007199254740992 < 1 by omega)]
      simp only [Tally.mk.injEq, and_self, and_true]
      unfold more; split <;> split <;> omega
theorem joinStep_zero (x : Tally) : joinStep x Tally.zero = x := by unfold joinStep; rw [if_pos (by decide)]
theorem joinStep_fold (x : Tally) : ∀ (l : List Int) (y : Tally), joinStep x (l.foldl add y) = l.foldl add (joinStep x y)
  | [], _ => rfl
  | v :: l, y => by rw [List.foldl_cons, List.foldl_cons, joinStep_fold x l (add y v), joinStep_add]
theorem joinStep_ofs (x : Tally) (l : List Int) : joinStep x (ofs l) = l.foldl add x := by unfold ofs; rw [joinStep_fold, joinStep_zero]
theorem ofs_append (a b : List Int) : ofs (a ++ b) = b.foldl add (ofs a) := by unfold ofs; rw [List.foldl_append]
theorem join_two (a b : List Int) : join [ofs a, ofs b] = ofs (a ++ b) := by
  show joinStep (joinStep Tally.zero (ofs a)) (ofs b) = _
  rw [joinStep_ofs, joinStep_ofs, ofs_append]; rfl

theorem add_comm2 (t : Tally) (u v : Int) : add (add t u) v = add (add t v) u := by
  obtain ⟨c, s, i, a⟩ := t
  unfold add
  by_cases h : c < 1
  · rw [if_pos h, if_pos h, if_neg (by simp), if_neg (by simp)]
    simp only [Tally.mk.injEq, true_and]
    refine ⟨by rw [Int.add_comm], by omega, by omega⟩
  · have hm : ¬ more c < 1 := by unfold more; split <;> omega
    rw [if_neg h, if_neg h, if_neg hm, if_neg hm]
    simp only [Tally.mk.injEq, true_and]
    refine ⟨by unfold wrap64; omega, by omega, by omega⟩
theorem fold_perm {a b : List Int} (h : a.Perm b) : ∀ t : Tally, a.foldl add t = b.foldl add t := by
  induction h with
  | nil => exact fun _ => rfl
  | cons x _ ih => exact fun t => ih (add t x)
  | swap x y l => exact fun t => by rw [List.foldl_cons, List.foldl_cons, List.foldl_cons, List.foldl_cons, add_comm2]
  | trans _ _ ih1 ih2 => exact fun t => (ih1 t).trans (ih2 t)
theorem join_turned (a b c : List Int) : join [ofs c, Tally.zero, ofs b, ofs a, ⟨-3, 9, -9, 9⟩] = ofs (a ++ b ++ c) := by
  show joinStep (joinStep (joinStep (joinStep (joinStep Tally.zero (ofs c)) Tally.zero) (ofs b)) (ofs a)) ⟨-3, 9, -9, 9⟩ = _
  rw [joinStep_ofs, joinStep_zero, joinStep_ofs, joinStep_ofs]
  have e : ∀ t : Tally, joinStep t ⟨-3, 9, -9, 9⟩ = t := fun t => by unfold joinStep; rw [if_pos (by decide)]
  rw [e, ← List.foldl_append, ← List.foldl_append]
  refine fold_perm ?_ _
  have h1 : (c ++ (b ++ a)).Perm (b ++ a ++ c) := List.perm_append_comm
  have h2 : (b ++ a ++ c).Perm (a ++ b ++ c) := List.Perm.append_right c List.perm_append_comm
  exact h1.trans h2

/-- The sum as the walk takes it, and the true one. -/
def sumw (l : List Int) : Int := l.foldl (fun s x => wrap64 (s + x)) 0
theorem sumw_snoc (l : List Int) (k : Nat) (x : Int) (h : l[k]? = some x) : sumw (l.take (k + 1)) = wrap64 (sumw (l.take k) + x) := by
  have hk : k < l.length := (List.getElem?_eq_some_iff.1 h).1
  have hx : l[k] = x := by simpa [List.getElem?_eq_getElem hk] using h
  rw [List.take_succ_eq_append_getElem hk, sumw, List.foldl_append, hx]; rfl

/-- What holds of a tally of values: n of them, the true sum S. -/
def Good (t : Tally) (n : Nat) (S : Int) (l : List Int) : Prop :=
  t.c = n ∧ t.su = wrap64 S ∧ t.su = sumw l ∧ (n = 0 → t = Tally.zero ∧ S = 0) ∧
  (0 < n → t.mi ∈ l ∧ t.ma ∈ l ∧ t.mi ≤ t.ma ∧ t.ma + (n - 1 : Int) * t.mi ≤ S ∧ S ≤ t.mi + (n - 1 : Int) * t.ma)
theorem good_add {t : Tally} {n : Nat} {S v : Int} {l : List Int} (h : Good t n S l) (hn : n < 9007199254740992) (hv : I64 v) : Good (add t v) (n + 1) (S + v) (l ++ [v]) := by
  obtain ⟨c, su, mi, ma⟩ := t
  obtain ⟨h1, h2, h3, h4, h5⟩ := h
  simp only at h1 h2 h3 h4 h5
  have hw : wrap64 v = v := by obtain ⟨a, b⟩ := hv; unfold wrap64; omega
  have hs : sumw (l ++ [v]) = wrap64 (sumw l + v) := by unfold sumw; rw [List.foldl_append]; rfl
  rcases Nat.eq_zero_or_pos n with h0 | h0
  · subst h0
    obtain ⟨ht, hS⟩ := h4 rfl
    simp only [Tally.mk.injEq] at ht
    obtain ⟨rfl, rfl, rfl, rfl⟩ := ht
    subst hS
    have e : add ⟨0, 0, 0, 0⟩ v = ⟨1, v, v, v⟩ := by unfold add; rw [if_pos (by decide)]
    rw [e]
    refine ⟨by simp, by simp [hw], ?_, by simp, fun _ => ⟨by simp, by simp, Int.le_refl _, by simp, by simp⟩⟩
    rw [hs, ← h3]; simp [hw]
  · obtain ⟨m1, m2, m3, m4, m5⟩ := h5 h0
    have e : add ⟨c, su, mi, ma⟩ v = ⟨more c, wrap64 (su + v), min mi v, max ma v⟩ := by unfold add; rw [if_neg (by simp; omega)]
    rw [e]
    have hmo : more c = (n + 1 : Nat) := by unfold more; rw [if_neg (by omega)]; omega
    have q : ∀ a : Int, (((n + 1 : Nat) : Int) - 1) * a = (n - 1 : Int) * a + a := fun a => by
      rw [show (((n + 1 : Nat) : Int) - 1) = (n - 1 : Int) + 1 by omega, Int.add_mul, Int.one_mul]
    have mono : ∀ a b : Int, a ≤ b → (n - 1 : Int) * a ≤ (n - 1 : Int) * b := fun a b hab => Int.mul_le_mul_of_nonneg_left hab (by omega)
    refine ⟨hmo, ?_, ?_, fun h => absurd h (by omega), fun _ => ⟨?_, ?_, by simp only; omega, ?_, ?_⟩⟩
    · simp only [h2]; unfold wrap64; omega
    · rw [hs, ← h3]
    · simp only; rcases Int.le_total mi v with h | h
      · rw [Int.min_eq_left h]; exact List.mem_append_left _ m1
      · rw [Int.min_eq_right h]; simp
    · simp only; rcases Int.le_total ma v with h | h
      · rw [Int.max_eq_right h]; simp
      · rw [Int.max_eq_left h]; exact List.mem_append_left _ m2
    · simp only
      rw [q]
      have k1 := mono (min mi v) mi (by omega)
      have k2 := mono mi ma m3
      omega
    · simp only
      rw [q]
      have k1 := mono ma (max ma v) (by omega)
      have k2 := mono mi ma m3
      omega
theorem good_ofs (l : List Int) (hz : ∀ z ∈ l, I64 z) (hn : l.length ≤ 9007199254740992) : Good (ofs l) l.length l.sum l := by
  have : ∀ k, k ≤ l.length → Good (ofs (l.take k)) k (l.take k).sum (l.take k) := by
    intro k
    induction k with
    | zero => intro _; exact ⟨rfl, by rw [List.take_zero]; show (0 : Int) = wrap64 0; unfold wrap64; decide, rfl, fun _ => ⟨rfl, rfl⟩, fun h => absurd h (by omega)⟩
    | succ k ih =>
      intro hk
      have hx : l[k]? = some l[k] := List.getElem?_eq_getElem (by omega)
      have h := good_add (v := l[k]) (ih (by omega)) (by omega) (hz _ (List.getElem_mem _))
      rw [ofs_snoc l k _ hx, List.take_succ_eq_append_getElem (by omega), List.sum_append, List.sum_singleton]
      exact h
  have h := this l.length (Nat.le_refl _)
  rwa [List.take_length] at h

theorem good_can {t : Tally} {n : Nat} {S : Int} {l : List Int} (h : Good t n S l) (hn : n < 9007199254740992) (hz : ∀ z ∈ l, I64 z) : canB t = true := by
  obtain ⟨c, su, mi, ma⟩ := t
  obtain ⟨h1, h2, h3, h4, h5⟩ := h
  simp only at h1 h2 h3 h4 h5
  unfold canB
  rcases Nat.eq_zero_or_pos n with h0 | h0
  · subst h0
    obtain ⟨ht, hS⟩ := h4 rfl
    rw [ht]; decide
  · obtain ⟨m1, m2, m3, m4, m5⟩ := h5 h0
    simp only
    rw [if_neg (show ¬ c < 1 by omega), if_neg (show ¬ (9007199254740992 < c ∨ ma < mi) by omega)]
    by_cases k1 : c = 1
    · rw [if_pos k1]
      have hI := hz mi m1
      unfold I64 at hI
      rw [show (n : Int) - 1 = 0 by omega, Int.zero_mul, Int.add_zero] at m4
      rw [show (n : Int) - 1 = 0 by omega, Int.zero_mul, Int.add_zero] at m5
      have : su = mi := by rw [h2]; unfold wrap64; omega
      simp; omega
    · rw [if_neg k1, if_neg (show ¬ c = 9007199254740992 by omega)]
      have e1 : mi * (c - 1) = (n - 1 : Int) * mi := by rw [h1, Int.mul_comm]
      have e2 : (((c - 2).toNat * (ma - mi).toNat : Nat) : Int) = (n - 1 : Int) * ma - (n - 1 : Int) * mi - ma + mi := by
        rw [Int.natCast_mul, Int.toNat_of_nonneg (by omega), Int.toNat_of_nonneg (by omega), h1, show (n : Int) - 2 = (n - 1 : Int) - 1 by omega, Int.sub_mul, Int.one_mul, Int.mul_sub]
        omega
      rw [e1]
      generalize (c - 2).toNat * (ma - mi).toNat = W at *
      generalize (n - 1 : Int) * mi = p at *
      generalize (n - 1 : Int) * ma = q at *
      have : nat64 (su - (p + ma)) ≤ W := by
        rw [h2]
        unfold nat64 wrap64
        omega
      simpa using this

/-- The numbers within 40 bits. -/
def smallI (x : Int) : Bool := decide (-1099511627776 < x) && decide (x < 1099511627776)
theorem small_snoc (l : List Int) (k : Nat) (x : Int) (h : l[k]? = some x) : (l.take (k + 1)).all smallI = ((l.take k).all smallI && smallI x) := by
  have hk : k < l.length := (List.getElem?_eq_some_iff.1 h).1
  have hx : l[k] = x := by simpa [List.getElem?_eq_getElem hk] using h
  rw [List.take_succ_eq_append_getElem hk, List.all_append, hx]; simp
theorem sum_bd (l : List Int) (h : l.all smallI = true) : -(l.length * 1099511627776 : Int) ≤ l.sum ∧ l.sum ≤ l.length * 1099511627776 := by
  induction l with
  | nil => simp
  | cons x l ih =>
    rw [List.all_cons, Bool.and_eq_true] at h
    obtain ⟨a, b⟩ := ih h.2
    have hx := h.1
    unfold smallI at hx
    simp at hx
    simp only [List.sum_cons, List.length_cons]
    omega
/-- The mean of few small values lies between the least and the greatest. -/
theorem good_mean {l : List Int} {t : Tally} (h : Good t l.length l.sum l) (hs : l.all smallI = true) (hn : l.length ≤ 4000) (h0 : 0 < l.length) :
    ∃ r, floatBits .quo .f64 (floatOfInt .f64 t.su) (floatOfInt .f64 t.c) = some r ∧
      (Ieee.double.order r (floatOfInt .f64 t.mi) == some .gt || Ieee.double.order r (floatOfInt .f64 t.mi) == some .eq) = true ∧
      (Ieee.double.order r (floatOfInt .f64 t.ma) == some .lt || Ieee.double.order r (floatOfInt .f64 t.ma) == some .eq) = true := by
  obtain ⟨h1, h2, h3, h4, h5⟩ := h
  obtain ⟨m1, m2, m3, m4, m5⟩ := h5 h0
  obtain ⟨b1, b2⟩ := sum_bd l hs
  have s1 := List.all_eq_true.1 hs _ m1
  have s2 := List.all_eq_true.1 hs _ m2
  unfold smallI at s1 s2
  simp at s1 s2
  have hS : t.su = l.sum := by rw [h2]; unfold wrap64; omega
  rw [hS, h1]
  refine Flo.mean_between l.sum t.mi t.ma l.length (by omega) (by omega) h0 (by omega) (by omega) ?_ ?_
  · have : (l.length : Int) * t.mi = ((l.length : Int) - 1) * t.mi + t.mi := by rw [Int.sub_mul, Int.one_mul]; omega
    omega
  · have : (l.length : Int) * t.ma = ((l.length : Int) - 1) * t.ma + t.ma := by rw [Int.sub_mul, Int.one_mul]; omega
    omega
end Go.Proofs.YtkafcdgeboldgaaDoor
