/- Floats of 64 bits, with no program in sight: whole numbers, a sum over a count, which of two is greater. -/
import Derived.Laws.FloatArith
set_option linter.unusedSimpArgs false
set_option linter.unusedVariables false
namespace Go.Flo
open Ieee

theorem width_d : double.signWeight = 9223372036854775808 := by decide
theorem binade_d : double.binade = 4503599627370496 := by decide
theorem inf_d : double.infRung = 9218868437227405312 := by decide
theorem least_d : double.leastPlace = -1074 := by decide

/-- What a finite word reads as. -/
theorem read_word (neg : Bool) (r : Nat) (h : r < 9218868437227405312) :
    double.read (double.word neg r) = if r < 4503599627370496 then .number neg r (-1074) else .number neg (4503599627370496 + r % 4503599627370496) (-1074 + (r / 4503599627370496 - 1 : Nat)) := by
  unfold Format.read
  have e1 : (double.word neg r / double.signWeight % 2 == 1) = neg := by
    rw [width_d, Format.word, width_d]
    cases neg
    · simp; omega
    · simp; omega
  have e2 : double.word neg r % double.signWeight = r := by
    rw [width_d, Format.word, width_d]
    cases neg
    · simp; omega
    · simp; omega
  simp only [e1, e2, binade_d, inf_d, least_d]
  split
  · rfl
  · rfl

/-- Rounded: low or one more, and low where nothing is left over. -/
theorem cut_even (neg : Bool) (n d : Nat) (h : d ≤ n.log2 + 2) : Toward.even.cut neg n d = n / 2 ^ d ∨ (n % 2 ^ d ≠ 0 ∧ Toward.even.cut neg n d = n / 2 ^ d + 1) := by
  have hp : 0 < 2 ^ d := Nat.two_pow_pos _
  unfold Toward.cut
  simp only [Nat.min_eq_left h, Nat.one_shiftLeft]
  generalize 2 ^ d = g at *
  generalize hm : (decide (g < 2 * (n % g)) || (g == 2 * (n % g) && n / g % 2 == 1)) = m
  cases m
  · left; rfl
  · right
    refine ⟨?_, rfl⟩
    intro h0
    rw [h0] at hm
    simp at hm
    omega
theorem cut_ge (neg : Bool) (n d k : Nat) (h : d ≤ n.log2 + 2) (hk : k * 2 ^ d ≤ n) : k ≤ Toward.even.cut neg n d := by
  have hp : 0 < 2 ^ d := Nat.two_pow_pos _
  have h1 : k ≤ n / 2 ^ d := (Nat.le_div_iff_mul_le hp).2 hk
  rcases cut_even neg n d h with h2 | ⟨_, h2⟩ <;> omega
theorem cut_le (neg : Bool) (n d k : Nat) (h : d ≤ n.log2 + 2) (hk : n ≤ k * 2 ^ d) : Toward.even.cut neg n d ≤ k := by
  have hp : 0 < 2 ^ d := Nat.two_pow_pos _
  have h1 : n / 2 ^ d ≤ k := by
    have := Nat.div_le_div_right (c := 2 ^ d) hk
    rwa [Nat.mul_div_cancel _ hp] at this
  rcases cut_even neg n d h with h2 | ⟨h3, h2⟩
  · omega
  · have h4 : n / 2 ^ d ≠ k := by
      intro e
      have e2 := Nat.div_add_mod n (2 ^ d)
      rw [e, Nat.mul_comm] at e2
      omega
    omega

/-- A word, nought or no subnormal, stands for K units of the least place, with a sign. -/
def Is (x : Nat) (s : Bool) (K : Nat) : Prop := ∃ M : Nat, ∃ e : Nat, double.read x = .number s M (-1074 + e) ∧ (M = 0 ∨ (4503599627370496 ≤ M ∧ M < 9007199254740992)) ∧ K = M * 2 ^ e

theorem zero_is (s : Bool) : Is (double.word s 0) s 0 := ⟨0, 0, read_word s 0 (by decide), .inl rfl, by simp⟩

/-- A rounded significand at its place. -/
theorem kept_is (s : Bool) (e kept : Nat) (he : e < 2000) (h1 : 4503599627370496 ≤ kept) (h2 : kept ≤ 9007199254740992) :
    Is (double.word s (min (e * 4503599627370496 + kept) 9218868437227405312)) s (kept * 2 ^ e) := by
  have hm : min (e * 4503599627370496 + kept) 9218868437227405312 = e * 4503599627370496 + kept := by omega
  rw [hm]
  have hr := read_word s (e * 4503599627370496 + kept) (by omega)
  rw [if_neg (by omega)] at hr
  rcases Nat.lt_or_ge kept 9007199254740992 with h | h
  · refine ⟨kept, e, ?_, .inr ⟨h1, h⟩, rfl⟩
    have a1 : 4503599627370496 + (e * 4503599627370496 + kept) % 4503599627370496 = kept := by omega
    have a2 : (e * 4503599627370496 + kept) / 4503599627370496 - 1 = e := by omega
    rw [hr, a1, a2]
  · obtain rfl : kept = 9007199254740992 := by omega
    refine ⟨4503599627370496, e + 1, ?_, .inr ⟨by omega, by omega⟩, by rw [Nat.pow_succ]; omega⟩
    have a1 : 4503599627370496 + (e * 4503599627370496 + 9007199254740992) % 4503599627370496 = 4503599627370496 := by omega
    have a2 : (e * 4503599627370496 + 9007199254740992) / 4503599627370496 - 1 = e + 1 := by omega
    rw [hr, a1, a2]

/-- The nearest word: the place of its last digit, and the rounded significand. -/
theorem nearest_is (s : Bool) (mag : Nat) (place : Int) (h0 : mag ≠ 0) (hlo : -1074 ≤ place + mag.log2 - 52) (hhi : place + mag.log2 - 52 < 900) :
    Is (double.nearest s mag place) s (Toward.even.cut s (mag <<< (52 - mag.log2)) (mag.log2 - 52) * 2 ^ (place + mag.log2 - 52 + 1074).toNat) ∧
    4503599627370496 ≤ Toward.even.cut s (mag <<< (52 - mag.log2)) (mag.log2 - 52) := by
  have hf : double.fractionBits = 52 := rfl
  have hmax : max (place + mag.log2 - (double.fractionBits : Int)) double.leastPlace = place + mag.log2 - 52 := by
    rw [hf, least_d]; omega
  have hn : double.nearest s mag place = double.word s (min ((place + mag.log2 - 52 + 1074).toNat * 4503599627370496 + Toward.even.cut s (mag <<< (52 - mag.log2)) (mag.log2 - 52)) 9218868437227405312) := by
    unfold Format.nearest
    rw [if_neg h0]
    simp only [hmax]
    rw [least_d, binade_d, inf_d]
    have e1 : (place - (place + mag.log2 - 52)).toNat = 52 - mag.log2 := by omega
    have e2 : (place + mag.log2 - 52 - place).toNat = mag.log2 - 52 := by omega
    have e3 : (place + (mag.log2 : Int) - 52 - -1074) = place + mag.log2 - 52 + 1074 := by omega
    rw [e1, e2, e3]
  have hl1 := Nat.log2_self_le h0
  have hl2 := Nat.lt_log2_self (n := mag)
  have hb : 4503599627370496 * 2 ^ (mag.log2 - 52) ≤ mag <<< (52 - mag.log2) ∧ mag <<< (52 - mag.log2) ≤ 9007199254740992 * 2 ^ (mag.log2 - 52) := by
    rw [Nat.shiftLeft_eq]
    rcases Nat.le_total mag.log2 52 with h | h
    · have e : mag.log2 - 52 = 0 := by omega
      rw [e, Nat.pow_zero]
      have e2 : (4503599627370496 : Nat) = 2 ^ mag.log2 * 2 ^ (52 - mag.log2) := by rw [← Nat.pow_add, show mag.log2 + (52 - mag.log2) = 52 by omega]
      have e3 : (9007199254740992 : Nat) = 2 ^ (mag.log2 + 1) * 2 ^ (52 - mag.log2) := by rw [← Nat.pow_add, show mag.log2 + 1 + (52 - mag.log2) = 53 by omega]
      constructor
      · rw [Nat.mul_one, e2]; exact Nat.mul_le_mul_right _ hl1
      · rw [Nat.mul_one, e3]; exact Nat.mul_le_mul_right _ (Nat.le_of_lt hl2)
    · have e : 52 - mag.log2 = 0 := by omega
      rw [e, Nat.pow_zero, Nat.mul_one]
      have e2 : 4503599627370496 * 2 ^ (mag.log2 - 52) = 2 ^ mag.log2 := by
        rw [show (4503599627370496 : Nat) = 2 ^ 52 by decide, ← Nat.pow_add, show 52 + (mag.log2 - 52) = mag.log2 by omega]
      have e3 : 9007199254740992 * 2 ^ (mag.log2 - 52) = 2 ^ (mag.log2 + 1) := by
        rw [show (9007199254740992 : Nat) = 2 ^ 53 by decide, ← Nat.pow_add, show 53 + (mag.log2 - 52) = mag.log2 + 1 by omega]
      rw [e2, e3]
      exact ⟨hl1, Nat.le_of_lt hl2⟩
  have hd : mag.log2 - 52 ≤ (mag <<< (52 - mag.log2)).log2 + 2 := by
    have : mag ≤ mag <<< (52 - mag.log2) := by
      rw [Nat.shiftLeft_eq]; exact Nat.le_mul_of_pos_right _ (Nat.two_pow_pos _)
    have h3 : mag.log2 ≤ (mag <<< (52 - mag.log2)).log2 := (Nat.le_log2 (by omega)).2 (Nat.le_trans hl1 this)
    omega
  have k1 := cut_ge s _ _ _ hd hb.1
  have k2 := cut_le s _ _ _ hd hb.2
  rw [hn]
  refine ⟨kept_is s _ _ (by omega) k1 k2, k1⟩

/-- How far the least place lies below the ones. -/
def top : Nat := 1074
theorem top_eq : top = 1074 := rfl

/-- A whole number of at most 53 bits: itself. -/
theorem whole_is (s : Bool) (m : Nat) (h : m < 9007199254740992) : Is (double.nearest s m 0) s (m * 2 ^ top) := by
  rcases Nat.eq_zero_or_pos m with h0 | h0
  · subst h0
    have : double.nearest s 0 0 = double.word s 0 := by unfold Format.nearest; rw [if_pos rfl]
    rw [this, Nat.zero_mul]
    exact zero_is s
  · have hl : m.log2 ≤ 52 := by
      have := (Nat.log2_lt (n := m) (k := 53) (by omega)).2 (by omega)
      omega
    obtain ⟨h1, _⟩ := nearest_is s m 0 (by omega) (by omega) (by omega)
    have e : m.log2 - 52 = 0 := by omega
    have hc : Toward.even.cut s (m <<< (52 - m.log2)) 0 = m <<< (52 - m.log2) := by
      rcases cut_even s (m <<< (52 - m.log2)) 0 (by omega) with h | ⟨h, _⟩
      · rw [h]; simp
      · simp [Nat.mod_one] at h
    rw [e, hc, Nat.shiftLeft_eq, Nat.mul_assoc, ← Nat.pow_add] at h1
    have e2 : 52 - m.log2 + ((0 : Int) + m.log2 - 52 + 1074).toNat = top := by rw [top_eq]; omega
    rw [e2] at h1
    exact h1

/-- Any whole number of 64 bits is a number, nought only where it is. -/
theorem any_is (s : Bool) (m : Nat) (h : m < 18446744073709551616) : ∃ K, Is (double.nearest s m 0) s K ∧ (m ≠ 0 → K ≠ 0) := by
  rcases Nat.eq_zero_or_pos m with h0 | h0
  · subst h0
    exact ⟨_, whole_is s 0 (by omega), fun h => absurd rfl h⟩
  · have hl : m.log2 ≤ 63 := by
      have := (Nat.log2_lt (n := m) (k := 64) (by omega)).2 (by omega)
      omega
    obtain ⟨h1, h2⟩ := nearest_is s m 0 (by omega) (by omega) (by omega)
    refine ⟨_, h1, fun _ h3 => ?_⟩
    rcases Nat.mul_eq_zero.1 h3 with h4 | h4
    · omega
    · exact absurd h4 (Nat.ne_of_gt (Nat.two_pow_pos _))

/-- The quotient of any two whole numbers, the second no nought: a word. -/
theorem quo_some (a b : Int) (ha : -9223372036854775808 ≤ a ∧ a ≤ 9223372036854775807) (hb : -9223372036854775808 ≤ b ∧ b ≤ 9223372036854775807) (h0 : b ≠ 0) :
    ∃ r, floatBits .quo .f64 (floatOfInt .f64 a) (floatOfInt .f64 b) = some r := by
  obtain ⟨K, ⟨M, e, hr, _, hK⟩, _⟩ := any_is (decide (a < 0)) a.natAbs (by omega)
  obtain ⟨J, ⟨N, f, hs, _, hJ⟩, hJ0⟩ := any_is (decide (b < 0)) b.natAbs (by omega)
  have hN : N ≠ 0 := by
    intro h
    subst h
    exact hJ0 (by omega) (by rw [hJ]; simp)
  unfold floatBits
  show ∃ r, double.div (double.nearest (decide (a < 0)) a.natAbs 0) (double.nearest (decide (b < 0)) b.natAbs 0) = some r
  unfold Format.div
  rw [hr, hs]
  simp only [Datum.quotient, if_neg hN]
  exact ⟨_, rfl⟩

def sgn (s : Bool) (K : Nat) : Int := if s then -(K : Int) else K
theorem signed_shift (s : Bool) (M e b : Nat) (h : b ≤ e) : signed s M (e - b) * ((2 ^ b : Nat) : Int) = sgn s (M * 2 ^ e) := by
  have e1 : M * 2 ^ e = M * 2 ^ (e - b) * 2 ^ b := by rw [Nat.mul_assoc, ← Nat.pow_add, Nat.sub_add_cancel h]
  unfold signed sgn
  rw [Nat.shiftLeft_eq, e1]
  cases s <;> simp [Int.neg_mul]
theorem compare_scale (a b c : Int) (h : 0 < c) : compare a b = compare (a * c) (b * c) := by
  have h1 : a < b ↔ a * c < b * c := ⟨fun k => Int.mul_lt_mul_of_pos_right k h, fun k => Int.lt_of_mul_lt_mul_right k (Int.le_of_lt h)⟩
  have h2 : a = b ↔ a * c = b * c := ⟨fun k => by rw [k], fun k => Int.eq_of_mul_eq_mul_right (Int.ne_of_gt h) k⟩
  show compareOfLessAndEq a b = compareOfLessAndEq (a * c) (b * c)
  unfold compareOfLessAndEq
  by_cases k1 : a < b
  · rw [if_pos k1, if_pos (h1.1 k1)]
  · rw [if_neg k1, if_neg (fun k => k1 (h1.2 k))]
    by_cases k2 : a = b
    · rw [if_pos k2, if_pos (h2.1 k2)]
    · rw [if_neg k2, if_neg (fun k => k2 (h2.2 k))]

/-- Which of two words is greater: by what they stand for. -/
theorem order_is {x y : Nat} {s t : Bool} {K J : Nat} (hx : Is x s K) (hy : Is y t J) : double.order x y = some (compare (sgn s K) (sgn t J)) := by
  obtain ⟨M, e, hr, _, rfl⟩ := hx
  obtain ⟨N, f, hs, _, rfl⟩ := hy
  unfold Format.order
  rw [hr, hs]
  simp only [Datum.order]
  congr 1
  have e1 : ((-1074 : Int) + e - min (-1074 + (e : Int)) (-1074 + f)).toNat = e - min e f := by omega
  have e2 : ((-1074 : Int) + f - min (-1074 + (e : Int)) (-1074 + f)).toNat = f - min e f := by omega
  rw [e1, e2, compare_scale _ _ ((2 ^ min e f : Nat) : Int) (Int.ofNat_lt.2 (Nat.two_pow_pos _)), signed_shift s M e _ (Nat.min_le_left ..), signed_shift t N f _ (Nat.min_le_right ..)]
theorem geq_is {a b : Int} : ((some (compare a b) == some Ordering.gt || some (compare a b) == some Ordering.eq) = true) ↔ b ≤ a := by
  show ((some (compareOfLessAndEq a b) == some Ordering.gt || some (compareOfLessAndEq a b) == some Ordering.eq) = true) ↔ b ≤ a
  unfold compareOfLessAndEq
  by_cases k1 : a < b
  · rw [if_pos k1]; simp; omega
  · rw [if_neg k1]
    by_cases k2 : a = b
    · rw [if_pos k2]; simp; omega
    · rw [if_neg k2]; simp; omega
theorem leq_is {a b : Int} : ((some (compare a b) == some Ordering.lt || some (compare a b) == some Ordering.eq) = true) ↔ a ≤ b := by
  show ((some (compareOfLessAndEq a b) == some Ordering.lt || some (compareOfLessAndEq a b) == some Ordering.eq) = true) ↔ a ≤ b
  unfold compareOfLessAndEq
  by_cases k1 : a < b
  · rw [if_pos k1]; simp; omega
  · rw [if_neg k1]
    by_cases k2 : a = b
    · rw [if_pos k2]; simp; omega
    · rw [if_neg k2]; simp; omega

theorem pow_between {M m e : Nat} (h1 : 4503599627370496 ≤ M) (h2 : M < 9007199254740992) (h0 : 0 < m) (hm : m < 9007199254740992) (h : m * 2 ^ top = M * 2 ^ e) : 1022 ≤ e ∧ e ≤ 1074 := by
  have ht := top_eq
  constructor
  · rcases Nat.lt_or_ge e 1022 with k | k
    · exfalso
      have a : M * 2 ^ e < 2 ^ 53 * 2 ^ e := Nat.mul_lt_mul_of_pos_right (by omega) (Nat.two_pow_pos _)
      have b : 2 ^ 53 * 2 ^ e ≤ 2 ^ top := by rw [← Nat.pow_add]; exact Nat.pow_le_pow_right (by decide) (by omega)
      have c : 2 ^ top ≤ m * 2 ^ top := Nat.le_mul_of_pos_left _ h0
      rw [h] at c
      exact absurd (Nat.lt_of_lt_of_le a b) (Nat.not_lt.2 c)
    · exact k
  · rcases Nat.lt_or_ge 1074 e with k | k
    · exfalso
      have a : m * 2 ^ top < 2 ^ 53 * 2 ^ top := Nat.mul_lt_mul_of_pos_right (by omega) (Nat.two_pow_pos _)
      have b : 2 ^ 52 * 2 ^ e ≤ M * 2 ^ e := Nat.mul_le_mul_right _ (by omega)
      have c : 2 ^ 53 * 2 ^ top ≤ 2 ^ 52 * 2 ^ e := by rw [← Nat.pow_add, ← Nat.pow_add]; exact Nat.pow_le_pow_right (by decide) (by omega)
      rw [h] at a
      exact absurd (Nat.lt_of_lt_of_le a (Nat.le_trans c b)) (Nat.lt_irrefl _)
    · exact k

/-- A sum over a count, rounded: no less than a whole number that it is no less than; and no more. -/
theorem quo_is (s : Bool) (S C : Nat) (hS : S < 9007199254740992) (hC : C < 9007199254740992) (h0 : 0 < C) :
    ∃ r K, double.div (double.nearest s S 0) (double.nearest false C 0) = some r ∧ Is r s K ∧ (∀ v, C * v ≤ S → v * 2 ^ top ≤ K) ∧ (∀ v, S ≤ C * v → K ≤ v * 2 ^ top) := by
  have ht := top_eq
  obtain ⟨M, e, hr, hM, hK⟩ := whole_is s S hS
  obtain ⟨N, f, hs, hN, hJ⟩ := whole_is false C hC
  have hN0 : N ≠ 0 := by
    intro h
    subst h
    rw [Nat.zero_mul] at hJ
    rcases Nat.mul_eq_zero.1 hJ with h | h
    · omega
    · exact absurd h (Nat.ne_of_gt (Nat.two_pow_pos _))
  unfold Format.div
  rw [hr, hs]
  simp only [Datum.quotient, if_neg hN0, Bool.xor_false, Option.map_some]
  rcases Nat.eq_zero_or_pos S with hS0 | hS0
  · subst hS0
    have hM0 : M = 0 := by
      rw [Nat.zero_mul] at hK
      rcases Nat.mul_eq_zero.1 hK.symm with h | h
      · exact h
      · exact absurd h (Nat.ne_of_gt (Nat.two_pow_pos _))
    subst hM0
    refine ⟨_, 0, rfl, ?_, ?_, fun _ _ => Nat.zero_le _⟩
    · have : ∀ p : Int, double.write (.number s (2 * (0 <<< (double.fractionBits + 2 + N.log2 - Nat.log2 0) / N) + (0 <<< (double.fractionBits + 2 + N.log2 - Nat.log2 0) % N != 0).toNat) p) = double.word s 0 := by
        intro p
        rw [Nat.zero_shiftLeft, Nat.zero_div, Nat.zero_mod]
        show double.nearest s 0 p = _
        unfold Format.nearest
        rw [if_pos rfl]
      rw [this]
      exact zero_is s
    · intro v hv
      have : v = 0 := by
        rcases Nat.mul_eq_zero.1 (Nat.le_zero.1 hv) with h | h
        · omega
        · exact h
      subst this
      simp
  · have hM2 : 4503599627370496 ≤ M ∧ M < 9007199254740992 := by
      rcases hM with h | h
      · subst h
        rw [Nat.zero_mul] at hK
        rcases Nat.mul_eq_zero.1 hK with h | h
        · omega
        · exact absurd h (Nat.ne_of_gt (Nat.two_pow_pos _))
      · exact h
    have hN2 : 4503599627370496 ≤ N ∧ N < 9007199254740992 := hN.resolve_left hN0
    obtain ⟨he1, he2⟩ := pow_between hM2.1 hM2.2 hS0 hS hK
    obtain ⟨hf1, hf2⟩ := pow_between hN2.1 hN2.2 h0 hC hJ
    have lM : M.log2 = 52 := by
      have a := (Nat.log2_lt (n := M) (k := 53) (by omega)).2 (by omega)
      have b := (Nat.le_log2 (n := M) (k := 52) (by omega)).2 (by omega)
      omega
    have lN : N.log2 = 52 := by
      have a := (Nat.log2_lt (n := N) (k := 53) (by omega)).2 (by omega)
      have b := (Nat.le_log2 (n := N) (k := 52) (by omega)).2 (by omega)
      omega
    have hmore : double.fractionBits + 2 + N.log2 - M.log2 = 54 := by rw [lM, lN]; rfl
    rw [hmore]
    have hD : M <<< 54 = M * 18014398509481984 := by rw [Nat.shiftLeft_eq]
    rw [hD]
    -- the two products, compared
    have key1 : ∀ v, C * v ≤ S → v * 2 ^ (54 + f - e) * N ≤ M * 18014398509481984 := by
      intro v hv
      refine Nat.le_of_mul_le_mul_right (c := 2 ^ e) ?_ (Nat.two_pow_pos _)
      have a1 : v * 2 ^ (54 + f - e) * N * 2 ^ e = (C * v) * 2 ^ top * 2 ^ 54 := by
        have : v * 2 ^ (54 + f - e) * N * 2 ^ e = v * (N * (2 ^ (54 + f - e) * 2 ^ e)) := by
          simp only [Nat.mul_assoc, Nat.mul_left_comm, Nat.mul_comm]
        rw [this, ← Nat.pow_add, show 54 + f - e + e = f + 54 by omega, Nat.pow_add, ← Nat.mul_assoc N, ← hJ]
        simp only [Nat.mul_assoc, Nat.mul_left_comm, Nat.mul_comm]
      have a2 : M * 18014398509481984 * 2 ^ e = S * 2 ^ top * 2 ^ 54 := by
        rw [hK, Nat.mul_right_comm]
      rw [a1, a2]
      exact Nat.mul_le_mul_right _ (Nat.mul_le_mul_right _ hv)
    have key2 : ∀ v, S ≤ C * v → M * 18014398509481984 ≤ v * 2 ^ (54 + f - e) * N := by
      intro v hv
      refine Nat.le_of_mul_le_mul_right (c := 2 ^ e) ?_ (Nat.two_pow_pos _)
      have a1 : v * 2 ^ (54 + f - e) * N * 2 ^ e = (C * v) * 2 ^ top * 2 ^ 54 := by
        have : v * 2 ^ (54 + f - e) * N * 2 ^ e = v * (N * (2 ^ (54 + f - e) * 2 ^ e)) := by
          simp only [Nat.mul_assoc, Nat.mul_left_comm, Nat.mul_comm]
        rw [this, ← Nat.pow_add, show 54 + f - e + e = f + 54 by omega, Nat.pow_add, ← Nat.mul_assoc N, ← hJ]
        simp only [Nat.mul_assoc, Nat.mul_left_comm, Nat.mul_comm]
      have a2 : M * 18014398509481984 * 2 ^ e = S * 2 ^ top * 2 ^ 54 := by
        rw [hK, Nat.mul_right_comm]
      rw [a1, a2]
      exact Nat.mul_le_mul_right _ (Nat.mul_le_mul_right _ hv)
    have hNp : 0 < N := by omega
    have hq1 : 9007199254740992 ≤ M * 18014398509481984 / N := (Nat.le_div_iff_mul_le hNp).2 (by omega)
    have hq2 : M * 18014398509481984 / N < 36028797018963968 := (Nat.div_lt_iff_lt_mul hNp).2 (by omega)
    generalize hq : M * 18014398509481984 / N = Q at *
    obtain ⟨st, hst⟩ : ∃ st : Nat, (M * 18014398509481984 % N != 0).toNat = st := ⟨_, rfl⟩
    have hst1 : st ≤ 1 := by rw [← hst]; cases (M * 18014398509481984 % N != 0) <;> simp
    rw [hst]
    have hdm := Nat.div_add_mod (M * 18014398509481984) N
    rw [hq] at hdm
    have lo : ∀ w, w * N ≤ M * 18014398509481984 → 2 * w ≤ 2 * Q + st := by
      intro w hw
      have : w ≤ Q := by rw [← hq]; exact (Nat.le_div_iff_mul_le hNp).2 hw
      omega
    have hi : ∀ w, M * 18014398509481984 ≤ w * N → 2 * Q + st ≤ 2 * w := by
      intro w hw
      have h1 : Q ≤ w := by rw [← hq]; exact Nat.div_le_of_le_mul (by rw [Nat.mul_comm N w]; exact hw)
      rcases Nat.eq_zero_or_pos (M * 18014398509481984 % N) with hz | hz
      · rw [hz] at hst; simp at hst; omega
      · have h2 : Q ≠ w := by
          intro h
          rw [h, Nat.mul_comm] at hdm
          omega
        omega
    have hl1 : 54 ≤ (2 * Q + st).log2 := (Nat.le_log2 (by omega)).2 (by omega)
    have hl2 : (2 * Q + st).log2 < 56 := (Nat.log2_lt (by omega)).2 (by omega)
    have hplace : ((-1074 : Int) + e - (-1074 + f) - (54 : Nat) - 1) = e - f - 55 := by omega
    rw [hplace]
    obtain ⟨n1, _⟩ := nearest_is s (2 * Q + st) ((e : Int) - f - 55) (by omega) (by omega) (by omega)
    refine ⟨_, _, rfl, n1, ?_, ?_⟩
    · intro v hv
      have e0 : 52 - (2 * Q + st).log2 = 0 := by omega
      rw [e0]
      obtain ⟨E, hE⟩ : ∃ E : Nat, ((e : Int) - f - 55 + ((2 * Q + st).log2 : Nat) - 52 + 1074).toNat = E := ⟨_, rfl⟩
      rw [hE]
      have hk := cut_ge s ((2 * Q + st) <<< 0) ((2 * Q + st).log2 - 52) (v * 2 ^ (1074 - E)) (by rw [Nat.shiftLeft_zero]; omega) (by
        rw [Nat.shiftLeft_zero, Nat.mul_assoc, ← Nat.pow_add, show 1074 - E + ((2 * Q + st).log2 - 52) = 54 + f - e + 1 by omega, Nat.pow_succ, ← Nat.mul_assoc, Nat.mul_comm _ 2]
        exact lo _ (key1 v hv))
      have h2 := Nat.mul_le_mul_right (2 ^ E) hk
      rw [Nat.mul_assoc, ← Nat.pow_add, show 1074 - E + E = top by omega] at h2
      exact h2
    · intro v hv
      have e0 : 52 - (2 * Q + st).log2 = 0 := by omega
      rw [e0]
      obtain ⟨E, hE⟩ : ∃ E : Nat, ((e : Int) - f - 55 + ((2 * Q + st).log2 : Nat) - 52 + 1074).toNat = E := ⟨_, rfl⟩
      rw [hE]
      have hk := cut_le s ((2 * Q + st) <<< 0) ((2 * Q + st).log2 - 52) (v * 2 ^ (1074 - E)) (by rw [Nat.shiftLeft_zero]; omega) (by
        rw [Nat.shiftLeft_zero, Nat.mul_assoc, ← Nat.pow_add, show 1074 - E + ((2 * Q + st).log2 - 52) = 54 + f - e + 1 by omega, Nat.pow_succ, ← Nat.mul_assoc, Nat.mul_comm _ 2]
        exact hi _ (key2 v hv))
      have h2 := Nat.mul_le_mul_right (2 ^ E) hk
      rw [Nat.mul_assoc _ _ (2 ^ E), ← Nat.pow_add, show 1074 - E + E = top by omega] at h2
      exact h2

theorem sgn_int (v : Int) (P : Nat) : sgn (decide (v < 0)) (v.natAbs * P) = v * (P : Int) := by
  unfold sgn
  by_cases h : v < 0
  · have e : (v.natAbs : Int) = -v := by omega
    simp [h, Int.natCast_mul, e, Int.neg_mul]
  · have e : (v.natAbs : Int) = v := by omega
    simp [h, Int.natCast_mul, e]
theorem whole_int (v : Int) (h : v.natAbs < 9007199254740992) : Is (floatOfInt .f64 v) (decide (v < 0)) (v.natAbs * 2 ^ top) := whole_is (decide (v < 0)) v.natAbs h

/-- The mean of a sum that lies between: no less than the least, no more than the greatest. -/
theorem mean_between (S lo hi : Int) (C : Nat) (hS : S.natAbs < 9007199254740992) (hC : C < 9007199254740992) (h0 : 0 < C) (hl : lo.natAbs < 9007199254740992) (hh : hi.natAbs < 9007199254740992)
    (h1 : C * lo ≤ S) (h2 : S ≤ C * hi) : ∃ r, floatBits .quo .f64 (floatOfInt .f64 S) (floatOfInt .f64 C) = some r ∧
      (double.order r (floatOfInt .f64 lo) == some .gt || double.order r (floatOfInt .f64 lo) == some .eq) = true ∧
      (double.order r (floatOfInt .f64 hi) == some .lt || double.order r (floatOfInt .f64 hi) == some .eq) = true := by
  obtain ⟨r, K, hr, hK, k1, k2⟩ := quo_is (decide (S < 0)) S.natAbs C hS hC h0
  have hCf : floatOfInt .f64 (C : Int) = double.nearest false C 0 := by
    show double.nearest (decide ((C : Int) < 0)) (C : Int).natAbs 0 = _
    rw [show decide ((C : Int) < 0) = false by simp, Int.natAbs_natCast]
  refine ⟨r, ?_, ?_, ?_⟩
  · rw [hCf]; exact hr
  · rw [order_is hK (whole_int lo hl), sgn_int]
    refine geq_is.2 ?_
    have a1 := k1 lo.natAbs
    have a2 := k2 lo.natAbs
    clear k1 k2 hK hr
    generalize (2 : Nat) ^ top = P at *
    have hP : 0 ≤ lo.natAbs * P := Nat.zero_le _
    have e : sgn (decide (lo < 0)) (lo.natAbs * P) = lo * (P : Int) := sgn_int lo P
    rw [← e]
    unfold sgn
    by_cases hs : S < 0
    · have hlo : lo < 0 := by
        rcases Int.lt_or_le lo 0 with h | h
        · exact h
        · have := Int.mul_nonneg (Int.natCast_nonneg C) h; omega
      have b : S.natAbs ≤ C * lo.natAbs := by
        have : ((C * lo.natAbs : Nat) : Int) = -(C * lo) := by rw [Int.natCast_mul, show (lo.natAbs : Int) = -lo by omega, Int.mul_neg]
        omega
      have := a2 b
      simp [hs, hlo]
      rw [← Int.natCast_mul]
      omega
    · by_cases hlo : lo < 0
      · simp [hs, hlo]
        rw [← Int.natCast_mul]
        omega
      · have b : C * lo.natAbs ≤ S.natAbs := by
          have : ((C * lo.natAbs : Nat) : Int) = C * lo := by rw [Int.natCast_mul, show (lo.natAbs : Int) = lo by omega]
          omega
        have := a1 b
        simp [hs, hlo]
        rw [← Int.natCast_mul]
        omega
  · rw [order_is hK (whole_int hi hh), sgn_int]
    refine leq_is.2 ?_
    have a1 := k1 hi.natAbs
    have a2 := k2 hi.natAbs
    clear k1 k2 hK hr
    generalize (2 : Nat) ^ top = P at *
    have hP : 0 ≤ hi.natAbs * P := Nat.zero_le _
    have e : sgn (decide (hi < 0)) (hi.natAbs * P) = hi * (P : Int) := sgn_int hi P
    rw [← e]
    unfold sgn
    by_cases hs : S < 0
    · by_cases hhi : hi < 0
      · have b : C * hi.natAbs ≤ S.natAbs := by
          have : ((C * hi.natAbs : Nat) : Int) = -(C * hi) := by rw [Int.natCast_mul, show (hi.natAbs : Int) = -hi by omega, Int.mul_neg]
          omega
        have := a1 b
        simp [hs, hhi]
        rw [← Int.natCast_mul]
        omega
      · simp [hs, hhi]
        rw [← Int.natCast_mul]
        omega
    · have hhi : ¬ hi < 0 := by
        intro h
        have := Int.mul_nonneg (Int.natCast_nonneg C) (show (0 : Int) ≤ -hi by omega)
        rw [Int.mul_neg] at this
        rcases Decidable.em (C * hi = 0) with h3 | h3
        · rcases Int.mul_eq_zero.1 h3 with h4 | h4 <;> omega
        · omega
      have b : S.natAbs ≤ C * hi.natAbs := by
        have : ((C * hi.natAbs : Nat) : Int) = C * hi := by rw [Int.natCast_mul, show (hi.natAbs : Int) = hi by omega]
        omega
      have := a2 b
      simp [hs, hhi]
      rw [← Int.natCast_mul]
      omega
end Go.Flo
