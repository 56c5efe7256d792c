/- Series: whole numbers as floats: sums, products, means; which of them are nought. No program in sight. -/
import Derived.Test.YtbkofiflfcfjfaaSeP
import Derived.Test.YtbkofiflfcfjfaaFlo
set_option linter.unusedSimpArgs false
set_option linter.unusedVariables false
namespace Go.Ser
open Ieee Go.Flo

/-- The word of a whole number. -/
abbrev fi (v : Int) : Nat := floatOfInt .f64 v
theorem fi_def (v : Int) : fi v = double.nearest (decide (v < 0)) v.natAbs 0 := rfl
/-- The negative nought. -/
abbrev negz : Nat := double.word true 0
/-- A word of this whole number (a nought of either sign). -/
def W (x : Nat) (v : Int) : Prop := x = fi v ∨ (v = 0 ∧ x = negz)
theorem W.fi (v : Int) : W (fi v) v := .inl rfl

theorem log_bounds {m : Nat} (h : m ≠ 0) : 2 ^ m.log2 ≤ m ∧ m < 2 ^ (m.log2 + 1) := ⟨Nat.log2_self_le h, Nat.lt_log2_self⟩
theorem pow_lt {a b : Nat} (h : (2 : Nat) ^ a < 2 ^ b) : a < b := (Nat.pow_lt_pow_iff_right (by decide)).1 h
theorem pow_le {a b : Nat} (h : a ≤ b) : (2 : Nat) ^ a ≤ 2 ^ b := Nat.pow_le_pow_right (by decide) h
theorem log_scale {a b m n : Nat} (hm : m ≠ 0) (hn : n ≠ 0) (h : m * 2 ^ a = n * 2 ^ b) : m.log2 + a = n.log2 + b := by
  have h1 := log_bounds hm
  have h2 := log_bounds hn
  have k1 : 2 ^ (m.log2 + a) ≤ m * 2 ^ a := by rw [Nat.pow_add]; exact Nat.mul_le_mul_right _ h1.1
  have k2 : m * 2 ^ a < 2 ^ (m.log2 + 1 + a) := by rw [Nat.pow_add]; exact Nat.mul_lt_mul_of_pos_right h1.2 (Nat.two_pow_pos _)
  have k3 : 2 ^ (n.log2 + b) ≤ n * 2 ^ b := by rw [Nat.pow_add]; exact Nat.mul_le_mul_right _ h2.1
  have k4 : n * 2 ^ b < 2 ^ (n.log2 + 1 + b) := by rw [Nat.pow_add]; exact Nat.mul_lt_mul_of_pos_right h2.2 (Nat.two_pow_pos _)
  rw [h] at k1 k2
  have l1 := pow_lt (Nat.lt_of_le_of_lt k1 k4)
  have l2 := pow_lt (Nat.lt_of_le_of_lt k3 k2)
  omega

/-- The nearest word, spelled out where it is no subnormal. -/
theorem nearest_form (s : Bool) (mag : Nat) (place : Int) (h0 : mag ≠ 0) (hlo : -1074 ≤ place + mag.log2 - 52) :
    double.nearest s mag place = double.word s (min ((place + mag.log2 - 52 + 1074).toNat * 4503599627370496 + Toward.even.cut s (mag <<< (52 - mag.log2)) (mag.log2 - 52)) 9218868437227405312) := by
  have hf : double.fractionBits = 52 := rfl
  have hmax : max (place + mag.log2 - (double.fractionBits : Int)) double.leastPlace = place + mag.log2 - 52 := by
    rw [hf, least_d]; omega
  unfold Format.nearest
  rw [if_neg h0]
  simp only [hmax]
  rw [least_d, binade_d, inf_d]
  have e1 : (place - (place + mag.log2 - 52)).toNat = 52 - mag.log2 := by omega
  have e2 : (place + mag.log2 - 52 - place).toNat = mag.log2 - 52 := by omega
  have e3 : (place + (mag.log2 : Int) - 52 - -1074) = place + mag.log2 - 52 + 1074 := by omega
  rw [e1, e2, e3]
theorem drop_le {mag : Nat} (h0 : mag ≠ 0) : mag.log2 - 52 ≤ (mag <<< (52 - mag.log2)).log2 + 2 := by
  have h1 : mag ≤ mag <<< (52 - mag.log2) := by
    rw [Nat.shiftLeft_eq]; exact Nat.le_mul_of_pos_right _ (Nat.two_pow_pos _)
  have h3 : mag.log2 ≤ (mag <<< (52 - mag.log2)).log2 := (Nat.le_log2 (by omega)).2 (Nat.le_trans (log_bounds h0).1 h1)
  omega
theorem kept_low (s : Bool) {mag : Nat} (h0 : mag ≠ 0) : 4503599627370496 ≤ Toward.even.cut s (mag <<< (52 - mag.log2)) (mag.log2 - 52) := by
  refine cut_ge s _ _ _ (drop_le h0) ?_
  rw [Nat.shiftLeft_eq, show (4503599627370496 : Nat) = 2 ^ 52 by decide, ← Nat.pow_add]
  have h1 := Nat.mul_le_mul_right (2 ^ (52 - mag.log2)) (log_bounds h0).1
  rw [← Nat.pow_add] at h1
  rw [show 52 + (mag.log2 - 52) = mag.log2 + (52 - mag.log2) by omega]
  exact h1

/-- A whole number of at most 53 bits, however it is written: its word. -/
theorem nearest_exact (s : Bool) (mag m g T : Nat) (h : mag * 2 ^ g = m * 2 ^ T) (h0 : m ≠ 0) (hm : m < 9007199254740992) : double.nearest s mag ((g : Int) - T) = double.nearest s m 0 := by
  have hmag : mag ≠ 0 := by
    intro e
    rw [e, Nat.zero_mul] at h
    rcases Nat.mul_eq_zero.1 h.symm with k | k
    · exact h0 k
    · exact absurd k (Nat.ne_of_gt (Nat.two_pow_pos _))
  have hl := log_scale hmag h0 h
  have hl2 : m.log2 ≤ 52 := by
    have := (Nat.log2_lt (n := m) (k := 53) h0).2 (by omega)
    omega
  rw [nearest_form s mag _ hmag (by omega), nearest_form s m 0 h0 (by omega)]
  have e1 : ((g : Int) - T + mag.log2 - 52 + 1074).toNat = ((0 : Int) + m.log2 - 52 + 1074).toNat := by omega
  rw [e1]
  have key : mag <<< (52 - mag.log2) = m <<< (52 - m.log2) * 2 ^ (mag.log2 - 52) := by
    refine Nat.eq_of_mul_eq_mul_right (Nat.two_pow_pos g) ?_
    rw [Nat.shiftLeft_eq, Nat.shiftLeft_eq, Nat.mul_right_comm, h, Nat.mul_assoc, Nat.mul_assoc, Nat.mul_assoc, ← Nat.pow_add, ← Nat.pow_add, ← Nat.pow_add]
    congr 2
    omega
  have hd := drop_le hmag
  have c1 : Toward.even.cut s (mag <<< (52 - mag.log2)) (mag.log2 - 52) = m <<< (52 - m.log2) :=
    Nat.le_antisymm (cut_le s _ _ _ hd (Nat.le_of_eq key)) (cut_ge s _ _ _ hd (Nat.le_of_eq key.symm))
  have c2 : Toward.even.cut s (m <<< (52 - m.log2)) (m.log2 - 52) = m <<< (52 - m.log2) := by
    have e : m.log2 - 52 = 0 := by omega
    rw [e]
    exact Nat.le_antisymm (cut_le s _ _ _ (by omega) (by simp)) (cut_ge s _ _ _ (by omega) (by simp))
  rw [c1, c2]
theorem nearest_zero (s : Bool) (p : Int) : double.nearest s 0 p = double.word s 0 := by unfold Format.nearest; rw [if_pos rfl]

/-- What a word of a whole number reads as. -/
theorem fi_read (v : Int) (h : v.natAbs < 9007199254740992) : ∃ M e : Nat, double.read (fi v) = .number (decide (v < 0)) M (-1074 + e) ∧ M * 2 ^ e = v.natAbs * 2 ^ top := by
  obtain ⟨M, e, h1, _, h2⟩ := whole_int v h
  exact ⟨M, e, h1, h2.symm⟩
theorem negz_read : double.read negz = .number true 0 (-1074) := by rw [read_word true 0 (by decide)]; rfl
theorem W.read {x : Nat} {v : Int} (h : W x v) (hv : v.natAbs < 9007199254740992) : ∃ (s : Bool) (M e : Nat), double.read x = .number s M (-1074 + e) ∧ M * 2 ^ e = v.natAbs * 2 ^ top ∧ (v ≠ 0 → s = decide (v < 0)) := by
  rcases h with rfl | ⟨rfl, rfl⟩
  · obtain ⟨M, e, h1, h2⟩ := fi_read v hv
    exact ⟨_, M, e, h1, h2, fun _ => rfl⟩
  · exact ⟨true, 0, 0, negz_read, by simp, fun h => absurd rfl h⟩
theorem sgn_of {s : Bool} {K P : Nat} {v : Int} (h : K = v.natAbs * P) (hs : v ≠ 0 → s = decide (v < 0)) : sgn s K = v * (P : Int) := by
  rcases Decidable.em (v = 0) with rfl | h0
  · simp at h; subst h; simp [sgn]
  · rw [hs h0, h]; exact sgn_int v P

/-- Two words of whole numbers stand to each other as these. -/
theorem order_W {x y : Nat} {u v : Int} (hx : W x u) (hy : W y v) (hu : u.natAbs < 9007199254740992) (hv : v.natAbs < 9007199254740992) : double.order x y = some (compare u v) := by
  obtain ⟨s, M, e, h1, h2, h3⟩ := hx.read hu
  obtain ⟨t, N, f, k1, k2, k3⟩ := hy.read hv
  have e1 := signed_shift s M e (min e f) (Nat.min_le_left ..)
  have e2 := signed_shift t N f (min e f) (Nat.min_le_right ..)
  rw [sgn_of h2 h3] at e1
  rw [sgn_of k2 k3] at e2
  unfold Format.order
  rw [h1, k1]
  simp only [Datum.order]
  congr 1
  have e3 : ((-1074 : Int) + e - min (-1074 + (e : Int)) (-1074 + f)).toNat = e - min e f := by omega
  have e4 : ((-1074 : Int) + f - min (-1074 + (e : Int)) (-1074 + f)).toNat = f - min e f := by omega
  rw [e3, e4, compare_scale _ _ ((2 ^ min e f : Nat) : Int) (Int.ofNat_lt.2 (Nat.two_pow_pos _)), e1, e2, ← compare_scale u v _ (Int.ofNat_lt.2 (Nat.two_pow_pos top))]

/-- The sum of two numbers that read as whole ones. -/
theorem sum_whole {s t : Bool} {M N e f : Nat} {u v : Int} (h2 : M * 2 ^ e = u.natAbs * 2 ^ top) (h3 : u ≠ 0 → s = decide (u < 0)) (k2 : N * 2 ^ f = v.natAbs * 2 ^ top) (k3 : v ≠ 0 → t = decide (v < 0)) (hb : (u + v).natAbs < 9007199254740992) :
    ∃ d b, Datum.sum (.number s M (-1074 + e)) (.number t N (-1074 + f)) = some d ∧ double.write d = (if u + v = 0 then double.word b 0 else fi (u + v)) ∧ (u + v = 0 → b = (s && t)) := by
  have e1 := signed_shift s M e (min e f) (Nat.min_le_left ..)
  have e2 := signed_shift t N f (min e f) (Nat.min_le_right ..)
  rw [sgn_of h2 h3] at e1
  rw [sgn_of k2 k3] at e2
  have e3 : ((-1074 : Int) + e - min (-1074 + (e : Int)) (-1074 + f)).toNat = e - min e f := by omega
  have e4 : ((-1074 : Int) + f - min (-1074 + (e : Int)) (-1074 + f)).toNat = f - min e f := by omega
  have e5 : min (-1074 + (e : Int)) (-1074 + f) = ((min e f : Nat) : Int) - (1074 : Nat) := by omega
  refine ⟨_, s && t, rfl, ?_, fun _ => rfl⟩
  simp only [e3, e4]
  generalize hT : signed s M (e - min e f) + signed t N (f - min e f) = total
  have ht : total * ((2 ^ min e f : Nat) : Int) = (u + v) * ((2 ^ top : Nat) : Int) := by rw [← hT, Int.add_mul, e1, e2, ← Int.add_mul]
  have p1 : (0 : Int) < ((2 ^ min e f : Nat) : Int) := Int.ofNat_lt.2 (Nat.two_pow_pos _)
  have p2 : (0 : Int) < ((2 ^ top : Nat) : Int) := Int.ofNat_lt.2 (Nat.two_pow_pos _)
  show double.nearest _ total.natAbs _ = _
  rcases Decidable.em (u + v = 0) with h0 | h0
  · rw [h0, Int.zero_mul] at ht
    have : total = 0 := by
      rcases Int.mul_eq_zero.1 ht with h | h
      · exact h
      · omega
    subst this
    rw [if_pos h0, if_pos rfl]
    exact nearest_zero _ _
  · have hn : total ≠ 0 := by
      intro h
      rw [h, Int.zero_mul] at ht
      rcases Int.mul_eq_zero.1 ht.symm with h | h
      · exact h0 h
      · omega
    have hs : (total < 0) ↔ (u + v < 0) := by
      constructor
      · intro h
        have := Int.mul_neg_of_neg_of_pos h p1
        rw [ht] at this
        exact Int.lt_of_not_ge fun h2 => absurd (Int.mul_nonneg h2 (Int.le_of_lt p2)) (by omega)
      · intro h
        have := Int.mul_neg_of_neg_of_pos h p2
        rw [← ht] at this
        exact Int.lt_of_not_ge fun h2 => absurd (Int.mul_nonneg h2 (Int.le_of_lt p1)) (by omega)
    have ha : total.natAbs * 2 ^ min e f = (u + v).natAbs * 2 ^ top := by
      have := congrArg Int.natAbs ht
      rwa [Int.natAbs_mul, Int.natAbs_mul, Int.natAbs_natCast, Int.natAbs_natCast] at this
    rw [if_neg h0, if_neg hn, e5, show decide (total < 0) = decide (u + v < 0) from decide_eq_decide.2 hs]
    exact nearest_exact _ _ _ _ top ha (by omega) hb
theorem word_W (b : Bool) : W (double.word b 0) 0 := by
  cases b
  · exact .inl (by rw [fi_def]; exact (nearest_zero false 0).symm)
  · exact .inr ⟨rfl, rfl⟩
theorem if_W {u : Int} {b : Bool} : W (if u = 0 then double.word b 0 else fi u) u := by
  split
  · rename_i h; subst h; exact word_W b
  · exact .inl rfl
theorem add_W {x y : Nat} {u v : Int} (hx : W x u) (hy : W y v) (hu : u.natAbs < 9007199254740992) (hv : v.natAbs < 9007199254740992) (hb : (u + v).natAbs < 9007199254740992) : ∃ r, floatBits .add .f64 x y = some r ∧ W r (u + v) := by
  obtain ⟨s, M, e, h1, h2, h3⟩ := hx.read hu
  obtain ⟨t, N, f, k1, k2, k3⟩ := hy.read hv
  obtain ⟨d, b, hd, hw, _⟩ := sum_whole h2 h3 k2 k3 hb
  refine ⟨double.write d, ?_, by rw [hw]; exact if_W⟩
  show (Datum.sum (double.read x) (double.read y)).map _ = _
  rw [h1, k1, hd]; rfl
theorem sub_W {x y : Nat} {u v : Int} (hx : W x u) (hy : W y v) (hu : u.natAbs < 9007199254740992) (hv : v.natAbs < 9007199254740992) (hb : (u - v).natAbs < 9007199254740992) : ∃ r, floatBits .sub .f64 x y = some r ∧ W r (u - v) := by
  obtain ⟨s, M, e, h1, h2, h3⟩ := hx.read hu
  obtain ⟨t, N, f, k1, k2, k3⟩ := hy.read hv
  have k3' : -v ≠ 0 → (!t) = decide (-v < 0) := fun h => by
    rw [k3 (by omega), ← decide_not]
    exact decide_eq_decide.2 (by omega)
  obtain ⟨d, b, hd, hw, _⟩ := sum_whole (u := u) (v := -v) (N := N) (f := f) h2 h3 (by rw [Int.natAbs_neg]; exact k2) k3' (by rwa [← Int.sub_eq_add_neg])
  rw [← Int.sub_eq_add_neg] at hw
  refine ⟨double.write d, ?_, by rw [hw]; exact if_W⟩
  show (Datum.sum (double.read x) (double.read y).opposite).map _ = _
  rw [h1, k1]
  show (Datum.sum (.number s M (-1074 + e)) (.number (!t) N (-1074 + f))).map _ = _
  rw [hd]; rfl
theorem add_fi {u v : Int} (hu : u.natAbs < 9007199254740992) (hv : v.natAbs < 9007199254740992) (hb : (u + v).natAbs < 9007199254740992) : floatBits .add .f64 (fi u) (fi v) = some (fi (u + v)) := by
  obtain ⟨M, e, h1, h2⟩ := fi_read u hu
  obtain ⟨N, f, k1, k2⟩ := fi_read v hv
  obtain ⟨d, b, hd, hw, hb⟩ := sum_whole h2 (fun _ => rfl) k2 (fun _ => rfl) hb
  show (Datum.sum (double.read (fi u)) (double.read (fi v))).map _ = _
  rw [h1, k1, hd]
  show some (double.write d) = _
  rw [hw]
  split
  · rename_i h0
    rw [hb h0]
    have : (decide (u < 0) && decide (v < 0)) = false := by
      rw [Bool.and_eq_false_iff]
      simp only [decide_eq_false_iff_not]
      omega
    rw [this, h0, fi_def]
    exact congrArg some (nearest_zero false 0).symm
  · rfl
theorem mul_W {x y : Nat} {u v : Int} (hx : W x u) (hy : W y v) (hu : u.natAbs < 9007199254740992) (hv : v.natAbs < 9007199254740992) (hb : (u * v).natAbs < 9007199254740992) : ∃ r, floatBits .mul .f64 x y = some r ∧ W r (u * v) := by
  obtain ⟨s, M, e, h1, h2, h3⟩ := hx.read hu
  obtain ⟨t, N, f, k1, k2, k3⟩ := hy.read hv
  refine ⟨double.write (.number (s ^^ t) (M * N) (-1074 + e + (-1074 + f))), ?_, ?_⟩
  · show (Datum.product (double.read x) (double.read y)).map _ = _
    rw [h1, k1]; rfl
  · show W (double.nearest (s ^^ t) (M * N) (-1074 + e + (-1074 + f))) _
    have ha : M * N * 2 ^ (e + f) = (u * v).natAbs * 2 ^ (top + top) := by
      rw [Int.natAbs_mul, Nat.pow_add, Nat.pow_add]
      have e1 : M * N * (2 ^ e * 2 ^ f) = (M * 2 ^ e) * (N * 2 ^ f) := by simp only [Nat.mul_assoc, Nat.mul_left_comm, Nat.mul_comm]
      rw [e1, h2, k2]
      simp only [Nat.mul_assoc, Nat.mul_left_comm, Nat.mul_comm]
    rcases Decidable.em (u * v = 0) with h0 | h0
    · rw [h0] at ha
      have hz : M * N = 0 := by
        rw [Int.natAbs_zero, Nat.zero_mul] at ha
        rcases Nat.mul_eq_zero.1 ha with h | h
        · exact h
        · exact absurd h (Nat.ne_of_gt (Nat.two_pow_pos _))
      rw [hz, nearest_zero, h0]
      exact word_W _
    · have hu0 : u ≠ 0 := fun h => h0 (by rw [h, Int.zero_mul])
      have hv0 : v ≠ 0 := fun h => h0 (by rw [h, Int.mul_zero])
      have hp : (-1074 : Int) + e + (-1074 + f) = ((e + f : Nat) : Int) - ((top + top : Nat) : Int) := by rw [top_eq]; omega
      rw [hp, nearest_exact _ _ _ _ _ ha (by omega) hb]
      refine .inl ?_
      rw [fi_def, h3 hu0, k3 hv0]
      congr 1
      rcases Int.lt_or_gt_of_ne hu0 with a | a <;> rcases Int.lt_or_gt_of_ne hv0 with b | b
      · have := Int.mul_pos_of_neg_of_neg a b
        simp [a, b, show ¬ u * v < 0 by omega]
      · have := Int.mul_neg_of_neg_of_pos a b
        simp [a, show ¬ v < 0 by omega, this]
      · have := Int.mul_neg_of_pos_of_neg a b
        simp [b, show ¬ u < 0 by omega, this]
      · have := Int.mul_pos a b
        simp [show ¬ u < 0 by omega, show ¬ v < 0 by omega, show ¬ u * v < 0 by omega]
end Go.Ser
