/- Series: what is no nought: the spread of a row whose numbers are not all the same. No program in sight. -/
import Derived.Test.YtbkofiflfcfjfaaSeW
set_option linter.unusedSimpArgs false
set_option linter.unusedVariables false
namespace Go.Ser
open Ieee Go.Flo

theorem read_inf (s : Bool) : double.read (double.word s 9218868437227405312) = .infinity s := by cases s <;> decide +kernel
/-- What a word reads as, at least: this sign, an infinity or a number of so many units. -/
def At (j : Nat) (s : Bool) (x : Nat) : Prop := double.read x = .infinity s ∨ ∃ M e : Nat, double.read x = .number s M (-1074 + e) ∧ 2 ^ j ≤ M * 2 ^ e
/-- An infinity or a number of this sign. -/
def Sg (s : Bool) (x : Nat) : Prop := double.read x = .infinity s ∨ ∃ M e : Nat, double.read x = .number s M (-1074 + e)
theorem At.sg {j : Nat} {s : Bool} {x : Nat} (h : At j s x) : Sg s x := h.imp id fun ⟨M, e, h, _⟩ => ⟨M, e, h⟩
theorem word_sg (s : Bool) (r : Nat) (h : r ≤ 9218868437227405312) : Sg s (double.word s r) := by
  rcases Nat.lt_or_ge r 9218868437227405312 with h1 | h1
  · have := read_word s r h1
    split at this
    · exact .inr ⟨r, 0, by rw [this]; rfl⟩
    · exact .inr ⟨_, _, this⟩
  · obtain rfl : r = 9218868437227405312 := by omega
    exact .inl (read_inf s)
theorem nearest_sg (s : Bool) (mag : Nat) (p : Int) : Sg s (double.nearest s mag p) := by
  unfold Format.nearest
  split
  · exact word_sg s 0 (by omega)
  · exact word_sg s _ (by rw [← inf_d]; exact Nat.min_le_right _ _)
theorem write_inf (s : Bool) : Sg s (double.write (.infinity s)) := .inl (read_inf s)
theorem write_inf_at (j : Nat) (s : Bool) : At j s (double.write (.infinity s)) := .inl (read_inf s)
theorem nearest_at (s : Bool) (mag g T j : Nat) (h : 2 ^ (j + T) ≤ mag * 2 ^ (g + 1074)) (hj : 52 ≤ j) : At j s (double.nearest s mag ((g : Int) - T)) := by
  have h0 : mag ≠ 0 := by
    intro e
    rw [e, Nat.zero_mul] at h
    exact absurd (Nat.two_pow_pos (j + T)) (by omega)
  have hl := (log_bounds h0).2
  have hL : j + T < mag.log2 + 1 + (g + 1074) := by
    refine pow_lt (Nat.lt_of_le_of_lt h ?_)
    rw [Nat.pow_add 2 (mag.log2 + 1)]
    exact Nat.mul_lt_mul_of_pos_right hl (Nat.two_pow_pos _)
  rw [nearest_form s mag _ h0 (by omega)]
  obtain ⟨E, hE⟩ : ∃ E : Nat, ((g : Int) - T + mag.log2 - 52 + 1074).toNat = E := ⟨_, rfl⟩
  rw [hE]
  have hk := kept_low s h0
  generalize Toward.even.cut s (mag <<< (52 - mag.log2)) (mag.log2 - 52) = kept at hk
  rcases Nat.lt_or_ge (E * 4503599627370496 + kept) 9218868437227405312 with h1 | h1
  · rw [Nat.min_eq_left (by omega)]
    have := read_word s (E * 4503599627370496 + kept) h1
    rw [if_neg (by omega)] at this
    refine .inr ⟨_, _, this, ?_⟩
    have hd : E ≤ (E * 4503599627370496 + kept) / 4503599627370496 - 1 := by omega
    have a1 : 2 ^ j ≤ 2 ^ (52 + E) := pow_le (by omega)
    have a2 : (2 : Nat) ^ (52 + E) ≤ 4503599627370496 * 2 ^ ((E * 4503599627370496 + kept) / 4503599627370496 - 1) := by
      rw [Nat.pow_add, show (2 : Nat) ^ 52 = 4503599627370496 by decide]
      exact Nat.mul_le_mul_left _ (pow_le hd)
    exact Nat.le_trans a1 (Nat.le_trans a2 (Nat.mul_le_mul_right _ (Nat.le_add_right _ _)))
  · rw [Nat.min_eq_right h1]
    exact .inl (read_inf s)

/-! ### Squares -/
theorem sq_sg {d : Nat} {s : Bool} (h : Sg s d) : ∃ p, floatBits .mul .f64 d d = some p ∧ Sg false p := by
  show ∃ p, (Datum.product (double.read d) (double.read d)).map _ = some p ∧ _
  rcases h with h | ⟨M, e, h⟩
  · rw [h]
    refine ⟨_, rfl, ?_⟩
    have := write_inf (s ^^ s)
    rwa [Bool.xor_self] at this ⊢
  · rw [h]
    refine ⟨_, rfl, ?_⟩
    have := nearest_sg (s ^^ s) (M * M) (-1074 + e + (-1074 + e))
    rw [Bool.xor_self] at this ⊢
    exact this
theorem sq_at {d j : Nat} {s : Bool} (h : At j s d) (hj : 563 ≤ j) : ∃ p, floatBits .mul .f64 d d = some p ∧ At (2 * j - 1074) false p := by
  show ∃ p, (Datum.product (double.read d) (double.read d)).map _ = some p ∧ _
  rcases h with h | ⟨M, e, h, hM⟩
  · rw [h]
    refine ⟨_, rfl, ?_⟩
    have := write_inf_at (2 * j - 1074) (s ^^ s)
    rwa [Bool.xor_self] at this ⊢
  · rw [h]
    refine ⟨_, rfl, ?_⟩
    have hp : (-1074 : Int) + e + (-1074 + e) = ((e + e : Nat) : Int) - ((2148 : Nat) : Int) := by omega
    have := nearest_at (s ^^ s) (M * M) (e + e) 2148 (2 * j - 1074) (by
      have a := Nat.mul_le_mul hM hM
      rw [← Nat.pow_add] at a
      have b := Nat.mul_le_mul_right (2 ^ top) a
      rw [← Nat.pow_add] at b
      rw [show 2 * j - 1074 + 2148 = j + j + top by rw [top_eq]; omega, show e + e + 1074 = e + e + top by rw [top_eq]]
      refine Nat.le_trans b (Nat.le_of_eq ?_)
      rw [Nat.pow_add, Nat.pow_add 2 e e]
      simp only [Nat.mul_assoc, Nat.mul_left_comm, Nat.mul_comm]) (by omega)
    rw [Bool.xor_self] at this ⊢
    show At _ _ (double.nearest _ _ _)
    rw [hp]; exact this

/-! ### Sums of what is no less than nought -/
theorem sum_shape {M N e f : Nat} : ∃ d, Datum.sum (.number false M (-1074 + e)) (.number false N (-1074 + f)) = some d ∧ double.write d = double.nearest false (M * 2 ^ (e - min e f) + N * 2 ^ (f - min e f)) (((min e f : Nat) : Int) - (1074 : Nat)) := by
  have e3 : ((-1074 : Int) + e - min (-1074 + (e : Int)) (-1074 + f)).toNat = e - min e f := by omega
  have e4 : ((-1074 : Int) + f - min (-1074 + (e : Int)) (-1074 + f)).toNat = f - min e f := by omega
  have e5 : min (-1074 + (e : Int)) (-1074 + f) = ((min e f : Nat) : Int) - (1074 : Nat) := by omega
  refine ⟨_, rfl, ?_⟩
  simp only [e3, e4]
  have hs : ∀ m k : Nat, signed false m k = ((m * 2 ^ k : Nat) : Int) := fun m k => by simp [signed, Nat.shiftLeft_eq]
  rw [hs, hs, ← Int.natCast_add, Int.natAbs_natCast, e5]
  show double.nearest _ _ _ = _
  congr 1
  split
  · rfl
  · exact decide_eq_false (Int.not_lt.2 (Int.natCast_nonneg _))
theorem shape_eq (M N e f : Nat) : (M * 2 ^ (e - min e f) + N * 2 ^ (f - min e f)) * 2 ^ min e f = M * 2 ^ e + N * 2 ^ f := by
  rw [Nat.add_mul, Nat.mul_assoc, Nat.mul_assoc, ← Nat.pow_add, ← Nat.pow_add, Nat.sub_add_cancel (Nat.min_le_left ..), Nat.sub_add_cancel (Nat.min_le_right ..)]
theorem add_sg {a b : Nat} (ha : Sg false a) (hb : Sg false b) : ∃ r, floatBits .add .f64 a b = some r ∧ Sg false r := by
  show ∃ r, (Datum.sum (double.read a) (double.read b)).map _ = some r ∧ _
  rcases ha with ha | ⟨M, e, ha⟩ <;> rcases hb with hb | ⟨N, f, hb⟩
  · rw [ha, hb]; exact ⟨_, rfl, write_inf false⟩
  · rw [ha, hb]; exact ⟨_, rfl, write_inf false⟩
  · rw [ha, hb]; exact ⟨_, rfl, write_inf false⟩
  · rw [ha, hb]
    obtain ⟨d, h1, h2⟩ := sum_shape (M := M) (N := N) (e := e) (f := f)
    rw [h1]
    exact ⟨_, rfl, by show Sg false (double.write d); rw [h2]; exact nearest_sg _ _ _⟩
theorem add_at {a b j : Nat} (hj : 52 ≤ j) (ha : Sg false a) (hb : Sg false b) (h : At j false a ∨ At j false b) : ∃ r, floatBits .add .f64 a b = some r ∧ At j false r := by
  show ∃ r, (Datum.sum (double.read a) (double.read b)).map _ = some r ∧ _
  rcases ha with ha | ⟨M, e, ha⟩ <;> rcases hb with hb | ⟨N, f, hb⟩
  · rw [ha, hb]; exact ⟨_, rfl, write_inf_at j false⟩
  · rw [ha, hb]; exact ⟨_, rfl, write_inf_at j false⟩
  · rw [ha, hb]; exact ⟨_, rfl, write_inf_at j false⟩
  · rw [ha, hb]
    obtain ⟨d, h1, h2⟩ := sum_shape (M := M) (N := N) (e := e) (f := f)
    rw [h1]
    refine ⟨_, rfl, ?_⟩
    show At j false (double.write d)
    rw [h2]
    refine nearest_at _ _ _ _ _ ?_ hj
    have hM : 2 ^ j ≤ M * 2 ^ e + N * 2 ^ f := by
      rcases h with (h | ⟨M', e', h, h'⟩) | (h | ⟨M', e', h, h'⟩)
      · rw [ha] at h; cases h
      · rw [ha] at h
        injection h with _ k1 k2
        have k3 : e = e' := by omega
        subst k1; subst k3
        exact Nat.le_trans h' (Nat.le_add_right _ _)
      · rw [hb] at h; cases h
      · rw [hb] at h
        injection h with _ k1 k2
        have k3 : f = e' := by omega
        subst k1; subst k3
        exact Nat.le_trans h' (Nat.le_add_left _ _)
    rw [← shape_eq] at hM
    have := Nat.mul_le_mul_right (2 ^ top) hM
    rw [← Nat.pow_add, Nat.mul_assoc, ← Nat.pow_add, top_eq] at this
    exact this
theorem sums_at (j : Nat) (hj : 52 ≤ j) : ∀ (ps : List Nat) (s r : Nat), SumR s ps r → Sg false s → (∀ p ∈ ps, Sg false p) → (At j false s ∨ ∃ p ∈ ps, At j false p) → At j false r
  | [], s, r, h, _, _, ha => by
    obtain rfl : r = s := h
    rcases ha with ha | ⟨p, hp, _⟩
    · exact ha
    · cases hp
  | p :: ps, s, r, ⟨t, h1, h⟩, hs, hp, ha => by
    have hpp := hp p List.mem_cons_self
    have hps := fun q hq => hp q (List.mem_cons_of_mem _ hq)
    have hcase : (At j false s ∨ At j false p) ∨ ∃ q ∈ ps, At j false q := by
      rcases ha with ha | ⟨q, hq, ha⟩
      · exact .inl (.inl ha)
      · rcases List.mem_cons.1 hq with rfl | hq
        · exact .inl (.inr ha)
        · exact .inr ⟨q, hq, ha⟩
    rcases hcase with hc | hc
    · obtain ⟨t', k1, k2⟩ := add_at hj hs hpp hc
      obtain rfl := h1.eq k1
      exact sums_at j hj ps t r h k2.sg hps (.inl k2)
    · obtain ⟨t', k1, k2⟩ := add_sg hs hpp
      obtain rfl := h1.eq k1
      exact sums_at j hj ps t r h k2 hps (.inr hc)

/-! ### Quotients and roots -/
theorem quo_at {q c j : Nat} {s : Bool} (hq : At j s q) (h0 : 0 < c) (hc : c ≤ 512) (hj : 62 ≤ j) : ∃ r, floatBits .quo .f64 q (fi (c : Int)) = some r ∧ At (j - 10) s r := by
  obtain ⟨N, f, h1, h2, h3⟩ := fi_pos h0 (by omega)
  show ∃ r, (Datum.quotient _ (double.read q) (double.read (fi (c : Int)))).map _ = some r ∧ _
  rw [h1]
  rcases hq with h | ⟨M, e, h, hM⟩
  · rw [h]
    refine ⟨_, rfl, ?_⟩
    have := write_inf_at (j - 10) (s ^^ false)
    rwa [Bool.xor_false] at this ⊢
  · rw [h]
    simp only [Datum.quotient, if_neg h3, Option.map_some, Bool.xor_false]
    refine ⟨_, rfl, ?_⟩
    have hM0 : M ≠ 0 := by
      intro k
      rw [k, Nat.zero_mul] at hM
      exact absurd (Nat.two_pow_pos j) (by omega)
    obtain ⟨more, hmore⟩ : ∃ more : Nat, FloatKind.f64.format.fractionBits + 2 + N.log2 - M.log2 = more := ⟨_, rfl⟩
    rw [hmore]
    have hfb : FloatKind.f64.format.fractionBits = 52 := rfl
    rw [hfb] at hmore
    have hNp : 0 < N := Nat.pos_of_ne_zero h3
    have hD : N ≤ M <<< more := by
      rw [Nat.shiftLeft_eq]
      have a1 := Nat.mul_le_mul_right (2 ^ more) (log_bounds hM0).1
      rw [← Nat.pow_add] at a1
      have a2 := (log_bounds h3).2
      have a3 : (2 : Nat) ^ (N.log2 + 1) ≤ 2 ^ (M.log2 + more) := pow_le (by omega)
      omega
    have hq1 : 1 ≤ M <<< more / N := (Nat.le_div_iff_mul_le hNp).2 (by omega)
    have hdm := Nat.div_add_mod (M <<< more) N
    have hml := Nat.mod_lt (M <<< more) hNp
    have hmag : M <<< more ≤ (2 * (M <<< more / N) + (M <<< more % N != 0).toNat) * N := by
      have b1 : M <<< more ≤ (2 * (M <<< more / N)) * N := by
        generalize M <<< more / N = Q at hq1 hdm
        have b2 : N ≤ N * Q := Nat.le_mul_of_pos_right _ hq1
        rw [Nat.mul_assoc, Nat.mul_comm Q N]
        omega
      exact Nat.le_trans b1 (Nat.mul_le_mul_right _ (Nat.le_add_right _ _))
    have hp : ((-1074 : Int) + e - (-1074 + f) - (more : Nat) - 1) = ((e : Nat) : Int) - ((f + more + 1 : Nat) : Int) := by omega
    show At _ _ (double.nearest _ _ _)
    rw [hp]
    refine nearest_at _ _ _ _ _ ?_ (by omega)
    generalize 2 * (M <<< more / N) + (M <<< more % N != 0).toNat = mag at hmag
    rw [Nat.shiftLeft_eq] at hmag
    -- mag * N >= M * 2 ^ more
    have c1 : 2 ^ (j + more + f) ≤ mag * (N * 2 ^ f) * 2 ^ e := by
      have d1 := Nat.mul_le_mul_right (2 ^ (more + f)) hM
      rw [← Nat.pow_add] at d1
      have d2 := Nat.mul_le_mul_right (2 ^ f * 2 ^ e) hmag
      have d3 : M * 2 ^ e * 2 ^ (more + f) = M * 2 ^ more * (2 ^ f * 2 ^ e) := by
        rw [Nat.pow_add]; simp only [Nat.mul_assoc, Nat.mul_left_comm, Nat.mul_comm]
      have d4 : mag * N * (2 ^ f * 2 ^ e) = mag * (N * 2 ^ f) * 2 ^ e := by simp only [Nat.mul_assoc, Nat.mul_left_comm, Nat.mul_comm]
      rw [show j + more + f = j + (more + f) by omega, ← d4]
      exact Nat.le_trans d1 (by rw [d3]; exact d2)
    rw [h2] at c1
    have c2 : mag * (c * 2 ^ top) * 2 ^ e ≤ mag * (2 ^ 9 * 2 ^ top) * 2 ^ e := Nat.mul_le_mul_right _ (Nat.mul_le_mul_left _ (Nat.mul_le_mul_right _ (by omega)))
    have c3 : mag * (2 ^ 9 * 2 ^ top) * 2 ^ e = mag * 2 ^ (e + 1074) * 2 ^ 9 := by
      rw [top_eq, Nat.pow_add]; simp only [Nat.mul_assoc, Nat.mul_left_comm, Nat.mul_comm]
    have c4 := Nat.le_trans c1 (Nat.le_trans c2 (Nat.le_of_eq c3))
    rw [show j + more + f = (j - 10 + (f + more + 1)) + 9 by omega, Nat.pow_add] at c4
    exact Nat.le_of_mul_le_mul_right c4 (Nat.two_pow_pos _)
/-- A positive number's root is no nought. -/
theorem root_at {d r j : Nat} (hd : At j false d) (h : Root d r) : Go.FloatKind.f64.format.order r 0 ≠ some .eq := by
  have h0 : double.read 0 = .number false 0 (-1074) := read_word false 0 (by decide)
  have fin : ∀ x, At 52 false x → Go.FloatKind.f64.format.order x 0 ≠ some .eq := by
    intro x hx ho
    have ho' : Datum.order (double.read x) (double.read 0) = some .eq := ho
    rw [h0] at ho'
    rcases hx with hx | ⟨M, e, hx, hM⟩
    · rw [hx] at ho'; cases ho'
    · rw [hx] at ho'
      simp only [Datum.order, Option.some.injEq] at ho'
      have h9 := Int.compare_eq_eq.1 ho'
      generalize ((-1074 : Int) + e - min (-1074 + (e : Int)) (-1074)).toNat = k1 at h9
      generalize ((-1074 : Int) - min (-1074 + (e : Int)) (-1074)).toNat = k2 at h9
      have hz : M <<< k1 = 0 <<< k2 := Int.ofNat_inj.1 h9
      rw [Nat.shiftLeft_eq, Nat.shiftLeft_eq, Nat.zero_mul] at hz
      rcases Nat.mul_eq_zero.1 hz with k | k
      · rw [k, Nat.zero_mul] at hM; exact absurd hM (by decide)
      · exact absurd k (Nat.ne_of_gt (Nat.two_pow_pos _))
  rcases hd with hd | ⟨M, e, hd, hM⟩
  · have hs : FloatKind.f64.format.sqrt d = some (double.write (.infinity false)) := by
      show (Datum.root _ (double.read d)).map _ = _
      rw [hd]; rfl
    rcases h with h | ⟨h, _⟩
    · rw [hs] at h
      rw [← Option.some.inj h]
      exact fin _ (write_inf_at 52 false)
    · rw [hs] at h; cases h
  · have hM0 : M ≠ 0 := by
      intro k
      rw [k, Nat.zero_mul] at hM
      exact absurd (Nat.two_pow_pos j) (by omega)
    obtain ⟨mag, place, hs, hm, hp⟩ : ∃ (mag : Nat) (place : Int), FloatKind.f64.format.sqrt d = some (double.nearest false mag place) ∧ 1 ≤ mag ∧ -600 ≤ place := by
      show ∃ (mag : Nat) (place : Int), (Datum.root _ (double.read d)).map _ = _ ∧ _
      rw [hd]
      simp only [Datum.root, if_neg hM0, Bool.false_eq_true, if_false, Option.map_some]
      refine ⟨_, _, rfl, ?_, ?_⟩
      · generalize Datum.rootFrom _ _ _ = whole
        rcases Nat.eq_zero_or_pos whole with k | k
        · subst k
          have hne : ∀ k, (0 * 0 != M <<< k) = true := fun k => by
            have : M <<< k ≠ 0 := by
              rw [Nat.shiftLeft_eq]
              exact fun h => (Nat.mul_eq_zero.1 h).elim hM0 (fun h => absurd h (Nat.ne_of_gt (Nat.two_pow_pos _)))
            simpa using this.symm
          rw [hne]
          decide
        · omega
      · have hfb : FloatKind.f64.format.fractionBits = 52 := rfl
        rw [hfb]
        omega
    rcases h with h | ⟨h, _⟩
    · rw [hs] at h
      rw [← Option.some.inj h]
      refine fin _ ?_
      obtain ⟨T, hT⟩ : ∃ T : Nat, T = 600 := ⟨_, rfl⟩
      have hle : 52 + T ≤ (place + T).toNat + 1074 := by omega
      have := nearest_at false mag (place + T).toNat T 52 (Nat.le_trans (pow_le hle) (Nat.le_mul_of_pos_left _ hm)) (by omega)
      rwa [show (((place + T).toNat : Nat) : Int) - (T : Nat) = place by omega] at this
    · rw [hs] at h; cases h

/-! ### The spread of a row whose numbers are not all the same -/
theorem sub_num {x y : Nat} {s t : Bool} {M N e f : Nat} (hx : double.read x = .number s M (-1074 + e)) (hy : double.read y = .number t N (-1074 + f)) :
    ∃ d σ mag, floatBits .sub .f64 x y = some d ∧ d = double.nearest σ mag (((min e f : Nat) : Int) - (1074 : Nat)) ∧ mag * 2 ^ min e f = (sgn s (M * 2 ^ e) - sgn t (N * 2 ^ f)).natAbs := by
  have e1 := signed_shift s M e (min e f) (Nat.min_le_left ..)
  have e2 := signed_shift t N f (min e f) (Nat.min_le_right ..)
  have e3 : ((-1074 : Int) + e - min (-1074 + (e : Int)) (-1074 + f)).toNat = e - min e f := by omega
  have e4 : ((-1074 : Int) + f - min (-1074 + (e : Int)) (-1074 + f)).toNat = f - min e f := by omega
  have e5 : min (-1074 + (e : Int)) (-1074 + f) = ((min e f : Nat) : Int) - (1074 : Nat) := by omega
  have ho : ∀ k, signed (!t) N k = - signed t N k := by
    intro k; cases t <;> simp [signed]
  show ∃ d σ mag, (Datum.sum (double.read x) (double.read y).opposite).map _ = some d ∧ _
  rw [hx, hy]
  show ∃ d σ mag, (Datum.sum (.number s M (-1074 + e)) (.number (!t) N (-1074 + f))).map _ = some d ∧ _
  simp only [Datum.sum, e3, e4, ho, Option.map_some]
  rw [e5]
  refine ⟨_, _, _, rfl, rfl, ?_⟩
  generalize signed s M (e - min e f) = A at e1
  generalize signed t N (f - min e f) = B at e2
  have h : (A + -B) * ((2 ^ min e f : Nat) : Int) = sgn s (M * 2 ^ e) - sgn t (N * 2 ^ f) := by
    rw [Int.add_mul, Int.neg_mul, e1, e2, Int.sub_eq_add_neg]
  rw [← h, Int.natAbs_mul, Int.natAbs_natCast]
theorem sub_sg {x y : Nat} {s t : Bool} {M N e f : Nat} (hx : double.read x = .number s M (-1074 + e)) (hy : double.read y = .number t N (-1074 + f)) : ∃ d σ, floatBits .sub .f64 x y = some d ∧ Sg σ d := by
  obtain ⟨d, σ, mag, h1, h2, _⟩ := sub_num hx hy
  exact ⟨d, σ, h1, by rw [h2]; exact nearest_sg _ _ _⟩
theorem sub_at {x y j : Nat} {s t : Bool} {M N e f : Nat} (hx : double.read x = .number s M (-1074 + e)) (hy : double.read y = .number t N (-1074 + f)) (hj : 52 ≤ j) (h : 2 ^ j ≤ (sgn s (M * 2 ^ e) - sgn t (N * 2 ^ f)).natAbs) :
    ∃ d σ, floatBits .sub .f64 x y = some d ∧ At j σ d := by
  obtain ⟨d, σ, mag, h1, h2, h3⟩ := sub_num hx hy
  refine ⟨d, σ, h1, ?_⟩
  rw [h2]
  refine nearest_at _ _ _ _ _ ?_ hj
  rw [← h3] at h
  have := Nat.mul_le_mul_right (2 ^ top) h
  rw [← Nat.pow_add, Nat.mul_assoc, ← Nat.pow_add, top_eq] at this
  exact this

/-- A multiple that is no nought is no less than what it is a multiple of. -/
theorem far_apart {n : Int} {s : Bool} {M e u : Nat} (hu : top = u + 62) (he : M = 0 ∨ u ≤ e) (h : n * ((2 ^ top : Nat) : Int) - sgn s (M * 2 ^ e) ≠ 0) : 2 ^ u ≤ (n * ((2 ^ top : Nat) : Int) - sgn s (M * 2 ^ e)).natAbs := by
  obtain ⟨z, hz⟩ : ∃ z : Int, sgn s (M * 2 ^ e) = z * ((2 ^ u : Nat) : Int) := by
    rcases he with rfl | he
    · exact ⟨0, by cases s <;> simp [sgn]⟩
    · refine ⟨sgn s (M * 2 ^ (e - u)), ?_⟩
      have : M * 2 ^ e = M * 2 ^ (e - u) * 2 ^ u := by rw [Nat.mul_assoc, ← Nat.pow_add, Nat.sub_add_cancel he]
      rw [this]
      cases s <;> simp [sgn, Int.neg_mul]
  have hP : ((2 ^ top : Nat) : Int) = ((2 ^ 62 : Nat) : Int) * ((2 ^ u : Nat) : Int) := by rw [hu, Nat.pow_add, Nat.mul_comm, Int.natCast_mul]
  rw [hz, hP, ← Int.mul_assoc, ← Int.sub_mul] at h ⊢
  rw [Int.natAbs_mul, Int.natAbs_natCast]
  refine Nat.le_mul_of_pos_left _ (Int.natAbs_pos.2 fun h0 => h (by rw [h0, Int.zero_mul]))

theorem spread_some {ns : List Int} {r : Nat} (h : SpreadR (ns.map fi) r) (hn : ∀ n ∈ ns, n.natAbs ≤ 1048576) (hl : ns.length ≤ 500) {a b : Int} (ha : a ∈ ns) (hb : b ∈ ns) (hab : a ≠ b) : Go.FloatKind.f64.format.order r 0 ≠ some .eq := by
  have h0 : 0 < ns.length := by
    cases ns with
    | nil => cases ha
    | cons => simp
  obtain ⟨m, q, d, h1, ⟨ps, hpl, hp, hs⟩, h3, h4⟩ := h
  obtain ⟨hm, hS⟩ := mean_fi h1 hn hl h0
  obtain ⟨m', K, hm', hK, _, k2⟩ := quo_is (decide (ns.sum < 0)) ns.sum.natAbs ns.length (by omega) (by omega) h0
  have hCf : fi (ns.length : Int) = double.nearest false ns.length 0 := by
    rw [fi_def, show decide ((ns.length : Int) < 0) = false by simp, Int.natAbs_natCast]
  have hmm : m' = m := by
    have : floatBits .quo .f64 (fi ns.sum) (fi (ns.length : Int)) = some m' := by rw [hCf]; exact hm'
    rw [hm] at this
    exact (Option.some.inj this).symm
  subst hmm
  obtain ⟨M, e, hr, hM, rfl⟩ := hK
  obtain ⟨u, hu⟩ : ∃ u : Nat, top = u + 62 := ⟨1012, rfl⟩
  have hu2 : u = 1012 := by rw [top_eq] at hu; omega
  have he : M = 0 ∨ u ≤ e := by
    rcases Decidable.em (ns.sum = 0) with hz | hz
    · refine .inl ?_
      have := k2 0 (by rw [hz]; simp)
      rw [Nat.zero_mul] at this
      rcases Nat.mul_eq_zero.1 (Nat.le_zero.1 this) with k | k
      · exact k
      · exact absurd k (Nat.ne_of_gt (Nat.two_pow_pos _))
    · refine .inr ?_
      obtain ⟨MS, eS, r1, r2⟩ := fi_read ns.sum (by omega)
      obtain ⟨tt, htt⟩ : ∃ tt : Nat, tt = top := ⟨_, rfl⟩
      have hat : At tt (decide (ns.sum < 0)) (fi ns.sum) := .inr ⟨MS, eS, r1, by rw [r2, htt]; exact Nat.le_mul_of_pos_left _ (by omega)⟩
      obtain ⟨m2, g1, g2⟩ := quo_at (c := ns.length) hat h0 (by omega) (by rw [htt, top_eq]; omega)
      rw [hm] at g1
      obtain rfl := Option.some.inj g1
      rcases g2 with g2 | ⟨M', e', g2, g3⟩
      · rw [hr] at g2; cases g2
      · rw [hr] at g2
        injection g2 with _ g4 g5
        have g6 : e = e' := by omega
        subst g4; subst g6
        have hlt : M < 2 ^ 53 := by
          rcases hM with h | ⟨_, h⟩
          · rw [h]; decide
          · exact h
        have : 2 ^ (tt - 10) < 2 ^ (53 + e) := by
          rw [Nat.pow_add]
          exact Nat.lt_of_le_of_lt g3 (Nat.mul_lt_mul_of_pos_right hlt (Nat.two_pow_pos _))
        have := pow_lt this
        rw [htt, top_eq] at this
        omega
  -- one of the two is not the mean
  obtain ⟨n, hnm, hD⟩ : ∃ n ∈ ns, n * ((2 ^ top : Nat) : Int) - sgn (decide (ns.sum < 0)) (M * 2 ^ e) ≠ 0 := by
    rcases Decidable.em (a * ((2 ^ top : Nat) : Int) - sgn (decide (ns.sum < 0)) (M * 2 ^ e) = 0) with ka | ka
    · refine ⟨b, hb, fun kb => hab ?_⟩
      have p2 : ((2 ^ top : Nat) : Int) ≠ 0 := by have := Nat.two_pow_pos top; omega
      exact Int.eq_of_mul_eq_mul_right p2 (by omega)
    · exact ⟨a, ha, ka⟩
  have hsg : ∀ p ∈ ps, Sg false p := fun p hpm => by
    obtain ⟨x, hx, y, hy, i, hxi, hyi, d1, d2, c1, c2, c3⟩ := prod_mem hp hpm
    rw [hxi] at hyi
    obtain rfl := Option.some.inj hyi
    obtain ⟨v, hv, rfl⟩ := List.mem_map.1 hx
    obtain ⟨Mv, ev, r1, r2⟩ := fi_read v (by have := hn v hv; omega)
    obtain ⟨d', σ, g1, g2⟩ := sub_sg r1 hr
    obtain rfl := c1.eq g1
    obtain rfl := c2.eq g1
    obtain ⟨p', g3, g4⟩ := sq_sg g2
    obtain rfl := c3.eq g3
    exact g4
  have hbig : ∃ p ∈ ps, At 950 false p := by
    obtain ⟨i, hi⟩ := List.mem_iff_getElem?.1 hnm
    have hil := (List.getElem?_eq_some_iff.1 hi).1
    have hpi := List.getElem?_eq_getElem (l := ps) (i := i) (by rw [hpl, List.length_map]; exact hil)
    have hni : (ns.map fi)[i]? = some (fi n) := by rw [List.getElem?_map, hi]; rfl
    refine ⟨_, List.mem_of_getElem? hpi, ?_⟩
    obtain ⟨d1, d2, c1, c2, c3⟩ := hp.2.2 i _ _ _ hni hni hpi
    obtain ⟨Mv, ev, r1, r2⟩ := fi_read n (by have := hn n hnm; omega)
    have hfar := far_apart (n := n) hu he hD
    have hsn : sgn (decide (n < 0)) (Mv * 2 ^ ev) = n * ((2 ^ top : Nat) : Int) := by rw [r2]; exact sgn_int n _
    rw [← hsn] at hfar
    obtain ⟨d', σ, g1, g2⟩ := sub_at r1 hr (by omega) hfar
    obtain rfl := c1.eq g1
    obtain rfl := c2.eq g1
    obtain ⟨p', g3, g4⟩ := sq_at g2 (by omega)
    rw [c3.eq g3]
    rw [show 2 * u - 1074 = 950 by omega] at g4
    exact g4
  have hq := sums_at 950 (by omega) ps 0 q hs (.inr ⟨0, 0, read_word false 0 (by decide)⟩) hsg (.inr hbig)
  obtain ⟨d', g1, g2⟩ := quo_at (c := ns.length) hq h0 (by omega) (by omega)
  rw [List.length_map] at h3
  obtain rfl := h3.eq (show floatBits .quo .f64 q (fw ns.length) = some d' from g1)
  exact root_at g2 h4
end Go.Ser
