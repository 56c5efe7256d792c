/- Timers, with no program in sight: their order; a heap with one place that is open. -/
import Derived.Laws.Strings
set_option linter.unusedSimpArgs false
set_option linter.unusedVariables false
namespace Go.Tm

/-- A timer. -/
structure T where
  (a : Int) (k : ByteArray) (s e : Int)

theorem T.ext' {x y : T} (h1 : x.a = y.a) (h2 : x.k = y.k) (h3 : x.s = y.s) (h4 : x.e = y.e) : x = y := by
  cases x; cases y; cases h1; cases h2; cases h3; cases h4; rfl

/-! ### The order -/
def num (x y : Int) : Int := if x < y then -1 else if y < x then 1 else 0
def str (x y : ByteArray) : Int := if Op.bytesLess x.toList y.toList = true then -1 else if (!(Op.bytesLess x.toList y.toList || x.toList == y.toList)) = true then 1 else 0
def or4 (c1 c2 c3 c4 : Int) : Int := if c1 ≠ 0 then c1 else if c2 ≠ 0 then c2 else if c3 ≠ 0 then c3 else c4
def cmp (x y : T) : Int := or4 (num x.a y.a) (str x.k y.k) (num x.s y.s) (num x.e y.e)

theorem num_self (x : Int) : num x x = 0 := by unfold num; simp
theorem num_neg (x y : Int) : num y x = - num x y := by unfold num; split <;> split <;> (try split) <;> omega
theorem num_zero {x y : Int} (h : num x y = 0) : x = y := by unfold num at h; split at h <;> (try split at h) <;> omega
theorem num_lt {x y : Int} : num x y < 0 ↔ x < y := by unfold num; split <;> (try split) <;> omega

theorem u8_lt_irrefl (a : UInt8) : ¬ a < a := by simp
theorem u8_lt_trans {a b c : UInt8} (h : a < b) (k : b < c) : a < c := by
  rw [UInt8.lt_iff_toNat_lt] at *; omega
theorem u8_tri {a b : UInt8} (h : ¬ a < b) (k : a ≠ b) : b < a := by
  rw [UInt8.lt_iff_toNat_lt] at *
  have : a.toNat ≠ b.toNat := fun e => k (UInt8.toNat_inj.1 e)
  omega

theorem bl_irrefl : ∀ x : List UInt8, Op.bytesLess x x = false
  | [] => rfl
  | a :: x => by simp [Op.bytesLess, bl_irrefl x]
theorem bl_trans : ∀ {x y z : List UInt8}, Op.bytesLess x y = true → Op.bytesLess y z = true → Op.bytesLess x z = true
  | x, [], z, h, _ => by cases x <;> simp [Op.bytesLess] at h
  | x, b :: y, [], _, k => by simp [Op.bytesLess] at k
  | [], b :: y, c :: z, _, _ => rfl
  | a :: x, b :: y, c :: z, h, k => by
    simp only [Op.bytesLess, Bool.or_eq_true, Bool.and_eq_true, decide_eq_true_eq, beq_iff_eq] at h k ⊢
    rcases h with h | ⟨rfl, h⟩
    · rcases k with k | ⟨rfl, k⟩
      · exact .inl (u8_lt_trans h k)
      · exact .inl h
    · rcases k with k | ⟨rfl, k⟩
      · exact .inl k
      · exact .inr ⟨rfl, bl_trans h k⟩
theorem bl_tri : ∀ {x y : List UInt8}, Op.bytesLess x y = false → x ≠ y → Op.bytesLess y x = true
  | [], [], _, h => absurd rfl h
  | [], b :: y, h, _ => by simp [Op.bytesLess] at h
  | a :: x, [], _, _ => rfl
  | a :: x, b :: y, h, k => by
    simp only [Op.bytesLess, Bool.or_eq_false_iff, Bool.and_eq_false_iff, decide_eq_false_iff_not] at h
    simp only [Op.bytesLess, Bool.or_eq_true, Bool.and_eq_true, decide_eq_true_eq, beq_iff_eq]
    by_cases e : a = b
    · subst e
      refine .inr ⟨rfl, bl_tri ?_ (fun e => k (by rw [e]))⟩
      rcases h.2 with h2 | h2
      · simp at h2
      · exact h2
    · exact .inl (u8_tri h.1 e)

theorem toList_inj {x y : ByteArray} (h : x.toList = y.toList) : x = y := by
  rw [ByteArray.toList_eq, ByteArray.toList_eq] at h
  exact ByteArray.ext (Array.toList_inj.1 h)

theorem str_self (x : ByteArray) : str x x = 0 := by unfold str; simp [bl_irrefl]
theorem str_lt {x y : ByteArray} : str x y < 0 ↔ Op.bytesLess x.toList y.toList = true := by
  unfold str
  split
  · rename_i h; simp [h]
  · rename_i h
    split <;> simp [h]
theorem str_gt {x y : ByteArray} : 0 < str x y ↔ Op.bytesLess y.toList x.toList = true := by
  unfold str
  split
  · rename_i h
    constructor
    · intro h2; omega
    · intro h2
      have := bl_trans h h2
      rw [bl_irrefl] at this; cases this
  · rename_i h
    have h' : Op.bytesLess x.toList y.toList = false := by simpa using h
    split
    · rename_i h2
      simp only [h', Bool.false_or, Bool.not_eq_true', beq_eq_false_iff_ne] at h2
      simp [bl_tri h' h2]
    · rename_i h2
      simp only [h', Bool.false_or, Bool.not_eq_true', beq_eq_false_iff_ne, Decidable.not_not] at h2
      rw [h2, bl_irrefl]; simp
theorem str_val (x y : ByteArray) : str x y = -1 ∨ str x y = 0 ∨ str x y = 1 := by unfold str; split <;> (try split) <;> simp
theorem str_zero {x y : ByteArray} (h : str x y = 0) : x = y := by
  have h1 : ¬ str x y < 0 := by omega
  have h2 : ¬ 0 < str x y := by omega
  rw [str_lt] at h1
  rw [str_gt] at h2
  refine toList_inj (Decidable.byContradiction fun e => h2 (bl_tri (by simpa using h1) e))
theorem str_neg (x y : ByteArray) : str y x = - str x y := by
  rcases str_val x y with h | h | h
  · have : 0 < str y x := str_gt.2 (str_lt.1 (by omega))
    rcases str_val y x with h2 | h2 | h2 <;> omega
  · rw [str_zero h, str_self]; rfl
  · have : str y x < 0 := str_lt.2 (str_gt.1 (by omega))
    rcases str_val y x with h2 | h2 | h2 <;> omega
theorem num_val (x y : Int) : num x y = -1 ∨ num x y = 0 ∨ num x y = 1 := by unfold num; split <;> (try split) <;> simp

theorem cmp_self (x : T) : cmp x x = 0 := by simp [cmp, or4, num_self, str_self]
theorem cmp_zero {x y : T} (h : cmp x y = 0) : x = y := by
  unfold cmp or4 at h
  split at h
  · rename_i h1; exact absurd h h1
  rename_i h1
  split at h
  · rename_i h2; exact absurd h h2
  rename_i h2
  split at h
  · rename_i h3; exact absurd h h3
  rename_i h3
  exact T.ext' (num_zero (by omega)) (str_zero (by omega)) (num_zero (by omega)) (num_zero h)
theorem cmp_neg (x y : T) : cmp y x = - cmp x y := by
  unfold cmp or4
  rw [num_neg x.a y.a, str_neg x.k y.k, num_neg x.s y.s, num_neg x.e y.e]
  split <;> split <;> (try split) <;> (try split) <;> (try split) <;> (try split) <;> omega
theorem cmp_val (x y : T) : cmp x y = -1 ∨ cmp x y = 0 ∨ cmp x y = 1 := by
  have h1 := num_val x.a y.a
  have h2 := str_val x.k y.k
  have h3 := num_val x.s y.s
  have h4 := num_val x.e y.e
  unfold cmp or4
  split <;> (try split) <;> (try split) <;> assumption

/-- Ahead of. -/
def lt (x y : T) : Prop := cmp x y < 0
instance (x y : T) : Decidable (lt x y) := inferInstanceAs (Decidable (cmp x y < 0))
theorem lt_irrefl (x : T) : ¬ lt x x := by unfold lt; rw [cmp_self]; omega
theorem lt_asymm {x y : T} (h : lt x y) : ¬ lt y x := by unfold lt at *; rw [cmp_neg x y]; omega
theorem lt_tri {x y : T} (h : ¬ lt x y) (hne : x ≠ y) : lt y x := by
  unfold lt at *
  have : cmp x y ≠ 0 := fun e => hne (cmp_zero e)
  rw [cmp_neg x y]; omega
theorem lt_iff {x y : T} : lt x y ↔ num x.a y.a < 0 ∨ (x.a = y.a ∧ (str x.k y.k < 0 ∨ (x.k = y.k ∧ (num x.s y.s < 0 ∨ (x.s = y.s ∧ num x.e y.e < 0))))) := by
  unfold lt cmp or4
  split
  · rename_i h1
    constructor
    · exact fun h => .inl h
    · rintro (h | ⟨e, _⟩)
      · exact h
      · rw [e, num_self] at h1; exact absurd rfl h1
  rename_i h1
  have e1 := num_zero (Decidable.not_not.1 h1)
  rw [e1, num_self]
  simp only [Int.lt_irrefl, false_or, true_and]
  split
  · rename_i h2
    constructor
    · exact fun h => .inl h
    · rintro (h | ⟨e, _⟩)
      · exact h
      · rw [e, str_self] at h2; exact absurd rfl h2
  rename_i h2
  have e2 := str_zero (Decidable.not_not.1 h2)
  rw [e2, str_self]
  simp only [Int.lt_irrefl, false_or, true_and]
  split
  · rename_i h3
    constructor
    · exact fun h => .inl h
    · rintro (h | ⟨e, _⟩)
      · exact h
      · rw [e, num_self] at h3; exact absurd rfl h3
  rename_i h3
  have e3 := num_zero (Decidable.not_not.1 h3)
  rw [e3, num_self]
  simp
theorem lt_trans {x y z : T} (h : lt x y) (k : lt y z) : lt x z := by
  rw [lt_iff] at *
  simp only [num_lt, str_lt] at *
  rcases h with h | ⟨e, h⟩
  · rcases k with k | ⟨e2, _⟩
    · exact .inl (by omega)
    · exact .inl (by omega)
  · rcases k with k | ⟨e2, k⟩
    · exact .inl (by omega)
    · refine .inr ⟨by omega, ?_⟩
      rcases h with h | ⟨e3, h⟩
      · rcases k with k | ⟨e4, _⟩
        · exact .inl (bl_trans h k)
        · exact .inl (by rw [← e4]; exact h)
      · rcases k with k | ⟨e4, k⟩
        · exact .inl (by rw [e3]; exact k)
        · refine .inr ⟨e3.trans e4, ?_⟩
          rcases h with h | ⟨e5, h⟩
          · rcases k with k | ⟨e6, _⟩
            · exact .inl (by omega)
            · exact .inl (by omega)
          · rcases k with k | ⟨e6, k⟩
            · exact .inl (by omega)
            · exact .inr ⟨by omega, by omega⟩
/-- Not behind. -/
theorem le_trans {x y z : T} (h : ¬ lt y x) (k : ¬ lt z y) : ¬ lt z x := by
  intro hz
  by_cases e : x = y
  · rw [e] at hz; exact k hz
  · have h1 : lt x y := Decidable.byContradiction fun h2 => h (lt_tri h2 e)
    exact k (lt_trans hz h1)
theorem at_le {x y : T} (h : ¬ lt y x) : x.a ≤ y.a := by
  rw [lt_iff, num_lt] at h
  omega
instance : DecidableEq T := fun x y => if h : cmp x y = 0 then .isTrue (cmp_zero h) else .isFalse fun e => h (by rw [e, cmp_self])

end Go.Tm
