/- The document's own way to a number's end: the same as lenP. -/
import Derived.Test.YtolbmjilcngnhaaDoorFrPre
set_option linter.unusedSimpArgs false
set_option linter.unusedVariables false
namespace Go.Frm
open Go

/-- What the sevens of some bytes are worth, the lowest first. -/
def lowN : List UInt8 → Nat
  | [] => 0
  | c :: r => c.toNat % 128 + 128 * lowN r
theorem lowN_lt : ∀ l : List UInt8, lowN l < 128 ^ l.length
  | [] => by simp [lowN]
  | c :: r => by
    have := lowN_lt r
    rw [lowN, List.length_cons, Nat.pow_succ]
    omega
theorem lowN_snoc : ∀ (l : List UInt8) (c : UInt8), lowN (l ++ [c]) = lowN l + c.toNat % 128 * 128 ^ l.length
  | [], c => by simp [lowN]
  | a :: r, c => by
    rw [List.cons_append, lowN, lowN, lowN_snoc r c, List.length_cons, Nat.pow_succ, Nat.mul_add, Nat.add_assoc]
    congr 2
    rw [Nat.mul_comm (128 ^ r.length) 128, ← Nat.mul_assoc, ← Nat.mul_assoc, Nat.mul_comm 128]
theorem lowN_take (l : List UInt8) (j : Nat) (c : UInt8) (h : l[j]? = some c) : lowN (l.take (j + 1)) = lowN (l.take j) + c.toNat % 128 * 128 ^ j := by
  have hj := (List.getElem?_eq_some_iff.1 h).1
  rw [List.take_add_one, h]
  show lowN (l.take j ++ [c]) = _
  rw [lowN_snoc, List.length_take, Nat.min_eq_left (by omega)]

theorem lenP_hi : ∀ (hi rest : List UInt8) (i n : Nat), hi ≠ [] → (∀ c ∈ hi, 128 ≤ c.toNat) →
    lenP i n (hi ++ rest) = if 268435456 < n + lowN hi * 128 ^ i + 128 ^ (i + hi.length) then (0, 0, 131) else lenP (i + hi.length) (n + lowN hi * 128 ^ i) rest
  | [], _, _, _, h, _ => absurd rfl h
  | c :: r, rest, i, n, _, ha => by
    have h1 : 128 ≤ c.toNat := ha c (List.mem_cons_self ..)
    rw [List.cons_append, lenP, if_pos h1]
    by_cases hr : r = []
    · subst hr
      simp only [List.nil_append, lowN, Nat.mul_zero, Nat.add_zero, List.length_cons, List.length_nil, Nat.zero_add]
    · have key := lenP_hi r rest (i + 1) (n + c.toNat % 128 * 128 ^ i) hr (fun c hc => ha c (List.mem_cons_of_mem _ hc))
      rw [key]
      have e1 : n + c.toNat % 128 * 128 ^ i + lowN r * 128 ^ (i + 1) = n + lowN (c :: r) * 128 ^ i := by
        rw [lowN, Nat.add_mul, Nat.pow_succ, Nat.mul_comm (128 ^ i) 128, ← Nat.mul_assoc, Nat.mul_comm 128 (lowN r), Nat.add_assoc]
      have e2 : i + 1 + r.length = i + (c :: r).length := by simp; omega
      rw [e1, e2]
      have hp : 128 ^ (i + 1) ≤ 128 ^ (i + (c :: r).length) := Nat.pow_le_pow_right (by omega) (by simp)
      have hle : n + c.toNat % 128 * 128 ^ i ≤ n + lowN (c :: r) * 128 ^ i := by rw [← e1]; omega
      by_cases h2 : 268435456 < n + c.toNat % 128 * 128 ^ i + 128 ^ (i + 1)
      · rw [if_pos h2, if_pos (by omega)]
      · rw [if_neg h2]

theorem pow9 (n : Nat) (h : 9 ≤ n) : 268435456 < 128 ^ n := Nat.lt_of_lt_of_le (by decide) (Nat.pow_le_pow_right (by omega) h)
/-- All bytes have 128 more. -/
theorem lenP_all (l : List UInt8) (h : ∀ c ∈ l, 128 ≤ c.toNat) : lenP 0 0 l = if l.length < 9 ∧ lowN l + 128 ^ l.length ≤ 268435456 then (0, 0, 130) else (0, 0, 131) := by
  by_cases h0 : l = []
  · subst h0
    simp [lenP, lowN]
  · have key := lenP_hi l [] 0 0 h0 h
    rw [List.append_nil] at key
    rw [key]
    simp only [Nat.pow_zero, Nat.mul_one, Nat.zero_add]
    have := pow9 l.length
    by_cases h1 : 268435456 < lowN l + 128 ^ l.length
    · rw [if_pos h1, if_neg (by omega)]
    · rw [if_neg h1, if_pos (by constructor <;> omega)]
      rfl

theorem numF_len_eq : ∀ (f n k : Nat), n < 128 ^ f → k < f → n < 128 ^ (k + 1) → (k = 0 ∨ 128 ^ k ≤ n) → (numF f n).length = k + 1
  | 0, _, _, _, h, _, _ => absurd h (by omega)
  | f + 1, n, 0, _, _, h, _ => by rw [numF_last f n (by simpa using h)]; rfl
  | f + 1, n, k + 1, h1, h2, h3, h4 => by
    have h5 : 128 ^ (k + 1) ≤ n := by rcases h4 with h | h; · omega
                                      · exact h
    have hp : 0 < 128 ^ k := Nat.pow_pos (by omega)
    rw [Nat.pow_succ] at h1 h3 h5
    rw [numF_next f n (by omega), List.length_cons]
    rw [numF_len_eq f (n / 128) k (by omega) (by omega) (by rw [Nat.pow_succ] at h3 ⊢; omega) (.inr (by omega))]
theorem numF_len_le : ∀ (f n k : Nat), n < 128 ^ k → 0 < k → (numF f n).length ≤ k
  | 0, _, _, _, _ => by simp [numF]
  | f + 1, n, 0, _, h => absurd h (by omega)
  | f + 1, n, k + 1, h, _ => by
    by_cases h1 : n < 128
    · rw [numF_last f n h1]; simp
    · rw [numF_next f n h1, List.length_cons]
      have hk : 0 < k := by
        rcases Nat.eq_zero_or_pos k with h0 | h0
        · subst h0; simp at h; omega
        · exact h0
      have := numF_len_le f (n / 128) k (by rw [Nat.pow_succ] at h; omega) hk
      omega

/-- Some bytes have 128 more, the next one has not. -/
theorem lenP_end (hi : List UInt8) (c : UInt8) (r : List UInt8) (h : ∀ c ∈ hi, 128 ≤ c.toNat) (hc : c.toNat < 128) (k : Nat) (hk : hi.length = k) (N : Nat) (hN : lowN hi + c.toNat * 128 ^ k = N) :
    lenP 0 0 (hi ++ c :: r) = if 9 ≤ k ∨ 268435456 < N ∨ (numB N).length ≠ k + 1 then (0, 0, 131) else (N, k + 1, 0) := by
  have hm : c.toNat % 128 = c.toNat := Nat.mod_eq_of_lt hc
  have hlow := lowN_lt hi
  rw [hk] at hlow
  have tail : k ≠ 0 → lenP k (lowN hi) (c :: r) = if (c.toNat = 0 ∧ 0 < k) ∨ 268435456 < N then (0, 0, 131) else (N, k + 1, 0) := fun _ => by
    rw [lenP, if_neg (by omega), hm, hN]
  by_cases h0 : hi = []
  · subst h0
    simp only [List.length_nil] at hk
    subst hk
    simp only [lowN, Nat.pow_zero, Nat.mul_one, Nat.zero_add] at hN
    subst hN
    rw [List.nil_append, lenP, if_neg (by omega), hm]
    simp only [Nat.pow_zero, Nat.mul_one, Nat.zero_add]
    have e : (numB c.toNat).length = 1 := by rw [numB, numF_last 9 _ hc]; rfl
    rw [if_neg (by omega), if_neg (by rw [e]; omega)]
  · have key := lenP_hi hi (c :: r) 0 0 h0 h
    simp only [Nat.pow_zero, Nat.mul_one, Nat.zero_add] at key
    have hk0 : k ≠ 0 := by rw [← hk]; intro h'; exact h0 (List.eq_nil_of_length_eq_zero h')
    rw [key, hk, tail hk0]
    have h9 := pow9 k
    by_cases hc0 : c.toNat = 0
    · rw [hc0, Nat.zero_mul, Nat.add_zero] at hN
      subst hN
      have hlen := numF_len_le 10 (lowN hi) k hlow (by omega)
      rw [if_pos (show 9 ≤ k ∨ 268435456 < lowN hi ∨ (numB (lowN hi)).length ≠ k + 1 from .inr (.inr (by unfold numB; omega))), if_pos (show (c.toNat = 0 ∧ 0 < k) ∨ 268435456 < lowN hi from .inl ⟨hc0, by omega⟩)]
      split <;> rfl
    · have hge : 128 ^ k ≤ c.toNat * 128 ^ k := by
        have := Nat.mul_le_mul_right (128 ^ k) (show 1 ≤ c.toNat by omega)
        omega
      by_cases h2 : 268435456 < lowN hi + 128 ^ k
      · rw [if_pos h2, if_pos (show 9 ≤ k ∨ 268435456 < N ∨ (numB N).length ≠ k + 1 from .inr (.inl (by omega)))]
      · rw [if_neg h2]
        have hk9 : k < 9 := by
          rcases Nat.lt_or_ge k 9 with h' | h'
          · exact h'
          · have := h9 h'; omega
        by_cases h3 : 268435456 < N
        · rw [if_pos (show (c.toNat = 0 ∧ 0 < k) ∨ 268435456 < N from .inr h3), if_pos (show 9 ≤ k ∨ 268435456 < N ∨ (numB N).length ≠ k + 1 from .inr (.inl h3))]
        · have hlt : N < 128 ^ (k + 1) := by
            rw [Nat.pow_succ, ← hN]
            have := Nat.mul_le_mul_right (128 ^ k) (show c.toNat ≤ 127 by omega)
            omega
          have hlen : (numB N).length = k + 1 := numF_len_eq 10 N k (by have : (128 : Nat) ^ 10 = 1180591620717411303424 := by decide
                                                                        omega) (by omega) hlt (.inr (by omega))
          rw [if_neg (by omega), if_neg (by rw [hlen]; omega)]
end Go.Frm
