/- FrameSpoilt: the mathematics: a number is read back; a frame whose tag, or whose body and sum within 32 bits, are turned, is refused for its sum. -/
import Derived.Test.YtolbmjilcngnhaaDoorFrM
set_option linter.unusedSimpArgs false
set_option linter.unusedVariables false
namespace Go.Frm
open Go

theorem lenP_numF (r : List UInt8) : ∀ (f n i acc : Nat), 1 ≤ f → n < 128 ^ f → (0 < i → 0 < n) → acc + n * 128 ^ i ≤ 268435456 → lenP i acc (numF f n ++ r) = (acc + n * 128 ^ i, i + (numF f n).length, 0)
  | 0, _, _, _, h, _, _, _ => absurd h (by omega)
  | f + 1, n, i, acc, _, hn, hi, hb => by
    by_cases h : n < 128
    · rw [numF_last f n h]
      have hc : (UInt8.ofNat n).toNat = n := by simp; omega
      have hm : acc + (UInt8.ofNat n).toNat % 128 * 128 ^ i = acc + n * 128 ^ i := by rw [hc, Nat.mod_eq_of_lt h]
      exact lenP_done i acc _ r _ (by rw [hc]; omega) hm (by rw [hc]; omega)
    · rw [numF_next f n h]
      have hf : 1 ≤ f := by
        rcases Nat.eq_zero_or_pos f with h0 | h0
        · subst h0; simp at hn; omega
        · exact h0
      have hc : (UInt8.ofNat (n % 128 + 128)).toNat = n % 128 + 128 := by simp; omega
      have e : n * 128 ^ i = n % 128 * 128 ^ i + n / 128 * 128 ^ (i + 1) := by
        rw [Nat.pow_succ, Nat.mul_comm (128 ^ i) 128, ← Nat.mul_assoc, ← Nat.add_mul]
        congr 1; omega
      have hm : acc + (UInt8.ofNat (n % 128 + 128)).toNat % 128 * 128 ^ i = acc + n % 128 * 128 ^ i := by
        rw [hc]; congr 2; omega
      have h1 : 128 ^ (i + 1) ≤ n / 128 * 128 ^ (i + 1) := Nat.le_mul_of_pos_left _ (by omega)
      rw [List.cons_append, lenP_more i acc _ _ _ (by rw [hc]; omega) hm (by omega)]
      rw [lenP_numF r f (n / 128) (i + 1) _ hf (by rw [Nat.pow_succ] at hn; omega) (by omega) (by omega)]
      simp only [List.length_cons, Prod.mk.injEq, and_true]
      omega
theorem lenP_numB (n : Nat) (r : List UInt8) (hn : n ≤ 268435456) : lenP 0 0 (numB n ++ r) = (n, (numB n).length, 0) := by
  have h := lenP_numF r 10 n 0 0 (by omega) (by omega) (by omega) (by omega)
  rw [show numB n = numF 10 n from rfl, h]
  simp

/-- Where a frame lies whose number is right. -/
theorem look_put (t : UInt8) (n : Nat) (b s : List UInt8) (hb : b.length = n) (hs : s.length = 4) (hn : n ≤ 268435456) :
    look (t :: (numB n ++ b) ++ s) = if s ≠ Crc.bytes4 (Crc.more 0#32 (t :: (numB n ++ b))) then (0, 0, 132) else (1 + (numB n).length, 1 + (numB n).length + n, 0) := by
  have h1 : lenP 0 0 (numB n ++ b ++ s) = (n, (numB n).length, 0) := by rw [List.append_assoc]; exact lenP_numB n _ hn
  have hl : (t :: (numB n ++ b)).length = 1 + (numB n).length + n := by simp [hb]; omega
  rw [List.cons_append, look, h1]
  simp only [ne_eq, not_true_eq_false, if_false]
  rw [if_neg (by simp [hb, hs]; omega), ← List.cons_append, ← hl, List.drop_left, List.take_left, List.take_of_length_le (by omega)]

theorem bytes4_inj {x y : BitVec 32} (h : Crc.bytes4 x = Crc.bytes4 y) : x = y := by
  rw [← Crc.pack_bytes4 x, h, Crc.pack_bytes4]
/-- A frame read back. -/
theorem look_frame (t : UInt8) (l : List UInt8) (hn : l.length ≤ 268435456) : look (frame t l) = (1 + (numB l.length).length, 1 + (numB l.length).length + l.length, 0) := by
  have h := look_put t l.length l (Crc.bytes4 (Crc.more 0#32 (t :: (numB l.length ++ l)))) rfl rfl hn
  rw [if_neg (by simp)] at h
  exact h

/-- Another tag: another sum. -/
theorem look_tag (t t' : UInt8) (l : List UInt8) (hn : l.length ≤ 268435456) (hne : t' ≠ t) : look (t' :: (numB l.length ++ l) ++ Crc.bytes4 (Crc.more 0#32 (head t l))) = (0, 0, 132) := by
  rw [look_put t' l.length l _ rfl rfl hn, if_pos]
  intro h
  have h := bytes4_inj h
  refine Crc.more_ne (head t l) (t' :: (numB l.length ++ l)) 0#32 0 (by simp [head]) (fun i hi => ?_) (fun e => hne ?_) h
  · refine ⟨Nat.zero_le _, ?_⟩
    rcases Nat.lt_or_ge i 32 with h1 | h1
    · omega
    · exfalso
      refine hi ?_
      have hd : i = 8 * (i / 8) + i % 8 := by omega
      have hm : i % 8 < 8 := Nat.mod_lt _ (by omega)
      rw [hd, Crc.allBits_get _ _ _ hm, Crc.allBits_get _ _ _ hm]
      obtain ⟨j, hj⟩ : ∃ j, i / 8 = j + 1 := ⟨i / 8 - 1, by omega⟩
      rw [hj, head]
      simp
  · unfold head at e
    simp only [List.cons.injEq] at e
    exact e.1.symm

/-- A text whose bits from 'bit' on are turned by the first k bits of a mask. -/
def spoil (l : List UInt8) (bit : Nat) (mask : BitVec 32) : Nat → List UInt8
  | 0 => l
  | k + 1 => if mask.getLsbD k ∧ bit + k < 8 * l.length then (spoil l bit mask k).modify ((bit + k) / 8) (· ^^^ UInt8.ofNat (2 ^ ((bit + k) % 8))) else spoil l bit mask k
theorem spoil_succ (l : List UInt8) (bit : Nat) (mask : BitVec 32) (k : Nat) : spoil l bit mask (k + 1) = if mask.getLsbD k ∧ bit + k < 8 * l.length then (spoil l bit mask k).modify ((bit + k) / 8) (· ^^^ UInt8.ofNat (2 ^ ((bit + k) % 8))) else spoil l bit mask k := rfl
theorem spoil_len (l : List UInt8) (bit : Nat) (mask : BitVec 32) : ∀ k, (spoil l bit mask k).length = l.length
  | 0 => rfl
  | k + 1 => by rw [spoil_succ]; split <;> simp [spoil_len l bit mask k]
/-- Only bits from 'bit' on, k of them, turn. -/
theorem spoil_bits (l : List UInt8) (bit : Nat) (mask : BitVec 32) : ∀ k (i : Nat), (Crc.allBits (spoil l bit mask k))[i]? ≠ (Crc.allBits l)[i]? → bit ≤ i ∧ i < bit + k
  | 0, i, h => absurd rfl h
  | k + 1, i, h => by
    by_cases hi : bit ≤ i ∧ i < bit + (k + 1)
    · exact hi
    · exfalso
      have hne : i ≠ bit + k := by omega
      have ih : (Crc.allBits (spoil l bit mask k))[i]? = (Crc.allBits l)[i]? := by
        refine Classical.byContradiction fun e => ?_
        have := spoil_bits l bit mask k i e
        omega
      refine h ?_
      rw [← ih]
      rw [spoil_succ]
      split
      · rename_i hc
        have hlen := spoil_len l bit mask k
        have hd : i = 8 * (i / 8) + i % 8 := by omega
        have hm : i % 8 < 8 := Nat.mod_lt _ (by omega)
        rw [hd, Crc.allBits_get _ _ _ hm, Crc.allBits_get _ _ _ hm, List.getElem?_modify]
        cases hb : (spoil l bit mask k)[i / 8]? with
        | none => rfl
        | some b =>
          by_cases e : (bit + k) / 8 = i / 8
          · have h8 : (bit + k) % 8 ≠ i % 8 := by omega
            have : (UInt8.ofNat (2 ^ ((bit + k) % 8))).toBitVec.getLsbD (i % 8) = false := by
              have h9 : (bit + k) % 8 < 8 := Nat.mod_lt _ (by omega)
              generalize (bit + k) % 8 = p at h8 h9
              generalize i % 8 = q at h8 hm
              have : ∀ p q : Fin 8, p ≠ q → (UInt8.ofNat (2 ^ p.val)).toBitVec.getLsbD q.val = false := by decide
              exact this ⟨p, h9⟩ ⟨q, hm⟩ (fun e => h8 (by simpa using e))
            show some ((if (bit + k) / 8 = i / 8 then b ^^^ _ else b).toBitVec.getLsbD _) = some _
            rw [if_pos e, UInt8.toBitVec_xor, BitVec.getLsbD_xor, this, Bool.xor_false]
          · show some ((if (bit + k) / 8 = i / 8 then b ^^^ _ else b).toBitVec.getLsbD _) = some _
            rw [if_neg e]
      · rfl
/-- What lies ahead stays. -/
theorem spoil_ahead (l : List UInt8) (bit : Nat) (mask : BitVec 32) (f : Nat) (hf : 8 * f ≤ bit) : ∀ k, (spoil l bit mask k).take f = l.take f
  | 0 => rfl
  | k + 1 => by
    rw [← spoil_ahead l bit mask f hf k, spoil_succ]
    split
    · apply List.ext_getElem?
      intro i
      rw [List.getElem?_take, List.getElem?_take]
      split
      · rw [List.getElem?_modify]
        have : (bit + k) / 8 ≠ i := by omega
        simp [this]
      · rfl
    · rfl
/-- A frame whose body and sum are spoilt within 32 bits is refused for its sum. -/
theorem look_spoilt (t : UInt8) (l : List UInt8) (hn : l.length ≤ 268435456) (bit : Nat) (mask : BitVec 32) (hb : 8 * (1 + (numB l.length).length) ≤ bit) (hne : spoil (frame t l) bit mask 32 ≠ frame t l) :
    look (spoil (frame t l) bit mask 32) = (0, 0, 132) := by
  have hlen := spoil_len (frame t l) bit mask 32
  have hah := spoil_ahead (frame t l) bit mask _ hb 32
  have hsum := Crc.more_ne (frame t l) _ 0#32 bit hlen.symm (fun i hi => spoil_bits (frame t l) bit mask 32 i (fun e => hi e.symm)) (fun e => hne e.symm)
  generalize spoil (frame t l) bit mask 32 = S at *
  have hfl := frame_len t l
  have ht : (frame t l).take (1 + (numB l.length).length) = t :: numB l.length := by
    rw [frame, head, show t :: (numB l.length ++ l) ++ Crc.bytes4 (Crc.more 0#32 (t :: (numB l.length ++ l))) = (t :: numB l.length) ++ (l ++ Crc.bytes4 (Crc.more 0#32 (t :: (numB l.length ++ l)))) by simp]
    rw [show 1 + (numB l.length).length = (t :: numB l.length).length by simp; omega, List.take_left]
  obtain ⟨b, s, hbl, hsl, hS⟩ : ∃ b s : List UInt8, b.length = l.length ∧ s.length = 4 ∧ S = t :: (numB l.length ++ b) ++ s := by
    refine ⟨(S.drop (1 + (numB l.length).length)).take l.length, (S.drop (1 + (numB l.length).length)).drop l.length, by simp; omega, by simp; omega, ?_⟩
    have h1 := (List.take_append_drop (1 + (numB l.length).length) S).symm
    rw [hah, ht] at h1
    rw [show t :: (numB l.length ++ List.take l.length (List.drop (1 + (numB l.length).length) S)) ++ List.drop l.length (List.drop (1 + (numB l.length).length) S) = (t :: numB l.length) ++ (List.take l.length (List.drop (1 + (numB l.length).length) S) ++ List.drop l.length (List.drop (1 + (numB l.length).length) S)) by simp, List.take_append_drop]
    exact h1
  rw [hS, look_put t l.length b s hbl hsl hn, if_pos]
  intro h
  refine hsum ?_
  rw [hS, frame, Crc.more_self 0#32 (head t l) _ rfl (Crc.pack_bytes4 _), Crc.more_self 0#32 (t :: (numB l.length ++ b)) s hsl (by rw [h, Crc.pack_bytes4])]
end Go.Frm
