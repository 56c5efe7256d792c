/- CrcSpoilt: the walk. -/
import Derived.Test.YtcjmobikjegioaaDoorCLend
set_option linter.unusedSimpArgs false
set_option linter.unusedVariables false
namespace Go.Proofs.YtcjmobikjegioaaDoor
open Go.RowKit Go.Kp

/-- A text whose bits from 'at' on are turned by the first k bits of a mask. -/
def spoil (l : List UInt8) (bit : Nat) (mask : BitVec 32) : Nat → List UInt8
  | 0 => l
  | k + 1 => if mask.getLsbD k ∧ bit + k < 8 * l.length then (spoil l bit mask k).modify ((bit + k) / 8) (· ^^^ UInt8.ofNat (2 ^ ((bit + k) % 8))) else spoil l bit mask k
theorem spoil_succ (l : List UInt8) (bit : Nat) (mask : BitVec 32) (k : Nat) : spoil l bit mask (k + 1) = if mask.getLsbD k ∧ bit + k < 8 * l.length then (spoil l bit mask k).modify ((bit + k) / 8) (· ^^^ UInt8.ofNat (2 ^ ((bit + k) % 8))) else spoil l bit mask k := rfl
theorem spoil_len (l : List UInt8) (bit : Nat) (mask : BitVec 32) : ∀ k, (spoil l bit mask k).length = l.length
  | 0 => rfl
  | k + 1 => by rw [spoil_succ]; split <;> simp [spoil_len l bit mask k]
/-- Only bits from 'bit' on, k of them, turn. -/
theorem spoil_bits (l : List UInt8) (bit : Nat) (mask : BitVec 32) : ∀ k (i : Nat), (Crc.allBits (spoil l bit mask k))[i]? ≠ (Crc.allBits l)[i]? → bit ≤ i ∧ i < bit + k
  | 0, i, h => absurd rfl h
  | k + 1, i, h => by
    by_cases hi : bit ≤ i ∧ i < bit + (k + 1)
    · exact hi
    · exfalso
      have hne : i ≠ bit + k := by omega
      have ih : (Crc.allBits (spoil l bit mask k))[i]? = (Crc.allBits l)[i]? := by
        refine Classical.byContradiction fun e => ?_
        have := spoil_bits l bit mask k i e
        omega
      refine h ?_
      rw [← ih]
      rw [spoil_succ]
      split
      · rename_i hc
        have hlen := spoil_len l bit mask k
        have hd : i = 8 * (i / 8) + i % 8 := by omega
        have hm : i % 8 < 8 := Nat.mod_lt _ (by omega)
        rw [hd, Crc.allBits_get _ _ _ hm, Crc.allBits_get _ _ _ hm, List.getElem?_modify]
        cases hb : (spoil l bit mask k)[i / 8]? with
        | none => rfl
        | some b =>
          by_cases e : (bit + k) / 8 = i / 8
          · have h8 : (bit + k) % 8 ≠ i % 8 := by omega
            have : (UInt8.ofNat (2 ^ ((bit + k) % 8))).toBitVec.getLsbD (i % 8) = false := by
              have h9 : (bit + k) % 8 < 8 := Nat.mod_lt _ (by omega)
              generalize (bit + k) % 8 = p at h8 h9
              generalize i % 8 = q at h8 hm
              have : ∀ p q : Fin 8, p ≠ q → (UInt8.ofNat (2 ^ p.val)).toBitVec.getLsbD q.val = false := by decide
              exact this ⟨p, h9⟩ ⟨q, hm⟩ (fun e => h8 (by simpa using e))
            show some ((if (bit + k) / 8 = i / 8 then b ^^^ _ else b).toBitVec.getLsbD _) = some _
            rw [if_pos e, UInt8.toBitVec_xor, BitVec.getLsbD_xor, this, Bool.xor_false]
          · show some ((if (bit + k) / 8 = i / 8 then b ^^^ _ else b).toBitVec.getLsbD _) = some _
            rw [if_neg e]
      · rfl
/-- What is spoilt within 32 bits has another sum. -/
theorem spoil_ne (l : List UInt8) (bit : Nat) (mask : BitVec 32) (h : spoil l bit mask 32 ≠ l) : Crc.more 0#32 l ≠ Crc.more 0#32 (spoil l bit mask 32) :=
  Crc.more_ne l _ 0#32 bit (spoil_len _ _ _ _).symm (fun i hi => spoil_bits l bit mask 32 i (fun e => hi e.symm)) (fun e => h e.symm)
end Go.Proofs.YtcjmobikjegioaaDoor
