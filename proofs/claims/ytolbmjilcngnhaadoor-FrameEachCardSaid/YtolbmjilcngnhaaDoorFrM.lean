/- Frames, with no program in sight: numbers in sevens, a frame's bytes, where the first frame lies. -/
import Derived.Test.YtolbmjilcngnhaaDoorCrc
import Derived.WalkKit
set_option linter.unusedSimpArgs false
set_option linter.unusedVariables false
namespace Go.Frm
open Go

/-- A number in sevens, the lowest first, 128 more on all but the last. -/
def numF : Nat → Nat → List UInt8
  | 0, _ => []
  | f + 1, n => if n < 128 then [UInt8.ofNat n] else UInt8.ofNat (n % 128 + 128) :: numF f (n / 128)
def numB (n : Nat) : List UInt8 := numF 10 n
theorem numF_last (f n : Nat) (h : n < 128) : numF (f + 1) n = [UInt8.ofNat n] := by unfold numF; rw [if_pos h]
theorem numF_next (f n : Nat) (h : ¬ n < 128) : numF (f + 1) n = UInt8.ofNat (n % 128 + 128) :: numF f (n / 128) := by rw [numF, if_neg h]
theorem numF_len : ∀ f n, 0 < f → n < 128 ^ f → 1 ≤ (numF f n).length ∧ (numF f n).length ≤ f
  | 0, _, h, _ => absurd h (by omega)
  | f + 1, n, _, h => by
    by_cases h1 : n < 128
    · rw [numF_last f n h1]; simp
    · rw [numF_next f n h1]
      have hf : 0 < f := by
        rcases Nat.eq_zero_or_pos f with h0 | h0
        · subst h0; simp at h; omega
        · exact h0
      have := numF_len f (n / 128) hf (by rw [Nat.pow_succ] at h; omega)
      simp only [List.length_cons]; omega

/-- What is summed up. -/
def head (tag : UInt8) (body : List UInt8) : List UInt8 := tag :: (numB body.length ++ body)
def frame (tag : UInt8) (body : List UInt8) : List UInt8 := head tag body ++ Crc.bytes4 (Crc.more 0#32 (head tag body))
theorem frame_len (tag : UInt8) (body : List UInt8) : (frame tag body).length = 1 + (numB body.length).length + body.length + 4 := by
  simp [frame, head, Crc.bytes4]; omega

/-- Where a number ends, and what it is: from the i-th byte on, n so far. -/
def lenP : Nat → Nat → List UInt8 → Nat × Nat × Nat
  | _, _, [] => (0, 0, 130)
  | i, n, c :: r =>
    if 128 ≤ c.toNat then
      if 268435456 < n + c.toNat % 128 * 128 ^ i + 128 ^ (i + 1) then (0, 0, 131) else lenP (i + 1) (n + c.toNat % 128 * 128 ^ i) r
    else if (c.toNat = 0 ∧ 0 < i) ∨ 268435456 < n + c.toNat % 128 * 128 ^ i then (0, 0, 131) else (n + c.toNat % 128 * 128 ^ i, i + 1, 0)

theorem lenP_more (i n : Nat) (c : UInt8) (r : List UInt8) (M : Nat) (h : 128 ≤ c.toNat) (hM : n + c.toNat % 128 * 128 ^ i = M) (h2 : ¬ 268435456 < M + 128 ^ (i + 1)) : lenP i n (c :: r) = lenP (i + 1) M r := by
  rw [lenP, if_pos h, hM, if_neg h2]
theorem lenP_over (i n : Nat) (c : UInt8) (r : List UInt8) (M : Nat) (h : 128 ≤ c.toNat) (hM : n + c.toNat % 128 * 128 ^ i = M) (h2 : 268435456 < M + 128 ^ (i + 1)) : lenP i n (c :: r) = (0, 0, 131) := by
  rw [lenP, if_pos h, hM, if_pos h2]
theorem lenP_bad (i n : Nat) (c : UInt8) (r : List UInt8) (M : Nat) (h : ¬ 128 ≤ c.toNat) (hM : n + c.toNat % 128 * 128 ^ i = M) (h2 : (c.toNat = 0 ∧ 0 < i) ∨ 268435456 < M) : lenP i n (c :: r) = (0, 0, 131) := by
  rw [lenP, if_neg h, hM, if_pos h2]
theorem lenP_done (i n : Nat) (c : UInt8) (r : List UInt8) (M : Nat) (h : ¬ 128 ≤ c.toNat) (hM : n + c.toNat % 128 * 128 ^ i = M) (h2 : ¬ ((c.toNat = 0 ∧ 0 < i) ∨ 268435456 < M)) : lenP i n (c :: r) = (M, i + 1, 0) := by
  rw [lenP, if_neg h, hM, if_neg h2]

/-- Where the first frame's body begins, where it ends, what is wrong. -/
def look (b : List UInt8) : Nat × Nat × Nat :=
  match b with
  | [] => (0, 0, 130)
  | _ :: r =>
    if (lenP 0 0 r).2.2 ≠ 0 then (0, 0, (lenP 0 0 r).2.2)
    else if b.length < 1 + (lenP 0 0 r).2.1 + (lenP 0 0 r).1 + 4 then (0, 0, 130)
    else if (b.drop (1 + (lenP 0 0 r).2.1 + (lenP 0 0 r).1)).take 4 ≠ Crc.bytes4 (Crc.more 0#32 (b.take (1 + (lenP 0 0 r).2.1 + (lenP 0 0 r).1))) then (0, 0, 132)
    else (1 + (lenP 0 0 r).2.1, 1 + (lenP 0 0 r).2.1 + (lenP 0 0 r).1, 0)
end Go.Frm
