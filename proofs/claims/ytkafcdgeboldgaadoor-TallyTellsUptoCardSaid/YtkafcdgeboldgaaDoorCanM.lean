/- Can any tally be: one Bool, with no program in sight. -/
import Derived.Test.YtkafcdgeboldgaaDoorTAdd
import Derived.Lib.TrailingZeros
import Derived.Lib.Mul64
set_option linter.unusedSimpArgs false
set_option linter.unusedVariables false
namespace Go.Proofs.YtkafcdgeboldgaaDoor
open Go.RowKit Go.Kp Go.Lib

/-- The 64 bits of a number. -/
def nat64 (x : Int) : Nat := (x % 18446744073709551616).toNat
theorem nat64_lt (x : Int) : nat64 x < 18446744073709551616 := by unfold nat64; omega
theorem wrap_nat64 (x : Int) : IntKind.u64.wrap x = (nat64 x : Int) := by rw [IntKind.wrap_u64]; unfold nat64; omega
theorem nat64_nat (x : Nat) (h : x < 18446744073709551616) : nat64 x = x := by unfold nat64; omega

def canB (t : Tally) : Bool :=
  if t.c < 1 then decide (t.c = 0 ∧ t.su = 0 ∧ t.mi = 0 ∧ t.ma = 0)
  else if 9007199254740992 < t.c ∨ t.ma < t.mi then false
  else if t.c = 1 then decide (t.mi = t.su ∧ t.ma = t.su)
  else if t.c = 9007199254740992 then decide (t.mi < t.ma ∨ ctz 64 (nat64 t.mi) ≤ ctz 64 (nat64 t.su))
  else decide (nat64 (t.su - (t.mi * (t.c - 1) + t.ma)) ≤ (t.c - 2).toNat * (t.ma - t.mi).toNat)

/-- The product's halves: far or within. -/
theorem far_span (x y d : Nat) (hd : d < 18446744073709551616) : (0 < x * y / 18446744073709551616 ∨ d ≤ x * y % 18446744073709551616) ↔ d ≤ x * y := by
  generalize x * y = p
  omega

/-- A number halved as often as it can be. -/
theorem ctzFrom_mono : ∀ (f g x : Nat), 0 < x → x < 2 ^ f → f ≤ g → ctzFrom g x = ctzFrom f x
  | 0, _, x, h0, h, _ => by simp at h; omega
  | f + 1, 0, _, _, _, h => by omega
  | f + 1, g + 1, x, h0, h, hg => by
    unfold ctzFrom
    split
    · rfl
    · rename_i h1
      rw [ctzFrom_mono f g (x / 2) (by omega) (by rw [Nat.pow_succ] at h; omega) (by omega)]
/-- One halving more. -/
theorem ctz_half (n x : Nat) (h0 : 0 < x) (h : x < 2 ^ (n + 1)) (he : x % 2 = 0) : ctz (n + 1) x = 1 + ctz n (x / 2) := by
  have h2 : ctzFrom (n + 1) x = 1 + ctzFrom n (x / 2) := by rw [ctzFrom, if_neg (by omega)]
  rw [ctz, if_neg (by omega), h2, ctz, if_neg (by omega)]
theorem ctz_odd (n x : Nat) (he : x % 2 = 1) : ctz (n + 1) x = 0 := by
  rw [ctz, if_neg (by omega), ctzFrom, if_pos he]
/-- The most halvings: what divides. -/
theorem ctz_dvd (n x : Nat) : 2 ^ ctz n x ∣ x ∨ n ≤ ctz n x := by
  unfold ctz
  split
  · exact .inr (Nat.le_refl _)
  · left
    rename_i h
    have : ∀ (f x : Nat), 2 ^ ctzFrom f x ∣ x := by
      intro f
      induction f with
      | zero => intro x; simp [ctzFrom]
      | succ f ih =>
        intro x
        unfold ctzFrom
        split
        · simp
        · obtain ⟨m, hm⟩ := ih (x / 2)
          refine ⟨m, ?_⟩
          rw [Nat.add_comm 1, Nat.pow_succ, Nat.mul_right_comm, ← hm]; omega
    exact this n x
theorem ctz_le (n x : Nat) (k : Nat) (hx : x < 2 ^ n) (hk : k ≤ n) (h : 2 ^ k ∣ x) : k ≤ ctz n x := by
  unfold ctz
  split
  · exact hk
  · rename_i h0
    have : ∀ (f x k : Nat), 0 < x → x < 2 ^ f → 2 ^ k ∣ x → k ≤ ctzFrom f x := by
      intro f
      induction f with
      | zero => intro x k h0 h; simp at h; omega
      | succ f ih =>
        intro x k h0 h hd
        unfold ctzFrom
        split
        · rename_i h1
          cases k with
          | zero => exact Nat.le_refl _
          | succ k =>
            obtain ⟨m, hm⟩ := hd
            rw [Nat.pow_succ, Nat.mul_right_comm] at hm
            omega
        · cases k with
          | zero => omega
          | succ k =>
            obtain ⟨m, hm⟩ := hd
            have := ih (x / 2) k (by omega) (by rw [Nat.pow_succ] at h; omega) ⟨m, by rw [Nat.pow_succ, Nat.mul_right_comm] at hm; omega⟩
            omega
    exact this n x k (by omega) hx h
end Go.Proofs.YtkafcdgeboldgaaDoor
