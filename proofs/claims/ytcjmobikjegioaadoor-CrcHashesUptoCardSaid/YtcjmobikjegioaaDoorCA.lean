/- The words of this seat (numbers of 32 bits, texts, the table) and eight steps: the program's and the document's. -/
import Derived.Test.YtcjmobikjegioaaDoorProg
import Derived.Test.YtcjmobikjegioaaDoorPlan
import Derived.Test.YtcjmobikjegioaaDoorBase
import Derived.Test.YtcjmobikjegioaaDoorCrc
set_option linter.unusedSimpArgs false
set_option linter.unusedVariables false
namespace Go.Proofs.YtcjmobikjegioaaDoor
open Go.RowKit Go.Kp

/-- A number of 32 bits, a byte, as values. -/
abbrev U (x : BitVec 32) : Value := .int .u32 (Crc.num x)
abbrev B8 (b : UInt8) : Value := .int .u8 (b.toNat : Int)

/-- The table of fours lies where it lies. -/
def Tab (w : World) : Prop := 0 < w.heap.size ∧ ∀ (i : Nat) n, Crc.fours[i]? = some n → w.cell? ⟨0, i, none⟩ = some (.int .u32 n)
theorem Tab.below {w w' : World} {B : Nat} (h : Tab w) (hb : Below B w w') (hB : 0 < B) : Tab w' :=
  ⟨Nat.lt_of_lt_of_le h.1 hb.size, fun i n hn => (hb.cell (p := ⟨0, i, none⟩) hB).trans (h.2 i n hn)⟩
theorem Tab.next {w w' : World} (h : Tab w) (hb : Below w.heap.size w w') : Tab w' := h.below hb h.1

theorem wrap_u32_in (n : Int) (h0 : 0 ≤ n) (h1 : n < 4294967296) : IntKind.u32.wrap n = n := by
  rw [IntKind.wrap_u32']; omega

attribute [local go_sem high] Crc.bits_and15 Crc.bits_xor Crc.bits_xor_shr4

theorem eight_any (x : BitVec 32) (w : World) (hT : Tab w) :
    Calls Tryd.prog 38 #[U x] w (Ret (U (Crc.eight x)) w) := by
  have e1 := hT.2 _ _ (Crc.fours_and x)
  have e2 := hT.2 _ _ (Crc.fours_and (Crc.steps 4 x))
  have b1 := Crc.and15_lt x
  have b2 := Crc.and15_lt (Crc.steps 4 x)
  have b3 := Crc.num_nonneg (x &&& 15#32)
  have b4 := Crc.num_nonneg (Crc.steps 4 x &&& 15#32)
  have s1 : Crc.steps 4 (x &&& 15#32) ^^^ (x >>> 4) = Crc.steps 4 x := (Crc.steps_four x).symm
  have s2 := Crc.eight_two x
  clear hT
  go_enter Tryd.func38, Tryd.ntmps38
  go_wp2
  go_returns
  exact ⟨rfl, by go_grown⟩

attribute [local go_sem high] Crc.bits_poly_shr1 Crc.turned Crc.num_mod

theorem step_any (x : BitVec 32) (w : World) :
    Calls Tryd.prog 45 #[U x] w (Ret (U (Crc.step x)) w) := by
  have h0 := Crc.num_nonneg x
  have h1 := Crc.num_lt x
  by_cases ho : Crc.num x % (2 : Int) = 1
  · have H := Lib.hid (Crc.step_odd x ho)
    go_enter Tryd.func45, Tryd.ntmps45
    go_wp2
    go_returns
    exact ⟨by rw [H.out]; rfl, by go_grown⟩
  · have H := Lib.hid (Crc.step_even x ho)
    have hd : Crc.num x % (2 : Int) = 0 := by omega
    clear ho
    go_enter Tryd.func45, Tryd.ntmps45
    go_wp2
    go_returns
    exact ⟨by rw [H.out]; exact ret_int (Crc.shr1 x), by go_grown⟩

theorem turned_any (x : BitVec 32) (w : World) :
    Calls Tryd.prog 39 #[U x] w (Ret (U (~~~x)) w) := by
  have h0 := Crc.num_nonneg x
  have h1 := Crc.num_lt x
  go_enter Tryd.func39, Tryd.ntmps39
  go_wp2
  go_returns
  exact ⟨ret_int (Crc.num_mod _), by go_grown⟩

theorem refEight_any (x : BitVec 32) (w : World) :
    Calls Tryd.prog 40 #[U x] w (Ret (U (Crc.eight x)) w) := by
  go_enter Tryd.func40, Tryd.ntmps40
  go_wp2
  go_loopw [0, 3] (fun s i wr => ∃ k : Nat, k ≤ 8 ∧ i = .int .i64 k ∧ s = U (Crc.steps k x) ∧ Below w.heap.size w wr) (fun _ i _ => 8 - (intOf i).toNat)
  case atStart => exact ⟨0, Nat.zero_le _, rfl, rfl, by go_grown⟩
  case round =>
    obtain ⟨k, hk, rfl, rfl, hB⟩ := hrel
    rcases Nat.lt_or_ge k 8 with hlt | hge
    · go_wp2_with fail
      refine (step_any _ _).mono ?_
      rintro en w1 ⟨rfl, hb⟩
      have hB1 : Below w.heap.size w w1 := bnext (by go_grown) hb
      clear hb
      go_wp2_with fail
      go_roundw
      case rel => exact ⟨k + 1, by omega, by go_num, by rw [Crc.steps_succ], by go_grown⟩
      case measure => simp [intOf]; omega
    · obtain rfl : k = 8 := by omega
      go_wp2
      go_returns
      exact ⟨rfl, by go_grown⟩
end Go.Proofs.YtcjmobikjegioaaDoor
