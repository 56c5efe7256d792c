/- Carry as the document has it; noughts' sums; joined sums. -/
import Derived.Test.YtcjmobikjegioaaDoorCC
set_option linter.unusedSimpArgs false
set_option linter.unusedVariables false
namespace Go.Proofs.YtcjmobikjegioaaDoor
open Go.RowKit Go.Kp
attribute [local go_sem high] Crc.bits_xor Crc.bits_not Crc.bits_not_max

theorem geq_top (t : TypeId) (x : BitVec 32) : binOp .geq t (.int .u32 (Crc.num x)) (.int .u32 2147483648) = pure (.bool (x.getLsbD 31)) := by
  rw [binOp_geq, ← Crc.top_dec]
attribute [local go_sem high] geq_top

theorem steps_next (k : Nat) (a : BitVec 32) : Crc.step (Crc.steps k a) = Crc.steps (k + 1) a := (Crc.steps_succ k a).symm

set_option maxHeartbeats 1000000 in
theorem times_any (a b : BitVec 32) (w : World) :
    Calls Tryd.prog 43 #[U a, U b] w (Ret (U (Crc.times a b)) w) := by
  go_enter Tryd.func43, Tryd.ntmps43
  go_wp2
  go_loopw [0, 1, 5, 6] (fun s t o i wr => ∃ k : Nat, k ≤ 32 ∧ i = .int .i64 k ∧ s = U (Crc.steps k a) ∧ t = U (b <<< k) ∧ o = U (Crc.timesTo a b k) ∧ Below w.heap.size w wr) (fun _ _ _ i _ => 32 - (intOf i).toNat)
  case atStart => exact ⟨0, Nat.zero_le _, rfl, rfl, by rw [BitVec.shiftLeft_zero], rfl, by go_grown⟩
  case round =>
    obtain ⟨k, hk, rfl, rfl, rfl, rfl, hB⟩ := hrel
    rcases Nat.lt_or_ge k 32 with hlt | hge
    · have HB := Lib.hid (show (b <<< k).getLsbD 31 = b.getLsbD (31 - k) by rw [BitVec.getLsbD_shiftLeft]; simp; omega)
      have HT := Lib.hid (show Crc.timesTo a b (k + 1) = Crc.timesTo a b k ^^^ (if b.getLsbD (31 - k) then Crc.steps k a else 0#32) from rfl)
      have HS := Lib.hid (show b <<< (k + 1) = (b <<< k) <<< 1 by rw [BitVec.shiftLeft_add])
      have HA := Lib.hid (steps_next k a)
      have hn := Crc.num_nonneg (b <<< k)
      by_cases hb : (b <<< k).getLsbD 31 = true
      · have hd : (b <<< k)[31] = true := by rw [← BitVec.getLsbD_eq_getElem]; exact hb
        have HT2 := Lib.hid (HT.out.trans (by rw [if_pos (HB.out.symm.trans hb)]))
        clear HT HB hb
        generalize Crc.timesTo a b k = r at *
        generalize b <<< k = y at *
        generalize Crc.steps k a = s at *
        go_wp2_with fail
        refine (step_any s _).mono ?_
        rintro en w1 ⟨rfl, hb1⟩
        have hB1 : Below w.heap.size w w1 := bnext (by go_grown) hb1
        clear hb1 hB
        go_wp2_with fail
        go_roundw
        case rel => exact ⟨k + 1, by omega, by go_num, by rw [HA.out], congrArg (Value.int .u32) ((Crc.shl1 y).trans (by rw [HS.out])), by rw [HT2.out], by go_grown⟩
        case measure => simp [intOf]; omega
      · have hd : (b <<< k)[31] = false := by rw [← BitVec.getLsbD_eq_getElem]; exact Bool.eq_false_iff.2 hb
        have HT2 := Lib.hid (show Crc.timesTo a b (k + 1) = Crc.timesTo a b k by rw [HT.out, if_neg (fun h => hb (HB.out.trans h)), BitVec.xor_zero])
        clear HT HB hb
        generalize Crc.timesTo a b k = r at *
        generalize b <<< k = y at *
        generalize Crc.steps k a = s at *
        go_wp2_with fail
        refine (step_any s _).mono ?_
        rintro en w1 ⟨rfl, hb1⟩
        have hB1 : Below w.heap.size w w1 := bnext (by go_grown) hb1
        clear hb1 hB
        go_wp2_with fail
        go_roundw
        case rel => exact ⟨k + 1, by omega, by go_num, by rw [HA.out], congrArg (Value.int .u32) ((Crc.shl1 y).trans (by rw [HS.out])), by rw [HT2.out], by go_grown⟩
        case measure => simp [intOf]; omega
    · have HE := Lib.hid (show Crc.timesTo a b k = Crc.times a b by rw [show k = 32 by omega]; rfl)
      generalize Crc.timesTo a b k = r at *
      generalize b <<< k = y at *
      go_wp2_with fail
      go_returns
      exact ⟨ret_int (by rw [HE.out]), by go_grown⟩

theorem refCarry_odd (M q : Nat) (y : BitVec 32) (h : q % 2 = 1) : Crc.steps ((M + M) * (q / 2)) (Crc.times y (Crc.steps M (Crc.one_ 31))) = Crc.steps (M * q) y := by
  rw [Crc.times_power]; exact carry_odd M q y h

set_option maxHeartbeats 1000000 in
theorem refCarry_any (x : BitVec 32) (n : Int) (w : World) (hn1 : -9223372036854775808 ≤ n) (hn2 : n ≤ 9223372036854775807) :
    Calls Tryd.prog 19 #[U x, .int .i64 n] w (Ret (U (Crc.steps (8 * n.toNat) x)) w) := by
  by_cases hneg : n < 0
  · have HN := Lib.hid (show Crc.steps (8 * n.toNat) x = x by rw [show n.toNat = 0 by omega]; rfl)
    have e31 : (2147483648 : Int) = Crc.num (Crc.one_ 31) := rfl
    go_enter Tryd.func19, Tryd.ntmps19
    go_wp2_with fail
    refine (refEight_any (Crc.one_ 31) _).mono ?_
    rintro en w1 ⟨rfl, hb1⟩
    have hB1 : Below w.heap.size w w1 := bnext (by go_grown) hb1
    clear hb1 e31
    go_wp2_with fail
    go_rounds 1
    go_returns
    exact ⟨ret_int (by rw [HN.out]), by go_grown⟩
  · have hn0 : 0 ≤ n := by omega
    have e31 : (2147483648 : Int) = Crc.num (Crc.one_ 31) := rfl
    go_enter Tryd.func19, Tryd.ntmps19
    go_wp2_with fail
    refine (refEight_any (Crc.one_ 31) _).mono ?_
    rintro en w1 ⟨rfl, hb1⟩
    have hB1 : Below w.heap.size w w1 := bnext (by go_grown) hb1
    clear hb1 e31
    go_wp2_with fail
    go_loopw [0, 1, 5] (fun t i p wr => ∃ (q : Nat) (M : Nat) (y : BitVec 32), i = .int .i64 q ∧ t = U y ∧ (q : Int) ≤ 9223372036854775807 ∧ p = U (Crc.steps M (Crc.one_ 31)) ∧ Crc.steps (M * q) y = Crc.steps (8 * n.toNat) x ∧ Below w.heap.size w wr) (fun _ i _ _ => (intOf i).toNat)
    case atStart => exact ⟨n.toNat, 8, x, by congr 1; omega, rfl, by omega, rfl, rfl, by go_grown⟩
    case round =>
      obtain ⟨q, M, y, rfl, rfl, hq, rfl, he, hB⟩ := hrel
      clear hB1
      have HE := Lib.hid he
      clear he
      rcases Nat.eq_zero_or_pos q with h0 | h0
      · have HE2 := Lib.hid (show y = Crc.steps (8 * n.toNat) x by have h := HE.out; rw [h0] at h; exact h)
        have h0' : ¬ (0 < (q : Int)) := by omega
        go_wp2_with fail
        go_returns
        exact ⟨ret_int (by rw [HE2.out]), by go_grown⟩
      · have hP := Lib.hid (show Crc.times (Crc.steps M (Crc.one_ 31)) (Crc.steps M (Crc.one_ 31)) = Crc.steps (M + M) (Crc.one_ 31) by rw [Crc.times_power, ← Crc.steps_add])
        rcases Nat.mod_two_eq_zero_or_one q with hm | hm
        · have HM := Lib.hid (carry_even M q y hm)
          have em : (q : Int) % 2 = 0 := by omega
          clear hm
          go_wp2_with fail
          refine (times_any _ _ _).mono ?_
          rintro en w2 ⟨rfl, hb2⟩
          have hB2 : Below w.heap.size w w2 := bnext (by go_grown) hb2
          clear hb2 hB em
          rw [hP.out]
          go_wp2_with fail
          go_roundw
          case rel => exact ⟨q / 2, M + M, y, by go_num, rfl, by omega, rfl, by rw [HM.out]; exact HE.out, by go_grown⟩
          case measure => simp [intOf]; omega
        · have HM := Lib.hid (refCarry_odd M q y hm)
          have em : (q : Int) % 2 = 1 := by omega
          clear hm
          go_wp2_with fail
          refine (times_any _ _ _).mono ?_
          rintro en w2 ⟨rfl, hb2⟩
          have hB2 : Below w.heap.size w w2 := bnext (by go_grown) hb2
          clear hb2 hB em
          go_wp2_with fail
          refine (times_any _ _ _).mono ?_
          rintro en w3 ⟨rfl, hb3⟩
          have hB3 : Below w.heap.size w w3 := bnext (by go_grown) hb3
          clear hb3 hB2
          rw [hP.out]
          go_wp2_with fail
          go_roundw
          case rel => exact ⟨q / 2, M + M, _, by go_num, rfl, by omega, rfl, by rw [HM.out]; exact HE.out, by go_grown⟩
          case measure => simp [intOf]; omega

/-- The sum of noughts. -/
def zerosOf (n : Int) : BitVec 32 := ~~~ Crc.steps (8 * n.toNat) (~~~ 0#32)
theorem all_ones : Crc.num (~~~ 0#32) = 4294967295 := by decide

theorem zeros_any (n : Int) (w : World) (hT : Tab w) (hn1 : -9223372036854775808 ≤ n) (hn2 : n ≤ 9223372036854775807) :
    Calls Tryd.prog 20 #[.int .i64 n] w (Ret (U (zerosOf n)) w) := by
  have HT := Lib.hid hT
  clear hT
  go_enter Tryd.func20, Tryd.ntmps20
  go_wp2_with fail
  rw [← all_ones]
  refine (carry_any (~~~ 0#32) n _ (HT.out.next (by go_grown)) hn1 hn2).mono ?_
  rintro en w1 ⟨rfl, hb⟩
  have hB : Below w.heap.size w w1 := bnext (by go_grown) hb
  clear hb
  go_wp2_with fail
  go_returns
  exact ⟨rfl, by go_grown⟩
theorem refZeros_any (n : Int) (w : World) (hn1 : -9223372036854775808 ≤ n) (hn2 : n ≤ 9223372036854775807) :
    Calls Tryd.prog 21 #[.int .i64 n] w (Ret (U (zerosOf n)) w) := by
  go_enter Tryd.func21, Tryd.ntmps21
  go_wp2_with fail
  refine (turned_any 0#32 _).mono ?_
  rintro en w1 ⟨rfl, hb⟩
  have hB : Below w.heap.size w w1 := bnext (by go_grown) hb
  clear hb
  go_wp2_with fail
  refine (refCarry_any (~~~ 0#32) n _ hn1 hn2).mono ?_
  rintro en w2 ⟨rfl, hb⟩
  have hB2 : Below w.heap.size w w2 := bnext (by go_grown) hb
  clear hb hB
  go_wp2_with fail
  refine (turned_any _ _).mono ?_
  rintro en w3 ⟨rfl, hb⟩
  have hB3 : Below w.heap.size w w3 := bnext (by go_grown) hb
  clear hb hB2
  go_wp2_with fail
  go_returns
  exact ⟨rfl, by go_grown⟩

theorem join_any (a b : BitVec 32) (n : Int) (w : World) (hT : Tab w) (hn1 : -9223372036854775808 ≤ n) (hn2 : n ≤ 9223372036854775807) :
    Calls Tryd.prog 22 #[U a, U b, .int .i64 n] w (Ret (U (Crc.steps (8 * n.toNat) a ^^^ b)) w) := by
  have HT := Lib.hid hT
  clear hT
  go_enter Tryd.func22, Tryd.ntmps22
  go_wp2_with fail
  refine (carry_any a n _ (HT.out.next (by go_grown)) hn1 hn2).mono ?_
  rintro en w1 ⟨rfl, hb⟩
  have hB : Below w.heap.size w w1 := bnext (by go_grown) hb
  clear hb
  go_wp2_with fail
  go_returns
  exact ⟨rfl, by go_grown⟩
theorem refJoin_any (a b : BitVec 32) (n : Int) (w : World) (hn1 : -9223372036854775808 ≤ n) (hn2 : n ≤ 9223372036854775807) :
    Calls Tryd.prog 23 #[U a, U b, .int .i64 n] w (Ret (U (Crc.steps (8 * n.toNat) a ^^^ b)) w) := by
  go_enter Tryd.func23, Tryd.ntmps23
  go_wp2_with fail
  refine (refCarry_any a n _ hn1 hn2).mono ?_
  rintro en w1 ⟨rfl, hb⟩
  have hB : Below w.heap.size w w1 := bnext (by go_grown) hb
  clear hb
  go_wp2_with fail
  go_returns
  exact ⟨rfl, by go_grown⟩
end Go.Proofs.YtcjmobikjegioaaDoor
