/- Store: the orders; Put, Take, Copy of a map; a new map. -/
import Derived.Test.YtchmlephgkimcaaStG
set_option linter.unusedSimpArgs false
set_option linter.unusedVariables false
namespace Go.St
def pl (a b : Int) : Int := if a < b then -1 else if b < a then 1 else 0
def rs (a n : Int) : Int := ((a.tmod n) + n).tmod n
def cmpW (w a b : Int) : Int := if w = 0 then pl a b else if w = 1 then pl b a else if w = 2 then pl (rs a 7) (rs b 7) else if w = 3 then (if rs a 2 = rs b 2 then pl a b else pl (rs a 2) (rs b 2)) else 0
theorem pl_bd (a b : Int) : -1 ≤ pl a b ∧ pl a b ≤ 1 := by unfold pl; split <;> (try split) <;> omega
theorem cmpW_bd (w a b : Int) : -1 ≤ cmpW w a b ∧ cmpW w a b ≤ 1 := by
  unfold cmpW
  repeat' split
  all_goals first | exact pl_bd _ _ | omega
theorem pl_ord : Ord pl := ⟨fun a b => by unfold pl; repeat' split
                                          all_goals omega, fun a b d => by unfold pl; repeat' split
                                                                           all_goals omega⟩
theorem cmpW_ord (w : Int) : Ord (fun a b => 3 * cmpW w a b) := by
  unfold cmpW pl
  refine ⟨fun a b => ?_, fun a b d => ?_⟩
  · generalize rs a 7 = a7; generalize rs b 7 = b7; generalize rs a 2 = a2; generalize rs b 2 = b2
    repeat' split
    all_goals omega
  · generalize rs a 7 = a7; generalize rs b 7 = b7; generalize rs d 7 = d7; generalize rs a 2 = a2; generalize rs b 2 = b2; generalize rs d 2 = d2
    by_cases h0 : w = 0
    · simp only [if_pos h0]; repeat' split
      all_goals omega
    · simp only [if_neg h0]
      by_cases h1 : w = 1
      · simp only [if_pos h1]; repeat' split
        all_goals omega
      · simp only [if_neg h1]
        by_cases h2 : w = 2
        · simp only [if_pos h2]; repeat' split
          all_goals omega
        · simp only [if_neg h2]
          by_cases h3 : w = 3
          · simp only [if_pos h3]
            by_cases e1 : a2 = b2 <;> by_cases e2 : b2 = d2 <;> by_cases e3 : a2 = d2 <;> simp only [e1, e2, e3, if_true, if_false] <;> (repeat' split) <;> omega
          · simp only [if_neg h3]; omega
end Go.St
namespace Go.Proofs.Ytchmlephgkimcaa
open Go.RowKit Go.Kp Go.St

theorem plain_any (a b : Int) (w : World) : Calls Try.prog 59 #[.int .i64 a, .int .i64 b] w fun e w' => e = .returned (.int .i64 (pl a b)) ∧ w' = w := by
  unfold pl
  rcases Int.lt_trichotomy a b with h | h | h
  · rw [if_pos h]
    go_enter Try.func59, Try.ntmps59
    go_wp2
    go_returns
    exact ⟨rfl, rfl⟩
  · subst h
    rw [if_neg (Int.lt_irrefl a), if_neg (Int.lt_irrefl a)]
    go_enter Try.func59, Try.ntmps59
    go_wp2
    go_returns
    exact ⟨rfl, rfl⟩
  · have h2 : ¬ a < b := by omega
    rw [if_neg h2, if_pos h]
    go_enter Try.func59, Try.ntmps59
    go_wp2
    go_returns
    exact ⟨rfl, rfl⟩
theorem rest7_any (a : Int) (w : World) : Calls Try.prog 60 #[.int .i64 a, .int .i64 7] w fun e w' => e = .returned (.int .i64 (rs a 7)) ∧ w' = w := by
  have hb : -7 < a.tmod 7 ∧ a.tmod 7 < 7 := by
    have h := Int.natAbs_tmod a 7
    have h2 := Nat.mod_lt a.natAbs (show 0 < 7 by decide)
    rw [show (7 : Int).natAbs = 7 from rfl] at h
    omega
  have hE : Hid (rs a 7 = ((a.tmod 7) + 7).tmod 7) := Lib.hid rfl
  generalize rs a 7 = R at *
  go_enter Try.func60, Try.ntmps60
  go_wp2
  go_returns
  exact ⟨ret_int (by rw [hE.out, Int.tmod_eq_emod_of_nonneg (a := a.tmod 7 + 7) (by omega)]), rfl⟩
theorem rest2_any (a : Int) (w : World) : Calls Try.prog 60 #[.int .i64 a, .int .i64 2] w fun e w' => e = .returned (.int .i64 (rs a 2)) ∧ w' = w := by
  have hb : -2 < a.tmod 2 ∧ a.tmod 2 < 2 := by
    have h := Int.natAbs_tmod a 2
    have h2 := Nat.mod_lt a.natAbs (show 0 < 2 by decide)
    rw [show (2 : Int).natAbs = 2 from rfl] at h
    omega
  have hE : Hid (rs a 2 = ((a.tmod 2) + 2).tmod 2) := Lib.hid rfl
  generalize rs a 2 = R at *
  go_enter Try.func60, Try.ntmps60
  go_wp2
  go_returns
  exact ⟨ret_int (by rw [hE.out, Int.tmod_eq_emod_of_nonneg (a := a.tmod 2 + 2) (by omega)]), rfl⟩

set_option maxHeartbeats 1000000 in
theorem compare_any (wh a b : Int) (w : World) : Calls Try.prog 32 #[.int .i64 wh, .int .i64 a, .int .i64 b] w fun e w' => e = .returned (.int .i64 (cmpW wh a b)) ∧ w' = w := by
  have hE : Hid (cmpW wh a b = if wh = 0 then pl a b else if wh = 1 then pl b a else if wh = 2 then pl (rs a 7) (rs b 7) else if wh = 3 then (if rs a 2 = rs b 2 then pl a b else pl (rs a 2) (rs b 2)) else 0) := Lib.hid rfl
  generalize cmpW wh a b = C at hE
  by_cases h0 : wh = 0
  · subst h0
    go_enter Try.func32, Try.ntmps32
    go_wp2_with fail
    refine (plain_any a b _).mono ?_
    rintro en w_ ⟨rfl, hw_⟩
    obtain rfl : w = w_ := hw_.symm
    go_wp2
    go_returns
    exact ⟨ret_int (by rw [hE.out]; rfl), rfl⟩
  by_cases h1 : wh = 1
  · subst h1
    go_enter Try.func32, Try.ntmps32
    go_wp2_with fail
    refine (plain_any b a _).mono ?_
    rintro en w_ ⟨rfl, hw_⟩
    obtain rfl : w = w_ := hw_.symm
    go_wp2
    go_returns
    exact ⟨ret_int (by rw [hE.out]; rfl), rfl⟩
  by_cases h2 : wh = 2
  · subst h2
    go_enter Try.func32, Try.ntmps32
    go_wp2_with fail
    refine (rest7_any a _).mono ?_
    rintro en w_ ⟨rfl, hw_⟩
    obtain rfl : w = w_ := hw_.symm
    go_wp2_with fail
    refine (rest7_any b _).mono ?_
    rintro en w_ ⟨rfl, hw_⟩
    obtain rfl : w = w_ := hw_.symm
    go_wp2_with fail
    refine (plain_any _ _ _).mono ?_
    rintro en w_ ⟨rfl, hw_⟩
    obtain rfl : w = w_ := hw_.symm
    go_wp2
    go_returns
    exact ⟨ret_int (by rw [hE.out]; rfl), rfl⟩
  by_cases h3 : wh = 3
  · subst h3
    by_cases he : rs a 2 = rs b 2
    · have HE := Lib.hid he
      generalize hx : rs a 2 = x at he
      generalize hy : rs b 2 = y at he
      have HX := Lib.hid hx
      have HY := Lib.hid hy
      subst he
      clear hx hy
      go_enter Try.func32, Try.ntmps32
      go_wp2_with fail
      refine (rest2_any a _).mono ?_
      rintro en w_ ⟨rfl, hw_⟩
      obtain rfl : w = w_ := hw_.symm
      rw [HX.out]
      go_wp2_with fail
      refine (rest2_any b _).mono ?_
      rintro en w_ ⟨rfl, hw_⟩
      obtain rfl : w = w_ := hw_.symm
      rw [HY.out]
      go_wp2_with fail
      refine (plain_any a b _).mono ?_
      rintro en w_ ⟨rfl, hw_⟩
      obtain rfl : w = w_ := hw_.symm
      go_wp2
      go_returns
      exact ⟨ret_int (by rw [hE.out]; simp only [HE.out]; rfl), rfl⟩
    · have HE := Lib.hid he
      have hb1 : (rs a 2 == rs b 2) = false := by simpa using he
      have hb2 : (rs a 2 != rs b 2) = true := by simpa using he
      clear he
      go_enter Try.func32, Try.ntmps32
      go_wp2_with fail
      refine (rest2_any a _).mono ?_
      rintro en w_ ⟨rfl, hw_⟩
      obtain rfl : w = w_ := hw_.symm
      go_wp2_with fail
      refine (rest2_any b _).mono ?_
      rintro en w_ ⟨rfl, hw_⟩
      obtain rfl : w = w_ := hw_.symm
      go_wp2_with fail
      refine (rest2_any a _).mono ?_
      rintro en w_ ⟨rfl, hw_⟩
      obtain rfl : w = w_ := hw_.symm
      go_wp2_with fail
      refine (rest2_any b _).mono ?_
      rintro en w_ ⟨rfl, hw_⟩
      obtain rfl : w = w_ := hw_.symm
      go_wp2_with fail
      refine (plain_any _ _ _).mono ?_
      rintro en w_ ⟨rfl, hw_⟩
      obtain rfl : w = w_ := hw_.symm
      go_wp2
      go_returns
      exact ⟨ret_int (by rw [hE.out]; simp only [if_neg HE.out]; rfl), rfl⟩
  · go_enter Try.func32, Try.ntmps32
    go_wp2
    go_returns
    exact ⟨ret_int (by rw [hE.out, if_neg h0, if_neg h1, if_neg h2, if_neg h3]), rfl⟩

theorem isNaN_any (a : Int) (w : World) : Calls Try.prog 72 #[.int .i64 a] w fun e w' => e = .returned (.bool false) ∧ w' = w := by
  go_enter Try.func72, Try.ntmps72
  go_wp2
  go_returns
  exact ⟨by simp, rfl⟩
set_option maxHeartbeats 1000000 in
theorem cmpInt_any (a b : Int) (w : World) : Calls Try.prog 61 #[.int .i64 a, .int .i64 b] w fun e w' => e = .returned (.int .i64 (pl a b)) ∧ w' = w := by
  have hE : Hid (pl a b = if a < b then -1 else if b < a then 1 else 0) := Lib.hid rfl
  generalize pl a b = C at hE
  rcases Int.lt_trichotomy a b with h | h | h
  · go_enter Try.func61, Try.ntmps61
    go_wp2_with fail
    refine (isNaN_any a _).mono ?_
    rintro en w_ ⟨rfl, hw_⟩
    obtain rfl : w = w_ := hw_.symm
    go_wp2_with fail
    refine (isNaN_any b _).mono ?_
    rintro en w_ ⟨rfl, hw_⟩
    obtain rfl : w = w_ := hw_.symm
    go_wp2
    go_returns
    exact ⟨ret_int (by rw [hE.out, if_pos h]), rfl⟩
  · subst h
    go_enter Try.func61, Try.ntmps61
    go_wp2_with fail
    refine (isNaN_any a _).mono ?_
    rintro en w_ ⟨rfl, hw_⟩
    obtain rfl : w = w_ := hw_.symm
    go_wp2_with fail
    refine (isNaN_any a _).mono ?_
    rintro en w_ ⟨rfl, hw_⟩
    obtain rfl : w = w_ := hw_.symm
    go_wp2
    go_returns
    exact ⟨ret_int (by rw [hE.out, if_neg (Int.lt_irrefl a), if_neg (Int.lt_irrefl a)]), rfl⟩
  · have h2 : ¬ a < b := by omega
    go_enter Try.func61, Try.ntmps61
    go_wp2_with fail
    refine (isNaN_any a _).mono ?_
    rintro en w_ ⟨rfl, hw_⟩
    obtain rfl : w = w_ := hw_.symm
    go_wp2_with fail
    refine (isNaN_any b _).mono ?_
    rintro en w_ ⟨rfl, hw_⟩
    obtain rfl : w = w_ := hw_.symm
    go_wp2
    go_returns
    exact ⟨ret_int (by rw [hE.out, if_neg (by omega), if_pos h]), rfl⟩
theorem made1_any (q : Nat) (wh a b : Int) (w : World) (hq : Blk w q 3 #[.int .i64 wh]) : Calls Try.prog 31 #[.int .i64 a, .int .i64 b, .pointer (some ⟨q, 0, none⟩)] w fun e w' => e = .returned (.int .i64 (3 * cmpW wh a b)) ∧ w' = w := by
  have c := hq.cell 0
  have hb := cmpW_bd wh a b
  go_enter Try.func31, Try.ntmps31
  go_wp2_with fail
  refine (compare_any wh a b _).mono ?_
  rintro en w_ ⟨rfl, hw_⟩
  obtain rfl : w = w_ := hw_.symm
  generalize hC : cmpW wh a b = C at *
  have HC := Lib.hid hC
  clear hC
  go_wp2
  go_returns
  exact ⟨ret_int (by rw [HC.out]), rfl⟩
/-- The order of a map that is made. -/
theorem made_cmp (q : Nat) (wh : Int) : CmpF (fun w => Blk w q 3 #[.int .i64 wh]) 31 #[.pointer (some ⟨q, 0, none⟩)] (fun a b => 3 * cmpW wh a b) :=
  ⟨fun a b w => by kernel_rfl, fun a b w h => made1_any q wh a b w h⟩
theorem of_cmp : CmpF (fun _ => True) 61 #[] pl := ⟨fun a b w => by kernel_rfl, fun a b w _ => cmpInt_any a b w⟩
end Go.Proofs.Ytchmlephgkimcaa
