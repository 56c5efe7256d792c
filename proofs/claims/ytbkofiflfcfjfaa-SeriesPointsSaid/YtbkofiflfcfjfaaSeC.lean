/- Series: Mean and Spread of both. -/
import Derived.Test.YtbkofiflfcfjfaaSeB
set_option linter.unusedSimpArgs false
set_option linter.unusedVariables false
namespace Go.Proofs.Ytbkofiflfcfjfaa
open Go.RowKit Go.Kp Go.Ser

/-- Returned: a number of which R holds, and an error's number. -/
def FlE (R : Nat → Prop) (k : Int) (w : World) (e : Ending) (w' : World) : Prop := ∃ r, R r ∧ e = .returned (.tuple #[.float .f64 r, .int .i64 k]) ∧ Below w.heap.size w w'
def MeanE (l : List Nat) (r : Nat) : Prop := if l.length = 0 then r = 0 else MeanR l r
def SpreadE (l : List Nat) (r : Nat) : Prop := if l.length = 0 then r = 0 else SpreadR l r
def errE (n : Nat) : Int := if n = 0 then 400 else 0
theorem MeanE.congr {l : List Nat} {r r' : Nat} (h : MeanE l r) (h' : MeanE l r') : Fq r r' := by
  unfold MeanE at h h'
  split at h
  · rename_i h0; rw [if_pos h0] at h'; rw [h, h']; exact Fq.refl _
  · rename_i h0; rw [if_neg h0] at h'; exact h.congr h' (Fqs.refl l)
theorem SpreadE.congr {l : List Nat} {r r' : Nat} (h : SpreadE l r) (h' : SpreadE l r') : Fq r r' := by
  unfold SpreadE at h h'
  split at h
  · rename_i h0; rw [if_pos h0] at h'; rw [h, h']; exact Fq.refl _
  · rename_i h0; rw [if_neg h0] at h'; exact h.congr h'

set_option maxHeartbeats 1000000 in
theorem Mean_any (a : Option Addr) (n cap : Nat) (l : List Nat) (w : World) (hl : l.length = n) (hn : n ≤ 1048576) (hr : Rd w w.heap.size a (fl l)) :
    Calls Try.prog 26 #[.slice a n cap] w (FlE (MeanE l) (errE n) w) := by
  obtain ⟨hnp⟩ : Nonempty (n ≤ 4611686018427387904) := ⟨by omega⟩
  have HL := Lib.hid hl
  have HR := Lib.hid hr
  clear hl hr
  rcases Nat.eq_zero_or_pos n with hn0 | hn0
  · subst hn0
    go_enter Try.func26, Try.ntmps26
    go_wp2
    refine bodyPost_ret (v := .tuple #[.float .f64 0, .int .i64 400]) (by simp [results, Try.results26, go_sem]; done) rfl ⟨0, ?_, rfl, by go_grown⟩
    unfold MeanE; rw [if_pos HL.out]
  · go_enter Try.func26, Try.ntmps26
    go_wp2_with fail
    refine (mean_any _ n _ l _ HL.out (by omega) HR.out).mono ?_
    rintro en w1 ⟨r, hM, rfl, hb⟩
    have HM := Lib.hid hM
    clear hM
    go_wp2_with fail
    refine bodyPost_ret (v := .tuple #[.float .f64 r, .int .i64 0]) (by simp [results, Try.results26, go_sem]; done) rfl ⟨r, ?_, ?_, hb⟩
    · unfold MeanE; rw [if_neg (by rw [HL.out]; omega)]; exact HM.out
    · unfold errE; rw [if_neg (by omega)]

set_option maxHeartbeats 1000000 in
theorem refMean_any (a : Option Addr) (n cap : Nat) (l : List Nat) (w : World) (hl : l.length = n) (hn : n ≤ 1048576) (hr : Rd w w.heap.size a (fl l)) :
    Calls Try.prog 28 #[.slice a n cap] w (FlE (MeanE l) (errE n) w) := by
  obtain ⟨hnp⟩ : Nonempty (n ≤ 4611686018427387904) := ⟨by omega⟩
  have HL := Lib.hid hl
  have HR := Lib.hid hr
  clear hl hr
  rcases Nat.eq_zero_or_pos n with hn0 | hn0
  · subst hn0
    go_enter Try.func28, Try.ntmps28
    go_wp2
    refine bodyPost_ret (v := .tuple #[.float .f64 0, .int .i64 400]) (by simp [results, Try.results28, go_sem]; done) rfl ⟨0, ?_, rfl, by go_grown⟩
    unfold MeanE; rw [if_pos HL.out]
  · go_enter Try.func28, Try.ntmps28
    go_wp2_with fail
    refine (refSum_any _ n _ l _ HL.out (by omega) HR.out).mono ?_
    rintro en w1 ⟨s, hM, rfl, hb⟩
    have HM := Lib.hid hM
    clear hM
    obtain ⟨r, w2, hrun, hres, hw⟩ := quo_any w1 s (floatOfInt .f64 (n : Int))
    have hb2 := hb.trans (hw.out.below _)
    go_wp2_with fail
    refine bodyPost_ret (v := .tuple #[.float .f64 r, .int .i64 0]) (by simp [results, Try.results28, go_sem]; done) rfl ⟨r, ?_, ?_, hb2⟩
    · unfold MeanE; rw [if_neg (by rw [HL.out]; omega)]; exact ⟨s, HM.out, by rw [HL.out]; exact hres.out⟩
    · unfold errE; rw [if_neg (by omega)]

set_option maxHeartbeats 1000000 in
theorem Spread_any (a : Option Addr) (n cap : Nat) (l : List Nat) (w : World) (hl : l.length = n) (hn : n ≤ 1048576) (hr : Rd w w.heap.size a (fl l)) :
    Calls Try.prog 27 #[.slice a n cap] w (FlE (SpreadE l) (errE n) w) := by
  obtain ⟨hnp⟩ : Nonempty (n ≤ 4611686018427387904) := ⟨by omega⟩
  have HL := Lib.hid hl
  have HR := Lib.hid hr
  clear hl hr
  rcases Nat.eq_zero_or_pos n with hn0 | hn0
  · subst hn0
    go_enter Try.func27, Try.ntmps27
    go_wp2
    refine bodyPost_ret (v := .tuple #[.float .f64 0, .int .i64 400]) (by simp [results, Try.results27, go_sem]; done) rfl ⟨0, ?_, rfl, by go_grown⟩
    unfold SpreadE; rw [if_pos HL.out]
  · go_enter Try.func27, Try.ntmps27
    go_wp2_with fail
    refine (mean_any _ n _ l _ HL.out (by omega) HR.out).mono ?_
    rintro en w1 ⟨m, hM, rfl, hb⟩
    have HM := Lib.hid hM
    have HR1 := Lib.hid ((HR.out.below hb).more hb.size)
    clear hM
    go_wp2_with fail
    refine (around_any _ _ n _ _ m m l l _ HL.out HL.out (by omega) HR1.out HR1.out).mono ?_
    rintro en w2 ⟨q, hA, rfl, hb2⟩
    have HQ := Lib.hid hA
    have hB2 : Below w.heap.size w w2 := bnext hb hb2
    clear hA hb2
    obtain ⟨d, w3, hrun, hres, hw⟩ := quo_any w2 q (floatOfInt .f64 (n : Int))
    have hB3 := hB2.trans (hw.out.below _)
    go_wp2_with fail
    refine (sqrt_any d _).mono ?_
    rintro en w4 ⟨r, hS, rfl, hb4⟩
    have HS := Lib.hid hS
    have hB4 := bnext hB3 hb4
    clear hS hb4
    go_wp2_with fail
    refine bodyPost_ret (v := .tuple #[.float .f64 r, .int .i64 0]) (by simp [results, Try.results27, go_sem]; done) rfl ⟨r, ?_, ?_, hB4⟩
    · unfold SpreadE; rw [if_neg (by rw [HL.out]; omega)]; exact ⟨m, q, d, HM.out, HQ.out, by rw [HL.out]; exact hres.out, HS.out⟩
    · unfold errE; rw [if_neg (by omega)]

set_option maxHeartbeats 1000000 in
theorem refSpread_any (a : Option Addr) (n cap : Nat) (l : List Nat) (w : World) (hl : l.length = n) (hn : n ≤ 1048576) (hr : Rd w w.heap.size a (fl l)) :
    Calls Try.prog 29 #[.slice a n cap] w (FlE (SpreadE l) (errE n) w) := by
  obtain ⟨hnp⟩ : Nonempty (n ≤ 4611686018427387904) := ⟨by omega⟩
  have HL := Lib.hid hl
  have HR := Lib.hid hr
  clear hl hr
  rcases Nat.eq_zero_or_pos n with hn0 | hn0
  · subst hn0
    go_enter Try.func29, Try.ntmps29
    go_wp2_with fail
    refine (refMean_any _ 0 _ l _ HL.out (by omega) HR.out).mono ?_
    rintro en w1 ⟨m, hM, rfl, hb⟩
    have he : errE 0 = 400 := rfl
    rw [he]
    clear hM he
    go_wp2_with fail
    refine bodyPost_ret (v := .tuple #[.float .f64 0, .int .i64 400]) (by simp [results, Try.results29, go_sem]; done) rfl ⟨0, ?_, rfl, hb⟩
    unfold SpreadE; rw [if_pos HL.out]
  · go_enter Try.func29, Try.ntmps29
    go_wp2_with fail
    refine (refMean_any _ n _ l _ HL.out (by omega) HR.out).mono ?_
    rintro en w1 ⟨m, hM, rfl, hb⟩
    have HM := Lib.hid hM
    have HR1 := Lib.hid ((HR.out.below hb).more hb.size)
    have he : errE n = 0 := if_neg (by omega)
    rw [he]
    clear hM he
    go_wp2_with fail
    refine (products_any _ _ n _ _ m m l l _ HL.out HL.out (by omega) HR1.out HR1.out).mono ?_
    rintro en w2 ⟨v, ps, rfl, hpl, hP, hO, hb2⟩
    obtain ⟨a2, c2, rfl, hpl2, _, hrd⟩ := own_rd hO
    have HP := Lib.hid hP
    have HPL := Lib.hid hpl
    have HRD := Lib.hid hrd
    have hB2 : Below w.heap.size w w2 := bnext hb hb2
    clear hP hpl hpl2 hrd hO hb2
    go_wp2_with fail
    refine (refSum_any _ n _ ps _ HPL.out (by omega) HRD.out).mono ?_
    rintro en w3 ⟨q, hQ, rfl, hb3⟩
    have HQ := Lib.hid hQ
    have hB3 : Below w.heap.size w w3 := bnext hB2 hb3
    clear hQ hb3
    obtain ⟨d, w4, hrun, hres, hw⟩ := quo_any w3 q (floatOfInt .f64 (n : Int))
    have hB4 := hB3.trans (hw.out.below _)
    go_wp2_with fail
    refine (sqrt_any d _).mono ?_
    rintro en w5 ⟨r, hS, rfl, hb5⟩
    have HS := Lib.hid hS
    have hB5 := bnext hB4 hb5
    clear hS hb5
    go_wp2_with fail
    refine bodyPost_ret (v := .tuple #[.float .f64 r, .int .i64 0]) (by simp [results, Try.results29, go_sem]; done) rfl ⟨r, ?_, ?_, hB5⟩
    · have H0 := HM.out
      unfold MeanE at H0; rw [if_neg (by rw [HL.out]; omega)] at H0
      unfold SpreadE; rw [if_neg (by rw [HL.out]; omega)]
      exact ⟨m, q, d, H0, ⟨ps, HPL.out.trans HL.out.symm, HP.out, HQ.out⟩, by rw [HL.out]; exact hres.out, HS.out⟩
    · unfold errE; rw [if_neg (by omega)]
end Go.Proofs.Ytbkofiflfcfjfaa
