/- The sort's walks: two neighbouring rows change places; which of two panes comes first. -/
import Derived.Test.YtfpomiimloohkaaSoA
set_option linter.unusedSimpArgs false
set_option linter.unusedVariables false
namespace Go.Proofs.Ytfpomiimloohkaa
open Go.RowKit Go.Kp Go.So

set_option maxRecDepth 100000 in
set_option maxHeartbeats 8000000 in
theorem rotate_any {w : World} {g N : Nat} {d : Nat → Pa} (h : Row w g N d) (cap a m b : Nat) (fv : Value) (ham : a < m) (hmb : m < b) (hbN : b ≤ N) (hN : N ≤ 4611686018427387904) :
    Calls Try.prog 41 #[.slice (some ⟨g, 0, none⟩) N cap, .int .i64 a, .int .i64 m, .int .i64 b, fv] w fun e w' => e = .returned (.tuple #[]) ∧ ∃ d', Row w' g N d' ∧ Rot d d' a m b ∧ Fr (fun b => b = g) w w' := by
  have H := Lib.hid h
  clear h
  obtain ⟨i0, hi0⟩ : ∃ i0, m - a = i0 := ⟨_, rfl⟩
  obtain ⟨j0, hj0⟩ : ∃ j0, b - m = j0 := ⟨_, rfl⟩
  have ei : (m : Int) - (a : Int) = (i0 : Int) := by omega
  have ej : (b : Int) - (m : Int) = (j0 : Int) := by omega
  go_enter Try.func41, Try.ntmps41
  go_wp2_with fail
  go_loopw [10, 11] (fun vi vj wr => ∃ (i j : Nat) (d1 : Nat → Pa), vi = .int .i64 i ∧ vj = .int .i64 j ∧ 1 ≤ i ∧ 1 ≤ j ∧ i ≤ m - a ∧ j ≤ b - m ∧ Row wr g N d1 ∧ (∀ d', Rot d1 d' (m - i) m (m + j) → Rot d d' a m b) ∧ Fr (fun b => b = g) w wr) (fun vi vj _ => (intOf vi).toNat + (intOf vj).toNat)
  case atStart =>
    refine ⟨i0, j0, d, rfl, rfl, by omega, by omega, by omega, by omega, H.out, fun d' hr => ?_, Fr.refl _ _⟩
    rw [show m - i0 = a by omega, show m + j0 = b by omega] at hr
    exact hr
  case round =>
    rename World => wr
    obtain ⟨i, j, d1, rfl, rfl, hi1, hj1, hia, hjb, hR, hC, hF⟩ := hrel
    have HR := Lib.hid hR
    have HC := Lib.hid hC
    have HF := Lib.hid hF
    clear hR hC hF ei ej hi0 hj0
    obtain ⟨s, hs⟩ : ∃ s, m - i = s := ⟨_, rfl⟩
    have es : (m : Int) - (i : Int) = (s : Int) := by omega
    rcases Nat.lt_trichotomy i j with hij | hij | hij
    · have h1 : ¬ i = j := by omega
      have h2 : ¬ (j : Int) < (i : Int) := by omega
      have h2' : ¬ j < i := by omega
      obtain ⟨t, ht⟩ : ∃ t, m + j - i = t := ⟨_, rfl⟩
      have et : (m : Int) + (j : Int) - (i : Int) = (t : Int) := by omega
      have HS := Lib.hid (And.intro hs ht)
      clear hs ht
      go_wp2_with fail
      refine (swapRange_any HR.out cap s t i fv (by have := HS.out; omega) (by have := HS.out; omega) hN).mono ?_
      rintro en w2 ⟨rfl, d2, hR2, hS2, hF2⟩
      have HR2 := Lib.hid hR2
      have HS2 := Lib.hid hS2
      have HF2 := Lib.hid (HF.out.trans hF2)
      clear hR2 hS2 hF2
      obtain ⟨j', hj'⟩ : ∃ j', j - i = j' := ⟨_, rfl⟩
      have ej' : (j : Int) - (i : Int) = (j' : Int) := by omega
      go_wp2_with fail
      go_roundw
      case rel =>
        refine ⟨i, j', d2, rfl, rfl, by omega, by omega, by omega, by omega, HR2.out, fun d' hr => HC.out d' ?_, HF2.out⟩
        have h := HS2.out
        rw [← HS.out.1, ← HS.out.2] at h
        rw [← hj'] at hr
        exact h.shorter (by omega) hij hr
      case measure => simp [intOf]; omega
    · subst hij
      have HS := Lib.hid hs
      clear hs
      go_wp2_with fail
      refine (swapRange_any HR.out cap s m i fv (by have := HS.out; omega) (by omega) hN).mono ?_
      rintro en w2 ⟨rfl, d2, hR2, hS2, hF2⟩
      have HR2 := Lib.hid hR2
      have HF2 := Lib.hid (HF.out.trans hF2)
      have HS2 := Lib.hid hS2
      clear hR2 hS2 hF2
      go_wp2_with fail
      go_returns
      refine ⟨rfl, d2, HR2.out, HC.out d2 ?_, HF2.out⟩
      have h := HS2.out
      rw [← HS.out] at h
      exact h.last (by omega)
    · have h1 : ¬ i = j := by omega
      have h2 : (j : Int) < (i : Int) := by omega
      have HS := Lib.hid hs
      clear hs
      go_wp2_with fail
      refine (swapRange_any HR.out cap s m j fv (by have := HS.out; omega) (by omega) hN).mono ?_
      rintro en w2 ⟨rfl, d2, hR2, hS2, hF2⟩
      have HR2 := Lib.hid hR2
      have HS2 := Lib.hid hS2
      have HF2 := Lib.hid (HF.out.trans hF2)
      clear hR2 hS2 hF2
      obtain ⟨i', hi'⟩ : ∃ i', i - j = i' := ⟨_, rfl⟩
      have ei' : (i : Int) - (j : Int) = (i' : Int) := by omega
      go_wp2_with fail
      go_roundw
      case rel =>
        refine ⟨i', j, d2, rfl, rfl, by omega, by omega, by omega, by omega, HR2.out, fun d' hr => HC.out d' ?_, HF2.out⟩
        have h := HS2.out
        rw [← HS.out] at h
        rw [← hi'] at hr
        exact h.longer (by omega) hij hr
      case measure => simp [intOf]; omega

/-- Which of two panes ends first. -/
def cmpE (x y : Pa) : Int := if x.e < y.e then -1 else if y.e < x.e then 1 else 0
theorem cmpE_lt {x y : Pa} : cmpE x y < 0 ↔ x.e < y.e := by unfold cmpE; split <;> (try split) <;> omega
abbrev cmpV : Value := .func (.func 33) #[] #[]
theorem cmp_any (x y : Pa) (w : World) : Calls Try.prog 33 #[x.val, y.val] w (Ret (.int .i64 (cmpE x y)) w) := by
  have hE : Hid (cmpE x y = if x.e < y.e then -1 else if y.e < x.e then 1 else 0) := Lib.hid rfl
  generalize cmpE x y = C at hE
  obtain ⟨xk, xs, xe, xi, xp, xc, xu, xm, xa⟩ := x
  obtain ⟨yk, ys, ye, yi, yp, yc, yu, ym, ya⟩ := y
  dsimp only [Pa.val, Pa.cells] at *
  rcases Int.lt_trichotomy xe ye with h | h | h
  · go_enter Try.func33, Try.ntmps33
    go_wp2
    go_returns
    exact ⟨ret_int (by rw [hE.out, if_pos h]), by go_grown⟩
  · subst h
    go_enter Try.func33, Try.ntmps33
    go_wp2
    go_returns
    exact ⟨ret_int (by rw [hE.out, if_neg (Int.lt_irrefl xe), if_neg (Int.lt_irrefl xe)]), by go_grown⟩
  · have h2 : ¬ xe < ye := by omega
    go_enter Try.func33, Try.ntmps33
    go_wp2
    go_returns
    exact ⟨ret_int (by rw [hE.out, if_neg (by omega), if_pos h]), by go_grown⟩
end Go.Proofs.Ytfpomiimloohkaa
