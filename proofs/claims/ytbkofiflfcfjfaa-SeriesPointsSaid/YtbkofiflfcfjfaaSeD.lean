/- Series: two numbers alike, two rows the same; means that move along, of both. -/
import Derived.Test.YtbkofiflfcfjfaaSeC
import Derived.BigQuiet
import Derived.Deep.QuietTactic
set_option linter.unusedSimpArgs false
set_option linter.unusedVariables false
namespace Go.Ser
open Ieee
theorem order_self {x : Nat} (h : ¬ nanP x) : Go.FloatKind.f64.format.order x x = some .eq := by
  show double.order x x = _
  unfold Format.order
  unfold nanP at h
  cases e : double.read x with
  | number s m i => simp [Datum.order]
  | infinity s => simp [Datum.order]
  | nan s f => rw [e] at h; exact absurd rfl h
theorem order_nan_left {x y : Nat} (h : nanP x) : Go.FloatKind.f64.format.order x y = none := by
  obtain ⟨s, f, e⟩ := nan_form h
  show (Datum.order (double.read x) _) = _
  rw [e]; rfl
theorem order_nan_right {x y : Nat} (h : nanP y) : Go.FloatKind.f64.format.order x y = none := by
  obtain ⟨s, f, e⟩ := nan_form h
  show (Datum.order (double.read x) (double.read y)) = _
  rw [e]
  cases double.read x <;> rfl
end Go.Ser
namespace Go.Proofs.Ytbkofiflfcfjfaa
open Go.RowKit Go.Kp Go.Ser

theorem below_drewN {B : Nat} {w w' : World} (h : Below B w w') : ∀ n, Below B w (w'.drewN n)
  | 0 => h
  | n + 1 => (below_drewN h n).drew

theorem alike_any (x y : Nat) (h : Fq x y) (w : World) : Calls Try.prog 13 #[.float .f64 x, .float .f64 y] w fun e w' => e = .returned (.bool true) ∧ w' = w := by
  have hq := Lib.hid h
  clear h
  rcases Classical.em (nanP x ∧ nanP y) with ⟨h1, h2⟩ | h1
  · have e1 : FloatKind.f64.format.order x y = none := order_nan_left h1
    have e2 : FloatKind.f64.format.order x x = none := order_nan_left h1
    have e3 : FloatKind.f64.format.order y y = none := order_nan_left h2
    clear h1 h2 hq
    go_enter Try.func13, Try.ntmps13
    go_wp2
    go_returns
    exact ⟨rfl, rfl⟩
  · obtain rfl : x = y := hq.out.elim id fun h => absurd h h1
    have e1 : FloatKind.f64.format.order x x = some .eq := order_self fun h => h1 ⟨h, h⟩
    clear h1 hq
    go_enter Try.func13, Try.ntmps13
    go_wp2
    go_returns
    exact ⟨rfl, rfl⟩

set_option maxHeartbeats 1000000 in
theorem same_any (a a' : Option Addr) (n cap cap' : Nat) (l l' : List Nat) (w : World) (hl : l.length = n) (hq : Fqs l l') (hn : n ≤ 1048576) (hr : Rd w w.heap.size a (fl l)) (hr' : Rd w w.heap.size a' (fl l')) :
    Calls Try.prog 34 #[.slice a n cap, .slice a' n cap'] w (Ret (.bool true) w) := by
  obtain ⟨hnp⟩ : Nonempty (n ≤ 4611686018427387904) := ⟨by omega⟩
  have hl' : l'.length = n := hq.1.symm.trans hl
  have HQ := Lib.hid hq
  clear hq
  rcases Nat.eq_zero_or_pos n with hn0 | hn0
  · subst hn0
    clear hl hl' hr hr'
    go_enter Try.func34, Try.ntmps34
    go_wp2
    go_rounds 1
    go_returns
    exact ⟨rfl, by go_grown⟩
  · rcases hr with hr | ⟨b, off, rfl, hb, hc⟩
    · exact absurd hr (fl_ne hl hn0)
    rcases hr' with hr' | ⟨b', off', rfl, hb', hc'⟩
    · exact absurd hr' (fl_ne hl' hn0)
    have HC := Lib.hid hc
    have HL := Lib.hid hl
    have HC' := Lib.hid hc'
    have HL' := Lib.hid hl'
    clear hc hl hc' hl'
    go_enter Try.func34, Try.ntmps34
    go_wp2
    go_loopw [5] (fun i wr => ∃ k : Nat, k ≤ n ∧ i = .int .i64 k ∧ Below w.heap.size w wr) (fun i _ => n - (intOf i).toNat)
    case atStart => exact ⟨0, Nat.zero_le _, rfl, by go_grown⟩
    case round =>
      obtain ⟨k, hk, rfl, hB⟩ := hrel
      rcases Nat.lt_or_ge k n with hlt | hge
      · obtain ⟨x, hx⟩ := some_at HL.out hlt
        obtain ⟨y, hy⟩ := some_at HL'.out hlt
        have HF := Lib.hid (HQ.out.2 k x y hx hy)
        have e := fl_at hb hB HC.out hx
        have e' := fl_at hb' hB HC'.out hy
        clear hx hy
        go_wp2_with fail
        go_quiet ((go_at_call 13; exact Calls.quiet_of_same (alike_any _ _ HF.out _)))
        go_wp2
        go_roundw
        case rel => exact ⟨k + 1, by omega, by go_num, below_drewN hB _⟩
        case measure => simp [intOf]; omega
      · go_wp2
        go_returns
        exact ⟨rfl, hB⟩
end Go.Proofs.Ytbkofiflfcfjfaa
