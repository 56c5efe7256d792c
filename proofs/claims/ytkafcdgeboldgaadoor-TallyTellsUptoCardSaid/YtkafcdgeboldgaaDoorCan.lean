/- Contracts of the numbers' functions: TrailingZeros64, Mul64, the document's times and twos, Width. -/
import Derived.Test.YtkafcdgeboldgaaDoorCanM
import Derived.Laws.Bits64b
set_option linter.unusedSimpArgs false
set_option linter.unusedVariables false
namespace Go.Proofs.YtkafcdgeboldgaaDoor
open Go.RowKit Go.Kp

/-- The table of bits as its initialiser lays it. -/
def Tab (w : World) : Prop := ∀ j, j < 64 → w.cell? ⟨1, j, none⟩ = some (.int .u8 (Lib.deBruijn64tab.getD j 0 : Nat))
theorem tab_lt {w : World} (h : Tab w) : 1 < w.heap.size := by
  have h := h 0 (by decide)
  rcases Nat.lt_or_ge 1 w.heap.size with h1 | h1
  · exact h1
  · simp [World.cell?, Array.getElem?_eq_none h1] at h
theorem tab_below {w w' : World} (h : Tab w) (hb : Below w.heap.size w w') : Tab w' := fun j hj => (hb.cell (p := ⟨1, j, none⟩) (tab_lt h)).trans (h j hj)

set_option maxHeartbeats 1000000 in
theorem tz_core (x k idx : Nat) (w : World) (hx0 : ((x : Int) == 0) = false)
    (key : IntKind.u64.wrap (bits BinOp.and IntKind.u64 (x : Int) (IntKind.u64.wrap (-(x : Int))) * 285870213051353865) / 288230376151711744 = (idx : Int))
    (hi : idx < 64) (hk : k < 64) (hcell : w.cell? ⟨1, idx, none⟩ = some (.int .u8 k)) :
    Calls Tryd.prog 28 #[.int .u64 x] w (Ret (.int .i64 k) w) := by
  go_enter Tryd.func28, Tryd.ntmps28
  go_wp2_with (simp only [key])
  go_returns
  exact ⟨rfl, by go_grown⟩
theorem tz_zero (w : World) : Calls Tryd.prog 28 #[.int .u64 0] w (Ret (.int .i64 64) w) := by
  go_enter Tryd.func28, Tryd.ntmps28
  go_wp2
  go_returns
  exact ⟨rfl, by go_grown⟩
theorem tz_key (x a : Nat) (hx : x < 18446744073709551616) (hx0 : x ≠ 0) (hlow : x &&& (18446744073709551616 - x) = a) :
    IntKind.u64.wrap (bits BinOp.and IntKind.u64 (x : Int) (IntKind.u64.wrap (-(x : Int))) * 285870213051353865) / 288230376151711744 = ((a * 285870213051353865 % 18446744073709551616 / 288230376151711744 : Nat) : Int) := by
  have e1 : IntKind.u64.wrap (-(x : Int)) = ((18446744073709551616 - x : Nat) : Int) := by rw [IntKind.wrap_u64]; omega
  rw [e1, bits_and_u64_nat x _ hx (by omega), hlow, IntKind.wrap_u64]
  omega
theorem tz_any (x : Nat) (hx : x < 18446744073709551616) (w : World) (hT : Tab w) : Calls Tryd.prog 28 #[.int .u64 x] w (Ret (.int .i64 (Lib.ctz 64 x : Nat)) w) := by
  by_cases hx0 : x = 0
  · subst hx0
    exact tz_zero w
  · obtain ⟨hlow, hk⟩ := Lib.lowest_bit 64 x hx0 hx
    obtain ⟨hi, htab⟩ := Lib.deBruijn64_at _ hk
    have hcell := hT _ hi
    rw [htab] at hcell
    exact tz_core x _ _ w (by simp; omega) (tz_key x _ hx hx0 hlow) hi hk hcell

theorem maskN (a : Nat) (ha : a < 18446744073709551616) : bits .and .u64 (a : Int) 4294967295 = ((a % 4294967296 : Nat) : Int) := by
  have h := bits_and_u64_nat a 4294967295 ha (by omega)
  have e : a &&& 4294967295 = a % 4294967296 := Nat.and_two_pow_sub_one_eq_mod a 32
  rw [e] at h
  exact h
theorem divN (a : Nat) : (a : Int) / 4294967296 = ((a / 4294967296 : Nat) : Int) := by omega
theorem mulN (a b : Nat) : (a : Int) * (b : Int) = ((a * b : Nat) : Int) := (Int.natCast_mul a b).symm
theorem addN (a b : Nat) : (a : Int) + (b : Int) = ((a + b : Nat) : Int) := (Int.natCast_add a b).symm
theorem wrapN (a : Nat) (ha : a < 18446744073709551616) : IntKind.u64.wrap (a : Int) = (a : Int) := by rw [IntKind.wrap_u64]; omega
theorem wrapM (a : Nat) : IntKind.u64.wrap (a : Int) = ((a % 18446744073709551616 : Nat) : Int) := by rw [IntKind.wrap_u64]; omega

set_option maxHeartbeats 1000000 in
theorem mul64_any (x y : Nat) (hx : x < 18446744073709551616) (hy : y < 18446744073709551616) (w : World) :
    Calls Tryd.prog 29 #[.int .u64 x, .int .u64 y] w (Ret (.tuple #[.int .u64 ((x * y / 18446744073709551616 : Nat) : Int), .int .u64 ((x * y % 18446744073709551616 : Nat) : Int)]) w) := by
  obtain ⟨bd, bt, bw, hhi⟩ := Lib.mul64_hi x y hx hy
  have ba := Lib.half_mul_le (a := x / 4294967296) (b := y / 4294967296) (by omega) (by omega)
  have bb := Lib.half_mul_le (a := x / 4294967296) (b := y % 4294967296) (by omega) (by omega)
  have bc := Lib.half_mul_le (a := x % 4294967296) (b := y / 4294967296) (by omega) (by omega)
  have ba' : x / 4294967296 * (y / 4294967296) < 18446744073709551616 := by omega
  have bb' : x / 4294967296 * (y % 4294967296) < 18446744073709551616 := by omega
  have bc' : x % 4294967296 * (y / 4294967296) < 18446744073709551616 := by omega
  have bh1 : x / 4294967296 * (y / 4294967296) + (x / 4294967296 * (y % 4294967296) + x % 4294967296 * (y % 4294967296) / 4294967296) / 4294967296 < 18446744073709551616 := by omega
  have bh : x / 4294967296 * (y / 4294967296) + (x / 4294967296 * (y % 4294967296) + x % 4294967296 * (y % 4294967296) / 4294967296) / 4294967296 + ((x / 4294967296 * (y % 4294967296) + x % 4294967296 * (y % 4294967296) / 4294967296) % 4294967296 + x % 4294967296 * (y / 4294967296)) / 4294967296 < 18446744073709551616 := by omega
  go_enter Tryd.func29, Tryd.ntmps29
  go_wp2
  simp only [maskN x hx, maskN y hy, divN, mulN, addN, wrapN _ bd, wrapN _ bb', wrapN _ bt, maskN _ bt, wrapN _ bc', wrapN _ bw, wrapN _ ba', wrapN _ bh1, wrapN _ bh, wrapM (x * y)]
  rw [hhi]
  go_ret2
  exact ⟨rfl, by go_grown⟩

theorem modN (a : Nat) : (a : Int) % 4294967296 = ((a % 4294967296 : Nat) : Int) := by omega
theorem tdivN (a : Nat) : (a : Int).tdiv 4294967296 = ((a / 4294967296 : Nat) : Int) := (Int.ofNat_tdiv a 4294967296).symm
theorem tmodN (a : Nat) : (a : Int).tmod 4294967296 = ((a % 4294967296 : Nat) : Int) := (Int.ofNat_tmod a 4294967296).symm

set_option maxHeartbeats 1000000 in
theorem times_any (x y : Nat) (hx : x < 18446744073709551616) (hy : y < 18446744073709551616) (w : World) :
    Calls Tryd.prog 31 #[.int .u64 x, .int .u64 y] w (Ret (.tuple #[.int .u64 ((x * y / 18446744073709551616 : Nat) : Int), .int .u64 ((x * y % 18446744073709551616 : Nat) : Int)]) w) := by
  obtain ⟨bd, bt, bw, hhi⟩ := Lib.mul64_hi x y hx hy
  have ba := Lib.half_mul_le (a := x / 4294967296) (b := y / 4294967296) (by omega) (by omega)
  have bb := Lib.half_mul_le (a := x / 4294967296) (b := y % 4294967296) (by omega) (by omega)
  have bc := Lib.half_mul_le (a := x % 4294967296) (b := y / 4294967296) (by omega) (by omega)
  have ba' : x / 4294967296 * (y / 4294967296) < 18446744073709551616 := by omega
  have bb' : x / 4294967296 * (y % 4294967296) < 18446744073709551616 := by omega
  have bc' : x % 4294967296 * (y / 4294967296) < 18446744073709551616 := by omega
  have bq : x % 4294967296 * (y % 4294967296) / 4294967296 < 18446744073709551616 := by omega
  have br : (x / 4294967296 * (y % 4294967296) + x % 4294967296 * (y % 4294967296) / 4294967296) / 4294967296 < 18446744073709551616 := by omega
  have bw' : x % 4294967296 * (y / 4294967296) + (x / 4294967296 * (y % 4294967296) + x % 4294967296 * (y % 4294967296) / 4294967296) % 4294967296 < 18446744073709551616 := by rw [Nat.add_comm]; exact bw
  have bs : (x % 4294967296 * (y / 4294967296) + (x / 4294967296 * (y % 4294967296) + x % 4294967296 * (y % 4294967296) / 4294967296) % 4294967296) / 4294967296 < 18446744073709551616 := by omega
  have bh1 : x / 4294967296 * (y / 4294967296) + (x / 4294967296 * (y % 4294967296) + x % 4294967296 * (y % 4294967296) / 4294967296) / 4294967296 < 18446744073709551616 := by omega
  have bh : x / 4294967296 * (y / 4294967296) + (x / 4294967296 * (y % 4294967296) + x % 4294967296 * (y % 4294967296) / 4294967296) / 4294967296 + (x % 4294967296 * (y / 4294967296) + (x / 4294967296 * (y % 4294967296) + x % 4294967296 * (y % 4294967296) / 4294967296) % 4294967296) / 4294967296 < 18446744073709551616 := by omega
  rw [Nat.add_comm (_ % 4294967296) (x % 4294967296 * (y / 4294967296))] at hhi
  go_enter Tryd.func31, Tryd.ntmps31
  go_wp2
  simp only [modN, divN, mulN, addN, wrapN _ bd, wrapN _ bb', wrapN _ bt, tdivN, tmodN, wrapN _ bq, wrapN _ br, wrapN _ bw', wrapN _ bs, wrapN _ bc', wrapN _ ba', wrapN _ bh1, wrapN _ bh, wrapM (x * y)]
  rw [hhi]
  go_ret2
  exact ⟨rfl, by go_grown⟩

theorem twos_half (k m x : Nat) (hk : k < 64) (hm : m < 2 ^ (64 - k)) (he : Lib.ctz 64 x = k + Lib.ctz (64 - k) m) (hz : m % 2 = 0) :
    m / 2 < 2 ^ (64 - (k + 1)) ∧ Lib.ctz 64 x = k + 1 + Lib.ctz (64 - (k + 1)) (m / 2) := by
  obtain ⟨e, h⟩ : ∃ e, 64 - k = e + 1 := ⟨63 - k, by omega⟩
  have h2 : 64 - (k + 1) = e := by omega
  rw [h] at hm he
  rw [h2, he]
  rw [Nat.pow_succ] at hm
  refine ⟨by omega, ?_⟩
  rcases Nat.eq_zero_or_pos m with h0 | h0
  · subst h0
    simp [Lib.ctz]; omega
  · rw [ctz_half e m h0 (by rw [Nat.pow_succ]; exact hm) hz]; omega

theorem twos_any (x : Nat) (hx : x < 18446744073709551616) (w : World) : Calls Tryd.prog 30 #[.int .u64 x] w (Ret (.int .i64 (Lib.ctz 64 x : Nat)) w) := by
  go_enter Tryd.func30, Tryd.ntmps30
  go_wp2_with fail
  go_loopw [0, 3] (fun s n wr => ∃ k m : Nat, k ≤ 64 ∧ n = .int .i64 k ∧ s = .int .u64 m ∧ m < 2 ^ (64 - k) ∧ Lib.ctz 64 x = k + Lib.ctz (64 - k) m ∧ Below w.heap.size w wr) (fun _ n _ => 64 - (intOf n).toNat)
  case atStart => exact ⟨0, x, by omega, rfl, rfl, hx, by simp, by go_grown⟩
  case round =>
    obtain ⟨k, m, hk, rfl, rfl, hm, he, hB⟩ := hrel
    have HM := Lib.hid hm
    have HE := Lib.hid he
    have hm64 : m < 18446744073709551616 := by
      have : 2 ^ (64 - k) ≤ 2 ^ 64 := Nat.pow_le_pow_right (by decide) (by omega)
      omega
    clear hm he
    rcases Nat.lt_or_ge k 64 with hlt | hge
    · have hki : (k : Int) < 64 := by omega
      rcases Nat.mod_two_eq_zero_or_one m with hz | hz
      · obtain ⟨h1, h2⟩ := twos_half k m x hlt HM.out HE.out hz
        have H1 := Lib.hid h1
        have H2 := Lib.hid h2
        have e2 : (m : Int) % 2 = 0 := by omega
        clear h1 h2 HM HE
        go_wp2_with fail
        go_roundw
        case rel => exact ⟨k + 1, m / 2, by omega, by go_num, by congr 1, H1.out, H2.out, by go_grown⟩
        case measure => simp [intOf]; omega
      · have HC := Lib.hid (show Lib.ctz 64 x = k by
          obtain ⟨e, h⟩ : ∃ e, 64 - k = e + 1 := ⟨63 - k, by omega⟩
          rw [HE.out, h, ctz_odd e m hz]; rfl)
        have e2 : (m : Int) % 2 = 1 := by omega
        clear HM HE
        go_wp2_with fail
        go_returns
        exact ⟨by rw [HC.out]; rfl, by go_grown⟩
    · obtain rfl : k = 64 := by omega
      have HC := Lib.hid (show Lib.ctz 64 x = 64 by
        obtain rfl : m = 0 := by have := HM.out; simp at this; omega
        rw [HE.out]; rfl)
      clear HM HE
      go_wp2_with fail
      go_returns
      exact ⟨by rw [HC.out]; rfl, by go_grown⟩

theorem width_any (t : Tally) (w : World) : Calls Tryd.prog 22 #[t.val] w (Ret (.int .u64 (nat64 (t.ma - t.mi) : Nat)) w) := by
  have h : IntKind.u64.wrap (IntKind.u64.wrap t.ma - IntKind.u64.wrap t.mi) = (nat64 (t.ma - t.mi) : Nat) := by
    rw [IntKind.wrap_u64, IntKind.wrap_u64, IntKind.wrap_u64]; unfold nat64; omega
  go_enter Tryd.func22, Tryd.ntmps22
  go_wp2
  go_returns
  exact ⟨rfl, by go_grown⟩
end Go.Proofs.YtkafcdgeboldgaaDoor
