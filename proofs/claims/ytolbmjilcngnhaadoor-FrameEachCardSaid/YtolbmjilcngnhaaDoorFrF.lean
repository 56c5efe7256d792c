/- The program's length, look and Read. -/
import Derived.Test.YtolbmjilcngnhaaDoorFrE
set_option linter.unusedSimpArgs false
set_option linter.unusedVariables false
namespace Go.Proofs.YtolbmjilcngnhaaDoor
open Go.RowKit Go.Kp

theorem and127 : ∀ k : Nat, k < 256 → bits .and .u8 (k : Int) 127 = ((k % 128 : Nat) : Int) := by decide +kernel
theorem and_byte (b : UInt8) : bits .and .u8 (b.toNat : Int) 127 = ((b.toNat % 128 : Nat) : Int) := and127 b.toNat b.toNat_lt
theorem bits_or_i64_nat (a b : Nat) (ha : a < 4611686018427387904) (hb : b < 4611686018427387904) : bits .or .i64 (a : Int) (b : Int) = ((a ||| b : Nat) : Int) := by
  have hx : a ||| b < 2 ^ 62 := Nat.or_lt_two_pow (by omega) (by omega)
  have h1 : (BitVec.ofInt 64 (a : Int)).toNat = a := by
    rw [BitVec.ofInt_natCast, BitVec.toNat_ofNat]; exact Nat.mod_eq_of_lt (by omega)
  have h2 : (BitVec.ofInt 64 (b : Int)).toNat = b := by
    rw [BitVec.ofInt_natCast, BitVec.toNat_ofNat]; exact Nat.mod_eq_of_lt (by omega)
  show IntKind.i64.wrap ((BitVec.ofInt 64 (a : Int) ||| BitVec.ofInt 64 (b : Int)).toNat : Int) = _
  rw [BitVec.toNat_or, h1, h2, IntKind.wrap_i64]
  omega
theorem or_add (m c j : Nat) (hm : m < 2 ^ j) (hm2 : m < 4611686018427387904) (hc : c * 2 ^ j < 4611686018427387904) : bits .or .i64 (m : Int) ((c : Int) * ((2 ^ j : Nat) : Int)) = ((m + c * 2 ^ j : Nat) : Int) := by
  rw [← Int.natCast_mul, bits_or_i64_nat m (c * 2 ^ j) hm2 hc, Nat.or_comm, Nat.mul_comm c, ← Nat.two_pow_add_eq_or_of_lt hm, Nat.add_comm]
theorem over5 : 268435456 < 128 ^ (4 + 1) := by decide
/-- m has at most k sevens. -/
def Lt7 (k m : Nat) : Prop := m < 128 ^ k
attribute [local go_sem high] and_byte

set_option maxRecDepth 20000 in
set_option maxHeartbeats 4000000 in
theorem length_any (a : Option Addr) (n c : Nat) (l : List UInt8) (w : World) (hl : l.length = n) (hn : n ≤ 281474976710656) (hr : Rd w w.heap.size a (l.map B8)) :
    Calls Tryd.prog 45 #[.slice a n c] w (Ret (.tuple #[.int .i64 (Frm.lenP 0 0 l).1, .int .i64 (Frm.lenP 0 0 l).2.1, .int .i64 (Frm.lenP 0 0 l).2.2]) w) := by
  have HL := Lib.hid hl
  have HR := Lib.hid hr
  clear hl hr
  obtain ⟨q, hq⟩ : ∃ q, Frm.lenP 0 0 l = q := ⟨_, rfl⟩
  rw [hq]
  have HQ := Lib.hid hq
  clear hq
  go_enter Tryd.func45, Tryd.ntmps45
  go_wp2_with fail
  go_loopw [5, 10] (fun s i wr => ∃ k m : Nat, k ≤ n ∧ k ≤ 4 ∧ i = .int .i64 k ∧ s = .int .i64 m ∧ m < 128 ^ k ∧ (k = 4 → m = 0) ∧ Frm.lenP k m (l.drop k) = q ∧ Below w.heap.size w wr) (fun _ i _ => n - (intOf i).toNat)
  case atStart => exact ⟨0, 0, Nat.zero_le _, by omega, rfl, rfl, by omega, by omega, by simpa using HQ.out, by go_grown⟩
  case round =>
    obtain ⟨k, m, hk, hk4, rfl, rfl, hm, hm4, he, hB⟩ := hrel
    have HE := Lib.hid he
    clear he
    rcases Nat.lt_or_ge k n with hlt | hge
    · obtain ⟨z, hz⟩ : ∃ z, l[k]? = some z := ⟨_, List.getElem?_eq_getElem (by rw [HL.out]; exact hlt)⟩
      have HD := Lib.hid (show l.drop k = z :: l.drop (k + 1) by
        rw [List.drop_eq_getElem_cons (by rw [HL.out]; exact hlt)]
        rw [List.getElem?_eq_getElem (by rw [HL.out]; exact hlt)] at hz
        cases hz; rfl)
      have zb := byte_bd z
      rcases HR.out with hr | ⟨b, off, rfl, hbl, hc⟩
      · have := HL.out
        rw [List.map_eq_nil_iff.1 hr] at this
        simp at this; omega
      have e0 : wr.cell? ⟨b, off + k, none⟩ = some (B8 z) := (hB.cell (p := ⟨b, off + k, none⟩) hbl).trans (rd_byte hc hz)
      clear hz hbl hc
      rcases (show k = 0 ∨ k = 1 ∨ k = 2 ∨ k = 3 ∨ k = 4 by omega) with rfl | rfl | rfl | rfl | rfl
      · have hm' : m < 1 := by simpa using hm
        obtain rfl : m = 0 := by omega
        rw [Nat.add_zero] at e0
        obtain ⟨M, hM⟩ : ∃ M, 0 + z.toNat % 128 * 1 = M := ⟨_, rfl⟩
        have hM' : 0 + z.toNat % 128 * 128 ^ 0 = M := by simpa using hM
        have hor : bits .or .i64 0 ((z.toNat : Int) % 128) = (M : Int) := by rw [← hM]; have h := or_add 0 (z.toNat % 128) 0 (by omega) (by omega) (by omega); simpa using h
        have HX := Lib.hid (show Frm.lenP 0 0 (z :: l.drop 1) = q by rw [← HE.out, HD.out])
        clear HD HE
        rcases Int.lt_or_le (z.toNat : Int) 128 with h1 | h1
        · have d1 : decide ((128 : Int) ≤ (z.toNat : Int)) = false := decide_eq_false (by omega)
          have h3' := Lib.hid (show ¬ (268435456 : Int) < M by omega)
          have dM : decide ((268435456 : Int) < (M : Int)) = false := decide_eq_false h3'.out
          have HQ2 := Lib.hid (show q = (M, 1, 0) by rw [← HX.out]; exact Frm.lenP_done _ _ _ _ _ (by omega) hM' (by omega))
          clear HX hM hM' h1 hm hm'
          go_wp2_with fail
          all_goals (rw [HQ2.out]; refine bodyPost_ret (v := .tuple #[.int .i64 M, .int .i64 1, .int .i64 0]) (by simp [results, Tryd.results45, go_sem]; done) rfl ⟨rfl, bnext hB (by go_grown)⟩)
        · have hz0 : ((z.toNat : Int) == 0) = false := by simp; omega
          have d1 : decide ((128 : Int) ≤ (z.toNat : Int)) = true := decide_eq_true h1
          obtain ⟨I, hI⟩ : ∃ I : Int, (M : Int) = I := ⟨_, rfl⟩
          rw [hI] at hor
          have h3' := Lib.hid (show ¬ (268435456 : Int) < (M : Int) + 128 by omega)
          obtain ⟨T, hT⟩ : ∃ T : Int, wrap64 (I + 128) = T := ⟨_, rfl⟩
          have d3 : decide ((268435456 : Int) < T) = false := decide_eq_false (by rw [← hT]; have := h3'.out; unfold wrap64; omega)
          have HY := Lib.hid (show Frm.lenP 1 M (l.drop 1) = q by rw [← HX.out]; exact (Frm.lenP_more _ _ _ _ _ (by omega) hM' (by have := h3'.out; simp; omega)).symm)
          have HM : Lt7 1 M := show M < 128 ^ 1 by have := h3'.out; simp; omega
          have HI := Lib.hid hI
          clear hI HX hM hM' h1 hm' hm h3'
          go_wp2_with fail
          go_roundw
          case rel => exact ⟨1, M, by omega, by omega, by go_num, by rw [HI.out], HM, by omega, HY.out, bnext hB (by go_grown)⟩
          case measure => simp [intOf]; omega
      · have hm' : m < 128 := by simpa using hm
        obtain ⟨M, hM⟩ : ∃ M, m + z.toNat % 128 * 128 = M := ⟨_, rfl⟩
        have hM' : m + z.toNat % 128 * 128 ^ 1 = M := by simpa using hM
        have hor : bits .or .i64 (m : Int) ((z.toNat : Int) % 128 * 128) = (M : Int) := by rw [← hM]; have h := or_add m (z.toNat % 128) 7 (by omega) (by omega) (by omega); simpa using h
        have HX := Lib.hid (show Frm.lenP 1 m (z :: l.drop 2) = q by rw [← HE.out, HD.out])
        clear HD HE
        rcases Int.lt_or_le (z.toNat : Int) 128 with h1 | h1
        · have d1 : decide ((128 : Int) ≤ (z.toNat : Int)) = false := decide_eq_false (by omega)
          rcases Decidable.em ((z.toNat : Int) = 0) with h2 | h2
          · have h2' : ((z.toNat : Int) == 0) = true := by simp; omega
            have HQ2 := Lib.hid (show q = (0, 0, 131) by rw [← HX.out]; exact Frm.lenP_bad _ _ _ _ _ (by omega) hM' (by omega))
            clear HX hM hM' h1 hm hm' h2
            go_wp2_with fail
            all_goals (rw [HQ2.out]; refine bodyPost_ret (v := .tuple #[.int .i64 0, .int .i64 0, .int .i64 131]) (by simp [results, Tryd.results45, go_sem]; done) rfl ⟨rfl, bnext hB (by go_grown)⟩)
          · have h2' : ((z.toNat : Int) == 0) = false := by simp; omega
            have h3' := Lib.hid (show ¬ (268435456 : Int) < M by omega)
            have dM : decide ((268435456 : Int) < (M : Int)) = false := decide_eq_false h3'.out
            have HQ2 := Lib.hid (show q = (M, 2, 0) by rw [← HX.out]; exact Frm.lenP_done _ _ _ _ _ (by omega) hM' (by omega))
            clear HX hM hM' h1 hm hm' h2
            go_wp2_with fail
            all_goals (rw [HQ2.out]; refine bodyPost_ret (v := .tuple #[.int .i64 M, .int .i64 2, .int .i64 0]) (by simp [results, Tryd.results45, go_sem]; done) rfl ⟨rfl, bnext hB (by go_grown)⟩)
        · have hz0 : ((z.toNat : Int) == 0) = false := by simp; omega
          have d1 : decide ((128 : Int) ≤ (z.toNat : Int)) = true := decide_eq_true h1
          obtain ⟨I, hI⟩ : ∃ I : Int, (M : Int) = I := ⟨_, rfl⟩
          rw [hI] at hor
          have h3' := Lib.hid (show ¬ (268435456 : Int) < (M : Int) + 16384 by omega)
          obtain ⟨T, hT⟩ : ∃ T : Int, wrap64 (I + 16384) = T := ⟨_, rfl⟩
          have d3 : decide ((268435456 : Int) < T) = false := decide_eq_false (by rw [← hT]; have := h3'.out; unfold wrap64; omega)
          have HY := Lib.hid (show Frm.lenP 2 M (l.drop 2) = q by rw [← HX.out]; exact (Frm.lenP_more _ _ _ _ _ (by omega) hM' (by have := h3'.out; simp; omega)).symm)
          have HM : Lt7 2 M := show M < 128 ^ 2 by have := h3'.out; simp; omega
          have HI := Lib.hid hI
          clear hI HX hM hM' h1 hm' hm h3'
          go_wp2_with fail
          go_roundw
          case rel => exact ⟨2, M, by omega, by omega, by go_num, by rw [HI.out], HM, by omega, HY.out, bnext hB (by go_grown)⟩
          case measure => simp [intOf]; omega
      · have hm' : m < 16384 := by simpa using hm
        obtain ⟨M, hM⟩ : ∃ M, m + z.toNat % 128 * 16384 = M := ⟨_, rfl⟩
        have hM' : m + z.toNat % 128 * 128 ^ 2 = M := by simpa using hM
        have hor : bits .or .i64 (m : Int) ((z.toNat : Int) % 128 * 16384) = (M : Int) := by rw [← hM]; have h := or_add m (z.toNat % 128) 14 (by omega) (by omega) (by omega); simpa using h
        have HX := Lib.hid (show Frm.lenP 2 m (z :: l.drop 3) = q by rw [← HE.out, HD.out])
        clear HD HE
        rcases Int.lt_or_le (z.toNat : Int) 128 with h1 | h1
        · have d1 : decide ((128 : Int) ≤ (z.toNat : Int)) = false := decide_eq_false (by omega)
          rcases Decidable.em ((z.toNat : Int) = 0) with h2 | h2
          · have h2' : ((z.toNat : Int) == 0) = true := by simp; omega
            have HQ2 := Lib.hid (show q = (0, 0, 131) by rw [← HX.out]; exact Frm.lenP_bad _ _ _ _ _ (by omega) hM' (by omega))
            clear HX hM hM' h1 hm hm' h2
            go_wp2_with fail
            all_goals (rw [HQ2.out]; refine bodyPost_ret (v := .tuple #[.int .i64 0, .int .i64 0, .int .i64 131]) (by simp [results, Tryd.results45, go_sem]; done) rfl ⟨rfl, bnext hB (by go_grown)⟩)
          · have h2' : ((z.toNat : Int) == 0) = false := by simp; omega
            have h3' := Lib.hid (show ¬ (268435456 : Int) < M by omega)
            have dM : decide ((268435456 : Int) < (M : Int)) = false := decide_eq_false h3'.out
            have HQ2 := Lib.hid (show q = (M, 3, 0) by rw [← HX.out]; exact Frm.lenP_done _ _ _ _ _ (by omega) hM' (by omega))
            clear HX hM hM' h1 hm hm' h2
            go_wp2_with fail
            all_goals (rw [HQ2.out]; refine bodyPost_ret (v := .tuple #[.int .i64 M, .int .i64 3, .int .i64 0]) (by simp [results, Tryd.results45, go_sem]; done) rfl ⟨rfl, bnext hB (by go_grown)⟩)
        · have hz0 : ((z.toNat : Int) == 0) = false := by simp; omega
          have d1 : decide ((128 : Int) ≤ (z.toNat : Int)) = true := decide_eq_true h1
          obtain ⟨I, hI⟩ : ∃ I : Int, (M : Int) = I := ⟨_, rfl⟩
          rw [hI] at hor
          have h3' := Lib.hid (show ¬ (268435456 : Int) < (M : Int) + 2097152 by omega)
          obtain ⟨T, hT⟩ : ∃ T : Int, wrap64 (I + 2097152) = T := ⟨_, rfl⟩
          have d3 : decide ((268435456 : Int) < T) = false := decide_eq_false (by rw [← hT]; have := h3'.out; unfold wrap64; omega)
          have HY := Lib.hid (show Frm.lenP 3 M (l.drop 3) = q by rw [← HX.out]; exact (Frm.lenP_more _ _ _ _ _ (by omega) hM' (by have := h3'.out; simp; omega)).symm)
          have HM : Lt7 3 M := show M < 128 ^ 3 by have := h3'.out; simp; omega
          have HI := Lib.hid hI
          clear hI HX hM hM' h1 hm' hm h3'
          go_wp2_with fail
          go_roundw
          case rel => exact ⟨3, M, by omega, by omega, by go_num, by rw [HI.out], HM, by omega, HY.out, bnext hB (by go_grown)⟩
          case measure => simp [intOf]; omega
      · have hm' : m < 2097152 := by simpa using hm
        obtain ⟨M, hM⟩ : ∃ M, m + z.toNat % 128 * 2097152 = M := ⟨_, rfl⟩
        have hM' : m + z.toNat % 128 * 128 ^ 3 = M := by simpa using hM
        have hor : bits .or .i64 (m : Int) ((z.toNat : Int) % 128 * 2097152) = (M : Int) := by rw [← hM]; have h := or_add m (z.toNat % 128) 21 (by omega) (by omega) (by omega); simpa using h
        have HX := Lib.hid (show Frm.lenP 3 m (z :: l.drop 4) = q by rw [← HE.out, HD.out])
        clear HD HE
        rcases Int.lt_or_le (z.toNat : Int) 128 with h1 | h1
        · have d1 : decide ((128 : Int) ≤ (z.toNat : Int)) = false := decide_eq_false (by omega)
          rcases Decidable.em ((z.toNat : Int) = 0) with h2 | h2
          · have h2' : ((z.toNat : Int) == 0) = true := by simp; omega
            have HQ2 := Lib.hid (show q = (0, 0, 131) by rw [← HX.out]; exact Frm.lenP_bad _ _ _ _ _ (by omega) hM' (by omega))
            clear HX hM hM' h1 hm hm' h2
            go_wp2_with fail
            all_goals (rw [HQ2.out]; refine bodyPost_ret (v := .tuple #[.int .i64 0, .int .i64 0, .int .i64 131]) (by simp [results, Tryd.results45, go_sem]; done) rfl ⟨rfl, bnext hB (by go_grown)⟩)
          · have h2' : ((z.toNat : Int) == 0) = false := by simp; omega
            have h3' := Lib.hid (show ¬ (268435456 : Int) < M by omega)
            have dM : decide ((268435456 : Int) < (M : Int)) = false := decide_eq_false h3'.out
            have HQ2 := Lib.hid (show q = (M, 4, 0) by rw [← HX.out]; exact Frm.lenP_done _ _ _ _ _ (by omega) hM' (by omega))
            clear HX hM hM' h1 hm hm' h2
            go_wp2_with fail
            all_goals (rw [HQ2.out]; refine bodyPost_ret (v := .tuple #[.int .i64 M, .int .i64 4, .int .i64 0]) (by simp [results, Tryd.results45, go_sem]; done) rfl ⟨rfl, bnext hB (by go_grown)⟩)
        · have hz0 : ((z.toNat : Int) == 0) = false := by simp; omega
          have d1 : decide ((128 : Int) ≤ (z.toNat : Int)) = true := decide_eq_true h1
          obtain ⟨I, hI⟩ : ∃ I : Int, (M : Int) = I := ⟨_, rfl⟩
          rw [hI] at hor
          rcases Int.lt_or_le (268435456 : Int) ((M : Int) + 268435456) with h3 | h3
          · obtain ⟨T, hT⟩ : ∃ T : Int, wrap64 (I + 268435456) = T := ⟨_, rfl⟩
            have d3 : decide ((268435456 : Int) < T) = true := decide_eq_true (by rw [← hT]; unfold wrap64; omega)
            have HQ2 := Lib.hid (show q = (0, 0, 131) by rw [← HX.out]; exact Frm.lenP_over _ _ _ _ _ (by omega) hM' (by simp; omega))
            clear HX hM hM' h1 hm hm' h3 hI
            go_wp2_with fail
            all_goals (rw [HQ2.out]; refine bodyPost_ret (v := .tuple #[.int .i64 0, .int .i64 0, .int .i64 131]) (by simp [results, Tryd.results45, go_sem]; done) rfl ⟨rfl, bnext hB (by go_grown)⟩)
          · have h3' := Lib.hid (show ¬ (268435456 : Int) < (M : Int) + 268435456 by omega)
            obtain ⟨T, hT⟩ : ∃ T : Int, wrap64 (I + 268435456) = T := ⟨_, rfl⟩
            have d3 : decide ((268435456 : Int) < T) = false := decide_eq_false (by rw [← hT]; have := h3'.out; unfold wrap64; omega)
            have HY := Lib.hid (show Frm.lenP 4 M (l.drop 4) = q by rw [← HX.out]; exact (Frm.lenP_more _ _ _ _ _ (by omega) hM' (by have := h3'.out; simp; omega)).symm)
            have HM : Lt7 4 M := show M < 128 ^ 4 by have := h3'.out; simp; omega
            have HM0 := Lib.hid (show M = 0 by have := h3'.out; omega)
            have HI := Lib.hid hI
            clear hI HX hM hM' h1 hm' hm h3 h3'
            go_wp2_with fail
            go_roundw
            case rel => exact ⟨4, M, by omega, by omega, by go_num, by rw [HI.out], HM, fun _ => HM0.out, HY.out, bnext hB (by go_grown)⟩
            case measure => simp [intOf]; omega
      · have hm' : m < 268435456 := by simpa using hm
        obtain rfl : m = 0 := by omega
        obtain ⟨M, hM⟩ : ∃ M, 0 + z.toNat % 128 * 268435456 = M := ⟨_, rfl⟩
        have hM' : 0 + z.toNat % 128 * 128 ^ 4 = M := by simpa using hM
        have hor : bits .or .i64 0 ((z.toNat : Int) % 128 * 268435456) = (M : Int) := by rw [← hM]; have h := or_add 0 (z.toNat % 128) 28 (by omega) (by omega) (by omega); simpa using h
        have HX := Lib.hid (show Frm.lenP 4 0 (z :: l.drop 5) = q by rw [← HE.out, HD.out])
        clear HD HE
        rcases Int.lt_or_le (z.toNat : Int) 128 with h1 | h1
        · have d1 : decide ((128 : Int) ≤ (z.toNat : Int)) = false := decide_eq_false (by omega)
          rcases Decidable.em ((z.toNat : Int) = 0) with h2 | h2
          · have h2' : ((z.toNat : Int) == 0) = true := by simp; omega
            have HQ2 := Lib.hid (show q = (0, 0, 131) by rw [← HX.out]; exact Frm.lenP_bad _ _ _ _ _ (by omega) hM' (by omega))
            clear HX hM hM' h1 hm hm' h2
            go_wp2_with fail
            all_goals (rw [HQ2.out]; refine bodyPost_ret (v := .tuple #[.int .i64 0, .int .i64 0, .int .i64 131]) (by simp [results, Tryd.results45, go_sem]; done) rfl ⟨rfl, bnext hB (by go_grown)⟩)
          · have h2' : ((z.toNat : Int) == 0) = false := by simp; omega
            rcases Int.lt_or_le (268435456 : Int) M with h3 | h3
            · have dM : decide ((268435456 : Int) < (M : Int)) = true := decide_eq_true h3
              have HQ2 := Lib.hid (show q = (0, 0, 131) by rw [← HX.out]; exact Frm.lenP_bad _ _ _ _ _ (by omega) hM' (by omega))
              clear HX hM hM' h1 hm hm' h2 h3
              go_wp2_with fail
              all_goals (rw [HQ2.out]; refine bodyPost_ret (v := .tuple #[.int .i64 0, .int .i64 0, .int .i64 131]) (by simp [results, Tryd.results45, go_sem]; done) rfl ⟨rfl, bnext hB (by go_grown)⟩)
            · have h3' := Lib.hid (show ¬ (268435456 : Int) < M by omega)
              have dM : decide ((268435456 : Int) < (M : Int)) = false := decide_eq_false h3'.out
              have HQ2 := Lib.hid (show q = (M, 5, 0) by rw [← HX.out]; exact Frm.lenP_done _ _ _ _ _ (by omega) hM' (by omega))
              clear HX hM hM' h1 hm hm' h2 h3
              go_wp2_with fail
              all_goals (rw [HQ2.out]; refine bodyPost_ret (v := .tuple #[.int .i64 M, .int .i64 5, .int .i64 0]) (by simp [results, Tryd.results45, go_sem]; done) rfl ⟨rfl, bnext hB (by go_grown)⟩)
        · have hz0 : ((z.toNat : Int) == 0) = false := by simp; omega
          have d1 : decide ((128 : Int) ≤ (z.toNat : Int)) = true := decide_eq_true h1
          obtain ⟨I, hI⟩ : ∃ I : Int, (M : Int) = I := ⟨_, rfl⟩
          rw [hI] at hor
          have h3 : (268435456 : Int) < (M : Int) + 34359738368 := by omega
          obtain ⟨T, hT⟩ : ∃ T : Int, wrap64 (I + 34359738368) = T := ⟨_, rfl⟩
          have d3 : decide ((268435456 : Int) < T) = true := decide_eq_true (by rw [← hT]; unfold wrap64; omega)
          have HQ2 := Lib.hid (show q = (0, 0, 131) by rw [← HX.out]; exact Frm.lenP_over _ _ _ _ _ (by omega) hM' (Nat.lt_of_lt_of_le over5 (Nat.le_add_left _ _)))
          clear HX hM hM' h1 hm hm' h3 hI
          go_wp2_with fail
          all_goals (rw [HQ2.out]; refine bodyPost_ret (v := .tuple #[.int .i64 0, .int .i64 0, .int .i64 131]) (by simp [results, Tryd.results45, go_sem]; done) rfl ⟨rfl, bnext hB (by go_grown)⟩)
    · obtain rfl : k = n := by omega
      have HZ := Lib.hid (show Frm.lenP k m [] = q by rw [← HE.out, List.drop_of_length_le (by rw [HL.out]; exact Nat.le_refl _)])
      have HZ2 := Lib.hid (show q = (0, 0, 130) by rw [← HZ.out]; unfold Frm.lenP; rfl)
      go_wp2_with fail
      rw [HZ2.out]
      refine bodyPost_ret (v := .tuple #[.int .i64 0, .int .i64 0, .int .i64 130]) (by simp [results, Tryd.results45, go_sem]; done) rfl ⟨rfl, hB⟩
end Go.Proofs.YtolbmjilcngnhaaDoor
