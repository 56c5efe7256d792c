/- The document's begins and length. -/
import Derived.Test.YtolbmjilcngnhaaDoorFrRefM
import Derived.Test.YtolbmjilcngnhaaDoorFrAll
set_option linter.unusedSimpArgs false
set_option linter.unusedVariables false
namespace Go.Proofs.YtolbmjilcngnhaaDoor
open Go.RowKit Go.Kp

theorem pow8 (k : Nat) (hk : k < 9) : 128 ^ k ≤ 72057594037927936 := Nat.le_trans (Nat.pow_le_pow_right (by omega) (show k ≤ 8 by omega)) (by decide)
theorem low_step (k m z : Nat) (hk : k < 9) (hm : m < 128 ^ k) (hz : z < 128) : wrap64 ((m : Int) + wrap64 ((z : Int) * wrap64 ((128 ^ k : Nat) : Int))) = ((m + z * 128 ^ k : Nat) : Int) := by
  have h8 := pow8 k hk
  generalize 128 ^ k = P at *
  have h1 : wrap64 (P : Int) = (P : Int) := by unfold wrap64; omega
  have h2 := Nat.mul_le_mul (show z ≤ 127 by omega) h8
  rw [h1, ← Int.natCast_mul]
  generalize z * P = T at *
  unfold wrap64; omega
theorem unit0 : 1 = wrap64 ((128 ^ 0 : Nat) : Int) := by unfold wrap64; omega
theorem tmod128 (y : Nat) : (y : Int).tmod 128 = ((y % 128 : Nat) : Int) := by
  rw [Int.tmod_eq_emod_of_nonneg (by omega)]; omega
theorem unit_step (k : Nat) : wrap64 (wrap64 ((128 ^ k : Nat) : Int) * 128) = wrap64 ((128 ^ (k + 1) : Nat) : Int) := by
  rw [Nat.pow_succ]
  generalize 128 ^ k = P
  unfold wrap64; omega

set_option maxHeartbeats 1000000 in
theorem begins_any (a : Option Addr) (n c : Nat) (l : List UInt8) (w : World) (hl : l.length = n) (hn : n ≤ 281474976710656) (hr : Rd w w.heap.size a (l.map B8)) (ha : ∀ c ∈ l, 128 ≤ c.toNat) :
    Calls Tryd.prog 47 #[.slice a n c] w (Ret (.bool (decide (n < 9 ∧ Frm.lowN l + 128 ^ n ≤ 268435456))) w) := by
  have HL := Lib.hid hl
  have HR := Lib.hid hr
  have HA := Lib.hid ha
  clear hl hr ha
  obtain ⟨res, hres⟩ : ∃ r, decide (n < 9 ∧ Frm.lowN l + 128 ^ n ≤ 268435456) = r := ⟨_, rfl⟩
  rw [hres]
  have HRES := Lib.hid hres
  clear hres
  go_enter Tryd.func47, Tryd.ntmps47
  go_wp2_with fail
  go_loopw [3, 4, 5] (fun s u i wr => ∃ (k : Nat) (N U : Int), k ≤ n ∧ k ≤ 9 ∧ i = .int .i64 k ∧ s = .int .i64 N ∧ u = .int .i64 U ∧ N = (Frm.lowN (l.take k) : Nat) ∧ U = wrap64 ((128 ^ k : Nat) : Int) ∧ Below w.heap.size w wr) (fun _ _ i _ => n - (intOf i).toNat)
  case atStart => exact ⟨0, 0, 1, Nat.zero_le _, by omega, rfl, rfl, rfl, rfl, unit0, by go_grown⟩
  case round =>
    obtain ⟨k, N, U, hk, hk9, rfl, rfl, rfl, hN, hU, hB⟩ := hrel
    have HN := Lib.hid hN
    have HU := Lib.hid hU
    clear hN hU
    rcases Decidable.em (k < n ∧ k < 9) with ⟨hlt, hlt9⟩ | hge
    · obtain ⟨z, hz⟩ : ∃ z, l[k]? = some z := ⟨_, List.getElem?_eq_getElem (by rw [HL.out]; exact hlt)⟩
      have zb := byte_bd z
      have z128 : (128 : Int) ≤ z.toNat := by have := HA.out z (List.mem_of_getElem? hz); omega
      have HZ := Lib.hid (Frm.lowN_take l k z hz)
      rcases HR.out with hr | ⟨b, off, rfl, hbl, hc⟩
      · have := HL.out
        rw [List.map_eq_nil_iff.1 hr] at this
        simp at this; omega
      have e0 : wr.cell? ⟨b, off + k, none⟩ = some (B8 z) := (hB.cell (p := ⟨b, off + k, none⟩) hbl).trans (rd_byte hc hz)
      clear hz hbl hc
      go_wp2_with fail
      go_roundw
      case rel =>
        refine ⟨k + 1, _, _, by omega, by omega, by go_num, rfl, rfl, ?_, ?_, by go_grown⟩
        · have h := low_step k (Frm.lowN (l.take k)) (z.toNat % 128) hlt9 (by have := Frm.lowN_lt (l.take k); rw [List.length_take, HL.out, Nat.min_eq_left hk] at this; exact this) (by omega)
          rw [HN.out, HU.out, HZ.out, ← h]
          congr 4
          omega
        · rw [HU.out]; exact unit_step k
      case measure => simp [intOf]; omega
    · rcases Nat.lt_or_ge n 9 with h9 | h9
      · obtain rfl : k = n := by omega
        obtain ⟨T, hT⟩ : ∃ T : Nat, T = Frm.lowN l + 128 ^ k := ⟨_, rfl⟩
        have e1 : wrap64 (N + U) = (T : Int) := by
          have h8 := pow8 k h9
          have h7 := Frm.lowN_lt l
          rw [HL.out] at h7
          rw [HN.out, HU.out, hT, List.take_of_length_le (by rw [HL.out]; exact Nat.le_refl _)]
          generalize 128 ^ k = P at *
          unfold wrap64; omega
        have HT := Lib.hid hT
        clear hT
        have h9' : (k : Int) < 9 := by omega
        rcases Nat.lt_or_ge 268435456 T with hTl | hTg
        · obtain rfl : res = false := by rw [← HRES.out, ← HT.out]; simp; omega
          have hT' : ¬ ((T : Int) ≤ 268435456) := by omega
          go_wp2_with fail
          go_returns
          exact ⟨rfl, hB⟩
        · obtain rfl : res = true := by rw [← HRES.out, ← HT.out]; simp; omega
          have hT' : (T : Int) ≤ 268435456 := by omega
          go_wp2_with fail
          go_returns
          exact ⟨rfl, hB⟩
      · obtain rfl : res = false := by rw [← HRES.out]; simp; omega
        have h9' : ¬ (n : Int) < 9 := by omega
        rcases Decidable.em (k < n) with hlt | hge2
        · obtain rfl : k = 9 := by omega
          have hlt' : (9 : Int) < n := by omega
          go_wp2_with fail
          go_returns
          exact ⟨rfl, hB⟩
        · obtain rfl : k = n := by omega
          go_wp2_with fail
          go_returns
          exact ⟨rfl, hB⟩

set_option maxRecDepth 20000 in
set_option maxHeartbeats 2000000 in
theorem refLength_any (a : Option Addr) (n c : Nat) (l : List UInt8) (w : World) (hl : l.length = n) (hn : n ≤ 281474976710656) (hr : Rd w w.heap.size a (l.map B8)) :
    Calls Tryd.prog 39 #[.slice a n c] w (Ret (.tuple #[.int .i64 (Frm.lenP 0 0 l).1, .int .i64 (Frm.lenP 0 0 l).2.1, .int .i64 (Frm.lenP 0 0 l).2.2]) w) := by
  have HL := Lib.hid hl
  have HR := Lib.hid hr
  clear hl hr
  obtain ⟨q, hq⟩ : ∃ q, Frm.lenP 0 0 l = q := ⟨_, rfl⟩
  rw [hq]
  have HQ := Lib.hid hq
  clear hq
  go_enter Tryd.func39, Tryd.ntmps39
  go_wp2_with fail
  go_loopw [5] (fun i wr => ∃ k : Nat, k ≤ n ∧ i = .int .i64 k ∧ (∀ z ∈ l.take k, 128 ≤ z.toNat) ∧ Below w.heap.size w wr) (fun i _ => n - (intOf i).toNat)
  case atStart => exact ⟨0, Nat.zero_le _, rfl, by simp, by go_grown⟩
  case round =>
    obtain ⟨k, hk, rfl, hall, hB⟩ := hrel
    have HALL := Lib.hid hall
    clear hall
    rcases Nat.lt_or_ge k n with hlt | hge
    · obtain ⟨z, hz⟩ : ∃ z, l[k]? = some z := ⟨_, List.getElem?_eq_getElem (by rw [HL.out]; exact hlt)⟩
      have zb := byte_bd z
      rcases HR.out with hr | ⟨b, off, rfl, hbl, hc⟩
      · have := HL.out
        rw [List.map_eq_nil_iff.1 hr] at this
        simp at this; omega
      have e0 : wr.cell? ⟨b, off + k, none⟩ = some (B8 z) := (hB.cell (p := ⟨b, off + k, none⟩) hbl).trans (rd_byte hc hz)
      rcases Nat.lt_or_ge z.toNat 128 with h1 | h1
      · have h1' : ¬ (128 : Int) ≤ z.toNat := by omega
        have hkn : ((k : Int) == (n : Int)) = false := by simp; omega
        have hdl : l = l.take k ++ z :: l.drop (k + 1) := by
          have hz' := (List.getElem?_eq_some_iff.1 hz).2
          rw [← hz', ← List.drop_eq_getElem_cons, List.take_append_drop]
        obtain ⟨N, hN⟩ : ∃ N, Frm.lowN (l.take k) + z.toNat * 128 ^ k = N := ⟨_, rfl⟩
        have HN := Lib.hid hN
        have HE := Lib.hid (show q = if 9 ≤ k ∨ 268435456 < N ∨ (Frm.numB N).length ≠ k + 1 then (0, 0, 131) else (N, k + 1, 0) by
          rw [← HQ.out]
          conv => lhs; rw [hdl]
          exact Frm.lenP_end _ z _ HALL.out h1 k (by rw [List.length_take, HL.out]; omega) N hN)
        have HLN := Lib.hid (show Frm.lowN (l.take (k + 1)) = N by
          rw [Frm.lowN_take l k z hz, Nat.mod_eq_of_lt h1]; exact hN)
        clear hz hN hdl
        go_wp2_with fail
        go_loopw [6, 7, 8] (fun s u i wi => ∃ (j : Nat) (S U : Int), j ≤ k + 1 ∧ j ≤ 9 ∧ i = .int .i64 j ∧ s = .int .i64 S ∧ u = .int .i64 U ∧ S = (Frm.lowN (l.take j) : Nat) ∧ U = wrap64 ((128 ^ j : Nat) : Int) ∧ Below w.heap.size w wi) (fun _ _ i _ => k + 1 - (intOf i).toNat)
        case atStart => exact ⟨0, 0, 1, Nat.zero_le _, by omega, rfl, rfl, rfl, rfl, unit0, by go_grown⟩
        case round =>
          clear hB e0
          obtain ⟨j, S, U, hj, hj9, rfl, rfl, rfl, hS, hU, hB⟩ := hrel
          have HS := Lib.hid hS
          have HU := Lib.hid hU
          clear hS hU
          rcases Decidable.em (j < k + 1 ∧ j < 9) with ⟨hjl, hjl9⟩ | hjge
          · obtain ⟨y, hy⟩ : ∃ y, l[j]? = some y := ⟨_, List.getElem?_eq_getElem (by rw [HL.out]; omega)⟩
            have yb := byte_bd y
            have HY := Lib.hid (Frm.lowN_take l j y hy)
            have e0 : wr.cell? ⟨b, off + j, none⟩ = some (B8 y) := (hB.cell (p := ⟨b, off + j, none⟩) hbl).trans (rd_byte hc hy)
            have hjn : j < n := by omega
            have hjk : (j : Int) ≤ k := by omega
            have ht : (y.toNat : Int).tmod 128 = ((y.toNat % 128 : Nat) : Int) := tmod128 _
            have hCC := Lib.hid hc
            clear hy hc h1 h1' zb
            go_wp2_with fail
            go_roundw
            case rel =>
              refine ⟨j + 1, _, _, by omega, by omega, by go_num, rfl, rfl, ?_, ?_, by go_grown⟩
              · have h := low_step j (Frm.lowN (l.take j)) (y.toNat % 128) hjl9 (by have := Frm.lowN_lt (l.take j); rw [List.length_take, HL.out, Nat.min_eq_left (by omega)] at this; exact this) (by omega)
                rw [HS.out, HU.out, HY.out, ← h, show ((y.toNat % 128 : Nat) : Int) = (y.toNat : Int) % 128 by omega]
              · rw [HU.out]; exact unit_step j
            case measure => simp [intOf]; omega
          · clear h1 h1' zb hlt hkn
            rcases Nat.lt_or_ge 8 k with h9 | h9
            · obtain rfl : j = 9 := by omega
              have h9' : (9 : Int) ≤ k := by omega
              have HE2 := Lib.hid (HE.out.trans (if_pos (.inl h9)))
              clear h9
              go_wp2_with fail
              rw [HE2.out]
              refine bodyPost_ret (v := .tuple #[.int .i64 0, .int .i64 0, .int .i64 131]) (by simp [results, Tryd.results39, go_sem]; done) rfl ⟨rfl, hB⟩
            · obtain rfl : j = k + 1 := by omega
              have h9' : ¬ (9 : Int) ≤ k := by omega
              obtain rfl : S = (N : Int) := by rw [HS.out, HLN.out]
              rcases Nat.lt_or_ge 268435456 N with hM | hM
              · have hM' : (268435456 : Int) < N := by omega
                have HE2 := Lib.hid (HE.out.trans (if_pos (.inr (.inl hM))))
                clear hM h9 hjge
                go_wp2_with fail
                rw [HE2.out]
                refine bodyPost_ret (v := .tuple #[.int .i64 0, .int .i64 0, .int .i64 131]) (by simp [results, Tryd.results39, go_sem]; done) rfl ⟨rfl, hB⟩
              · have hM' : ¬ (268435456 : Int) < N := by omega
                have HM := Lib.hid hM
                clear hM hjge
                go_wp2_with fail
                refine (refNumber_any N _ (by have := HM.out; omega)).mono ?_
                rintro en w1 ⟨v1, rfl, ho1, hb1⟩
                have hB1 := bnext hB hb1
                obtain ⟨a1, c1, rfl, _⟩ := own_slice ho1
                clear ho1 hb1
                obtain ⟨L, hL⟩ : ∃ L, (Frm.numB N).length = L := ⟨_, rfl⟩
                rw [hL]
                have HLL := Lib.hid hL
                clear hL
                rcases Decidable.em (L = k + 1) with hLk | hLk
                · have HE2 := Lib.hid (HE.out.trans (if_neg (by rw [HLL.out]; have := HM.out; omega)))
                  have hLk' : ((L : Int) == (k : Int) + 1) = true := by simp; omega
                  clear hLk
                  go_wp2_with fail
                  rw [HE2.out]
                  refine bodyPost_ret (v := .tuple #[.int .i64 N, .int .i64 ((k : Int) + 1), .int .i64 0]) (by simp [results, Tryd.results39, go_sem]; done) rfl ⟨by simp, hB1⟩
                · have HE2 := Lib.hid (HE.out.trans (if_pos (by rw [HLL.out]; exact .inr (.inr hLk))))
                  have hLk' : ((L : Int) == (k : Int) + 1) = false := by simp; omega
                  clear hLk
                  go_wp2_with fail
                  rw [HE2.out]
                  refine bodyPost_ret (v := .tuple #[.int .i64 0, .int .i64 0, .int .i64 131]) (by simp [results, Tryd.results39, go_sem]; done) rfl ⟨rfl, hB1⟩
      · have h1' : (128 : Int) ≤ z.toNat := by omega
        have HZ := Lib.hid hz
        clear hz hbl hc
        go_wp2_with fail
        go_roundw
        case rel =>
          refine ⟨k + 1, by omega, by go_num, fun y hy => ?_, by go_grown⟩
          rw [List.take_add_one, HZ.out] at hy
          rcases List.mem_append.1 hy with hy | hy
          · exact HALL.out y hy
          · obtain rfl : y = z := by simpa using hy
            exact h1
        case measure => simp [intOf]; omega
    · obtain rfl : k = n := by omega
      clear hge hk
      have HA2 := Lib.hid (show ∀ z ∈ l, 128 ≤ z.toNat by
        have h := HALL.out
        rw [List.take_of_length_le (by rw [HL.out]; exact Nat.le_refl _)] at h
        exact h)
      have HE := Lib.hid (show q = if k < 9 ∧ Frm.lowN l + 128 ^ k ≤ 268435456 then (0, 0, 130) else (0, 0, 131) by
        rw [← HQ.out, Frm.lenP_all l HA2.out, HL.out])
      go_wp2_with fail
      refine (begins_any a k c l _ HL.out hn ((HR.out.below hB).more hB.size) HA2.out).mono ?_
      rintro en w1 ⟨rfl, hb1⟩
      have hB1 := bnext hB hb1
      clear hb1
      rcases Decidable.em (k < 9 ∧ Frm.lowN l + 128 ^ k ≤ 268435456) with h | h
      · rw [show decide (k < 9 ∧ Frm.lowN l + 128 ^ k ≤ 268435456) = true from decide_eq_true h]
        have HE2 := Lib.hid (HE.out.trans (if_pos h))
        clear h
        go_wp2_with fail
        rw [HE2.out]
        refine bodyPost_ret (v := .tuple #[.int .i64 0, .int .i64 0, .int .i64 130]) (by simp [results, Tryd.results39, go_sem]; done) rfl ⟨rfl, hB1⟩
      · rw [show decide (k < 9 ∧ Frm.lowN l + 128 ^ k ≤ 268435456) = false from decide_eq_false h]
        have HE2 := Lib.hid (HE.out.trans (if_neg h))
        clear h
        go_wp2_with fail
        rw [HE2.out]
        refine bodyPost_ret (v := .tuple #[.int .i64 0, .int .i64 0, .int .i64 131]) (by simp [results, Tryd.results39, go_sem]; done) rfl ⟨rfl, hB1⟩
end Go.Proofs.YtolbmjilcngnhaaDoor
