/- CrcSpoilt: the walk. -/
import Derived.Test.YtcjmobikjegioaaDoorCSpoilt
import Derived.IntWalk
set_option linter.unusedSimpArgs false
set_option linter.unusedVariables false
namespace Go.Proofs.YtcjmobikjegioaaDoor
open Go.RowKit Go.Kp

theorem modify_set (x : List UInt8) (j : Nat) (f : UInt8 → UInt8) (z : UInt8) (hz : x[j]? = some z) : x.modify j f = x.set j (f z) := by
  apply List.ext_getElem?
  intro i
  rw [List.getElem?_modify, List.getElem?_set]
  by_cases e : j = i
  · subst e
    have hj : j < x.length := (List.getElem?_eq_some_iff.1 hz).1
    have hx : x[j] = z := by simpa [List.getElem?_eq_getElem hj] using hz
    simp [hj, hx]
  · simp [e]
theorem set_text (x : List UInt8) (rest : List Value) (j : Nat) (f : UInt8 → UInt8) (z : UInt8) (hz : x[j]? = some z) : ((x.map B8 ++ rest).toArray).setIfInBounds j (B8 (f z)) = ((x.modify j f).map B8 ++ rest).toArray := by
  have hj : j < x.length := (List.getElem?_eq_some_iff.1 hz).1
  rw [List.setIfInBounds_toArray, List.set_append_left _ _ (by simpa using hj), ← List.map_set, modify_set x j f z hz]
theorem get_text (x : List UInt8) (rest : List Value) (j : Nat) (z : UInt8) (hz : x[j]? = some z) : ((x.map B8 ++ rest).toArray)[j]? = some (B8 z) := by
  have hj : j < x.length := (List.getElem?_eq_some_iff.1 hz).1
  rw [List.getElem?_toArray, List.getElem?_append_left (by simpa using hj), List.getElem?_map, hz]
  rfl

theorem shr1t (y : BitVec 32) : (Crc.num y).tdiv 2 % (4294967296 : Int) = Crc.num (y >>> 1) := by
  rw [Int.tdiv_eq_ediv_of_nonneg (Crc.num_nonneg y), Crc.shr1, Crc.num_mod]
theorem xor_bit (z : UInt8) (e : Nat) (h : e < 8) : bits .xor .u8 (z.toNat : Int) ((2 : Int) ^ e % 256) = ((z ^^^ UInt8.ofNat (2 ^ e)).toNat : Int) := by
  have h1 : ((2 : Int) ^ e % 256) = (((2 ^ e % 256 : Nat)) : Int) := by rw [Int.natCast_emod, Int.natCast_pow]; rfl
  have hz := z.toNat_lt
  have h2 : 2 ^ e % 256 < 256 := Nat.mod_lt _ (by omega)
  rw [h1, u8_xor_nat _ _ hz h2, UInt8.toNat_xor]
  congr 2

set_option maxHeartbeats 4000000 in
theorem spoilt_zero (a : Option Addr) (cap : Nat) (bit : Int) (m : BitVec 32) (w : World) (hT : Tab w) (ha : a = none → cap = 0) :
    Calls Tryd.prog 5 #[.slice a 0 cap, .int .i64 bit, U m] w (Ret (.bool true) w) := by
  have HT := Lib.hid hT
  have HA := Lib.hid ha
  clear hT ha
  go_enter Tryd.func5, Tryd.ntmps5
  go_upto_region 1 with (fail)
  apply wp_region_lit
  iterate 2 (go_step; go_step; rename_i KK hKK; (with_reducible refine hKK _ _ ?_); clear hKK KK)
  (with_reducible refine append_bytes ?_ (.tmp 10) (.tmp 11) ?_ w.heap.size (.slice (some ⟨w.heap.size, 0, none⟩) 0 0) 0 [] ?_ ?_ a 0 cap [] ?_ HA.out rfl ?_ ?_ ?_ ?_)
  · rfl
  · rfl
  · rfl
  · exact ⟨rfl, .inr ⟨w.heap.size, 0, #[], rfl, Nat.le_refl _, heap_at rfl, Nat.le_refl _, by unfold maxLen; omega, rfl, rfl⟩⟩
  · rfl
  · exact .inl rfl
  · omega
  · simp
  intro v1 w1 ho hg _
  have hB1 : Below w.heap.size w w1 := by
    refine Below.grown (show Below w.heap.size w (w.alloc (Obj.cells #[] 5)) by go_grown) hg (by simp) ?_
    intro kk hkk
    simp [Value.ownBlock] at hkk
    omega
  have s1 := hB1.size
  clear ho hg
  go_wp2_with fail
  refine (works_any _ ?_).mono ?_
  · exact HT.out.next (by go_grown)
  rintro en w2 ⟨rfl, hb⟩
  have hB2 : Below w.heap.size w w2 := bnext (by go_grown) hb
  clear hb hB1
  go_wp2_with fail
  go_returns
  exact ⟨rfl, by go_grown⟩

set_option maxHeartbeats 8000000 in
theorem spoilt_some (a : Option Addr) (n cap : Nat) (l : List UInt8) (bit : Int) (m : BitVec 32) (w : World) (hT : Tab w) (hl : l.length = n) (hn0 : 0 < n) (hn : n ≤ 140737488351232) (ha : a = none → cap = 0) (hr : Rd w w.heap.size a (l.map B8))
    (hb1 : -9223372036854775808 ≤ bit) (hb2 : bit ≤ 9223372036854775807) :
    Calls Tryd.prog 5 #[.slice a n cap, .int .i64 bit, U m] w (Ret (.bool true) w) := by
  have HT := Lib.hid hT
  have HA := Lib.hid ha
  have HL := Lib.hid hl
  have HR := Lib.hid hr
  obtain ⟨p, hp, hsgn⟩ : ∃ p : Nat, p < 8 * n ∧ ((bit.tmod (8 * (n : Int)) = (p : Int)) ∨ (0 < p ∧ bit.tmod (8 * (n : Int)) = -(p : Int))) := by
    have hlt := Int.natAbs_tmod bit (8 * (n : Int))
    have h8 : (8 * (n : Int)).natAbs = 8 * n := by omega
    rw [h8] at hlt
    have h2 : bit.natAbs % (8 * n) < 8 * n := Nat.mod_lt _ (by omega)
    refine ⟨(bit.tmod (8 * (n : Int))).natAbs, by omega, ?_⟩
    omega
  clear hT ha hl hr
  go_enter Tryd.func5, Tryd.ntmps5
  go_upto_region 1 with (fail)
  apply wp_region_lit
  iterate 2 (go_step; go_step; rename_i KK hKK; (with_reducible refine hKK _ _ ?_); clear hKK KK)
  (with_reducible refine append_bytes ?_ (.tmp 10) (.tmp 11) ?_ w.heap.size (.slice (some ⟨w.heap.size, 0, none⟩) 0 0) 0 [] ?_ ?_ a n cap l ?_ HA.out HL.out ?_ ?_ ?_ ?_)
  · rfl
  · rfl
  · rfl
  · exact ⟨rfl, .inr ⟨w.heap.size, 0, #[], rfl, Nat.le_refl _, heap_at rfl, Nat.le_refl _, by unfold maxLen; omega, rfl, rfl⟩⟩
  · rfl
  · exact (HR.out.below (by go_grown)).more (by simp)
  · omega
  · simp
  intro v1 w1 ho hg _
  rw [Nat.zero_add, List.nil_append] at ho
  have hB1 : Below w.heap.size w w1 := by
    refine Below.grown (show Below w.heap.size w (w.alloc (Obj.cells #[] 5)) by go_grown) hg (by simp) ?_
    intro kk hkk
    simp [Value.ownBlock] at hkk
    omega
  obtain ⟨hxl, h0 | ⟨g, c, cs, rfl, hg1, hg2, hg3, hg4, hg5, hg6⟩⟩ := ho
  · omega
  have hcs : cs = (l.map B8 ++ cs.toList.drop n).toArray := by
    apply Array.ext'
    rw [List.toList_toArray]
    conv => lhs; rw [← List.take_append_drop n cs.toList]
    rw [Nat.mul_one] at hg6
    rw [hg6]
  generalize cs.toList.drop n = rest at hcs
  subst hcs
  have A1 : Blk w1 g 5 (l.map B8 ++ rest).toArray := hg2
  clear hg2 hg5 hg6 hxl hg hg4
  rcases hsgn with hs | ⟨hp0, hs⟩
  · go_wp2_with fail
    go_loopw [2, 8] (fun mk i wr => ∃ k : Nat, k ≤ 32 ∧ i = .int .i64 k ∧ mk = U (m >>> k) ∧ Blk wr g 5 ((spoil l p m k).map B8 ++ rest).toArray ∧ Below w.heap.size w wr) (fun _ i _ => 32 - (intOf i).toNat)
    case atStart => exact ⟨0, Nat.zero_le _, rfl, by rw [BitVec.ushiftRight_zero], A1, hB1⟩
    case round =>
      obtain ⟨k, hk, rfl, rfl, A, hB⟩ := hrel
      clear A1 hB1
      have l0 := A.lt
      rcases Nat.lt_or_ge k 32 with hlt | hge
      · have HS := Lib.hid (shr_succ m k)
        have HB := Lib.hid (show (m >>> k).getLsbD 0 = m.getLsbD k by rw [BitVec.getLsbD_ushiftRight]; rfl)
        have HP := Lib.hid (spoil_succ l p m k)
        have HX := Lib.hid (spoil_len l p m k)
        have h0 := Crc.num_nonneg (m >>> k)
        by_cases hb : m.getLsbD k = true
        · have e1 : Crc.num (m >>> k) % (2 : Int) = 1 := (Crc.odd_iff _).2 (HB.out.trans hb)
          by_cases hq : p + k < 8 * n
          · have hpq : ((p : Int) + (k : Int)) = ((p + k : Nat) : Int) := by omega
            have HP2 := Lib.hid (HP.out.trans (if_pos ⟨hb, by rw [HL.out]; exact hq⟩))
            have HZ : ∃ z, (spoil l p m k)[(p + k) / 8]? = some z := ⟨_, List.getElem?_eq_getElem (by rw [HX.out, HL.out]; omega)⟩
            clear HP HB hb HX
            generalize hqq : p + k = q at *
            obtain ⟨z, hz⟩ := HZ
            have HST := Lib.hid (set_text (spoil l p m k) rest (q / 8) (· ^^^ UInt8.ofNat (2 ^ (q % 8))) z hz)
            have e0 : wr.cell? ⟨g, q / 8, none⟩ = some (B8 z) := (A.cell (q / 8)).trans (get_text _ rest _ z hz)
            have f0 := A.free (q / 8)
            have HQQ := Lib.hid hqq
            have hq2 : (q : Int) < 8 * (n : Int) := by omega
            have et : ((q : Nat) : Int).tdiv 8 = (q : Int) / 8 := Int.tdiv_eq_ediv_of_nonneg (by omega)
            have em : ((q : Nat) : Int).tmod 8 = (q : Int) % 8 := Int.tmod_eq_emod_of_nonneg (by omega)
            have ew : IntKind.i64.wrap ((q : Int) / 8) = (q : Int) / 8 := IntWalk.i64_in _ (by omega)
            have ev : IntKind.i64.wrap ((q : Int) % 8) = (q : Int) % 8 := IntWalk.i64_in _ (by omega)
            have b1 : 0 ≤ (q : Int) / 8 := by omega
            have b2 : (q : Int) / 8 < (n : Int) := by omega
            have b3 : 0 ≤ (q : Int) % 8 := by omega
            have n1 : ((q : Int) / 8).toNat = q / 8 := by omega
            have n2 : ((q : Int) % 8).toNat = q % 8 := by omega
            clear hqq hz
            generalize spoil l p m k = x at *
            generalize m >>> k = y at *
            go_wp2_with fail
            (refine region_keep (fun x => x < wr.heap.size) 12 [(0, true), (1, true), (2, true), (3, true), (4, true), (5, true), (6, true), (7, true), (8, true), (9, true), (10, true), (11, true)] (by kernel_rfl) (fun _ _ d _ _ h => by cases d <;> exact h) (by kernel_rfl) ?_; simp only [withOps, List.getElem?_toArray, List.getElem?_cons_zero, List.getElem?_cons_succ, List.drop_succ_cons, List.drop_zero])
            (iterate 12 (refine keep_quiet (v := ?_) rfl ?_ ?_; rotate_left; (focus (intro w' hw'; go_simp; (try with_reducible rfl); done)); try simp only [Act.put, List.setIfInBounds_toArray, List.set_cons_zero, List.set_cons_succ]))
            (with_reducible refine plan_end ?_)
            (try simp only [Act.put, List.setIfInBounds_toArray, List.set_cons_zero, List.set_cons_succ])
            clear et em ew ev
            go_wp2_with fail
            go_roundw
            case rel =>
              refine ⟨k + 1, by omega, by go_num, congrArg (Value.int .u32) (by rw [HS.out]; first | exact shr1t y | exact Crc.shr1 y), ?_, by go_grown⟩
              rw [HP2.out, ← HST.out]
              unfold Blk at A; simp (disch := (first | omega | (simp only [World.size_alloc, World.size_setCell, World.size_drew] <;> omega) | fail)) only [Blk, heap_old, heap_at, heap_set_same, heap_set_ne, heap_drew', Option.map_some, putO_cells, A]
              rw [xor_bit z _ (by omega)]
            case measure => simp [intOf]; omega
          · have hq2 : 8 * (n : Int) ≤ (p : Int) + (k : Int) := by omega
            have HP2 := Lib.hid (HP.out.trans (if_neg (fun h => hq (by rw [← HL.out]; exact h.2))))
            clear HP HB hb HX hq
            generalize spoil l p m k = x at *
            generalize m >>> k = y at *
            go_wp2_with fail
            go_roundw
            case rel => exact ⟨k + 1, by omega, by go_num, congrArg (Value.int .u32) (by rw [HS.out]; first | exact shr1t y | exact Crc.shr1 y), by rw [HP2.out]; exact A, by go_grown⟩
            case measure => simp [intOf]; omega
        · have e1 : Crc.num (m >>> k) % (2 : Int) = 0 := by
            have h1 : ¬ Crc.num (m >>> k) % (2 : Int) = 1 := fun h => hb (HB.out.symm.trans ((Crc.odd_iff _).1 h))
            omega
          have HP2 := Lib.hid (HP.out.trans (if_neg (fun h => hb h.1)))
          clear HP HB hb HX
          generalize spoil l p m k = x at *
          generalize m >>> k = y at *
          go_wp2_with fail
          go_roundw
          case rel => exact ⟨k + 1, by omega, by go_num, congrArg (Value.int .u32) (by rw [HS.out]; first | exact shr1t y | exact Crc.shr1 y), by rw [HP2.out]; exact A, by go_grown⟩
          case measure => simp [intOf]; omega
      · have hX := Lib.hid (spoil_ne l p m)
        rw [show k = 32 by omega] at A
        have HXL := Lib.hid (spoil_len l p m 32)
        generalize spoil l p m 32 = x at *
        have HRX := Lib.hid (show Rd wr wr.heap.size (some ⟨g, 0, none⟩) (x.map B8) from .inr ⟨g, 0, rfl, l0, fun j u hu => by
          rw [Nat.zero_add, A.cell j, List.getElem?_toArray, List.getElem?_append_left (List.getElem?_eq_some_iff.1 hu).1]; exact hu⟩)
        have k1 := conv_rd a n cap l HL.out wr _ ((HR.out.below hB).more hB.size)
        have k2 := conv_rd (some ⟨g, 0, none⟩) n c x (HXL.out.trans HL.out) wr _ HRX.out
        have HTX := Lib.hid (show Txt wr wr.heap.size (.slice (some ⟨g, 0, none⟩) n c) x from ⟨_, c, by rw [HXL.out, HL.out], (fun h => by cases h), by rw [HXL.out, HL.out]; omega, HRX.out⟩)
        have HTL := Lib.hid (show Txt wr wr.heap.size (.slice a n cap) l from ⟨_, cap, by rw [HL.out], HA.out, by rw [HL.out]; omega, (HR.out.below hB).more hB.size⟩)
        have sr := hB.size
        clear A l0
        by_cases hE : l = x
        · have hq : ((strOf l).toList == (strOf x).toList) = true := by rw [str_beq]; exact decide_eq_true hE
          have HEQ := Lib.hid hE
          clear hE
          go_wp2_with fail
          clear k1 k2 hq
          refine (sum1 _ _ l _ ?_ (heap_at rfl) ?_).mono ?_
          · exact HT.out.next (by go_grown)
          · exact HTL.out.next (by go_grown)
          rintro en w2 ⟨rfl, hb⟩
          have hB2 : Below w.heap.size w w2 := bnext (by go_grown) hb
          have HTX2 := Lib.hid (HTX.out.next (show Below wr.heap.size wr w2 from bnext (by go_grown) hb))
          have s2 := hB2.size
          clear hb hB HTX HTL sr HRX
          go_wp2_with fail
          refine (sum1 _ _ x _ ?_ (heap_at rfl) ?_).mono ?_
          · exact HT.out.next (by go_grown)
          · exact HTX2.out.next (by go_grown)
          rintro en w3 ⟨rfl, hb⟩
          rw [← HEQ.out]
          have hB3 : Below w.heap.size w w3 := bnext (by go_grown) hb
          have s3 := hB3.size
          clear hb hB2 HTX2 s2
          go_wp2_with fail
          refine (works_any _ ?_).mono ?_
          · exact HT.out.next (by go_grown)
          rintro en w4 ⟨rfl, hb⟩
          have hB4 : Below w.heap.size w w4 := bnext (by go_grown) hb
          clear hb hB3
          go_wp2_with fail
          go_returns
          exact ⟨rfl, by go_grown⟩
        · have hq : ((strOf l).toList == (strOf x).toList) = false := by rw [str_beq]; exact decide_eq_false hE
          have hne : ¬ Crc.num (Crc.more 0#32 l) = Crc.num (Crc.more 0#32 x) := fun e => hX.out (fun e2 => hE e2.symm) (Crc.num_inj e)
          clear hE
          go_wp2_with fail
          clear k1 k2 hq
          refine (sum1 _ _ l _ ?_ (heap_at rfl) ?_).mono ?_
          · exact HT.out.next (by go_grown)
          · exact HTL.out.next (by go_grown)
          rintro en w2 ⟨rfl, hb⟩
          have hB2 : Below w.heap.size w w2 := bnext (by go_grown) hb
          have HTX2 := Lib.hid (HTX.out.next (show Below wr.heap.size wr w2 from bnext (by go_grown) hb))
          have s2 := hB2.size
          clear hb hB HTX HTL sr HRX
          go_wp2_with fail
          refine (sum1 _ _ x _ ?_ (heap_at rfl) ?_).mono ?_
          · exact HT.out.next (by go_grown)
          · exact HTX2.out.next (by go_grown)
          rintro en w3 ⟨rfl, hb⟩
          have hB3 : Below w.heap.size w w3 := bnext (by go_grown) hb
          have s3 := hB3.size
          clear hb hB2 HTX2 s2
          go_wp2_with fail
          refine (works_any _ ?_).mono ?_
          · exact HT.out.next (by go_grown)
          rintro en w4 ⟨rfl, hb⟩
          have hB4 : Below w.heap.size w w4 := bnext (by go_grown) hb
          clear hb hB3
          have HNE := Lib.hid hne
          clear hne
          go_wp2_with fail
          go_returns
          exact ⟨congrArg (fun b => Ending.returned (.bool b)) (bne_iff_ne.2 HNE.out), by go_grown⟩
  · go_wp2_with fail
    go_loopw [2, 8] (fun mk i wr => ∃ k : Nat, k ≤ 32 ∧ i = .int .i64 k ∧ mk = U (m >>> k) ∧ Blk wr g 5 ((spoil l p m k).map B8 ++ rest).toArray ∧ Below w.heap.size w wr) (fun _ i _ => 32 - (intOf i).toNat)
    case atStart => exact ⟨0, Nat.zero_le _, rfl, by rw [BitVec.ushiftRight_zero], A1, hB1⟩
    case round =>
      obtain ⟨k, hk, rfl, rfl, A, hB⟩ := hrel
      clear A1 hB1
      have l0 := A.lt
      rcases Nat.lt_or_ge k 32 with hlt | hge
      · have HS := Lib.hid (shr_succ m k)
        have HB := Lib.hid (show (m >>> k).getLsbD 0 = m.getLsbD k by rw [BitVec.getLsbD_ushiftRight]; rfl)
        have HP := Lib.hid (spoil_succ l p m k)
        have HX := Lib.hid (spoil_len l p m k)
        have h0 := Crc.num_nonneg (m >>> k)
        by_cases hb : m.getLsbD k = true
        · have e1 : Crc.num (m >>> k) % (2 : Int) = 1 := (Crc.odd_iff _).2 (HB.out.trans hb)
          by_cases hq : p + k < 8 * n
          · have hpq : ((p : Int) + (k : Int)) = ((p + k : Nat) : Int) := by omega
            have HP2 := Lib.hid (HP.out.trans (if_pos ⟨hb, by rw [HL.out]; exact hq⟩))
            have HZ : ∃ z, (spoil l p m k)[(p + k) / 8]? = some z := ⟨_, List.getElem?_eq_getElem (by rw [HX.out, HL.out]; omega)⟩
            clear HP HB hb HX
            generalize hqq : p + k = q at *
            obtain ⟨z, hz⟩ := HZ
            have HST := Lib.hid (set_text (spoil l p m k) rest (q / 8) (· ^^^ UInt8.ofNat (2 ^ (q % 8))) z hz)
            have e0 : wr.cell? ⟨g, q / 8, none⟩ = some (B8 z) := (A.cell (q / 8)).trans (get_text _ rest _ z hz)
            have f0 := A.free (q / 8)
            have HQQ := Lib.hid hqq
            have hq2 : (q : Int) < 8 * (n : Int) := by omega
            have et : ((q : Nat) : Int).tdiv 8 = (q : Int) / 8 := Int.tdiv_eq_ediv_of_nonneg (by omega)
            have em : ((q : Nat) : Int).tmod 8 = (q : Int) % 8 := Int.tmod_eq_emod_of_nonneg (by omega)
            have ew : IntKind.i64.wrap ((q : Int) / 8) = (q : Int) / 8 := IntWalk.i64_in _ (by omega)
            have ev : IntKind.i64.wrap ((q : Int) % 8) = (q : Int) % 8 := IntWalk.i64_in _ (by omega)
            have b1 : 0 ≤ (q : Int) / 8 := by omega
            have b2 : (q : Int) / 8 < (n : Int) := by omega
            have b3 : 0 ≤ (q : Int) % 8 := by omega
            have n1 : ((q : Int) / 8).toNat = q / 8 := by omega
            have n2 : ((q : Int) % 8).toNat = q % 8 := by omega
            clear hqq hz
            generalize spoil l p m k = x at *
            generalize m >>> k = y at *
            go_wp2_with fail
            (refine region_keep (fun x => x < wr.heap.size) 12 [(0, true), (1, true), (2, true), (3, true), (4, true), (5, true), (6, true), (7, true), (8, true), (9, true), (10, true), (11, true)] (by kernel_rfl) (fun _ _ d _ _ h => by cases d <;> exact h) (by kernel_rfl) ?_; simp only [withOps, List.getElem?_toArray, List.getElem?_cons_zero, List.getElem?_cons_succ, List.drop_succ_cons, List.drop_zero])
            (iterate 12 (refine keep_quiet (v := ?_) rfl ?_ ?_; rotate_left; (focus (intro w' hw'; go_simp; (try with_reducible rfl); done)); try simp only [Act.put, List.setIfInBounds_toArray, List.set_cons_zero, List.set_cons_succ]))
            (with_reducible refine plan_end ?_)
            (try simp only [Act.put, List.setIfInBounds_toArray, List.set_cons_zero, List.set_cons_succ])
            clear et em ew ev
            go_wp2_with fail
            go_roundw
            case rel =>
              refine ⟨k + 1, by omega, by go_num, congrArg (Value.int .u32) (by rw [HS.out]; first | exact shr1t y | exact Crc.shr1 y), ?_, by go_grown⟩
              rw [HP2.out, ← HST.out]
              unfold Blk at A; simp (disch := (first | omega | (simp only [World.size_alloc, World.size_setCell, World.size_drew] <;> omega) | fail)) only [Blk, heap_old, heap_at, heap_set_same, heap_set_ne, heap_drew', Option.map_some, putO_cells, A]
              rw [xor_bit z _ (by omega)]
            case measure => simp [intOf]; omega
          · have hq2 : 8 * (n : Int) ≤ (p : Int) + (k : Int) := by omega
            have HP2 := Lib.hid (HP.out.trans (if_neg (fun h => hq (by rw [← HL.out]; exact h.2))))
            clear HP HB hb HX hq
            generalize spoil l p m k = x at *
            generalize m >>> k = y at *
            go_wp2_with fail
            go_roundw
            case rel => exact ⟨k + 1, by omega, by go_num, congrArg (Value.int .u32) (by rw [HS.out]; first | exact shr1t y | exact Crc.shr1 y), by rw [HP2.out]; exact A, by go_grown⟩
            case measure => simp [intOf]; omega
        · have e1 : Crc.num (m >>> k) % (2 : Int) = 0 := by
            have h1 : ¬ Crc.num (m >>> k) % (2 : Int) = 1 := fun h => hb (HB.out.symm.trans ((Crc.odd_iff _).1 h))
            omega
          have HP2 := Lib.hid (HP.out.trans (if_neg (fun h => hb h.1)))
          clear HP HB hb HX
          generalize spoil l p m k = x at *
          generalize m >>> k = y at *
          go_wp2_with fail
          go_roundw
          case rel => exact ⟨k + 1, by omega, by go_num, congrArg (Value.int .u32) (by rw [HS.out]; first | exact shr1t y | exact Crc.shr1 y), by rw [HP2.out]; exact A, by go_grown⟩
          case measure => simp [intOf]; omega
      · have hX := Lib.hid (spoil_ne l p m)
        rw [show k = 32 by omega] at A
        have HXL := Lib.hid (spoil_len l p m 32)
        generalize spoil l p m 32 = x at *
        have HRX := Lib.hid (show Rd wr wr.heap.size (some ⟨g, 0, none⟩) (x.map B8) from .inr ⟨g, 0, rfl, l0, fun j u hu => by
          rw [Nat.zero_add, A.cell j, List.getElem?_toArray, List.getElem?_append_left (List.getElem?_eq_some_iff.1 hu).1]; exact hu⟩)
        have k1 := conv_rd a n cap l HL.out wr _ ((HR.out.below hB).more hB.size)
        have k2 := conv_rd (some ⟨g, 0, none⟩) n c x (HXL.out.trans HL.out) wr _ HRX.out
        have HTX := Lib.hid (show Txt wr wr.heap.size (.slice (some ⟨g, 0, none⟩) n c) x from ⟨_, c, by rw [HXL.out, HL.out], (fun h => by cases h), by rw [HXL.out, HL.out]; omega, HRX.out⟩)
        have HTL := Lib.hid (show Txt wr wr.heap.size (.slice a n cap) l from ⟨_, cap, by rw [HL.out], HA.out, by rw [HL.out]; omega, (HR.out.below hB).more hB.size⟩)
        have sr := hB.size
        clear A l0
        by_cases hE : l = x
        · have hq : ((strOf l).toList == (strOf x).toList) = true := by rw [str_beq]; exact decide_eq_true hE
          have HEQ := Lib.hid hE
          clear hE
          go_wp2_with fail
          clear k1 k2 hq
          refine (sum1 _ _ l _ ?_ (heap_at rfl) ?_).mono ?_
          · exact HT.out.next (by go_grown)
          · exact HTL.out.next (by go_grown)
          rintro en w2 ⟨rfl, hb⟩
          have hB2 : Below w.heap.size w w2 := bnext (by go_grown) hb
          have HTX2 := Lib.hid (HTX.out.next (show Below wr.heap.size wr w2 from bnext (by go_grown) hb))
          have s2 := hB2.size
          clear hb hB HTX HTL sr HRX
          go_wp2_with fail
          refine (sum1 _ _ x _ ?_ (heap_at rfl) ?_).mono ?_
          · exact HT.out.next (by go_grown)
          · exact HTX2.out.next (by go_grown)
          rintro en w3 ⟨rfl, hb⟩
          rw [← HEQ.out]
          have hB3 : Below w.heap.size w w3 := bnext (by go_grown) hb
          have s3 := hB3.size
          clear hb hB2 HTX2 s2
          go_wp2_with fail
          refine (works_any _ ?_).mono ?_
          · exact HT.out.next (by go_grown)
          rintro en w4 ⟨rfl, hb⟩
          have hB4 : Below w.heap.size w w4 := bnext (by go_grown) hb
          clear hb hB3
          go_wp2_with fail
          go_returns
          exact ⟨rfl, by go_grown⟩
        · have hq : ((strOf l).toList == (strOf x).toList) = false := by rw [str_beq]; exact decide_eq_false hE
          have hne : ¬ Crc.num (Crc.more 0#32 l) = Crc.num (Crc.more 0#32 x) := fun e => hX.out (fun e2 => hE e2.symm) (Crc.num_inj e)
          clear hE
          go_wp2_with fail
          clear k1 k2 hq
          refine (sum1 _ _ l _ ?_ (heap_at rfl) ?_).mono ?_
          · exact HT.out.next (by go_grown)
          · exact HTL.out.next (by go_grown)
          rintro en w2 ⟨rfl, hb⟩
          have hB2 : Below w.heap.size w w2 := bnext (by go_grown) hb
          have HTX2 := Lib.hid (HTX.out.next (show Below wr.heap.size wr w2 from bnext (by go_grown) hb))
          have s2 := hB2.size
          clear hb hB HTX HTL sr HRX
          go_wp2_with fail
          refine (sum1 _ _ x _ ?_ (heap_at rfl) ?_).mono ?_
          · exact HT.out.next (by go_grown)
          · exact HTX2.out.next (by go_grown)
          rintro en w3 ⟨rfl, hb⟩
          have hB3 : Below w.heap.size w w3 := bnext (by go_grown) hb
          have s3 := hB3.size
          clear hb hB2 HTX2 s2
          go_wp2_with fail
          refine (works_any _ ?_).mono ?_
          · exact HT.out.next (by go_grown)
          rintro en w4 ⟨rfl, hb⟩
          have hB4 : Below w.heap.size w w4 := bnext (by go_grown) hb
          clear hb hB3
          have HNE := Lib.hid hne
          clear hne
          go_wp2_with fail
          go_returns
          exact ⟨congrArg (fun b => Ending.returned (.bool b)) (bne_iff_ne.2 HNE.out), by go_grown⟩

theorem spoilt_law (a : Option Addr) (cap : Nat) (l : List UInt8) (bit : Int) (m : BitVec 32) (w : World) (hT : Tab w) (hn : l.length ≤ 140737488351232) (ha : a = none → cap = 0) (hr : Rd w w.heap.size a (l.map B8))
    (hb1 : -9223372036854775808 ≤ bit) (hb2 : bit ≤ 9223372036854775807) :
    Calls Tryd.prog 5 #[.slice a l.length cap, .int .i64 bit, U m] w (Ret (.bool true) w) := by
  by_cases h0 : l.length = 0
  · rw [h0]; exact spoilt_zero a cap bit m w hT ha
  · exact spoilt_some a l.length cap l bit m w hT rfl (by omega) hn ha hr hb1 hb2
end Go.Proofs.YtcjmobikjegioaaDoor
