/- The document's Spoil. -/
import Derived.Test.YtolbmjilcngnhaaDoorFrSpM
import Derived.Test.YtolbmjilcngnhaaDoorFrPutsW
import Derived.IntWalk
set_option linter.unusedSimpArgs false
set_option linter.unusedVariables false
namespace Go.Proofs.YtolbmjilcngnhaaDoor
open Go.RowKit Go.Kp

theorem modify_set (x : List UInt8) (j : Nat) (f : UInt8 → UInt8) (z : UInt8) (hz : x[j]? = some z) : x.modify j f = x.set j (f z) := by
  apply List.ext_getElem?
  intro i
  rw [List.getElem?_modify, List.getElem?_set]
  by_cases e : j = i
  · subst e
    have hj : j < x.length := (List.getElem?_eq_some_iff.1 hz).1
    have hx : x[j] = z := by simpa [List.getElem?_eq_getElem hj] using hz
    simp [hj, hx]
  · simp [e]
theorem set_text (x : List UInt8) (rest : List Value) (j : Nat) (f : UInt8 → UInt8) (z : UInt8) (hz : x[j]? = some z) : ((x.map B8 ++ rest).toArray).setIfInBounds j (B8 (f z)) = ((x.modify j f).map B8 ++ rest).toArray := by
  have hj : j < x.length := (List.getElem?_eq_some_iff.1 hz).1
  rw [List.setIfInBounds_toArray, List.set_append_left _ _ (by simpa using hj), ← List.map_set, modify_set x j f z hz]
theorem get_text (x : List UInt8) (rest : List Value) (j : Nat) (z : UInt8) (hz : x[j]? = some z) : ((x.map B8 ++ rest).toArray)[j]? = some (B8 z) := by
  have hj : j < x.length := (List.getElem?_eq_some_iff.1 hz).1
  rw [List.getElem?_toArray, List.getElem?_append_left (by simpa using hj), List.getElem?_map, hz]
  rfl

theorem xor_bit (z : UInt8) (e : Nat) (h : e < 8) : bits .xor .u8 (z.toNat : Int) ((2 : Int) ^ e % 256) = ((z ^^^ UInt8.ofNat (2 ^ e)).toNat : Int) := by
  have h1 : ((2 : Int) ^ e % 256) = (((2 ^ e % 256 : Nat)) : Int) := by rw [Int.natCast_emod, Int.natCast_pow]; rfl
  have hz := z.toNat_lt
  have h2 : 2 ^ e % 256 < 256 := Nat.mod_lt _ (by omega)
  rw [h1, u8_xor_nat _ _ hz h2, UInt8.toNat_xor]
  congr 2

theorem str_beq (l l' : List UInt8) : ((strOf l).toList == (strOf l').toList) = decide (l = l') := by
  rw [ByteArray.toList_eq, ByteArray.toList_eq]
  show (l == l') = decide (l = l')
  by_cases h : l = l'
  · subst h; simp
  · simp [h]

theorem shr_num (m : BitVec 32) (k : Nat) : Crc.num m / (2 : Int) ^ k = Crc.num (m >>> k) := by
  unfold Crc.num
  rw [BitVec.toNat_ushiftRight, Nat.shiftRight_eq_div_pow, Int.natCast_ediv, Int.natCast_pow]
  rfl
attribute [local go_sem high] Crc.bits_and1

set_option maxHeartbeats 4000000 in
theorem spoil_any (a : Option Addr) (n c : Nat) (l : List UInt8) (p : Nat) (m : BitVec 32) (w : World) (hl : l.length = n) (hn0 : 0 < n) (hn : n ≤ 1099511627776) (hp : p ≤ 70368744177664) (ha : a = none → c = 0) (hr : Rd w w.heap.size a (l.map B8)) :
    Calls Tryd.prog 21 #[.slice a n c, .int .i64 p, U m] w fun e w' => ∃ g c' rest, e = .returned (.slice (some ⟨g, 0, none⟩) n c') ∧ w.heap.size ≤ g ∧ n ≤ c' ∧ c' ≤ maxLen ∧ Blk w' g 5 ((Frm.spoil l p m 32).map B8 ++ rest).toArray ∧ Below w.heap.size w w' := by
  have HL := Lib.hid hl
  have HA := Lib.hid ha
  have HR := Lib.hid hr
  clear hl ha hr
  go_enter Tryd.func21, Tryd.ntmps21
  go_upto_region 1 with (fail)
  apply wp_region_lit
  iterate 1 (go_step; go_step; rename_i KK hKK; (with_reducible refine hKK _ _ ?_); clear hKK KK)
  (with_reducible refine append_own (w0 := w) ?_ (.const (.slice none 0 0)) (.tmp 11) ?_ w.heap.size (.slice none 0 0) (.slice none 0 0) 0 [] ?_ (World.ownsRow_nil _ _ _ _) a n c l ?_ HA.out HL.out HR.out ?_ (Nat.le_refl _) (Own.of_below (Below.refl _ _) (Nat.le_refl _)) ?_)
  · rfl
  · rfl
  · rfl
  · rfl
  · omega
  intro v1 w1 ho hg
  rw [Nat.zero_add, List.nil_append] at ho
  have hB1 := hg.1
  obtain ⟨hxl, h0 | ⟨g, c', cs, rfl, hg1, hg2, hg3, hg4, hg5, hg6⟩⟩ := ho
  · omega
  have hcs : cs = (l.map B8 ++ cs.toList.drop n).toArray := by
    apply Array.ext'
    rw [List.toList_toArray]
    conv => lhs; rw [← List.take_append_drop n cs.toList]
    rw [Nat.mul_one] at hg6
    rw [hg6]
  generalize cs.toList.drop n = rest at hcs
  subst hcs
  have A1 : Blk w1 g 5 (l.map B8 ++ rest).toArray := hg2
  have HG4 := Lib.hid hg4
  clear hg2 hg5 hg6 hxl hg hg4
  go_wp2_with fail
  go_loopw [8] (fun i wr => ∃ k : Nat, k ≤ 32 ∧ i = .int .i64 k ∧ Blk wr g 5 ((Frm.spoil l p m k).map B8 ++ rest).toArray ∧ Below w.heap.size w wr) (fun i _ => 32 - (intOf i).toNat)
  case atStart => exact ⟨0, Nat.zero_le _, rfl, A1, hB1⟩
  case round =>
    obtain ⟨k, hk, rfl, A, hB⟩ := hrel
    clear A1 hB1
    have l0 := A.lt
    rcases Nat.lt_or_ge k 32 with hlt | hge
    · have HP := Lib.hid (Frm.spoil_succ l p m k)
      have HX := Lib.hid (Frm.spoil_len l p m k)
      have hki : (k : Int) < 32 := by omega
      have hsh := shr_num m k
      have HB := Lib.hid (show (m >>> k).getLsbD 0 = m.getLsbD k by rw [BitVec.getLsbD_ushiftRight]; rfl)
      have hpk : (0 : Int) ≤ (p : Int) + k := by omega
      by_cases hb : m.getLsbD k = true
      · have hon : (Crc.num (m >>> k &&& 1#32) == 1) = true := by simp; exact (Crc.and1_iff _).2 (HB.out.trans hb)
        by_cases hq : p + k < 8 * n
        · have hpq : ((p : Int) + (k : Int)) = ((p + k : Nat) : Int) := by omega
          have HP2 := Lib.hid (HP.out.trans (if_pos ⟨hb, by rw [HL.out]; exact hq⟩))
          have HZ : ∃ z, (Frm.spoil l p m k)[(p + k) / 8]? = some z := ⟨_, List.getElem?_eq_getElem (by rw [HX.out, HL.out]; omega)⟩
          clear HP HB hb HX
          generalize hqq : p + k = q at *
          obtain ⟨z, hz⟩ := HZ
          have HST := Lib.hid (set_text (Frm.spoil l p m k) rest (q / 8) (· ^^^ UInt8.ofNat (2 ^ (q % 8))) z hz)
          have e0 : wr.cell? ⟨g, q / 8, none⟩ = some (B8 z) := (A.cell (q / 8)).trans (get_text _ rest _ z hz)
          have f0 := A.free (q / 8)
          have HQQ := Lib.hid hqq
          have et : ((q : Nat) : Int).tdiv 8 = (q : Int) / 8 := Int.tdiv_eq_ediv_of_nonneg (by omega)
          have em : ((q : Nat) : Int).tmod 8 = (q : Int) % 8 := Int.tmod_eq_emod_of_nonneg (by omega)
          have ew : IntKind.i64.wrap ((q : Int) / 8) = (q : Int) / 8 := IntWalk.i64_in _ (by omega)
          have ev : IntKind.i64.wrap ((q : Int) % 8) = (q : Int) % 8 := IntWalk.i64_in _ (by omega)
          have b1 : 0 ≤ (q : Int) / 8 := by omega
          have b2 : (q : Int) / 8 < (n : Int) := by omega
          have b3 : 0 ≤ (q : Int) % 8 := by omega
          have n1 : ((q : Int) / 8).toNat = q / 8 := by omega
          have n2 : ((q : Int) % 8).toNat = q % 8 := by omega
          clear hqq hz
          generalize Frm.spoil l p m k = x at *
          go_wp2_with fail
          go_roundw
          case rel =>
            refine ⟨k + 1, by omega, by go_num, ?_, by go_grown⟩
            rw [HP2.out, ← HST.out]
            unfold Blk at A; simp (disch := (first | omega | (simp only [World.size_alloc, World.size_setCell, World.size_drew] <;> omega) | fail)) only [Blk, heap_old, heap_at, heap_set_same, heap_set_ne, heap_drew', Option.map_some, putO_cells, A]
            rw [xor_bit z _ (by omega)]
          case measure => simp [intOf]; omega
        · have hq2 : ¬ ((p : Int) + (k : Int)) / 8 < (n : Int) := by omega
          have HP2 := Lib.hid (HP.out.trans (if_neg (fun h => hq (by rw [← HL.out]; exact h.2))))
          clear HP HB hb HX hq
          generalize Frm.spoil l p m k = x at *
          go_wp2_with fail
          go_roundw
          case rel => exact ⟨k + 1, by omega, by go_num, by rw [HP2.out]; exact A, by go_grown⟩
          case measure => simp [intOf]; omega
      · have hon : (Crc.num (m >>> k &&& 1#32) == 1) = false := by simp; intro h; exact hb (HB.out.symm.trans ((Crc.and1_iff _).1 h))
        have HP2 := Lib.hid (HP.out.trans (if_neg (fun h => hb h.1)))
        clear HP HB hb HX
        generalize Frm.spoil l p m k = x at *
        go_wp2_with fail
        go_roundw
        case rel => exact ⟨k + 1, by omega, by go_num, by rw [HP2.out]; exact A, by go_grown⟩
        case measure => simp [intOf]; omega
    · obtain rfl : k = 32 := by omega
      go_wp2_with fail
      go_returns
      exact ⟨g, c', rest, rfl, hg1, hg3, HG4.out, A, hB⟩
end Go.Proofs.YtolbmjilcngnhaaDoor
