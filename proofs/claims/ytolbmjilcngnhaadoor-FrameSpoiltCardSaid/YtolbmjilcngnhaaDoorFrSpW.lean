/- FrameSpoilt: the walk. -/
import Derived.Test.YtolbmjilcngnhaaDoorFrSpA
set_option linter.unusedSimpArgs false
set_option linter.unusedVariables false
namespace Go.Proofs.YtolbmjilcngnhaaDoor
open Go.RowKit Go.Kp

theorem xor_low (z : UInt8) (m : BitVec 32) : bits .xor .u8 (z.toNat : Int) (Crc.num m % 256) = ((z ^^^ Crc.byteAt m 0).toNat : Int) := by
  rw [Crc.num_byte0, u8_xor_nat _ _ z.toNat_lt (Crc.byteAt m 0).toNat_lt, UInt8.toNat_xor]
theorem low_ne (z : UInt8) (m : BitVec 32) (h : Crc.num m % (256 : Int) ≠ 0) : z ^^^ Crc.byteAt m 0 ≠ z := by
  intro e
  apply h
  rw [Crc.num_byte0]
  have h1 : Crc.byteAt m 0 = 0 := by
    have h2 : z ^^^ (z ^^^ Crc.byteAt m 0) = z ^^^ z := by rw [e]
    rw [← UInt8.xor_assoc, UInt8.xor_self, UInt8.zero_xor] at h2
    exact h2
  rw [h1]; rfl
/-- Where the bits are turned. -/
theorem turn_at (bit : Int) (B : Nat) (h : 0 < B) : ∃ r1 : Int, ∃ r2 : Nat, bit.tmod (B : Int) = r1 ∧ -(B : Int) < r1 ∧ r1 < B ∧ (r1 + (B : Int)).tmod (B : Int) = (r2 : Int) ∧ r2 < B := by
  have h1 := Int.natAbs_tmod bit (B : Int)
  have h2 : bit.natAbs % B < B := Nat.mod_lt _ h
  rw [Int.natAbs_natCast] at h1
  have h3 : 0 ≤ bit.tmod (B : Int) + (B : Int) := by omega
  refine ⟨bit.tmod (B : Int), ((bit.tmod (B : Int) + (B : Int)) % (B : Int)).toNat, rfl, by omega, by omega, ?_, ?_⟩
  · rw [Int.tmod_eq_emod_of_nonneg h3, Int.toNat_of_nonneg (Int.emod_nonneg _ (by omega))]
  · have := Int.emod_lt_of_pos (bit.tmod (B : Int) + (B : Int)) (show (0 : Int) < B by omega)
    have := Int.emod_nonneg (bit.tmod (B : Int) + (B : Int)) (show (B : Int) ≠ 0 by omega)
    omega

theorem p_bd {fr n B r2 p : Nat} (h1 : 2 ≤ fr ∧ fr ≤ 11) (h2 : 20000 ≥ n) (h3 : B = 8 * (n + 4)) (h4 : r2 < B) (h5 : p = 8 * fr + r2) : 8 * fr ≤ p ∧ p ≤ 1000000 := by omega

set_option maxHeartbeats 8000000 in
theorem spoilt_law (tag : UInt8) (a : Option Addr) (n c : Nat) (l : List UInt8) (bit : Int) (m : BitVec 32) (w : World) (hT : Tab w) (hl : l.length = n) (hn : n ≤ 9223372036854775807) (ha : a = none → c = 0) (hr : Rd w w.heap.size a (l.map B8))
    (hb1 : -9223372036854775808 ≤ bit) (hb2 : bit ≤ 9223372036854775807) :
    Calls Tryd.prog 4 #[.agg #[B8 tag, .slice a n c], .int .i64 bit, U m] w (Ret (.bool true) w) := by
  have HT := Lib.hid hT
  have HL := Lib.hid hl
  have HA := Lib.hid ha
  have HR := Lib.hid hr
  have HB1 := Lib.hid hb1
  have HB2 := Lib.hid hb2
  clear hT hl ha hr hb1 hb2
  go_enter Tryd.func4, Tryd.ntmps4
  go_upto_region 1 with (fail)
  (refine wp_at (fun wc => Blk wc w.heap.size 35 #[B8 tag, .slice a n c] ∧ Below w.heap.size w wc) ⟨heap_at rfl, by go_grown⟩ ?_)
  rintro w0 ⟨A0, hB0⟩
  have cA := A0.cell
  have lA := A0.lt
  rcases Nat.lt_or_ge 20000 n with h | h
  · have h' : (20000 : Int) < n := by omega
    go_wp2_with fail
    refine (known_any _ (HT.out.below hB0 HT.out.1)).mono ?_
    rintro en w1 ⟨rfl, hb1⟩
    have hB1 := bnext hB0 hb1
    go_wp2_with fail
    go_returns
    exact ⟨rfl, hB1⟩
  · have h' : ¬ (20000 : Int) < n := by omega
    go_wp2_with fail
    refine (Put_any tag a n c l _ (HT.out.below hB0 HT.out.1) HL.out (by omega) HA.out ((HR.out.below hB0).more hB0.size)).mono ?_
    rintro en w1 ⟨v1, rfl, ho1, hb1⟩
    have hB1 := bnext hB0 hb1
    have s01 := hb1.size
    have s0 := hB0.size
    have A1 := Blk.below A0 hb1
    have hnb := numB_len l.length (by rw [HL.out]; omega)
    have hfl := Frm.frame_len tag l
    obtain ⟨fr, hfr⟩ : ∃ fr, 1 + (Frm.numB l.length).length = fr := ⟨_, rfl⟩
    obtain ⟨fl, hfl2⟩ : ∃ fl, (Frm.frame tag l).length = fl := ⟨_, rfl⟩
    have HF := Lib.hid (show fl = fr + n + 4 ∧ 2 ≤ fr ∧ fr ≤ 11 by rw [HL.out] at hfl hnb hfr; omega)
    have HFR := Lib.hid hfr
    have HFL := Lib.hid hfl2
    rw [hfl2] at ho1
    have h6 : (fl : Int) - 4 - (n : Int) = (fr : Int) := by have := HF.out; omega
    have h7 : ¬ (fl : Int) < 6 := by have := HF.out; omega
    have h8 : (fl : Int) - 4 - (n : Int) ≤ 9223372036854775807 := by have := HF.out; omega
    obtain ⟨gb, cb, csb, rfl, hgb, Ab, qb, _, hcb1, hcb2⟩ := own_blk ho1 (by have := HF.out; omega)
    have HQb := Lib.hid qb
    have lAb := Ab.lt
    have hflb : fl ≤ 30000 := by have := HF.out; omega
    clear hb1 ho1 qb hnb hfl hfr hfl2 hB0 A0 cA lA
    have cA := A1.cell
    have lA := A1.lt
    have ht : (Crc.num m).tmod (256 : Int) = Crc.num m % 256 := Int.tmod_eq_emod_of_nonneg (Crc.num_nonneg m)
    rcases Decidable.em (Crc.num m % (256 : Int) = 0) with hm | hm
    · have hm' : (Crc.num m % (256 : Int) == 0) = true := by simp [hm]
      clear hm
      have hBX := hB1
      have AX := A1
      have AbX := Ab
      clear hB1 A1 Ab
      obtain ⟨B, hB⟩ : ∃ B : Nat, B = 8 * (n + 4) := ⟨_, rfl⟩
      have e1 : 8 * ((fl : Int) - (fr : Int)) = (B : Int) := by have := HF.out; omega
      obtain ⟨r1, r2, t1, t2, t3, t4, t5⟩ := turn_at bit B (by omega)
      obtain ⟨r3, e2⟩ : ∃ r3 : Int, wrap64 (r1 + (B : Int)) = r3 := ⟨_, rfl⟩
      have e3 : r3.tmod (B : Int) = (r2 : Int) := by rw [← e2, ← t4]; congr 1; unfold wrap64; omega
      obtain ⟨p, hp⟩ : ∃ p : Nat, p = 8 * fr + r2 := ⟨_, rfl⟩
      have e4 : wrap64 (8 * (fr : Int) + (r2 : Int)) = (p : Int) := by have := HF.out; unfold wrap64; omega
      have HPP := Lib.hid (p_bd HF.out.2 h hB t5 hp)
      have e5 : ((B : Int) == 0) = false := by simp; omega
      have e6 : (fl : Int) - (fr : Int) ≤ 9223372036854775807 := by have := HF.out; omega
      clear t2 t3 t4 t5 hp hB
      go_wp2_with fail
      refine (spoil_any (some ⟨gb, 0, none⟩) fl cb (Frm.frame tag l) p m _ HFL.out (by have := HF.out; omega) (by omega) (by have := HPP.out; omega) (fun h => by cases h) (blk_rd AbX AbX.lt HQb.out)).mono ?_
      rintro en w5 ⟨gs, cs5, rest, rfl, hgs, hcs1, hcs2, As, hb5⟩
      have hB5 := bnext hBX hb5
      have Ab5 := Blk.below AbX hb5
      have hsl := Frm.spoil_len (Frm.frame tag l) p m 32
      rw [HFL.out] at hsl
      have HSP := Lib.hid (fun h => Frm.look_spoilt tag l (by rw [HL.out]; omega) p m (by rw [HFR.out]; exact HPP.out.1) h)
      generalize Frm.spoil (Frm.frame tag l) p m 32 = S at *
      have hqs : ∀ k z, S[k]? = some z → (S.map B8 ++ rest).toArray[0 + k]? = some (B8 z) := fun k z hz => by rw [Nat.zero_add]; exact get_text S rest k z hz
      have rs := blk_rd As As.lt hqs
      have rb := blk_rd Ab5 Ab5.lt HQb.out
      have v1 := conv_rd (some ⟨gs, 0, none⟩) fl cs5 S hsl w5 w5.heap.size rs
      have v2 := conv_rd (some ⟨gb, 0, none⟩) fl cb (Frm.frame tag l) HFL.out w5 w5.heap.size rb
      have HRS := Lib.hid rs
      clear rs rb hb5 e1 t1 e2 e3 e4 e5 e6 hqs
      rcases Decidable.em (S = Frm.frame tag l) with hS | hS
      · have hst : ((strOf S).toList == (strOf (Frm.frame tag l)).toList) = true := by rw [str_beq]; exact decide_eq_true hS
        clear hS
        go_wp2_with fail
        refine (known_any _ (HT.out.below hB5 HT.out.1)).mono ?_
        rintro en w6 ⟨rfl, hb6⟩
        have hB6 := bnext hB5 hb6
        clear v1 v2
        go_wp2_with fail
        go_returns
        exact ⟨rfl, hB6⟩
      · have hst : ((strOf S).toList == (strOf (Frm.frame tag l)).toList) = false := by rw [str_beq]; exact decide_eq_false hS
        have HLK := Lib.hid (HSP.out hS)
        clear hS
        go_wp2_with fail
        refine (Read_err (some ⟨gs, 0, none⟩) fl cs5 S 0 0 132 _ (HT.out.below hB5 HT.out.1) hsl (by omega) hcs1 hcs2 HRS.out HLK.out (by omega)).mono ?_
        rintro en w6 ⟨rfl, hb6⟩
        have hB6 := bnext hB5 hb6
        clear v1 v2 hb6
        go_wp2_with fail
        refine (known_any _ (HT.out.below (bnext hB6 (by go_grown)) HT.out.1)).mono ?_
        rintro en w7 ⟨rfl, hb7⟩
        have hB7 := bnext hB6 (bnext (by go_grown) hb7)
        clear hb7
        go_wp2_with fail
        go_returns
        exact ⟨rfl, hB7⟩
    · have hm' : (Crc.num m % (256 : Int) == 0) = false := by simp [hm]
      have hxl := xor_low tag m
      have HLN := Lib.hid (low_ne tag m hm)
      clear hm
      go_upto_region 8 with (fail)
      apply wp_region_lit
      iterate 1 (go_step; go_step; rename_i KK hKK; (with_reducible refine hKK _ _ ?_); clear hKK KK)
      (with_reducible refine append_own (w0 := w1) ?_ (.const (.slice none 0 0)) (.tmp 50) ?_ w1.heap.size (.slice none 0 0) (.slice none 0 0) 0 [] ?_ (World.ownsRow_nil _ _ _ _) (some ⟨gb, 0, none⟩) fl cb (Frm.frame tag l) ?_ (fun h => by cases h) HFL.out (blk_rd Ab lAb HQb.out) ?_ (Nat.le_refl _) (Own.of_below (Below.refl _ _) (Nat.le_refl _)) ?_)
      · rfl
      · rfl
      · rfl
      · rfl
      · omega
      intro v2 w2 ho2 hg2
      rw [Nat.zero_add, List.nil_append] at ho2
      have hB12 := hg2.1
      have hB2 := bnext hB1 hB12
      have A2 := Blk.below A1 hB12
      have Ab2 := Blk.below Ab hB12
      obtain ⟨gt, ct, cst, rfl, hgt, At, qt, _, hct1, hct2⟩ := own_blk ho2 (by have := HF.out; omega)
      have q0 : cst[0]? = some (B8 tag) := qt 0 tag (by rw [Frm.frame, Frm.head]; rfl)
      have QT := Lib.hid qt
      have e0 : w2.cell? ⟨gt, 0, none⟩ = some (B8 tag) := (At.cell 0).trans q0
      have f0 := At.free 0
      have lAt := At.lt
      have hfl0 : 0 < fl := by have := HF.out; omega
      have HLT := Lib.hid (And.intro lA lAb)
      clear ho2 hg2 qt q0 A1 Ab cA lA lAb
      go_wp2_with fail
      have HL2 := Lib.hid (Frm.look_tag tag (tag ^^^ Crc.byteAt m 0) l (by rw [HL.out]; omega) HLN.out)
      have hl2 : ((tag ^^^ Crc.byteAt m 0) :: (Frm.numB l.length ++ l) ++ Crc.bytes4 (Crc.more 0#32 (Frm.head tag l))).length = fl := by rw [← HFL.out, Frm.frame, Frm.head]; simp
      have At3 : Blk (w2.setCell ⟨gt, 0, none⟩ (.int .u8 ((tag.toNat ^^^ (Crc.byteAt m 0).toNat : Nat) : Int))) gt 5 (cst.setIfInBounds 0 (B8 (tag ^^^ Crc.byteAt m 0))) := by
        have hv : (Value.int .u8 ((tag.toNat ^^^ (Crc.byteAt m 0).toNat : Nat) : Int)) = B8 (tag ^^^ Crc.byteAt m 0) := by rw [← UInt8.toNat_xor]
        rw [hv]
        unfold Blk at At; simp (disch := (first | omega | (simp only [World.size_alloc, World.size_setCell, World.size_drew] <;> omega) | fail)) only [Blk, heap_old, heap_at, heap_set_same, heap_set_ne, heap_drew', Option.map_some, putO_cells, At]
      have q3 : ∀ k z, ((tag ^^^ Crc.byteAt m 0) :: (Frm.numB l.length ++ l) ++ Crc.bytes4 (Crc.more 0#32 (Frm.head tag l)))[k]? = some z → (cst.setIfInBounds 0 (B8 (tag ^^^ Crc.byteAt m 0)))[0 + k]? = some (B8 z) := fun k z hz => by
        have hs : 0 < cst.size := by
          have := QT.out 0 tag (by rw [Frm.frame, Frm.head]; rfl)
          exact (Array.getElem?_eq_some_iff.1 this).1
        cases k with
        | zero =>
          have : tag ^^^ Crc.byteAt m 0 = z := by simpa using hz
          subst this
          simp [hs]
        | succ k =>
          rw [Array.getElem?_setIfInBounds_ne (by omega)]
          refine QT.out (k + 1) z ?_
          rw [Frm.frame, Frm.head, List.cons_append, List.getElem?_cons_succ]
          rw [List.cons_append, List.getElem?_cons_succ] at hz
          exact hz
      have s2 := hB2.size
      have hB3 : Below w.heap.size w (w2.setCell ⟨gt, 0, none⟩ (.int .u8 ((tag.toNat ^^^ (Crc.byteAt m 0).toNat : Nat) : Int))) := by
        have hwg : w.heap.size ≤ gt := by omega
        exact hB2.trans (by go_grown)
      have A3 : Blk (w2.setCell ⟨gt, 0, none⟩ (.int .u8 ((tag.toNat ^^^ (Crc.byteAt m 0).toNat : Nat) : Int))) w.heap.size 35 #[B8 tag, .slice a n c] := (heap_set_ne _ _ _ _ _ (by have := HLT.out; omega)).trans A2
      have Ab3 : Blk (w2.setCell ⟨gt, 0, none⟩ (.int .u8 ((tag.toNat ^^^ (Crc.byteAt m 0).toNat : Nat) : Int))) gb 5 csb := (heap_set_ne _ _ _ _ _ (by have := HLT.out; omega)).trans Ab2
      refine (Read_err (some ⟨gt, 0, none⟩) fl ct _ 0 0 132 _ (HT.out.below hB3 HT.out.1) hl2 (by omega) hct1 hct2 (blk_rd At3 (by simpa using At.lt) q3) HL2.out (by omega)).mono ?_
      rintro en w4 ⟨rfl, hb4⟩
      have hB4 := bnext hB3 hb4
      have A4 := Blk.below A3 hb4
      have Ab4 := Blk.below Ab3 hb4
      clear hb4 At3 q3 A3 Ab3 e0 f0 At hB3 hB2 hB12 A2 Ab2 hxl
      go_upto_region 13 with (fail)
      (refine wp_at (fun wc => Blk wc w.heap.size 35 #[B8 tag, .slice a n c] ∧ Blk wc gb 5 csb ∧ Below w.heap.size w wc) ⟨Blk.below A4 (by go_grown), Blk.below Ab4 (by go_grown), bnext hB4 (by go_grown)⟩ ?_)
      rintro wX ⟨AX, AbX, hBX⟩
      clear A4 Ab4 hB4 hB1 lAt
      have cA := AX.cell
      obtain ⟨B, hB⟩ : ∃ B : Nat, B = 8 * (n + 4) := ⟨_, rfl⟩
      have e1 : 8 * ((fl : Int) - (fr : Int)) = (B : Int) := by have := HF.out; omega
      obtain ⟨r1, r2, t1, t2, t3, t4, t5⟩ := turn_at bit B (by omega)
      obtain ⟨r3, e2⟩ : ∃ r3 : Int, wrap64 (r1 + (B : Int)) = r3 := ⟨_, rfl⟩
      have e3 : r3.tmod (B : Int) = (r2 : Int) := by rw [← e2, ← t4]; congr 1; unfold wrap64; omega
      obtain ⟨p, hp⟩ : ∃ p : Nat, p = 8 * fr + r2 := ⟨_, rfl⟩
      have e4 : wrap64 (8 * (fr : Int) + (r2 : Int)) = (p : Int) := by have := HF.out; unfold wrap64; omega
      have HPP := Lib.hid (p_bd HF.out.2 h hB t5 hp)
      have e5 : ((B : Int) == 0) = false := by simp; omega
      have e6 : (fl : Int) - (fr : Int) ≤ 9223372036854775807 := by have := HF.out; omega
      clear t2 t3 t4 t5 hp hB
      go_wp2_with fail
      refine (spoil_any (some ⟨gb, 0, none⟩) fl cb (Frm.frame tag l) p m _ HFL.out (by have := HF.out; omega) (by omega) (by have := HPP.out; omega) (fun h => by cases h) (blk_rd AbX AbX.lt HQb.out)).mono ?_
      rintro en w5 ⟨gs, cs5, rest, rfl, hgs, hcs1, hcs2, As, hb5⟩
      have hB5 := bnext hBX hb5
      have Ab5 := Blk.below AbX hb5
      have hsl := Frm.spoil_len (Frm.frame tag l) p m 32
      rw [HFL.out] at hsl
      have HSP := Lib.hid (fun h => Frm.look_spoilt tag l (by rw [HL.out]; omega) p m (by rw [HFR.out]; exact HPP.out.1) h)
      generalize Frm.spoil (Frm.frame tag l) p m 32 = S at *
      have hqs : ∀ k z, S[k]? = some z → (S.map B8 ++ rest).toArray[0 + k]? = some (B8 z) := fun k z hz => by rw [Nat.zero_add]; exact get_text S rest k z hz
      have rs := blk_rd As As.lt hqs
      have rb := blk_rd Ab5 Ab5.lt HQb.out
      have v1 := conv_rd (some ⟨gs, 0, none⟩) fl cs5 S hsl w5 w5.heap.size rs
      have v2 := conv_rd (some ⟨gb, 0, none⟩) fl cb (Frm.frame tag l) HFL.out w5 w5.heap.size rb
      have HRS := Lib.hid rs
      clear rs rb hb5 e1 t1 e2 e3 e4 e5 e6 hqs
      rcases Decidable.em (S = Frm.frame tag l) with hS | hS
      · have hst : ((strOf S).toList == (strOf (Frm.frame tag l)).toList) = true := by rw [str_beq]; exact decide_eq_true hS
        clear hS
        go_wp2_with fail
        refine (known_any _ (HT.out.below hB5 HT.out.1)).mono ?_
        rintro en w6 ⟨rfl, hb6⟩
        have hB6 := bnext hB5 hb6
        clear v1 v2
        go_wp2_with fail
        go_returns
        exact ⟨rfl, hB6⟩
      · have hst : ((strOf S).toList == (strOf (Frm.frame tag l)).toList) = false := by rw [str_beq]; exact decide_eq_false hS
        have HLK := Lib.hid (HSP.out hS)
        clear hS
        go_wp2_with fail
        refine (Read_err (some ⟨gs, 0, none⟩) fl cs5 S 0 0 132 _ (HT.out.below hB5 HT.out.1) hsl (by omega) hcs1 hcs2 HRS.out HLK.out (by omega)).mono ?_
        rintro en w6 ⟨rfl, hb6⟩
        have hB6 := bnext hB5 hb6
        clear v1 v2 hb6
        go_wp2_with fail
        refine (known_any _ (HT.out.below (bnext hB6 (by go_grown)) HT.out.1)).mono ?_
        rintro en w7 ⟨rfl, hb7⟩
        have hB7 := bnext hB6 (bnext (by go_grown) hb7)
        clear hb7
        go_wp2_with fail
        go_returns
        exact ⟨rfl, hB7⟩
end Go.Proofs.YtolbmjilcngnhaaDoor
