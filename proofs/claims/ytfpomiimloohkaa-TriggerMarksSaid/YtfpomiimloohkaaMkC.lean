/- A mark: the program's, walked. -/
import Derived.Test.YtfpomiimloohkaaMkB
import Derived.Test.YtfpomiimloohkaaTells
set_option linter.unusedSimpArgs false
set_option linter.unusedVariables false
namespace Go.Proofs.Ytfpomiimloohkaa
open Go.RowKit Go.Kp Go.So

/-- What a mark leaves. -/
def MarkP (B : Nat) (c : Conf) (key : ByteArray) (L : List Win) (fr up : Int) (w : World) (en : Ending) (w' : World) : Prop :=
  ∃ vo vp P, en = .returned (.tuple #[vo, vp]) ∧ Mk w' B vo vp (outsL c fr up L) P ∧ Ordered P (pansL key fr up L) ∧ Below B w w'

set_option maxRecDepth 100000 in
set_option maxHeartbeats 16000000 in
theorem mark_any (c : Conf) (key : ByteArray) (a : Option Addr) (n cap : Nat) (L : List Win) (fr up : Int) (w : World) (hl : L.length = n) (hn : n ≤ 2000000000000) (hok : ∀ x ∈ L, x.ok) (hla : I64 c.la) (hup : I64 up)
    (hr : Rd w w.heap.size a (L.flatMap Win.cl)) :
    Calls Try.prog 20 #[c.val, .string key, .slice a n cap, .int .i64 fr, .int .i64 up] w (MarkP w.heap.size c key L fr up w) := by
  have HR := Lib.hid hr
  have HL := Lib.hid hl
  have HOK := Lib.hid hok
  have HI := Lib.hid (And.intro hla hup)
  clear hr hl hok hla hup
  go_enter Try.func20, Try.ntmps20
  go_wp2_with fail
  go_loopw [12, 13, 21] (fun vo vp vi wr => ∃ (k : Nat), vi = .int .i64 k ∧ k ≤ n ∧ Mk wr (w.heap.size + 1) vo vp (outsL c fr up (L.take k)) (pansL key fr up (L.take k)) ∧ Blk wr w.heap.size 24 c.cells ∧ Below w.heap.size w wr) (fun _ _ vi _ => n - (intOf vi).toNat)
  case atStart =>
    refine ⟨0, rfl, Nat.zero_le _, ⟨?_, ?_, ⟨_, rfl⟩, ⟨_, rfl⟩⟩, ?_, by go_grown⟩
    · exact World.ownsRow.alloc (own_none _ _ (w.heap.size + 1) 9 (w.heap.size + 1) (by simp) (Nat.le_refl _)) _
    · exact own_none _ _ (w.heap.size + 1) 9 (w.heap.size + 1 + 1) (by simp) (Nat.le_succ _)
    · exact Blk_alloc (Blk_alloc (heap_at rfl) _) _
  case round =>
    rename World => wr
    obtain ⟨k, rfl, hk, hM, hC, hB⟩ := hrel
    have HM := Lib.hid hM
    have HC := Lib.hid hC
    have HB := Lib.hid hB
    have hsz := hB.size
    have hlc := hC.lt
    clear hM hC hB
    rcases Nat.lt_or_ge k n with hlt | hge
    · obtain ⟨x, hx⟩ : ∃ x, L[k]? = some x := ⟨_, List.getElem?_eq_getElem (by rw [HL.out]; exact hlt)⟩
      have HX := Lib.hid hx
      have HXO := Lib.hid (HOK.out x (List.mem_of_getElem? hx))
      rcases HR.out with hr | ⟨b, off, rfl, hbl, hcc⟩
      · have h := flat_length Win.cl 9 Win.len L
        rw [hr, HL.out] at h
        simp at h
        omega
      have e := fun j hj => (HB.out.cell (p := ⟨b, off + (k * 9 + j), none⟩) hbl).trans (win_cells hcc k x hx j hj)
      have e0 := e 0 (by omega)
      have e1 := e 1 (by omega)
      have e2 := e 2 (by omega)
      have e3 := e 3 (by omega)
      have e4 := e 4 (by omega)
      have e5 := e 5 (by omega)
      have e6 := e 6 (by omega)
      have e7 := e 7 (by omega)
      have e8 := e 8 (by omega)
      have hbw : b < wr.heap.size := by omega
      clear e hx hcc
      simp only [← Nat.add_assoc, Nat.add_zero, List.getElem?_cons_zero, List.getElem?_cons_succ] at e0 e1 e2 e3 e4 e5 e6 e7 e8
      have kin : (k : Int) < (n : Int) := by omega
      go_wp2_with fail
      refine (onTime_any x fr up _).mono ?_
      rintro en w1 ⟨rfl, hb1⟩
      obtain ⟨h, hh⟩ : ∃ h, wr.heap.size = h := ⟨_, rfl⟩
      have sz1 := hb1.size
      have H15 := Lib.hid (show Blk w1 h 30 x.cells from Blk.below (by subst hh; exact (heap_old (by simp)).trans (heap_at rfl)) hb1)
      have H16 := Lib.hid (show Blk w1 (h + 1) 65 (x.blk (.slice none 0 0)) from Blk.below (by subst hh; exact heap_at (by simp)) hb1)
      have HC1 := Lib.hid (show Blk w1 w.heap.size 24 c.cells from Blk.below (Blk_alloc (Blk_alloc HC.out _) _) hb1)
      have HM1 := Lib.hid (show Mk w1 (w.heap.size + 1) u12 u13 (outsL c fr up (L.take k)) (pansL key fr up (L.take k)) from ((HM.out.alloc _).alloc _).keep (fun g _ hg => hb1.block g hg))
      have HB1 := Lib.hid (show Below w.heap.size w w1 by have hB := HB.out; exact bnext (by go_grown) hb1)
      have PL := Lib.hid (show (outsL c fr up (L.take k)).length ≤ k ∧ (pansL key fr up (L.take k)).length ≤ k from ⟨Nat.le_trans outsL_len (by simp; omega), Nat.le_trans pansL_len (by simp; omega)⟩)
      have hwh : w.heap.size + 1 ≤ h := by omega
      have hh1 : h + 1 < w1.heap.size := by simp at sz1; omega
      clear hb1 HM HC HB hlc sz1 e0 e1 e2 e3 e4 e5 e6 e7 e8 hbw
      cases hon : onT fr up x
      · have ho : (decide (fr < x.e) && decide (x.e ≤ up)) = false := hon
        have HON := Lib.hid hon
        clear hon
        rw [ho]
        have HM2 := HM1
        have HC2 := HC1
        have HB2 := HB1
        have H15a := H15
        have H16b := H16
        have HRD := Lib.hid (show Rd w1 w1.heap.size none (List.flatMap Pa.cells ([] : List Pa)) from .inl rfl)
        clear HM1 HC1 HB1 H15 H16 ho
        have g16 := H16b.out.cell 9
        have l16 := H16b.out.lt
        simp only [Win.blk, List.getElem?_toArray, List.getElem?_cons_zero, List.getElem?_cons_succ] at g16
        go_upto_region 9 with (fail)
        apply wp_region_lit
        iterate 3 (go_step; go_step; rename_i KK hKK; (with_reducible refine hKK _ _ ?_); clear hKK KK)
        refine append_rd rfl (.tmp 35) (.tmp 37) 46 37 _ 9 80 info37 Try.underlying46 rfl (by omega) rfl (w.heap.size + 1) u13 _ _ rfl HM2.out.wp none 0 0 (List.flatMap Pa.cells ([] : List Pa)) rfl (fun h => rfl) (by simp) HRD.out (Pa.one (l := ([] : List Pa))) (by have := PL.out; unfold maxLen; omega) (by have := PL.out; omega) (by have := HB2.out.size; omega) ?_
        intro v3 w3 ho3 hg3 hv3
        have HM3 := Lib.hid (Mk.panes (P' := pansL key fr up (L.take k) ++ ([] : List Pa)) HM2.out (by rw [List.length_append, List.flatMap_append]; exact ho3) hg3 hv3)
        have HC3 := Lib.hid (HC2.out.grown hg3 (Ne.symm (own_apart HM2.out.wp HC2.out (by decide))))
        have H15b := Lib.hid (H15a.out.grown hg3 (Ne.symm (own_apart HM2.out.wp H15a.out (by decide))))
        have H16c := Lib.hid (H16b.out.grown hg3 (Ne.symm (own_apart HM2.out.wp H16b.out (by decide))))
        have HB3 := Lib.hid (HB2.out.grown hg3 (by have := HB2.out.size; omega) (fun q hq => by have := (HM2.out.wp.lt q hq).1; omega))
        clear ho3 hg3 hv3 g16 l16 H16b H15a HC2 HM2 HB2 HRD
        have g15 := H15b.out.cell
        have l15 := H15b.out.lt
        have c3 := HC3.out.cell
        have l3 := HC3.out.lt
        go_wp2_with fail
        refine (over_any x.s x.e c.la up _ HXO.out.2.1 HI.out.1 HI.out.2).mono ?_
        rintro en w4 ⟨rfl, hb4⟩
        have HM4 := Lib.hid (HM3.out.keep (fun g _ hg => hb4.block g hg))
        have HC4 := Lib.hid (HC3.out.below hb4)
        have H16b := Lib.hid (H16c.out.below hb4)
        have HB4 := Lib.hid (HB3.out.trans (hb4.mono HB3.out.size))
        clear hb4 HM3 HC3 H16c HB3 H15b g15 l15 c3 l3
        cases hov : ovT c.la up x
        · have hvv : decide (x.e + c.la ≤ up) = false := hov
          have HOV := Lib.hid hov
          clear hov
          rw [hvv]
          have g16 := H16b.out.cell
          have l16 := H16b.out.lt
          simp only [Win.blk, List.getElem?_toArray] at g16
          go_upto_region 11 with (fail)
          apply wp_region_lit
          iterate 4 (go_step; go_step; rename_i KK hKK; (with_reducible refine hKK _ _ ?_); clear hKK KK)
          refine append_rd rfl (.tmp 46) (.tmp 49) 52 30 _ 9 72 infoW Try.underlying52 rfl (by omega) rfl (w.heap.size + 1) u12 _ _ rfl (HM4.out.wo.alloc _) (some ⟨w4.heap.size, 0, none⟩) 1 1 x.cl rfl (fun h => by cases h) rfl ?_ (fun u hu => Win.one (l := [x]) u (by simpa using hu)) (by have := PL.out; unfold maxLen; omega) (by have := PL.out; omega) (by have := HB4.out.size; simp; omega) ?_
          · exact .inr ⟨w4.heap.size, 0, rfl, by simp, fun j u hu => by
              rw [Nat.zero_add]
              have hb : Blk (w4.alloc (.cells x.cells 30 (0, 0))) w4.heap.size 30 x.cells := heap_at rfl
              exact (hb.cell j).trans (by simpa using hu)⟩
          intro v5 w5 ho5 hg5 hv5
          have HM5 := Lib.hid (Mk.wins (O' := outsL c fr up (L.take k) ++ [x]) (HM4.out.alloc _) (by rw [List.length_append, List.flatMap_append]; simpa using ho5) hg5 hv5)
          have HC5 := Lib.hid ((Blk_alloc HC4.out _).grown hg5 (Ne.symm (own_apart HM4.out.wo HC4.out (by decide))))
          have HB5 := Lib.hid (HB4.out.trans ((show Below w4.heap.size w4 (w4.alloc (.cells x.cells 30 (0, 0))) by go_grown).mono HB4.out.size) |>.grown hg5 (by have := HB4.out.size; simp; omega) (fun q hq => by have := (HM4.out.wo.lt q hq).1; omega))
          clear ho5 hg5 hv5
          go_wp2_with fail
          go_roundw
          case rel =>
            refine ⟨k + 1, by go_num, by omega, ?_, HC5.out, HB5.out⟩
            have h := HM5.out
            rw [take_snoc HX.out, outsL_snoc, pansL_snoc, if_neg (by rw [HOV.out]; simp), HON.out, twin_off HON.out]
            exact h
          case measure => simp [intOf]; omega
        · have hvv : decide (x.e + c.la ≤ up) = true := hov
          have HOV := Lib.hid hov
          clear hov
          rw [hvv]
          go_wp2_with fail
          go_roundw
          case rel =>
            refine ⟨k + 1, by go_num, by omega, ?_, HC4.out, HB4.out⟩
            have h := HM4.out
            rw [take_snoc HX.out, outsL_snoc, pansL_snoc, if_pos HOV.out, HON.out, List.append_nil]
            exact h
          case measure => simp [intOf]; omega
      · have ho : (decide (fr < x.e) && decide (x.e ≤ up)) = true := hon
        have HON := Lib.hid hon
        clear hon
        have c1 := HC1.out.cell
        have l1 := HC1.out.lt
        go_wp2_with fail
        refine (tell_any (h + 1) key x 2 c.di _ HXO.out H16.out).mono ?_
        rintro en w2 ⟨rfl, ht⟩
        obtain ⟨p, pc, hg, hp1, hp2, hcap, hown, hgr⟩ := ht.facts
        clear ht
        have H16b := Lib.hid (show Blk w2 (h + 1) 65 ((told x c.di).blk (.slice (some ⟨p, 0, none⟩) 1 pc)) from hg)
        have HC2 := Lib.hid (HC1.out.grown hgr (by intro e; injection e; omega))
        have H15a := Lib.hid (H15.out.grown hgr (by intro e; injection e; omega))
        have HM2 := Lib.hid (HM1.out.kept hgr (fun g hg => by cases hg; exact ⟨own_apart HM1.out.wo H16.out (by decide), own_apart HM1.out.wp H16.out (by decide)⟩))
        have HB2 := Lib.hid (HB1.out.grown hgr (by have := HB1.out.size; omega) (fun q hq => by cases hq; omega))
        have HRD := Lib.hid (show Rd w2 w2.heap.size (some ⟨p, 0, none⟩) (List.flatMap Pa.cells [paneW key x]) from .inr ⟨p, 0, rfl, hp2, fun j u hu => by
          rw [Nat.zero_add]
          have hj : j < 1 * 9 := by have := (List.getElem?_eq_some_iff.1 hu).1; simpa using this
          exact (hown.cellAt j hj).trans (by simpa [paneW, paneOf] using hu)⟩)
        clear hg hown hgr HM1 HC1 HB1 H15 H16 ho c1 l1
        have g16 := H16b.out.cell 9
        have l16 := H16b.out.lt
        simp only [Win.blk, List.getElem?_toArray, List.getElem?_cons_zero, List.getElem?_cons_succ] at g16
        go_upto_region 9 with (fail)
        apply wp_region_lit
        iterate 3 (go_step; go_step; rename_i KK hKK; (with_reducible refine hKK _ _ ?_); clear hKK KK)
        refine append_rd rfl (.tmp 35) (.tmp 37) 46 37 _ 9 80 info37 Try.underlying46 rfl (by omega) rfl (w.heap.size + 1) u13 _ _ rfl HM2.out.wp (some ⟨p, 0, none⟩) 1 pc (List.flatMap Pa.cells [paneW key x]) rfl (fun h => by cases h) (by simp) HRD.out (Pa.one (l := [paneW key x])) (by have := PL.out; unfold maxLen; omega) (by have := PL.out; omega) (by have := HB2.out.size; omega) ?_
        intro v3 w3 ho3 hg3 hv3
        have HM3 := Lib.hid (Mk.panes (P' := pansL key fr up (L.take k) ++ [paneW key x]) HM2.out (by rw [List.length_append, List.flatMap_append]; exact ho3) hg3 hv3)
        have HC3 := Lib.hid (HC2.out.grown hg3 (Ne.symm (own_apart HM2.out.wp HC2.out (by decide))))
        have H15b := Lib.hid (H15a.out.grown hg3 (Ne.symm (own_apart HM2.out.wp H15a.out (by decide))))
        have H16c := Lib.hid (H16b.out.grown hg3 (Ne.symm (own_apart HM2.out.wp H16b.out (by decide))))
        have HB3 := Lib.hid (HB2.out.grown hg3 (by have := HB2.out.size; omega) (fun q hq => by have := (HM2.out.wp.lt q hq).1; omega))
        clear ho3 hg3 hv3 g16 l16 H16b H15a HC2 HM2 HB2 HRD
        have g15 := H15b.out.cell
        have l15 := H15b.out.lt
        have c3 := HC3.out.cell
        have l3 := HC3.out.lt
        go_wp2_with fail
        refine (over_any x.s x.e c.la up _ HXO.out.2.1 HI.out.1 HI.out.2).mono ?_
        rintro en w4 ⟨rfl, hb4⟩
        have HM4 := Lib.hid (HM3.out.keep (fun g _ hg => hb4.block g hg))
        have HC4 := Lib.hid (HC3.out.below hb4)
        have H16b := Lib.hid (H16c.out.below hb4)
        have HB4 := Lib.hid (HB3.out.trans (hb4.mono HB3.out.size))
        clear hb4 HM3 HC3 H16c HB3 H15b g15 l15 c3 l3
        cases hov : ovT c.la up x
        · have hvv : decide (x.e + c.la ≤ up) = false := hov
          have HOV := Lib.hid hov
          clear hov
          rw [hvv]
          have g16 := H16b.out.cell
          have l16 := H16b.out.lt
          simp only [Win.blk, List.getElem?_toArray] at g16
          go_upto_region 11 with (fail)
          apply wp_region_lit
          iterate 4 (go_step; go_step; rename_i KK hKK; (with_reducible refine hKK _ _ ?_); clear hKK KK)
          refine append_rd rfl (.tmp 46) (.tmp 49) 52 30 _ 9 72 infoW Try.underlying52 rfl (by omega) rfl (w.heap.size + 1) u12 _ _ rfl (HM4.out.wo.alloc _) (some ⟨w4.heap.size, 0, none⟩) 1 1 (told x c.di).cl rfl (fun h => by cases h) rfl ?_ (fun u hu => Win.one (l := [(told x c.di)]) u (by simpa using hu)) (by have := PL.out; unfold maxLen; omega) (by have := PL.out; omega) (by have := HB4.out.size; simp; omega) ?_
          · exact .inr ⟨w4.heap.size, 0, rfl, by simp, fun j u hu => by
              rw [Nat.zero_add]
              have hb : Blk (w4.alloc (.cells (told x c.di).cells 30 (0, 0))) w4.heap.size 30 (told x c.di).cells := heap_at rfl
              exact (hb.cell j).trans (by simpa using hu)⟩
          intro v5 w5 ho5 hg5 hv5
          have HM5 := Lib.hid (Mk.wins (O' := outsL c fr up (L.take k) ++ [(told x c.di)]) (HM4.out.alloc _) (by rw [List.length_append, List.flatMap_append]; simpa using ho5) hg5 hv5)
          have HC5 := Lib.hid ((Blk_alloc HC4.out _).grown hg5 (Ne.symm (own_apart HM4.out.wo HC4.out (by decide))))
          have HB5 := Lib.hid (HB4.out.trans ((show Below w4.heap.size w4 (w4.alloc (.cells (told x c.di).cells 30 (0, 0))) by go_grown).mono HB4.out.size) |>.grown hg5 (by have := HB4.out.size; simp; omega) (fun q hq => by have := (HM4.out.wo.lt q hq).1; omega))
          clear ho5 hg5 hv5
          go_wp2_with fail
          go_roundw
          case rel =>
            refine ⟨k + 1, by go_num, by omega, ?_, HC5.out, HB5.out⟩
            have h := HM5.out
            rw [take_snoc HX.out, outsL_snoc, pansL_snoc, if_neg (by rw [HOV.out]; simp), HON.out, twin_on HON.out]
            exact h
          case measure => simp [intOf]; omega
        · have hvv : decide (x.e + c.la ≤ up) = true := hov
          have HOV := Lib.hid hov
          clear hov
          rw [hvv]
          go_wp2_with fail
          go_roundw
          case rel =>
            refine ⟨k + 1, by go_num, by omega, ?_, HC4.out, HB4.out⟩
            have h := HM4.out
            rw [take_snoc HX.out, outsL_snoc, pansL_snoc, if_pos HOV.out, HON.out, List.append_nil]
            exact h
          case measure => simp [intOf]; omega
    · obtain rfl : k = n := by omega
      have HM2 := Lib.hid (show Mk wr (w.heap.size + 1) u12 u13 (outsL c fr up L) (pansL key fr up L) by have h := HM.out; rwa [List.take_of_length_le (by rw [HL.out]; exact Nat.le_refl _)] at h)
      clear HM HC hlc
      obtain ⟨g, hg⟩ := HM2.out.bp
      obtain ⟨pc, rfl, hc1, hc2, hg1, hg2⟩ := own_at HM2.out.wp hg
      obtain ⟨d, hR, hseg, hback⟩ := row_of_own HM2.out.wp rfl
      have HG := Lib.hid (And.intro hg (And.intro hg1 (And.intro hc1 hc2)))
      have HRW := Lib.hid (And.intro hR (And.intro hseg hback))
      have hN : (pansL key fr up L).length ≤ k := Nat.le_trans pansL_len (by rw [HL.out]; exact Nat.le_refl _)
      generalize hPN : (pansL key fr up L).length = N at hN HRW hback hseg hR
      have kin : ¬ (k : Int) < (k : Int) := by omega
      clear hg hg1 hc1 hc2 hR hseg hback
      go_upto_region 13 with (fail)
      go_wp2_with fail
      refine (sort_any HRW.out.1 pc (by omega)).mono ?_
      rintro en w2 ⟨rfl, d2, hR2, hU2, hS2, hF2⟩
      have hgb : wr.grownBy w2 (some g) := ⟨hF2.os, hF2.tape, hF2.output, hF2.size, fun q hq hne => hF2.block q hq (fun e => hne (by rw [e]))⟩
      have hlen : (seg d2 0 N).length = N := by rw [seg_len]; omega
      have hp := HRW.out.2.2 w2 d2 hR2 (hS2.off N (.inr (Nat.le_refl _)))
      have HM3 : Hid (Mk w2 w.heap.size u12 (.slice (some ⟨g, 0, none⟩) N pc) (outsL c fr up L) (seg d2 0 N)) := Lib.hid ⟨owns_mono (HM2.out.wo.kept hgb (.inr (by have h := HM2.out.apart; rw [HG.out.1] at h; exact h))) (Nat.le_succ _), by rw [hlen]; exact owns_mono hp (Nat.le_succ _), HM2.out.bo, ⟨g, rfl⟩⟩
      have HOR : Hid (Ordered (seg d2 0 N) (pansL key fr up L)) := Lib.hid ⟨hU2.pair, fun q => by rw [hS2.fil q, HRW.out.2.1]⟩
      have HB2 := Lib.hid (HB.out.trans (hF2.below (B := w.heap.size) (fun q hq => by have := HG.out.2.1; omega) hsz))
      clear hR2 hU2 hS2 hF2 hgb hp HRW HM2
      go_wp2_with fail
      go_returns
      exact ⟨u12, _, _, rfl, HM3.out, HOR.out, HB2.out⟩
end Go.Proofs.Ytfpomiimloohkaa
