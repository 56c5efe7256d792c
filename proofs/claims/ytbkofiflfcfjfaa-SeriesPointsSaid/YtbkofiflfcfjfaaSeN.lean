/- Series: the line through points, of the document. -/
import Derived.Test.YtbkofiflfcfjfaaSeL
set_option linter.unusedSimpArgs false
set_option linter.unusedVariables false
namespace Go.Proofs.Ytbkofiflfcfjfaa
open Go.RowKit Go.Kp Go.Ser
attribute [local go_sem] store_float

set_option maxHeartbeats 1000000 in
theorem refLine_none (a : Option Addr) (cap : Nat) (w : World) : Calls Try.prog 12 #[.slice a 0 cap] w (TrendR [] 0 w) := by
  go_enter Try.func12, Try.ntmps12
  go_wp2
  refine bodyPost_ret (v := trend 0 0 0 0 0 400) (by simp [results, Try.results12, go_sem, trend]; done) rfl ⟨0, 0, 0, 0, ⟨rfl, rfl, rfl, rfl⟩, rfl, by go_grown⟩

set_option maxHeartbeats 8000000 in
theorem refLine_some (a : Option Addr) (n cap : Nat) (l : List (Nat × Nat)) (w : World) (hl : l.length = n) (hn0 : 0 < n) (hn : n ≤ 1048576) (hr : Rd w w.heap.size a (pts l)) :
    Calls Try.prog 12 #[.slice a n cap] w (TrendR l n w) := by
  obtain ⟨hnp⟩ : Nonempty (n ≤ 4611686018427387904) := ⟨by omega⟩
  rcases hr with hr | ⟨b, off, rfl, hb, hc⟩
  · exact absurd hr (pts_ne hl hn0)
  have HC := Lib.hid hc
  have HL := Lib.hid hl
  have hq0 : ((n : Int) == 0) = false := by simp; omega
  clear hl hc
  go_enter Try.func12, Try.ntmps12
  go_upto_region 4 with (fail)
  refine wp_at (fun w1 => Blk w1 w.heap.size 31 #[.int .i64 0, .float .f64 0, .float .f64 0, .float .f64 0, .float .f64 0] ∧ Below w.heap.size w w1) ⟨heap_at rfl, by go_grown⟩ ?_
  rintro w1 ⟨A, hB1⟩
  have lA := A.lt
  have hs1 := hB1.size
  go_wp2
  go_loopw [4, 5, 6] (fun x y i wr => ∃ k : Nat, k ≤ n ∧ i = .int .i64 k ∧ Two w1.heap.size w1 wr x y k k ((l.take k).map Prod.fst) ((l.take k).map Prod.snd)) (fun _ _ i _ => n - (intOf i).toNat)
  case atStart => exact ⟨0, Nat.zero_le _, rfl, World.ownsRow_nil _ _ _ _, World.ownsRow_nil _ _ _ _, (fun g h => by simp [Value.ownBlock] at h), Below.refl _ _, Nat.le_refl _⟩
  case round =>
    obtain ⟨k, hk, rfl, hT⟩ := hrel
    have HT := Lib.hid hT
    have hB := hT.2.2.2.1
    have hsz := hT.2.2.2.2
    clear hT
    rcases Nat.lt_or_ge k n with hlt | hge
    · obtain ⟨p, hp⟩ : ∃ p, l[k]? = some p := ⟨_, List.getElem?_eq_getElem (by rw [HL.out]; exact hlt)⟩
      obtain ⟨e1, e2⟩ := pts_at hb (hB1.trans (hB.mono hs1)) HC.out hp
      have HPt := Lib.hid hp
      have HP := Lib.hid (take_pts hp)
      clear hp
      go_upto_region 7 with (fail)
      apply wp_region_lit
      iterate 7 (go_step; go_step; rename_i KK hKK; (with_reducible refine hKK _ _ ?_); clear hKK KK)
      (with_reducible refine append_fl2 ?_ (.tmp 25) (.tmp 31) ?_ w1.heap.size u4 k _ ?_ (HT.out.alloc _).o1 wr.heap.size p.1 1 ?_ ?_ ?_ ?_ ?_)
      · rfl
      · rfl
      · rfl
      · rfl
      · rw [cell_of_row _ _ _ _ _ _ (heap_at rfl)]; rfl
      · omega
      · simp; omega
      intro v1 w2 ho hg hv
      have HT2 := Lib.hid ((HT.out.alloc _).app1 ho.out hg.out hv.out)
      have hB2 := HT2.out.2.2.2.1
      have hsz2 := HT2.out.2.2.2.2
      clear e1 e2 ho hg hv
      obtain ⟨e1, e2⟩ := pts_at hb (hB1.trans (hB2.mono hs1)) HC.out HPt.out
      clear e1
      go_upto_region 8 with (fail)
      apply wp_region_lit
      iterate 7 (go_step; go_step; rename_i KK hKK; (with_reducible refine hKK _ _ ?_); clear hKK KK)
      (with_reducible refine append_fl2 ?_ (.tmp 33) (.tmp 39) ?_ w1.heap.size u5 k _ ?_ (HT2.out.alloc _).o2 w2.heap.size p.2 1 ?_ ?_ ?_ ?_ ?_)
      · rfl
      · rfl
      · rfl
      · rfl
      · rw [cell_of_row _ _ _ _ _ _ (heap_at rfl)]; rfl
      · omega
      · simp; omega
      intro v2 w3 ho hg hv
      have HT3 := Lib.hid ((HT2.out.alloc _).app2 ho.out hg.out hv.out)
      clear e2 ho hg hv
      go_wp2_with fail
      go_roundw
      case rel => exact ⟨k + 1, by omega, by go_num, by rw [HP.out.1, HP.out.2]; exact HT3.out⟩
      case measure => simp [intOf]; omega
    · obtain rfl : k = n := by omega
      have T0 := HT.out
      rw [List.take_of_length_le (by rw [HL.out]; omega)] at T0
      obtain ⟨a4, c4, rfl, _, _, r4⟩ := own_rd T0.o1
      obtain ⟨a5, c5, rfl, _, _, r5⟩ := own_rd T0.o2
      have L4 : Hid ((l.map Prod.fst).length = k) := Lib.hid (by simp [HL.out])
      have L5 : Hid ((l.map Prod.snd).length = k) := Lib.hid (by simp [HL.out])
      have A0 : Blk wr w.heap.size 31 #[.int .i64 0, .float .f64 0, .float .f64 0, .float .f64 0, .float .f64 0] := Blk.below A hB
      have R4 := Lib.hid r4
      have R5 := Lib.hid r5
      have HBw := Lib.hid (hB1.trans (hB.mono hs1))
      have HA := Lib.hid A0
      have HLin : Hid (∀ sl st mn sp, LineR (l.map Prod.fst) (l.map Prod.snd) sl st mn sp → LinE l k sl st mn sp) := Lib.hid fun sl st mn sp h => by unfold LinE; rw [if_neg (by omega)]; exact h
      have he : errE k = 0 := if_neg (by omega)
      clear A T0 r4 r5 hB A0 HT HC hB1
      generalize l.map Prod.fst = xs at *
      generalize l.map Prod.snd = ys at *
      go_wp2_with fail
      refine (refMean_any _ k _ xs _ L4.out (by omega) R4.out).mono ?_
      rintro en w2 ⟨ma, hMa, rfl, hb2⟩
      have Ma : Hid (MeanR xs ma) := Lib.hid (by unfold MeanE at hMa; rwa [if_neg (by rw [L4.out]; omega)] at hMa)
      have R4 := Lib.hid ((R4.out.below hb2).more hb2.size)
      have R5 := Lib.hid ((R5.out.below hb2).more hb2.size)
      have HB2 := Lib.hid (bnext HBw.out hb2)
      have HA := Lib.hid (HA.out.below hb2)
      clear hMa hb2
      rw [he]
      go_wp2_with fail
      refine (refMean_any _ k _ ys _ L5.out (by omega) R5.out).mono ?_
      rintro en w3 ⟨mb, hMb, rfl, hb3⟩
      have Mb : Hid (MeanR ys mb) := Lib.hid (by unfold MeanE at hMb; rwa [if_neg (by rw [L5.out]; omega)] at hMb)
      have R4 := Lib.hid ((R4.out.below hb3).more hb3.size)
      have R5 := Lib.hid ((R5.out.below hb3).more hb3.size)
      have HB3 := Lib.hid (bnext HB2.out hb3)
      have HA := Lib.hid (HA.out.below hb3)
      clear hMb hb3
      rw [he]
      clear he
      go_wp2_with fail
      refine (products_any _ _ k _ _ ma ma xs xs _ L4.out L4.out (by omega) R4.out R4.out).mono ?_
      rintro en w3a ⟨vps, ps, rfl, hpl, hP, hO, hb⟩
      obtain ⟨aps, cps, rfl, _, _, hrd⟩ := own_rd hO
      have HPps := Lib.hid hP
      have HLps := Lib.hid hpl
      have HRps := Lib.hid hrd
      have R4 := Lib.hid ((R4.out.below hb).more hb.size)
      have R5 := Lib.hid ((R5.out.below hb).more hb.size)
      have HBw3a := Lib.hid (bnext HB3.out hb)
      have HA := Lib.hid (HA.out.below hb)
      clear hP hpl hrd hO hb
      go_wp2_with fail
      refine (refSum_any _ k _ ps _ HLps.out (by omega) HRps.out).mono ?_
      rintro en w4 ⟨p, hq, rfl, hb⟩
      have Hp : Hid (AroundR xs xs ma ma p) := Lib.hid ⟨ps, HLps.out.trans L4.out.symm, HPps.out, hq⟩
      have R4 := Lib.hid ((R4.out.below hb).more hb.size)
      have R5 := Lib.hid ((R5.out.below hb).more hb.size)
      have HB4 := Lib.hid (bnext HBw3a.out hb)
      have HA := Lib.hid (HA.out.below hb)
      clear hq hb
      go_wp2_with fail
      refine (products_any _ _ k _ _ ma mb xs ys _ L4.out L5.out (by omega) R4.out R5.out).mono ?_
      rintro en w4a ⟨vqs, qs, rfl, hpl, hP, hO, hb⟩
      obtain ⟨aqs, cqs, rfl, _, _, hrd⟩ := own_rd hO
      have HPqs := Lib.hid hP
      have HLqs := Lib.hid hpl
      have HRqs := Lib.hid hrd
      have R4 := Lib.hid ((R4.out.below hb).more hb.size)
      have R5 := Lib.hid ((R5.out.below hb).more hb.size)
      have HBw4a := Lib.hid (bnext HB4.out hb)
      have HA := Lib.hid (HA.out.below hb)
      clear hP hpl hrd hO hb
      go_wp2_with fail
      refine (refSum_any _ k _ qs _ HLqs.out (by omega) HRqs.out).mono ?_
      rintro en w5 ⟨q, hq, rfl, hb⟩
      have Hq : Hid (AroundR xs ys ma mb q) := Lib.hid ⟨qs, HLqs.out.trans L4.out.symm, HPqs.out, hq⟩
      have R4 := Lib.hid ((R4.out.below hb).more hb.size)
      have R5 := Lib.hid ((R5.out.below hb).more hb.size)
      have HB5 := Lib.hid (bnext HBw4a.out hb)
      have HA := Lib.hid (HA.out.below hb)
      clear hq hb
      go_upto_region 14 with (fail)
      have HAT : Hid (w.heap.size < w5.heap.size) := Lib.hid HA.out.lt
      refine wp_at (fun Z => Blk Z w5.heap.size 31 #[.int .i64 k, .float .f64 0, .float .f64 0, .float .f64 mb, .float .f64 0] ∧ Below w5.heap.size w5 Z) ⟨?_, by go_grown⟩ ?_
      · go_simp; try (exact heap_at rfl)
      rintro w6 ⟨TB, hb6⟩
      have lT := TB.lt
      generalize w5.heap.size = T at *
      have HLn : Hid (∀ sl st x sp, SlopeR p q sl → Res .mul sl ma x → Res .sub mb x st → SpreadR ys sp → LinE l k sl st mb sp) := Lib.hid fun sl st x sp h1 h2 h3 h4 => HLin.out sl st mb sp ⟨ma, p, q, x, Ma.out, Mb.out, Hp.out, Hq.out, h1, h2, h3, h4⟩
      rcases Classical.em (FloatKind.f64.format.order p 0 = some .eq) with h0 | h0
      · obtain ⟨sl, hsl⟩ : ∃ sl : Nat, sl = 0 := ⟨0, rfl⟩
        have HSl : Hid (SlopeR p q sl) := Lib.hid (by unfold SlopeR; rw [if_pos h0]; exact hsl)
        have cT := TB.cell
        have fT := TB.free
        go_upto_region 16 with (fail)
        (with_reducible refine wp_at (fun Z => Blk Z T 31 #[.int .i64 k, .float .f64 sl, .float .f64 0, .float .f64 mb, .float .f64 0] ∧ Below T w5 Z) ?_ ?_)
        · exact ⟨by rw [hsl]; exact TB, hb6⟩
        clear hsl h0 cT fT TB hb6 lT
        intro w8 h8
        have TB8 := h8.1
        have hb8 := h8.2
        clear h8
        have lT := TB8.lt
        have c8 := TB8.cell
        have f8 := TB8.free
        obtain ⟨x1, w9, r9, s9, t9⟩ := mul_any w8 sl ma
        obtain ⟨st, w10, r10, s10, t10⟩ := sub_any w9 mb x1
        have TB10 : Blk w10 T 31 #[.int .i64 k, .float .f64 sl, .float .f64 0, .float .f64 mb, .float .f64 0] := by unfold Blk; rw [t10.out.heap, t9.out.heap]; exact TB8
        have hb10 := (hb8.trans (t9.out.below _)).trans (t10.out.below _)
        have lT10 := TB10.lt
        have c10 := TB10.cell
        have f10 := TB10.free
        clear hb8 TB8
        go_upto_region 18 with (fail)
        (with_reducible refine wp_at (fun Z => Blk Z T 31 #[.int .i64 k, .float .f64 sl, .float .f64 st, .float .f64 mb, .float .f64 0] ∧ Below T w5 Z) ?_ ?_)
        · refine ⟨?_, hb10.setCell (Nat.le_refl _) _⟩
          unfold Blk at TB10; simp (disch := (first | omega | (simp only [World.size_alloc, World.size_setCell, World.size_drew] <;> omega) | fail)) only [Blk, heap_old, heap_at, heap_set_same, heap_set_ne, heap_drew', Option.map_some, putO_cells, TB10]; simp; done
        intro w11 h11
        have TB11 := h11.1
        have hb11 := h11.2
        clear h11 hb10 TB10 c8 f8 c10 f10 lT lT10
        have HR11 := Lib.hid ((R5.out.below hb11).more (Nat.le_of_lt TB11.lt))
        have HB11 := Lib.hid hb11
        clear hb11
        go_wp2_with fail
        refine (refSpread_any _ k _ ys _ L5.out (by omega) HR11.out).mono ?_
        rintro en w12 ⟨sp, hSp, rfl, hb12⟩
        have Sp : Hid (SpreadR ys sp) := Lib.hid (by unfold SpreadE at hSp; rwa [if_neg (by rw [L5.out]; omega)] at hSp)
        have he : errE k = 0 := if_neg (by omega)
        rw [he]
        have TB12 : Blk w12 T 31 #[.int .i64 k, .float .f64 sl, .float .f64 st, .float .f64 mb, .float .f64 0] := Blk.below TB11 hb12
        have hbT : Below T w5 w12 := HB11.out.trans (hb12.mono (Nat.le_of_lt TB11.lt))
        have A12 : Blk w12 w.heap.size 31 #[.int .i64 0, .float .f64 0, .float .f64 0, .float .f64 0, .float .f64 0] := (hbT.block _ HAT.out).trans HA.out
        have HB12 := Lib.hid (HB5.out.trans (hbT.mono (Nat.le_of_lt HAT.out)))
        have lT := TB12.lt
        have c12 := TB12.cell
        have f12 := TB12.free
        have lA := A12.lt
        have cA := A12.cell
        have fA := A12.free
        clear hSp he hb12 TB11 hbT
        go_upto_region 19 with (fail)
        (with_reducible refine wp_at (fun Z => Blk Z T 31 #[.int .i64 k, .float .f64 sl, .float .f64 st, .float .f64 mb, .float .f64 sp] ∧ Blk Z w.heap.size 31 #[.int .i64 0, .float .f64 0, .float .f64 0, .float .f64 0, .float .f64 0] ∧ Below w.heap.size w Z) ?_ ?_)
        · refine ⟨?_, ?_, HB12.out.setCell (Nat.le_of_lt HAT.out) _⟩
          · unfold Blk at TB12; simp (disch := (first | omega | (simp only [World.size_alloc, World.size_setCell, World.size_drew] <;> omega) | fail)) only [Blk, heap_old, heap_at, heap_set_same, heap_set_ne, heap_drew', Option.map_some, putO_cells, TB12]; simp; done
          · unfold Blk at A12; rw [Blk, heap_set_ne _ _ _ _ _ (Nat.ne_of_lt HAT.out)]; exact A12
        intro w13 h13
        have TB13 := h13.1
        have A13 := h13.2.1
        have HB13 := Lib.hid h13.2.2
        clear h13 TB12 A12 c12 f12 cA fA lT lA
        have lT := TB13.lt
        have c13 := TB13.cell
        have f13 := TB13.free
        have lA := A13.lt
        have cA := A13.cell
        have fA := A13.free
        go_wp2_with fail
        generalize hZ : World.setCell _ ⟨w.heap.size, 4, none⟩ (Value.float .f64 sp) = Z
        have hZB : Blk Z w.heap.size 31 #[.int .i64 k, .float .f64 sl, .float .f64 st, .float .f64 mb, .float .f64 sp] := by
          subst hZ
          unfold Blk at A13
          simp (disch := (first | omega | (simp only [World.size_alloc, World.size_setCell, World.size_drew] <;> omega) | fail)) only [Blk, heap_old, heap_at, heap_set_same, heap_set_ne, heap_drew', Option.map_some, putO_cells, A13]
          simp
          done
        have hZW : Below w.heap.size w Z := by
          subst hZ
          have hb14 := HB13.out
          go_grown
        clear hZ
        have hZC := hZB.cell
        have hZL := hZB.lt
        refine bodyPost_ret (v := trend k sl st mb sp 0) (by simp [results, Try.results12, go_sem, trend, hZC, hZL]; done) rfl ⟨sl, st, mb, sp, HLn.out sl st x1 sp HSl.out s9.out s10.out Sp.out, by rw [show errE k = 0 from if_neg (by omega)], hZW⟩
      · have hq1 : (FloatKind.f64.format.order p 0 == some .eq) = false := by simpa using h0
        have hq2 : (FloatKind.f64.format.order p 0 != some .eq) = true := by simpa using h0
        obtain ⟨sl, w7, hrun, hres, hw⟩ := quo_any w6 q p
        have HSl : Hid (SlopeR p q sl) := Lib.hid (by unfold SlopeR; rw [if_neg h0]; exact hres.out)
        have TB7 : Blk w7 T 31 #[.int .i64 k, .float .f64 0, .float .f64 0, .float .f64 mb, .float .f64 0] := by unfold Blk; rw [hw.out.heap]; exact TB
        have hb7 := hb6.trans (hw.out.below _)
        have lT7 := TB7.lt
        have cT := TB7.cell
        have fT := TB7.free
        clear h0
        go_upto_region 16 with (fail)
        (with_reducible refine wp_at (fun Z => Blk Z T 31 #[.int .i64 k, .float .f64 sl, .float .f64 0, .float .f64 mb, .float .f64 0] ∧ Below T w5 Z) ?_ ?_)
        · refine ⟨?_, hb7.setCell (Nat.le_refl _) _⟩
          unfold Blk at TB7; simp (disch := (first | omega | (simp only [World.size_alloc, World.size_setCell, World.size_drew] <;> omega) | fail)) only [Blk, heap_old, heap_at, heap_set_same, heap_set_ne, heap_drew', Option.map_some, putO_cells, TB7]; simp; done
        clear hq1 hq2 cT fT TB7 TB hb7 hb6 lT lT7 hrun
        intro w8 h8
        have TB8 := h8.1
        have hb8 := h8.2
        clear h8
        have lT := TB8.lt
        have c8 := TB8.cell
        have f8 := TB8.free
        obtain ⟨x1, w9, r9, s9, t9⟩ := mul_any w8 sl ma
        obtain ⟨st, w10, r10, s10, t10⟩ := sub_any w9 mb x1
        have TB10 : Blk w10 T 31 #[.int .i64 k, .float .f64 sl, .float .f64 0, .float .f64 mb, .float .f64 0] := by unfold Blk; rw [t10.out.heap, t9.out.heap]; exact TB8
        have hb10 := (hb8.trans (t9.out.below _)).trans (t10.out.below _)
        have lT10 := TB10.lt
        have c10 := TB10.cell
        have f10 := TB10.free
        clear hb8 TB8
        go_upto_region 18 with (fail)
        (with_reducible refine wp_at (fun Z => Blk Z T 31 #[.int .i64 k, .float .f64 sl, .float .f64 st, .float .f64 mb, .float .f64 0] ∧ Below T w5 Z) ?_ ?_)
        · refine ⟨?_, hb10.setCell (Nat.le_refl _) _⟩
          unfold Blk at TB10; simp (disch := (first | omega | (simp only [World.size_alloc, World.size_setCell, World.size_drew] <;> omega) | fail)) only [Blk, heap_old, heap_at, heap_set_same, heap_set_ne, heap_drew', Option.map_some, putO_cells, TB10]; simp; done
        intro w11 h11
        have TB11 := h11.1
        have hb11 := h11.2
        clear h11 hb10 TB10 c8 f8 c10 f10 lT lT10
        have HR11 := Lib.hid ((R5.out.below hb11).more (Nat.le_of_lt TB11.lt))
        have HB11 := Lib.hid hb11
        clear hb11
        go_wp2_with fail
        refine (refSpread_any _ k _ ys _ L5.out (by omega) HR11.out).mono ?_
        rintro en w12 ⟨sp, hSp, rfl, hb12⟩
        have Sp : Hid (SpreadR ys sp) := Lib.hid (by unfold SpreadE at hSp; rwa [if_neg (by rw [L5.out]; omega)] at hSp)
        have he : errE k = 0 := if_neg (by omega)
        rw [he]
        have TB12 : Blk w12 T 31 #[.int .i64 k, .float .f64 sl, .float .f64 st, .float .f64 mb, .float .f64 0] := Blk.below TB11 hb12
        have hbT : Below T w5 w12 := HB11.out.trans (hb12.mono (Nat.le_of_lt TB11.lt))
        have A12 : Blk w12 w.heap.size 31 #[.int .i64 0, .float .f64 0, .float .f64 0, .float .f64 0, .float .f64 0] := (hbT.block _ HAT.out).trans HA.out
        have HB12 := Lib.hid (HB5.out.trans (hbT.mono (Nat.le_of_lt HAT.out)))
        have lT := TB12.lt
        have c12 := TB12.cell
        have f12 := TB12.free
        have lA := A12.lt
        have cA := A12.cell
        have fA := A12.free
        clear hSp he hb12 TB11 hbT
        go_upto_region 19 with (fail)
        (with_reducible refine wp_at (fun Z => Blk Z T 31 #[.int .i64 k, .float .f64 sl, .float .f64 st, .float .f64 mb, .float .f64 sp] ∧ Blk Z w.heap.size 31 #[.int .i64 0, .float .f64 0, .float .f64 0, .float .f64 0, .float .f64 0] ∧ Below w.heap.size w Z) ?_ ?_)
        · refine ⟨?_, ?_, HB12.out.setCell (Nat.le_of_lt HAT.out) _⟩
          · unfold Blk at TB12; simp (disch := (first | omega | (simp only [World.size_alloc, World.size_setCell, World.size_drew] <;> omega) | fail)) only [Blk, heap_old, heap_at, heap_set_same, heap_set_ne, heap_drew', Option.map_some, putO_cells, TB12]; simp; done
          · unfold Blk at A12; rw [Blk, heap_set_ne _ _ _ _ _ (Nat.ne_of_lt HAT.out)]; exact A12
        intro w13 h13
        have TB13 := h13.1
        have A13 := h13.2.1
        have HB13 := Lib.hid h13.2.2
        clear h13 TB12 A12 c12 f12 cA fA lT lA
        have lT := TB13.lt
        have c13 := TB13.cell
        have f13 := TB13.free
        have lA := A13.lt
        have cA := A13.cell
        have fA := A13.free
        go_wp2_with fail
        generalize hZ : World.setCell _ ⟨w.heap.size, 4, none⟩ (Value.float .f64 sp) = Z
        have hZB : Blk Z w.heap.size 31 #[.int .i64 k, .float .f64 sl, .float .f64 st, .float .f64 mb, .float .f64 sp] := by
          subst hZ
          unfold Blk at A13
          simp (disch := (first | omega | (simp only [World.size_alloc, World.size_setCell, World.size_drew] <;> omega) | fail)) only [Blk, heap_old, heap_at, heap_set_same, heap_set_ne, heap_drew', Option.map_some, putO_cells, A13]
          simp
          done
        have hZW : Below w.heap.size w Z := by
          subst hZ
          have hb14 := HB13.out
          go_grown
        clear hZ
        have hZC := hZB.cell
        have hZL := hZB.lt
        refine bodyPost_ret (v := trend k sl st mb sp 0) (by simp [results, Try.results12, go_sem, trend, hZC, hZL]; done) rfl ⟨sl, st, mb, sp, HLn.out sl st x1 sp HSl.out s9.out s10.out Sp.out, by rw [show errE k = 0 from if_neg (by omega)], hZW⟩
end Go.Proofs.Ytbkofiflfcfjfaa
