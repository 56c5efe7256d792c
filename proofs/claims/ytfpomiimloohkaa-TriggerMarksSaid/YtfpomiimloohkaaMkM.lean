/- TriggerMarks: the walk. -/
import Derived.Test.YtfpomiimloohkaaMkT
set_option linter.unusedSimpArgs false
set_option linter.unusedVariables false
namespace Go.Proofs.Ytfpomiimloohkaa
open Go.RowKit Go.Kp Go.So

theorem flat_mark {w : World} {B g n : Nat} {L : List Win} (h : Rd w B (some ⟨g, 0, none⟩) ((L ++ [Win.mark]).flatMap Win.cl)) (hl : L.length = n) : g < B ∧ w.cell? ⟨g, n * 9 + 2, none⟩ = some (.int .i64 (-771)) := by
  rcases h with h | ⟨b, off, h1, h2, h3⟩
  · have h4 := flat_length Win.cl 9 Win.len (L ++ [Win.mark])
    rw [h] at h4
    simp at h4
  · cases h1
    refine ⟨h2, ?_⟩
    have h4 := flat_get Win.cl 9 Win.len (L ++ [Win.mark]) n 2 Win.mark (by rw [← hl]; simp) (by omega)
    have h5 := h3 (n * 9 + 2) _ h4
    rw [Nat.zero_add] at h5
    exact h5

set_option maxRecDepth 100000 in
set_option maxHeartbeats 16000000 in
theorem marks (c : Conf) (key : ByteArray) (a : Option Addr) (n cap : Nat) (L : List Win) (fr up : Int) (w : World) (hl : L.length = n) (hn : n ≤ 1999999999000) (hok : ∀ x ∈ L, x.ok) (hla : I64 c.la) (hup : I64 up) (hnil : a = none → cap = 0)
    (hr : Rd w w.heap.size a (L.flatMap Win.cl)) :
    Calls Try.prog 6 #[c.val, .string key, .slice a n cap, .agg #[.int .i64 fr, .int .i64 up]] w (Ret (.bool true) w) := by
  have HL := Lib.hid hl
  have HOK := Lib.hid hok
  have HI := Lib.hid (And.intro hla hup)
  have HA := Lib.hid hnil
  have HR := Lib.hid hr
  have hn2 : n ≤ 2000000000000 := by omega
  clear hl hok hla hup hr hnil
  go_enter Try.func6, Try.ntmps6
  go_wp2_with fail
  have hr1 : Rd ((w.alloc (.cells c.cells 24 (0, 0))).alloc (.cells #[.int .i64 fr, .int .i64 up] 53 (0, 0))) (w.heap.size + 1 + 1) a (L.flatMap Win.cl) := (HR.out.below (by go_grown)).more (by omega)
  refine (lent_any a n cap L _ HL.out hn2 HA.out (by simpa using hr1)).mono ?_
  clear hr1
  rintro en w1 ⟨g, cm, rfl, hcm1, hcm2, hm1, hb1⟩
  have HM1 := Lib.hid hm1
  have HB1 := Lib.hid (show Below w.heap.size w w1 from bnext (by go_grown) hb1)
  have D0 := Lib.hid (show Blk w1 w.heap.size 24 c.cells from Blk.below (by simp (disch := (first | omega | (simp only [World.size_alloc, World.size_setCell, World.size_drew] <;> omega) | fail)) only [Blk, heap_old, heap_at, heap_set_same, heap_set_ne, heap_drew', Option.map_some, putO_cells]) hb1)
  have D1 := Lib.hid (show Blk w1 (w.heap.size + 1) 53 #[.int .i64 fr, .int .i64 up] from Blk.below (by simp (disch := (first | omega | (simp only [World.size_alloc, World.size_setCell, World.size_drew] <;> omega) | fail)) only [Blk, heap_old, heap_at, heap_set_same, heap_set_ne, heap_drew', Option.map_some, putO_cells]) hb1)
  clear hb1 hm1
  have HR1 := Lib.hid ((HR.out.below HB1.out).more HB1.out.size)
  have c0 := D0.out.cell
  have c1 := D1.out.cell
  have l0 := D0.out.lt
  have l1 := D1.out.lt
  go_wp2_with fail
  refine (mark_any c key (some ⟨g, 0, none⟩) n cm L fr up _ HL.out hn2 HOK.out HI.out.1 HI.out.2 (Rd.front9 HM1.out)).mono ?_
  rintro en w2 ⟨va, vp, P, rfl, hMa, hOa, hb2⟩
  have s2 := hb2.size
  have D0b := Lib.hid (D0.out.below hb2)
  have D1b := Lib.hid (D1.out.below hb2)
  have HM2 := Lib.hid (HM1.out.below hb2)
  have HR2 := Lib.hid (HR1.out.below hb2)
  have HMa := Lib.hid hMa
  have HOa := Lib.hid hOa
  have HB2 := Lib.hid hb2
  clear c0 c1 l0 l1 hMa hOa hb2
  have c0 := D0b.out.cell
  have c1 := D1b.out.cell
  have l0 := D0b.out.lt
  have l1 := D1b.out.lt
  go_wp2_with fail
  refine (mark_any c key (some ⟨g, 0, none⟩) n cm L fr up _ HL.out hn2 HOK.out HI.out.1 HI.out.2 ((Rd.front9 HM2.out).more s2)).mono ?_
  rintro en w3 ⟨vb, vq, P', rfl, hMb, hOb, hb3⟩
  obtain rfl : P' = P := hOb.one HOa.out
  have s3 := hb3.size
  have D0c := Lib.hid (D0b.out.below hb3)
  have D1c := Lib.hid (D1b.out.below hb3)
  have HM3 := Lib.hid ((HM2.out.more s2).below hb3)
  have HR3 := Lib.hid ((HR2.out.more s2).below hb3)
  have HMb := Lib.hid hMb
  have HB3 := Lib.hid hb3
  clear c0 c1 l0 l1 hMb hOb hb3
  have c0 := D0c.out.cell
  have c1 := D1c.out.cell
  have l0 := D0c.out.lt
  have l1 := D1c.out.lt
  go_wp2_with fail
  refine (refMark_any c key a n cap L fr up _ HL.out hn2 HOK.out HI.out.1 HI.out.2 HA.out (HR3.out.more s3)).mono ?_
  rintro en w4 ⟨vw, vs, P'', rfl, hW4, hS4, hOc, hb4⟩
  obtain rfl : P'' = P' := hOc.one HOa.out
  have s4 := hb4.size
  have hNb : (outsL c fr up L).length ≤ n := by rw [← HL.out]; exact outsL_len
  have hMb' : P''.length ≤ n := by rw [Ordered.same hOc, ← HL.out]; exact pansL_len
  obtain ⟨ga, hga⟩ := HMa.out.bo
  obtain ⟨ca, rfl, _, _, ga1, ga2⟩ := own_at HMa.out.wo hga
  obtain ⟨gp, hgp⟩ := HMa.out.bp
  obtain ⟨cp, rfl, _, _, gp1, gp2⟩ := own_at HMa.out.wp hgp
  obtain ⟨gb, hgb⟩ := HMb.out.bo
  obtain ⟨cb, rfl, _, _, gb1, gb2⟩ := own_at HMb.out.wo hgb
  obtain ⟨gq, hgq⟩ := HMb.out.bp
  obtain ⟨cq, rfl, _, _, gq1, gq2⟩ := own_at HMb.out.wp hgq
  obtain ⟨aw, cw, rfl, _⟩ := rd_of_owns hW4
  obtain ⟨asl, csl, rfl, _⟩ := rd_of_owns hS4
  have D0d := Lib.hid (D0c.out.below hb4)
  have D1d := Lib.hid (D1c.out.below hb4)
  have HM4 := Lib.hid (show Rd w4 w1.heap.size (some ⟨g, 0, none⟩) ((L ++ [Win.mark]).flatMap Win.cl) from (HM1.out.below HB2.out).keep fun b o hb => ((HB3.out.trans (hb4.mono s3)).cell (p := ⟨b, o, none⟩) (Nat.lt_of_lt_of_le hb s2)))
  have HR4 := Lib.hid (show Rd w4 w1.heap.size a (L.flatMap Win.cl) from (HR1.out.below HB2.out).keep fun b o hb => ((HB3.out.trans (hb4.mono s3)).cell (p := ⟨b, o, none⟩) (Nat.lt_of_lt_of_le hb s2)))
  have HMa4 := Lib.hid (HMa.out.keep fun q _ hq => (HB3.out.trans (hb4.mono s3)).block q hq)
  have HMb4 := Lib.hid (HMb.out.keep fun q _ hq => hb4.block q hq)
  have HW4 := Lib.hid (owns_mono hW4 s3)
  have HS4 := Lib.hid (owns_mono hS4 s3)
  have HBw := Lib.hid (HB1.out.trans ((HB2.out.trans ((HB3.out.trans (hb4.mono s3)).mono s2)).mono HB1.out.size))
  have hgap : ga ≠ gp := fun e => HMa4.out.apart (by rw [e]; rfl)
  clear c0 c1 l0 l1 hW4 hS4 hOc hb4 D0 D1 D0b D1b D0c D1c HM1 HM2 HM3 HR1 HR2 HR3 HMa HMb HOa hga hgp hgb hgq
  have ha4 := HMa4.out.wo
  have hp4 := HMa4.out.wp
  have hb4 := HMb4.out.wo
  have hq4 := HMb4.out.wp
  clear HMa4 HMb4
  generalize hNN : (outsL c fr up L).length = N at *
  generalize hMM : P''.length = M at *
  have HA4 := Lib.hid ha4
  have HP4 := Lib.hid hp4
  have HB4 := Lib.hid hb4
  have HQ4 := Lib.hid hq4
  clear ha4 hp4 hb4 hq4
  have HN := Lib.hid hNN
  have HMM := Lib.hid hMM
  clear hNN hMM
  have rd9 : ∀ (w : World) (B : Nat) (e : TypeId) (x : Option Addr) (cx n : Nat) (xs : List Value), w.ownsRow B e 9 (.slice x n cx) n xs → Rd w w.heap.size x xs := fun w B e x cx n xs h => by
    obtain ⟨x', c', e1, r⟩ := rd_of_owns h
    cases e1
    exact r
  have RD9 := Lib.hid rd9
  clear rd9
  have s1 := HB1.out.size
  go_wp2_with fail
  refine (wins_any (some ⟨ga, 0, none⟩) aw N ca cw (outsL c fr up L) _ HN.out (by omega) (RD9.out _ _ _ _ _ _ _ HA4.out) (RD9.out _ _ _ _ _ _ _ HW4.out)).mono ?_
  rintro en w5 ⟨rfl, hb5⟩
  have HB5 := Lib.hid hb5
  clear hb5
  go_wp2_with fail
  refine (panes_pa (some ⟨gp, 0, none⟩) asl M cp csl P'' _ HMM.out (by omega) ((RD9.out _ _ _ _ _ _ _ HP4.out).below HB5.out |>.more HB5.out.size) ((RD9.out _ _ _ _ _ _ _ HS4.out).below HB5.out |>.more HB5.out.size)).mono ?_
  rintro en w6 ⟨rfl, hb6⟩
  have HB6 := Lib.hid (HB5.out.trans (hb6.mono HB5.out.size))
  clear hb6
  go_wp2_with fail
  have h14 : w1.heap.size ≤ w4.heap.size := by omega
  refine (wins_any (some ⟨g, 0, none⟩) a n cm cap L _ HL.out (by omega) (((Rd.front9 HM4.out).more h14).below HB6.out |>.more HB6.out.size) ((HR4.out.more h14).below HB6.out |>.more HB6.out.size)).mono ?_
  rintro en w7 ⟨rfl, hb7⟩
  have HB7 := Lib.hid (HB6.out.trans (hb7.mono HB6.out.size))
  have s7 := HB7.out.size
  clear hb7
  go_wp2_with fail
  have k47 : ∀ q, q < w4.heap.size → w7.heap[q]? = w4.heap[q]? := fun q hq => HB7.out.block q hq
  have HA7 := Lib.hid (owns_keep HA4.out (fun q _ hq => k47 q hq))
  have HP7 := Lib.hid (owns_keep HP4.out (fun q _ hq => k47 q hq))
  have HBo7 := Lib.hid (owns_keep HB4.out (fun q _ hq => k47 q hq))
  have HQ7 := Lib.hid (owns_keep HQ4.out (fun q _ hq => k47 q hq))
  have HW7 := Lib.hid (owns_keep HW4.out (fun q _ hq => k47 q hq))
  have HS7 := Lib.hid (owns_keep HS4.out (fun q _ hq => k47 q hq))
  have HM7 := Lib.hid (show Rd w7 w1.heap.size (some ⟨g, 0, none⟩) ((L ++ [Win.mark]).flatMap Win.cl) from HM4.out.keep fun b o hb => HB7.out.cell (p := ⟨b, o, none⟩) (Nat.lt_of_lt_of_le hb h14))
  have HR7 := Lib.hid (show Rd w7 w1.heap.size a (L.flatMap Win.cl) from HR4.out.keep fun b o hb => HB7.out.cell (p := ⟨b, o, none⟩) (Nat.lt_of_lt_of_le hb h14))
  have HB := Lib.hid (HBw.out.trans (HB7.out.mono HBw.out.size))
  clear k47 HA4 HP4 HB4 HQ4 HW4 HS4 HM4 HR4 HB5 HB6 HB7 D0d D1d HB2 HB3 HBw
  have h17 : w1.heap.size ≤ w7.heap.size := by omega
  have h27 : w2.heap.size ≤ w7.heap.size := by omega
  clear s2 s3 s4 s7
  obtain ⟨d0, hd0, _⟩ := roww_of_own HA7.out HN.out
  have HD0 := Lib.hid hd0
  clear hd0
  go_loopw [16] (fun vi wr => ∃ (i : Nat) (d : Nat → Win), vi = .int .i64 i ∧ i ≤ N ∧ RowW wr ga N d ∧ (∃ xs, wr.ownsRow w1.heap.size 30 9 (.slice (some ⟨ga, 0, none⟩) N ca) N xs) ∧ Fr (fun q => q = ga) w7 wr) (fun vi _ => N - (intOf vi).toNat)
  case atStart => exact ⟨0, d0, rfl, Nat.zero_le _, HD0.out, ⟨_, HA7.out⟩, Fr.refl _ _⟩
  case round =>
    rename World => wr
    obtain ⟨i, d, rfl, hi, hRw, hOw, hF⟩ := hrel
    have HRw := Lib.hid hRw
    have HOw := Lib.hid hOw
    have HF := Lib.hid hF
    clear hRw hOw hF HD0
    rcases Nat.lt_or_ge i N with hlt | hge
    · have iin : (i : Int) < (N : Int) := by omega
      have e0 := HRw.out.cell hlt (show 0 < 9 by decide)
      have e1 := HRw.out.cell hlt (show 1 < 9 by decide)
      have e2 := HRw.out.cell hlt (show 2 < 9 by decide)
      have e3 := HRw.out.cell hlt (show 3 < 9 by decide)
      have e4 := HRw.out.cell hlt (show 4 < 9 by decide)
      have e5 := HRw.out.cell hlt (show 5 < 9 by decide)
      have e6 := HRw.out.cell hlt (show 6 < 9 by decide)
      have e7 := HRw.out.cell hlt (show 7 < 9 by decide)
      have e8 := HRw.out.cell hlt (show 8 < 9 by decide)
      simp only [Win.cl, Nat.add_zero, List.getElem?_cons_zero, List.getElem?_cons_succ] at e0 e1 e2 e3 e4 e5 e6 e7 e8
      have lg := HRw.out.lt
      have fg := HRw.out.free
      go_wp2_with fail
      go_roundw
      case rel =>
        have r1 := HRw.out.put hlt (Win.mk 0 0 (-9) 0 0 0 0 0 0)
        have r2 := own_putWi ga i (Win.mk 0 0 (-9) 0 0 0 0 0 0) HOw.out
        have r3 := HF.out.trans (putWi_fr (w := wr) (g := ga) (x := i) (p := Win.mk 0 0 (-9) 0 0 0 0 0 0))
        dsimp only [putWi] at r1 r2 r3
        exact ⟨i + 1, _, by go_num, by omega, r1, r2, r3⟩
      case measure => simp [intOf]; omega
    · obtain rfl : i = N := by omega
      have iin : ¬ (i : Int) < (i : Int) := by omega
      go_wp2_with fail
      have hp8 : wr.ownsRow w1.heap.size 37 9 (.slice (some ⟨gp, 0, none⟩) M cp) M (P''.flatMap Pa.cells) := own_same HP7.out (fun q hq => HF.out.block q (own_at HP7.out hq).choose_spec.2.2.2.2 (fun e => by cases hq; exact hgap e.symm))
      have HP8 := Lib.hid hp8
      obtain ⟨dp0, hdp0, _⟩ := row_of_own hp8 HMM.out
      have HDP := Lib.hid hdp0
      have s78 := HF.out.size
      clear hp8 hdp0 HP7
      go_loopw [17] (fun vi wz => ∃ (j : Nat) (d : Nat → Pa), vi = .int .i64 j ∧ j ≤ M ∧ Row wz gp M d ∧ (∃ xs, wz.ownsRow w1.heap.size 37 9 (.slice (some ⟨gp, 0, none⟩) M cp) M xs) ∧ Fr (fun q => q = gp) wr wz) (fun vi _ => M - (intOf vi).toNat)
      case atStart => exact ⟨0, dp0, rfl, Nat.zero_le _, HDP.out, ⟨_, HP8.out⟩, Fr.refl _ _⟩
      case round =>
        rename World => wz
        obtain ⟨j, dp, rfl, hj, hRp, hOp, hFp⟩ := hrel
        have HRp := Lib.hid hRp
        have HOp := Lib.hid hOp
        have HFp := Lib.hid hFp
        clear hRp hOp hFp HDP
        rcases Nat.lt_or_ge j M with hlt2 | hge2
        · have jin : (j : Int) < (M : Int) := by omega
          have e0 := HRp.out.cell hlt2 (show 0 < 9 by decide)
          have e1 := HRp.out.cell hlt2 (show 1 < 9 by decide)
          have e2 := HRp.out.cell hlt2 (show 2 < 9 by decide)
          have e3 := HRp.out.cell hlt2 (show 3 < 9 by decide)
          have e4 := HRp.out.cell hlt2 (show 4 < 9 by decide)
          have e5 := HRp.out.cell hlt2 (show 5 < 9 by decide)
          have e6 := HRp.out.cell hlt2 (show 6 < 9 by decide)
          have e7 := HRp.out.cell hlt2 (show 7 < 9 by decide)
          have e8 := HRp.out.cell hlt2 (show 8 < 9 by decide)
          simp only [Pa.cells, Nat.add_zero, List.getElem?_cons_zero, List.getElem?_cons_succ] at e0 e1 e2 e3 e4 e5 e6 e7 e8
          have lg := HRp.out.lt
          have fg := HRp.out.free
          go_wp2_with fail
          go_roundw
          case rel =>
            have r1 := HRp.out.put hlt2 (Pa.mk ⟨#[115, 112, 111, 105, 108, 116]⟩ 0 0 0 0 0 0 0 0)
            have r2 := own_putPa gp j (Pa.mk ⟨#[115, 112, 111, 105, 108, 116]⟩ 0 0 0 0 0 0 0 0) HOp.out
            have r3 := HFp.out.trans (putPa_fr (w := wz) (g := gp) (x := j) (p := Pa.mk ⟨#[115, 112, 111, 105, 108, 116]⟩ 0 0 0 0 0 0 0 0))
            dsimp only [putPa] at r1 r2 r3
            exact ⟨j + 1, _, by go_num, by omega, r1, r2, r3⟩
          case measure => simp [intOf]; omega
        · obtain rfl : j = M := by omega
          have jin : ¬ (j : Int) < (j : Int) := by omega
          go_wp2_with fail
          have hF9 : Fr (Mid w1.heap.size w2.heap.size) w7 wz := (HF.out.mono fun q _ e => by subst e; exact ⟨ga1, ga2⟩).trans (HFp.out.mono fun q _ e => by subst e; exact ⟨gp1, gp2⟩)
          have HF9 := Lib.hid hF9
          have hoa9 : ∃ xs, wz.ownsRow w1.heap.size 30 9 (.slice (some ⟨ga, 0, none⟩) i ca) i xs := by
            obtain ⟨xs, h⟩ := HOw.out
            exact ⟨xs, own_same h (fun q hq => HFp.out.block q (own_at h hq).choose_spec.2.2.2.2 (fun e => by cases hq; exact hgap e))⟩
          have HOa9 := Lib.hid hoa9
          have s89 := HFp.out.size
          clear hF9 hoa9 HF HFp HRw HRp HOw HP8
          go_loopw [10, 11, 18] (fun va vp vi wy => ∃ (t na np : Nat) (xa xp : List Value), vi = .int .i64 t ∧ t ≤ 20 ∧ t ≤ na ∧ t ≤ np ∧ na ≤ i + t ∧ np ≤ j + t ∧ Pair w7 wy w1.heap.size w2.heap.size 30 37 va vp na np xa xp) (fun _ _ vi _ => 20 - (intOf vi).toNat)
          case atStart =>
            obtain ⟨xa, ha⟩ := HOa9.out
            obtain ⟨xp, hp⟩ := HOp.out
            exact ⟨0, i, j, xa, xp, rfl, by omega, by omega, by omega, by omega, by omega, ⟨ha, hp, fun q hq => by cases hq; exact .inl ga2, fun q hq => by cases hq; exact .inl gp2, fun q hq h => by cases hq; cases h; exact hgap rfl, HF9.out⟩⟩
          case round =>
            rename World => wy
            obtain ⟨t, na, np, xa, xp, rfl, ht, hna, hnp, hna2, hnp2, hPr⟩ := hrel
            have HPr := Lib.hid hPr
            have sy := hPr.fr.size
            clear hPr HOa9 HOp HF9
            rcases Nat.lt_or_ge t 20 with hlt3 | hge3
            · have tin : (t : Int) < 20 := by omega
              go_upto_region 18 with (fail)
              apply wp_region_lit
              iterate 3 (go_step; go_step; rename_i KK hKK; (with_reducible refine hKK _ _ ?_); clear hKK KK)
              refine append_rd rfl (.tmp 94) (.tmp 96) 52 30 _ 9 72 infoW Try.underlying52 rfl (by omega) rfl w1.heap.size u10 na xa rfl (HPr.out.oa.alloc _) (some ⟨wy.heap.size, 0, none⟩) 1 1 Win.bad.cl rfl (fun h => by cases h) rfl ?_ (fun u hu => Win.one (l := [Win.bad]) u (by simpa using hu)) (by unfold maxLen; omega) (by omega) (by simp; omega) ?_
              · exact .inr ⟨wy.heap.size, 0, rfl, by simp, fun j u hu => by
                  rw [Nat.zero_add]
                  have hb : Blk (wy.alloc (.cells Win.bad.cells 30 (0, 0))) wy.heap.size 30 Win.bad.cells := heap_at rfl
                  exact (hb.cell j).trans (by simpa using hu)⟩
              intro v5 w5 ho5 hg5 hv5
              have HP5 := Lib.hid (HPr.out.left ho5 hg5 hv5)
              have s5 := HP5.out.fr.size
              clear ho5 hg5 hv5 HPr
              go_upto_region 19 with (fail)
              apply wp_region_lit
              iterate 3 (go_step; go_step; rename_i KK hKK; (with_reducible refine hKK _ _ ?_); clear hKK KK)
              refine append_rd rfl (.tmp 98) (.tmp 100) 46 37 _ 9 80 info37 Try.underlying46 rfl (by omega) rfl w1.heap.size u11 np xp rfl (HP5.out.op.alloc _) (some ⟨w5.heap.size, 0, none⟩) 1 1 Pa.bad.cells rfl (fun h => by cases h) rfl ?_ (fun u hu => Pa.one (l := [Pa.bad]) u (by simpa using hu)) (by unfold maxLen; omega) (by omega) (by simp; omega) ?_
              · exact .inr ⟨w5.heap.size, 0, rfl, by simp, fun j u hu => by
                  rw [Nat.zero_add]
                  have hb : Blk (w5.alloc (.cells Pa.bad.cells.toArray 37 (0, 0))) w5.heap.size 37 Pa.bad.cells.toArray := heap_at rfl
                  exact (hb.cell j).trans (by simpa using hu)⟩
              intro v6 w6 ho6 hg6 hv6
              have HP6 := Lib.hid (HP5.out.swap.left ho6 hg6 hv6).swap
              clear ho6 hg6 hv6 HP5
              go_wp2_with fail
              go_roundw
              case rel => exact ⟨t + 1, na + 1, np + 1, _, _, by go_num, by omega, by omega, by omega, by omega, by omega, HP6.out⟩
              case measure => simp [intOf]; omega
            · obtain rfl : t = 20 := by omega
              have hF := HPr.out.fr
              obtain ⟨gx, cx, rfl⟩ : ∃ g c1, u10 = .slice (some ⟨g, 0, none⟩) na c1 := by
                rcases HPr.out.oa.2 with ⟨h1, h0⟩ | ⟨g1, c1, cur1, h1, _⟩
                · exact absurd h0 (by omega)
                · exact ⟨_, _, h1⟩
              obtain ⟨gy, cy, rfl⟩ : ∃ g c1, u11 = .slice (some ⟨g, 0, none⟩) np c1 := by
                rcases HPr.out.op.2 with ⟨h1, h0⟩ | ⟨g1, c1, cur1, h1, _⟩
                · exact absurd h0 (by omega)
                · exact ⟨_, _, h1⟩
              have RB := Lib.hid (RD9.out _ _ _ _ _ _ _ (own_high HBo7.out hF))
              have RQ := Lib.hid (RD9.out _ _ _ _ _ _ _ (own_high HQ7.out hF))
              have RW := Lib.hid (RD9.out _ _ _ _ _ _ _ (own_high HW7.out hF))
              have RS := Lib.hid (RD9.out _ _ _ _ _ _ _ (own_high HS7.out hF))
              have RM := Lib.hid (Rd.low HM7.out hF h17)
              have RL := Lib.hid (Rd.low HR7.out hF h17)
              have HBy := Lib.hid (HB.out.trans (hF.below (fun q hq => hq.1) h17 |>.mono s1))
              have h1y : w1.heap.size ≤ wy.heap.size := by omega
              have hna20 : (20 : Int) ≤ (na : Int) := by omega
              have hnp20 : (20 : Int) ≤ (np : Int) := by omega
              clear hF HPr HBo7 HQ7 HW7 HS7 HM7 HR7 HB
              simp only [Int.cast_ofNat_Int]
              go_wp2_with fail
              refine (wins_any (some ⟨gb, 0, none⟩) aw i cb cw (outsL c fr up L) _ HN.out (by omega) RB.out RW.out).mono ?_
              rintro en x1 ⟨rfl, hx1⟩
              have HX1 := Lib.hid hx1
              clear hx1
              go_wp2_with fail
              refine (panes_pa (some ⟨gq, 0, none⟩) asl j cq csl _ _ HMM.out (by omega) (RQ.out.below HX1.out |>.more HX1.out.size) (RS.out.below HX1.out |>.more HX1.out.size)).mono ?_
              rintro en x2 ⟨rfl, hx2⟩
              have HX2 := Lib.hid (HX1.out.trans (hx2.mono HX1.out.size))
              clear hx2
              go_wp2_with fail
              refine (wins_any (some ⟨g, 0, none⟩) a n cm cap L _ HL.out (by omega) (((Rd.front9 RM.out).more h1y).below HX2.out |>.more HX2.out.size) ((RL.out.more h1y).below HX2.out |>.more HX2.out.size)).mono ?_
              rintro en x3 ⟨rfl, hx3⟩
              have HX3 := Lib.hid (HX2.out.trans (hx3.mono HX2.out.size))
              clear hx3
              have hmk := flat_mark RM.out HL.out
              have hgm : g < x3.heap.size := by have := HX3.out.size; omega
              have qm : x3.cell? ⟨g, n * 9 + 2, none⟩ = some (.int .i64 (-771)) := (HX3.out.cell (p := ⟨g, n * 9 + 2, none⟩) (Nat.lt_of_lt_of_le hmk.1 h1y)).trans hmk.2
              have hn1 : (0 : Int) ≤ (n : Int) := by omega
              have hn3 : (n : Int) + 1 ≤ (cm : Int) := by omega
              have wn := wrap_nat (show n + 1 ≤ 4611686018427387904 by omega)
              clear hmk
              go_wp2_with fail
              refine (known_any _).mono ?_
              rintro en x4 ⟨rfl, hx4⟩
              have HX4 := Lib.hid (HX3.out.trans (hx4.mono HX3.out.size))
              clear hx4
              have hBB := HBy.out.trans (HX4.out.mono HBy.out.size)
              go_wp2_with fail
              go_returns
              exact ⟨rfl, by go_grown⟩
end Go.Proofs.Ytfpomiimloohkaa
