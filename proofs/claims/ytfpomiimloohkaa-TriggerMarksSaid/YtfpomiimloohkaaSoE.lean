/- The sort's walks: symMerge. -/
import Derived.Test.YtfpomiimloohkaaSoD
import Derived.Deep.CutRange
set_option linter.unusedSimpArgs false
set_option linter.unusedVariables false
namespace Go.Proofs.Ytfpomiimloohkaa
open Go.RowKit Go.Kp Go.So

/-- What symMerge does. -/
def SymOk (g N cap a m b : Nat) (d : Nat → Pa) (w : World) : Prop :=
  Calls Try.prog 40 #[.slice (some ⟨g, 0, none⟩) N cap, .int .i64 a, .int .i64 m, .int .i64 b, cmpV] w fun e w' => e = .returned (.tuple #[]) ∧ ∃ d', Row w' g N d' ∧ Up Pa.e d' a b ∧ St Pa.e d d' a b ∧ Fr (fun b => b = g) w w'

set_option maxRecDepth 100000 in
set_option maxHeartbeats 16000000 in
theorem sym3_any {w : World} {g N : Nat} {d : Nat → Pa} (h : Row w g N d) (cap a m b : Nat) (ham : a + 1 < m) (hmb : m + 1 < b) (hbN : b ≤ N) (hN : N ≤ 4611686018427387000) (hA : Up Pa.e d a m) (hB : Up Pa.e d m b)
    (ih : ∀ (a' m' b' : Nat) (d' : Nat → Pa) (w' : World), b' - a' < b - a → Row w' g N d' → a' < m' → m' < b' → b' ≤ N → Up Pa.e d' a' m' → Up Pa.e d' m' b' → SymOk g N cap a' m' b' d' w') : SymOk g N cap a m b d w := by
  have H := Lib.hid h
  have HA := Lib.hid hA
  have HB := Lib.hid hB
  have IH := Lib.hid ih
  clear h hA hB ih
  unfold SymOk
  obtain ⟨q, hq⟩ : ∃ q, m - a = q := ⟨_, rfl⟩
  have eq : (m : Int) - (a : Int) = (q : Int) := by omega
  have hq1 : ¬ (q : Int) = 1 := by omega
  have hq2 : ¬ q = 1 := by omega
  have hq3 : ((q : Int) == 1) = false := by simp; omega
  obtain ⟨r, hr⟩ : ∃ r, b - m = r := ⟨_, rfl⟩
  have er : (b : Int) - (m : Int) = (r : Int) := by omega
  have hr1 : ¬ (r : Int) = 1 := by omega
  have hr2 : ¬ r = 1 := by omega
  have hr3 : ((r : Int) == 1) = false := by simp; omega
  obtain ⟨s, hs⟩ : ∃ s, a + b = s := ⟨_, rfl⟩
  obtain ⟨mid, hmid⟩ : ∃ mid, s / 2 = mid := ⟨_, rfl⟩
  have es : (a : Int) + (b : Int) = (s : Int) := by omega
  have em : (s : Int) / 2 = (mid : Int) := by omega
  obtain ⟨n, hn⟩ : ∃ n, mid + m = n := ⟨_, rfl⟩
  have en : (mid : Int) + (m : Int) = (n : Int) := by omega
  have HM := Lib.hid (show mid = (a + b) / 2 by omega)
  have hmd : a < mid ∧ mid < b := by omega
  have HN := Lib.hid hn
  clear hq hr hs hmid hn
  go_enter Try.func40, Try.ntmps40
  go_upto_if 140 with (fail)
  clear eq hq1 hq2 hq3 er hr1 hr2 hr3 es em en
  obtain ⟨lo, hlo⟩ : ∃ lo, (if m ≤ mid then a else mid + m - b) = lo := ⟨_, rfl⟩
  obtain ⟨hi, hhi⟩ : ∃ hi, (if m ≤ mid then m else mid) = hi := ⟨_, rfl⟩
  have HLO := Lib.hid hlo
  have HHI := Lib.hid hhi
  clear hlo hhi
  go_cut [20, 21] from 138 (fun s20 s21 wc => s20 = .int .i64 lo ∧ s21 = .int .i64 hi ∧ wc = w)
  case first =>
    have hn := HN.out
    rcases Nat.lt_or_ge mid m with hmm | hmm
    · have h1 : (mid : Int) < (m : Int) := by omega
      have e1 : (n : Int) - (b : Int) = (lo : Int) := by have := HLO.out; have hm := HM.out; rw [if_neg (by omega)] at this; omega
      have hlb : lo ≤ 4611686018427387000 := by have := HLO.out; rw [if_neg (by omega)] at this; omega
      have e2 : hi = mid := by have := HHI.out; rw [if_neg (by omega)] at this; omega
      have E2 := Lib.hid e2
      clear e2 hn
      go_wp2_with fail
      go_meet
      exact ⟨rfl, by rw [E2.out], rfl⟩
    · have h1 : ¬ (mid : Int) < (m : Int) := by omega
      have e1 : lo = a := by have := HLO.out; rw [if_pos hmm] at this; omega
      have e2 : hi = m := by have := HHI.out; rw [if_pos hmm] at this; omega
      have E2 := Lib.hid (And.intro e1 e2)
      clear e1 e2 hn
      go_wp2_with fail
      go_meet
      exact ⟨by rw [E2.out.1], by rw [E2.out.2], rfl⟩
  case rest =>
    obtain ⟨rfl, rfl, hwc⟩ := hcut
    rw [hwc]
    clear hwc
    have hbd : lo ≤ hi ∧ hi ≤ m ∧ a ≤ lo ∧ (∀ c, lo ≤ c → c < hi → m ≤ n - 1 - c ∧ n - 1 - c < b ∧ c < m) ∧ hi ≤ mid ∧ hi ≤ n := by
      have h1 := HLO.out
      have h2 := HHI.out
      have h3 := HM.out
      have h4 := HN.out
      by_cases hc : m ≤ mid
      · rw [if_pos hc] at h1 h2
        exact ⟨by omega, by omega, by omega, fun c g1 g2 => by omega, by omega, by omega⟩
      · rw [if_neg hc] at h1 h2
        exact ⟨by omega, by omega, by omega, fun c g1 g2 => by omega, by omega, by omega⟩
    have HBD := Lib.hid hbd
    clear hbd
    obtain ⟨p, hp⟩ : ∃ p, n - 1 = p := ⟨_, rfl⟩
    have ep : (n : Int) - 1 = (p : Int) := by have := HN.out; omega
    have HP := Lib.hid hp
    have hpb : p ≤ 9223372036854774000 := by have := HBD.out; have := HN.out; omega
    clear hp
    go_upto_block 8 with (fail)
    clear ep
    go_wp2_with fail
    go_loopw [20, 21] (fun vi vj wr => ∃ (i j : Nat), vi = .int .i64 i ∧ vj = .int .i64 j ∧ lo ≤ i ∧ i ≤ j ∧ j ≤ hi ∧ (∀ c, lo ≤ c → c < i → (d c).e ≤ (d (p - c)).e) ∧ (∀ c, j ≤ c → c < hi → (d (p - c)).e < (d c).e) ∧ Row wr g N d ∧ Fr (fun b => b = g) w wr) (fun vi vj _ => (intOf vj).toNat - (intOf vi).toNat)
    case atStart => exact ⟨lo, hi, rfl, rfl, Nat.le_refl _, HBD.out.1, Nat.le_refl _, fun h h1 h2 => by omega, fun h h1 h2 => by omega, H.out, Fr.refl _ _⟩
    case round =>
      rename World => wr
      obtain ⟨i, j, rfl, rfl, hli, hij, hjh, hlo, hhi, hR, hF⟩ := hrel
      have HR := Lib.hid hR
      have HF := Lib.hid hF
      have HY := Lib.hid hlo
      have HNO := Lib.hid hhi
      clear hR hF hlo hhi
      rcases Nat.lt_or_ge i j with hlt | hge
      · have hij' : (i : Int) < (j : Int) := by omega
        obtain ⟨s, hs⟩ : ∃ s, i + j = s := ⟨_, rfl⟩
        obtain ⟨c, hc⟩ : ∃ c, s / 2 = c := ⟨_, rfl⟩
        have hbd := HBD.out
        have hpp := HP.out
        have hcb := hbd.2.2.2.1 c (by omega) (by omega)
        obtain ⟨x, hx⟩ : ∃ x, p - c = x := ⟨_, rfl⟩
        have es : (i : Int) + (j : Int) = (s : Int) := by omega
        have ec : (s : Int) / 2 = (c : Int) := by omega
        have ex : (p : Int) - (c : Int) = (x : Int) := by omega
        have HC := Lib.hid (And.intro hs (And.intro hc hx))
        have hxN : x < N := by omega
        have hyN : c < N := by omega
        have xi : (x : Int) < (N : Int) := by omega
        have yi : (c : Int) < (N : Int) := by omega
        have sb : s ≤ 9223372036854775000 := by omega
        clear hs hc hx hbd hpp hcb
        have wx := wrap_nat (show x ≤ 4611686018427387904 by omega)
        have wy := wrap_nat (show c ≤ 4611686018427387904 by omega)
        have lg := HR.out.lt
        have fg := HR.out.free
        have x0 := HR.out.cell hxN (show 0 < 9 by decide)
        have x1 := HR.out.cell hxN (show 1 < 9 by decide)
        have x2 := HR.out.cell hxN (show 2 < 9 by decide)
        have x3 := HR.out.cell hxN (show 3 < 9 by decide)
        have x4 := HR.out.cell hxN (show 4 < 9 by decide)
        have x5 := HR.out.cell hxN (show 5 < 9 by decide)
        have x6 := HR.out.cell hxN (show 6 < 9 by decide)
        have x7 := HR.out.cell hxN (show 7 < 9 by decide)
        have x8 := HR.out.cell hxN (show 8 < 9 by decide)
        simp only [Pa.cells, Nat.add_zero, List.getElem?_cons_zero, List.getElem?_cons_succ] at x0 x1 x2 x3 x4 x5 x6 x7 x8
        have y0 := HR.out.cell hyN (show 0 < 9 by decide)
        have y1 := HR.out.cell hyN (show 1 < 9 by decide)
        have y2 := HR.out.cell hyN (show 2 < 9 by decide)
        have y3 := HR.out.cell hyN (show 3 < 9 by decide)
        have y4 := HR.out.cell hyN (show 4 < 9 by decide)
        have y5 := HR.out.cell hyN (show 5 < 9 by decide)
        have y6 := HR.out.cell hyN (show 6 < 9 by decide)
        have y7 := HR.out.cell hyN (show 7 < 9 by decide)
        have y8 := HR.out.cell hyN (show 8 < 9 by decide)
        simp only [Pa.cells, Nat.add_zero, List.getElem?_cons_zero, List.getElem?_cons_succ] at y0 y1 y2 y3 y4 y5 y6 y7 y8
        go_wp2_with fail
        (refine region_keep (fun b => b = g) 11 [(0, true), (1, true), (2, true), (3, true), (4, true), (5, true), (6, true), (7, true), (8, true), (9, true), (10, true)] (by kernel_rfl) (fun _ _ d _ _ h => by cases d <;> exact h) (by kernel_rfl) ?_; simp only [withOps, List.getElem?_toArray, List.getElem?_cons_zero, List.getElem?_cons_succ, List.drop_succ_cons, List.drop_zero])
        (iterate 11 (refine keep_quiet (v := ?_) rfl ?_ ?_; rotate_left; (focus (intro w' hw'; go_simp; (try with_reducible rfl); done)); try simp only [Act.put, List.setIfInBounds_toArray, List.set_cons_zero, List.set_cons_succ]))
        (with_reducible refine plan_end ?_)
        (try simp only [Act.put, List.setIfInBounds_toArray, List.set_cons_zero, List.set_cons_succ])
        go_wp2_with fail
        refine (cmp_any (d x) (d c) _).mono ?_
        rintro en w2 ⟨rfl, hb2⟩
        have HW2 := Lib.hid (show Below wr.heap.size wr w2 from bnext ((Below.refl _ _).drew) hb2)
        clear hb2
        rcases Decidable.em ((d x).e < (d c).e) with hc | hc
        · have hc' : cmpE (d x) (d c) < 0 := cmpE_lt.2 hc
          have HCC := Lib.hid hc
          clear hc
          generalize cmpE (d x) (d c) = C at *
          have hcd : decide (C < 0) = true := decide_eq_true hc'
          go_wp2_with fail
          go_roundw
          case rel =>
            have hci := HC.out
            have hbd := HBD.out
            have hpp := HP.out
            refine ⟨i, c, rfl, rfl, by omega, by omega, by omega, HY.out, fun c' h1 h2 => ?_, HR.out.below HW2.out, HF.out.trans (Fr.next HW2.out)⟩
            have b1 := hbd.2.2.2.1 c (by omega) (by omega)
            have b2 := hbd.2.2.2.1 c' (by omega) h2
            have h3 := HA.out c c' (by omega) h1 (by omega)
            have h4 := HB.out (p - c') (p - c) (by omega) (by omega) (by omega)
            have h5 := HCC.out
            rw [hci.2.2] at h4
            omega
          case measure => have hci := HC.out; simp [intOf]; omega
        · have hc' : ¬ cmpE (d x) (d c) < 0 := fun h => hc (cmpE_lt.1 h)
          have HCC := Lib.hid hc
          clear hc
          generalize cmpE (d x) (d c) = C at *
          have hcd : decide (C < 0) = false := decide_eq_false hc'
          go_wp2_with fail
          go_roundw
          case rel =>
            have hci := HC.out
            have hbd := HBD.out
            have hpp := HP.out
            refine ⟨c + 1, j, by go_num, rfl, by omega, by omega, by omega, fun c' h1 h2 => ?_, HNO.out, HR.out.below HW2.out, HF.out.trans (Fr.next HW2.out)⟩
            have b1 := hbd.2.2.2.1 c (by omega) (by omega)
            have b2 := hbd.2.2.2.1 c' h1 (by omega)
            have h3 := HA.out c' c (by omega) (by omega) (by omega)
            have h4 := HB.out (p - c) (p - c') (by omega) (by omega) (by omega)
            have h5 := HCC.out
            rw [hci.2.2] at h4
            omega
          case measure => have hci := HC.out; simp [intOf]; omega
      · obtain rfl : i = j := by omega
        have hcut : Cut Pa.e d a m b mid i := by
          have h1 := HLO.out
          have h2 := HHI.out
          have h3 := HN.out
          have h4 := HP.out
          refine ⟨by omega, by omega, HM.out, by rw [h1]; exact hli, by rw [h2]; exact hjh, fun c g1 g2 => ?_, fun c g1 g2 => ?_⟩
          · rw [h1] at g1
            have := HY.out c g1 g2
            rw [show mid + m - 1 - c = p - c by omega]
            exact this
          · rw [h2] at g2
            have := HNO.out c g1 g2
            rw [show mid + m - 1 - c = p - c by omega]
            exact this
        have hbdc := hcut.bd
        have HCUT := Lib.hid hcut
        obtain ⟨e, he⟩ : ∃ e, n - i = e := ⟨_, rfl⟩
        have hnn := HN.out
        have ee : (n : Int) - (i : Int) = (e : Int) := by omega
        have HE := Lib.hid he
        clear he hcut
        rcases Nat.lt_or_ge i m with ra | ra'
        · have rai : (i : Int) < (m : Int) := by have := ra; omega
          have rad : decide (i < m) = true := decide_eq_true ra
          rcases Nat.lt_or_ge m e with rb | rb'
          · have rbi : (m : Int) < (e : Int) := by have := rb; omega
            have rbd : decide (m < e) = true := decide_eq_true rb
            rcases Nat.lt_or_ge a i with la | la'
            · have lai : (a : Int) < (i : Int) := by have := la; omega
              have lad : decide (a < i) = true := decide_eq_true la
              rcases Nat.lt_or_ge i mid with lb | lb'
              · have lbi : (i : Int) < (mid : Int) := by have := lb; omega
                have lbd : decide (i < mid) = true := decide_eq_true lb
                rcases Nat.lt_or_ge mid e with qa | qa'
                · have qai : (mid : Int) < (e : Int) := by have := qa; omega
                  have qad : decide (mid < e) = true := decide_eq_true qa
                  rcases Nat.lt_or_ge e b with qb | qb'
                  · have qbi : (e : Int) < (b : Int) := by have := qb; omega
                    have qbd : decide (e < b) = true := decide_eq_true qb
                    go_wp2_with fail
                    refine (rotate_any HR.out cap i m e cmpV ra rb (by have := HE.out; omega) (by omega)).mono ?_
                    rintro en w2 ⟨rfl, d1, hR1, hRo, hF1⟩
                    have HR1 := Lib.hid hR1
                    have HRo := Lib.hid hRo
                    have HF1 := Lib.hid (HF.out.trans hF1)
                    clear hR1 hRo hF1
                    have HPA := Lib.hid (HCUT.out.parts HA.out HB.out (show Rot d d1 i m (mid + m - i) by have h := HRo.out; rw [← HE.out, ← HN.out] at h; exact h))
                    go_wp2_with fail
                    refine (IH.out a i mid d1 _ (by omega) HR1.out la lb (by omega) HPA.out.2.1 HPA.out.2.2.1).mono ?_
                    rintro en w3 ⟨rfl, d2, hR2, hU2, hS2, hF2⟩
                    have HR2 := Lib.hid hR2
                    have HU2 := Lib.hid hU2
                    have HS2 := Lib.hid hS2
                    have HF2 := Lib.hid (HF1.out.trans hF2)
                    clear hR2 hU2 hS2 hF2
                    go_wp2_with fail
                    have HQ := Lib.hid (show Up Pa.e d2 mid e ∧ Up Pa.e d2 e b by
                      have h := HPA.out
                      have he := HE.out
                      have hn := HN.out
                      rw [show mid + m - i = e by omega] at h
                      exact ⟨h.2.2.2.1.same (fun t g1 _ => HS2.out.off t (.inr g1)), h.2.2.2.2.1.same (fun t g1 _ => HS2.out.off t (.inr (by omega)))⟩)
                    refine (IH.out mid e b d2 _ (by omega) HR2.out qa qb hbN HQ.out.1 HQ.out.2).mono ?_
                    rintro en w4 ⟨rfl, d3, hR3, hU3, hS3, hF3⟩
                    have HR3 := Lib.hid hR3
                    have HU3 := Lib.hid hU3
                    have HS3 := Lib.hid hS3
                    have HF3 := Lib.hid (HF2.out.trans hF3)
                    clear hR3 hU3 hS3 hF3
                    go_wp2_with fail
                    go_returns
                    obtain ⟨f1, f2⟩ := merged (by omega) (by omega) HPA.out.2.2.2.2.2 HU2.out HS2.out HU3.out HS3.out
                    exact ⟨rfl, _, HR3.out, f1, HPA.out.1.trans f2, HF3.out⟩
                  · have qb : ¬ e < b := Nat.not_lt.2 qb'
                    have qbi : ¬ (e : Int) < (b : Int) := by have := qb; omega
                    have qbd : decide (e < b) = false := decide_eq_false qb
                    go_wp2_with fail
                    refine (rotate_any HR.out cap i m e cmpV ra rb (by have := HE.out; omega) (by omega)).mono ?_
                    rintro en w2 ⟨rfl, d1, hR1, hRo, hF1⟩
                    have HR1 := Lib.hid hR1
                    have HRo := Lib.hid hRo
                    have HF1 := Lib.hid (HF.out.trans hF1)
                    clear hR1 hRo hF1
                    have HPA := Lib.hid (HCUT.out.parts HA.out HB.out (show Rot d d1 i m (mid + m - i) by have h := HRo.out; rw [← HE.out, ← HN.out] at h; exact h))
                    go_wp2_with fail
                    refine (IH.out a i mid d1 _ (by omega) HR1.out la lb (by omega) HPA.out.2.1 HPA.out.2.2.1).mono ?_
                    rintro en w3 ⟨rfl, d2, hR2, hU2, hS2, hF2⟩
                    have HR2 := Lib.hid hR2
                    have HU2 := Lib.hid hU2
                    have HS2 := Lib.hid hS2
                    have HF2 := Lib.hid (HF1.out.trans hF2)
                    clear hR2 hU2 hS2 hF2
                    go_wp2_with fail
                    have HQ := Lib.hid (show Up Pa.e d2 mid e ∧ Up Pa.e d2 e b by
                      have h := HPA.out
                      have he := HE.out
                      have hn := HN.out
                      rw [show mid + m - i = e by omega] at h
                      exact ⟨h.2.2.2.1.same (fun t g1 _ => HS2.out.off t (.inr g1)), h.2.2.2.2.1.same (fun t g1 _ => HS2.out.off t (.inr (by omega)))⟩)
                    have HR3 := HR2
                    have HF3 := HF2
                    have HU3 := Lib.hid (show Up Pa.e d2 mid b from by have h := HQ.out.1; rw [show e = b by omega] at h; exact h)
                    have HS3 := Lib.hid (show St Pa.e d2 d2 mid b from St.refl _ _ _)
                    go_returns
                    obtain ⟨f1, f2⟩ := merged (by omega) (by omega) HPA.out.2.2.2.2.2 HU2.out HS2.out HU3.out HS3.out
                    exact ⟨rfl, _, HR3.out, f1, HPA.out.1.trans f2, HF3.out⟩
                · have qa : ¬ mid < e := Nat.not_lt.2 qa'
                  have qai : ¬ (mid : Int) < (e : Int) := by have := qa; omega
                  have qad : decide (mid < e) = false := decide_eq_false qa
                  go_wp2_with fail
                  refine (rotate_any HR.out cap i m e cmpV ra rb (by have := HE.out; omega) (by omega)).mono ?_
                  rintro en w2 ⟨rfl, d1, hR1, hRo, hF1⟩
                  have HR1 := Lib.hid hR1
                  have HRo := Lib.hid hRo
                  have HF1 := Lib.hid (HF.out.trans hF1)
                  clear hR1 hRo hF1
                  have HPA := Lib.hid (HCUT.out.parts HA.out HB.out (show Rot d d1 i m (mid + m - i) by have h := HRo.out; rw [← HE.out, ← HN.out] at h; exact h))
                  go_wp2_with fail
                  refine (IH.out a i mid d1 _ (by omega) HR1.out la lb (by omega) HPA.out.2.1 HPA.out.2.2.1).mono ?_
                  rintro en w3 ⟨rfl, d2, hR2, hU2, hS2, hF2⟩
                  have HR2 := Lib.hid hR2
                  have HU2 := Lib.hid hU2
                  have HS2 := Lib.hid hS2
                  have HF2 := Lib.hid (HF1.out.trans hF2)
                  clear hR2 hU2 hS2 hF2
                  go_wp2_with fail
                  have HQ := Lib.hid (show Up Pa.e d2 mid e ∧ Up Pa.e d2 e b by
                    have h := HPA.out
                    have he := HE.out
                    have hn := HN.out
                    rw [show mid + m - i = e by omega] at h
                    exact ⟨h.2.2.2.1.same (fun t g1 _ => HS2.out.off t (.inr g1)), h.2.2.2.2.1.same (fun t g1 _ => HS2.out.off t (.inr (by omega)))⟩)
                  have HR3 := HR2
                  have HF3 := HF2
                  have HU3 := Lib.hid (show Up Pa.e d2 mid b from by have h := HQ.out.2; rw [show e = mid by omega] at h; exact h)
                  have HS3 := Lib.hid (show St Pa.e d2 d2 mid b from St.refl _ _ _)
                  go_returns
                  obtain ⟨f1, f2⟩ := merged (by omega) (by omega) HPA.out.2.2.2.2.2 HU2.out HS2.out HU3.out HS3.out
                  exact ⟨rfl, _, HR3.out, f1, HPA.out.1.trans f2, HF3.out⟩
              · have lb : ¬ i < mid := Nat.not_lt.2 lb'
                have lbi : ¬ (i : Int) < (mid : Int) := by have := lb; omega
                have lbd : decide (i < mid) = false := decide_eq_false lb
                rcases Nat.lt_or_ge mid e with qa | qa'
                · have qai : (mid : Int) < (e : Int) := by have := qa; omega
                  have qad : decide (mid < e) = true := decide_eq_true qa
                  rcases Nat.lt_or_ge e b with qb | qb'
                  · have qbi : (e : Int) < (b : Int) := by have := qb; omega
                    have qbd : decide (e < b) = true := decide_eq_true qb
                    go_wp2_with fail
                    refine (rotate_any HR.out cap i m e cmpV ra rb (by have := HE.out; omega) (by omega)).mono ?_
                    rintro en w2 ⟨rfl, d1, hR1, hRo, hF1⟩
                    have HR1 := Lib.hid hR1
                    have HRo := Lib.hid hRo
                    have HF1 := Lib.hid (HF.out.trans hF1)
                    clear hR1 hRo hF1
                    have HPA := Lib.hid (HCUT.out.parts HA.out HB.out (show Rot d d1 i m (mid + m - i) by have h := HRo.out; rw [← HE.out, ← HN.out] at h; exact h))
                    go_wp2_with fail
                    have HR2 := HR1
                    have HF2 := HF1
                    have HU2 := Lib.hid (show Up Pa.e d1 a mid from by have h := HPA.out.2.1; rw [show i = mid by omega] at h; exact h)
                    have HS2 := Lib.hid (show St Pa.e d1 d1 a mid from St.refl _ _ _)
                    have HQ := Lib.hid (show Up Pa.e d1 mid e ∧ Up Pa.e d1 e b by
                      have h := HPA.out
                      have he := HE.out
                      have hn := HN.out
                      rw [show mid + m - i = e by omega] at h
                      exact ⟨h.2.2.2.1.same (fun t g1 _ => HS2.out.off t (.inr g1)), h.2.2.2.2.1.same (fun t g1 _ => HS2.out.off t (.inr (by omega)))⟩)
                    refine (IH.out mid e b d1 _ (by omega) HR2.out qa qb hbN HQ.out.1 HQ.out.2).mono ?_
                    rintro en w4 ⟨rfl, d3, hR3, hU3, hS3, hF3⟩
                    have HR3 := Lib.hid hR3
                    have HU3 := Lib.hid hU3
                    have HS3 := Lib.hid hS3
                    have HF3 := Lib.hid (HF2.out.trans hF3)
                    clear hR3 hU3 hS3 hF3
                    go_wp2_with fail
                    go_returns
                    obtain ⟨f1, f2⟩ := merged (by omega) (by omega) HPA.out.2.2.2.2.2 HU2.out HS2.out HU3.out HS3.out
                    exact ⟨rfl, _, HR3.out, f1, HPA.out.1.trans f2, HF3.out⟩
                  · have qb : ¬ e < b := Nat.not_lt.2 qb'
                    have qbi : ¬ (e : Int) < (b : Int) := by have := qb; omega
                    have qbd : decide (e < b) = false := decide_eq_false qb
                    go_wp2_with fail
                    refine (rotate_any HR.out cap i m e cmpV ra rb (by have := HE.out; omega) (by omega)).mono ?_
                    rintro en w2 ⟨rfl, d1, hR1, hRo, hF1⟩
                    have HR1 := Lib.hid hR1
                    have HRo := Lib.hid hRo
                    have HF1 := Lib.hid (HF.out.trans hF1)
                    clear hR1 hRo hF1
                    have HPA := Lib.hid (HCUT.out.parts HA.out HB.out (show Rot d d1 i m (mid + m - i) by have h := HRo.out; rw [← HE.out, ← HN.out] at h; exact h))
                    go_wp2_with fail
                    have HR2 := HR1
                    have HF2 := HF1
                    have HU2 := Lib.hid (show Up Pa.e d1 a mid from by have h := HPA.out.2.1; rw [show i = mid by omega] at h; exact h)
                    have HS2 := Lib.hid (show St Pa.e d1 d1 a mid from St.refl _ _ _)
                    have HQ := Lib.hid (show Up Pa.e d1 mid e ∧ Up Pa.e d1 e b by
                      have h := HPA.out
                      have he := HE.out
                      have hn := HN.out
                      rw [show mid + m - i = e by omega] at h
                      exact ⟨h.2.2.2.1.same (fun t g1 _ => HS2.out.off t (.inr g1)), h.2.2.2.2.1.same (fun t g1 _ => HS2.out.off t (.inr (by omega)))⟩)
                    have HR3 := HR2
                    have HF3 := HF2
                    have HU3 := Lib.hid (show Up Pa.e d1 mid b from by have h := HQ.out.1; rw [show e = b by omega] at h; exact h)
                    have HS3 := Lib.hid (show St Pa.e d1 d1 mid b from St.refl _ _ _)
                    go_returns
                    obtain ⟨f1, f2⟩ := merged (by omega) (by omega) HPA.out.2.2.2.2.2 HU2.out HS2.out HU3.out HS3.out
                    exact ⟨rfl, _, HR3.out, f1, HPA.out.1.trans f2, HF3.out⟩
                · have qa : ¬ mid < e := Nat.not_lt.2 qa'
                  have qai : ¬ (mid : Int) < (e : Int) := by have := qa; omega
                  have qad : decide (mid < e) = false := decide_eq_false qa
                  go_wp2_with fail
                  refine (rotate_any HR.out cap i m e cmpV ra rb (by have := HE.out; omega) (by omega)).mono ?_
                  rintro en w2 ⟨rfl, d1, hR1, hRo, hF1⟩
                  have HR1 := Lib.hid hR1
                  have HRo := Lib.hid hRo
                  have HF1 := Lib.hid (HF.out.trans hF1)
                  clear hR1 hRo hF1
                  have HPA := Lib.hid (HCUT.out.parts HA.out HB.out (show Rot d d1 i m (mid + m - i) by have h := HRo.out; rw [← HE.out, ← HN.out] at h; exact h))
                  go_wp2_with fail
                  have HR2 := HR1
                  have HF2 := HF1
                  have HU2 := Lib.hid (show Up Pa.e d1 a mid from by have h := HPA.out.2.1; rw [show i = mid by omega] at h; exact h)
                  have HS2 := Lib.hid (show St Pa.e d1 d1 a mid from St.refl _ _ _)
                  have HQ := Lib.hid (show Up Pa.e d1 mid e ∧ Up Pa.e d1 e b by
                    have h := HPA.out
                    have he := HE.out
                    have hn := HN.out
                    rw [show mid + m - i = e by omega] at h
                    exact ⟨h.2.2.2.1.same (fun t g1 _ => HS2.out.off t (.inr g1)), h.2.2.2.2.1.same (fun t g1 _ => HS2.out.off t (.inr (by omega)))⟩)
                  have HR3 := HR2
                  have HF3 := HF2
                  have HU3 := Lib.hid (show Up Pa.e d1 mid b from by have h := HQ.out.2; rw [show e = mid by omega] at h; exact h)
                  have HS3 := Lib.hid (show St Pa.e d1 d1 mid b from St.refl _ _ _)
                  go_returns
                  obtain ⟨f1, f2⟩ := merged (by omega) (by omega) HPA.out.2.2.2.2.2 HU2.out HS2.out HU3.out HS3.out
                  exact ⟨rfl, _, HR3.out, f1, HPA.out.1.trans f2, HF3.out⟩
            · have la : ¬ a < i := Nat.not_lt.2 la'
              have lai : ¬ (a : Int) < (i : Int) := by have := la; omega
              have lad : decide (a < i) = false := decide_eq_false la
              rcases Nat.lt_or_ge mid e with qa | qa'
              · have qai : (mid : Int) < (e : Int) := by have := qa; omega
                have qad : decide (mid < e) = true := decide_eq_true qa
                rcases Nat.lt_or_ge e b with qb | qb'
                · have qbi : (e : Int) < (b : Int) := by have := qb; omega
                  have qbd : decide (e < b) = true := decide_eq_true qb
                  go_wp2_with fail
                  refine (rotate_any HR.out cap i m e cmpV ra rb (by have := HE.out; omega) (by omega)).mono ?_
                  rintro en w2 ⟨rfl, d1, hR1, hRo, hF1⟩
                  have HR1 := Lib.hid hR1
                  have HRo := Lib.hid hRo
                  have HF1 := Lib.hid (HF.out.trans hF1)
                  clear hR1 hRo hF1
                  have HPA := Lib.hid (HCUT.out.parts HA.out HB.out (show Rot d d1 i m (mid + m - i) by have h := HRo.out; rw [← HE.out, ← HN.out] at h; exact h))
                  go_wp2_with fail
                  have HR2 := HR1
                  have HF2 := HF1
                  have HU2 := Lib.hid (show Up Pa.e d1 a mid from by have h := HPA.out.2.2.1; rw [show i = a by omega] at h; exact h)
                  have HS2 := Lib.hid (show St Pa.e d1 d1 a mid from St.refl _ _ _)
                  have HQ := Lib.hid (show Up Pa.e d1 mid e ∧ Up Pa.e d1 e b by
                    have h := HPA.out
                    have he := HE.out
                    have hn := HN.out
                    rw [show mid + m - i = e by omega] at h
                    exact ⟨h.2.2.2.1.same (fun t g1 _ => HS2.out.off t (.inr g1)), h.2.2.2.2.1.same (fun t g1 _ => HS2.out.off t (.inr (by omega)))⟩)
                  refine (IH.out mid e b d1 _ (by omega) HR2.out qa qb hbN HQ.out.1 HQ.out.2).mono ?_
                  rintro en w4 ⟨rfl, d3, hR3, hU3, hS3, hF3⟩
                  have HR3 := Lib.hid hR3
                  have HU3 := Lib.hid hU3
                  have HS3 := Lib.hid hS3
                  have HF3 := Lib.hid (HF2.out.trans hF3)
                  clear hR3 hU3 hS3 hF3
                  go_wp2_with fail
                  go_returns
                  obtain ⟨f1, f2⟩ := merged (by omega) (by omega) HPA.out.2.2.2.2.2 HU2.out HS2.out HU3.out HS3.out
                  exact ⟨rfl, _, HR3.out, f1, HPA.out.1.trans f2, HF3.out⟩
                · have qb : ¬ e < b := Nat.not_lt.2 qb'
                  have qbi : ¬ (e : Int) < (b : Int) := by have := qb; omega
                  have qbd : decide (e < b) = false := decide_eq_false qb
                  go_wp2_with fail
                  refine (rotate_any HR.out cap i m e cmpV ra rb (by have := HE.out; omega) (by omega)).mono ?_
                  rintro en w2 ⟨rfl, d1, hR1, hRo, hF1⟩
                  have HR1 := Lib.hid hR1
                  have HRo := Lib.hid hRo
                  have HF1 := Lib.hid (HF.out.trans hF1)
                  clear hR1 hRo hF1
                  have HPA := Lib.hid (HCUT.out.parts HA.out HB.out (show Rot d d1 i m (mid + m - i) by have h := HRo.out; rw [← HE.out, ← HN.out] at h; exact h))
                  go_wp2_with fail
                  have HR2 := HR1
                  have HF2 := HF1
                  have HU2 := Lib.hid (show Up Pa.e d1 a mid from by have h := HPA.out.2.2.1; rw [show i = a by omega] at h; exact h)
                  have HS2 := Lib.hid (show St Pa.e d1 d1 a mid from St.refl _ _ _)
                  have HQ := Lib.hid (show Up Pa.e d1 mid e ∧ Up Pa.e d1 e b by
                    have h := HPA.out
                    have he := HE.out
                    have hn := HN.out
                    rw [show mid + m - i = e by omega] at h
                    exact ⟨h.2.2.2.1.same (fun t g1 _ => HS2.out.off t (.inr g1)), h.2.2.2.2.1.same (fun t g1 _ => HS2.out.off t (.inr (by omega)))⟩)
                  have HR3 := HR2
                  have HF3 := HF2
                  have HU3 := Lib.hid (show Up Pa.e d1 mid b from by have h := HQ.out.1; rw [show e = b by omega] at h; exact h)
                  have HS3 := Lib.hid (show St Pa.e d1 d1 mid b from St.refl _ _ _)
                  go_returns
                  obtain ⟨f1, f2⟩ := merged (by omega) (by omega) HPA.out.2.2.2.2.2 HU2.out HS2.out HU3.out HS3.out
                  exact ⟨rfl, _, HR3.out, f1, HPA.out.1.trans f2, HF3.out⟩
              · have qa : ¬ mid < e := Nat.not_lt.2 qa'
                have qai : ¬ (mid : Int) < (e : Int) := by have := qa; omega
                have qad : decide (mid < e) = false := decide_eq_false qa
                go_wp2_with fail
                refine (rotate_any HR.out cap i m e cmpV ra rb (by have := HE.out; omega) (by omega)).mono ?_
                rintro en w2 ⟨rfl, d1, hR1, hRo, hF1⟩
                have HR1 := Lib.hid hR1
                have HRo := Lib.hid hRo
                have HF1 := Lib.hid (HF.out.trans hF1)
                clear hR1 hRo hF1
                have HPA := Lib.hid (HCUT.out.parts HA.out HB.out (show Rot d d1 i m (mid + m - i) by have h := HRo.out; rw [← HE.out, ← HN.out] at h; exact h))
                go_wp2_with fail
                have HR2 := HR1
                have HF2 := HF1
                have HU2 := Lib.hid (show Up Pa.e d1 a mid from by have h := HPA.out.2.2.1; rw [show i = a by omega] at h; exact h)
                have HS2 := Lib.hid (show St Pa.e d1 d1 a mid from St.refl _ _ _)
                have HQ := Lib.hid (show Up Pa.e d1 mid e ∧ Up Pa.e d1 e b by
                  have h := HPA.out
                  have he := HE.out
                  have hn := HN.out
                  rw [show mid + m - i = e by omega] at h
                  exact ⟨h.2.2.2.1.same (fun t g1 _ => HS2.out.off t (.inr g1)), h.2.2.2.2.1.same (fun t g1 _ => HS2.out.off t (.inr (by omega)))⟩)
                have HR3 := HR2
                have HF3 := HF2
                have HU3 := Lib.hid (show Up Pa.e d1 mid b from by have h := HQ.out.2; rw [show e = mid by omega] at h; exact h)
                have HS3 := Lib.hid (show St Pa.e d1 d1 mid b from St.refl _ _ _)
                go_returns
                obtain ⟨f1, f2⟩ := merged (by omega) (by omega) HPA.out.2.2.2.2.2 HU2.out HS2.out HU3.out HS3.out
                exact ⟨rfl, _, HR3.out, f1, HPA.out.1.trans f2, HF3.out⟩
          · have rb : ¬ m < e := Nat.not_lt.2 rb'
            have rbi : ¬ (m : Int) < (e : Int) := by have := rb; omega
            have rbd : decide (m < e) = false := decide_eq_false rb
            rcases Nat.lt_or_ge a i with la | la'
            · have lai : (a : Int) < (i : Int) := by have := la; omega
              have lad : decide (a < i) = true := decide_eq_true la
              rcases Nat.lt_or_ge i mid with lb | lb'
              · have lbi : (i : Int) < (mid : Int) := by have := lb; omega
                have lbd : decide (i < mid) = true := decide_eq_true lb
                rcases Nat.lt_or_ge mid e with qa | qa'
                · have qai : (mid : Int) < (e : Int) := by have := qa; omega
                  have qad : decide (mid < e) = true := decide_eq_true qa
                  rcases Nat.lt_or_ge e b with qb | qb'
                  · have qbi : (e : Int) < (b : Int) := by have := qb; omega
                    have qbd : decide (e < b) = true := decide_eq_true qb
                    have HR1 := HR
                    have HF1 := HF
                    have HRo := Lib.hid (show Rot d d i m e from Rot.none (by omega) (by have := HE.out; omega) (by have := HE.out; omega))
                    obtain ⟨d1, hd1⟩ : ∃ d1, d1 = d := ⟨_, rfl⟩
                    have HD1 := Lib.hid hd1
                    clear hd1
                    have HPA := Lib.hid (HCUT.out.parts HA.out HB.out (show Rot d d i m (mid + m - i) by have h := HRo.out; rw [← HE.out, ← HN.out] at h; exact h))
                    go_wp2_with fail
                    refine (IH.out a i mid d _ (by omega) HR1.out la lb (by omega) HPA.out.2.1 HPA.out.2.2.1).mono ?_
                    rintro en w3 ⟨rfl, d2, hR2, hU2, hS2, hF2⟩
                    have HR2 := Lib.hid hR2
                    have HU2 := Lib.hid hU2
                    have HS2 := Lib.hid hS2
                    have HF2 := Lib.hid (HF1.out.trans hF2)
                    clear hR2 hU2 hS2 hF2
                    go_wp2_with fail
                    have HQ := Lib.hid (show Up Pa.e d2 mid e ∧ Up Pa.e d2 e b by
                      have h := HPA.out
                      have he := HE.out
                      have hn := HN.out
                      rw [show mid + m - i = e by omega] at h
                      exact ⟨h.2.2.2.1.same (fun t g1 _ => HS2.out.off t (.inr g1)), h.2.2.2.2.1.same (fun t g1 _ => HS2.out.off t (.inr (by omega)))⟩)
                    refine (IH.out mid e b d2 _ (by omega) HR2.out qa qb hbN HQ.out.1 HQ.out.2).mono ?_
                    rintro en w4 ⟨rfl, d3, hR3, hU3, hS3, hF3⟩
                    have HR3 := Lib.hid hR3
                    have HU3 := Lib.hid hU3
                    have HS3 := Lib.hid hS3
                    have HF3 := Lib.hid (HF2.out.trans hF3)
                    clear hR3 hU3 hS3 hF3
                    go_wp2_with fail
                    go_returns
                    obtain ⟨f1, f2⟩ := merged (by omega) (by omega) HPA.out.2.2.2.2.2 HU2.out HS2.out HU3.out HS3.out
                    exact ⟨rfl, _, HR3.out, f1, HPA.out.1.trans f2, HF3.out⟩
                  · have qb : ¬ e < b := Nat.not_lt.2 qb'
                    have qbi : ¬ (e : Int) < (b : Int) := by have := qb; omega
                    have qbd : decide (e < b) = false := decide_eq_false qb
                    have HR1 := HR
                    have HF1 := HF
                    have HRo := Lib.hid (show Rot d d i m e from Rot.none (by omega) (by have := HE.out; omega) (by have := HE.out; omega))
                    obtain ⟨d1, hd1⟩ : ∃ d1, d1 = d := ⟨_, rfl⟩
                    have HD1 := Lib.hid hd1
                    clear hd1
                    have HPA := Lib.hid (HCUT.out.parts HA.out HB.out (show Rot d d i m (mid + m - i) by have h := HRo.out; rw [← HE.out, ← HN.out] at h; exact h))
                    go_wp2_with fail
                    refine (IH.out a i mid d _ (by omega) HR1.out la lb (by omega) HPA.out.2.1 HPA.out.2.2.1).mono ?_
                    rintro en w3 ⟨rfl, d2, hR2, hU2, hS2, hF2⟩
                    have HR2 := Lib.hid hR2
                    have HU2 := Lib.hid hU2
                    have HS2 := Lib.hid hS2
                    have HF2 := Lib.hid (HF1.out.trans hF2)
                    clear hR2 hU2 hS2 hF2
                    go_wp2_with fail
                    have HQ := Lib.hid (show Up Pa.e d2 mid e ∧ Up Pa.e d2 e b by
                      have h := HPA.out
                      have he := HE.out
                      have hn := HN.out
                      rw [show mid + m - i = e by omega] at h
                      exact ⟨h.2.2.2.1.same (fun t g1 _ => HS2.out.off t (.inr g1)), h.2.2.2.2.1.same (fun t g1 _ => HS2.out.off t (.inr (by omega)))⟩)
                    have HR3 := HR2
                    have HF3 := HF2
                    have HU3 := Lib.hid (show Up Pa.e d2 mid b from by have h := HQ.out.1; rw [show e = b by omega] at h; exact h)
                    have HS3 := Lib.hid (show St Pa.e d2 d2 mid b from St.refl _ _ _)
                    go_returns
                    obtain ⟨f1, f2⟩ := merged (by omega) (by omega) HPA.out.2.2.2.2.2 HU2.out HS2.out HU3.out HS3.out
                    exact ⟨rfl, _, HR3.out, f1, HPA.out.1.trans f2, HF3.out⟩
                · have qa : ¬ mid < e := Nat.not_lt.2 qa'
                  have qai : ¬ (mid : Int) < (e : Int) := by have := qa; omega
                  have qad : decide (mid < e) = false := decide_eq_false qa
                  have HR1 := HR
                  have HF1 := HF
                  have HRo := Lib.hid (show Rot d d i m e from Rot.none (by omega) (by have := HE.out; omega) (by have := HE.out; omega))
                  obtain ⟨d1, hd1⟩ : ∃ d1, d1 = d := ⟨_, rfl⟩
                  have HD1 := Lib.hid hd1
                  clear hd1
                  have HPA := Lib.hid (HCUT.out.parts HA.out HB.out (show Rot d d i m (mid + m - i) by have h := HRo.out; rw [← HE.out, ← HN.out] at h; exact h))
                  go_wp2_with fail
                  refine (IH.out a i mid d _ (by omega) HR1.out la lb (by omega) HPA.out.2.1 HPA.out.2.2.1).mono ?_
                  rintro en w3 ⟨rfl, d2, hR2, hU2, hS2, hF2⟩
                  have HR2 := Lib.hid hR2
                  have HU2 := Lib.hid hU2
                  have HS2 := Lib.hid hS2
                  have HF2 := Lib.hid (HF1.out.trans hF2)
                  clear hR2 hU2 hS2 hF2
                  go_wp2_with fail
                  have HQ := Lib.hid (show Up Pa.e d2 mid e ∧ Up Pa.e d2 e b by
                    have h := HPA.out
                    have he := HE.out
                    have hn := HN.out
                    rw [show mid + m - i = e by omega] at h
                    exact ⟨h.2.2.2.1.same (fun t g1 _ => HS2.out.off t (.inr g1)), h.2.2.2.2.1.same (fun t g1 _ => HS2.out.off t (.inr (by omega)))⟩)
                  have HR3 := HR2
                  have HF3 := HF2
                  have HU3 := Lib.hid (show Up Pa.e d2 mid b from by have h := HQ.out.2; rw [show e = mid by omega] at h; exact h)
                  have HS3 := Lib.hid (show St Pa.e d2 d2 mid b from St.refl _ _ _)
                  go_returns
                  obtain ⟨f1, f2⟩ := merged (by omega) (by omega) HPA.out.2.2.2.2.2 HU2.out HS2.out HU3.out HS3.out
                  exact ⟨rfl, _, HR3.out, f1, HPA.out.1.trans f2, HF3.out⟩
              · have lb : ¬ i < mid := Nat.not_lt.2 lb'
                have lbi : ¬ (i : Int) < (mid : Int) := by have := lb; omega
                have lbd : decide (i < mid) = false := decide_eq_false lb
                rcases Nat.lt_or_ge mid e with qa | qa'
                · have qai : (mid : Int) < (e : Int) := by have := qa; omega
                  have qad : decide (mid < e) = true := decide_eq_true qa
                  rcases Nat.lt_or_ge e b with qb | qb'
                  · have qbi : (e : Int) < (b : Int) := by have := qb; omega
                    have qbd : decide (e < b) = true := decide_eq_true qb
                    have HR1 := HR
                    have HF1 := HF
                    have HRo := Lib.hid (show Rot d d i m e from Rot.none (by omega) (by have := HE.out; omega) (by have := HE.out; omega))
                    obtain ⟨d1, hd1⟩ : ∃ d1, d1 = d := ⟨_, rfl⟩
                    have HD1 := Lib.hid hd1
                    clear hd1
                    have HPA := Lib.hid (HCUT.out.parts HA.out HB.out (show Rot d d i m (mid + m - i) by have h := HRo.out; rw [← HE.out, ← HN.out] at h; exact h))
                    go_wp2_with fail
                    have HR2 := HR1
                    have HF2 := HF1
                    have HU2 := Lib.hid (show Up Pa.e d a mid from by have h := HPA.out.2.1; rw [show i = mid by omega] at h; exact h)
                    have HS2 := Lib.hid (show St Pa.e d d a mid from St.refl _ _ _)
                    have HQ := Lib.hid (show Up Pa.e d mid e ∧ Up Pa.e d e b by
                      have h := HPA.out
                      have he := HE.out
                      have hn := HN.out
                      rw [show mid + m - i = e by omega] at h
                      exact ⟨h.2.2.2.1.same (fun t g1 _ => HS2.out.off t (.inr g1)), h.2.2.2.2.1.same (fun t g1 _ => HS2.out.off t (.inr (by omega)))⟩)
                    refine (IH.out mid e b d _ (by omega) HR2.out qa qb hbN HQ.out.1 HQ.out.2).mono ?_
                    rintro en w4 ⟨rfl, d3, hR3, hU3, hS3, hF3⟩
                    have HR3 := Lib.hid hR3
                    have HU3 := Lib.hid hU3
                    have HS3 := Lib.hid hS3
                    have HF3 := Lib.hid (HF2.out.trans hF3)
                    clear hR3 hU3 hS3 hF3
                    go_wp2_with fail
                    go_returns
                    obtain ⟨f1, f2⟩ := merged (by omega) (by omega) HPA.out.2.2.2.2.2 HU2.out HS2.out HU3.out HS3.out
                    exact ⟨rfl, _, HR3.out, f1, HPA.out.1.trans f2, HF3.out⟩
                  · have qb : ¬ e < b := Nat.not_lt.2 qb'
                    have qbi : ¬ (e : Int) < (b : Int) := by have := qb; omega
                    have qbd : decide (e < b) = false := decide_eq_false qb
                    have HR1 := HR
                    have HF1 := HF
                    have HRo := Lib.hid (show Rot d d i m e from Rot.none (by omega) (by have := HE.out; omega) (by have := HE.out; omega))
                    obtain ⟨d1, hd1⟩ : ∃ d1, d1 = d := ⟨_, rfl⟩
                    have HD1 := Lib.hid hd1
                    clear hd1
                    have HPA := Lib.hid (HCUT.out.parts HA.out HB.out (show Rot d d i m (mid + m - i) by have h := HRo.out; rw [← HE.out, ← HN.out] at h; exact h))
                    go_wp2_with fail
                    have HR2 := HR1
                    have HF2 := HF1
                    have HU2 := Lib.hid (show Up Pa.e d a mid from by have h := HPA.out.2.1; rw [show i = mid by omega] at h; exact h)
                    have HS2 := Lib.hid (show St Pa.e d d a mid from St.refl _ _ _)
                    have HQ := Lib.hid (show Up Pa.e d mid e ∧ Up Pa.e d e b by
                      have h := HPA.out
                      have he := HE.out
                      have hn := HN.out
                      rw [show mid + m - i = e by omega] at h
                      exact ⟨h.2.2.2.1.same (fun t g1 _ => HS2.out.off t (.inr g1)), h.2.2.2.2.1.same (fun t g1 _ => HS2.out.off t (.inr (by omega)))⟩)
                    have HR3 := HR2
                    have HF3 := HF2
                    have HU3 := Lib.hid (show Up Pa.e d mid b from by have h := HQ.out.1; rw [show e = b by omega] at h; exact h)
                    have HS3 := Lib.hid (show St Pa.e d d mid b from St.refl _ _ _)
                    go_returns
                    obtain ⟨f1, f2⟩ := merged (by omega) (by omega) HPA.out.2.2.2.2.2 HU2.out HS2.out HU3.out HS3.out
                    exact ⟨rfl, _, HR3.out, f1, HPA.out.1.trans f2, HF3.out⟩
                · have qa : ¬ mid < e := Nat.not_lt.2 qa'
                  have qai : ¬ (mid : Int) < (e : Int) := by have := qa; omega
                  have qad : decide (mid < e) = false := decide_eq_false qa
                  have HR1 := HR
                  have HF1 := HF
                  have HRo := Lib.hid (show Rot d d i m e from Rot.none (by omega) (by have := HE.out; omega) (by have := HE.out; omega))
                  obtain ⟨d1, hd1⟩ : ∃ d1, d1 = d := ⟨_, rfl⟩
                  have HD1 := Lib.hid hd1
                  clear hd1
                  have HPA := Lib.hid (HCUT.out.parts HA.out HB.out (show Rot d d i m (mid + m - i) by have h := HRo.out; rw [← HE.out, ← HN.out] at h; exact h))
                  go_wp2_with fail
                  have HR2 := HR1
                  have HF2 := HF1
                  have HU2 := Lib.hid (show Up Pa.e d a mid from by have h := HPA.out.2.1; rw [show i = mid by omega] at h; exact h)
                  have HS2 := Lib.hid (show St Pa.e d d a mid from St.refl _ _ _)
                  have HQ := Lib.hid (show Up Pa.e d mid e ∧ Up Pa.e d e b by
                    have h := HPA.out
                    have he := HE.out
                    have hn := HN.out
                    rw [show mid + m - i = e by omega] at h
                    exact ⟨h.2.2.2.1.same (fun t g1 _ => HS2.out.off t (.inr g1)), h.2.2.2.2.1.same (fun t g1 _ => HS2.out.off t (.inr (by omega)))⟩)
                  have HR3 := HR2
                  have HF3 := HF2
                  have HU3 := Lib.hid (show Up Pa.e d mid b from by have h := HQ.out.2; rw [show e = mid by omega] at h; exact h)
                  have HS3 := Lib.hid (show St Pa.e d d mid b from St.refl _ _ _)
                  go_returns
                  obtain ⟨f1, f2⟩ := merged (by omega) (by omega) HPA.out.2.2.2.2.2 HU2.out HS2.out HU3.out HS3.out
                  exact ⟨rfl, _, HR3.out, f1, HPA.out.1.trans f2, HF3.out⟩
            · have la : ¬ a < i := Nat.not_lt.2 la'
              have lai : ¬ (a : Int) < (i : Int) := by have := la; omega
              have lad : decide (a < i) = false := decide_eq_false la
              rcases Nat.lt_or_ge mid e with qa | qa'
              · have qai : (mid : Int) < (e : Int) := by have := qa; omega
                have qad : decide (mid < e) = true := decide_eq_true qa
                rcases Nat.lt_or_ge e b with qb | qb'
                · have qbi : (e : Int) < (b : Int) := by have := qb; omega
                  have qbd : decide (e < b) = true := decide_eq_true qb
                  have HR1 := HR
                  have HF1 := HF
                  have HRo := Lib.hid (show Rot d d i m e from Rot.none (by omega) (by have := HE.out; omega) (by have := HE.out; omega))
                  obtain ⟨d1, hd1⟩ : ∃ d1, d1 = d := ⟨_, rfl⟩
                  have HD1 := Lib.hid hd1
                  clear hd1
                  have HPA := Lib.hid (HCUT.out.parts HA.out HB.out (show Rot d d i m (mid + m - i) by have h := HRo.out; rw [← HE.out, ← HN.out] at h; exact h))
                  go_wp2_with fail
                  have HR2 := HR1
                  have HF2 := HF1
                  have HU2 := Lib.hid (show Up Pa.e d a mid from by have h := HPA.out.2.2.1; rw [show i = a by omega] at h; exact h)
                  have HS2 := Lib.hid (show St Pa.e d d a mid from St.refl _ _ _)
                  have HQ := Lib.hid (show Up Pa.e d mid e ∧ Up Pa.e d e b by
                    have h := HPA.out
                    have he := HE.out
                    have hn := HN.out
                    rw [show mid + m - i = e by omega] at h
                    exact ⟨h.2.2.2.1.same (fun t g1 _ => HS2.out.off t (.inr g1)), h.2.2.2.2.1.same (fun t g1 _ => HS2.out.off t (.inr (by omega)))⟩)
                  refine (IH.out mid e b d _ (by omega) HR2.out qa qb hbN HQ.out.1 HQ.out.2).mono ?_
                  rintro en w4 ⟨rfl, d3, hR3, hU3, hS3, hF3⟩
                  have HR3 := Lib.hid hR3
                  have HU3 := Lib.hid hU3
                  have HS3 := Lib.hid hS3
                  have HF3 := Lib.hid (HF2.out.trans hF3)
                  clear hR3 hU3 hS3 hF3
                  go_wp2_with fail
                  go_returns
                  obtain ⟨f1, f2⟩ := merged (by omega) (by omega) HPA.out.2.2.2.2.2 HU2.out HS2.out HU3.out HS3.out
                  exact ⟨rfl, _, HR3.out, f1, HPA.out.1.trans f2, HF3.out⟩
                · have qb : ¬ e < b := Nat.not_lt.2 qb'
                  have qbi : ¬ (e : Int) < (b : Int) := by have := qb; omega
                  have qbd : decide (e < b) = false := decide_eq_false qb
                  have HR1 := HR
                  have HF1 := HF
                  have HRo := Lib.hid (show Rot d d i m e from Rot.none (by omega) (by have := HE.out; omega) (by have := HE.out; omega))
                  obtain ⟨d1, hd1⟩ : ∃ d1, d1 = d := ⟨_, rfl⟩
                  have HD1 := Lib.hid hd1
                  clear hd1
                  have HPA := Lib.hid (HCUT.out.parts HA.out HB.out (show Rot d d i m (mid + m - i) by have h := HRo.out; rw [← HE.out, ← HN.out] at h; exact h))
                  go_wp2_with fail
                  have HR2 := HR1
                  have HF2 := HF1
                  have HU2 := Lib.hid (show Up Pa.e d a mid from by have h := HPA.out.2.2.1; rw [show i = a by omega] at h; exact h)
                  have HS2 := Lib.hid (show St Pa.e d d a mid from St.refl _ _ _)
                  have HQ := Lib.hid (show Up Pa.e d mid e ∧ Up Pa.e d e b by
                    have h := HPA.out
                    have he := HE.out
                    have hn := HN.out
                    rw [show mid + m - i = e by omega] at h
                    exact ⟨h.2.2.2.1.same (fun t g1 _ => HS2.out.off t (.inr g1)), h.2.2.2.2.1.same (fun t g1 _ => HS2.out.off t (.inr (by omega)))⟩)
                  have HR3 := HR2
                  have HF3 := HF2
                  have HU3 := Lib.hid (show Up Pa.e d mid b from by have h := HQ.out.1; rw [show e = b by omega] at h; exact h)
                  have HS3 := Lib.hid (show St Pa.e d d mid b from St.refl _ _ _)
                  go_returns
                  obtain ⟨f1, f2⟩ := merged (by omega) (by omega) HPA.out.2.2.2.2.2 HU2.out HS2.out HU3.out HS3.out
                  exact ⟨rfl, _, HR3.out, f1, HPA.out.1.trans f2, HF3.out⟩
              · have qa : ¬ mid < e := Nat.not_lt.2 qa'
                have qai : ¬ (mid : Int) < (e : Int) := by have := qa; omega
                have qad : decide (mid < e) = false := decide_eq_false qa
                have HR1 := HR
                have HF1 := HF
                have HRo := Lib.hid (show Rot d d i m e from Rot.none (by omega) (by have := HE.out; omega) (by have := HE.out; omega))
                obtain ⟨d1, hd1⟩ : ∃ d1, d1 = d := ⟨_, rfl⟩
                have HD1 := Lib.hid hd1
                clear hd1
                have HPA := Lib.hid (HCUT.out.parts HA.out HB.out (show Rot d d i m (mid + m - i) by have h := HRo.out; rw [← HE.out, ← HN.out] at h; exact h))
                go_wp2_with fail
                have HR2 := HR1
                have HF2 := HF1
                have HU2 := Lib.hid (show Up Pa.e d a mid from by have h := HPA.out.2.2.1; rw [show i = a by omega] at h; exact h)
                have HS2 := Lib.hid (show St Pa.e d d a mid from St.refl _ _ _)
                have HQ := Lib.hid (show Up Pa.e d mid e ∧ Up Pa.e d e b by
                  have h := HPA.out
                  have he := HE.out
                  have hn := HN.out
                  rw [show mid + m - i = e by omega] at h
                  exact ⟨h.2.2.2.1.same (fun t g1 _ => HS2.out.off t (.inr g1)), h.2.2.2.2.1.same (fun t g1 _ => HS2.out.off t (.inr (by omega)))⟩)
                have HR3 := HR2
                have HF3 := HF2
                have HU3 := Lib.hid (show Up Pa.e d mid b from by have h := HQ.out.2; rw [show e = mid by omega] at h; exact h)
                have HS3 := Lib.hid (show St Pa.e d d mid b from St.refl _ _ _)
                go_returns
                obtain ⟨f1, f2⟩ := merged (by omega) (by omega) HPA.out.2.2.2.2.2 HU2.out HS2.out HU3.out HS3.out
                exact ⟨rfl, _, HR3.out, f1, HPA.out.1.trans f2, HF3.out⟩
        · have ra : ¬ i < m := Nat.not_lt.2 ra'
          have rai : ¬ (i : Int) < (m : Int) := by have := ra; omega
          have rad : decide (i < m) = false := decide_eq_false ra
          rcases Nat.lt_or_ge a i with la | la'
          · have lai : (a : Int) < (i : Int) := by have := la; omega
            have lad : decide (a < i) = true := decide_eq_true la
            rcases Nat.lt_or_ge i mid with lb | lb'
            · have lbi : (i : Int) < (mid : Int) := by have := lb; omega
              have lbd : decide (i < mid) = true := decide_eq_true lb
              rcases Nat.lt_or_ge mid e with qa | qa'
              · have qai : (mid : Int) < (e : Int) := by have := qa; omega
                have qad : decide (mid < e) = true := decide_eq_true qa
                rcases Nat.lt_or_ge e b with qb | qb'
                · have qbi : (e : Int) < (b : Int) := by have := qb; omega
                  have qbd : decide (e < b) = true := decide_eq_true qb
                  have HR1 := HR
                  have HF1 := HF
                  have HRo := Lib.hid (show Rot d d i m e from Rot.none (by omega) (by have := HE.out; omega) (by have := HE.out; omega))
                  obtain ⟨d1, hd1⟩ : ∃ d1, d1 = d := ⟨_, rfl⟩
                  have HD1 := Lib.hid hd1
                  clear hd1
                  have HPA := Lib.hid (HCUT.out.parts HA.out HB.out (show Rot d d i m (mid + m - i) by have h := HRo.out; rw [← HE.out, ← HN.out] at h; exact h))
                  go_wp2_with fail
                  refine (IH.out a i mid d _ (by omega) HR1.out la lb (by omega) HPA.out.2.1 HPA.out.2.2.1).mono ?_
                  rintro en w3 ⟨rfl, d2, hR2, hU2, hS2, hF2⟩
                  have HR2 := Lib.hid hR2
                  have HU2 := Lib.hid hU2
                  have HS2 := Lib.hid hS2
                  have HF2 := Lib.hid (HF1.out.trans hF2)
                  clear hR2 hU2 hS2 hF2
                  go_wp2_with fail
                  have HQ := Lib.hid (show Up Pa.e d2 mid e ∧ Up Pa.e d2 e b by
                    have h := HPA.out
                    have he := HE.out
                    have hn := HN.out
                    rw [show mid + m - i = e by omega] at h
                    exact ⟨h.2.2.2.1.same (fun t g1 _ => HS2.out.off t (.inr g1)), h.2.2.2.2.1.same (fun t g1 _ => HS2.out.off t (.inr (by omega)))⟩)
                  refine (IH.out mid e b d2 _ (by omega) HR2.out qa qb hbN HQ.out.1 HQ.out.2).mono ?_
                  rintro en w4 ⟨rfl, d3, hR3, hU3, hS3, hF3⟩
                  have HR3 := Lib.hid hR3
                  have HU3 := Lib.hid hU3
                  have HS3 := Lib.hid hS3
                  have HF3 := Lib.hid (HF2.out.trans hF3)
                  clear hR3 hU3 hS3 hF3
                  go_wp2_with fail
                  go_returns
                  obtain ⟨f1, f2⟩ := merged (by omega) (by omega) HPA.out.2.2.2.2.2 HU2.out HS2.out HU3.out HS3.out
                  exact ⟨rfl, _, HR3.out, f1, HPA.out.1.trans f2, HF3.out⟩
                · have qb : ¬ e < b := Nat.not_lt.2 qb'
                  have qbi : ¬ (e : Int) < (b : Int) := by have := qb; omega
                  have qbd : decide (e < b) = false := decide_eq_false qb
                  have HR1 := HR
                  have HF1 := HF
                  have HRo := Lib.hid (show Rot d d i m e from Rot.none (by omega) (by have := HE.out; omega) (by have := HE.out; omega))
                  obtain ⟨d1, hd1⟩ : ∃ d1, d1 = d := ⟨_, rfl⟩
                  have HD1 := Lib.hid hd1
                  clear hd1
                  have HPA := Lib.hid (HCUT.out.parts HA.out HB.out (show Rot d d i m (mid + m - i) by have h := HRo.out; rw [← HE.out, ← HN.out] at h; exact h))
                  go_wp2_with fail
                  refine (IH.out a i mid d _ (by omega) HR1.out la lb (by omega) HPA.out.2.1 HPA.out.2.2.1).mono ?_
                  rintro en w3 ⟨rfl, d2, hR2, hU2, hS2, hF2⟩
                  have HR2 := Lib.hid hR2
                  have HU2 := Lib.hid hU2
                  have HS2 := Lib.hid hS2
                  have HF2 := Lib.hid (HF1.out.trans hF2)
                  clear hR2 hU2 hS2 hF2
                  go_wp2_with fail
                  have HQ := Lib.hid (show Up Pa.e d2 mid e ∧ Up Pa.e d2 e b by
                    have h := HPA.out
                    have he := HE.out
                    have hn := HN.out
                    rw [show mid + m - i = e by omega] at h
                    exact ⟨h.2.2.2.1.same (fun t g1 _ => HS2.out.off t (.inr g1)), h.2.2.2.2.1.same (fun t g1 _ => HS2.out.off t (.inr (by omega)))⟩)
                  have HR3 := HR2
                  have HF3 := HF2
                  have HU3 := Lib.hid (show Up Pa.e d2 mid b from by have h := HQ.out.1; rw [show e = b by omega] at h; exact h)
                  have HS3 := Lib.hid (show St Pa.e d2 d2 mid b from St.refl _ _ _)
                  go_returns
                  obtain ⟨f1, f2⟩ := merged (by omega) (by omega) HPA.out.2.2.2.2.2 HU2.out HS2.out HU3.out HS3.out
                  exact ⟨rfl, _, HR3.out, f1, HPA.out.1.trans f2, HF3.out⟩
              · have qa : ¬ mid < e := Nat.not_lt.2 qa'
                have qai : ¬ (mid : Int) < (e : Int) := by have := qa; omega
                have qad : decide (mid < e) = false := decide_eq_false qa
                have HR1 := HR
                have HF1 := HF
                have HRo := Lib.hid (show Rot d d i m e from Rot.none (by omega) (by have := HE.out; omega) (by have := HE.out; omega))
                obtain ⟨d1, hd1⟩ : ∃ d1, d1 = d := ⟨_, rfl⟩
                have HD1 := Lib.hid hd1
                clear hd1
                have HPA := Lib.hid (HCUT.out.parts HA.out HB.out (show Rot d d i m (mid + m - i) by have h := HRo.out; rw [← HE.out, ← HN.out] at h; exact h))
                go_wp2_with fail
                refine (IH.out a i mid d _ (by omega) HR1.out la lb (by omega) HPA.out.2.1 HPA.out.2.2.1).mono ?_
                rintro en w3 ⟨rfl, d2, hR2, hU2, hS2, hF2⟩
                have HR2 := Lib.hid hR2
                have HU2 := Lib.hid hU2
                have HS2 := Lib.hid hS2
                have HF2 := Lib.hid (HF1.out.trans hF2)
                clear hR2 hU2 hS2 hF2
                go_wp2_with fail
                have HQ := Lib.hid (show Up Pa.e d2 mid e ∧ Up Pa.e d2 e b by
                  have h := HPA.out
                  have he := HE.out
                  have hn := HN.out
                  rw [show mid + m - i = e by omega] at h
                  exact ⟨h.2.2.2.1.same (fun t g1 _ => HS2.out.off t (.inr g1)), h.2.2.2.2.1.same (fun t g1 _ => HS2.out.off t (.inr (by omega)))⟩)
                have HR3 := HR2
                have HF3 := HF2
                have HU3 := Lib.hid (show Up Pa.e d2 mid b from by have h := HQ.out.2; rw [show e = mid by omega] at h; exact h)
                have HS3 := Lib.hid (show St Pa.e d2 d2 mid b from St.refl _ _ _)
                go_returns
                obtain ⟨f1, f2⟩ := merged (by omega) (by omega) HPA.out.2.2.2.2.2 HU2.out HS2.out HU3.out HS3.out
                exact ⟨rfl, _, HR3.out, f1, HPA.out.1.trans f2, HF3.out⟩
            · have lb : ¬ i < mid := Nat.not_lt.2 lb'
              have lbi : ¬ (i : Int) < (mid : Int) := by have := lb; omega
              have lbd : decide (i < mid) = false := decide_eq_false lb
              rcases Nat.lt_or_ge mid e with qa | qa'
              · have qai : (mid : Int) < (e : Int) := by have := qa; omega
                have qad : decide (mid < e) = true := decide_eq_true qa
                rcases Nat.lt_or_ge e b with qb | qb'
                · have qbi : (e : Int) < (b : Int) := by have := qb; omega
                  have qbd : decide (e < b) = true := decide_eq_true qb
                  have HR1 := HR
                  have HF1 := HF
                  have HRo := Lib.hid (show Rot d d i m e from Rot.none (by omega) (by have := HE.out; omega) (by have := HE.out; omega))
                  obtain ⟨d1, hd1⟩ : ∃ d1, d1 = d := ⟨_, rfl⟩
                  have HD1 := Lib.hid hd1
                  clear hd1
                  have HPA := Lib.hid (HCUT.out.parts HA.out HB.out (show Rot d d i m (mid + m - i) by have h := HRo.out; rw [← HE.out, ← HN.out] at h; exact h))
                  go_wp2_with fail
                  have HR2 := HR1
                  have HF2 := HF1
                  have HU2 := Lib.hid (show Up Pa.e d a mid from by have h := HPA.out.2.1; rw [show i = mid by omega] at h; exact h)
                  have HS2 := Lib.hid (show St Pa.e d d a mid from St.refl _ _ _)
                  have HQ := Lib.hid (show Up Pa.e d mid e ∧ Up Pa.e d e b by
                    have h := HPA.out
                    have he := HE.out
                    have hn := HN.out
                    rw [show mid + m - i = e by omega] at h
                    exact ⟨h.2.2.2.1.same (fun t g1 _ => HS2.out.off t (.inr g1)), h.2.2.2.2.1.same (fun t g1 _ => HS2.out.off t (.inr (by omega)))⟩)
                  refine (IH.out mid e b d _ (by omega) HR2.out qa qb hbN HQ.out.1 HQ.out.2).mono ?_
                  rintro en w4 ⟨rfl, d3, hR3, hU3, hS3, hF3⟩
                  have HR3 := Lib.hid hR3
                  have HU3 := Lib.hid hU3
                  have HS3 := Lib.hid hS3
                  have HF3 := Lib.hid (HF2.out.trans hF3)
                  clear hR3 hU3 hS3 hF3
                  go_wp2_with fail
                  go_returns
                  obtain ⟨f1, f2⟩ := merged (by omega) (by omega) HPA.out.2.2.2.2.2 HU2.out HS2.out HU3.out HS3.out
                  exact ⟨rfl, _, HR3.out, f1, HPA.out.1.trans f2, HF3.out⟩
                · have qb : ¬ e < b := Nat.not_lt.2 qb'
                  have qbi : ¬ (e : Int) < (b : Int) := by have := qb; omega
                  have qbd : decide (e < b) = false := decide_eq_false qb
                  have HR1 := HR
                  have HF1 := HF
                  have HRo := Lib.hid (show Rot d d i m e from Rot.none (by omega) (by have := HE.out; omega) (by have := HE.out; omega))
                  obtain ⟨d1, hd1⟩ : ∃ d1, d1 = d := ⟨_, rfl⟩
                  have HD1 := Lib.hid hd1
                  clear hd1
                  have HPA := Lib.hid (HCUT.out.parts HA.out HB.out (show Rot d d i m (mid + m - i) by have h := HRo.out; rw [← HE.out, ← HN.out] at h; exact h))
                  go_wp2_with fail
                  have HR2 := HR1
                  have HF2 := HF1
                  have HU2 := Lib.hid (show Up Pa.e d a mid from by have h := HPA.out.2.1; rw [show i = mid by omega] at h; exact h)
                  have HS2 := Lib.hid (show St Pa.e d d a mid from St.refl _ _ _)
                  have HQ := Lib.hid (show Up Pa.e d mid e ∧ Up Pa.e d e b by
                    have h := HPA.out
                    have he := HE.out
                    have hn := HN.out
                    rw [show mid + m - i = e by omega] at h
                    exact ⟨h.2.2.2.1.same (fun t g1 _ => HS2.out.off t (.inr g1)), h.2.2.2.2.1.same (fun t g1 _ => HS2.out.off t (.inr (by omega)))⟩)
                  have HR3 := HR2
                  have HF3 := HF2
                  have HU3 := Lib.hid (show Up Pa.e d mid b from by have h := HQ.out.1; rw [show e = b by omega] at h; exact h)
                  have HS3 := Lib.hid (show St Pa.e d d mid b from St.refl _ _ _)
                  go_returns
                  obtain ⟨f1, f2⟩ := merged (by omega) (by omega) HPA.out.2.2.2.2.2 HU2.out HS2.out HU3.out HS3.out
                  exact ⟨rfl, _, HR3.out, f1, HPA.out.1.trans f2, HF3.out⟩
              · have qa : ¬ mid < e := Nat.not_lt.2 qa'
                have qai : ¬ (mid : Int) < (e : Int) := by have := qa; omega
                have qad : decide (mid < e) = false := decide_eq_false qa
                have HR1 := HR
                have HF1 := HF
                have HRo := Lib.hid (show Rot d d i m e from Rot.none (by omega) (by have := HE.out; omega) (by have := HE.out; omega))
                obtain ⟨d1, hd1⟩ : ∃ d1, d1 = d := ⟨_, rfl⟩
                have HD1 := Lib.hid hd1
                clear hd1
                have HPA := Lib.hid (HCUT.out.parts HA.out HB.out (show Rot d d i m (mid + m - i) by have h := HRo.out; rw [← HE.out, ← HN.out] at h; exact h))
                go_wp2_with fail
                have HR2 := HR1
                have HF2 := HF1
                have HU2 := Lib.hid (show Up Pa.e d a mid from by have h := HPA.out.2.1; rw [show i = mid by omega] at h; exact h)
                have HS2 := Lib.hid (show St Pa.e d d a mid from St.refl _ _ _)
                have HQ := Lib.hid (show Up Pa.e d mid e ∧ Up Pa.e d e b by
                  have h := HPA.out
                  have he := HE.out
                  have hn := HN.out
                  rw [show mid + m - i = e by omega] at h
                  exact ⟨h.2.2.2.1.same (fun t g1 _ => HS2.out.off t (.inr g1)), h.2.2.2.2.1.same (fun t g1 _ => HS2.out.off t (.inr (by omega)))⟩)
                have HR3 := HR2
                have HF3 := HF2
                have HU3 := Lib.hid (show Up Pa.e d mid b from by have h := HQ.out.2; rw [show e = mid by omega] at h; exact h)
                have HS3 := Lib.hid (show St Pa.e d d mid b from St.refl _ _ _)
                go_returns
                obtain ⟨f1, f2⟩ := merged (by omega) (by omega) HPA.out.2.2.2.2.2 HU2.out HS2.out HU3.out HS3.out
                exact ⟨rfl, _, HR3.out, f1, HPA.out.1.trans f2, HF3.out⟩
          · have la : ¬ a < i := Nat.not_lt.2 la'
            have lai : ¬ (a : Int) < (i : Int) := by have := la; omega
            have lad : decide (a < i) = false := decide_eq_false la
            rcases Nat.lt_or_ge mid e with qa | qa'
            · have qai : (mid : Int) < (e : Int) := by have := qa; omega
              have qad : decide (mid < e) = true := decide_eq_true qa
              rcases Nat.lt_or_ge e b with qb | qb'
              · have qbi : (e : Int) < (b : Int) := by have := qb; omega
                have qbd : decide (e < b) = true := decide_eq_true qb
                have HR1 := HR
                have HF1 := HF
                have HRo := Lib.hid (show Rot d d i m e from Rot.none (by omega) (by have := HE.out; omega) (by have := HE.out; omega))
                obtain ⟨d1, hd1⟩ : ∃ d1, d1 = d := ⟨_, rfl⟩
                have HD1 := Lib.hid hd1
                clear hd1
                have HPA := Lib.hid (HCUT.out.parts HA.out HB.out (show Rot d d i m (mid + m - i) by have h := HRo.out; rw [← HE.out, ← HN.out] at h; exact h))
                go_wp2_with fail
                have HR2 := HR1
                have HF2 := HF1
                have HU2 := Lib.hid (show Up Pa.e d a mid from by have h := HPA.out.2.2.1; rw [show i = a by omega] at h; exact h)
                have HS2 := Lib.hid (show St Pa.e d d a mid from St.refl _ _ _)
                have HQ := Lib.hid (show Up Pa.e d mid e ∧ Up Pa.e d e b by
                  have h := HPA.out
                  have he := HE.out
                  have hn := HN.out
                  rw [show mid + m - i = e by omega] at h
                  exact ⟨h.2.2.2.1.same (fun t g1 _ => HS2.out.off t (.inr g1)), h.2.2.2.2.1.same (fun t g1 _ => HS2.out.off t (.inr (by omega)))⟩)
                refine (IH.out mid e b d _ (by omega) HR2.out qa qb hbN HQ.out.1 HQ.out.2).mono ?_
                rintro en w4 ⟨rfl, d3, hR3, hU3, hS3, hF3⟩
                have HR3 := Lib.hid hR3
                have HU3 := Lib.hid hU3
                have HS3 := Lib.hid hS3
                have HF3 := Lib.hid (HF2.out.trans hF3)
                clear hR3 hU3 hS3 hF3
                go_wp2_with fail
                go_returns
                obtain ⟨f1, f2⟩ := merged (by omega) (by omega) HPA.out.2.2.2.2.2 HU2.out HS2.out HU3.out HS3.out
                exact ⟨rfl, _, HR3.out, f1, HPA.out.1.trans f2, HF3.out⟩
              · have qb : ¬ e < b := Nat.not_lt.2 qb'
                have qbi : ¬ (e : Int) < (b : Int) := by have := qb; omega
                have qbd : decide (e < b) = false := decide_eq_false qb
                have HR1 := HR
                have HF1 := HF
                have HRo := Lib.hid (show Rot d d i m e from Rot.none (by omega) (by have := HE.out; omega) (by have := HE.out; omega))
                obtain ⟨d1, hd1⟩ : ∃ d1, d1 = d := ⟨_, rfl⟩
                have HD1 := Lib.hid hd1
                clear hd1
                have HPA := Lib.hid (HCUT.out.parts HA.out HB.out (show Rot d d i m (mid + m - i) by have h := HRo.out; rw [← HE.out, ← HN.out] at h; exact h))
                go_wp2_with fail
                have HR2 := HR1
                have HF2 := HF1
                have HU2 := Lib.hid (show Up Pa.e d a mid from by have h := HPA.out.2.2.1; rw [show i = a by omega] at h; exact h)
                have HS2 := Lib.hid (show St Pa.e d d a mid from St.refl _ _ _)
                have HQ := Lib.hid (show Up Pa.e d mid e ∧ Up Pa.e d e b by
                  have h := HPA.out
                  have he := HE.out
                  have hn := HN.out
                  rw [show mid + m - i = e by omega] at h
                  exact ⟨h.2.2.2.1.same (fun t g1 _ => HS2.out.off t (.inr g1)), h.2.2.2.2.1.same (fun t g1 _ => HS2.out.off t (.inr (by omega)))⟩)
                have HR3 := HR2
                have HF3 := HF2
                have HU3 := Lib.hid (show Up Pa.e d mid b from by have h := HQ.out.1; rw [show e = b by omega] at h; exact h)
                have HS3 := Lib.hid (show St Pa.e d d mid b from St.refl _ _ _)
                go_returns
                obtain ⟨f1, f2⟩ := merged (by omega) (by omega) HPA.out.2.2.2.2.2 HU2.out HS2.out HU3.out HS3.out
                exact ⟨rfl, _, HR3.out, f1, HPA.out.1.trans f2, HF3.out⟩
            · have qa : ¬ mid < e := Nat.not_lt.2 qa'
              have qai : ¬ (mid : Int) < (e : Int) := by have := qa; omega
              have qad : decide (mid < e) = false := decide_eq_false qa
              have HR1 := HR
              have HF1 := HF
              have HRo := Lib.hid (show Rot d d i m e from Rot.none (by omega) (by have := HE.out; omega) (by have := HE.out; omega))
              obtain ⟨d1, hd1⟩ : ∃ d1, d1 = d := ⟨_, rfl⟩
              have HD1 := Lib.hid hd1
              clear hd1
              have HPA := Lib.hid (HCUT.out.parts HA.out HB.out (show Rot d d i m (mid + m - i) by have h := HRo.out; rw [← HE.out, ← HN.out] at h; exact h))
              go_wp2_with fail
              have HR2 := HR1
              have HF2 := HF1
              have HU2 := Lib.hid (show Up Pa.e d a mid from by have h := HPA.out.2.2.1; rw [show i = a by omega] at h; exact h)
              have HS2 := Lib.hid (show St Pa.e d d a mid from St.refl _ _ _)
              have HQ := Lib.hid (show Up Pa.e d mid e ∧ Up Pa.e d e b by
                have h := HPA.out
                have he := HE.out
                have hn := HN.out
                rw [show mid + m - i = e by omega] at h
                exact ⟨h.2.2.2.1.same (fun t g1 _ => HS2.out.off t (.inr g1)), h.2.2.2.2.1.same (fun t g1 _ => HS2.out.off t (.inr (by omega)))⟩)
              have HR3 := HR2
              have HF3 := HF2
              have HU3 := Lib.hid (show Up Pa.e d mid b from by have h := HQ.out.2; rw [show e = mid by omega] at h; exact h)
              have HS3 := Lib.hid (show St Pa.e d d mid b from St.refl _ _ _)
              go_returns
              obtain ⟨f1, f2⟩ := merged (by omega) (by omega) HPA.out.2.2.2.2.2 HU2.out HS2.out HU3.out HS3.out
              exact ⟨rfl, _, HR3.out, f1, HPA.out.1.trans f2, HF3.out⟩
end Go.Proofs.Ytfpomiimloohkaa
