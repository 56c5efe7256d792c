/- The sort's walks: symMerge (printed by gensort.py). -/
import Derived.Test.YtfpomiimloohkaaSoC
import Derived.Deep.CutBlock
set_option linter.unusedSimpArgs false
set_option linter.unusedVariables false
namespace Go.Proofs.Ytfpomiimloohkaa
open Go.RowKit Go.Kp Go.So

set_option maxRecDepth 100000 in
set_option maxHeartbeats 8000000 in
theorem sym1_any {w : World} {g N : Nat} {d : Nat → Pa} (h : Row w g N d) (cap a b : Nat) (hmb : a + 1 < b) (hbN : b ≤ N) (hN : N ≤ 4611686018427387000) (hB : Up Pa.e d (a + 1) b) :
    Calls Try.prog 40 #[.slice (some ⟨g, 0, none⟩) N cap, .int .i64 a, .int .i64 ((a + 1 : Nat) : Int), .int .i64 b, cmpV] w fun e w' => e = .returned (.tuple #[]) ∧ ∃ d', Row w' g N d' ∧ Up Pa.e d' a b ∧ St Pa.e d d' a b ∧ Fr (fun b => b = g) w w' := by
  have H := Lib.hid h
  have HB := Lib.hid hB
  clear h hB
  obtain ⟨m, hm⟩ : ∃ m, a + 1 = m := ⟨_, rfl⟩
  rw [hm]
  have em : (m : Int) - (a : Int) = 1 := by omega
  have HM := Lib.hid hm
  have hmb' : m < b := by omega
  have ham : a < m := by omega
  clear hm
  go_enter Try.func40, Try.ntmps40
  go_upto_block 0 with (fail)
  clear em
  go_wp2_with fail
  go_loopw [10, 11] (fun vi vj wr => ∃ (i j : Nat), vi = .int .i64 i ∧ vj = .int .i64 j ∧ m ≤ i ∧ i ≤ j ∧ j ≤ b ∧ (∀ h, m ≤ h → h < i → (d h).e < (d a).e) ∧ (∀ h, j ≤ h → h < b → (d a).e ≤ (d h).e) ∧ Row wr g N d ∧ Fr (fun b => b = g) w wr) (fun vi vj _ => (intOf vj).toNat - (intOf vi).toNat)
  case atStart => exact ⟨m, b, rfl, rfl, Nat.le_refl _, by omega, Nat.le_refl _, fun h h1 h2 => by omega, fun h h1 h2 => by omega, H.out, Fr.refl _ _⟩
  case round =>
    rename World => wr
    obtain ⟨i, j, rfl, rfl, hmi, hij, hjb, hlo, hhi, hR, hF⟩ := hrel
    have HR := Lib.hid hR
    have HF := Lib.hid hF
    have HLO := Lib.hid hlo
    have HHI := Lib.hid hhi
    clear hR hF hlo hhi
    rcases Nat.lt_or_ge i j with hlt | hge
    · have hij' : (i : Int) < (j : Int) := by omega
      obtain ⟨s, hs⟩ : ∃ s, i + j = s := ⟨_, rfl⟩
      obtain ⟨c, hc⟩ : ∃ c, s / 2 = c := ⟨_, rfl⟩
      have es : (i : Int) + (j : Int) = (s : Int) := by omega
      have HC := Lib.hid (And.intro hs hc)
      have ec : (s : Int) / 2 = (c : Int) := by omega
      have hxN : c < N := by omega
      have hyN : a < N := by omega
      have xi : (c : Int) < (N : Int) := by omega
      have yi : (a : Int) < (N : Int) := by omega
      clear hs hc
      have wx := wrap_nat (show c ≤ 4611686018427387904 by omega)
      have wy := wrap_nat (show a ≤ 4611686018427387904 by omega)
      have lg := HR.out.lt
      have fg := HR.out.free
      have x0 := HR.out.cell hxN (show 0 < 9 by decide)
      have x1 := HR.out.cell hxN (show 1 < 9 by decide)
      have x2 := HR.out.cell hxN (show 2 < 9 by decide)
      have x3 := HR.out.cell hxN (show 3 < 9 by decide)
      have x4 := HR.out.cell hxN (show 4 < 9 by decide)
      have x5 := HR.out.cell hxN (show 5 < 9 by decide)
      have x6 := HR.out.cell hxN (show 6 < 9 by decide)
      have x7 := HR.out.cell hxN (show 7 < 9 by decide)
      have x8 := HR.out.cell hxN (show 8 < 9 by decide)
      simp only [Pa.cells, Nat.add_zero, List.getElem?_cons_zero, List.getElem?_cons_succ] at x0 x1 x2 x3 x4 x5 x6 x7 x8
      have y0 := HR.out.cell hyN (show 0 < 9 by decide)
      have y1 := HR.out.cell hyN (show 1 < 9 by decide)
      have y2 := HR.out.cell hyN (show 2 < 9 by decide)
      have y3 := HR.out.cell hyN (show 3 < 9 by decide)
      have y4 := HR.out.cell hyN (show 4 < 9 by decide)
      have y5 := HR.out.cell hyN (show 5 < 9 by decide)
      have y6 := HR.out.cell hyN (show 6 < 9 by decide)
      have y7 := HR.out.cell hyN (show 7 < 9 by decide)
      have y8 := HR.out.cell hyN (show 8 < 9 by decide)
      simp only [Pa.cells, Nat.add_zero, List.getElem?_cons_zero, List.getElem?_cons_succ] at y0 y1 y2 y3 y4 y5 y6 y7 y8
      go_wp2_with fail
      (refine region_keep (fun b => b = g) 9 [(0, true), (1, true), (2, true), (3, true), (4, true), (5, true), (6, true), (7, true), (8, true)] (by kernel_rfl) (fun _ _ d _ _ h => by cases d <;> exact h) (by kernel_rfl) ?_; simp only [withOps, List.getElem?_toArray, List.getElem?_cons_zero, List.getElem?_cons_succ, List.drop_succ_cons, List.drop_zero])
      (iterate 9 (refine keep_quiet (v := ?_) rfl ?_ ?_; rotate_left; (focus (intro w' hw'; go_simp; (try with_reducible rfl); done)); try simp only [Act.put, List.setIfInBounds_toArray, List.set_cons_zero, List.set_cons_succ]))
      (with_reducible refine plan_end ?_)
      (try simp only [Act.put, List.setIfInBounds_toArray, List.set_cons_zero, List.set_cons_succ])
      go_wp2_with fail
      refine (cmp_any (d c) (d a) _).mono ?_
      rintro en w2 ⟨rfl, hb2⟩
      have HW2 := Lib.hid (show Below wr.heap.size wr w2 from bnext ((Below.refl _ _).drew) hb2)
      clear hb2
      rcases Decidable.em ((d c).e < (d a).e) with hc | hc
      · have hc' : cmpE (d c) (d a) < 0 := cmpE_lt.2 hc
        have HCC := Lib.hid hc
        clear hc
        generalize cmpE (d c) (d a) = C at *
        have hcd : decide (C < 0) = true := decide_eq_true hc'
        go_wp2_with fail
        go_roundw
        case rel =>
          have hci := HC.out
          refine ⟨c + 1, j, by go_num, rfl, by omega, by omega, by omega, fun h h1 h2 => ?_, HHI.out, HR.out.below HW2.out, HF.out.trans (Fr.next HW2.out)⟩
          have h3 := HB.out h c (by have := HM.out; omega) (by omega) (by omega)
          have h4 := HCC.out
          omega
        case measure => have hci := HC.out; simp [intOf]; omega
      · have hc' : ¬ cmpE (d c) (d a) < 0 := fun h => hc (cmpE_lt.1 h)
        have HCC := Lib.hid hc
        clear hc
        generalize cmpE (d c) (d a) = C at *
        have hcd : decide (C < 0) = false := decide_eq_false hc'
        go_wp2_with fail
        go_roundw
        case rel =>
          have hci := HC.out
          refine ⟨i, c, rfl, rfl, by omega, by omega, by omega, HLO.out, fun h h1 h2 => ?_, HR.out.below HW2.out, HF.out.trans (Fr.next HW2.out)⟩
          have h3 := HB.out c h (by have := HM.out; omega) (by omega) (by omega)
          have h4 := HCC.out
          omega
        case measure => have hci := HC.out; simp [intOf]; omega
    · obtain rfl : i = j := by omega
      obtain ⟨i1, hi1⟩ : ∃ i1, i - 1 = i1 := ⟨_, rfl⟩
      have ei1 : (i : Int) - 1 = (i1 : Int) := by omega
      have HI1 := Lib.hid hi1
      clear hi1
      go_wp2_with fail
      go_loopw [13] (fun vk wq => ∃ (k : Nat) (d2 : Nat → Pa), vk = .int .i64 k ∧ a ≤ k ∧ k ≤ i1 ∧ Row wq g N d2 ∧ Rot d d2 a (a + 1) (k + 1) ∧ Fr (fun b => b = g) w wq) (fun vk _ => i1 - (intOf vk).toNat)
      case atStart => exact ⟨a, d, rfl, Nat.le_refl _, by have := HI1.out; omega, HR.out, Rot.none (Nat.le_succ _) (Nat.le_refl _) (.inr rfl), HF.out⟩
      case round =>
        rename World => wq
        obtain ⟨k, d2, rfl, hak, hki, hR2, hRo, hF2⟩ := hrel
        have HR2 := Lib.hid hR2
        have HRo := Lib.hid hRo
        have HF2 := Lib.hid hF2
        clear hR2 hRo hF2
        rcases Nat.lt_or_ge k i1 with hlt2 | hge2
        · have hki' : (k : Int) < (i1 : Int) := by omega
          obtain ⟨p, hp⟩ : ∃ p, k + 1 = p := ⟨_, rfl⟩
          have ep : (k : Int) + 1 = (p : Int) := by omega
          have HP := Lib.hid hp
          have hxN : k < N := by have := HI1.out; omega
          have hyN : p < N := by have := HI1.out; omega
          have hxy : k ≠ p := by omega
          have xi : (k : Int) < (N : Int) := by omega
          have yi : (p : Int) < (N : Int) := by omega
          clear hp
          have wx := wrap_nat (show k ≤ 4611686018427387904 by omega)
          have wy := wrap_nat (show p ≤ 4611686018427387904 by omega)
          have lg := HR2.out.lt
          have fg := HR2.out.free
          have x0 := HR2.out.cell hxN (show 0 < 9 by decide)
          have x1 := HR2.out.cell hxN (show 1 < 9 by decide)
          have x2 := HR2.out.cell hxN (show 2 < 9 by decide)
          have x3 := HR2.out.cell hxN (show 3 < 9 by decide)
          have x4 := HR2.out.cell hxN (show 4 < 9 by decide)
          have x5 := HR2.out.cell hxN (show 5 < 9 by decide)
          have x6 := HR2.out.cell hxN (show 6 < 9 by decide)
          have x7 := HR2.out.cell hxN (show 7 < 9 by decide)
          have x8 := HR2.out.cell hxN (show 8 < 9 by decide)
          simp only [Pa.cells, Nat.add_zero, List.getElem?_cons_zero, List.getElem?_cons_succ] at x0 x1 x2 x3 x4 x5 x6 x7 x8
          have y0 := HR2.out.cell hyN (show 0 < 9 by decide)
          have y1 := HR2.out.cell hyN (show 1 < 9 by decide)
          have y2 := HR2.out.cell hyN (show 2 < 9 by decide)
          have y3 := HR2.out.cell hyN (show 3 < 9 by decide)
          have y4 := HR2.out.cell hyN (show 4 < 9 by decide)
          have y5 := HR2.out.cell hyN (show 5 < 9 by decide)
          have y6 := HR2.out.cell hyN (show 6 < 9 by decide)
          have y7 := HR2.out.cell hyN (show 7 < 9 by decide)
          have y8 := HR2.out.cell hyN (show 8 < 9 by decide)
          simp only [Pa.cells, Nat.add_zero, List.getElem?_cons_zero, List.getElem?_cons_succ] at y0 y1 y2 y3 y4 y5 y6 y7 y8
          go_wp2_with fail
          (refine region_tree (Keep (fun b => b ≠ g)) (Keep.refl _) Keep.trans 18 (.seq [(0, true), (1, true), (2, true), (3, true), (4, true), (5, true), (6, true), (7, true), (8, true), (10, true), (11, true), (12, true)] (.fork 9 13 (.seq [(13, false), (14, true), (15, false), (16, true), (17, false)] .fin) (.seq [(9, false), (14, true), (15, false), (16, true), (17, false)] .fin))) (by kernel_rfl) (fun _ _ d _ _ h => by cases d <;> exact h) (by kernel_rfl) ?_)
          ((with_reducible refine tree_seq ?_); simp only [withOps, List.getElem?_toArray, List.getElem?_cons_zero, List.getElem?_cons_succ])
          (iterate 12 (refine keep_quiet (v := ?_) rfl ?_ ?_; rotate_left; (focus (intro w' hw'; go_simp; (try with_reducible rfl); done)); try simp only [Act.put, List.setIfInBounds_toArray, List.set_cons_zero, List.set_cons_succ]))
          (with_reducible refine plan_end ?_)
          (try simp only [Act.put, List.setIfInBounds_toArray, List.set_cons_zero, List.set_cons_succ])
          refine tree_fork ?_ ?_
          · (simp only [withOps, List.getElem?_toArray, List.getElem?_cons_zero, List.getElem?_cons_succ])
            (try simp only [Act.put, List.setIfInBounds_toArray, List.set_cons_zero, List.set_cons_succ])
            (with_reducible refine plan_loud (fun K hK => ?_))
            go_simp
            refine hK _ _ (Keep.refl _ _) ?_
            clear hK K
            (with_reducible refine plan_end ?_)
            (try simp only [Act.put, List.setIfInBounds_toArray, List.set_cons_zero, List.set_cons_succ])
            ((with_reducible refine tree_seq ?_); simp only [withOps, List.getElem?_toArray, List.getElem?_cons_zero, List.getElem?_cons_succ])
            (with_reducible refine plan_loud (fun K hK => ?_))
            go_simp
            refine hK _ _ (Keep.refl _ _) ?_
            clear hK K
            (try simp only [Act.put, List.setIfInBounds_toArray, List.set_cons_zero, List.set_cons_succ])
            (iterate 1 (refine keep_quiet (v := ?_) rfl ?_ ?_; rotate_left; (focus (intro w' hw'; go_simp; (try with_reducible rfl); done)); try simp only [Act.put, List.setIfInBounds_toArray, List.set_cons_zero, List.set_cons_succ]))
            (with_reducible refine plan_loud (fun K hK => ?_))
            go_simp
            refine hK _ _ ?_ ?_
            · (with_reducible refine Keep.drew ?_)
              (with_reducible refine Keep.of_drew ?_)
              (with_reducible exact putPa_keep)
            clear hK K
            (try simp only [Act.put, List.setIfInBounds_toArray, List.set_cons_zero, List.set_cons_succ])
            refine at_world (R := fun Z => Row Z g N (fun t => if t = k then d2 p else d2 t) ∧ Fr (fun b => b = g) wq Z) ⟨Row.drew (HR2.out.put hxN (d2 p)), putPa_fr.drew⟩ ?_
            rintro Z ⟨hRZ, hFZ⟩
            have HRZ := Lib.hid hRZ
            have HFZ := Lib.hid hFZ
            have lz := hRZ.lt
            have fz := hRZ.free
            have z0 := hRZ.cell hyN (show 0 < 9 by decide)
            have z1 := hRZ.cell hyN (show 1 < 9 by decide)
            have z2 := hRZ.cell hyN (show 2 < 9 by decide)
            have z3 := hRZ.cell hyN (show 3 < 9 by decide)
            have z4 := hRZ.cell hyN (show 4 < 9 by decide)
            have z5 := hRZ.cell hyN (show 5 < 9 by decide)
            have z6 := hRZ.cell hyN (show 6 < 9 by decide)
            have z7 := hRZ.cell hyN (show 7 < 9 by decide)
            have z8 := hRZ.cell hyN (show 8 < 9 by decide)
            simp only [Pa.cells, Nat.add_zero, List.getElem?_cons_zero, List.getElem?_cons_succ] at z0 z1 z2 z3 z4 z5 z6 z7 z8
            clear hRZ hFZ x0 x1 x2 x3 x4 x5 x6 x7 x8 y0 y1 y2 y3 y4 y5 y6 y7 y8 lg fg
            (iterate 1 (refine keep_quiet (v := ?_) rfl ?_ ?_; rotate_left; (focus (intro w' hw'; go_simp; (try with_reducible rfl); done)); try simp only [Act.put, List.setIfInBounds_toArray, List.set_cons_zero, List.set_cons_succ]))
            (with_reducible refine plan_loud (fun K hK => ?_))
            go_simp
            refine hK _ _ ?_ ?_
            · (with_reducible exact putPa_keep)
            clear hK K
            (try simp only [Act.put, List.setIfInBounds_toArray, List.set_cons_zero, List.set_cons_succ])
            ((with_reducible refine plan_end ?_); (with_reducible refine tree_fin ?_); simp only [List.drop_succ_cons, List.drop_zero]; (try simp only [Act.put, List.setIfInBounds_toArray, List.set_cons_zero, List.set_cons_succ]))
            refine at_world (R := fun Z' => Row Z' g N (fun t => if t = p then d2 k else (fun t => if t = k then d2 p else d2 t) t) ∧ Fr (fun b => b = g) wq Z') ⟨HRZ.out.put hyN (d2 k), HFZ.out.trans putPa_fr⟩ ?_
            rintro Z' ⟨hRZ, hFZ⟩
            have HRQ := Lib.hid hRZ
            have HFQ := Lib.hid hFZ
            clear hRZ hFZ z0 z1 z2 z3 z4 z5 z6 z7 z8 lz fz
            go_wp2_with fail
            go_roundw
            case rel =>
              have hp := HP.out
              refine ⟨p, _, rfl, by omega, by omega, HRQ.out, ?_, HF2.out.trans HFQ.out⟩
              have hs := Swp.of (d := d2) (x := k) (y := p) rfl hxy
              rw [← hp] at hs ⊢
              exact HRo.out.left hak hs
            case measure => have hp := HP.out; simp [intOf]; omega
          · (simp only [withOps, List.getElem?_toArray, List.getElem?_cons_zero, List.getElem?_cons_succ])
            (try simp only [Act.put, List.setIfInBounds_toArray, List.set_cons_zero, List.set_cons_succ])
            (with_reducible refine plan_loud (fun K hK => ?_))
            go_simp
            refine hK _ _ (Keep.refl _ _) ?_
            clear hK K
            (with_reducible refine plan_end ?_)
            (try simp only [Act.put, List.setIfInBounds_toArray, List.set_cons_zero, List.set_cons_succ])
            ((with_reducible refine tree_seq ?_); simp only [withOps, List.getElem?_toArray, List.getElem?_cons_zero, List.getElem?_cons_succ])
            (with_reducible refine plan_loud (fun K hK => ?_))
            go_simp
            refine hK _ _ (Keep.refl _ _) ?_
            clear hK K
            (try simp only [Act.put, List.setIfInBounds_toArray, List.set_cons_zero, List.set_cons_succ])
            (iterate 1 (refine keep_quiet (v := ?_) rfl ?_ ?_; rotate_left; (focus (intro w' hw'; go_simp; (try with_reducible rfl); done)); try simp only [Act.put, List.setIfInBounds_toArray, List.set_cons_zero, List.set_cons_succ]))
            (with_reducible refine plan_loud (fun K hK => ?_))
            go_simp
            refine hK _ _ ?_ ?_
            · (with_reducible refine Keep.drew ?_)
              (with_reducible refine Keep.of_drew ?_)
              (with_reducible exact putPa_keep)
            clear hK K
            (try simp only [Act.put, List.setIfInBounds_toArray, List.set_cons_zero, List.set_cons_succ])
            refine at_world (R := fun Z => Row Z g N (fun t => if t = k then d2 p else d2 t) ∧ Fr (fun b => b = g) wq Z) ⟨Row.drew (HR2.out.put hxN (d2 p)), putPa_fr.drew⟩ ?_
            rintro Z ⟨hRZ, hFZ⟩
            have HRZ := Lib.hid hRZ
            have HFZ := Lib.hid hFZ
            have lz := hRZ.lt
            have fz := hRZ.free
            have z0 := hRZ.cell hyN (show 0 < 9 by decide)
            have z1 := hRZ.cell hyN (show 1 < 9 by decide)
            have z2 := hRZ.cell hyN (show 2 < 9 by decide)
            have z3 := hRZ.cell hyN (show 3 < 9 by decide)
            have z4 := hRZ.cell hyN (show 4 < 9 by decide)
            have z5 := hRZ.cell hyN (show 5 < 9 by decide)
            have z6 := hRZ.cell hyN (show 6 < 9 by decide)
            have z7 := hRZ.cell hyN (show 7 < 9 by decide)
            have z8 := hRZ.cell hyN (show 8 < 9 by decide)
            simp only [Pa.cells, Nat.add_zero, List.getElem?_cons_zero, List.getElem?_cons_succ] at z0 z1 z2 z3 z4 z5 z6 z7 z8
            clear hRZ hFZ x0 x1 x2 x3 x4 x5 x6 x7 x8 y0 y1 y2 y3 y4 y5 y6 y7 y8 lg fg
            (iterate 1 (refine keep_quiet (v := ?_) rfl ?_ ?_; rotate_left; (focus (intro w' hw'; go_simp; (try with_reducible rfl); done)); try simp only [Act.put, List.setIfInBounds_toArray, List.set_cons_zero, List.set_cons_succ]))
            (with_reducible refine plan_loud (fun K hK => ?_))
            go_simp
            refine hK _ _ ?_ ?_
            · (with_reducible exact putPa_keep)
            clear hK K
            (try simp only [Act.put, List.setIfInBounds_toArray, List.set_cons_zero, List.set_cons_succ])
            ((with_reducible refine plan_end ?_); (with_reducible refine tree_fin ?_); simp only [List.drop_succ_cons, List.drop_zero]; (try simp only [Act.put, List.setIfInBounds_toArray, List.set_cons_zero, List.set_cons_succ]))
            refine at_world (R := fun Z' => Row Z' g N (fun t => if t = p then d2 k else (fun t => if t = k then d2 p else d2 t) t) ∧ Fr (fun b => b = g) wq Z') ⟨HRZ.out.put hyN (d2 k), HFZ.out.trans putPa_fr⟩ ?_
            rintro Z' ⟨hRZ, hFZ⟩
            have HRQ := Lib.hid hRZ
            have HFQ := Lib.hid hFZ
            clear hRZ hFZ z0 z1 z2 z3 z4 z5 z6 z7 z8 lz fz
            go_wp2_with fail
            go_roundw
            case rel =>
              have hp := HP.out
              refine ⟨p, _, rfl, by omega, by omega, HRQ.out, ?_, HF2.out.trans HFQ.out⟩
              have hs := Swp.of (d := d2) (x := k) (y := p) rfl hxy
              rw [← hp] at hs ⊢
              exact HRo.out.left hak hs
            case measure => have hp := HP.out; simp [intOf]; omega
        · obtain rfl : k = i1 := by omega
          have hki' : ¬ (k : Int) < (k : Int) := by omega
          go_wp2_with fail
          go_returns
          have hm := HM.out
          have hi1 := HI1.out
          have hro := HRo.out
          rw [show k + 1 = i by omega] at hro
          obtain ⟨k1, k2⟩ := one_left (by omega) hjb HB.out (fun h h1 h2 => HLO.out h (by omega) h2) HHI.out hro
          exact ⟨rfl, d2, HR2.out, k1, k2, HF2.out⟩
set_option maxRecDepth 100000 in
set_option maxHeartbeats 8000000 in
theorem sym2_any {w : World} {g N : Nat} {d : Nat → Pa} (h : Row w g N d) (cap a m : Nat) (ham : a + 1 < m) (hbN : m + 1 ≤ N) (hN : N ≤ 4611686018427387000) (hA : Up Pa.e d a m) :
    Calls Try.prog 40 #[.slice (some ⟨g, 0, none⟩) N cap, .int .i64 a, .int .i64 m, .int .i64 ((m + 1 : Nat) : Int), cmpV] w fun e w' => e = .returned (.tuple #[]) ∧ ∃ d', Row w' g N d' ∧ Up Pa.e d' a (m + 1) ∧ St Pa.e d d' a (m + 1) ∧ Fr (fun b => b = g) w w' := by
  have H := Lib.hid h
  have HA := Lib.hid hA
  clear h hA
  obtain ⟨b, hb⟩ : ∃ b, m + 1 = b := ⟨_, rfl⟩
  rw [hb]
  have em : (b : Int) - (m : Int) = 1 := by omega
  obtain ⟨q, hq⟩ : ∃ q, m - a = q := ⟨_, rfl⟩
  have eq : (m : Int) - (a : Int) = (q : Int) := by omega
  have hq1 : ¬ (q : Int) = 1 := by omega
  have hq2 : ¬ q = 1 := by omega
  have hq3 : ((q : Int) == 1) = false := by simp; omega
  have HM := Lib.hid hb
  clear hb hq
  go_enter Try.func40, Try.ntmps40
  go_upto_block 4 with (fail)
  clear em eq hq1 hq2 hq3
  go_wp2_with fail
  go_loopw [14, 15] (fun vi vj wr => ∃ (i j : Nat), vi = .int .i64 i ∧ vj = .int .i64 j ∧ a ≤ i ∧ i ≤ j ∧ j ≤ m ∧ (∀ h, a ≤ h → h < i → (d h).e ≤ (d m).e) ∧ (∀ h, j ≤ h → h < m → (d m).e < (d h).e) ∧ Row wr g N d ∧ Fr (fun b => b = g) w wr) (fun vi vj _ => (intOf vj).toNat - (intOf vi).toNat)
  case atStart => exact ⟨a, m, rfl, rfl, Nat.le_refl _, by omega, Nat.le_refl _, fun h h1 h2 => by omega, fun h h1 h2 => by omega, H.out, Fr.refl _ _⟩
  case round =>
    rename World => wr
    obtain ⟨i, j, rfl, rfl, hmi, hij, hjb, hlo, hhi, hR, hF⟩ := hrel
    have HR := Lib.hid hR
    have HF := Lib.hid hF
    have HLO := Lib.hid hlo
    have HHI := Lib.hid hhi
    clear hR hF hlo hhi
    rcases Nat.lt_or_ge i j with hlt | hge
    · have hij' : (i : Int) < (j : Int) := by omega
      obtain ⟨s, hs⟩ : ∃ s, i + j = s := ⟨_, rfl⟩
      obtain ⟨c, hc⟩ : ∃ c, s / 2 = c := ⟨_, rfl⟩
      have es : (i : Int) + (j : Int) = (s : Int) := by omega
      have HC := Lib.hid (And.intro hs hc)
      have ec : (s : Int) / 2 = (c : Int) := by omega
      have hxN : m < N := by omega
      have hyN : c < N := by omega
      have xi : (m : Int) < (N : Int) := by omega
      have yi : (c : Int) < (N : Int) := by omega
      clear hs hc
      have wx := wrap_nat (show m ≤ 4611686018427387904 by omega)
      have wy := wrap_nat (show c ≤ 4611686018427387904 by omega)
      have lg := HR.out.lt
      have fg := HR.out.free
      have x0 := HR.out.cell hxN (show 0 < 9 by decide)
      have x1 := HR.out.cell hxN (show 1 < 9 by decide)
      have x2 := HR.out.cell hxN (show 2 < 9 by decide)
      have x3 := HR.out.cell hxN (show 3 < 9 by decide)
      have x4 := HR.out.cell hxN (show 4 < 9 by decide)
      have x5 := HR.out.cell hxN (show 5 < 9 by decide)
      have x6 := HR.out.cell hxN (show 6 < 9 by decide)
      have x7 := HR.out.cell hxN (show 7 < 9 by decide)
      have x8 := HR.out.cell hxN (show 8 < 9 by decide)
      simp only [Pa.cells, Nat.add_zero, List.getElem?_cons_zero, List.getElem?_cons_succ] at x0 x1 x2 x3 x4 x5 x6 x7 x8
      have y0 := HR.out.cell hyN (show 0 < 9 by decide)
      have y1 := HR.out.cell hyN (show 1 < 9 by decide)
      have y2 := HR.out.cell hyN (show 2 < 9 by decide)
      have y3 := HR.out.cell hyN (show 3 < 9 by decide)
      have y4 := HR.out.cell hyN (show 4 < 9 by decide)
      have y5 := HR.out.cell hyN (show 5 < 9 by decide)
      have y6 := HR.out.cell hyN (show 6 < 9 by decide)
      have y7 := HR.out.cell hyN (show 7 < 9 by decide)
      have y8 := HR.out.cell hyN (show 8 < 9 by decide)
      simp only [Pa.cells, Nat.add_zero, List.getElem?_cons_zero, List.getElem?_cons_succ] at y0 y1 y2 y3 y4 y5 y6 y7 y8
      go_wp2_with fail
      (refine region_keep (fun b => b = g) 9 [(0, true), (1, true), (2, true), (3, true), (4, true), (5, true), (6, true), (7, true), (8, true)] (by kernel_rfl) (fun _ _ d _ _ h => by cases d <;> exact h) (by kernel_rfl) ?_; simp only [withOps, List.getElem?_toArray, List.getElem?_cons_zero, List.getElem?_cons_succ, List.drop_succ_cons, List.drop_zero])
      (iterate 9 (refine keep_quiet (v := ?_) rfl ?_ ?_; rotate_left; (focus (intro w' hw'; go_simp; (try with_reducible rfl); done)); try simp only [Act.put, List.setIfInBounds_toArray, List.set_cons_zero, List.set_cons_succ]))
      (with_reducible refine plan_end ?_)
      (try simp only [Act.put, List.setIfInBounds_toArray, List.set_cons_zero, List.set_cons_succ])
      go_wp2_with fail
      refine (cmp_any (d m) (d c) _).mono ?_
      rintro en w2 ⟨rfl, hb2⟩
      have HW2 := Lib.hid (show Below wr.heap.size wr w2 from bnext ((Below.refl _ _).drew) hb2)
      clear hb2
      rcases Decidable.em ((d m).e < (d c).e) with hc | hc
      · have hc' : cmpE (d m) (d c) < 0 := cmpE_lt.2 hc
        have HCC := Lib.hid hc
        clear hc
        generalize cmpE (d m) (d c) = C at *
        have hcd : decide (C < 0) = true := decide_eq_true hc'
        go_wp2_with fail
        go_roundw
        case rel =>
          have hci := HC.out
          refine ⟨i, c, rfl, rfl, by omega, by omega, by omega, HLO.out, fun h h1 h2 => ?_, HR.out.below HW2.out, HF.out.trans (Fr.next HW2.out)⟩
          have h3 := HA.out c h (by omega) (by omega) (by omega)
          have h4 := HCC.out
          omega
        case measure => have hci := HC.out; simp [intOf]; omega
      · have hc' : ¬ cmpE (d m) (d c) < 0 := fun h => hc (cmpE_lt.1 h)
        have HCC := Lib.hid hc
        clear hc
        generalize cmpE (d m) (d c) = C at *
        have hcd : decide (C < 0) = false := decide_eq_false hc'
        go_wp2_with fail
        go_roundw
        case rel =>
          have hci := HC.out
          refine ⟨c + 1, j, by go_num, rfl, by omega, by omega, by omega, fun h h1 h2 => ?_, HHI.out, HR.out.below HW2.out, HF.out.trans (Fr.next HW2.out)⟩
          have h3 := HA.out h c (by omega) (by omega) (by omega)
          have h4 := HCC.out
          omega
        case measure => have hci := HC.out; simp [intOf]; omega
    · obtain rfl : i = j := by omega
      go_wp2_with fail
      go_loopw [17] (fun vk wq => ∃ (k : Nat) (d2 : Nat → Pa), vk = .int .i64 k ∧ i ≤ k ∧ k ≤ m ∧ Row wq g N d2 ∧ Rot d d2 k m (m + 1) ∧ Fr (fun b => b = g) w wq) (fun vk _ => (intOf vk).toNat)
      case atStart => exact ⟨m, d, rfl, hjb, Nat.le_refl _, HR.out, Rot.none (Nat.le_refl _) (Nat.le_succ _) (.inl rfl), HF.out⟩
      case round =>
        rename World => wq
        obtain ⟨k, d2, rfl, hak, hki, hR2, hRo, hF2⟩ := hrel
        have HR2 := Lib.hid hR2
        have HRo := Lib.hid hRo
        have HF2 := Lib.hid hF2
        clear hR2 hRo hF2
        rcases Nat.lt_or_ge i k with hlt2 | hge2
        · have hki' : (i : Int) < (k : Int) := by omega
          obtain ⟨p, hp⟩ : ∃ p, k - 1 = p := ⟨_, rfl⟩
          have ep : (k : Int) - 1 = (p : Int) := by omega
          have HP := Lib.hid hp
          have hxN : k < N := by omega
          have hyN : p < N := by omega
          have hxy : k ≠ p := by omega
          have xi : (k : Int) < (N : Int) := by omega
          have yi : (p : Int) < (N : Int) := by omega
          clear hp
          have wx := wrap_nat (show k ≤ 4611686018427387904 by omega)
          have wy := wrap_nat (show p ≤ 4611686018427387904 by omega)
          have lg := HR2.out.lt
          have fg := HR2.out.free
          have x0 := HR2.out.cell hxN (show 0 < 9 by decide)
          have x1 := HR2.out.cell hxN (show 1 < 9 by decide)
          have x2 := HR2.out.cell hxN (show 2 < 9 by decide)
          have x3 := HR2.out.cell hxN (show 3 < 9 by decide)
          have x4 := HR2.out.cell hxN (show 4 < 9 by decide)
          have x5 := HR2.out.cell hxN (show 5 < 9 by decide)
          have x6 := HR2.out.cell hxN (show 6 < 9 by decide)
          have x7 := HR2.out.cell hxN (show 7 < 9 by decide)
          have x8 := HR2.out.cell hxN (show 8 < 9 by decide)
          simp only [Pa.cells, Nat.add_zero, List.getElem?_cons_zero, List.getElem?_cons_succ] at x0 x1 x2 x3 x4 x5 x6 x7 x8
          have y0 := HR2.out.cell hyN (show 0 < 9 by decide)
          have y1 := HR2.out.cell hyN (show 1 < 9 by decide)
          have y2 := HR2.out.cell hyN (show 2 < 9 by decide)
          have y3 := HR2.out.cell hyN (show 3 < 9 by decide)
          have y4 := HR2.out.cell hyN (show 4 < 9 by decide)
          have y5 := HR2.out.cell hyN (show 5 < 9 by decide)
          have y6 := HR2.out.cell hyN (show 6 < 9 by decide)
          have y7 := HR2.out.cell hyN (show 7 < 9 by decide)
          have y8 := HR2.out.cell hyN (show 8 < 9 by decide)
          simp only [Pa.cells, Nat.add_zero, List.getElem?_cons_zero, List.getElem?_cons_succ] at y0 y1 y2 y3 y4 y5 y6 y7 y8
          go_wp2_with fail
          (refine region_tree (Keep (fun b => b ≠ g)) (Keep.refl _) Keep.trans 18 (.seq [(0, true), (1, true), (2, true), (3, true), (4, true), (5, true), (6, true), (7, true), (8, true), (10, true), (11, true), (12, true)] (.fork 9 13 (.seq [(13, false), (14, true), (15, false), (16, true), (17, false)] .fin) (.seq [(9, false), (14, true), (15, false), (16, true), (17, false)] .fin))) (by kernel_rfl) (fun _ _ d _ _ h => by cases d <;> exact h) (by kernel_rfl) ?_)
          ((with_reducible refine tree_seq ?_); simp only [withOps, List.getElem?_toArray, List.getElem?_cons_zero, List.getElem?_cons_succ])
          (iterate 12 (refine keep_quiet (v := ?_) rfl ?_ ?_; rotate_left; (focus (intro w' hw'; go_simp; (try with_reducible rfl); done)); try simp only [Act.put, List.setIfInBounds_toArray, List.set_cons_zero, List.set_cons_succ]))
          (with_reducible refine plan_end ?_)
          (try simp only [Act.put, List.setIfInBounds_toArray, List.set_cons_zero, List.set_cons_succ])
          refine tree_fork ?_ ?_
          · (simp only [withOps, List.getElem?_toArray, List.getElem?_cons_zero, List.getElem?_cons_succ])
            (try simp only [Act.put, List.setIfInBounds_toArray, List.set_cons_zero, List.set_cons_succ])
            (with_reducible refine plan_loud (fun K hK => ?_))
            go_simp
            refine hK _ _ (Keep.refl _ _) ?_
            clear hK K
            (with_reducible refine plan_end ?_)
            (try simp only [Act.put, List.setIfInBounds_toArray, List.set_cons_zero, List.set_cons_succ])
            ((with_reducible refine tree_seq ?_); simp only [withOps, List.getElem?_toArray, List.getElem?_cons_zero, List.getElem?_cons_succ])
            (with_reducible refine plan_loud (fun K hK => ?_))
            go_simp
            refine hK _ _ (Keep.refl _ _) ?_
            clear hK K
            (try simp only [Act.put, List.setIfInBounds_toArray, List.set_cons_zero, List.set_cons_succ])
            (iterate 1 (refine keep_quiet (v := ?_) rfl ?_ ?_; rotate_left; (focus (intro w' hw'; go_simp; (try with_reducible rfl); done)); try simp only [Act.put, List.setIfInBounds_toArray, List.set_cons_zero, List.set_cons_succ]))
            (with_reducible refine plan_loud (fun K hK => ?_))
            go_simp
            refine hK _ _ ?_ ?_
            · (with_reducible refine Keep.drew ?_)
              (with_reducible refine Keep.of_drew ?_)
              (with_reducible exact putPa_keep)
            clear hK K
            (try simp only [Act.put, List.setIfInBounds_toArray, List.set_cons_zero, List.set_cons_succ])
            refine at_world (R := fun Z => Row Z g N (fun t => if t = k then d2 p else d2 t) ∧ Fr (fun b => b = g) wq Z) ⟨Row.drew (HR2.out.put hxN (d2 p)), putPa_fr.drew⟩ ?_
            rintro Z ⟨hRZ, hFZ⟩
            have HRZ := Lib.hid hRZ
            have HFZ := Lib.hid hFZ
            have lz := hRZ.lt
            have fz := hRZ.free
            have z0 := hRZ.cell hyN (show 0 < 9 by decide)
            have z1 := hRZ.cell hyN (show 1 < 9 by decide)
            have z2 := hRZ.cell hyN (show 2 < 9 by decide)
            have z3 := hRZ.cell hyN (show 3 < 9 by decide)
            have z4 := hRZ.cell hyN (show 4 < 9 by decide)
            have z5 := hRZ.cell hyN (show 5 < 9 by decide)
            have z6 := hRZ.cell hyN (show 6 < 9 by decide)
            have z7 := hRZ.cell hyN (show 7 < 9 by decide)
            have z8 := hRZ.cell hyN (show 8 < 9 by decide)
            simp only [Pa.cells, Nat.add_zero, List.getElem?_cons_zero, List.getElem?_cons_succ] at z0 z1 z2 z3 z4 z5 z6 z7 z8
            clear hRZ hFZ x0 x1 x2 x3 x4 x5 x6 x7 x8 y0 y1 y2 y3 y4 y5 y6 y7 y8 lg fg
            (iterate 1 (refine keep_quiet (v := ?_) rfl ?_ ?_; rotate_left; (focus (intro w' hw'; go_simp; (try with_reducible rfl); done)); try simp only [Act.put, List.setIfInBounds_toArray, List.set_cons_zero, List.set_cons_succ]))
            (with_reducible refine plan_loud (fun K hK => ?_))
            go_simp
            refine hK _ _ ?_ ?_
            · (with_reducible exact putPa_keep)
            clear hK K
            (try simp only [Act.put, List.setIfInBounds_toArray, List.set_cons_zero, List.set_cons_succ])
            ((with_reducible refine plan_end ?_); (with_reducible refine tree_fin ?_); simp only [List.drop_succ_cons, List.drop_zero]; (try simp only [Act.put, List.setIfInBounds_toArray, List.set_cons_zero, List.set_cons_succ]))
            refine at_world (R := fun Z' => Row Z' g N (fun t => if t = p then d2 k else (fun t => if t = k then d2 p else d2 t) t) ∧ Fr (fun b => b = g) wq Z') ⟨HRZ.out.put hyN (d2 k), HFZ.out.trans putPa_fr⟩ ?_
            rintro Z' ⟨hRZ, hFZ⟩
            have HRQ := Lib.hid hRZ
            have HFQ := Lib.hid hFZ
            clear hRZ hFZ z0 z1 z2 z3 z4 z5 z6 z7 z8 lz fz
            go_wp2_with fail
            go_roundw
            case rel =>
              have hp := HP.out
              refine ⟨p, _, rfl, by omega, by omega, HRQ.out, ?_, HF2.out.trans HFQ.out⟩
              have hs := Swp.of (d := d2) (x := k) (y := p) rfl hxy
              have hk : k = p + 1 := by omega
              have hr := HRo.out
              rw [hk] at hr hs
              rw [hk]
              exact hr.right (by omega) hs
            case measure => have hp := HP.out; simp [intOf]; omega
          · (simp only [withOps, List.getElem?_toArray, List.getElem?_cons_zero, List.getElem?_cons_succ])
            (try simp only [Act.put, List.setIfInBounds_toArray, List.set_cons_zero, List.set_cons_succ])
            (with_reducible refine plan_loud (fun K hK => ?_))
            go_simp
            refine hK _ _ (Keep.refl _ _) ?_
            clear hK K
            (with_reducible refine plan_end ?_)
            (try simp only [Act.put, List.setIfInBounds_toArray, List.set_cons_zero, List.set_cons_succ])
            ((with_reducible refine tree_seq ?_); simp only [withOps, List.getElem?_toArray, List.getElem?_cons_zero, List.getElem?_cons_succ])
            (with_reducible refine plan_loud (fun K hK => ?_))
            go_simp
            refine hK _ _ (Keep.refl _ _) ?_
            clear hK K
            (try simp only [Act.put, List.setIfInBounds_toArray, List.set_cons_zero, List.set_cons_succ])
            (iterate 1 (refine keep_quiet (v := ?_) rfl ?_ ?_; rotate_left; (focus (intro w' hw'; go_simp; (try with_reducible rfl); done)); try simp only [Act.put, List.setIfInBounds_toArray, List.set_cons_zero, List.set_cons_succ]))
            (with_reducible refine plan_loud (fun K hK => ?_))
            go_simp
            refine hK _ _ ?_ ?_
            · (with_reducible refine Keep.drew ?_)
              (with_reducible refine Keep.of_drew ?_)
              (with_reducible exact putPa_keep)
            clear hK K
            (try simp only [Act.put, List.setIfInBounds_toArray, List.set_cons_zero, List.set_cons_succ])
            refine at_world (R := fun Z => Row Z g N (fun t => if t = k then d2 p else d2 t) ∧ Fr (fun b => b = g) wq Z) ⟨Row.drew (HR2.out.put hxN (d2 p)), putPa_fr.drew⟩ ?_
            rintro Z ⟨hRZ, hFZ⟩
            have HRZ := Lib.hid hRZ
            have HFZ := Lib.hid hFZ
            have lz := hRZ.lt
            have fz := hRZ.free
            have z0 := hRZ.cell hyN (show 0 < 9 by decide)
            have z1 := hRZ.cell hyN (show 1 < 9 by decide)
            have z2 := hRZ.cell hyN (show 2 < 9 by decide)
            have z3 := hRZ.cell hyN (show 3 < 9 by decide)
            have z4 := hRZ.cell hyN (show 4 < 9 by decide)
            have z5 := hRZ.cell hyN (show 5 < 9 by decide)
            have z6 := hRZ.cell hyN (show 6 < 9 by decide)
            have z7 := hRZ.cell hyN (show 7 < 9 by decide)
            have z8 := hRZ.cell hyN (show 8 < 9 by decide)
            simp only [Pa.cells, Nat.add_zero, List.getElem?_cons_zero, List.getElem?_cons_succ] at z0 z1 z2 z3 z4 z5 z6 z7 z8
            clear hRZ hFZ x0 x1 x2 x3 x4 x5 x6 x7 x8 y0 y1 y2 y3 y4 y5 y6 y7 y8 lg fg
            (iterate 1 (refine keep_quiet (v := ?_) rfl ?_ ?_; rotate_left; (focus (intro w' hw'; go_simp; (try with_reducible rfl); done)); try simp only [Act.put, List.setIfInBounds_toArray, List.set_cons_zero, List.set_cons_succ]))
            (with_reducible refine plan_loud (fun K hK => ?_))
            go_simp
            refine hK _ _ ?_ ?_
            · (with_reducible exact putPa_keep)
            clear hK K
            (try simp only [Act.put, List.setIfInBounds_toArray, List.set_cons_zero, List.set_cons_succ])
            ((with_reducible refine plan_end ?_); (with_reducible refine tree_fin ?_); simp only [List.drop_succ_cons, List.drop_zero]; (try simp only [Act.put, List.setIfInBounds_toArray, List.set_cons_zero, List.set_cons_succ]))
            refine at_world (R := fun Z' => Row Z' g N (fun t => if t = p then d2 k else (fun t => if t = k then d2 p else d2 t) t) ∧ Fr (fun b => b = g) wq Z') ⟨HRZ.out.put hyN (d2 k), HFZ.out.trans putPa_fr⟩ ?_
            rintro Z' ⟨hRZ, hFZ⟩
            have HRQ := Lib.hid hRZ
            have HFQ := Lib.hid hFZ
            clear hRZ hFZ z0 z1 z2 z3 z4 z5 z6 z7 z8 lz fz
            go_wp2_with fail
            go_roundw
            case rel =>
              have hp := HP.out
              refine ⟨p, _, rfl, by omega, by omega, HRQ.out, ?_, HF2.out.trans HFQ.out⟩
              have hs := Swp.of (d := d2) (x := k) (y := p) rfl hxy
              have hk : k = p + 1 := by omega
              have hr := HRo.out
              rw [hk] at hr hs
              rw [hk]
              exact hr.right (by omega) hs
            case measure => have hp := HP.out; simp [intOf]; omega
        · obtain rfl : k = i := by omega
          have hki' : ¬ (k : Int) < (k : Int) := by omega
          go_wp2_with fail
          go_returns
          obtain ⟨k1, k2⟩ := one_right hmi hjb HA.out HLO.out HHI.out HRo.out
          rw [HM.out] at k1 k2
          exact ⟨rfl, d2, HR2.out, k1, k2, HF2.out⟩
end Go.Proofs.Ytfpomiimloohkaa
