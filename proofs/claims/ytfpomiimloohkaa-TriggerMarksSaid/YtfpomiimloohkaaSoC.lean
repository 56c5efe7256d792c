/- The sort's walks: a short row is put in order, one thing after the other (printed by gensort.py). -/
import Derived.Test.YtfpomiimloohkaaSoB
set_option linter.unusedSimpArgs false
set_option linter.unusedVariables false
namespace Go.Proofs.Ytfpomiimloohkaa
open Go.RowKit Go.Kp Go.So

set_option maxRecDepth 100000 in
set_option maxHeartbeats 8000000 in
theorem insertion_any {w : World} {g N : Nat} {d : Nat → Pa} (h : Row w g N d) (cap a b : Nat) (hab : a ≤ b) (hbN : b ≤ N) (hN : N ≤ 4611686018427387904) :
    Calls Try.prog 39 #[.slice (some ⟨g, 0, none⟩) N cap, .int .i64 a, .int .i64 b, cmpV] w fun e w' => e = .returned (.tuple #[]) ∧ ∃ d', Row w' g N d' ∧ Up Pa.e d' a b ∧ St Pa.e d d' a b ∧ Fr (fun b => b = g) w w' := by
  have H := Lib.hid h
  clear h
  go_enter Try.func39, Try.ntmps39
  go_wp2_with fail
  go_loopw [8] (fun vi wr => ∃ (i : Nat) (d1 : Nat → Pa), vi = .int .i64 i ∧ a + 1 ≤ i ∧ (i ≤ b ∨ i = a + 1) ∧ Row wr g N d1 ∧ Up Pa.e d1 a (min i b) ∧ St Pa.e d d1 a b ∧ Fr (fun b => b = g) w wr) (fun vi _ => b - (intOf vi).toNat)
  case atStart => exact ⟨a + 1, d, by go_num, Nat.le_refl _, .inr rfl, H.out, fun x y h1 h2 h3 => (by have e : x = y := (by omega); rw [e]; exact Int.le_refl _), St.refl _ _ _, Fr.refl _ _⟩
  case round =>
    rename World => wr
    obtain ⟨i, d1, rfl, hi1, hi2, hR, hU, hS, hF⟩ := hrel
    have HR := Lib.hid hR
    have HU := Lib.hid hU
    have HS := Lib.hid hS
    have HF := Lib.hid hF
    clear hR hU hS hF
    rcases Nat.lt_or_ge i b with hlt | hge
    · have hib : (i : Int) < (b : Int) := by omega
      go_wp2_with fail
      go_loopw [9] (fun vj wq => ∃ (j : Nat) (d2 : Nat → Pa), vj = .int .i64 j ∧ a ≤ j ∧ j ≤ i ∧ Row wq g N d2 ∧ Rot d1 d2 j i (i + 1) ∧ (∀ h, j ≤ h → h < i → (d1 i).e < (d1 h).e) ∧ Fr (fun b => b = g) wr wq) (fun vj _ => (intOf vj).toNat)
      case atStart => exact ⟨i, d1, rfl, by omega, Nat.le_refl _, HR.out, Rot.none (Nat.le_refl _) (Nat.le_succ _) (.inl rfl), fun h h1 h2 => by omega, Fr.refl _ _⟩
      case round =>
        rename World => wq
        obtain ⟨j, d2, rfl, hja, hji, hR2, hRot, hG, hF2⟩ := hrel
        have HR2 := Lib.hid hR2
        have HRo := Lib.hid hRot
        have HG := Lib.hid hG
        have HF2 := Lib.hid hF2
        clear hR2 hRot hG hF2
        have fin : ∀ (wz : World) (d3 : Nat → Pa), Row wz g N d3 → Rot d1 d3 j i (i + 1) → Fr (fun b => b = g) wr wz → (∀ h, a ≤ h → h < j → (d1 h).e ≤ (d1 i).e) → Row wz g N d3 ∧ Up Pa.e d3 a (min (i + 1) b) ∧ St Pa.e d d3 a b ∧ Fr (fun b => b = g) w wz := by
          intro wz d3 g1 g2 g3 g4
          have hu := HU.out
          rw [Nat.min_eq_left (by omega)] at hu
          obtain ⟨k1, k2⟩ := one_right hja hji hu g4 HG.out g2
          rw [Nat.min_eq_left (by omega)]
          exact ⟨g1, k1, HS.out.trans (k2.wide (Nat.le_refl _) (by omega) (by omega)), HF.out.trans g3⟩
        have FIN := Lib.hid fin
        clear fin
        rcases Nat.lt_or_ge a j with haj | haj
        · obtain ⟨p, hp⟩ : ∃ p, j - 1 = p := ⟨_, rfl⟩
          have ep : (j : Int) - 1 = (p : Int) := by omega
          have HP := Lib.hid hp
          have hxN : j < N := by omega
          have hyN : p < N := by omega
          have hxy : j ≠ p := by omega
          have xi : (j : Int) < (N : Int) := by omega
          have yi : (p : Int) < (N : Int) := by omega
          clear hp
          have wx := wrap_nat (show j ≤ 4611686018427387904 by omega)
          have wy := wrap_nat (show p ≤ 4611686018427387904 by omega)
          have lg := HR2.out.lt
          have fg := HR2.out.free
          have x0 := HR2.out.cell hxN (show 0 < 9 by decide)
          have x1 := HR2.out.cell hxN (show 1 < 9 by decide)
          have x2 := HR2.out.cell hxN (show 2 < 9 by decide)
          have x3 := HR2.out.cell hxN (show 3 < 9 by decide)
          have x4 := HR2.out.cell hxN (show 4 < 9 by decide)
          have x5 := HR2.out.cell hxN (show 5 < 9 by decide)
          have x6 := HR2.out.cell hxN (show 6 < 9 by decide)
          have x7 := HR2.out.cell hxN (show 7 < 9 by decide)
          have x8 := HR2.out.cell hxN (show 8 < 9 by decide)
          simp only [Pa.cells, Nat.add_zero, List.getElem?_cons_zero, List.getElem?_cons_succ] at x0 x1 x2 x3 x4 x5 x6 x7 x8
          have y0 := HR2.out.cell hyN (show 0 < 9 by decide)
          have y1 := HR2.out.cell hyN (show 1 < 9 by decide)
          have y2 := HR2.out.cell hyN (show 2 < 9 by decide)
          have y3 := HR2.out.cell hyN (show 3 < 9 by decide)
          have y4 := HR2.out.cell hyN (show 4 < 9 by decide)
          have y5 := HR2.out.cell hyN (show 5 < 9 by decide)
          have y6 := HR2.out.cell hyN (show 6 < 9 by decide)
          have y7 := HR2.out.cell hyN (show 7 < 9 by decide)
          have y8 := HR2.out.cell hyN (show 8 < 9 by decide)
          simp only [Pa.cells, Nat.add_zero, List.getElem?_cons_zero, List.getElem?_cons_succ] at y0 y1 y2 y3 y4 y5 y6 y7 y8
          have h1 : (a : Int) < (j : Int) := by omega
          go_wp2_with fail
          have h1n : decide (a < j) = true := decide_eq_true haj
          (refine region_keep (fun b => b = g) 14 [(0, true), (1, true), (2, true), (3, true), (4, true), (5, true), (6, true), (7, true), (8, true), (9, true), (10, true), (11, true), (12, true), (13, true)] (by kernel_rfl) (fun _ _ d _ _ h => by cases d <;> exact h) (by kernel_rfl) ?_; simp only [withOps, List.getElem?_toArray, List.getElem?_cons_zero, List.getElem?_cons_succ, List.drop_succ_cons, List.drop_zero])
          (iterate 14 (refine keep_quiet (v := ?_) rfl ?_ ?_; rotate_left; (focus (intro w' hw'; go_simp; (try with_reducible rfl); done)); try simp only [Act.put, List.setIfInBounds_toArray, List.set_cons_zero, List.set_cons_succ]))
          (with_reducible refine plan_end ?_)
          (try simp only [Act.put, List.setIfInBounds_toArray, List.set_cons_zero, List.set_cons_succ])
          go_wp2_with fail
          refine (cmp_any (d2 j) (d2 p) _).mono ?_
          rintro en w2 ⟨rfl, hb2⟩
          have lg2 : wq.drew.heap.size = wq.heap.size := rfl
          have HW2 := Lib.hid (show Below wq.heap.size wq w2 from bnext ((Below.refl _ _).drew) hb2)
          clear hb2 lg2
          rcases Decidable.em ((d2 j).e < (d2 p).e) with hc | hc
          · have hc' : cmpE (d2 j) (d2 p) < 0 := cmpE_lt.2 hc
            have HCC := Lib.hid hc
            clear hc
            generalize cmpE (d2 j) (d2 p) = C at *
            have hcd : decide (C < 0) = true := decide_eq_true hc'
            have HR3 := Lib.hid (HR2.out.below HW2.out)
            clear lg fg x0 x1 x2 x3 x4 x5 x6 x7 x8 y0 y1 y2 y3 y4 y5 y6 y7 y8
            have lg := HR3.out.lt
            have fg := HR3.out.free
            have x0 := HR3.out.cell hxN (show 0 < 9 by decide)
            have x1 := HR3.out.cell hxN (show 1 < 9 by decide)
            have x2 := HR3.out.cell hxN (show 2 < 9 by decide)
            have x3 := HR3.out.cell hxN (show 3 < 9 by decide)
            have x4 := HR3.out.cell hxN (show 4 < 9 by decide)
            have x5 := HR3.out.cell hxN (show 5 < 9 by decide)
            have x6 := HR3.out.cell hxN (show 6 < 9 by decide)
            have x7 := HR3.out.cell hxN (show 7 < 9 by decide)
            have x8 := HR3.out.cell hxN (show 8 < 9 by decide)
            simp only [Pa.cells, Nat.add_zero, List.getElem?_cons_zero, List.getElem?_cons_succ] at x0 x1 x2 x3 x4 x5 x6 x7 x8
            have y0 := HR3.out.cell hyN (show 0 < 9 by decide)
            have y1 := HR3.out.cell hyN (show 1 < 9 by decide)
            have y2 := HR3.out.cell hyN (show 2 < 9 by decide)
            have y3 := HR3.out.cell hyN (show 3 < 9 by decide)
            have y4 := HR3.out.cell hyN (show 4 < 9 by decide)
            have y5 := HR3.out.cell hyN (show 5 < 9 by decide)
            have y6 := HR3.out.cell hyN (show 6 < 9 by decide)
            have y7 := HR3.out.cell hyN (show 7 < 9 by decide)
            have y8 := HR3.out.cell hyN (show 8 < 9 by decide)
            simp only [Pa.cells, Nat.add_zero, List.getElem?_cons_zero, List.getElem?_cons_succ] at y0 y1 y2 y3 y4 y5 y6 y7 y8
            go_wp2_with fail
            (refine region_tree (Keep (fun b => b ≠ g)) (Keep.refl _) Keep.trans 18 (.seq [(0, true), (1, true), (2, true), (3, true), (4, true), (5, true), (6, true), (7, true), (8, true), (10, true), (11, true), (12, true)] (.fork 9 13 (.seq [(13, false), (14, true), (15, false), (16, true), (17, false)] .fin) (.seq [(9, false), (14, true), (15, false), (16, true), (17, false)] .fin))) (by kernel_rfl) (fun _ _ d _ _ h => by cases d <;> exact h) (by kernel_rfl) ?_)
            ((with_reducible refine tree_seq ?_); simp only [withOps, List.getElem?_toArray, List.getElem?_cons_zero, List.getElem?_cons_succ])
            (iterate 12 (refine keep_quiet (v := ?_) rfl ?_ ?_; rotate_left; (focus (intro w' hw'; go_simp; (try with_reducible rfl); done)); try simp only [Act.put, List.setIfInBounds_toArray, List.set_cons_zero, List.set_cons_succ]))
            (with_reducible refine plan_end ?_)
            (try simp only [Act.put, List.setIfInBounds_toArray, List.set_cons_zero, List.set_cons_succ])
            refine tree_fork ?_ ?_
            · (simp only [withOps, List.getElem?_toArray, List.getElem?_cons_zero, List.getElem?_cons_succ])
              (try simp only [Act.put, List.setIfInBounds_toArray, List.set_cons_zero, List.set_cons_succ])
              (with_reducible refine plan_loud (fun K hK => ?_))
              go_simp
              refine hK _ _ (Keep.refl _ _) ?_
              clear hK K
              (with_reducible refine plan_end ?_)
              (try simp only [Act.put, List.setIfInBounds_toArray, List.set_cons_zero, List.set_cons_succ])
              ((with_reducible refine tree_seq ?_); simp only [withOps, List.getElem?_toArray, List.getElem?_cons_zero, List.getElem?_cons_succ])
              (with_reducible refine plan_loud (fun K hK => ?_))
              go_simp
              refine hK _ _ (Keep.refl _ _) ?_
              clear hK K
              (try simp only [Act.put, List.setIfInBounds_toArray, List.set_cons_zero, List.set_cons_succ])
              (iterate 1 (refine keep_quiet (v := ?_) rfl ?_ ?_; rotate_left; (focus (intro w' hw'; go_simp; (try with_reducible rfl); done)); try simp only [Act.put, List.setIfInBounds_toArray, List.set_cons_zero, List.set_cons_succ]))
              (with_reducible refine plan_loud (fun K hK => ?_))
              go_simp
              refine hK _ _ ?_ ?_
              · (with_reducible refine Keep.drew ?_)
                (with_reducible refine Keep.of_drew ?_)
                (with_reducible exact putPa_keep)
              clear hK K
              (try simp only [Act.put, List.setIfInBounds_toArray, List.set_cons_zero, List.set_cons_succ])
              refine at_world (R := fun Z => Row Z g N (fun t => if t = j then d2 p else d2 t) ∧ Fr (fun b => b = g) w2 Z) ⟨Row.drew (HR3.out.put hxN (d2 p)), putPa_fr.drew⟩ ?_
              rintro Z ⟨hRZ, hFZ⟩
              have HRZ := Lib.hid hRZ
              have HFZ := Lib.hid hFZ
              have lz := hRZ.lt
              have fz := hRZ.free
              have z0 := hRZ.cell hyN (show 0 < 9 by decide)
              have z1 := hRZ.cell hyN (show 1 < 9 by decide)
              have z2 := hRZ.cell hyN (show 2 < 9 by decide)
              have z3 := hRZ.cell hyN (show 3 < 9 by decide)
              have z4 := hRZ.cell hyN (show 4 < 9 by decide)
              have z5 := hRZ.cell hyN (show 5 < 9 by decide)
              have z6 := hRZ.cell hyN (show 6 < 9 by decide)
              have z7 := hRZ.cell hyN (show 7 < 9 by decide)
              have z8 := hRZ.cell hyN (show 8 < 9 by decide)
              simp only [Pa.cells, Nat.add_zero, List.getElem?_cons_zero, List.getElem?_cons_succ] at z0 z1 z2 z3 z4 z5 z6 z7 z8
              clear hRZ hFZ x0 x1 x2 x3 x4 x5 x6 x7 x8 y0 y1 y2 y3 y4 y5 y6 y7 y8 lg fg
              (iterate 1 (refine keep_quiet (v := ?_) rfl ?_ ?_; rotate_left; (focus (intro w' hw'; go_simp; (try with_reducible rfl); done)); try simp only [Act.put, List.setIfInBounds_toArray, List.set_cons_zero, List.set_cons_succ]))
              (with_reducible refine plan_loud (fun K hK => ?_))
              go_simp
              refine hK _ _ ?_ ?_
              · (with_reducible exact putPa_keep)
              clear hK K
              (try simp only [Act.put, List.setIfInBounds_toArray, List.set_cons_zero, List.set_cons_succ])
              ((with_reducible refine plan_end ?_); (with_reducible refine tree_fin ?_); simp only [List.drop_succ_cons, List.drop_zero]; (try simp only [Act.put, List.setIfInBounds_toArray, List.set_cons_zero, List.set_cons_succ]))
              refine at_world (R := fun Z' => Row Z' g N (fun t => if t = p then d2 j else (fun t => if t = j then d2 p else d2 t) t) ∧ Fr (fun b => b = g) w2 Z') ⟨HRZ.out.put hyN (d2 j), HFZ.out.trans putPa_fr⟩ ?_
              rintro Z' ⟨hRZ, hFZ⟩
              have HRQ := Lib.hid hRZ
              have HFQ := Lib.hid hFZ
              clear hRZ hFZ z0 z1 z2 z3 z4 z5 z6 z7 z8 lz fz
              go_wp2_with fail
              go_roundw
              case rel =>
                have hp := HP.out
                refine ⟨p, _, rfl, by omega, by omega, HRQ.out, ?_, fun h h1 h2 => ?_, HF2.out.trans ((Fr.next HW2.out).trans HFQ.out)⟩
                · have hs := Swp.of (d := d2) (x := j) (y := p) rfl hxy
                  have hj : j = p + 1 := by omega
                  have hr := HRo.out
                  rw [hj] at hr hs
                  rw [hj]
                  exact hr.right (by omega) hs
                · by_cases e : h = p
                  · subst e
                    have h4 := HCC.out
                    have r1 := HRo.out j
                    have r2 := HRo.out h
                    rw [if_neg (by omega), if_pos (by omega)] at r1
                    rw [if_pos (by omega)] at r2
                    rw [r1, r2] at h4
                    rw [show j + (i - j) = i by omega] at h4
                    exact h4
                  · exact HG.out h (by omega) h2
              case measure => have hp := HP.out; simp [intOf]; omega
            · (simp only [withOps, List.getElem?_toArray, List.getElem?_cons_zero, List.getElem?_cons_succ])
              (try simp only [Act.put, List.setIfInBounds_toArray, List.set_cons_zero, List.set_cons_succ])
              (with_reducible refine plan_loud (fun K hK => ?_))
              go_simp
              refine hK _ _ (Keep.refl _ _) ?_
              clear hK K
              (with_reducible refine plan_end ?_)
              (try simp only [Act.put, List.setIfInBounds_toArray, List.set_cons_zero, List.set_cons_succ])
              ((with_reducible refine tree_seq ?_); simp only [withOps, List.getElem?_toArray, List.getElem?_cons_zero, List.getElem?_cons_succ])
              (with_reducible refine plan_loud (fun K hK => ?_))
              go_simp
              refine hK _ _ (Keep.refl _ _) ?_
              clear hK K
              (try simp only [Act.put, List.setIfInBounds_toArray, List.set_cons_zero, List.set_cons_succ])
              (iterate 1 (refine keep_quiet (v := ?_) rfl ?_ ?_; rotate_left; (focus (intro w' hw'; go_simp; (try with_reducible rfl); done)); try simp only [Act.put, List.setIfInBounds_toArray, List.set_cons_zero, List.set_cons_succ]))
              (with_reducible refine plan_loud (fun K hK => ?_))
              go_simp
              refine hK _ _ ?_ ?_
              · (with_reducible refine Keep.drew ?_)
                (with_reducible refine Keep.of_drew ?_)
                (with_reducible exact putPa_keep)
              clear hK K
              (try simp only [Act.put, List.setIfInBounds_toArray, List.set_cons_zero, List.set_cons_succ])
              refine at_world (R := fun Z => Row Z g N (fun t => if t = j then d2 p else d2 t) ∧ Fr (fun b => b = g) w2 Z) ⟨Row.drew (HR3.out.put hxN (d2 p)), putPa_fr.drew⟩ ?_
              rintro Z ⟨hRZ, hFZ⟩
              have HRZ := Lib.hid hRZ
              have HFZ := Lib.hid hFZ
              have lz := hRZ.lt
              have fz := hRZ.free
              have z0 := hRZ.cell hyN (show 0 < 9 by decide)
              have z1 := hRZ.cell hyN (show 1 < 9 by decide)
              have z2 := hRZ.cell hyN (show 2 < 9 by decide)
              have z3 := hRZ.cell hyN (show 3 < 9 by decide)
              have z4 := hRZ.cell hyN (show 4 < 9 by decide)
              have z5 := hRZ.cell hyN (show 5 < 9 by decide)
              have z6 := hRZ.cell hyN (show 6 < 9 by decide)
              have z7 := hRZ.cell hyN (show 7 < 9 by decide)
              have z8 := hRZ.cell hyN (show 8 < 9 by decide)
              simp only [Pa.cells, Nat.add_zero, List.getElem?_cons_zero, List.getElem?_cons_succ] at z0 z1 z2 z3 z4 z5 z6 z7 z8
              clear hRZ hFZ x0 x1 x2 x3 x4 x5 x6 x7 x8 y0 y1 y2 y3 y4 y5 y6 y7 y8 lg fg
              (iterate 1 (refine keep_quiet (v := ?_) rfl ?_ ?_; rotate_left; (focus (intro w' hw'; go_simp; (try with_reducible rfl); done)); try simp only [Act.put, List.setIfInBounds_toArray, List.set_cons_zero, List.set_cons_succ]))
              (with_reducible refine plan_loud (fun K hK => ?_))
              go_simp
              refine hK _ _ ?_ ?_
              · (with_reducible exact putPa_keep)
              clear hK K
              (try simp only [Act.put, List.setIfInBounds_toArray, List.set_cons_zero, List.set_cons_succ])
              ((with_reducible refine plan_end ?_); (with_reducible refine tree_fin ?_); simp only [List.drop_succ_cons, List.drop_zero]; (try simp only [Act.put, List.setIfInBounds_toArray, List.set_cons_zero, List.set_cons_succ]))
              refine at_world (R := fun Z' => Row Z' g N (fun t => if t = p then d2 j else (fun t => if t = j then d2 p else d2 t) t) ∧ Fr (fun b => b = g) w2 Z') ⟨HRZ.out.put hyN (d2 j), HFZ.out.trans putPa_fr⟩ ?_
              rintro Z' ⟨hRZ, hFZ⟩
              have HRQ := Lib.hid hRZ
              have HFQ := Lib.hid hFZ
              clear hRZ hFZ z0 z1 z2 z3 z4 z5 z6 z7 z8 lz fz
              go_wp2_with fail
              go_roundw
              case rel =>
                have hp := HP.out
                refine ⟨p, _, rfl, by omega, by omega, HRQ.out, ?_, fun h h1 h2 => ?_, HF2.out.trans ((Fr.next HW2.out).trans HFQ.out)⟩
                · have hs := Swp.of (d := d2) (x := j) (y := p) rfl hxy
                  have hj : j = p + 1 := by omega
                  have hr := HRo.out
                  rw [hj] at hr hs
                  rw [hj]
                  exact hr.right (by omega) hs
                · by_cases e : h = p
                  · subst e
                    have h4 := HCC.out
                    have r1 := HRo.out j
                    have r2 := HRo.out h
                    rw [if_neg (by omega), if_pos (by omega)] at r1
                    rw [if_pos (by omega)] at r2
                    rw [r1, r2] at h4
                    rw [show j + (i - j) = i by omega] at h4
                    exact h4
                  · exact HG.out h (by omega) h2
              case measure => have hp := HP.out; simp [intOf]; omega
          · have hc' : ¬ cmpE (d2 j) (d2 p) < 0 := fun h => hc (cmpE_lt.1 h)
            have HCC := Lib.hid hc
            clear hc
            generalize cmpE (d2 j) (d2 p) = C at *
            have hcd : decide (C < 0) = false := decide_eq_false hc'
            go_wp2_with fail
            go_roundw
            case rel =>
              obtain ⟨f1, f2, f3, f4⟩ := FIN.out w2 d2 (HR2.out.below HW2.out) HRo.out (HF2.out.trans (Fr.next HW2.out)) (fun h h1 h2 => by
                have h4 := HCC.out
                have r1 := HRo.out j
                have r2 := HRo.out p
                have hp := HP.out
                rw [if_neg (by omega), if_pos (by omega)] at r1
                rw [if_pos (by omega)] at r2
                rw [r1, r2, show j + (i - j) = i by omega] at h4
                have hu := HU.out h p h1 (by omega) (by omega)
                omega)
              exact ⟨i + 1, d2, by go_num, by omega, .inl (by omega), f1, f2, f3, f4⟩
            case measure => simp [intOf]; omega
        · obtain rfl : j = a := by omega
          have h1 : ¬ (j : Int) < (j : Int) := by omega
          go_wp2_with fail
          have h1n : decide (j < j) = false := decide_eq_false (Nat.lt_irrefl _)
          (refine region_keep (fun b => b = g) 14 [(0, true), (1, true), (2, true), (3, true), (4, true), (5, true), (6, true), (7, true), (8, true), (9, true), (10, true), (11, true), (12, true), (13, true)] (by kernel_rfl) (fun _ _ d _ _ h => by cases d <;> exact h) (by kernel_rfl) ?_; simp only [withOps, List.getElem?_toArray, List.getElem?_cons_zero, List.getElem?_cons_succ, List.drop_succ_cons, List.drop_zero])
          (iterate 4 (refine keep_quiet (v := ?_) rfl ?_ ?_; rotate_left; (focus (intro w' hw'; go_simp; (try with_reducible rfl); done)); try simp only [Act.put, List.setIfInBounds_toArray, List.set_cons_zero, List.set_cons_succ]))
          (iterate 10 ((with_reducible refine plan_skip ?_ ?_); (focus rfl); try simp only [Act.put, List.setIfInBounds_toArray, List.set_cons_zero, List.set_cons_succ]))
          (with_reducible refine plan_end ?_)
          (try simp only [Act.put, List.setIfInBounds_toArray, List.set_cons_zero, List.set_cons_succ])
          go_wp2_with fail
          go_roundw
          case rel =>
            obtain ⟨f1, f2, f3, f4⟩ := FIN.out wq.drew d2 HR2.out.drew HRo.out HF2.out.drew (fun h h1 h2 => by omega)
            exact ⟨i + 1, d2, by go_num, by omega, .inl (by omega), f1, f2, f3, f4⟩
          case measure => simp [intOf]; omega
    · have hib : ¬ (i : Int) < (b : Int) := by omega
      go_wp2_with fail
      go_returns
      have hu := HU.out
      rw [Nat.min_eq_right hge] at hu
      exact ⟨rfl, d1, HR.out, hu, HS.out, HF.out⟩
end Go.Proofs.Ytfpomiimloohkaa
