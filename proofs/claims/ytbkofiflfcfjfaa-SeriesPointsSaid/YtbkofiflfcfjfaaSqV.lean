/- Panes by windows: the document's comparing, walked. -/
import Derived.Test.YtbkofiflfcfjfaaSqM
set_option linter.unusedSimpArgs false
set_option linter.unusedVariables false
namespace Go.Proofs.Ytbkofiflfcfjfaa.Px
open Go.RowKit Go.Kp Go.St Go.Ser

/-- A window as a pane of nought. -/
abbrev At.pn (a : At) : Pn := ⟨a.k, a.s, a.e, 0, 0, 0, 0, 0, 0⟩
theorem boxed3 {w : World} {p q : Pn} : Blk ((w.alloc (.cells (valC p) 92 (0, 0))).alloc (.cells (valC q) 92 (0, 0))) w.heap.size 92 (valC p) ∧ Blk ((w.alloc (.cells (valC p) 92 (0, 0))).alloc (.cells (valC q) 92 (0, 0))) (w.heap.size + 1) 92 (valC q) ∧ Below w.heap.size w ((w.alloc (.cells (valC p) 92 (0, 0))).alloc (.cells (valC q) 92 (0, 0))) :=
  ⟨(heap_old (by simp)).trans (heap_at rfl), heap_at (by simp), by go_grown⟩
theorem cA_key {a b : At} (h : Op.bytesLess a.k.toList b.k.toList = true) : cA a b = -1 := by
  rw [cA_or]; unfold Tm.or4 Tm.str; rw [if_pos h]; simp
theorem cA_key2 {a b : At} (h : Op.bytesLess a.k.toList b.k.toList = false) (h2 : (a.k.toList == b.k.toList) = false) : cA a b = 1 := by
  have h3 : ¬ a.k.toList = b.k.toList := by simpa using h2
  rw [cA_or]; unfold Tm.or4 Tm.str; simp [h, h3]
theorem cA_same {a b : At} (h : a.k = b.k) : cA a b = if a.s ≠ b.s then Tm.num a.s b.s else Tm.num a.e b.e := by
  rw [cA_or, h, Tm.str_self]
  unfold Tm.or4
  by_cases e : a.s = b.s
  · rw [e, Tm.num_self]; simp
  · rw [if_pos e]
    have : Tm.num a.s b.s ≠ 0 := fun h => e (Tm.num_zero h)
    simp [this]
def eight (a : At) : List Int := [a.s, a.e, 0, 0, 0, 0, 0, 0]

set_option maxRecDepth 100000 in
set_option maxHeartbeats 8000000 in
theorem refCompare_any (a b : At) (w : World) : Calls Try.prog 58 #[.agg (valC a.pn), .agg (valC b.pn)] w (Ret (.int .i64 (cA a b)) w) := by
  go_enter Try.func58, Try.ntmps58
  go_upto_region 1 with (fail)
  refine wp_at (fun Z => Blk Z w.heap.size 92 (valC a.pn) ∧ Blk Z (w.heap.size + 1) 92 (valC b.pn) ∧ Below w.heap.size w Z) boxed3 ?_
  rintro w1 ⟨A, B, hB⟩
  have ca := A.cell
  have cb := B.cell
  have la := A.lt
  have lb := B.lt
  rcases Bool.eq_false_or_eq_true (Op.bytesLess a.k.toList b.k.toList) with h1 | h1
  · have HC := Lib.hid (cA_key h1)
    go_wp2_with fail
    go_returns
    exact ⟨ret_int (by rw [HC.out]), by go_grown⟩
  rcases Bool.eq_false_or_eq_true (a.k.toList == b.k.toList) with h2 | h2
  · have hk : a.k = b.k := Tm.toList_inj (by simpa using h2)
    have HC := Lib.hid (cA_same hk)
    clear hk
    go_upto_region 7 with (fail)
    refine wp_at (fun Z => Blk Z w1.heap.size 2 #[.int .i64 a.s, .int .i64 a.e, .int .i64 0, .int .i64 0, .int .i64 0, .int .i64 0, .int .i64 0, .int .i64 0] ∧ Blk Z (w1.heap.size + 1) 2 #[.int .i64 b.s, .int .i64 b.e, .int .i64 0, .int .i64 0, .int .i64 0, .int .i64 0, .int .i64 0, .int .i64 0] ∧ Below w1.heap.size w1 Z) ⟨by simp (disch := (first | omega | (simp only [World.size_alloc, World.size_setCell, World.size_drew] <;> omega) | fail)) only [Blk, heap_old, heap_at, heap_set_same, heap_set_ne, heap_drew', Option.map_some, putO_cells], by simp (disch := (first | omega | (simp only [World.size_alloc, World.size_setCell, World.size_drew] <;> omega) | fail)) only [Blk, heap_old, heap_at, heap_set_same, heap_set_ne, heap_drew', Option.map_some, putO_cells], by go_grown⟩ ?_
    rintro w2 ⟨hX, hY, hb2⟩
    have HX := Lib.hid hX
    have HY := Lib.hid hY
    have HB2 := Lib.hid (hB.trans (hb2.mono hB.size))
    have lx := hX.lt
    have ly := hY.lt
    clear hX hY hb2 ca cb la lb A B
    go_wp2_with fail
    go_loopw [7] (fun vi wr => ∃ j : Nat, j ≤ 8 ∧ vi = .int .i64 j ∧ (1 ≤ j → a.s = b.s) ∧ (2 ≤ j → a.e = b.e) ∧ Below w2.heap.size w2 wr) (fun vi _ => 8 - (intOf vi).toNat)
    case atStart => exact ⟨0, by omega, rfl, fun h => by omega, fun h => by omega, by go_grown⟩
    case round =>
      rename World => wr
      obtain ⟨j, hj, rfl, hj1, hj2, hW⟩ := hrel
      have hs2 := hW.size
      have HW := Lib.hid hW
      rcases Nat.lt_or_ge j 8 with hlt | hge
      · obtain ⟨x, y, hx, hy, h3, h4, h5⟩ : ∃ x y : Int, wr.cell? ⟨w1.heap.size, j, none⟩ = some (.int .i64 x) ∧ wr.cell? ⟨w1.heap.size + 1, j, none⟩ = some (.int .i64 y) ∧ (x < y → cA a b = -1) ∧ (y < x → cA a b = 1) ∧ (x = y → (1 ≤ j + 1 → a.s = b.s) ∧ (2 ≤ j + 1 → a.e = b.e)) := by
          have cx := (HX.out.below hW).cell j
          have cy := (HY.out.below hW).cell j
          rcases Nat.lt_trichotomy j 1 with e | e | e
          · obtain rfl : j = 0 := by omega
            refine ⟨a.s, b.s, cx, cy, fun h => ?_, fun h => ?_, fun h => ⟨fun _ => h, fun h => by omega⟩⟩
            · rw [HC.out, if_pos (by omega)]; unfold Tm.num; rw [if_pos h]
            · rw [HC.out, if_pos (by omega)]; unfold Tm.num; rw [if_neg (by omega), if_pos h]
          · subst e
            have e1 := hj1 (by omega)
            refine ⟨a.e, b.e, cx, cy, fun h => ?_, fun h => ?_, fun h => ⟨fun _ => e1, fun _ => h⟩⟩
            · rw [HC.out, if_neg (by omega)]; unfold Tm.num; rw [if_pos h]
            · rw [HC.out, if_neg (by omega)]; unfold Tm.num; rw [if_neg (by omega), if_pos h]
          · refine ⟨0, 0, cx.trans ?_, cy.trans ?_, fun h => by omega, fun h => by omega, fun _ => ⟨fun _ => hj1 (by omega), fun _ => hj2 (by omega)⟩⟩
            · have : j = 2 ∨ j = 3 ∨ j = 4 ∨ j = 5 ∨ j = 6 ∨ j = 7 := by omega
              rcases this with rfl | rfl | rfl | rfl | rfl | rfl <;> rfl
            · have : j = 2 ∨ j = 3 ∨ j = 4 ∨ j = 5 ∨ j = 6 ∨ j = 7 := by omega
              rcases this with rfl | rfl | rfl | rfl | rfl | rfl <;> rfl
        have H3 := Lib.hid h3
        have H4 := Lib.hid h4
        have H5 := Lib.hid h5
        have jin : (j : Int) < 8 := by omega
        have lx2 : w1.heap.size < wr.heap.size := by omega
        have ly2 : w1.heap.size + 1 < wr.heap.size := by omega
        have hBr := HB2.out.trans (hW.mono HB2.out.size)
        clear h3 h4 h5 hW lx ly hj1 hj2
        go_wp2_with fail
        (refine region_keep (fun _ => True) 8 [(0, true), (1, true), (2, true), (3, true), (4, true), (5, true), (6, true), (7, true)] (by kernel_rfl) (fun _ _ d _ _ h => by cases d <;> exact h) (by kernel_rfl) ?_; simp only [withOps, List.getElem?_toArray, List.getElem?_cons_zero, List.getElem?_cons_succ, List.drop_succ_cons, List.drop_zero])
        (iterate 8 (refine keep_quiet (v := ?_) rfl ?_ ?_; rotate_left; (focus (intro w' hw'; go_simp; (try with_reducible rfl); done)); try simp only [Act.put, List.setIfInBounds_toArray, List.set_cons_zero, List.set_cons_succ]))
        (with_reducible refine plan_end ?_)
        (try simp only [Act.put, List.setIfInBounds_toArray, List.set_cons_zero, List.set_cons_succ])
        rcases Int.lt_trichotomy x y with hxy | hxy | hxy
        · have HC2 := Lib.hid (H3.out hxy)
          go_wp2_with fail
          go_returns
          exact ⟨ret_int (by rw [HC2.out]), by go_grown⟩
        · subst hxy
          have hnx : ¬ x < x := by omega
          go_wp2_with fail
          (refine region_keep (fun _ => True) 8 [(0, true), (1, true), (2, true), (3, true), (4, true), (5, true), (6, true), (7, true)] (by kernel_rfl) (fun _ _ d _ _ h => by cases d <;> exact h) (by kernel_rfl) ?_; simp only [withOps, List.getElem?_toArray, List.getElem?_cons_zero, List.getElem?_cons_succ, List.drop_succ_cons, List.drop_zero])
          (iterate 8 (refine keep_quiet (v := ?_) rfl ?_ ?_; rotate_left; (focus (intro w' hw'; go_simp; (try with_reducible rfl); done)); try simp only [Act.put, List.setIfInBounds_toArray, List.set_cons_zero, List.set_cons_succ]))
          (with_reducible refine plan_end ?_)
          (try simp only [Act.put, List.setIfInBounds_toArray, List.set_cons_zero, List.set_cons_succ])
          go_wp2_with fail
          go_roundw
          case rel => exact ⟨j + 1, by omega, by go_num, (H5.out (by simp)).1, (H5.out (by simp)).2, by have h := HW.out; go_grown⟩
          case measure => simp [intOf]; omega
        · have HC2 := Lib.hid (H4.out hxy)
          have hnx : ¬ x < y := by omega
          go_wp2_with fail
          (refine region_keep (fun _ => True) 8 [(0, true), (1, true), (2, true), (3, true), (4, true), (5, true), (6, true), (7, true)] (by kernel_rfl) (fun _ _ d _ _ h => by cases d <;> exact h) (by kernel_rfl) ?_; simp only [withOps, List.getElem?_toArray, List.getElem?_cons_zero, List.getElem?_cons_succ, List.drop_succ_cons, List.drop_zero])
          (iterate 8 (refine keep_quiet (v := ?_) rfl ?_ ?_; rotate_left; (focus (intro w' hw'; go_simp; (try with_reducible rfl); done)); try simp only [Act.put, List.setIfInBounds_toArray, List.set_cons_zero, List.set_cons_succ]))
          (with_reducible refine plan_end ?_)
          (try simp only [Act.put, List.setIfInBounds_toArray, List.set_cons_zero, List.set_cons_succ])
          go_wp2_with fail
          go_returns
          exact ⟨ret_int (by rw [HC2.out]), by go_grown⟩
      · obtain rfl : j = 8 := by omega
        have hBr := HB2.out.trans (hW.mono HB2.out.size)
        have HC2 : Hid (cA a b = 0) := Lib.hid (by rw [HC.out, if_neg (by simp [hj1 (by omega)]), hj2 (by omega), Tm.num_self])
        clear hj1 hj2
        simp only [Int.cast_ofNat_Int]
        go_wp2_with fail
        go_returns
        exact ⟨ret_int (by rw [HC2.out]), by go_grown⟩
  · have HC := Lib.hid (cA_key2 h1 h2)
    go_wp2_with fail
    go_returns
    exact ⟨ret_int (by rw [HC.out]), by go_grown⟩
end Go.Proofs.Ytbkofiflfcfjfaa.Px
