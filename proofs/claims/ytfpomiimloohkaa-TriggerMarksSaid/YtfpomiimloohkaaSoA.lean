/- The sort's walks: rows of panes in memory; two rows that change places. -/
import Derived.Test.YtfpomiimloohkaaSoM
import Derived.Test.YtfpomiimloohkaaRf
import Derived.Test.YtfpomiimloohkaaFork
import Derived.Test.YtfpomiimloohkaaPlan
import Derived.Test.YtfpomiimloohkaaProg
import Derived.WalkMore
set_option linter.unusedSimpArgs false
set_option linter.unusedVariables false
namespace Go.Proofs.Ytfpomiimloohkaa
open Go.RowKit Go.Kp Go.So

/-- A pane. -/
structure Pa where
  (key : ByteArray)
  (s e ki pa c su mi ma : Int)
abbrev Pa.cells (x : Pa) : List Value := [.string x.key, .int .i64 x.s, .int .i64 x.e, .int .i64 x.ki, .int .i64 x.pa, .int .i64 x.c, .int .i64 x.su, .int .i64 x.mi, .int .i64 x.ma]
abbrev Pa.val (x : Pa) : Value := .agg x.cells.toArray
/-- A row of panes in a block; how many cells the block has stands behind the row. -/
def Row (w : World) (g N : Nat) (d : Nat → Pa) : Prop := ∃ cs, Blk w g 37 cs ∧ (∀ i, i < N → ∀ j, j < 9 → cs[i * 9 + j]? = (d i).cells[j]?) ∧ cs.size = (d N).ma.toNat
theorem Row.cell {w : World} {g N : Nat} {d : Nat → Pa} (h : Row w g N d) {i : Nat} (hi : i < N) {j : Nat} (hj : j < 9) : w.cell? ⟨g, i * 9 + j, none⟩ = (d i).cells[j]? := by
  obtain ⟨cs, h1, h2, _⟩ := h
  exact (h1.cell _).trans (h2 i hi j hj)
theorem Row.free {w : World} {g N : Nat} {d : Nat → Pa} (h : Row w g N d) (j : Nat) : w.frozen? ⟨g, j, none⟩ = false := by
  obtain ⟨cs, h1, _⟩ := h
  exact h1.free j
theorem Row.lt {w : World} {g N : Nat} {d : Nat → Pa} (h : Row w g N d) : g < w.heap.size := by
  obtain ⟨cs, h1, _⟩ := h
  exact h1.lt
theorem Row.below {w w' : World} {g N : Nat} {d : Nat → Pa} (h : Row w g N d) (hb : Below w.heap.size w w') : Row w' g N d := by
  obtain ⟨cs, h1, h2⟩ := h
  exact ⟨cs, h1.below hb, h2⟩
theorem Row.drew {w : World} {g N : Nat} {d : Nat → Pa} (h : Row w g N d) : Row w.drew g N d := h
/-- One pane is written over. -/
abbrev putPa (w : World) (g x : Nat) (p : Pa) : World := ((((((((w.setCell ⟨g, x * 9, none⟩ (.string p.key)).setCell ⟨g, x * 9 + 1, none⟩ (.int .i64 p.s)).setCell ⟨g, x * 9 + 2, none⟩ (.int .i64 p.e)).setCell ⟨g, x * 9 + 3, none⟩ (.int .i64 p.ki)).setCell ⟨g, x * 9 + 4, none⟩ (.int .i64 p.pa)).setCell ⟨g, x * 9 + 5, none⟩ (.int .i64 p.c)).setCell ⟨g, x * 9 + 6, none⟩ (.int .i64 p.su)).setCell ⟨g, x * 9 + 7, none⟩ (.int .i64 p.mi)).setCell ⟨g, x * 9 + 8, none⟩ (.int .i64 p.ma)
theorem Row.put {w : World} {g N : Nat} {d : Nat → Pa} (h : Row w g N d) {x : Nat} (hx : x < N) (p : Pa) : Row (putPa w g x p) g N (fun t => if t = x then p else d t) := by
  obtain ⟨cs, h1, h2, h3⟩ := h
  refine ⟨((((((((cs.setIfInBounds (x * 9) (.string p.key)).setIfInBounds (x * 9 + 1) (.int .i64 p.s)).setIfInBounds (x * 9 + 2) (.int .i64 p.e)).setIfInBounds (x * 9 + 3) (.int .i64 p.ki)).setIfInBounds (x * 9 + 4) (.int .i64 p.pa)).setIfInBounds (x * 9 + 5) (.int .i64 p.c)).setIfInBounds (x * 9 + 6) (.int .i64 p.su)).setIfInBounds (x * 9 + 7) (.int .i64 p.mi)).setIfInBounds (x * 9 + 8) (.int .i64 p.ma), ?_, fun i hi j hj => ?_, by dsimp only; rw [if_neg (by omega), ← h3]; simp only [Array.size_setIfInBounds]⟩
  · unfold Blk at h1 ⊢
    simp only [putPa, heap_set_same, h1, Option.map_some, putO_cells]
  · have hb : ∀ j, j < 9 → x * 9 + j < cs.size := fun j hj => by
      have h3 := h2 x hx j hj
      have h4 : (d x).cells[j]? ≠ none := by
        rw [List.getElem?_eq_getElem (show j < (d x).cells.length from hj)]; exact fun h => by cases h
      rw [← h3] at h4
      exact Nat.lt_of_not_le fun h5 => h4 (Array.getElem?_eq_none h5)
    have b8 := hb 8 (by omega)
    dsimp only
    by_cases e : i = x
    · subst e
      rw [if_pos rfl]
      have h9 : j = 0 ∨ j = 1 ∨ j = 2 ∨ j = 3 ∨ j = 4 ∨ j = 5 ∨ j = 6 ∨ j = 7 ∨ j = 8 := by omega
      rcases h9 with rfl | rfl | rfl | rfl | rfl | rfl | rfl | rfl | rfl <;>
        simp (disch := (first | omega | (simp only [Array.size_setIfInBounds] <;> omega))) [Array.getElem?_setIfInBounds, Pa.cells] <;> omega
    · rw [if_neg e, ← h2 i hi j hj]
      have ne : ∀ q, q < 9 → i * 9 + j ≠ x * 9 + q := fun q hq => by omega
      rw [Array.getElem?_setIfInBounds_ne (ne 8 (by omega)).symm, Array.getElem?_setIfInBounds_ne (ne 7 (by omega)).symm, Array.getElem?_setIfInBounds_ne (ne 6 (by omega)).symm, Array.getElem?_setIfInBounds_ne (ne 5 (by omega)).symm, Array.getElem?_setIfInBounds_ne (ne 4 (by omega)).symm, Array.getElem?_setIfInBounds_ne (ne 3 (by omega)).symm, Array.getElem?_setIfInBounds_ne (ne 2 (by omega)).symm, Array.getElem?_setIfInBounds_ne (ne 1 (by omega)).symm, Array.getElem?_setIfInBounds_ne (show x * 9 ≠ i * 9 + j by omega)]
theorem putPa_keep {w : World} {g x : Nat} {p : Pa} : Keep (fun b => b ≠ g) w (putPa w g x p) := by
  unfold putPa
  repeat (refine Keep.setCell ?_ (fun h => h rfl) _)
  exact Keep.refl _ _
theorem putPa_fr {w : World} {g x : Nat} {p : Pa} : Fr (fun b => b = g) w (putPa w g x p) := by
  unfold putPa
  repeat (refine Fr.set ?_ _ rfl)
  exact Fr.refl _ _
theorem at_world {G : World → Prop} {R : World → Prop} {w : World} (hR : R w) (h : ∀ w', R w' → G w') : G w := h w hR
theorem wrap_nat {x : Nat} (h : x ≤ 4611686018427387904) : IntKind.i64.wrap (x : Int) = (x : Int) := by
  rw [IntKind.wrap_i64]; omega
theorem Swp.of {d d1 : Nat → Pa} {x y : Nat} (h1 : d1 = fun t => if t = x then d y else d t) (hxy : x ≠ y) : Swp d (fun t => if t = y then d x else d1 t) x y := by
  subst h1
  intro t
  dsimp only
  by_cases e : t = y
  · subst e; rw [if_pos rfl, if_neg (fun h => hxy h.symm), if_pos rfl]
  · rw [if_neg e, if_neg e]

set_option maxRecDepth 100000 in
set_option maxHeartbeats 8000000 in
theorem swapRange_any {w : World} {g N : Nat} {d : Nat → Pa} (h : Row w g N d) (cap a b n : Nat) (fv : Value) (hab : a + n ≤ b) (hbn : b + n ≤ N) (hN : N ≤ 4611686018427387904) :
    Calls Try.prog 42 #[.slice (some ⟨g, 0, none⟩) N cap, .int .i64 a, .int .i64 b, .int .i64 n, fv] w fun e w' => e = .returned (.tuple #[]) ∧ ∃ d', Row w' g N d' ∧ Swr d d' a b n ∧ Fr (fun b => b = g) w w' := by
  have H := Lib.hid h
  clear h
  go_enter Try.func42, Try.ntmps42
  go_wp2_with fail
  go_loopw [10] (fun vi wr => ∃ (k : Nat) (d1 : Nat → Pa), vi = .int .i64 k ∧ k ≤ n ∧ Row wr g N d1 ∧ Swr d d1 a b k ∧ Fr (fun b => b = g) w wr) (fun vi _ => n - (intOf vi).toNat)
  case atStart => exact ⟨0, d, rfl, Nat.zero_le _, H.out, Swr.none _ _ _, Fr.refl _ _⟩
  case round =>
    rename World => wr
    obtain ⟨k, d1, rfl, hk, hR, hS, hF⟩ := hrel
    have HR := Lib.hid hR
    have HS := Lib.hid hS
    have HF := Lib.hid hF
    clear hR hS hF
    rcases Nat.lt_or_ge k n with hlt | hge
    · have hkn : (k : Int) < (n : Int) := by omega
      obtain ⟨x, hx⟩ : ∃ x, a + k = x := ⟨_, rfl⟩
      obtain ⟨y, hy⟩ : ∃ y, b + k = y := ⟨_, rfl⟩
      have HX := Lib.hid (And.intro hx hy)
      have ex : (a : Int) + (k : Int) = (x : Int) := by omega
      have ey : (b : Int) + (k : Int) = (y : Int) := by omega
      have hxN : x < N := by omega
      have hyN : y < N := by omega
      have hxy : x ≠ y := by omega
      have xi : (x : Int) < (N : Int) := by omega
      have yi : (y : Int) < (N : Int) := by omega
      have wx := wrap_nat (show x ≤ 4611686018427387904 by omega)
      have wy := wrap_nat (show y ≤ 4611686018427387904 by omega)
      have lg := HR.out.lt
      have fg := HR.out.free
      have x0 := HR.out.cell hxN (show 0 < 9 by decide)
      have x1 := HR.out.cell hxN (show 1 < 9 by decide)
      have x2 := HR.out.cell hxN (show 2 < 9 by decide)
      have x3 := HR.out.cell hxN (show 3 < 9 by decide)
      have x4 := HR.out.cell hxN (show 4 < 9 by decide)
      have x5 := HR.out.cell hxN (show 5 < 9 by decide)
      have x6 := HR.out.cell hxN (show 6 < 9 by decide)
      have x7 := HR.out.cell hxN (show 7 < 9 by decide)
      have x8 := HR.out.cell hxN (show 8 < 9 by decide)
      have y0 := HR.out.cell hyN (show 0 < 9 by decide)
      have y1 := HR.out.cell hyN (show 1 < 9 by decide)
      have y2 := HR.out.cell hyN (show 2 < 9 by decide)
      have y3 := HR.out.cell hyN (show 3 < 9 by decide)
      have y4 := HR.out.cell hyN (show 4 < 9 by decide)
      have y5 := HR.out.cell hyN (show 5 < 9 by decide)
      have y6 := HR.out.cell hyN (show 6 < 9 by decide)
      have y7 := HR.out.cell hyN (show 7 < 9 by decide)
      have y8 := HR.out.cell hyN (show 8 < 9 by decide)
      simp only [Pa.cells, Nat.add_zero, List.getElem?_cons_zero, List.getElem?_cons_succ] at x0 x1 x2 x3 x4 x5 x6 x7 x8 y0 y1 y2 y3 y4 y5 y6 y7 y8
      clear hx hy
      go_wp2_with fail
      (refine region_tree (Keep (fun b => b ≠ g)) (Keep.refl _) Keep.trans 24 (.seq [(0, true), (1, true), (2, true), (3, true), (4, true), (5, true), (6, true), (7, true), (8, true), (9, true), (10, true), (11, true), (12, true), (14, true), (15, true), (16, true), (17, true), (18, true)] (.fork 13 19 (.seq [(19, false), (20, true), (21, false), (22, true), (23, false)] .fin) (.seq [(13, false), (20, true), (21, false), (22, true), (23, false)] .fin))) (by kernel_rfl) (fun _ _ d _ _ h => by cases d <;> exact h) (by kernel_rfl) ?_)
      ((with_reducible refine tree_seq ?_); simp only [withOps, List.getElem?_toArray, List.getElem?_cons_zero, List.getElem?_cons_succ])
      (iterate 18 (refine keep_quiet (v := ?_) rfl ?_ ?_; rotate_left; (focus (intro w' hw'; go_simp; (try with_reducible rfl); done)); try simp only [Act.put, List.setIfInBounds_toArray, List.set_cons_zero, List.set_cons_succ]))
      (with_reducible refine plan_end ?_)
      (try simp only [Act.put, List.setIfInBounds_toArray, List.set_cons_zero, List.set_cons_succ])
      refine tree_fork ?_ ?_
      · (simp only [withOps, List.getElem?_toArray, List.getElem?_cons_zero, List.getElem?_cons_succ])
        (try simp only [Act.put, List.setIfInBounds_toArray, List.set_cons_zero, List.set_cons_succ])
        (with_reducible refine plan_loud (fun K hK => ?_))
        go_simp
        refine hK _ _ (Keep.refl _ _) ?_
        clear hK K
        (with_reducible refine plan_end ?_)
        (try simp only [Act.put, List.setIfInBounds_toArray, List.set_cons_zero, List.set_cons_succ])
        ((with_reducible refine tree_seq ?_); simp only [withOps, List.getElem?_toArray, List.getElem?_cons_zero, List.getElem?_cons_succ])
        (with_reducible refine plan_loud (fun K hK => ?_))
        go_simp
        refine hK _ _ (Keep.refl _ _) ?_
        clear hK K
        (try simp only [Act.put, List.setIfInBounds_toArray, List.set_cons_zero, List.set_cons_succ])
        (iterate 1 (refine keep_quiet (v := ?_) rfl ?_ ?_; rotate_left; (focus (intro w' hw'; go_simp; (try with_reducible rfl); done)); try simp only [Act.put, List.setIfInBounds_toArray, List.set_cons_zero, List.set_cons_succ]))
        (with_reducible refine plan_loud (fun K hK => ?_))
        go_simp
        refine hK _ _ ?_ ?_
        · (with_reducible refine Keep.drew ?_)
          (with_reducible refine Keep.of_drew ?_)
          (with_reducible exact putPa_keep)
        clear hK K
        (try simp only [Act.put, List.setIfInBounds_toArray, List.set_cons_zero, List.set_cons_succ])
        refine at_world (R := fun Z => Row Z g N (fun t => if t = x then d1 y else d1 t) ∧ Fr (fun b => b = g) wr Z) ⟨Row.drew (HR.out.put hxN (d1 y)), putPa_fr.drew⟩ ?_
        rintro Z ⟨hRZ, hFZ⟩
        have HRZ := Lib.hid hRZ
        have HFZ := Lib.hid hFZ
        have lz := hRZ.lt
        have fz := hRZ.free
        have z0 := hRZ.cell hyN (show 0 < 9 by decide)
        have z1 := hRZ.cell hyN (show 1 < 9 by decide)
        have z2 := hRZ.cell hyN (show 2 < 9 by decide)
        have z3 := hRZ.cell hyN (show 3 < 9 by decide)
        have z4 := hRZ.cell hyN (show 4 < 9 by decide)
        have z5 := hRZ.cell hyN (show 5 < 9 by decide)
        have z6 := hRZ.cell hyN (show 6 < 9 by decide)
        have z7 := hRZ.cell hyN (show 7 < 9 by decide)
        have z8 := hRZ.cell hyN (show 8 < 9 by decide)
        simp only [Pa.cells, Nat.add_zero, List.getElem?_cons_zero, List.getElem?_cons_succ] at z0 z1 z2 z3 z4 z5 z6 z7 z8
        clear hRZ hFZ x0 x1 x2 x3 x4 x5 x6 x7 x8 y0 y1 y2 y3 y4 y5 y6 y7 y8 lg fg
        (iterate 1 (refine keep_quiet (v := ?_) rfl ?_ ?_; rotate_left; (focus (intro w' hw'; go_simp; (try with_reducible rfl); done)); try simp only [Act.put, List.setIfInBounds_toArray, List.set_cons_zero, List.set_cons_succ]))
        (with_reducible refine plan_loud (fun K hK => ?_))
        go_simp
        refine hK _ _ ?_ ?_
        · (with_reducible exact putPa_keep)
        clear hK K
        (try simp only [Act.put, List.setIfInBounds_toArray, List.set_cons_zero, List.set_cons_succ])
        ((with_reducible refine plan_end ?_); (with_reducible refine tree_fin ?_); simp only [List.drop_succ_cons, List.drop_zero]; (try simp only [Act.put, List.setIfInBounds_toArray, List.set_cons_zero, List.set_cons_succ]))
        refine at_world (R := fun Z' => Row Z' g N (fun t => if t = y then d1 x else (fun t => if t = x then d1 y else d1 t) t) ∧ Fr (fun b => b = g) wr Z') ⟨HRZ.out.put hyN (d1 x), HFZ.out.trans putPa_fr⟩ ?_
        rintro Z' ⟨hRZ, hFZ⟩
        have HRQ := Lib.hid hRZ
        have HFQ := Lib.hid hFZ
        clear hRZ hFZ z0 z1 z2 z3 z4 z5 z6 z7 z8 lz fz
        go_wp2_with fail
        go_roundw
        case rel =>
          refine ⟨k + 1, _, by go_num, by omega, HRQ.out, ?_, HF.out.trans HFQ.out⟩
          have h := HX.out
          rw [← h.1, ← h.2] at hxy ⊢
          exact HS.out.more hab hlt (Swp.of rfl hxy)
        case measure => simp [intOf]; omega
      · (simp only [withOps, List.getElem?_toArray, List.getElem?_cons_zero, List.getElem?_cons_succ])
        (try simp only [Act.put, List.setIfInBounds_toArray, List.set_cons_zero, List.set_cons_succ])
        (with_reducible refine plan_loud (fun K hK => ?_))
        go_simp
        refine hK _ _ (Keep.refl _ _) ?_
        clear hK K
        (with_reducible refine plan_end ?_)
        (try simp only [Act.put, List.setIfInBounds_toArray, List.set_cons_zero, List.set_cons_succ])
        ((with_reducible refine tree_seq ?_); simp only [withOps, List.getElem?_toArray, List.getElem?_cons_zero, List.getElem?_cons_succ])
        (with_reducible refine plan_loud (fun K hK => ?_))
        go_simp
        refine hK _ _ (Keep.refl _ _) ?_
        clear hK K
        (try simp only [Act.put, List.setIfInBounds_toArray, List.set_cons_zero, List.set_cons_succ])
        (iterate 1 (refine keep_quiet (v := ?_) rfl ?_ ?_; rotate_left; (focus (intro w' hw'; go_simp; (try with_reducible rfl); done)); try simp only [Act.put, List.setIfInBounds_toArray, List.set_cons_zero, List.set_cons_succ]))
        (with_reducible refine plan_loud (fun K hK => ?_))
        go_simp
        refine hK _ _ ?_ ?_
        · (with_reducible refine Keep.drew ?_)
          (with_reducible refine Keep.of_drew ?_)
          (with_reducible exact putPa_keep)
        clear hK K
        (try simp only [Act.put, List.setIfInBounds_toArray, List.set_cons_zero, List.set_cons_succ])
        refine at_world (R := fun Z => Row Z g N (fun t => if t = x then d1 y else d1 t) ∧ Fr (fun b => b = g) wr Z) ⟨Row.drew (HR.out.put hxN (d1 y)), putPa_fr.drew⟩ ?_
        rintro Z ⟨hRZ, hFZ⟩
        have HRZ := Lib.hid hRZ
        have HFZ := Lib.hid hFZ
        have lz := hRZ.lt
        have fz := hRZ.free
        have z0 := hRZ.cell hyN (show 0 < 9 by decide)
        have z1 := hRZ.cell hyN (show 1 < 9 by decide)
        have z2 := hRZ.cell hyN (show 2 < 9 by decide)
        have z3 := hRZ.cell hyN (show 3 < 9 by decide)
        have z4 := hRZ.cell hyN (show 4 < 9 by decide)
        have z5 := hRZ.cell hyN (show 5 < 9 by decide)
        have z6 := hRZ.cell hyN (show 6 < 9 by decide)
        have z7 := hRZ.cell hyN (show 7 < 9 by decide)
        have z8 := hRZ.cell hyN (show 8 < 9 by decide)
        simp only [Pa.cells, Nat.add_zero, List.getElem?_cons_zero, List.getElem?_cons_succ] at z0 z1 z2 z3 z4 z5 z6 z7 z8
        clear hRZ hFZ x0 x1 x2 x3 x4 x5 x6 x7 x8 y0 y1 y2 y3 y4 y5 y6 y7 y8 lg fg
        (iterate 1 (refine keep_quiet (v := ?_) rfl ?_ ?_; rotate_left; (focus (intro w' hw'; go_simp; (try with_reducible rfl); done)); try simp only [Act.put, List.setIfInBounds_toArray, List.set_cons_zero, List.set_cons_succ]))
        (with_reducible refine plan_loud (fun K hK => ?_))
        go_simp
        refine hK _ _ ?_ ?_
        · (with_reducible exact putPa_keep)
        clear hK K
        (try simp only [Act.put, List.setIfInBounds_toArray, List.set_cons_zero, List.set_cons_succ])
        ((with_reducible refine plan_end ?_); (with_reducible refine tree_fin ?_); simp only [List.drop_succ_cons, List.drop_zero]; (try simp only [Act.put, List.setIfInBounds_toArray, List.set_cons_zero, List.set_cons_succ]))
        refine at_world (R := fun Z' => Row Z' g N (fun t => if t = y then d1 x else (fun t => if t = x then d1 y else d1 t) t) ∧ Fr (fun b => b = g) wr Z') ⟨HRZ.out.put hyN (d1 x), HFZ.out.trans putPa_fr⟩ ?_
        rintro Z' ⟨hRZ, hFZ⟩
        have HRQ := Lib.hid hRZ
        have HFQ := Lib.hid hFZ
        clear hRZ hFZ z0 z1 z2 z3 z4 z5 z6 z7 z8 lz fz
        go_wp2_with fail
        go_roundw
        case rel =>
          refine ⟨k + 1, _, by go_num, by omega, HRQ.out, ?_, HF.out.trans HFQ.out⟩
          have h := HX.out
          rw [← h.1, ← h.2] at hxy ⊢
          exact HS.out.more hab hlt (Swp.of rfl hxy)
        case measure => simp [intOf]; omega
    · obtain rfl : k = n := by omega
      go_wp2_with fail
      go_returns
      exact ⟨rfl, d1, HR.out, HS.out, HF.out⟩
end Go.Proofs.Ytfpomiimloohkaa
