/- Timers: the two orders, the program's and the document's. -/
import Derived.Test.YtlmmcffbpdfcjaaProg
import Derived.Test.YtlmmcffbpdfcjaaBase
import Derived.Test.YtlmmcffbpdfcjaaPlan
import Derived.Test.YtlmmcffbpdfcjaaTmH
import Derived.Laws.Cover1
import Derived.Deep.Cut
set_option linter.unusedSimpArgs false
set_option linter.unusedVariables false
namespace Go.Proofs.Ytlmmcffbpdfcjaa
open Go.RowKit Go.Kp

abbrev cT (x : Tm.T) : List Value := [.int .i64 x.a, .string x.k, .int .i64 x.s, .int .i64 x.e]
abbrev vT (x : Tm.T) : Value := .agg #[.int .i64 x.a, .string x.k, .int .i64 x.s, .int .i64 x.e]

theorem number_any (x y : Int) (w : World) : Calls Try.prog 26 #[.int .i64 x, .int .i64 y] w (Ret (.int .i64 (Tm.num x y)) w) := by
  go_enter Try.func26, Try.ntmps26
  go_wp2
  all_goals go_ret
  all_goals refine ⟨?_, by go_grown⟩
  all_goals simp [Tm.num, *]
  all_goals omega

theorem isNaN_int (x : Int) (w : World) : Calls Try.prog 39 #[.int .i64 x] w (Ret (.bool false) w) := by
  go_enter Try.func39, Try.ntmps39
  go_wp2
  go_ret
  exact ⟨by simp, by go_grown⟩
theorem isNaN_str (x : ByteArray) (w : World) : Calls Try.prog 40 #[.string x] w (Ret (.bool false) w) := by
  go_enter Try.func40, Try.ntmps40
  go_wp2
  go_ret
  exact ⟨by simp, by go_grown⟩

theorem cmpI_any (x y : Int) (w : World) : Calls Try.prog 24 #[.int .i64 x, .int .i64 y] w (Ret (.int .i64 (Tm.num x y)) w) := by
  go_enter Try.func24, Try.ntmps24
  go_wp2_with (go_at_call 39; refine (isNaN_int _ _).mono ?_; rintro e w1 ⟨rfl, hb⟩)
  all_goals go_ret
  all_goals rename_i hb2
  all_goals refine ⟨?_, bnext (bnext (by go_grown) (by assumption)) (by assumption)⟩
  all_goals simp [Tm.num, *]
  all_goals omega
theorem cmpS_any (x y : ByteArray) (w : World) : Calls Try.prog 25 #[.string x, .string y] w (Ret (.int .i64 (Tm.str x y)) w) := by
  go_enter Try.func25, Try.ntmps25
  go_wp2_with (go_at_call 40; refine (isNaN_str _ _).mono ?_; rintro e w1 ⟨rfl, hb⟩)

  all_goals go_ret
  all_goals refine ⟨?_, bnext (bnext (by go_grown) (by assumption)) (by assumption)⟩
  all_goals simp [Tm.str, *]

theorem or_any (b cap : Nat) (c1 c2 c3 c4 : Int) (w : World) (h : Blk w b 3 #[.int .i64 c1, .int .i64 c2, .int .i64 c3, .int .i64 c4]) :
    Calls Try.prog 23 #[.slice (some ⟨b, 0, none⟩) 4 cap] w (Ret (.int .i64 (Tm.or4 c1 c2 c3 c4)) w) := by
  have e0 := h.cell 0
  have e1 := h.cell 1
  have e2 := h.cell 2
  have e3 := h.cell 3
  simp only [List.getElem?_toArray, List.getElem?_cons_zero, List.getElem?_cons_succ] at e0 e1 e2 e3
  go_enter Try.func23, Try.ntmps23
  go_wp2
  go_rounds 5
  all_goals go_ret
  all_goals refine ⟨?_, by go_grown⟩
  all_goals unfold Tm.or4
  all_goals (first | (simp_all; done) | skip)

/-- Two timers in boxes. -/
theorem two_boxes {w : World} {x y : Tm.T} : (fun w1 : World => Blk w1 w.heap.size 25 (cT x).toArray ∧ Blk w1 (w.heap.size + 1) 25 (cT y).toArray ∧ Below w.heap.size w w1) ((w.alloc (.cells (cT x).toArray 25 (0, 0))).alloc (.cells (cT y).toArray 25 (0, 0))) :=
  ⟨(heap_old (by simp)).trans (heap_at rfl), heap_at (by simp), by go_grown⟩

set_option maxHeartbeats 1000000 in
theorem Compare_any (x y : Tm.T) (w : World) : Calls Try.prog 8 #[vT x, vT y] w (Ret (.int .i64 (Tm.cmp x y)) w) := by
  go_enter Try.func8, Try.ntmps8
  go_upto_region 1 with (fail)
  (refine wp_at (fun w1 => Blk w1 w.heap.size 25 (cT x).toArray ∧ Blk w1 (w.heap.size + 1) 25 (cT y).toArray ∧ Below w.heap.size w w1) two_boxes ?_)
  rintro w1 ⟨A, B, hB⟩
  have a0 := A.cell 0
  have a1 := A.cell 1
  have a2 := A.cell 2
  have a3 := A.cell 3
  have b0 := B.cell 0
  have b1 := B.cell 1
  have b2 := B.cell 2
  have b3 := B.cell 3
  simp only [List.getElem?_toArray, List.getElem?_cons_zero, List.getElem?_cons_succ] at a0 a1 a2 a3 b0 b1 b2 b3
  have lA := A.lt
  have lB := B.lt
  go_wp2_with (go_in)
  (refine region_keep (fun b => b < w1.heap.size) 23 [(0, true), (1, true), (2, true), (3, true), (5, true), (6, true), (7, true), (8, true), (10, true), (11, true), (12, true), (13, true), (14, true), (15, true), (17, true), (18, true), (19, true), (20, true), (21, true), (22, true), (4, false), (9, false), (16, false)] (by kernel_rfl) (fun _ _ d _ _ h => by cases d <;> exact h) (by kernel_rfl) ?_; simp only [withOps, List.getElem?_toArray, List.getElem?_cons_zero, List.getElem?_cons_succ, List.drop_succ_cons, List.drop_zero])
  (iterate 20 (refine keep_quiet (v := ?_) rfl ?_ ?_; rotate_left; (focus (intro w' hw'; go_simp; (try with_reducible rfl); done)); try simp only [Act.put, List.setIfInBounds_toArray, List.set_cons_zero, List.set_cons_succ]))
  (with_reducible refine plan_loud (fun K hK => ?_))
  go_simp
  refine (cmpI_any _ _ _).mono ?_
  rintro en w2 ⟨rfl, hb2⟩
  refine hK _ _ ((Keep.refl _ _).below hb2 (by intro x h; simpa using h)) ?_
  clear hK K
  have hB2 : Below w1.heap.size w1 w2 := bnext (by go_grown) hb2
  clear hb2
  (try simp only [Act.put, List.setIfInBounds_toArray, List.set_cons_zero, List.set_cons_succ])
  (with_reducible refine plan_loud (fun K hK => ?_))
  go_simp
  refine (cmpS_any _ _ _).mono ?_
  rintro en w3 ⟨rfl, hb3⟩
  refine hK _ _ ((Keep.refl _ _).below hb3 (by have := hB2.size; intro x h; omega)) ?_
  clear hK K
  have hB3 : Below w1.heap.size w1 w3 := bnext hB2 hb3
  clear hb3
  (try simp only [Act.put, List.setIfInBounds_toArray, List.set_cons_zero, List.set_cons_succ])
  (with_reducible refine plan_loud (fun K hK => ?_))
  go_simp
  refine (cmpI_any _ _ _).mono ?_
  rintro en w4 ⟨rfl, hb4⟩
  refine hK _ _ ((Keep.refl _ _).below hb4 (by have := hB3.size; intro x h; omega)) ?_
  clear hK K
  have hB4 : Below w1.heap.size w1 w4 := bnext hB3 hb4
  clear hb4 hB2 hB3
  (with_reducible refine plan_end ?_)
  (try simp only [Act.put, List.setIfInBounds_toArray, List.set_cons_zero, List.set_cons_succ])
  go_wp2_with fail
  refine (cmpI_any _ _ _).mono ?_
  rintro en w5 ⟨rfl, hb5⟩
  have hB5 : Below w1.heap.size w1 w5 := bnext hB4 hb5
  clear hb5
  go_wp2_with fail
  refine (or_any _ _ _ _ _ _ _ (heap_at rfl)).mono ?_
  rintro en w6 ⟨rfl, hb6⟩
  have hB6 : Below w1.heap.size w1 w6 := bnext (hB5.trans (by have := hB5.size; go_grown)) hb6
  clear hb6
  go_wp2_with fail
  go_returns
  exact ⟨rfl, bnext hB hB6⟩

theorem or4_ref (x y : Tm.T) : Tm.cmp x y = if x.a ≠ y.a then Tm.num x.a y.a else if Op.bytesLess x.k.toList y.k.toList = true then -1 else if (!(Op.bytesLess x.k.toList y.k.toList || x.k.toList == y.k.toList)) = true then 1 else if x.s ≠ y.s then Tm.num x.s y.s else Tm.num x.e y.e := by
  have n0 : ∀ {p q : Int}, p ≠ q → Tm.num p q ≠ 0 := fun h e => h (Tm.num_zero e)
  unfold Tm.cmp Tm.or4
  by_cases h1 : x.a = y.a
  · have e1 : Tm.num x.a y.a = 0 := by rw [h1, Tm.num_self]
    have g1 : ¬ (Tm.num x.a y.a ≠ 0) := fun h => h e1
    have g2 : ¬ (x.a ≠ y.a) := fun h => h h1
    rw [if_neg g1, if_neg g2]
    unfold Tm.str
    split
    · simp
    · split
      · simp
      · have g0 : ¬ ((0 : Int) ≠ 0) := fun h => h rfl
        rw [if_neg g0]
        by_cases h3 : x.s = y.s
        · have e3 : Tm.num x.s y.s = 0 := by rw [h3, Tm.num_self]
          have g3 : ¬ (Tm.num x.s y.s ≠ 0) := fun h => h e3
          have g4 : ¬ (x.s ≠ y.s) := fun h => h h3
          rw [if_neg g3, if_neg g4]
        · rw [if_pos h3, if_pos (n0 h3)]
  · rw [if_pos (n0 h1), if_pos h1]

set_option maxHeartbeats 1000000 in
theorem refCompare_any (x y : Tm.T) (w : World) : Calls Try.prog 9 #[vT x, vT y] w (Ret (.int .i64 (Tm.cmp x y)) w) := by
  rw [or4_ref]
  go_enter Try.func9, Try.ntmps9
  go_upto_region 1 with (fail)
  (refine wp_at (fun w1 => Blk w1 w.heap.size 25 (cT x).toArray ∧ Blk w1 (w.heap.size + 1) 25 (cT y).toArray ∧ Below w.heap.size w w1) two_boxes ?_)
  rintro w1 ⟨A, B, hB⟩
  have a0 := A.cell 0
  have a1 := A.cell 1
  have a2 := A.cell 2
  have a3 := A.cell 3
  have b0 := B.cell 0
  have b1 := B.cell 1
  have b2 := B.cell 2
  have b3 := B.cell 3
  simp only [List.getElem?_toArray, List.getElem?_cons_zero, List.getElem?_cons_succ] at a0 a1 a2 a3 b0 b1 b2 b3
  have lA := A.lt
  have lB := B.lt
  go_wp2_with (go_at_call 26; refine (number_any _ _ _).mono ?_; rintro e w2 ⟨rfl, hb⟩)
  all_goals go_ret
  all_goals refine ⟨?_, (by first | exact hB | exact bnext hB (by assumption))⟩
  all_goals simp_all
end Go.Proofs.Ytlmmcffbpdfcjaa
