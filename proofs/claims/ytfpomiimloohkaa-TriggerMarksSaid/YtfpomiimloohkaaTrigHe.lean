/- The laws' own small functions: num, win, known. -/
import Derived.Test.YtfpomiimloohkaaTrigG
set_option linter.unusedSimpArgs false
set_option linter.unusedVariables false
namespace Go.Proofs.Ytfpomiimloohkaa
open Go.RowKit Go.Kp

theorem num_any (n : Int) (w : World) (h1 : -9223372036854775808 ≤ n) (h2 : n ≤ 9223372036854775807) : Calls Try.prog 13 #[.int .i64 n] w (Ret (.int .i64 n) w) := by
  go_enter Try.func13, Try.ntmps13
  go_wp2
  go_ret
  exact ⟨by first | rfl | (simp; done), by go_grown⟩

abbrev Win.eg : Win := ⟨0, 10, 3, 2, 9, 4, 5, 2, 1⟩
theorem Win.eg_ok : Win.eg.ok := by unfold Win.ok; decide
theorem win_any (w : World) : Calls Try.prog 26 #[] w (Ret Win.eg.val w) := by
  go_enter Try.func26, Try.ntmps26
  go_wp2
  go_returns
  exact ⟨rfl, by go_grown⟩


theorem Blk_alloc {w : World} {g : Nat} {t : TypeId} {cs : Array Value} (h : Blk w g t cs) (o : Obj) : Blk (w.alloc o) g t cs := (heap_old h.lt).trans h
theorem Blk_new (w : World) (t : TypeId) (cs : Array Value) : Blk (w.alloc (.cells cs t (0, 0))) w.heap.size t cs := heap_at rfl
theorem below_goal {B : Nat} {a b : World} (h : Below B a b) : Below B a b := h
theorem lt_step {a : Nat} {W W' : World} (h : a < W.heap.size) (hb : Below W.heap.size W W') : a < W'.heap.size := Nat.lt_of_lt_of_le h hb.size
/-- The job of 'known'. -/
abbrev Conf.eg : Conf := ⟨0, 0, 0, 0, 0, 0, 0, 5, 2, false⟩
abbrev Conf.cells (x : Conf) : Array Value := #[.int .i64 x.gr, .int .i64 x.so, .int .i64 x.ki, .int .i64 x.sz, .int .i64 x.sl, .int .i64 x.off, .int .i64 x.ga, .int .i64 x.la, .int .i64 x.ea, .bool x.di]
abbrev Win.eg2 : Win := ⟨0, 10, 2, 3, 10, 1, 5, 0, 2⟩
theorem Win.eg_hit : hit Win.eg 1 2 0 = ⟨0, 10, 2, 3, 10, 1, 5, 3, 1⟩ := by
  simp +decide [hit, add, more, wrap64]
/-- What Event answers there. -/
theorem event_eg (key : ByteArray) (w : World) : Calls Try.prog 16 #[Conf.eg.val, .string key, Win.eg.val, .int .i64 1, .int .i64 2, .int .i64 0] w fun e w' =>
    ∃ g cap, e = .returned (.tuple #[Win.eg2.val, .slice (some ⟨g, 0, none⟩) 1 cap]) ∧ w.heap.size ≤ g ∧ g < w'.heap.size ∧
      (∀ j, j < 9 → w'.cell? ⟨g, j, none⟩ = [.string key, .int .i64 0, .int .i64 10, .int .i64 1, .int .i64 1, .int .i64 3, .int .i64 10, .int .i64 1, .int .i64 5][j]?) ∧ Below w.heap.size w w' := by
  refine (event_any Conf.eg key Win.eg 1 2 0 w Win.eg_ok (by decide) (by decide) (by decide)).mono ?_
  rintro e w' ⟨sv, rfl, hown, hb⟩
  have e1 : eventW Conf.eg Win.eg 1 2 0 = Win.eg2 := by simp [eventW, Win.eg_hit]; rfl
  have e2 : eventP Conf.eg key Win.eg 1 2 0 = [[.string key, .int .i64 0, .int .i64 10, .int .i64 1, .int .i64 1, .int .i64 3, .int .i64 10, .int .i64 1, .int .i64 5]] := by unfold eventP; rw [Win.eg_hit]; rfl
  rw [e1]
  rw [e2] at hown
  obtain ⟨g, cap, rfl, h1, h2⟩ := hown.form (by simp)
  exact ⟨g, cap, rfl, h1, h2, fun j hj => hown.cellAt j (by simpa using hj), hb⟩
set_option maxHeartbeats 16000000 in
theorem known_any (w : World) : Calls Try.prog 14 #[] w (Ret (.bool true) w) := by
  go_enter Try.func14, Try.ntmps14
  go_wp2_with fail
  refine wp_at (fun wc => Blk wc w.heap.size 24 Conf.eg.cells ∧ Below w.heap.size w wc) ⟨by simp (disch := (first | omega | (simp only [World.size_alloc, World.size_setCell, World.size_drew] <;> omega) | fail)) only [Blk, heap_old, heap_at, heap_set_same, heap_set_ne, heap_drew', Option.map_some, putO_cells], by go_grown⟩ ?_
  intro wc ⟨B, hB⟩
  have c0 := B.cell
  (refine region_keep (fun b => b = w.heap.size) 7 [(0, true), (1, false), (2, false), (3, true), (4, true), (5, true), (6, true)] (by kernel_rfl) (fun _ _ d _ _ h => by cases d <;> exact h) (by kernel_rfl) ?_; simp only [withOps, List.getElem?_toArray, List.getElem?_cons_zero, List.getElem?_cons_succ, List.drop_succ_cons, List.drop_zero])
  (repeat (refine keep_quiet (v := ?_) rfl ?_ ?_; rotate_left; (focus (intro w' hw'; go_simp; (try with_reducible rfl); done)); try simp only [Act.put, List.setIfInBounds_toArray, List.set_cons_zero, List.set_cons_succ]))
  refine plan_loud (fun K hK => ?_)
  go_simp
  refine (win_any _).mono ?_
  rintro e w1 ⟨rfl, hb1⟩
  refine hK _ _ ((Keep.refl _ _).below hb1 (by rintro x rfl; have := B.lt; simp; omega)) ?_
  clear hK K
  refine plan_loud (fun K hK => ?_)
  go_simp
  refine (behind_any Win.eg Conf.eg 9 _).mono ?_
  rintro e w2 ⟨rfl, hb2⟩
  have C : Blk w2 w.heap.size 24 Conf.eg.cells := (Blk.below (w := wc.drew) B hb1).below hb2
  have hC : Below w.heap.size w w2 := bnext (bnext (by go_grown) hb1) hb2
  refine hK _ _ ((Keep.refl _ _).below hb2 (by rintro x rfl; have := B.lt; have := hb1.size; simp at this ⊢; omega)) ?_
  clear hK K hb1 hb2 B hB
  (try simp only [Act.put, List.setIfInBounds_toArray, List.set_cons_zero, List.set_cons_succ])
  (repeat (refine keep_quiet (v := ?_) rfl ?_ ?_; rotate_left; (focus (intro w' hw'; go_simp; (try with_reducible rfl); done)); try simp only [Act.put, List.setIfInBounds_toArray, List.set_cons_zero, List.set_cons_succ]))
  refine plan_end ?_
  (try simp only [Act.put, List.setIfInBounds_toArray, List.set_cons_zero, List.set_cons_succ])
  have e9 : behind Conf.eg Win.eg 9 = (1, true) := by decide
  rw [e9]
  clear c0
  have c0 := C.cell
  go_wp2_with fail
  (refine region_keep (fun b => b = w.heap.size) 7 [(0, true), (1, false), (2, false), (3, true), (4, true), (5, true), (6, true)] (by kernel_rfl) (fun _ _ d _ _ h => by cases d <;> exact h) (by kernel_rfl) ?_; simp only [withOps, List.getElem?_toArray, List.getElem?_cons_zero, List.getElem?_cons_succ, List.drop_succ_cons, List.drop_zero])
  (repeat (refine keep_quiet (v := ?_) rfl ?_ ?_; rotate_left; (focus (intro w' hw'; go_simp; (try with_reducible rfl); done)); try simp only [Act.put, List.setIfInBounds_toArray, List.set_cons_zero, List.set_cons_succ]))
  refine plan_loud (fun K hK => ?_)
  go_simp
  refine (win_any _).mono ?_
  rintro e w3 ⟨rfl, hb1⟩
  refine hK _ _ ((Keep.refl _ _).below hb1 (by rintro x rfl; have := C.lt; simp; omega)) ?_
  clear hK K
  refine plan_loud (fun K hK => ?_)
  go_simp
  refine (behind_any Win.eg Conf.eg 10 _).mono ?_
  rintro e w4 ⟨rfl, hb2⟩
  have D : Blk w4 w.heap.size 24 Conf.eg.cells := (Blk.below (w := w2.drew) C hb1).below hb2
  have hD : Below w.heap.size w w4 := bnext (bnext (by go_grown) hb1) hb2
  refine hK _ _ ((Keep.refl _ _).below hb2 (by rintro x rfl; have := C.lt; have := hb1.size; simp at this ⊢; omega)) ?_
  clear hK K hb1 hb2 C hC
  (try simp only [Act.put, List.setIfInBounds_toArray, List.set_cons_zero, List.set_cons_succ])
  (repeat (refine keep_quiet (v := ?_) rfl ?_ ?_; rotate_left; (focus (intro w' hw'; go_simp; (try with_reducible rfl); done)); try simp only [Act.put, List.setIfInBounds_toArray, List.set_cons_zero, List.set_cons_succ]))
  refine plan_end ?_
  (try simp only [Act.put, List.setIfInBounds_toArray, List.set_cons_zero, List.set_cons_succ])
  have e10 : behind Conf.eg Win.eg 10 = (3, true) := by decide
  rw [e10]
  clear c0
  go_wp2_with fail
  refine (win_any _).mono ?_
  rintro e w5 ⟨rfl, hb5⟩
  go_wp2_with fail
  refine (tell_bad _ Win.eg 4 false _ (by decide)).mono ?_
  rintro e w6 ⟨rfl, hb6⟩
  have hE : Below w.heap.size w w6 := bnext (bnext (by go_grown) hb5) hb6
  have E : Blk w6 w.heap.size 24 Conf.eg.cells := (Blk.below D hb5).below hb6
  have eL := E.lt
  have eL2 : w.heap.size ≤ w6.heap.size := Nat.le_of_lt eL
  clear D hD hb5 hb6
  unfold noPane paneOf
  go_wp2_with fail
  refine wp_at (fun wc => Blk wc w.heap.size 24 Conf.eg.cells ∧ Below w.heap.size w wc) ⟨by unfold Blk at E; simp (disch := (first | omega | (simp only [World.size_alloc, World.size_setCell, World.size_drew] <;> omega) | fail)) only [Blk, heap_old, heap_at, heap_set_same, heap_set_ne, heap_drew', Option.map_some, putO_cells, E], by go_grown⟩ ?_
  clear E hE eL eL2
  intro wc ⟨E, hE⟩
  have c0 := E.cell
  rename_i K hK
  have tail : ∀ (X g cap : Nat) (wd : World) (v6 v7 v11 v12 v13 v14 v15 v16 v17 v18 v19 v20 v21 v22 v23 v24 v25 v26 v27 v28 v29 v30 v31 v32 v33 v34 v35 : Value), Blk wd X 30 Win.eg2.cells → g < wd.heap.size → (∀ j, j < 9 → wd.cell? ⟨g, j, none⟩ = [.string ⟨#[107]⟩, .int .i64 0, .int .i64 10, .int .i64 1, .int .i64 1, .int .i64 3, .int .i64 10, .int .i64 1, .int .i64 5][j]?) → Below w.heap.size w wd →
      K { tmps := #[Value.bool false, Value.pointer (some ⟨w.heap.size, 0, none⟩), Value.int .i64 1, Value.bool true, Value.int .i64 3, Value.bool true, v6, v7, Value.int .i64 2, Value.pointer (some ⟨X, 0, none⟩), Value.slice (some ⟨g, 0, none⟩) 1 cap, v11, v12, v13, v14, v15, v16, v17, v18, v19, v20, v21, v22, v23, v24, v25, v26, v27, v28, v29, v30, v31, v32, v33, v34, v35, undef, undef, undef, undef, undef, undef, undef, undef, undef, undef, undef, undef, undef, undef, undef, undef, undef, undef, undef, undef, undef, undef, undef, undef, undef, undef, undef, undef, undef, undef, undef, undef, undef, undef, undef, undef, undef, undef, undef, undef, undef, undef, undef, undef, undef, undef, undef, undef, undef, undef, undef, undef, undef, undef, undef, undef, undef, undef, undef, undef, undef], defers := [] } wd := by
    intro X g cap wd v6 v7 v11 v12 v13 v14 v15 v16 v17 v18 v19 v20 v21 v22 v23 v24 v25 v26 v27 v28 v29 v30 v31 v32 v33 v34 v35 hX hg hgc hB
    refine hK _ _ ?_
    clear hK c0 E hE
    go_wp2_with fail
    refine (num_any 2 _ (by decide) (by decide)).mono ?_
    rintro e wa ⟨rfl, hba⟩
    have ca := (hX.below hba).cell
    have cg : ∀ j, j < 9 → wa.cell? ⟨g, j, none⟩ = _ := fun j hj => ((bcell hba).1 g j hg).trans (hgc j hj)
    have hBa : Below w.heap.size w wa := bnext hB hba
    clear hX hg hgc hB hba
    go_wp2_with fail
    refine (win_any _).mono ?_
    rintro e wb ⟨rfl, hbb⟩
    have hBb : Below w.heap.size w wb := bnext (by go_grown) hbb
    clear hbb hBa ca cg
    go_wp2_with fail
    refine (onTime_any Win.eg 9 10 _).mono ?_
    rintro e wc ⟨rfl, hbc⟩
    have hBc : Below w.heap.size w wc := bnext (by go_grown) hbc
    clear hbc hBb
    have e1 : (decide ((9 : Int) < Win.eg.e) && decide (Win.eg.e ≤ 10)) = true := by decide
    rw [e1]
    go_wp2_with fail
    refine (win_any _).mono ?_
    rintro e wd ⟨rfl, hbb⟩
    have hBd : Below w.heap.size w wd := bnext (by go_grown) hbb
    clear hbb hBc
    go_wp2_with fail
    refine (onTime_any Win.eg 10 20 _).mono ?_
    rintro e we ⟨rfl, hbc⟩
    have hBe : Below w.heap.size w we := bnext (by go_grown) hbc
    clear hbc hBd
    have e2 : (decide ((10 : Int) < Win.eg.e) && decide (Win.eg.e ≤ 20)) = false := by decide
    rw [e2]
    go_wp2_with fail
    go_returns
    exact ⟨rfl, by go_grown⟩
  have eL := E.lt
  have eM : w.heap.size ≤ wc.heap.size := Nat.le_of_lt eL
  have eN : w.heap.size < wc.heap.size + 1 := Nat.lt_succ_of_lt eL
  go_region_with (first
    | (go_at_call 26; refine (win_any _).mono ?_; rintro e w7 ⟨rfl, hb7⟩; obtain ⟨hc7, hf7⟩ := bcell hb7; (first | have c07 := (Blk.below (w := wc.drew) E hb7).cell | have c07 := (Blk.below (w := (wc.alloc _).drew) (Blk_alloc E _) hb7).cell); have hB7 : Below w.heap.size w w7 := bnext (by go_grown) hb7; (try have x7 : Blk w7 wc.heap.size 30 Win.zero.cells := Blk.below (w := (wc.alloc _).drew) (Blk_new _ _ _) hb7); have hy7 := lt_step (a := w.heap.size) (by first | exact eL | exact eN | (simp; omega)) hb7; have hy7' := Nat.le_of_lt hy7; have hy7'' : w.heap.size < w7.heap.size + 1 := Nat.lt_succ_of_lt hy7; (try have hq7 : wc.heap.size < w7.heap.size := by (have hqq := hb7.size; simp at hqq; omega)))
    | (go_at_call 16; refine (event_eg _ _).mono ?_; rintro e w8 ⟨g, cap, rfl, hg1, hg2, hgc, hb8⟩; obtain ⟨hc8, hf8⟩ := bcell hb8; (try simp at hg1); have hB8 : Below w.heap.size w w8 := bnext (by go_grown) hb8; (try have x8 : Blk w8 w7.heap.size 30 Win.zero.cells := Blk.below (w := w7.alloc _) (Blk_new _ _ _) hb8); (try have x8' : Blk w8 wc.heap.size 30 Win.zero.cells := Blk.below x7 hb8); have hy8 := lt_step (a := w.heap.size) (by first | exact hy7 | exact hy7'' | (simp; omega)) hb8; have hy8' := Nat.le_of_lt hy8; have hy8'' : w.heap.size < w8.heap.size + 1 := Nat.lt_succ_of_lt hy8; (try have hq8 : w7.heap.size < w8.heap.size := by (have hqq := hb8.size; simp at hqq; omega))))
  all_goals (try simp only [Act.put, List.setIfInBounds_toArray, List.set_cons_zero, List.set_cons_succ])
  all_goals refine tail _ _ _ _ _ _ _ _ _ _ _ _ _ _ _ _ _ _ _ _ _ _ _ _ _ _ _ _ _ _ _ ?_ ?_ ?_ ?_
  all_goals first
    | (with_reducible exact Blk_new _ _ _)
    | (with_reducible exact hg2)
    | (with_reducible refine below_goal ?_; go_grown; done)
    | (intro j hj; refine (World.cell?_of_block (a := ⟨g, j, none⟩) ?_).trans (hgc j hj); first | (with_reducible exact heap_old hg2) | (simp (disch := (first | omega | (simp only [World.size_alloc, World.size_setCell, World.size_drew] <;> omega) | fail)) only [Blk, heap_old, heap_at, heap_set_same, heap_set_ne, heap_drew', Option.map_some, putO_cells]; done))
    | (unfold Blk; unfold Blk at x8; simp (disch := (first | omega | (simp only [World.size_alloc, World.size_setCell, World.size_drew] <;> omega) | fail)) only [Blk, heap_old, heap_at, heap_set_same, heap_set_ne, heap_drew', Option.map_some, putO_cells, x8]; simp [Win.zero, Win.cells]; done)
    | (unfold Blk; unfold Blk at x8'; simp (disch := (first | omega | (simp only [World.size_alloc, World.size_setCell, World.size_drew] <;> omega) | fail)) only [Blk, heap_old, heap_at, heap_set_same, heap_set_ne, heap_drew', Option.map_some, putO_cells, x8']; simp [Win.zero, Win.cells]; done)
    | (simp only [World.size_alloc, World.size_setCell, World.size_drew]; omega)
end Go.Proofs.Ytfpomiimloohkaa
