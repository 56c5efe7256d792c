/- Store: one step of the law's script: At; any step. -/
import Derived.Test.YtchmlephgkimcaaSuA
set_option linter.unusedSimpArgs false
set_option linter.unusedVariables false
namespace Go.Proofs.Ytchmlephgkimcaa
open Go.RowKit Go.Kp Go.St
section
variable {S : World → Prop} {id : Nat} {caps : Array Value} {wh : Int} {w w' : World} {g r : Nat} {t : Tr} {L : List (Int × Int)}

set_option maxRecDepth 100000 in
set_option maxHeartbeats 8000000 in
theorem step_at_neg (h : Both S id caps wh w g r t) (on to key val n : Int) (hn : n < 0) :
    Calls Try.prog 15 #[.pointer (some ⟨g, 0, none⟩), .pointer (some ⟨r, 0, none⟩), opV 6 on to key val n] w (StepR S id caps wh w g r t) := by
  have H := Lib.hid h
  clear h
  unfold opV
  go_enter Try.func15, Try.ntmps15
  go_wp2_with fail
  have hb0 : Below w.heap.size w (w.alloc (.cells #[.int .i64 6, .int .i64 on, .int .i64 to, .int .i64 key, .int .i64 val, .int .i64 n] 45)) := by go_grown
  have HB0 := Lib.hid hb0
  have H0 := Lib.hid (H.out.below hb0)
  have HC := Lib.hid (show Blk (w.alloc (.cells #[.int .i64 6, .int .i64 on, .int .i64 to, .int .i64 key, .int .i64 val, .int .i64 n] 45)) w.heap.size 45 #[.int .i64 6, .int .i64 on, .int .i64 to, .int .i64 key, .int .i64 val, .int .i64 n] from heap_at rfl)
  clear hb0
  generalize w.alloc (.cells #[.int .i64 6, .int .i64 on, .int .i64 to, .int .i64 key, .int .i64 val, .int .i64 n] 45) = W0 at *
  refine (At_out H0.out.own n (.inl hn)).mono ?_
  rintro en w1 ⟨rfl, hb1⟩
  have hC1 := HC.out.below hb1
  have c1 := hC1.cell
  have q1 := hC1.lt
  have HB1 := Lib.hid (HB0.out.trans (hb1.mono HB0.out.size))
  obtain ⟨a, cap, hr, hrow, hc1, hc2, hc3⟩ := (H0.out.below hb1).ref
  rw [← T.many_len] at hr
  have cR := hr.cell
  have qR := hr.lt
  clear hb1 hC1 hr hrow hc1 hc2 hc3
  go_wp2_with fail
  (refine region_keep (fun b => b < w1.heap.size) 11 [(0, true), (1, true), (2, true), (3, true), (4, true), (5, true), (6, true), (7, true), (8, true), (9, true), (10, true)] (by kernel_rfl) (fun _ _ d _ _ h => by cases d <;> exact h) (by kernel_rfl) ?_; simp only [withOps, List.getElem?_toArray, List.getElem?_cons_zero, List.getElem?_cons_succ, List.drop_succ_cons, List.drop_zero])
  (iterate 4 (refine keep_quiet (v := ?_) rfl ?_ ?_; rotate_left; (focus (intro w' hw'; go_simp; (try with_reducible rfl); done)); try simp only [Act.put, List.setIfInBounds_toArray, List.set_cons_zero, List.set_cons_succ]))
  (iterate 7 ((with_reducible refine plan_skip ?_ ?_); (focus rfl); try simp only [Act.put, List.setIfInBounds_toArray, List.set_cons_zero, List.set_cons_succ]))
  (with_reducible refine plan_end ?_)
  (try simp only [Act.put, List.setIfInBounds_toArray, List.set_cons_zero, List.set_cons_succ])
  go_wp2
  refine bodyPost_ret (v := .bool true) (by simp [results, Try.results15, go_sem]; done) rfl (StepR.same H.out rfl (HB1.out.trans ((show Below w1.heap.size w1 w1.drew from (Below.refl _ _).drew).mono HB1.out.size)))

set_option maxRecDepth 100000 in
set_option maxHeartbeats 8000000 in
theorem step_at_far (h : Both S id caps wh w g r t) (on to key val n : Int) (hn : (t.many : Int) ≤ n) :
    Calls Try.prog 15 #[.pointer (some ⟨g, 0, none⟩), .pointer (some ⟨r, 0, none⟩), opV 6 on to key val n] w (StepR S id caps wh w g r t) := by
  have H := Lib.hid h
  clear h
  unfold opV
  go_enter Try.func15, Try.ntmps15
  go_wp2_with fail
  have hb0 : Below w.heap.size w (w.alloc (.cells #[.int .i64 6, .int .i64 on, .int .i64 to, .int .i64 key, .int .i64 val, .int .i64 n] 45)) := by go_grown
  have HB0 := Lib.hid hb0
  have H0 := Lib.hid (H.out.below hb0)
  have HC := Lib.hid (show Blk (w.alloc (.cells #[.int .i64 6, .int .i64 on, .int .i64 to, .int .i64 key, .int .i64 val, .int .i64 n] 45)) w.heap.size 45 #[.int .i64 6, .int .i64 on, .int .i64 to, .int .i64 key, .int .i64 val, .int .i64 n] from heap_at rfl)
  clear hb0
  generalize w.alloc (.cells #[.int .i64 6, .int .i64 on, .int .i64 to, .int .i64 key, .int .i64 val, .int .i64 n] 45) = W0 at *
  refine (At_out H0.out.own n (.inr hn)).mono ?_
  rintro en w1 ⟨rfl, hb1⟩
  have hC1 := HC.out.below hb1
  have c1 := hC1.cell
  have q1 := hC1.lt
  have HB1 := Lib.hid (HB0.out.trans (hb1.mono HB0.out.size))
  obtain ⟨a, cap, hr, hrow, hc1, hc2, hc3⟩ := (H0.out.below hb1).ref
  rw [← T.many_len] at hr
  have cR := hr.cell
  have qR := hr.lt
  clear hb1 hC1 hr hrow hc1 hc2 hc3
  go_wp2_with fail
  have hd1 : decide (n < 0) = false := by simp; omega
  have hd1' : ¬ n < 0 := by omega
  (refine region_keep (fun b => b < w1.heap.size) 11 [(0, true), (1, true), (2, true), (3, true), (4, true), (5, true), (6, true), (7, true), (8, true), (9, true), (10, true)] (by kernel_rfl) (fun _ _ d _ _ h => by cases d <;> exact h) (by kernel_rfl) ?_; simp only [withOps, List.getElem?_toArray, List.getElem?_cons_zero, List.getElem?_cons_succ, List.drop_succ_cons, List.drop_zero])
  (iterate 11 (refine keep_quiet (v := ?_) rfl ?_ ?_; rotate_left; (focus (intro w' hw'; go_simp; (try with_reducible rfl); done)); try simp only [Act.put, List.setIfInBounds_toArray, List.set_cons_zero, List.set_cons_succ]))
  (with_reducible refine plan_end ?_)
  (try simp only [Act.put, List.setIfInBounds_toArray, List.set_cons_zero, List.set_cons_succ])
  go_wp2
  refine bodyPost_ret (v := .bool true) (by simp [results, Try.results15, go_sem]; done) rfl (StepR.same H.out rfl (HB1.out.trans ((show Below w1.heap.size w1 w1.drew from (Below.refl _ _).drew).mono HB1.out.size)))

set_option maxRecDepth 100000 in
set_option maxHeartbeats 8000000 in
theorem step_at_in (h : Both S id caps wh w g r t) (on to key val n : Int) (N : Nat) (hnN : n = N) (x : Int × Int) (hx : t.toL[N]? = some x) (hmany : t.many + 1 ≤ 8796093022208) :
    Calls Try.prog 15 #[.pointer (some ⟨g, 0, none⟩), .pointer (some ⟨r, 0, none⟩), opV 6 on to key val n] w (StepR S id caps wh w g r t) := by
  have HNN := Lib.hid hnN
  have HX := Lib.hid hx
  have hNm : N < t.many := by rw [T.many_len]; exact (List.getElem?_eq_some_iff.1 hx).1
  have hn0 : ¬ n < 0 := by omega
  have hn1 : ¬ ((t.many : Nat) : Int) ≤ n := by omega
  have hn2 : n < ((t.many : Nat) : Int) := by omega
  have hn3 : (0 : Int) ≤ n := by omega
  have hn4 : n.toNat = N := by omega
  clear hx hnN
  have H := Lib.hid h
  clear h
  unfold opV
  go_enter Try.func15, Try.ntmps15
  go_wp2_with fail
  have hb0 : Below w.heap.size w (w.alloc (.cells #[.int .i64 6, .int .i64 on, .int .i64 to, .int .i64 key, .int .i64 val, .int .i64 n] 45)) := by go_grown
  have HB0 := Lib.hid hb0
  have H0 := Lib.hid (H.out.below hb0)
  have HC := Lib.hid (show Blk (w.alloc (.cells #[.int .i64 6, .int .i64 on, .int .i64 to, .int .i64 key, .int .i64 val, .int .i64 n] 45)) w.heap.size 45 #[.int .i64 6, .int .i64 on, .int .i64 to, .int .i64 key, .int .i64 val, .int .i64 n] from heap_at rfl)
  clear hb0
  generalize w.alloc (.cells #[.int .i64 6, .int .i64 on, .int .i64 to, .int .i64 key, .int .i64 val, .int .i64 n] 45) = W0 at *
  have hat := At_in H0.out.own N x.1 x.2 HX.out
  rw [← HNN.out] at hat
  refine hat.mono ?_
  clear hat
  rintro en w1 ⟨rfl, hb1⟩
  have hC1 := HC.out.below hb1
  have c1 := hC1.cell
  have q1 := hC1.lt
  have HB1 := Lib.hid (HB0.out.trans (hb1.mono HB0.out.size))
  obtain ⟨a, cap, hr, hrow, hc1, hc2, hc3⟩ := (H0.out.below hb1).ref
  rw [← T.many_len] at hr
  have cR := hr.cell
  have qR := hr.lt
  obtain ⟨b, off, rfl, hb', hcl⟩ := rd_prs hrow.rd (by rw [← T.many_len]; omega)
  obtain ⟨x0, x1⟩ := hcl _ _ HX.out
  have hx0 : (x.1 == x.1) = true := by simp
  have hx1 : (x.2 == x.2) = true := by simp
  clear hb1 hC1 hr hrow hc1 hc2 hc3 hcl
  generalize t.many = m at *
  go_wp2_with fail
  have hd1 : decide (n < 0) = false := by simp; omega
  have hd2 : decide ((m : Int) ≤ n) = false := by simp; omega
  have hd1' : ¬ n < 0 := by omega
  have hd2' : ¬ (m : Int) ≤ n := by omega
  (refine region_keep (fun b => b < w1.heap.size) 11 [(0, true), (1, true), (2, true), (3, true), (4, true), (5, true), (6, true), (7, true), (8, true), (9, true), (10, true)] (by kernel_rfl) (fun _ _ d _ _ h => by cases d <;> exact h) (by kernel_rfl) ?_; simp only [withOps, List.getElem?_toArray, List.getElem?_cons_zero, List.getElem?_cons_succ, List.drop_succ_cons, List.drop_zero])
  (iterate 11 (refine keep_quiet (v := ?_) rfl ?_ ?_; rotate_left; (focus (intro w' hw'; go_simp; (try with_reducible rfl); done)); try simp only [Act.put, List.setIfInBounds_toArray, List.set_cons_zero, List.set_cons_succ]))
  (with_reducible refine plan_end ?_)
  (try simp only [Act.put, List.setIfInBounds_toArray, List.set_cons_zero, List.set_cons_succ])
  go_wp2_with fail
  (refine region_keep (fun b => b < w1.heap.size) 22 [(0, true), (1, true), (2, true), (3, true), (4, true), (5, true), (6, true), (7, true), (8, true), (9, true), (10, true), (11, true), (12, true), (13, true), (14, true), (15, true), (16, true), (17, true), (18, true), (19, true), (20, true), (21, true)] (by kernel_rfl) (fun _ _ d _ _ h => by cases d <;> exact h) (by kernel_rfl) ?_; simp only [withOps, List.getElem?_toArray, List.getElem?_cons_zero, List.getElem?_cons_succ, List.drop_succ_cons, List.drop_zero])
  (iterate 22 (refine keep_quiet (v := ?_) rfl ?_ ?_; rotate_left; (focus (intro w' hw'; go_simp; (try with_reducible rfl); done)); try simp only [Act.put, List.setIfInBounds_toArray, List.set_cons_zero, List.set_cons_succ]))
  (with_reducible refine plan_end ?_)
  (try simp only [Act.put, List.setIfInBounds_toArray, List.set_cons_zero, List.set_cons_succ])
  go_wp2
  refine bodyPost_ret (v := .bool true) (by simp [results, Try.results15, go_sem]; done) rfl (StepR.same H.out rfl (HB1.out.trans ((show Below w1.heap.size w1 w1.drew.drew from (Below.refl _ _).drew.drew).mono HB1.out.size)))

theorem step_any (h : Both S id caps wh w g r t) (k on to key val n : Int) (hmany : t.many + 1 ≤ 8796093022208) :
    Calls Try.prog 15 #[.pointer (some ⟨g, 0, none⟩), .pointer (some ⟨r, 0, none⟩), opV k on to key val n] w (StepR S id caps wh w g r t) := by
  by_cases h0 : k < 0 ∨ 9 < k
  · exact step_other h k on to key val n h0
  by_cases h2 : k ≤ 2
  · exact step_put h k on to key val n (by omega) h2 hmany
  by_cases h3 : k = 3
  · subst h3; exact step_take h on to key val n hmany
  by_cases h4 : k = 4
  · subst h4; exact step_get h on to key val n hmany
  by_cases h5 : k = 5
  · subst h5; exact step_place h on to key val n hmany
  by_cases h6 : k = 6
  · subst h6
    rcases Int.lt_or_le n 0 with hn | hn
    · exact step_at_neg h on to key val n hn
    rcases Int.lt_or_le n t.many with hm | hm
    · obtain ⟨N, rfl⟩ := Int.eq_ofNat_of_zero_le hn
      have hN : N < t.toL.length := by rw [← T.many_len]; omega
      exact step_at_in h on to key val _ N rfl _ (List.getElem?_eq_getElem hN) hmany
    · exact step_at_far h on to key val n hm
  by_cases h7 : k = 7
  · subst h7; exact step_from h on to key val n hmany
  by_cases h8 : k = 8
  · subst h8; exact step_back h on to key val n hmany
  obtain rfl : k = 9 := by omega
  exact step_all h on to key val n hmany
end
end Go.Proofs.Ytchmlephgkimcaa
