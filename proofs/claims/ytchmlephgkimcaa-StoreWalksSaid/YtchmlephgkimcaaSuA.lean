/- Store: one step of the law's script: All, and no call at all. -/
import Derived.Test.YtchmlephgkimcaaStZ
set_option linter.unusedSimpArgs false
set_option linter.unusedVariables false
namespace Go.Proofs.Ytchmlephgkimcaa
open Go.RowKit Go.Kp Go.St
section
variable {S : World → Prop} {id : Nat} {caps : Array Value} {wh : Int} {w w' : World} {g r : Nat} {t : Tr} {L : List (Int × Int)}

set_option maxRecDepth 100000 in
set_option maxHeartbeats 8000000 in
theorem step_all (h : Both S id caps wh w g r t) (on to key val n : Int) (hmany : t.many + 1 ≤ 8796093022208) :
    Calls Try.prog 15 #[.pointer (some ⟨g, 0, none⟩), .pointer (some ⟨r, 0, none⟩), opV 9 on to key val n] w (StepR S id caps wh w g r t) := by
  have H := Lib.hid h
  have HMY := Lib.hid hmany
  have HTO := Lib.hid (told_all t)
  clear h hmany
  unfold opV
  go_enter Try.func15, Try.ntmps15
  go_wp2_with fail
  have hb0 : Below w.heap.size w (w.alloc (.cells #[.int .i64 9, .int .i64 on, .int .i64 to, .int .i64 key, .int .i64 val, .int .i64 n] 45)) := by go_grown
  have HB0 := Lib.hid hb0
  have H0 := Lib.hid (H.out.below hb0)
  have HC := Lib.hid (show Blk (w.alloc (.cells #[.int .i64 9, .int .i64 on, .int .i64 to, .int .i64 key, .int .i64 val, .int .i64 n] 45)) w.heap.size 45 #[.int .i64 9, .int .i64 on, .int .i64 to, .int .i64 key, .int .i64 val, .int .i64 n] from heap_at rfl)
  clear hb0
  generalize w.alloc (.cells #[.int .i64 9, .int .i64 on, .int .i64 to, .int .i64 key, .int .i64 val, .int .i64 n] 45) = W0 at *
  refine (All_any g W0).mono ?_
  rintro en w1 ⟨bm, bb, bo, rfl, hW, hb1⟩
  have hC1 := HC.out.below hb1
  have c1 := hC1.cell
  have q1 := hC1.lt
  have HC1 := Lib.hid hC1
  have H1 := Lib.hid (H0.out.below hb1)
  have HW1 := Lib.hid hW
  have HB1 := Lib.hid (HB0.out.trans (hb1.mono HB0.out.size))
  obtain ⟨a, cap, hr, hrow, hc1, hc2, hc3⟩ := (H0.out.below hb1).ref
  have cR := hr.cell
  have qR := hr.lt
  have HRow := Lib.hid hrow
  clear hb1 hC1 hW hr hrow hc1 hc2 hc3
  go_wp2_with fail
  (refine region_keep (fun b => b < w1.heap.size) 14 [(0, true), (1, true), (2, true), (3, true), (4, true), (5, true), (6, true), (7, false), (8, true), (9, true), (10, true), (11, true), (12, true), (13, true)] (by kernel_rfl) (fun _ _ d _ _ h => by cases d <;> exact h) (by kernel_rfl) ?_; simp only [withOps, List.getElem?_toArray, List.getElem?_cons_zero, List.getElem?_cons_succ, List.drop_succ_cons, List.drop_zero])
  (iterate 7 (refine keep_quiet (v := ?_) rfl ?_ ?_; rotate_left; (focus (intro w' hw'; go_simp; (try with_reducible rfl); done)); try simp only [Act.put, List.setIfInBounds_toArray, List.set_cons_zero, List.set_cons_succ]))
  (with_reducible refine plan_loud (fun K hK => ?_))
  go_simp
  have HB2 : Hid (Below w1.heap.size w1 w1.drew) := Lib.hid (Below.refl _ _).drew
  refine (walk_of (H1.out.below HB2.out) HMY.out (HW1.out.below lasting_true HB2.out) lasting_true (mono_all t) HTO.out.symm cap (HRow.out.below HB2.out) n).mono ?_
  rintro en w3 ⟨rfl, hb3⟩
  have hB3 : Below w1.heap.size w1 w3 := bnext HB2.out hb3
  refine hK _ _ (fun x hx => hb3.block x hx) ?_
  clear hK K
  have HB3 := Lib.hid hB3
  have c3 := fun i => (hB3.cell (p := ⟨r, i, none⟩) qR)
  clear hb3 hB3
  (try simp only [Act.put, List.setIfInBounds_toArray, List.set_cons_zero, List.set_cons_succ])
  have cR3 : ∀ i, w3.cell? ⟨r, i, none⟩ = w1.cell? ⟨r, i, none⟩ := c3
  clear c3
  (iterate 6 (refine keep_quiet (v := ?_) rfl ?_ ?_; rotate_left; (focus (intro w' hw'; go_simp; (try with_reducible rfl); done)); try simp only [Act.put, List.setIfInBounds_toArray, List.set_cons_zero, List.set_cons_succ]))
  (with_reducible refine plan_end ?_)
  (try simp only [Act.put, List.setIfInBounds_toArray, List.set_cons_zero, List.set_cons_succ])
  clear cR3 cR c1 q1
  go_wp2_with fail
  refine (walk_of (H1.out.below HB3.out) HMY.out (HW1.out.below lasting_true HB3.out) lasting_true (mono_all t) HTO.out.symm cap (HRow.out.below HB3.out) 0).mono ?_
  rintro en w5 ⟨rfl, hb5⟩
  have HB5 := Lib.hid (HB1.out.trans ((bnext HB3.out hb5).mono HB1.out.size))
  clear hb5
  go_wp2_with fail
  refine bodyPost_ret (v := .bool true) (by simp [results, Try.results15, go_sem]; done) rfl (StepR.same H.out rfl HB5.out)

set_option maxRecDepth 100000 in
set_option maxHeartbeats 8000000 in
theorem step_other (h : Both S id caps wh w g r t) (k on to key val n : Int) (hk : k < 0 ∨ 9 < k) :
    Calls Try.prog 15 #[.pointer (some ⟨g, 0, none⟩), .pointer (some ⟨r, 0, none⟩), opV k on to key val n] w (StepR S id caps wh w g r t) := by
  have H := Lib.hid h
  clear h
  unfold opV
  rcases hk with hk | hk
  · have e0 : ¬ 0 ≤ k := by omega
    have e3 : (k == 3) = false := by simp; omega
    have e4 : (k == 4) = false := by simp; omega
    have e5 : (k == 5) = false := by simp; omega
    have e6 : (k == 6) = false := by simp; omega
    have e7 : (k == 7) = false := by simp; omega
    have e8 : (k == 8) = false := by simp; omega
    have e9 : (k == 9) = false := by simp; omega
    go_enter Try.func15, Try.ntmps15
    go_wp2
    refine bodyPost_ret (v := .bool true) (by simp [results, Try.results15, go_sem]; done) rfl (StepR.same H.out rfl (by go_grown))
  · have e0 : ¬ k ≤ 2 := by omega
    have e1 : 0 ≤ k := by omega
    have e3 : (k == 3) = false := by simp; omega
    have e4 : (k == 4) = false := by simp; omega
    have e5 : (k == 5) = false := by simp; omega
    have e6 : (k == 6) = false := by simp; omega
    have e7 : (k == 7) = false := by simp; omega
    have e8 : (k == 8) = false := by simp; omega
    have e9 : (k == 9) = false := by simp; omega
    go_enter Try.func15, Try.ntmps15
    go_wp2
    refine bodyPost_ret (v := .bool true) (by simp [results, Try.results15, go_sem]; done) rfl (StepR.same H.out rfl (by go_grown))
end
end Go.Proofs.Ytchmlephgkimcaa
