/- Which of two tallies comes first: Compare of both. -/
import Derived.Test.YtkafcdgeboldgaaDoorTCmp
import Derived.Test.YtkafcdgeboldgaaDoorFork
import Derived.Deep.Cut
import Derived.ChangeKeysEq
import Derived.Laws.StructEq
set_option linter.unusedSimpArgs false
set_option linter.unusedVariables false
namespace Go.Proofs.YtkafcdgeboldgaaDoor
open Go.RowKit Go.Kp

def Tally.nth (a : Tally) (k : Nat) : Int := [a.c, a.su, a.mi, a.ma].getD k 0
abbrev Tally.arr (a : Tally) : Array Value := #[.int .i64 a.c, .int .i64 a.su, .int .i64 a.mi, .int .i64 a.ma]
theorem nth_get (a : Tally) (k : Nat) (h : k < 4) : a.arr[k]? = some (.int .i64 (a.nth k)) := by
  match k, h with
  | 0, _ => rfl
  | 1, _ => rfl
  | 2, _ => rfl
  | 3, _ => rfl
def cmpAt (a b : Tally) (k : Nat) : Int := cmpL ([a.c, a.su, a.mi, a.ma].drop k) ([b.c, b.su, b.mi, b.ma].drop k)
theorem cmpAt_step (a b : Tally) (k : Nat) (h : k < 4) : cmpAt a b k = if cmpI (a.nth k) (b.nth k) = 0 then cmpAt a b (k + 1) else cmpI (a.nth k) (b.nth k) := by
  match k, h with
  | 0, _ => rfl
  | 1, _ => rfl
  | 2, _ => rfl
  | 3, _ => rfl
theorem cmpAt_end (a b : Tally) : cmpAt a b 4 = 0 := rfl

theorem Keep.both {S : Nat → Prop} {w a b : World} (h : Keep S w a) (k : Keep S w b) : Keep S a b := fun x hx => (k x hx).trans (h x hx).symm
def Tally.same (a b : Tally) : Bool := (a.c == b.c) && ((a.su == b.su) && ((a.mi == b.mi) && (a.ma == b.ma)))
theorem same_iff (a b : Tally) : a.same b = true ↔ a = b := by
  obtain ⟨a1, a2, a3, a4⟩ := a
  obtain ⟨b1, b2, b3, b4⟩ := b
  unfold Tally.same
  simp
theorem eqItems4 (d : Nat) (a b : Tally) (w : World) : (Op.eqItems (d + 1) 2 1 a.arr b.arr [0, 1, 2, 3]).run Tryd.prog w = .ok (a.same b) w := by
  have he := Tryd.underlying2
  have pa : ∀ (x : Array Value) (j : Nat) (v : Value), x[j]? = some v → (part 2 x j).run Tryd.prog w = .ok v w := fun x j v hv => by
    simp [part, isAgg, run_underlying he, hv]
  simp only [Op.eqItems, Sem.run_bind, Nat.zero_mul, Nat.mul_one, pa a.arr 0 _ rfl, pa a.arr 1 _ rfl, pa a.arr 2 _ rfl, pa a.arr 3 _ rfl, pa b.arr 0 _ rfl, pa b.arr 1 _ rfl, pa b.arr 2 _ rfl, pa b.arr 3 _ rfl, Result.andThen_ok, run_equalIn_int w d 2 .i64 .i64 _ _ he]
  unfold Tally.same
  by_cases h1 : a.c = b.c <;> by_cases h2 : a.su = b.su <;> by_cases h3 : a.mi = b.mi <;> by_cases h4 : a.ma = b.ma <;> simp [h1, h2, h3, h4, pa a.arr 0 _ rfl, pa a.arr 1 _ rfl, pa a.arr 2 _ rfl, pa a.arr 3 _ rfl, pa b.arr 0 _ rfl, pa b.arr 1 _ rfl, pa b.arr 2 _ rfl, pa b.arr 3 _ rfl, run_equalIn_int w d 2 .i64 .i64 _ _ he]
theorem eqArr (a b : Tally) (w : World) : (Op.equalIn 10000 53 (.agg a.arr) (.agg b.arr)).run Tryd.prog w = .ok (a.same b) w := by
  obtain ⟨i, hi⟩ : ∃ i, Tryd.prog.info? 2 = some i := Option.isSome_iff_exists.1 (by kernel_rfl)
  have h := run_equalIn_array (P := Tryd.prog) w 9999 (t := 53) (e := 2) (n := 4) (i := i) a.arr b.arr Tryd.underlying53 hi
  rw [h, show Tryd.prog.cellsOf 2 = 1 by kernel_rfl]
  exact eqItems4 9998 a b w
theorem eqTally (a b : Tally) (w : World) : (Op.equalIn 10000 24 a.val b.val).run Tryd.prog w = .ok (a.same b) w := by
  have he := Tryd.underlying2
  have hS : Tryd.prog.underlying 24 = some (.struct (Tryd.prog.fieldsOf 24)) := by kernel_rfl
  have hp : Tryd.prog.stoodInHeld 24 = false := by kernel_rfl
  rw [show (10000 : Nat) = 9999 + 1 from rfl, run_equalIn_agg w 9999 24 _ _ hS hp, Tally.same]
  simp only [Program.fieldsOf, Tryd.underlying24]
  go_simp
  by_cases h1 : a.c = b.c <;> by_cases h2 : a.su = b.su <;> by_cases h3 : a.mi = b.mi <;> by_cases h4 : a.ma = b.ma <;> simp [h1, h2, h3, h4]

theorem refcmp_any (a b : Tally) (w : World) : Calls Tryd.prog 26 #[a.val, b.val] w (Ret (.int .i64 (cmpT a b)) w) := by
  go_enter Tryd.func26, Tryd.ntmps26
  go_wp2_with fail
  go_loopw [7] (fun i wr => ∃ k : Nat, k ≤ 4 ∧ i = .int .i64 k ∧ Blk wr (w.heap.size + 2) 53 a.arr ∧ Blk wr (w.heap.size + 3) 53 b.arr ∧ Below w.heap.size w wr ∧ cmpT a b = cmpAt a b k) (fun i _ => 4 - (intOf i).toNat)
  case atStart =>
    refine ⟨0, Nat.zero_le _, rfl, ?_, ?_, by go_grown, rfl⟩
    · simp (disch := (first | omega | (simp only [World.size_alloc, World.size_setCell, World.size_drew] <;> omega) | fail)) only [Blk, heap_old, heap_at, heap_set_same, heap_set_ne, heap_drew', Option.map_some, putO_cells]
      first | rfl | (simp; done) | skip
    · simp (disch := (first | omega | (simp only [World.size_alloc, World.size_setCell, World.size_drew] <;> omega) | fail)) only [Blk, heap_old, heap_at, heap_set_same, heap_set_ne, heap_drew', Option.map_some, putO_cells]
      first | rfl | (simp; done) | skip
  case round =>
    obtain ⟨k, hk, rfl, A, B, hB, he⟩ := hrel
    have HE := Lib.hid he
    clear he
    have lA := A.lt
    have lB := B.lt
    rcases Nat.lt_or_ge k 4 with hlt | hge
    · have c0 : wr.cell? ⟨w.heap.size + 2, k, none⟩ = some (.int .i64 (a.nth k)) := (A.cell k).trans (nth_get a k hlt)
      have c1 : wr.cell? ⟨w.heap.size + 3, k, none⟩ = some (.int .i64 (b.nth k)) := (B.cell k).trans (nth_get b k hlt)
      have HS := Lib.hid (cmpAt_step a b k hlt)
      have hki : (k : Int) < 4 := by omega
      generalize a.nth k = x at *
      generalize b.nth k = y at *
      rcases Int.lt_trichotomy x y with h | rfl | h
      · have e : cmpT a b = -1 := by rw [HE.out, HS.out]; unfold cmpI; rw [if_pos h]; rfl
        have E := Lib.hid e
        clear e
        go_wp2_with fail
        (refine region_keep (fun x => x < wr.heap.size) 6 [(0, true), (1, true), (2, true), (3, true), (4, true), (5, true)] (by kernel_rfl) (fun _ _ d _ _ h => by cases d <;> exact h) (by kernel_rfl) ?_; simp only [withOps, List.getElem?_toArray, List.getElem?_cons_zero, List.getElem?_cons_succ, List.drop_succ_cons, List.drop_zero])
        (iterate 6 (refine keep_quiet (v := ?_) rfl ?_ ?_; rotate_left; (focus (intro w' hw'; go_simp; (try with_reducible rfl); done)); try simp only [Act.put, List.setIfInBounds_toArray, List.set_cons_zero, List.set_cons_succ]))
        (with_reducible refine plan_end ?_)
        (try simp only [Act.put, List.setIfInBounds_toArray, List.set_cons_zero, List.set_cons_succ])
        go_wp2_with fail
        go_returns
        exact ⟨by rw [E.out]; rfl, bnext hB (by go_grown)⟩
      · have e : cmpT a b = cmpAt a b (k + 1) := by rw [HE.out, HS.out]; unfold cmpI; simp
        have E := Lib.hid e
        clear e
        go_wp2_with fail
        (refine region_keep (fun x => x < wr.heap.size) 6 [(0, true), (1, true), (2, true), (3, true), (4, true), (5, true)] (by kernel_rfl) (fun _ _ d _ _ h => by cases d <;> exact h) (by kernel_rfl) ?_; simp only [withOps, List.getElem?_toArray, List.getElem?_cons_zero, List.getElem?_cons_succ, List.drop_succ_cons, List.drop_zero])
        (iterate 6 (refine keep_quiet (v := ?_) rfl ?_ ?_; rotate_left; (focus (intro w' hw'; go_simp; (try with_reducible rfl); done)); try simp only [Act.put, List.setIfInBounds_toArray, List.set_cons_zero, List.set_cons_succ]))
        (with_reducible refine plan_end ?_)
        (try simp only [Act.put, List.setIfInBounds_toArray, List.set_cons_zero, List.set_cons_succ])
        go_wp2_with fail
        (refine region_keep (fun x => x < wr.heap.size) 6 [(0, true), (1, true), (2, true), (3, true), (4, true), (5, true)] (by kernel_rfl) (fun _ _ d _ _ h => by cases d <;> exact h) (by kernel_rfl) ?_; simp only [withOps, List.getElem?_toArray, List.getElem?_cons_zero, List.getElem?_cons_succ, List.drop_succ_cons, List.drop_zero])
        (iterate 6 (refine keep_quiet (v := ?_) rfl ?_ ?_; rotate_left; (focus (intro w' hw'; go_simp; (try with_reducible rfl); done)); try simp only [Act.put, List.setIfInBounds_toArray, List.set_cons_zero, List.set_cons_succ]))
        (with_reducible refine plan_end ?_)
        (try simp only [Act.put, List.setIfInBounds_toArray, List.set_cons_zero, List.set_cons_succ])
        go_wp2_with fail
        go_roundw
        case rel => exact ⟨k + 1, by omega, by go_num, A, B, bnext hB (by go_grown), E.out⟩
        case measure => simp [intOf]; omega
      · have e : cmpT a b = 1 := by rw [HE.out, HS.out]; unfold cmpI; rw [if_neg (show ¬ x < y by omega), if_pos h]; rfl
        have E := Lib.hid e
        clear e
        have h2 : ¬ x < y := by omega
        go_wp2_with fail
        (refine region_keep (fun x => x < wr.heap.size) 6 [(0, true), (1, true), (2, true), (3, true), (4, true), (5, true)] (by kernel_rfl) (fun _ _ d _ _ h => by cases d <;> exact h) (by kernel_rfl) ?_; simp only [withOps, List.getElem?_toArray, List.getElem?_cons_zero, List.getElem?_cons_succ, List.drop_succ_cons, List.drop_zero])
        (iterate 6 (refine keep_quiet (v := ?_) rfl ?_ ?_; rotate_left; (focus (intro w' hw'; go_simp; (try with_reducible rfl); done)); try simp only [Act.put, List.setIfInBounds_toArray, List.set_cons_zero, List.set_cons_succ]))
        (with_reducible refine plan_end ?_)
        (try simp only [Act.put, List.setIfInBounds_toArray, List.set_cons_zero, List.set_cons_succ])
        go_wp2_with fail
        (refine region_keep (fun x => x < wr.heap.size) 6 [(0, true), (1, true), (2, true), (3, true), (4, true), (5, true)] (by kernel_rfl) (fun _ _ d _ _ h => by cases d <;> exact h) (by kernel_rfl) ?_; simp only [withOps, List.getElem?_toArray, List.getElem?_cons_zero, List.getElem?_cons_succ, List.drop_succ_cons, List.drop_zero])
        (iterate 6 (refine keep_quiet (v := ?_) rfl ?_ ?_; rotate_left; (focus (intro w' hw'; go_simp; (try with_reducible rfl); done)); try simp only [Act.put, List.setIfInBounds_toArray, List.set_cons_zero, List.set_cons_succ]))
        (with_reducible refine plan_end ?_)
        (try simp only [Act.put, List.setIfInBounds_toArray, List.set_cons_zero, List.set_cons_succ])
        go_wp2_with fail
        go_returns
        exact ⟨by rw [E.out]; rfl, bnext hB (by go_grown)⟩
    · obtain rfl : k = 4 := by omega
      have E := Lib.hid (HE.out.trans (cmpAt_end a b))
      go_wp2_with fail
      go_returns
      exact ⟨by rw [E.out]; rfl, bnext hB (by go_grown)⟩

attribute [local go_sem high] eqArr
theorem tcmp_any (a b : Tally) (w : World) : Calls Tryd.prog 25 #[a.val, b.val] w (Ret (.int .i64 (cmpT a b)) w) := by
  go_enter Tryd.func25, Tryd.ntmps25
  go_upto_region 1 with (fail)
  (refine wp_at (fun wc => Blk wc w.heap.size 24 a.arr ∧ Blk wc (w.heap.size + 1) 24 b.arr ∧ Below w.heap.size w wc) ⟨(heap_old (by simp)).trans (heap_at rfl), heap_at (by simp), by go_grown⟩ ?_)
  rintro wz ⟨A0, B0, hB⟩
  have lA := A0.lt
  have lB := B0.lt
  have a0 : wz.cell? ⟨w.heap.size, 0, none⟩ = some (.int .i64 a.c) := A0.cell 0
  have a1 : wz.cell? ⟨w.heap.size, 1, none⟩ = some (.int .i64 a.su) := A0.cell 1
  have a2 : wz.cell? ⟨w.heap.size, 2, none⟩ = some (.int .i64 a.mi) := A0.cell 2
  have a3 : wz.cell? ⟨w.heap.size, 3, none⟩ = some (.int .i64 a.ma) := A0.cell 3
  have b0 : wz.cell? ⟨w.heap.size + 1, 0, none⟩ = some (.int .i64 b.c) := B0.cell 0
  have b1 : wz.cell? ⟨w.heap.size + 1, 1, none⟩ = some (.int .i64 b.su) := B0.cell 1
  have b2 : wz.cell? ⟨w.heap.size + 1, 2, none⟩ = some (.int .i64 b.mi) := B0.cell 2
  have b3 : wz.cell? ⟨w.heap.size + 1, 3, none⟩ = some (.int .i64 b.ma) := B0.cell 3
  clear A0 B0
  go_cut [5, 6] from 9 (fun s5 s6 wc => ∃ p q : Nat, s5 = .pointer (some ⟨p, 0, none⟩) ∧ s6 = .pointer (some ⟨q, 0, none⟩) ∧ Blk wc p 53 a.arr ∧ Blk wc q 53 b.arr ∧ Below w.heap.size w wc)
  case first =>
    (refine region_tree (Keep (fun x => x < wz.heap.size)) (Keep.refl _) Keep.trans 21 (.seq [(0, true), (1, true), (2, true), (3, true), (4, true), (5, true), (6, true), (7, true), (8, true), (9, true), (10, true), (11, true), (12, true), (13, true), (14, true), (15, true), (16, true), (17, true)] (.fork 18 19 (.seq [(19, false), (20, false)] .fin) (.seq [(18, false), (20, false)] .fin))) (by kernel_rfl) (fun _ _ d _ _ h => by cases d <;> exact h) (by kernel_rfl) ?_)
    (refine tree_seq ?_; simp only [withOps, List.getElem?_toArray, List.getElem?_cons_zero, List.getElem?_cons_succ])
    (iterate 18 (refine keep_quiet (v := ?_) rfl ?_ ?_; rotate_left; (focus (intro w' hw'; go_simp; (try with_reducible rfl); done)); try simp only [Act.put, List.setIfInBounds_toArray, List.set_cons_zero, List.set_cons_succ]))
    (with_reducible refine plan_end ?_)
    refine tree_fork ?_ ?_
    · (simp only [withOps, List.getElem?_toArray, List.getElem?_cons_zero, List.getElem?_cons_succ])
      (with_reducible refine plan_loud (fun K hK => ?_))
      go_simp
      refine hK _ _ ?_ ?_
      · (repeat' (first | (with_reducible exact Keep.refl _ _) | (with_reducible refine Keep.drew ?_) | (with_reducible refine Keep.of_drew ?_) | (with_reducible refine Keep.alloc ?_ ?_ _) | (with_reducible refine Keep.setCell ?_ ?_ _) | (simp; omega) | (simp; done) | omega))
      clear hK K
      (with_reducible refine plan_end ?_)
      (refine tree_seq ?_; simp only [withOps, List.getElem?_toArray, List.getElem?_cons_zero, List.getElem?_cons_succ])
      (try simp only [Act.put, List.setIfInBounds_toArray, List.set_cons_zero, List.set_cons_succ])
      (with_reducible refine plan_loud (fun K hK => ?_))
      go_simp
      refine hK _ _ ?_ ?_
      · (repeat' (first | (with_reducible exact Keep.refl _ _) | (with_reducible refine Keep.drew ?_) | (with_reducible refine Keep.of_drew ?_) | (with_reducible refine Keep.alloc ?_ ?_ _) | (with_reducible refine Keep.setCell ?_ ?_ _) | (simp; omega) | (simp; done) | omega))
      clear hK K
      (try simp only [Act.put, List.setIfInBounds_toArray, List.set_cons_zero, List.set_cons_succ])
      (with_reducible refine plan_loud (fun K hK => ?_))
      go_simp
      refine hK _ _ (Keep.both (w := wz) ?_ ?_) ?_
      · (repeat' (first | (with_reducible exact Keep.refl _ _) | (with_reducible refine Keep.drew ?_) | (with_reducible refine Keep.of_drew ?_) | (with_reducible refine Keep.alloc ?_ ?_ _) | (with_reducible refine Keep.setCell ?_ ?_ _) | (simp; omega) | (simp; done) | omega))
      · (repeat' (first | (with_reducible exact Keep.refl _ _) | (with_reducible refine Keep.drew ?_) | (with_reducible refine Keep.of_drew ?_) | (with_reducible refine Keep.alloc ?_ ?_ _) | (with_reducible refine Keep.setCell ?_ ?_ _) | (simp; omega) | (simp; done) | omega))
      clear hK K
      (try simp only [Act.put, List.setIfInBounds_toArray, List.set_cons_zero, List.set_cons_succ])
      ((with_reducible refine plan_end ?_); (with_reducible refine tree_fin ?_); simp only [List.drop_succ_cons, List.drop_zero]; (try simp only [Act.put, List.setIfInBounds_toArray, List.set_cons_zero, List.set_cons_succ]))
      go_wp2_with fail
      go_meet
      case rel =>
        refine ⟨_, _, rfl, rfl, ?_, ?_, bnext hB (by go_grown)⟩
        · simp (disch := (first | omega | (simp only [World.size_alloc, World.size_setCell, World.size_drew] <;> omega) | fail)) only [Blk, heap_old, heap_at, heap_set_same, heap_set_ne, heap_drew', Option.map_some, putO_cells]
          first | rfl | (simp; done) | skip
        · simp (disch := (first | omega | (simp only [World.size_alloc, World.size_setCell, World.size_drew] <;> omega) | fail)) only [Blk, heap_old, heap_at, heap_set_same, heap_set_ne, heap_drew', Option.map_some, putO_cells]
          first | rfl | (simp; done) | skip
    · (simp only [withOps, List.getElem?_toArray, List.getElem?_cons_zero, List.getElem?_cons_succ])
      (with_reducible refine plan_loud (fun K hK => ?_))
      go_simp
      refine hK _ _ ?_ ?_
      · (repeat' (first | (with_reducible exact Keep.refl _ _) | (with_reducible refine Keep.drew ?_) | (with_reducible refine Keep.of_drew ?_) | (with_reducible refine Keep.alloc ?_ ?_ _) | (with_reducible refine Keep.setCell ?_ ?_ _) | (simp; omega) | (simp; done) | omega))
      clear hK K
      (with_reducible refine plan_end ?_)
      (refine tree_seq ?_; simp only [withOps, List.getElem?_toArray, List.getElem?_cons_zero, List.getElem?_cons_succ])
      (try simp only [Act.put, List.setIfInBounds_toArray, List.set_cons_zero, List.set_cons_succ])
      (with_reducible refine plan_loud (fun K hK => ?_))
      go_simp
      refine hK _ _ ?_ ?_
      · (repeat' (first | (with_reducible exact Keep.refl _ _) | (with_reducible refine Keep.drew ?_) | (with_reducible refine Keep.of_drew ?_) | (with_reducible refine Keep.alloc ?_ ?_ _) | (with_reducible refine Keep.setCell ?_ ?_ _) | (simp; omega) | (simp; done) | omega))
      clear hK K
      (try simp only [Act.put, List.setIfInBounds_toArray, List.set_cons_zero, List.set_cons_succ])
      (with_reducible refine plan_loud (fun K hK => ?_))
      go_simp
      refine hK _ _ (Keep.both (w := wz) ?_ ?_) ?_
      · (repeat' (first | (with_reducible exact Keep.refl _ _) | (with_reducible refine Keep.drew ?_) | (with_reducible refine Keep.of_drew ?_) | (with_reducible refine Keep.alloc ?_ ?_ _) | (with_reducible refine Keep.setCell ?_ ?_ _) | (simp; omega) | (simp; done) | omega))
      · (repeat' (first | (with_reducible exact Keep.refl _ _) | (with_reducible refine Keep.drew ?_) | (with_reducible refine Keep.of_drew ?_) | (with_reducible refine Keep.alloc ?_ ?_ _) | (with_reducible refine Keep.setCell ?_ ?_ _) | (simp; omega) | (simp; done) | omega))
      clear hK K
      (try simp only [Act.put, List.setIfInBounds_toArray, List.set_cons_zero, List.set_cons_succ])
      ((with_reducible refine plan_end ?_); (with_reducible refine tree_fin ?_); simp only [List.drop_succ_cons, List.drop_zero]; (try simp only [Act.put, List.setIfInBounds_toArray, List.set_cons_zero, List.set_cons_succ]))
      go_wp2_with fail
      go_meet
      case rel =>
        refine ⟨_, _, rfl, rfl, ?_, ?_, bnext hB (by go_grown)⟩
        · simp (disch := (first | omega | (simp only [World.size_alloc, World.size_setCell, World.size_drew] <;> omega) | fail)) only [Blk, heap_old, heap_at, heap_set_same, heap_set_ne, heap_drew', Option.map_some, putO_cells]
          first | rfl | (simp; done) | skip
        · simp (disch := (first | omega | (simp only [World.size_alloc, World.size_setCell, World.size_drew] <;> omega) | fail)) only [Blk, heap_old, heap_at, heap_set_same, heap_set_ne, heap_drew', Option.map_some, putO_cells]
          first | rfl | (simp; done) | skip
  case rest =>
    clear a0 a1 a2 a3 b0 b1 b2 b3 lA lB hB
    obtain ⟨p, q, rfl, rfl, A, B, hB⟩ := hcut
    have lA := A.lt
    have lB := B.lt
    have a0 : wc.cell? ⟨p, 0, none⟩ = some (.int .i64 a.c) := A.cell 0
    have a1 : wc.cell? ⟨p, 1, none⟩ = some (.int .i64 a.su) := A.cell 1
    have a2 : wc.cell? ⟨p, 2, none⟩ = some (.int .i64 a.mi) := A.cell 2
    have a3 : wc.cell? ⟨p, 3, none⟩ = some (.int .i64 a.ma) := A.cell 3
    have b0 : wc.cell? ⟨q, 0, none⟩ = some (.int .i64 b.c) := B.cell 0
    have b1 : wc.cell? ⟨q, 1, none⟩ = some (.int .i64 b.su) := B.cell 1
    have b2 : wc.cell? ⟨q, 2, none⟩ = some (.int .i64 b.mi) := B.cell 2
    have b3 : wc.cell? ⟨q, 3, none⟩ = some (.int .i64 b.ma) := B.cell 3
    have HQ := Lib.hid (same_iff a b)
    cases hs : a.same b with
    | true =>
      obtain rfl := HQ.out.1 hs
      have E := Lib.hid ((cmpT_zero a a).2 rfl)
      go_wp2_with fail
      go_returns
      exact ⟨by rw [E.out]; rfl, bnext hB (by go_grown)⟩
    | false =>
      go_wp2_with fail
      clear HQ hs a0 a1 a2 a3 b0 b1 b2 b3
      go_loopw [30] (fun i wr => ∃ k : Nat, k ≤ 4 ∧ i = .int .i64 k ∧ Blk wr p 53 a.arr ∧ Blk wr q 53 b.arr ∧ Below w.heap.size w wr ∧ cmpT a b = cmpAt a b k) (fun i _ => 4 - (intOf i).toNat)
      case atStart => exact ⟨0, Nat.zero_le _, rfl, A, B, bnext hB (by go_grown), rfl⟩
      case round =>
        clear hB A B lA lB
        obtain ⟨k, hk, rfl, A, B, hB, he⟩ := hrel
        have HE := Lib.hid he
        clear he
        have lA := A.lt
        have lB := B.lt
        rcases Nat.lt_or_ge k 4 with hlt | hge
        · have c0 : wr.cell? ⟨p, k, none⟩ = some (.int .i64 (a.nth k)) := (A.cell k).trans (nth_get a k hlt)
          have c1 : wr.cell? ⟨q, k, none⟩ = some (.int .i64 (b.nth k)) := (B.cell k).trans (nth_get b k hlt)
          have HS := Lib.hid (cmpAt_step a b k hlt)
          have hki : (k : Int) < 4 := by omega
          generalize a.nth k = x at *
          generalize b.nth k = y at *
          go_wp2_with fail
          (refine region_keep (fun x => x < wr.heap.size) 6 [(0, true), (1, true), (2, true), (3, true), (4, true), (5, true)] (by kernel_rfl) (fun _ _ d _ _ h => by cases d <;> exact h) (by kernel_rfl) ?_; simp only [withOps, List.getElem?_toArray, List.getElem?_cons_zero, List.getElem?_cons_succ, List.drop_succ_cons, List.drop_zero])
          (iterate 6 (refine keep_quiet (v := ?_) rfl ?_ ?_; rotate_left; (focus (intro w' hw'; go_simp; (try with_reducible rfl); done)); try simp only [Act.put, List.setIfInBounds_toArray, List.set_cons_zero, List.set_cons_succ]))
          (with_reducible refine plan_end ?_)
          (try simp only [Act.put, List.setIfInBounds_toArray, List.set_cons_zero, List.set_cons_succ])
          go_wp2_with fail
          refine (cmp_any x y _).mono ?_
          rintro en w2 ⟨rfl, hb⟩
          have hB2 := bnext hB (bnext (by go_grown) hb)
          have A2 := Lib.hid (show Blk w2 p _ _ from Blk.below (w := wr.drew) A hb)
          have B2 := Lib.hid (show Blk w2 q _ _ from Blk.below (w := wr.drew) B hb)
          clear c0 c1 hb A B lA lB hB
          generalize cmpI x y = r at *
          rcases Decidable.em (r = 0) with h | h
          · have E := Lib.hid (show cmpT a b = cmpAt a b (k + 1) by rw [HE.out, HS.out, if_pos h])
            subst h
            go_wp2_with fail
            go_roundw
            case rel => exact ⟨k + 1, by omega, by go_num, A2.out, B2.out, hB2, E.out⟩
            case measure => simp [intOf]; omega
          · have E := Lib.hid (show cmpT a b = r by rw [HE.out, HS.out, if_neg h])
            go_wp2_with fail
            go_returns
            exact ⟨by rw [E.out]; rfl, hB2⟩
        · obtain rfl : k = 4 := by omega
          have E := Lib.hid (HE.out.trans (cmpAt_end a b))
          go_wp2_with fail
          go_returns
          exact ⟨by rw [E.out]; rfl, bnext hB (by go_grown)⟩
end Go.Proofs.YtkafcdgeboldgaaDoor
