/- CrcTable: the walk. -/
import Derived.Test.YtcjmobikjegioaaDoorCTable
set_option linter.unusedSimpArgs false
set_option linter.unusedVariables false
namespace Go.Proofs.YtcjmobikjegioaaDoor
open Go.RowKit Go.Kp

theorem eqTab (W : World) : (binOp .eql 44 (.agg (arr tv)) (.agg (arr tv))).run Tryd.prog W = .ok (.bool true) W := by
  rw [run_eql_struct, arr, eq256 _ (by simp)]
  simp [Result.andThen]

set_option maxRecDepth 20000 in
set_option maxHeartbeats 4000000 in
theorem table_law (w : World) (hT : Tab w) : Calls Tryd.prog 8 #[] w (Ret (.bool true) w) := by
  have HT := Lib.hid hT
  clear hT
  have hz := zeroTab
  go_enter Tryd.func8, Tryd.ntmps8
  go_upto_region 1 with (fail)
  apply wp_region_lit
  go_step
  go_step
  refine (table_any _ HT.out).mono ?_
  rintro en w1 ⟨rfl, hb⟩
  dsimp only
  rename_i KK hKK
  (with_reducible refine hKK _ _ ?_)
  clear hKK KK
  have hB1 : Below w.heap.size w w1 := hb
  have s1 := hB1.size
  clear hb
  (try simp only [Act.put, List.setIfInBounds_toArray, List.set_cons_zero, List.set_cons_succ])
  (go_step; go_step; rename_i KK hKK; (with_reducible refine hKK _ _ ?_); clear hKK KK)
  (try simp only [Act.put, List.setIfInBounds_toArray, List.set_cons_zero, List.set_cons_succ])
  (with_reducible refine wpList_store_row ?_ 44 (.tmp 1) (.tmp 5) ?_ w1.heap.size (arr tv) ?_ ?_ 44 (arr fun _ => 0) (heap_at rfl) ?_ ?_ ?_ ?_)
  · rfl
  · rfl
  · rfl
  · rfl
  · rw [arr_size]; kernel_rfl
  · rw [arr_size, arr_size]
  · exact arr_one _
  (try simp only [Act.put, List.setIfInBounds_toArray, List.set_cons_zero, List.set_cons_succ])
  have hB2 : Below w.heap.size w ((w1.alloc (.cells (arr fun _ => 0) 44)).setRow w1.heap.size (arr tv)) := setRow_below (by go_grown) s1 _
  have A2 : Blk ((w1.alloc (.cells (arr fun _ => 0) 44)).setRow w1.heap.size (arr tv)) w1.heap.size 44 (arr tv) := setRow_blk (heap_at rfl)
  generalize hW : (w1.alloc (.cells (arr fun _ => 0) 44)).setRow w1.heap.size (arr tv) = W2 at *
  clear hW hB1
  have s2 := hB2.size
  have l2 := A2.lt
  go_upto_region 2 with (fail)
  apply wp_region_lit
  go_step
  go_step
  refine (table_any _ (HT.out.next hB2)).mono ?_
  rintro en w3 ⟨rfl, hb⟩
  dsimp only
  rename_i KK hKK
  (with_reducible refine hKK _ _ ?_)
  clear hKK KK
  have hB3 : Below w.heap.size w w3 := bnext hB2 hb
  have A3 := A2.below hb
  have s3 := hB3.size
  have l3 := A3.lt
  clear hb hB2 A2 s2 l2
  (try simp only [Act.put, List.setIfInBounds_toArray, List.set_cons_zero, List.set_cons_succ])
  (go_step; go_step; rename_i KK hKK; (with_reducible refine hKK _ _ ?_); clear hKK KK)
  (try simp only [Act.put, List.setIfInBounds_toArray, List.set_cons_zero, List.set_cons_succ])
  (with_reducible refine wpList_store_row ?_ 44 (.tmp 2) (.tmp 6) ?_ w3.heap.size (arr tv) ?_ ?_ 44 (arr fun _ => 0) (heap_at rfl) ?_ ?_ ?_ ?_)
  · rfl
  · rfl
  · rfl
  · rfl
  · rw [arr_size]; kernel_rfl
  · rw [arr_size, arr_size]
  · exact arr_one _
  (try simp only [Act.put, List.setIfInBounds_toArray, List.set_cons_zero, List.set_cons_succ])
  have hB4 : Below w.heap.size w ((w3.alloc (.cells (arr fun _ => 0) 44)).setRow w3.heap.size (arr tv)) := setRow_below (by go_grown) s3 _
  have B4 : Blk ((w3.alloc (.cells (arr fun _ => 0) 44)).setRow w3.heap.size (arr tv)) w3.heap.size 44 (arr tv) := setRow_blk (heap_at rfl)
  have A4 : Blk ((w3.alloc (.cells (arr fun _ => 0) 44)).setRow w3.heap.size (arr tv)) w1.heap.size 44 (arr tv) := (setRow_heap_ne (by omega)).trans ((heap_old l3).trans A3)
  generalize hW : (w3.alloc (.cells (arr fun _ => 0) 44)).setRow w3.heap.size (arr tv) = W4 at *
  clear hW hB3 A3 s3 hz
  go_wp2_with fail
  go_loopw [3] (fun i wr => ∃ k : Nat, k ≤ 256 ∧ i = .int .i64 k ∧ Blk wr w1.heap.size 44 (arr fun i => if i < k then 7 else tv i) ∧ Blk wr w3.heap.size 44 (arr tv) ∧ Below w.heap.size w wr) (fun i _ => 256 - (intOf i).toNat)
  case atStart => exact ⟨0, Nat.zero_le _, rfl, by rw [arr_ext (fun i => if i < 0 then 7 else tv i) tv (fun i _ => by simp)]; exact A4, B4, hB4⟩
  case round =>
    obtain ⟨k, hk, rfl, A, B, hB⟩ := hrel
    clear A4 B4 hB4
    have l0 := A.lt
    have l1 := B.lt
    rcases Nat.lt_or_ge k 256 with hlt | hge
    · have c0 : wr.cell? ⟨w1.heap.size, k, none⟩ = some (.int .u32 (tv k)) := by rw [A.cell k, arr_get _ k hlt]; simp
      go_wp2_with fail
      (refine region_grow 5 [(0, true), (1, true), (2, true), (3, true), (4, false)] (by kernel_rfl) (fun _ _ d _ _ h => by cases d <;> exact h) (by kernel_rfl) ?_; simp only [withOps, List.getElem?_toArray, List.getElem?_cons_zero, List.getElem?_cons_succ, List.drop_succ_cons, List.drop_zero])
      (iterate 4 (refine grow_quiet (v := ?_) rfl ?_ ?_; rotate_left; (focus (intro w' hz' hw'; (try simp only [World.size_drew, World.size_alloc] at hw'); go_simp; (try with_reducible rfl); done)); try simp only [Act.put, List.setIfInBounds_toArray, List.set_cons_zero, List.set_cons_succ]))
      (with_reducible refine plan_loud (fun K hK => ?_))
      go_simp
      refine (refTable_any k hlt _).mono ?_
      rintro en w5 ⟨rfl, hb⟩
      have hB5 : Below w.heap.size w w5 := bnext (by go_grown) hb
      have A5 : Blk w5 w1.heap.size 44 (arr fun i => if i < k then 7 else tv i) := Blk.below (show Blk wr.drew _ _ _ from A) hb
      have B5 : Blk w5 w3.heap.size 44 (arr tv) := Blk.below (show Blk wr.drew _ _ _ from B) hb
      refine hK _ _ (Grow.below hb) ?_
      clear hK K hb hB A B l0 l1 c0
      have l0 := A5.lt
      have l1 := B5.lt
      have c0 := (A5.cell k).trans (arr_get _ k hlt)
      have f0 := A5.free k
      (try simp only [Act.put, List.setIfInBounds_toArray, List.set_cons_zero, List.set_cons_succ])
      (with_reducible refine plan_end ?_)
      (try simp only [Act.put, List.setIfInBounds_toArray, List.set_cons_zero, List.set_cons_succ])
      go_wp2_with fail
      go_roundw
      case rel =>
        refine ⟨k + 1, by omega, by go_num, ?_, ?_, by go_grown⟩
        · rw [← arr_set (fun _ => 7) _ _ hlt]
          unfold Blk at A5; simp (disch := (first | omega | (simp only [World.size_alloc, World.size_setCell, World.size_drew] <;> omega) | fail)) only [Blk, heap_old, heap_at, heap_set_same, heap_set_ne, heap_drew', Option.map_some, putO_cells, A5]
        · unfold Blk at B5; simp (disch := (first | omega | (simp only [World.size_alloc, World.size_setCell, World.size_drew] <;> omega) | fail)) only [Blk, heap_old, heap_at, heap_set_same, heap_set_ne, heap_drew', Option.map_some, putO_cells, B5]
      case measure => simp [intOf]; omega
    · clear A l0
      go_upto_region 9 with (fail)
      have hz := zeroTab
      apply wp_region_lit
      go_step
      go_step
      refine (table_any _ (HT.out.next hB)).mono ?_
      rintro en w6 ⟨rfl, hb⟩
      dsimp only
      rename_i KK hKK
      (with_reducible refine hKK _ _ ?_)
      clear hKK KK
      have hB6 : Below w.heap.size w w6 := bnext hB hb
      have B6 := B.below hb
      have s6 := hB6.size
      have l6 := B6.lt
      clear hb hB B l1
      (try simp only [Act.put, List.setIfInBounds_toArray, List.set_cons_zero, List.set_cons_succ])
      (go_step; go_step; rename_i KK hKK; (with_reducible refine hKK _ _ ?_); clear hKK KK)
      (try simp only [Act.put, List.setIfInBounds_toArray, List.set_cons_zero, List.set_cons_succ])
      (with_reducible refine wpList_store_row ?_ 44 (.tmp 4) (.tmp 19) ?_ w6.heap.size (arr tv) ?_ ?_ 44 (arr fun _ => 0) (heap_at rfl) ?_ ?_ ?_ ?_)
      · rfl
      · rfl
      · rfl
      · rfl
      · rw [arr_size]; kernel_rfl
      · rw [arr_size, arr_size]
      · exact arr_one _
      (try simp only [Act.put, List.setIfInBounds_toArray, List.set_cons_zero, List.set_cons_succ])
      have hB7 : Below w.heap.size w ((w6.alloc (.cells (arr fun _ => 0) 44)).setRow w6.heap.size (arr tv)) := setRow_below (by go_grown) s6 _
      have C7 : Blk ((w6.alloc (.cells (arr fun _ => 0) 44)).setRow w6.heap.size (arr tv)) w6.heap.size 44 (arr tv) := setRow_blk (heap_at rfl)
      have B7 : Blk ((w6.alloc (.cells (arr fun _ => 0) 44)).setRow w6.heap.size (arr tv)) w3.heap.size 44 (arr tv) := (setRow_heap_ne (by omega)).trans ((heap_old l6).trans B6)
      generalize hW : (w6.alloc (.cells (arr fun _ => 0) 44)).setRow w6.heap.size (arr tv) = W7 at *
      clear hW hB6 B6 s6 l6 hz
      have s7 := hB7.size
      have H7 := Lib.hid (show W7.heap[w6.heap.size]? = some (Obj.cells (arr tv) 44 (0, 0)) from C7)
      have G7 := Lib.hid (show W7.heap[w3.heap.size]? = some (Obj.cells (arr tv) 44 (0, 0)) from B7)
      clear C7 B7
      go_upto_region 10 with (fail)
      apply wp_region_lit
      (with_reducible refine wpList_load_row ?_ 44 (.tmp 2) ?_ w3.heap.size ?_ 44 (arr tv) (0, 0) _ G7.out Tryd.underlying44 ?_ ?_ ?_)
      · rfl
      · rfl
      · rfl
      · rfl
      · rw [arr_size]; kernel_rfl
      (try simp only [Act.put, List.setIfInBounds_toArray, List.set_cons_zero, List.set_cons_succ])
      (with_reducible refine wpList_load_row ?_ 44 (.tmp 4) ?_ w6.heap.size ?_ 44 (arr tv) (0, 0) _ H7.out Tryd.underlying44 ?_ ?_ ?_)
      · rfl
      · rfl
      · rfl
      · rfl
      · rw [arr_size]; kernel_rfl
      (try simp only [Act.put, List.setIfInBounds_toArray, List.set_cons_zero, List.set_cons_succ])
      have hq := eqTab
      clear H7 G7
      go_wp2_with fail
      clear hq
      refine (sum1 _ _ [1] _ ?_ (heap_at (by simp)) ?_).mono ?_
      · exact HT.out.next (by go_grown)
      · exact txt_of (n := 1) [1] rfl (by decide) ⟨5, (0, 0), (heap_old (by simp)).trans (heap_at rfl)⟩
      rintro en w8 ⟨rfl, hb⟩
      have hB8 : Below w.heap.size w w8 := bnext (by go_grown) hb
      have s8 := hB8.size
      clear hb hB7 s7
      go_wp2_with fail
      refine (refSum_any _ [1] _ ?_).mono ?_
      · exact txt_of (n := 1) [1] rfl (by decide) ⟨5, (0, 0), heap_at rfl⟩
      rintro en w9 ⟨rfl, hb⟩
      have hB9 : Below w.heap.size w w9 := bnext (by go_grown) hb
      have s9 := hB9.size
      clear hb hB8 s8
      go_wp2_with fail
      refine (works_any _ ?_).mono ?_
      · exact HT.out.next (by go_grown)
      rintro en w10 ⟨rfl, hb⟩
      have hB10 : Below w.heap.size w w10 := bnext (by go_grown) hb
      clear hb hB9
      go_wp2_with fail
      go_returns
      exact ⟨rfl, by go_grown⟩
end Go.Proofs.YtcjmobikjegioaaDoor
