/- CrcTable: the table, and the walk. -/
import Derived.Test.YtcjmobikjegioaaDoorCEq
import Derived.Test.YtcjmobikjegioaaDoorGrow
import Derived.Deep.Cut
set_option linter.unusedSimpArgs false
set_option linter.unusedVariables false
namespace Go.Proofs.YtcjmobikjegioaaDoor
open Go.RowKit Go.Kp

/-- 256 numbers as cells. -/
def arr (g : Nat → Int) : Array Value := (((List.range 256).map g).map (Value.int .u32)).toArray
theorem arr_size (g : Nat → Int) : (arr g).size = 256 := by simp [arr]
theorem arr_get (g : Nat → Int) (i : Nat) (h : i < 256) : (arr g)[i]? = some (.int .u32 (g i)) := by simp [arr, h]
theorem arr_one (g : Nat → Int) : (arr g).all (·.oneCell') = true := by
  rw [Array.all_eq_true_iff_forall_mem]
  intro v hv
  simp [arr] at hv
  obtain ⟨i, _, rfl⟩ := hv
  rfl
theorem arr_ext (f g : Nat → Int) (h : ∀ i, i < 256 → f i = g i) : arr f = arr g := by
  unfold arr
  congr 2
  apply List.map_congr_left
  intro i hi
  exact h i (by simpa using hi)
theorem arr_set (f h : Nat → Int) (k : Nat) (hk : k < 256) : (arr fun i => if i < k then f i else h i).setIfInBounds k (.int .u32 (f k)) = arr fun i => if i < k + 1 then f i else h i := by
  apply Array.ext
  · simp [arr]
  · intro i h1 h2
    have hi : i < 256 := by simpa [arr] using h2
    rw [Array.getElem_setIfInBounds (by rw [arr_size]; exact hi)]
    by_cases e : k = i
    · subst e; simp [arr]
    · simp only [e, if_false]
      by_cases h3 : i < k
      · simp [arr, h3, show i < k + 1 by omega]
      · simp [arr, h3, show ¬ i < k + 1 by omega]
theorem arr_zero : arr (fun _ => 0) = Array.replicate 256 (.int .u32 0) := by
  apply Array.ext
  · simp [arr]
  · intro i h1 h2; simp [arr]

theorem zeroTab (W : World) : (zeroValue 44).run Tryd.prog W = .ok (.agg (arr fun _ => 0)) W := by
  rw [arr_zero]; kernel_rfl

def tv (i : Nat) : Int := Crc.num (Crc.eight (BitVec.ofNat 32 i))
theorem num_nat (k : Nat) (h : k < 4294967296) : ((k : Nat) : Int) = Crc.num (BitVec.ofNat 32 k) := by
  unfold Crc.num; rw [BitVec.toNat_ofNat, Nat.mod_eq_of_lt h]
theorem eight_nat (k : Nat) (h : k < 4294967296) (w : World) (hT : Tab w) : Calls Tryd.prog 38 #[.int .u32 (k : Int)] w (Ret (.int .u32 (tv k)) w) := by
  have hc := eight_any (BitVec.ofNat 32 k) w hT
  rw [show U (BitVec.ofNat 32 k) = .int .u32 (k : Int) from congrArg _ (num_nat k h).symm] at hc
  exact hc
theorem refEight_nat (k : Nat) (h : k < 4294967296) (w : World) : Calls Tryd.prog 40 #[.int .u32 (k : Int)] w (Ret (.int .u32 (tv k)) w) := by
  have hc := refEight_any (BitVec.ofNat 32 k) w
  rw [show U (BitVec.ofNat 32 k) = .int .u32 (k : Int) from congrArg _ (num_nat k h).symm] at hc
  exact hc

theorem refTable_any (k : Nat) (h : k < 256) (w : World) : Calls Tryd.prog 28 #[.int .i64 (k : Int)] w (Ret (.int .u32 (tv k)) w) := by
  go_enter Tryd.func28, Tryd.ntmps28
  go_wp2_with fail
  refine (refEight_nat k (by omega) _).mono ?_
  rintro en w1 ⟨rfl, hb⟩
  have hB1 : Below w.heap.size w w1 := bnext (by go_grown) hb
  clear hb
  go_wp2_with fail
  go_returns
  exact ⟨rfl, by go_grown⟩

set_option maxRecDepth 20000 in
set_option maxHeartbeats 2000000 in
theorem table_any (w : World) (hT : Tab w) : Calls Tryd.prog 27 #[] w (Ret (.agg (arr tv)) w) := by
  have HT := Lib.hid hT
  clear hT
  have hz := zeroTab
  go_enter Tryd.func27, Tryd.ntmps27
  go_wp2_with fail
  clear hz
  go_loopw [3] (fun i wr => ∃ k : Nat, k ≤ 256 ∧ i = .int .i64 k ∧ Blk wr w.heap.size 44 (arr fun _ => 0) ∧ Blk wr (w.heap.size + 1) 44 (arr fun i => if i < k then tv i else 0) ∧ Below w.heap.size w wr) (fun i _ => 256 - (intOf i).toNat)
  case atStart =>
    refine ⟨0, Nat.zero_le _, rfl, ?_, ?_, by go_grown⟩
    · exact (heap_old (by simp)).trans (heap_at rfl)
    · rw [arr_ext (fun i => if i < 0 then tv i else 0) (fun _ => 0) (fun i _ => by simp)]; exact heap_at (by simp)
  case round =>
    obtain ⟨k, hk, rfl, A0, A1, hB⟩ := hrel
    have l0 := A0.lt
    have l1 := A1.lt
    rcases Nat.lt_or_ge k 256 with hlt | hge
    · go_wp2_with fail
      refine (eight_nat k (by omega) _ (HT.out.next hB)).mono ?_
      rintro en w1 ⟨rfl, hb1⟩
      have B0 := A0.below hb1
      have B1 := A1.below hb1
      have hB1 : Below w.heap.size w w1 := bnext hB hb1
      clear A0 A1 hB l0 l1 hb1
      have l0 := B0.lt
      have l1 := B1.lt
      have c1 := (B1.cell k).trans (arr_get _ k hlt)
      have f1 := B1.free k
      go_wp2_with fail
      go_roundw
      case rel =>
        refine ⟨k + 1, by omega, by go_num, ?_, ?_, by go_grown⟩
        · unfold Blk at B0; simp (disch := (first | omega | (simp only [World.size_alloc, World.size_setCell, World.size_drew] <;> omega) | fail)) only [Blk, heap_old, heap_at, heap_set_same, heap_set_ne, heap_drew', Option.map_some, putO_cells, B0]
        · rw [← arr_set _ _ _ hlt]
          unfold Blk at B1; simp (disch := (first | omega | (simp only [World.size_alloc, World.size_setCell, World.size_drew] <;> omega) | fail)) only [Blk, heap_old, heap_at, heap_set_same, heap_set_ne, heap_drew', Option.map_some, putO_cells, B1]
      case measure => simp [intOf]; omega
    · have A1 := (show k = 256 by omega) ▸ A1
      rw [arr_ext (fun i => if i < 256 then tv i else 0) tv (fun i h => by simp [h])] at A1
      have H0 := Lib.hid (show wr.heap[w.heap.size]? = some (Obj.cells (arr fun _ => 0) 44 (0, 0)) from A0)
      have H1 := Lib.hid (show wr.heap[w.heap.size + 1]? = some (Obj.cells (arr tv) 44 (0, 0)) from A1)
      clear A0 A1
      go_upto_region 7 with (fail)
      apply wp_region_lit
      (with_reducible refine wpList_load_row ?_ 44 (.tmp 1) ?_ (w.heap.size + 1) ?_ 44 (arr tv) (0, 0) _ H1.out Tryd.underlying44 ?_ ?_ ?_)
      · rfl
      · rfl
      · rfl
      · rfl
      · rw [arr_size]; kernel_rfl
      (try simp only [Act.put, List.setIfInBounds_toArray, List.set_cons_zero, List.set_cons_succ])
      (with_reducible refine wpList_store_row ?_ 44 (.tmp 0) (.tmp 12) ?_ w.heap.size (arr tv) ?_ ?_ 44 (arr fun _ => 0) H0.out ?_ ?_ ?_ ?_)
      · rfl
      · rfl
      · rfl
      · rfl
      · rw [arr_size]; kernel_rfl
      · rw [arr_size, arr_size]
      · exact arr_one _
      (try simp only [Act.put, List.setIfInBounds_toArray, List.set_cons_zero, List.set_cons_succ])
      go_wp2_with fail
      refine bodyPost_ret (v := .agg (arr tv)) ?_ rfl ⟨rfl, setRow_below hB (Nat.le_refl _) _⟩
      exact results_cell_row rfl _ _ w.heap.size 44 (arr tv) (0, 0) _ rfl (setRow_blk (show Blk wr w.heap.size 44 (arr fun _ => 0) from H0.out)) Tryd.underlying44 rfl (by rw [arr_size]; kernel_rfl)
end Go.Proofs.YtcjmobikjegioaaDoor
