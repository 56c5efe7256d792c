/- works: the chapter's examples. -/
import Derived.Test.YtkafcdgeboldgaaDoorTOf
import Derived.WalkLawsBesides
set_option linter.unusedSimpArgs false
set_option linter.unusedVariables false
namespace Go.Proofs.YtkafcdgeboldgaaDoor
open Go.RowKit Go.Kp

theorem five_thirds : floatBits .quo .f64 (floatOfInt .f64 5) (floatOfInt .f64 3) = some 4610184818551597739 := by kernel_rfl

set_option maxHeartbeats 2000000 in
theorem mean_eg (w : World) : Calls Tryd.prog 21 #[(Tally.mk 3 5 (-1) 3).val] w (Ret (.tuple #[.float .f64 4610184818551597739, .bool true]) w) := by
  have hq := fun (W : World) => run_float_arith (P := Tryd.prog) (w := W) .quo 39 .f64 _ _ _ five_thirds
  go_enter Tryd.func21, Tryd.ntmps21
  go_wp2
  refine bodyPost_ret (v := .tuple #[.float .f64 4610184818551597739, .bool true]) (by simp [results, Tryd.results21, go_sem]; done) rfl ⟨rfl, ?_⟩
  go_grown

set_option maxHeartbeats 2000000 in
theorem can_eg (w : World) : Calls Tryd.prog 19 #[(Tally.mk 3 5 (-1) 3).val] w (Ret (.bool true) w) := by
  go_enter Tryd.func19, Tryd.ntmps19
  go_wp2
  go_returns
  exact ⟨rfl, by go_grown⟩

set_option maxHeartbeats 2000000 in
theorem can_not (w : World) : Calls Tryd.prog 19 #[(Tally.mk 3 6 2 3).val] w (Ret (.bool false) w) := by
  go_enter Tryd.func19, Tryd.ntmps19
  go_wp2
  go_returns
  exact ⟨rfl, by go_grown⟩

set_option maxHeartbeats 2000000 in
theorem works_any (w : World) : Calls Tryd.prog 16 #[] w (Ret (.bool true) w) := by
  have hfd : ∀ w : World, (Instr.field 24 (.agg #[.int .i64 6, .int .i64 10, .int .i64 (-1), .int .i64 3]) 0).run Tryd.prog w = .ok (.int .i64 6) w := fun _ => by kernel_rfl
  go_enter Tryd.func16, Tryd.ntmps16
  go_wp2_with fail
  refine (of_any _ 3 [3, -1, 3] _ (by decide) (by unfold I64; decide) (.inr ⟨w.heap.size, 0, rfl, by simp, ?_⟩)).mono ?_
  · intro j u hu
    rw [cell_of_row _ _ _ _ _ _ (heap_at rfl)]
    simpa using hu
  rintro en w1 ⟨rfl, hb1⟩
  rw [show ofs [3, -1, 3] = ⟨3, 5, -1, 3⟩ by simp [ofs, add, more, wrap64]; decide]
  have hB1 : Below w.heap.size w w1 := bnext (by go_grown) hb1
  have hz : w.heap.size ≤ w1.heap.size := hB1.size
  clear hb1
  go_wp2_with fail
  refine (mean_eg _).mono ?_
  rintro en w2 ⟨rfl, hb2⟩
  have hB2 : Below w.heap.size w w2 := bnext (by go_grown) hb2
  have A : Blk w2 w1.heap.size 24 (Tally.mk 3 5 (-1) 3).cells.toArray := Blk.below (by simp (disch := (first | omega | (simp only [World.size_alloc, World.size_setCell, World.size_drew] <;> omega) | fail)) only [Blk, heap_old, heap_at, heap_set_same, heap_set_ne, heap_drew', Option.map_some, putO_cells]) hb2
  clear hb2 hB1
  have c := A.cell
  have l := A.lt
  go_wp2_with fail
  refine (add_any (Tally.mk 3 5 (-1) 3) 7 _ (by unfold Tally.ok; decide) (by decide) (by decide)).mono ?_
  rintro en w3 ⟨rfl, hb⟩
  have hB3 : Below w.heap.size w w3 := bnext (by go_grown) hb
  have A3 : Blk w3 w1.heap.size 24 (Tally.mk 3 5 (-1) 3).cells.toArray := Blk.below (by unfold Blk at A; simp (disch := (first | omega | (simp only [World.size_alloc, World.size_setCell, World.size_drew] <;> omega) | fail)) only [Blk, heap_old, heap_at, heap_set_same, heap_set_ne, heap_drew', Option.map_some, putO_cells, A]) hb
  clear hb hB2 A c l
  have c := A3.cell
  have l := A3.lt
  rw [show add (Tally.mk 3 5 (-1) 3) 7 = ⟨4, 12, -1, 7⟩ by simp [add, more, wrap64]; decide]
  have z3 : w.heap.size ≤ w3.heap.size := hB3.size
  go_wp2_with fail
  refine (join_any _ 2 2 [(Tally.mk 3 5 (-1) 3), (Tally.mk 3 5 (-1) 3)] _ rfl ?_ (by omega) (.inr ⟨w3.heap.size, 0, rfl, by simp, ?_⟩)).mono ?_
  · intro x hx
    have : x = Tally.mk 3 5 (-1) 3 := by simpa using hx
    subst this
    unfold Tally.ok; decide
  · intro j u hu
    rw [cell_of_row _ _ _ _ _ _ (heap_at rfl)]
    simpa using hu
  rintro en w4 ⟨rfl, hb⟩
  have hB4 : Below w.heap.size w w4 := bnext (by go_grown) hb
  have A4 : Blk w4 w1.heap.size 24 (Tally.mk 3 5 (-1) 3).cells.toArray := Blk.below (by unfold Blk at A3; simp (disch := (first | omega | (simp only [World.size_alloc, World.size_setCell, World.size_drew] <;> omega) | fail)) only [Blk, heap_old, heap_at, heap_set_same, heap_set_ne, heap_drew', Option.map_some, putO_cells, A3]) hb
  clear hb hB3 A3 c l
  have c := A4.cell
  have l := A4.lt
  rw [show (join [Tally.mk 3 5 (-1) 3, Tally.mk 3 5 (-1) 3]).val = .agg #[.int .i64 6, .int .i64 10, .int .i64 (-1), .int .i64 3] by rw [show join [Tally.mk 3 5 (-1) 3, Tally.mk 3 5 (-1) 3] = ⟨6, 10, -1, 3⟩ by simp [join, joinStep, wrap64, show (0 : Int) < min 3 9007199254740992 by decide]; decide]]
  clear z3
  go_wp2_with fail
  refine (can_eg _).mono ?_
  rintro en w5 ⟨rfl, hb⟩
  have hB5 : Below w.heap.size w w5 := bnext (by go_grown) hb
  have A5 : Blk w5 w1.heap.size 24 (Tally.mk 3 5 (-1) 3).cells.toArray := Blk.below (by unfold Blk at A4; simp (disch := (first | omega | (simp only [World.size_alloc, World.size_setCell, World.size_drew] <;> omega) | fail)) only [Blk, heap_old, heap_at, heap_set_same, heap_set_ne, heap_drew', Option.map_some, putO_cells, A4]) hb
  clear hb hB4 A4 c l
  have c := A5.cell
  have l := A5.lt
  go_wp2_with fail
  refine (can_not _).mono ?_
  rintro en w6 ⟨rfl, hb⟩
  have hB6 : Below w.heap.size w w6 := bnext (by go_grown) hb
  have A6 : Blk w6 w1.heap.size 24 (Tally.mk 3 5 (-1) 3).cells.toArray := Blk.below (by unfold Blk at A5; simp (disch := (first | omega | (simp only [World.size_alloc, World.size_setCell, World.size_drew] <;> omega) | fail)) only [Blk, heap_old, heap_at, heap_set_same, heap_set_ne, heap_drew', Option.map_some, putO_cells, A5]) hb
  clear hb hB5 A5 c l
  have c := A6.cell
  have l := A6.lt
  go_wp2
  go_returns
  exact ⟨rfl, by go_grown⟩
end Go.Proofs.YtkafcdgeboldgaaDoor
