/- TallyMost: the walk. -/
import Derived.Test.YtkafcdgeboldgaaDoorTMost
set_option linter.unusedSimpArgs false
set_option linter.unusedVariables false
namespace Go.Proofs.YtkafcdgeboldgaaDoor
open Go.RowKit Go.Kp

theorem most_sum (a v : Int) : wrap64 (wrap64 (a + v) + a) = wrap64 (wrap64 (a + a) + v) := by unfold wrap64; omega
theorem most_add (su mi ma v : Int) : (add ⟨9007199254740992, su, mi, ma⟩ v).c = 9007199254740992 ∧ (add ⟨9007199254740992, su, mi, ma⟩ v).su = wrap64 (su + v) := by
  unfold add; rw [if_neg (by simp)]; exact ⟨by simp [more], rfl⟩
theorem most_join (su mi ma v : Int) : (join [⟨9007199254740992, su, mi, ma⟩, ⟨5, v, v, v⟩, ⟨9007199254740992, su, mi, ma⟩]).c = 9007199254740992 ∧ (join [⟨9007199254740992, su, mi, ma⟩, ⟨5, v, v, v⟩, ⟨9007199254740992, su, mi, ma⟩]).su = wrap64 (wrap64 (su + v) + su) := by
  simp [join, joinStep, show (0 : Int) < min (9007199254740992 + min 5 9007199254740992) 9007199254740992 by decide]
  decide

set_option maxHeartbeats 4000000 in
theorem most (t : Tally) (v : Int) (w : World) (ht : t.ok) (hv : I64 v) (h0 : w.cell? ⟨1, 0, none⟩ = some (.int .u8 0)) (h1 : w.cell? ⟨1, 1, none⟩ = some (.int .u8 1)) :
    Calls Tryd.prog 7 #[t.val, .int .i64 v] w (Ret (.bool true) w) := by
  have hl := Lib.hid (cell_lt h1)
  obtain ⟨tc, su, mi, ma⟩ := t
  have hT := Lib.hid (show Tally.ok ⟨9007199254740992, su, mi, ma⟩ from ⟨by simp, ht.2⟩)
  have hv' := Lib.hid hv
  have H0 := Lib.hid h0
  have H1 := Lib.hid h1
  clear ht hv h0 h1
  go_enter Tryd.func7, Tryd.ntmps7
  go_wp2_with fail
  refine (add_any ⟨9007199254740992, su, mi, ma⟩ v _ hT.out hv'.out.1 hv'.out.2).mono ?_
  rintro en w1 ⟨rfl, hb⟩
  have hB1 : Below w.heap.size w w1 := bnext (by go_grown) hb
  have A1 : Blk w1 w.heap.size 24 (Tally.mk 9007199254740992 su mi ma).cells.toArray := Blk.below (by simp (disch := (first | omega | (simp only [World.size_alloc, World.size_setCell, World.size_drew] <;> omega) | fail)) only [Blk, heap_old, heap_at, heap_set_same, heap_set_ne, heap_drew', Option.map_some, putO_cells]) hb
  clear hb
  obtain ⟨a1, a2⟩ := most_add su mi ma v
  generalize add ⟨9007199254740992, su, mi, ma⟩ v = a at a1 a2 ⊢
  obtain ⟨ac, asu, ami, ama⟩ := a
  simp only at a1 a2
  subst a1
  subst a2
  have c1 := A1.cell
  have l1 := A1.lt
  have l1' := Nat.le_of_lt l1
  go_wp2_with fail
  refine (join_any _ 3 3 [⟨9007199254740992, su, mi, ma⟩, ⟨5, v, v, v⟩, ⟨9007199254740992, su, mi, ma⟩] _ rfl ?_ (by omega) (.inr ⟨w1.heap.size + 1, 0, rfl, by simp, ?_⟩)).mono ?_
  · intro x hx
    have hh : x = ⟨9007199254740992, su, mi, ma⟩ ∨ x = ⟨5, v, v, v⟩ := by
      simp at hx
      rcases hx with h | h | h
      · exact .inl h
      · exact .inr h
      · exact .inl h
    rcases hh with rfl | rfl
    · exact hT.out
    · exact ⟨⟨by simp, by simp⟩, hv'.out, hv'.out, hv'.out⟩
  · intro j u hu
    rw [cell_of_row _ _ _ _ _ _ (heap_at (by simp))]
    simpa using hu
  rintro en w2 ⟨rfl, hb⟩
  have hB2 : Below w.heap.size w w2 := bnext (by go_grown) hb
  have A2 : Blk w2 w.heap.size 24 (Tally.mk 9007199254740992 su mi ma).cells.toArray := Blk.below (by unfold Blk at A1; simp (disch := (first | omega | (simp only [World.size_alloc, World.size_setCell, World.size_drew] <;> omega) | fail)) only [Blk, heap_old, heap_at, heap_set_same, heap_set_ne, heap_drew', Option.map_some, putO_cells, A1]) hb
  have B2 : Blk w2 w1.heap.size 24 (Tally.mk 9007199254740992 (wrap64 (su + v)) ami ama).cells.toArray := Blk.below (by simp (disch := (first | omega | (simp only [World.size_alloc, World.size_setCell, World.size_drew] <;> omega) | fail)) only [Blk, heap_old, heap_at, heap_set_same, heap_set_ne, heap_drew', Option.map_some, putO_cells]) hb
  clear hb A1 c1 hB1
  obtain ⟨b1, b2⟩ := most_join su mi ma v
  generalize join [⟨9007199254740992, su, mi, ma⟩, ⟨5, v, v, v⟩, ⟨9007199254740992, su, mi, ma⟩] = b at b1 b2 ⊢
  obtain ⟨bc, bs, bmi, bma⟩ := b
  simp only at b1 b2
  rw [most_sum] at b2
  subst b1
  subst b2
  have c2 := A2.cell
  have d2 := B2.cell
  have l2 := A2.lt
  have m2 := B2.lt
  have n1 : w.heap.size < w2.heap.size + 1 := by omega
  have n2 : w.heap.size < w2.heap.size + 1 + 1 := by omega
  have n3 : w.heap.size < w2.heap.size + 1 + 1 + 1 := by omega
  have n4 : w.heap.size < w2.heap.size + 1 + 1 + 1 + 1 := by omega
  go_wp2_with fail
  refine (can_even _ ?_).mono ?_
  · exact ((Below.cell (p := ⟨1, 1, none⟩) (show Below w.heap.size w _ by go_grown) hl.out).trans H1.out)
  rintro en w3 ⟨rfl, hb⟩
  have hB3 : Below w.heap.size w w3 := bnext (by go_grown) hb
  have O3 : Blk w3 (w2.heap.size + 1 + 1) 24 #[.int .i64 9007199254740992, .int .i64 7, .int .i64 2, .int .i64 2] := Blk.below (by simp (disch := (first | omega | (simp only [World.size_alloc, World.size_setCell, World.size_drew] <;> omega) | fail)) only [Blk, heap_old, heap_at, heap_set_same, heap_set_ne, heap_drew', Option.map_some, putO_cells]) hb
  have W3 : Blk w3 (w2.heap.size + 1 + 1 + 1) 24 #[.int .i64 9007199254740992, .int .i64 v, .int .i64 2, .int .i64 3] := Blk.below (by simp (disch := (first | omega | (simp only [World.size_alloc, World.size_setCell, World.size_drew] <;> omega) | fail)) only [Blk, heap_old, heap_at, heap_set_same, heap_set_ne, heap_drew', Option.map_some, putO_cells]) hb
  have V3 : Blk w3 (w2.heap.size + 1 + 1 + 1 + 1) 24 #[.int .i64 9007199254740993, .int .i64 6, .int .i64 2, .int .i64 2] := Blk.below (by simp (disch := (first | omega | (simp only [World.size_alloc, World.size_setCell, World.size_drew] <;> omega) | fail)) only [Blk, heap_old, heap_at, heap_set_same, heap_set_ne, heap_drew', Option.map_some, putO_cells]) hb
  clear hb hB2
  have cO3 := O3.cell
  have lO3 := O3.lt
  have cW3 := W3.cell
  have lW3 := W3.lt
  have cV3 := V3.cell
  have lV3 := V3.lt
  have z3 : w.heap.size ≤ w3.heap.size := hB3.size
  go_wp2_with fail
  refine (can_odd _ ?_ ?_).mono ?_
  · exact ((Below.cell (p := ⟨1, 0, none⟩) (show Below w.heap.size w _ by go_grown) hl.out).trans H0.out)
  · exact ((Below.cell (p := ⟨1, 1, none⟩) (show Below w.heap.size w _ by go_grown) hl.out).trans H1.out)
  rintro en w4 ⟨rfl, hb⟩
  have hB4 : Below w.heap.size w w4 := bnext (by go_grown) hb
  have W4 : Blk w4 (w2.heap.size + 1 + 1 + 1) 24 #[.int .i64 9007199254740992, .int .i64 v, .int .i64 2, .int .i64 3] := Blk.below (by unfold Blk at W3; simp (disch := (first | omega | (simp only [World.size_alloc, World.size_setCell, World.size_drew] <;> omega) | fail)) only [Blk, heap_old, heap_at, heap_set_same, heap_set_ne, heap_drew', Option.map_some, putO_cells, W3]) hb
  have V4 : Blk w4 (w2.heap.size + 1 + 1 + 1 + 1) 24 #[.int .i64 9007199254740993, .int .i64 6, .int .i64 2, .int .i64 2] := Blk.below (by unfold Blk at V3; simp (disch := (first | omega | (simp only [World.size_alloc, World.size_setCell, World.size_drew] <;> omega) | fail)) only [Blk, heap_old, heap_at, heap_set_same, heap_set_ne, heap_drew', Option.map_some, putO_cells, V3]) hb
  clear hb hB3 cO3 lO3 cW3 lW3 cV3 lV3 z3 O3 W3 V3
  have cW4 := W4.cell
  have lW4 := W4.lt
  have cV4 := V4.cell
  have lV4 := V4.lt
  have z4 : w.heap.size ≤ w4.heap.size := hB4.size
  go_wp2_with fail
  refine (can_wide v _).mono ?_
  rintro en w5 ⟨rfl, hb⟩
  have hB5 : Below w.heap.size w w5 := bnext (by go_grown) hb
  have V5 : Blk w5 (w2.heap.size + 1 + 1 + 1 + 1) 24 #[.int .i64 9007199254740993, .int .i64 6, .int .i64 2, .int .i64 2] := Blk.below (by unfold Blk at V4; simp (disch := (first | omega | (simp only [World.size_alloc, World.size_setCell, World.size_drew] <;> omega) | fail)) only [Blk, heap_old, heap_at, heap_set_same, heap_set_ne, heap_drew', Option.map_some, putO_cells, V4]) hb
  clear hb hB4 cW4 lW4 cV4 lV4 z4 W4 V4
  have cV5 := V5.cell
  have lV5 := V5.lt
  have z5 : w.heap.size ≤ w5.heap.size := hB5.size
  go_wp2_with fail
  refine (can_over _).mono ?_
  rintro en w6 ⟨rfl, hb⟩
  have hB6 : Below w.heap.size w w6 := bnext (by go_grown) hb
  clear hb hB5 V5 cV5 lV5 z5
  go_wp2_with fail
  refine (works_any _).mono ?_
  rintro en w7 ⟨rfl, hb⟩
  have hB7 : Below w.heap.size w w7 := bnext (by go_grown) hb
  clear hb hB6
  go_wp2_with fail
  go_returns
  exact ⟨rfl, by go_grown⟩
end Go.Proofs.YtkafcdgeboldgaaDoor
