/- TriggerTells. -/
import Derived.Test.YtfpomiimloohkaaLaw
import Derived.Test.YtfpomiimloohkaaTrigHe
set_option linter.unusedSimpArgs false
set_option linter.unusedVariables false
namespace Go.Proofs.Ytfpomiimloohkaa
open Go.RowKit Go.Kp

theorem refOnTime_any (x : Win) (fr to : Int) (w : World) :
    Calls Try.prog 11 #[x.val, .int .i64 fr, .int .i64 to] w (Ret (.bool (decide (fr < x.e) && decide (x.e ≤ to))) w) := by
  go_enter Try.func11, Try.ntmps11
  go_wp2
  all_goals go_ret
  all_goals refine ⟨?_, by go_grown⟩
  all_goals simp [*]
  omega
set_option maxHeartbeats 4000000 in
theorem tells (c : Conf) (key : ByteArray) (x : Win) (b0 b1 b2 : Int) (w : World) (hx : x.ok) :
    Calls Try.prog 3 #[c.val, .string key, x.val, .agg #[.int .i64 b0, .int .i64 b1, .int .i64 b2]] w (Ret (.bool true) w) := by
  have hx' := Lib.hid hx
  clear hx
  rcases hk : behind c x b0 with ⟨k, bb⟩
  go_enter Try.func3, Try.ntmps3
  go_wp2_with fail
  refine (behind_any x c b0 _).mono ?_
  rw [hk]
  rintro e w1 ⟨rfl, hb1⟩
  have hB1 : Below w.heap.size w w1 := bnext (by go_grown) hb1
  have A0 : Blk w1 w.heap.size 24 c.cells := Blk.below (by simp (disch := (first | omega | (simp only [World.size_alloc, World.size_setCell, World.size_drew] <;> omega) | fail)) only [Blk, heap_old, heap_at, heap_set_same, heap_set_ne, heap_drew', Option.map_some, putO_cells]) hb1
  have A1 : Blk w1 (w.heap.size + 1) 30 x.cells := Blk.below (by simp (disch := (first | omega | (simp only [World.size_alloc, World.size_setCell, World.size_drew] <;> omega) | fail)) only [Blk, heap_old, heap_at, heap_set_same, heap_set_ne, heap_drew', Option.map_some, putO_cells]) hb1
  have A2 : Blk w1 (w.heap.size + 1 + 1) 31 #[.int .i64 b0, .int .i64 b1, .int .i64 b2] := Blk.below (by simp (disch := (first | omega | (simp only [World.size_alloc, World.size_setCell, World.size_drew] <;> omega) | fail)) only [Blk, heap_old, heap_at, heap_set_same, heap_set_ne, heap_drew', Option.map_some, putO_cells]) hb1
  clear hb1
  have c0 := A0.cell
  have c1 := A1.cell
  have c2 := A2.cell
  go_wp2_with fail
  refine (refBehind_any x c b0 _).mono ?_
  rw [hk]
  rintro e w2 ⟨rfl, hb2⟩
  have hB2 : Below w.heap.size w w2 := bnext (by go_grown) hb2
  have B0 : Blk w2 w.heap.size 24 c.cells := Blk.below (by unfold Blk at A0; simp (disch := (first | omega | (simp only [World.size_alloc, World.size_setCell, World.size_drew] <;> omega) | fail)) only [Blk, heap_old, heap_at, heap_set_same, heap_set_ne, heap_drew', Option.map_some, putO_cells, A0]) hb2
  have B1 : Blk w2 (w.heap.size + 1) 30 x.cells := Blk.below (by unfold Blk at A1; simp (disch := (first | omega | (simp only [World.size_alloc, World.size_setCell, World.size_drew] <;> omega) | fail)) only [Blk, heap_old, heap_at, heap_set_same, heap_set_ne, heap_drew', Option.map_some, putO_cells, A1]) hb2
  have B2 : Blk w2 (w.heap.size + 1 + 1) 31 #[.int .i64 b0, .int .i64 b1, .int .i64 b2] := Blk.below (by unfold Blk at A2; simp (disch := (first | omega | (simp only [World.size_alloc, World.size_setCell, World.size_drew] <;> omega) | fail)) only [Blk, heap_old, heap_at, heap_set_same, heap_set_ne, heap_drew', Option.map_some, putO_cells, A2]) hb2
  clear hb2 hB1 A0 A1 A2 c0 c1 c2
  have c0 := B0.cell
  have c1 := B1.cell
  have c2 := B2.cell
  go_wp2_with fail
  (refine region_keep (fun b => b = w.heap.size + 1 ∨ b = w.heap.size + 1 + 1) 20 [(0, true), (1, true), (2, true), (3, true), (4, true), (5, true), (6, true), (7, true), (8, true), (9, true), (10, true), (11, true), (12, true), (13, true), (15, true), (16, true), (17, true), (18, true), (19, true), (14, false)] (by kernel_rfl) (fun _ _ d _ _ h => by cases d <;> exact h) (by kernel_rfl) ?_; simp only [withOps, List.getElem?_toArray, List.getElem?_cons_zero, List.getElem?_cons_succ, List.drop_succ_cons, List.drop_zero])
  (repeat (refine keep_quiet (v := ?_) rfl ?_ ?_; rotate_left; (focus (intro w' hw'; go_simp; (try with_reducible rfl); done)); try simp only [Act.put, List.setIfInBounds_toArray, List.set_cons_zero, List.set_cons_succ]))
  refine plan_loud (fun K hK => ?_)
  go_simp
  refine (onTime_any x b0 b1 _).mono ?_
  rintro e w3 ⟨rfl, hb3⟩
  have hB3 : Below w.heap.size w w3 := bnext (by go_grown) hb3
  have C0 : Blk w3 w.heap.size 24 c.cells := Blk.below (by unfold Blk at B0; simp (disch := (first | omega | (simp only [World.size_alloc, World.size_setCell, World.size_drew] <;> omega) | fail)) only [Blk, heap_old, heap_at, heap_set_same, heap_set_ne, heap_drew', Option.map_some, putO_cells, B0]) hb3
  have C1 : Blk w3 (w.heap.size + 1) 30 x.cells := Blk.below (by unfold Blk at B1; simp (disch := (first | omega | (simp only [World.size_alloc, World.size_setCell, World.size_drew] <;> omega) | fail)) only [Blk, heap_old, heap_at, heap_set_same, heap_set_ne, heap_drew', Option.map_some, putO_cells, B1]) hb3
  have C2 : Blk w3 (w.heap.size + 1 + 1) 31 #[.int .i64 b0, .int .i64 b1, .int .i64 b2] := Blk.below (by unfold Blk at B2; simp (disch := (first | omega | (simp only [World.size_alloc, World.size_setCell, World.size_drew] <;> omega) | fail)) only [Blk, heap_old, heap_at, heap_set_same, heap_set_ne, heap_drew', Option.map_some, putO_cells, B2]) hb3
  refine hK _ _ ((Keep.refl _ _).below hb3 (by have h1 := B1.lt; have h2 := B2.lt; rintro x (rfl | rfl) <;> simp <;> omega)) ?_
  clear hK K hb3 hB2 B0 B1 B2 c0 c1 c2
  have c0 := C0.cell
  have c1 := C1.cell
  have c2 := C2.cell
  refine plan_end ?_
  (try simp only [Act.put, List.setIfInBounds_toArray, List.set_cons_zero, List.set_cons_succ])
  go_wp2_with fail
  refine (refOnTime_any x b0 b1 _).mono ?_
  rintro e w4 ⟨rfl, hb4⟩
  have hB4 : Below w.heap.size w w4 := bnext (by go_grown) hb4
  have D0 : Blk w4 w.heap.size 24 c.cells := Blk.below (by unfold Blk at C0; simp (disch := (first | omega | (simp only [World.size_alloc, World.size_setCell, World.size_drew] <;> omega) | fail)) only [Blk, heap_old, heap_at, heap_set_same, heap_set_ne, heap_drew', Option.map_some, putO_cells, C0]) hb4
  have D1 : Blk w4 (w.heap.size + 1) 30 x.cells := Blk.below (by unfold Blk at C1; simp (disch := (first | omega | (simp only [World.size_alloc, World.size_setCell, World.size_drew] <;> omega) | fail)) only [Blk, heap_old, heap_at, heap_set_same, heap_set_ne, heap_drew', Option.map_some, putO_cells, C1]) hb4
  have D2 : Blk w4 (w.heap.size + 1 + 1) 31 #[.int .i64 b0, .int .i64 b1, .int .i64 b2] := Blk.below (by unfold Blk at C2; simp (disch := (first | omega | (simp only [World.size_alloc, World.size_setCell, World.size_drew] <;> omega) | fail)) only [Blk, heap_old, heap_at, heap_set_same, heap_set_ne, heap_drew', Option.map_some, putO_cells, C2]) hb4
  clear hb4 hB3 C0 C1 C2 c0 c1 c2
  have c0 := D0.cell
  have c1 := D1.cell
  have c2 := D2.cell
  go_wp2_with fail
  by_cases hkind : b2 < 1 ∨ 3 < b2
  · refine (tell_bad key x b2 c.di _ hkind).mono ?_
    rintro e w5 ⟨rfl, hb5⟩
    have hB5 : Below w.heap.size w w5 := bnext (by go_grown) hb5
    clear hb5 hB4 D0 D1 D2 c0 c1 c2
    unfold noPane paneOf
    rcases hkind with hkd | hkd
    all_goals go_wp2_with fail
    all_goals refine (num_any 2 _ (by decide) (by decide)).mono ?_
    all_goals rintro e w6 ⟨rfl, hb6⟩
    all_goals have z5 : w.heap.size ≤ w5.heap.size := hB5.size
    all_goals have hB6 : Below w.heap.size w w6 := bnext (by go_grown) hb6
    all_goals have P : Blk w6 w5.heap.size 37 #[.string .empty, .int .i64 0, .int .i64 0, .int .i64 0, .int .i64 0, .int .i64 0, .int .i64 0, .int .i64 0, .int .i64 0] := Blk.below (by simp (disch := (first | omega | (simp only [World.size_alloc, World.size_setCell, World.size_drew] <;> omega) | fail)) only [Blk, heap_old, heap_at, heap_set_same, heap_set_ne, heap_drew', Option.map_some, putO_cells]) hb6
    all_goals have X : Blk w6 (w5.heap.size + 1) 30 Win.zero.cells := Blk.below (by simp (disch := (first | omega | (simp only [World.size_alloc, World.size_setCell, World.size_drew] <;> omega) | fail)) only [Blk, heap_old, heap_at, heap_set_same, heap_set_ne, heap_drew', Option.map_some, putO_cells]) hb6
    all_goals have c1 := P.cell
    all_goals have c2 := X.cell
    all_goals clear hB5 hb6
    all_goals go_wp2_with fail
    all_goals refine (known_any _).mono ?_
    all_goals rintro e w7 ⟨rfl, hb7⟩
    all_goals have hB7 : Below w.heap.size w w7 := bnext (by go_grown) hb7
    all_goals clear hB6 hb7 P X c1 c2
    all_goals go_wp2_with fail
    all_goals go_returns
    all_goals exact ⟨rfl, by go_grown⟩
  · have hk1 : 1 ≤ b2 := by omega
    have hk2 : b2 ≤ 3 := by omega
    clear hkind
    refine (tell_good key x b2 c.di _ hk1 hk2 hx'.out).mono ?_
    rintro e w5 ⟨rfl, hb5⟩
    have hB5 : Below w.heap.size w w5 := bnext (by go_grown) hb5
    have E0 : Blk w5 w.heap.size 24 c.cells := Blk.below (by unfold Blk at D0; simp (disch := (first | omega | (simp only [World.size_alloc, World.size_setCell, World.size_drew] <;> omega) | fail)) only [Blk, heap_old, heap_at, heap_set_same, heap_set_ne, heap_drew', Option.map_some, putO_cells, D0]) hb5
    have E1 : Blk w5 (w.heap.size + 1) 30 x.cells := Blk.below (by unfold Blk at D1; simp (disch := (first | omega | (simp only [World.size_alloc, World.size_setCell, World.size_drew] <;> omega) | fail)) only [Blk, heap_old, heap_at, heap_set_same, heap_set_ne, heap_drew', Option.map_some, putO_cells, D1]) hb5
    clear hb5 hB4 D0 D1 D2 c0 c1 c2
    have c0 := E0.cell
    have c1 := E1.cell
    have l0 := E0.lt
    have l1 := E1.lt
    generalize hp : paneOf key x b2 = pn at *
    have hP : pn = _ := hp.symm
    unfold paneOf at hP
    subst hP
    clear hp
    generalize hy : told x c.di = y at *
    go_wp2_with fail
    refine (refTell_any key x b2 c.di _ hx'.out).mono ?_
    rintro e w6 ⟨rfl, hb6⟩
    rw [hy]
    unfold paneOf
    have hB6 : Below w.heap.size w w6 := bnext (by go_grown) hb6
    have P : Blk w6 w5.heap.size 37 #[.string key, .int .i64 x.s, .int .i64 x.e, .int .i64 b2, .int .i64 x.pa, .int .i64 x.c, .int .i64 x.su, .int .i64 x.mi, .int .i64 x.ma] := Blk.below (by simp (disch := (first | omega | (simp only [World.size_alloc, World.size_setCell, World.size_drew] <;> omega) | fail)) only [Blk, heap_old, heap_at, heap_set_same, heap_set_ne, heap_drew', Option.map_some, putO_cells]) hb6
    have Y : Blk w6 (w5.heap.size + 1) 30 y.cells := Blk.below (by simp (disch := (first | omega | (simp only [World.size_alloc, World.size_setCell, World.size_drew] <;> omega) | fail)) only [Blk, heap_old, heap_at, heap_set_same, heap_set_ne, heap_drew', Option.map_some, putO_cells]) hb6
    clear hb6 hB5 E0 E1 c0 c1 l0 l1
    go_wp2_with fail
    refine (num_any 0 _ (by decide) (by decide)).mono ?_
    rintro e w7 ⟨rfl, hb7⟩
    have l1 := P.lt
    have l2 := Y.lt
    have z6 : w.heap.size ≤ w6.heap.size := hB6.size
    have hB7 : Below w.heap.size w w7 := bnext (by go_grown) hb7
    have P1 : Blk w7 w5.heap.size 37 #[.string key, .int .i64 x.s, .int .i64 x.e, .int .i64 b2, .int .i64 x.pa, .int .i64 x.c, .int .i64 x.su, .int .i64 x.mi, .int .i64 x.ma] := Blk.below (by unfold Blk at P; simp (disch := (first | omega | (simp only [World.size_alloc, World.size_setCell, World.size_drew] <;> omega) | fail)) only [Blk, heap_old, heap_at, heap_set_same, heap_set_ne, heap_drew', Option.map_some, putO_cells, P]) hb7
    have Y1 : Blk w7 (w5.heap.size + 1) 30 y.cells := Blk.below (by unfold Blk at Y; simp (disch := (first | omega | (simp only [World.size_alloc, World.size_setCell, World.size_drew] <;> omega) | fail)) only [Blk, heap_old, heap_at, heap_set_same, heap_set_ne, heap_drew', Option.map_some, putO_cells, Y]) hb7
    have P2 : Blk w7 w6.heap.size 37 #[.string key, .int .i64 x.s, .int .i64 x.e, .int .i64 b2, .int .i64 x.pa, .int .i64 x.c, .int .i64 x.su, .int .i64 x.mi, .int .i64 x.ma] := Blk.below (by simp (disch := (first | omega | (simp only [World.size_alloc, World.size_setCell, World.size_drew] <;> omega) | fail)) only [Blk, heap_old, heap_at, heap_set_same, heap_set_ne, heap_drew', Option.map_some, putO_cells]) hb7
    have Y2 : Blk w7 (w6.heap.size + 1) 30 y.cells := Blk.below (by simp (disch := (first | omega | (simp only [World.size_alloc, World.size_setCell, World.size_drew] <;> omega) | fail)) only [Blk, heap_old, heap_at, heap_set_same, heap_set_ne, heap_drew', Option.map_some, putO_cells]) hb7
    clear hb7 hB6 P Y l1 l2
    have c1 := P1.cell
    have c2 := Y1.cell
    have c3 := P2.cell
    have c4 := Y2.cell
    go_wp2_with fail
    refine (known_any _).mono ?_
    rintro e w8 ⟨rfl, hb8⟩
    have hB8 : Below w.heap.size w w8 := bnext (by go_grown) hb8
    clear hB7 hb8 P1 Y1 P2 Y2 c1 c2 c3 c4
    go_wp2_with fail
    go_returns
    exact ⟨rfl, by go_grown⟩
end Go.Proofs.Ytfpomiimloohkaa
