/- TriggerEvents: the walk. -/
import Derived.Test.YtfpomiimloohkaaLaw
import Derived.Test.YtfpomiimloohkaaPanes
import Derived.Test.YtfpomiimloohkaaTrigHe
set_option linter.unusedSimpArgs false
set_option linter.unusedVariables false
namespace Go.Proofs.Ytfpomiimloohkaa
open Go.RowKit Go.Kp

/-- Event's panes, as panes. -/
def eventL (c : Conf) (key : ByteArray) (x : Win) (v t m : Int) : List Pn :=
  if (behind c (hit x v t m) m).2 then [⟨key, (hit x v t m).s, (hit x v t m).e, (behind c (hit x v t m) m).1, (hit x v t m).pa, (hit x v t m).c, (hit x v t m).su, (hit x v t m).mi, (hit x v t m).ma⟩] else []
theorem eventL_eq (c : Conf) (key : ByteArray) (x : Win) (v t m : Int) : eventP c key x v t m = (eventL c key x v t m).map Pn.cells := by
  unfold eventP eventL
  split <;> rfl
theorem eventL_len (c : Conf) (key : ByteArray) (x : Win) (v t m : Int) : (eventL c key x v t m).length ≤ 1 := by
  unfold eventL
  split <;> simp
theorem Evt.facts {w w' : World} {en : Ending} {c : Conf} {key : ByteArray} {x : Win} {v t m : Int} (h : Evt w (eventW c x v t m) (eventP c key x v t m) en w') :
    ∃ a cap, en = .returned (.tuple #[(eventW c x v t m).val, .slice a (eventL c key x v t m).length cap]) ∧ Rd w' w'.heap.size a ((eventL c key x v t m).flatMap Pn.cells) ∧ Below w.heap.size w w' := by
  obtain ⟨sv, rfl, hown, hb⟩ := h
  rw [eventL_eq, List.length_map] at hown
  obtain ⟨a, cap, rfl, hr⟩ := rd_of_owns hown
  exact ⟨a, cap, rfl, by rwa [List.flatMap_def], hb⟩

set_option maxHeartbeats 4000000 in
theorem events (c : Conf) (key : ByteArray) (x : Win) (b0 b1 b2 : Int) (w : World) (hx : x.ok) (h0 : I64 b0) (h1 : I64 b1) (h2 : I64 b2) :
    Calls Try.prog 4 #[c.val, .string key, x.val, .agg #[.int .i64 b0, .int .i64 b1, .int .i64 b2]] w (Ret (.bool true) w) := by
  have hx' := Lib.hid (And.intro hx (And.intro h0 (And.intro h1 h2)))
  clear hx h0 h1 h2
  go_enter Try.func4, Try.ntmps4
  go_wp2_with fail
  refine (event_any c key x b0 b1 b2 _ hx'.out.1 hx'.out.2.1 hx'.out.2.2.1 hx'.out.2.2.2).mono ?_
  intro e w1 hE
  obtain ⟨a1, k1, rfl, R1, hb1⟩ := hE.facts
  clear hE
  have hB1 : Below w.heap.size w w1 := bnext (by go_grown) hb1
  have A0 : Blk w1 w.heap.size 24 c.cells := Blk.below (by simp (disch := (first | omega | (simp only [World.size_alloc, World.size_setCell, World.size_drew] <;> omega) | fail)) only [Blk, heap_old, heap_at, heap_set_same, heap_set_ne, heap_drew', Option.map_some, putO_cells]) hb1
  have A1 : Blk w1 (w.heap.size + 1) 30 x.cells := Blk.below (by simp (disch := (first | omega | (simp only [World.size_alloc, World.size_setCell, World.size_drew] <;> omega) | fail)) only [Blk, heap_old, heap_at, heap_set_same, heap_set_ne, heap_drew', Option.map_some, putO_cells]) hb1
  have A2 : Blk w1 (w.heap.size + 1 + 1) 31 #[.int .i64 b0, .int .i64 b1, .int .i64 b2] := Blk.below (by simp (disch := (first | omega | (simp only [World.size_alloc, World.size_setCell, World.size_drew] <;> omega) | fail)) only [Blk, heap_old, heap_at, heap_set_same, heap_set_ne, heap_drew', Option.map_some, putO_cells]) hb1
  clear hb1
  have c0 := A0.cell
  have c1 := A1.cell
  have c2 := A2.cell
  have l0 := A0.lt
  have l1 := A1.lt
  have l2 := A2.lt
  have R1h := Lib.hid R1
  clear R1
  generalize hy : eventW c x b0 b1 b2 = y
  have HY := Lib.hid hy
  clear hy
  go_wp2_with fail
  refine (refEvent_any c key x b0 b1 b2 _ hx'.out.1 hx'.out.2.1 hx'.out.2.2.1 hx'.out.2.2.2).mono ?_
  intro e w2 hE
  obtain ⟨a2, k2, rfl, R2, hb2⟩ := hE.facts
  clear hE
  rw [HY.out]
  have hB2 : Below w.heap.size w w2 := bnext (by go_grown) hb2
  have P : Blk w2 w1.heap.size 30 y.cells := Blk.below (by simp (disch := (first | omega | (simp only [World.size_alloc, World.size_setCell, World.size_drew] <;> omega) | fail)) only [Blk, heap_old, heap_at, heap_set_same, heap_set_ne, heap_drew', Option.map_some, putO_cells]) hb2
  have R1' : Rd w2 w1.heap.size a1 ((eventL c key x b0 b1 b2).flatMap Pn.cells) := (R1h.out.below (by go_grown)).below (hb2.mono (by simp))
  have R2' := Lib.hid R2
  have R1' := Lib.hid R1'
  have hz := P.lt
  clear hb2 hB1 A0 A1 A2 c0 c1 c2 l0 l1 l2 R1h R2
  have c1 := P.cell
  go_wp2_with fail
  refine (panes_any a1 a2 _ k1 k2 (eventL c key x b0 b1 b2) _ rfl (by have := eventL_len c key x b0 b1 b2; omega) ((R1'.out.below (by go_grown)).more (by simp; omega)) ((R2'.out.below (by go_grown)).more (by simp))).mono ?_
  rintro e w3 ⟨rfl, hb3⟩
  have hz2 : w.heap.size ≤ w2.heap.size := hB2.size
  have hB3 : Below w.heap.size w w3 := bnext (by go_grown) hb3
  clear hB2 hb3 P hz c1 R1' R2'
  go_wp2_with fail
  refine (known_any _).mono ?_
  rintro e w4 ⟨rfl, hb4⟩
  have hB4 : Below w.heap.size w w4 := bnext (by go_grown) hb4
  clear hB3 hb4
  go_wp2_with fail
  go_returns
  exact ⟨rfl, by go_grown⟩
end Go.Proofs.Ytfpomiimloohkaa
