/- The reference's Event. -/
import Derived.Test.YtfpomiimloohkaaTrigF
set_option linter.unusedSimpArgs false
set_option linter.unusedVariables false
namespace Go.Proofs.Ytfpomiimloohkaa
open Go.RowKit Go.Kp
attribute [local go_sem high] Kp.run_min2 Kp.run_max2

set_option maxHeartbeats 600000 in
theorem refEvent_any (c : Conf) (key : ByteArray) (x : Win) (v t m : Int) (w : World) (hx : x.ok) (h1 : -9223372036854775808 ≤ v ∧ v ≤ 9223372036854775807) (h2 : -9223372036854775808 ≤ t ∧ t ≤ 9223372036854775807) (h3 : -9223372036854775808 ≤ m ∧ m ≤ 9223372036854775807) :
    Calls Try.prog 17 #[c.val, .string key, x.val, .int .i64 v, .int .i64 t, .int .i64 m] w (Evt w (eventW c x v t m) (eventP c key x v t m)) := by
  have hit1 := Lib.hid (hit_ok x v t m hx h1 h2 h3)
  obtain ⟨_, _, _, b4, b5, b6, b7, ⟨b8, b9⟩, _⟩ := hx
  have HT := Lib.hid (show Tally.ok ⟨x.c, x.su, x.mi, x.ma⟩ from ⟨b4, b5, b6, b7⟩)
  clear b4 b5 b6 b7
  obtain ⟨v1, v2⟩ := h1
  go_enter Try.func17, Try.ntmps17
  go_wp2_with fail
  refine (refAdd_any ⟨x.c, x.su, x.mi, x.ma⟩ v _ HT.out v1 v2).mono ?_
  rintro e w1 ⟨rfl, hb1⟩
  have hB1 : Below w.heap.size w w1 := bnext (by go_grown) hb1
  have A0 : Blk w1 w.heap.size 24 #[.int .i64 c.gr, .int .i64 c.so, .int .i64 c.ki, .int .i64 c.sz, .int .i64 c.sl, .int .i64 c.off, .int .i64 c.ga, .int .i64 c.la, .int .i64 c.ea, .bool c.di] := Blk.below (by simp (disch := (first | omega | (simp only [World.size_alloc, World.size_setCell, World.size_drew] <;> omega) | fail)) only [Blk, heap_old, heap_at, heap_set_same, heap_set_ne, heap_drew', Option.map_some, putO_cells]) hb1
  have A1 : Blk w1 (w.heap.size + 1) 30 x.cells := Blk.below (by simp (disch := (first | omega | (simp only [World.size_alloc, World.size_setCell, World.size_drew] <;> omega) | fail)) only [Blk, heap_old, heap_at, heap_set_same, heap_set_ne, heap_drew', Option.map_some, putO_cells]) hb1
  have A2 : Blk w1 (w.heap.size + 1 + 1) 30 Win.zero.cells := Blk.below (by simp (disch := (first | omega | (simp only [World.size_alloc, World.size_setCell, World.size_drew] <;> omega) | fail)) only [Blk, heap_old, heap_at, heap_set_same, heap_set_ne, heap_drew', Option.map_some, putO_cells]) hb1
  clear hb1
  generalize hA : add ⟨x.c, x.su, x.mi, x.ma⟩ v = A
  have HA := Lib.hid hA
  clear hA
  have c1 := A1.cell
  have f1 := A1.free
  go_wp2_with fail
  refine (refMore_any _ _ b8 b9).mono ?_
  rintro e w2 ⟨rfl, hb2⟩
  have hB2 : Below w.heap.size w w2 := bnext (by go_grown) hb2
  have B0 : Blk w2 w.heap.size 24 #[.int .i64 c.gr, .int .i64 c.so, .int .i64 c.ki, .int .i64 c.sz, .int .i64 c.sl, .int .i64 c.off, .int .i64 c.ga, .int .i64 c.la, .int .i64 c.ea, .bool c.di] := Blk.below (by unfold Blk at A0; simp (disch := (first | omega | (simp only [World.size_alloc, World.size_setCell, World.size_drew] <;> omega) | fail)) only [Blk, heap_old, heap_at, heap_set_same, heap_set_ne, heap_drew', Option.map_some, putO_cells, A0]) hb2
  have B1 : Blk w2 (w.heap.size + 1) 30 (Win.cells { x with c := A.c, su := A.su, mi := A.mi, ma := A.ma }) := Blk.below (by unfold Blk at A1; simp (disch := (first | omega | (simp only [World.size_alloc, World.size_setCell, World.size_drew] <;> omega) | fail)) only [Blk, heap_old, heap_at, heap_set_same, heap_set_ne, heap_drew', Option.map_some, putO_cells, A1]; simp; done) hb2
  have B2 : Blk w2 (w.heap.size + 1 + 1) 30 Win.zero.cells := Blk.below (by unfold Blk at A2; simp (disch := (first | omega | (simp only [World.size_alloc, World.size_setCell, World.size_drew] <;> omega) | fail)) only [Blk, heap_old, heap_at, heap_set_same, heap_set_ne, heap_drew', Option.map_some, putO_cells, A2]) hb2
  clear hb2 hB1 A0 A1 A2 c1 f1
  have c0 := B0.cell
  have f0 := B0.free
  have c1 := B1.cell
  have f1 := B1.free
  go_wp2_with fail
  have e1 : hit x v t m = ⟨x.s, x.e, min x.h (max t m), A.c, A.su, A.mi, A.ma, more x.si, x.pa⟩ := by unfold hit; rw [HA.out]
  rw [e1] at hit1
  generalize hy : (⟨x.s, x.e, min x.h (max t m), A.c, A.su, A.mi, A.ma, more x.si, x.pa⟩ : Win) = y
  refine (refBehind_any ⟨x.s, x.e, min x.h (max t m), A.c, A.su, A.mi, A.ma, more x.si, x.pa⟩ c m _).mono ?_
  rw [hy]
  rintro e w3 ⟨rfl, hb3⟩
  have HE : Hid (eventW c x v t m = (if (behind c y m).2 then told y c.di else y) ∧ eventP c key x v t m = if (behind c y m).2 then [paneOf key y (behind c y m).1] else []) := Lib.hid (by unfold eventW eventP; rw [e1, hy]; exact ⟨rfl, rfl⟩)
  have hB3 : Below w.heap.size w w3 := bnext (by go_grown) hb3
  have C0 : Blk w3 w.heap.size 24 #[.int .i64 c.gr, .int .i64 c.so, .int .i64 c.ki, .int .i64 c.sz, .int .i64 c.sl, .int .i64 c.off, .int .i64 c.ga, .int .i64 c.la, .int .i64 c.ea, .bool c.di] := Blk.below (by unfold Blk at B0; simp (disch := (first | omega | (simp only [World.size_alloc, World.size_setCell, World.size_drew] <;> omega) | fail)) only [Blk, heap_old, heap_at, heap_set_same, heap_set_ne, heap_drew', Option.map_some, putO_cells, B0]) hb3
  have C1 : Blk w3 (w.heap.size + 1) 30 y.cells := Blk.below (by unfold Blk at B1; simp (disch := (first | omega | (simp only [World.size_alloc, World.size_setCell, World.size_drew] <;> omega) | fail)) only [Blk, heap_old, heap_at, heap_set_same, heap_set_ne, heap_drew', Option.map_some, putO_cells, B1]; rw [← hy]; simp; done) hb3
  have C2 : Blk w3 (w.heap.size + 1 + 1) 30 Win.zero.cells := Blk.below (by unfold Blk at B2; simp (disch := (first | omega | (simp only [World.size_alloc, World.size_setCell, World.size_drew] <;> omega) | fail)) only [Blk, heap_old, heap_at, heap_set_same, heap_set_ne, heap_drew', Option.map_some, putO_cells, B2]) hb3
  clear hb3 hB2 B0 B1 B2 c0 f0 c1 f1 e1 HA HT
  rw [hy] at hit1
  clear hy b8 b9
  have c0 := C0.cell
  have f0 := C0.free
  have c1 := C1.cell
  have f1 := C1.free
  have c2 := C2.cell
  have f2 := C2.free
  generalize behind c y m = kb at HE ⊢
  obtain ⟨kind, bb⟩ := kb
  cases bb
  · simp only [Bool.false_eq_true, if_false]
    go_wp2_with fail
    refine bodyPost_ret (v := .tuple #[y.val, .slice none 0 0]) (by simp [results, Try.results17, go_sem, c2]; done) rfl ?_
    refine ⟨_, by rw [HE.out.1]; rfl, ?_, by go_grown⟩
    rw [HE.out.2]
    exact World.ownsRow_nil _ _ _ _
  · simp only [if_true]
    go_wp2_with fail
    refine (refTell_any _ y _ _ _ hit1.out).mono ?_
    rintro e w4 ⟨rfl, hb4⟩
    have hB4 : Below w.heap.size w w4 := bnext (by go_grown) hb4
    have D0 : Blk w4 w.heap.size 24 #[.int .i64 c.gr, .int .i64 c.so, .int .i64 c.ki, .int .i64 c.sz, .int .i64 c.sl, .int .i64 c.off, .int .i64 c.ga, .int .i64 c.la, .int .i64 c.ea, .bool c.di] := Blk.below (by unfold Blk at C0; simp (disch := (first | omega | (simp only [World.size_alloc, World.size_setCell, World.size_drew] <;> omega) | fail)) only [Blk, heap_old, heap_at, heap_set_same, heap_set_ne, heap_drew', Option.map_some, putO_cells, C0]) hb4
    have D1 : Blk w4 (w.heap.size + 1) 30 y.cells := Blk.below (by unfold Blk at C1; simp (disch := (first | omega | (simp only [World.size_alloc, World.size_setCell, World.size_drew] <;> omega) | fail)) only [Blk, heap_old, heap_at, heap_set_same, heap_set_ne, heap_drew', Option.map_some, putO_cells, C1]) hb4
    have D2 : Blk w4 (w.heap.size + 1 + 1) 30 Win.zero.cells := Blk.below (by unfold Blk at C2; simp (disch := (first | omega | (simp only [World.size_alloc, World.size_setCell, World.size_drew] <;> omega) | fail)) only [Blk, heap_old, heap_at, heap_set_same, heap_set_ne, heap_drew', Option.map_some, putO_cells, C2]) hb4
    have hz : w.heap.size + 1 + 1 < w4.heap.size := D2.lt
    have hz1 : w.heap.size + 1 < w4.heap.size := D1.lt
    clear hb4 hB3 C0 C1 C2 c0 f0 c1 f1 c2 f2
    have c1 := D1.cell
    have f1 := D1.free
    have c2 := D2.cell
    have f2 := D2.free
    unfold paneOf
    go_wp2_with fail
    refine wp_at (fun wc => Blk wc (w.heap.size + 1) 30 (told y c.di).cells ∧ Blk wc (w.heap.size + 1 + 1) 30 Win.zero.cells ∧ Blk wc w4.heap.size 37 (paneOf key y kind).toArray ∧ w4.heap.size < wc.heap.size ∧ Below w.heap.size w wc)
      ⟨by unfold Blk at D1; simp (disch := (first | omega | (simp only [World.size_alloc, World.size_setCell, World.size_drew] <;> omega) | fail)) only [Blk, heap_old, heap_at, heap_set_same, heap_set_ne, heap_drew', Option.map_some, putO_cells, D1]; simp; done, by unfold Blk at D2; simp (disch := (first | omega | (simp only [World.size_alloc, World.size_setCell, World.size_drew] <;> omega) | fail)) only [Blk, heap_old, heap_at, heap_set_same, heap_set_ne, heap_drew', Option.map_some, putO_cells, D2], by simp (disch := (first | omega | (simp only [World.size_alloc, World.size_setCell, World.size_drew] <;> omega) | fail)) only [Blk, heap_old, heap_at, heap_set_same, heap_set_ne, heap_drew', Option.map_some, putO_cells]; rfl, by simp, by go_grown⟩ ?_
    clear hB4 D0 D1 D2 c1 f1 c2 f2
    intro wc ⟨H1, H2, H3, hlt, hB⟩
    have c1 := H1.cell
    have c2 := H2.cell
    have f2 := H2.free
    have c3 := H3.cell
    unfold paneOf at c3
    have l1 : w.heap.size + 1 < wc.heap.size := H1.lt
    have l2 : w.heap.size + 1 + 1 < wc.heap.size := H2.lt
    go_region
    rename_i K hK
    refine hK _ _ ?_
    clear hK K
    refine wp_at (fun wd => Blk wd (w.heap.size + 1 + 1) 30 (told y c.di).cells ∧ Blk wd wc.heap.size 37 (paneOf key y kind).toArray ∧ Below w.heap.size w wd)
      ⟨by unfold Blk at H2; simp (disch := (first | omega | (simp only [World.size_alloc, World.size_setCell, World.size_drew] <;> omega) | fail)) only [Blk, heap_old, heap_at, heap_set_same, heap_set_ne, heap_drew', Option.map_some, putO_cells, H2]; simp [Win.zero, Win.cells]; done, by unfold Blk at H3; simp (disch := (first | omega | (simp only [World.size_alloc, World.size_setCell, World.size_drew] <;> omega) | fail)) only [Blk, heap_old, heap_at, heap_set_same, heap_set_ne, heap_drew', Option.map_some, putO_cells, H3]; unfold paneOf; rfl, by go_grown⟩ ?_
    clear H1 H2 H3 c1 c2 f2 c3 hB
    intro wd ⟨H4, H5, hB⟩
    have c2 := H4.cell
    have f2 := H4.free
    go_wp2_with fail
    refine bodyPost_ret (v := .tuple #[(told y c.di).val, .slice (some ⟨wc.heap.size, 0, none⟩) 1 1]) (by simp [results, Try.results17, go_sem, c2]; done) rfl ?_
    refine ⟨_, by rw [HE.out.1]; rfl, ?_, by go_grown⟩
    rw [HE.out.2]
    simp only [if_true, List.flatten_cons, List.flatten_nil, List.append_nil, List.length_cons, List.length_nil, Nat.zero_add]
    clear hz hz1 l2
    exact ⟨by simp [paneOf], .inr ⟨wc.heap.size, 1, (paneOf key y kind).toArray, rfl, by omega, H5, Nat.le_refl _, by decide, by simp [paneOf], by simp [paneOf]⟩⟩
end Go.Proofs.Ytfpomiimloohkaa
