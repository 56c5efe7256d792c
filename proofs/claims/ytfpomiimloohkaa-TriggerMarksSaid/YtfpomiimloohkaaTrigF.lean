/- Event, the program's and the reference's. -/
import Derived.Test.YtfpomiimloohkaaTrigE
set_option linter.unusedSimpArgs false
set_option linter.unusedVariables false
namespace Go.Proofs.Ytfpomiimloohkaa
open Go.RowKit Go.Kp
attribute [local go_sem high] Kp.run_min2 Kp.run_max2

/-- The window behind a value. -/
def hit (x : Win) (v t m : Int) : Win :=
  { x with h := min x.h (max t m), c := (add ⟨x.c, x.su, x.mi, x.ma⟩ v).c, su := (add ⟨x.c, x.su, x.mi, x.ma⟩ v).su, mi := (add ⟨x.c, x.su, x.mi, x.ma⟩ v).mi, ma := (add ⟨x.c, x.su, x.mi, x.ma⟩ v).ma, si := more x.si }
def eventW (c : Conf) (x : Win) (v t m : Int) : Win := if (behind c (hit x v t m) m).2 then told (hit x v t m) c.di else hit x v t m
def eventP (c : Conf) (key : ByteArray) (x : Win) (v t m : Int) : List (List Value) := if (behind c (hit x v t m) m).2 then [paneOf key (hit x v t m) (behind c (hit x v t m) m).1] else []

theorem add_ok (t : Tally) (v : Int) (ht : t.ok) (h1 : -9223372036854775808 ≤ v) (h2 : v ≤ 9223372036854775807) : (add t v).ok := by
  obtain ⟨⟨a1, a2⟩, ⟨b1, b2⟩, ⟨c1, c2⟩, ⟨d1, d2⟩⟩ := ht
  unfold add Tally.ok
  split
  · simp only; omega
  · have := more_bd t.c a1
    simp only
    refine ⟨this, ?_, by omega, by omega⟩
    unfold wrap64; omega
theorem hit_ok (x : Win) (v t m : Int) (hx : x.ok) (h1 : -9223372036854775808 ≤ v ∧ v ≤ 9223372036854775807) (h2 : -9223372036854775808 ≤ t ∧ t ≤ 9223372036854775807) (h3 : -9223372036854775808 ≤ m ∧ m ≤ 9223372036854775807) : (hit x v t m).ok := by
  obtain ⟨a, b, c, d, e, f, g, h, i⟩ := hx
  obtain ⟨o1, o2, o3, o4⟩ := add_ok ⟨x.c, x.su, x.mi, x.ma⟩ v ⟨d, e, f, g⟩ h1.1 h1.2
  exact ⟨a, b, by simp only [hit]; omega, o1, o2, o3, o4, more_bd x.si h.1, i⟩

/-- What Event answers: the window and its panes in a row of the call's own. -/
def Evt (w : World) (x : Win) (ps : List (List Value)) : Ending → World → Prop := fun e w' =>
  ∃ sv, e = .returned (.tuple #[x.val, sv]) ∧ w'.ownsRow w.heap.size 37 9 sv ps.length ps.flatten ∧ Below w.heap.size w w'

set_option maxHeartbeats 2000000 in
theorem event_any (c : Conf) (key : ByteArray) (x : Win) (v t m : Int) (w : World) (hx : x.ok) (h1 : -9223372036854775808 ≤ v ∧ v ≤ 9223372036854775807) (h2 : -9223372036854775808 ≤ t ∧ t ≤ 9223372036854775807) (h3 : -9223372036854775808 ≤ m ∧ m ≤ 9223372036854775807) :
    Calls Try.prog 16 #[c.val, .string key, x.val, .int .i64 v, .int .i64 t, .int .i64 m] w (Evt w (eventW c x v t m) (eventP c key x v t m)) := by
  have hit1 := Lib.hid (hit_ok x v t m hx h1 h2 h3)
  obtain ⟨_, _, _, b4, b5, b6, b7, ⟨b8, b9⟩, _⟩ := hx
  have HT := Lib.hid (show Tally.ok ⟨x.c, x.su, x.mi, x.ma⟩ from ⟨b4, b5, b6, b7⟩)
  clear b4 b5 b6 b7
  obtain ⟨v1, v2⟩ := h1
  go_enter Try.func16, Try.ntmps16
  go_wp2_with fail
  refine (add_any ⟨x.c, x.su, x.mi, x.ma⟩ v _ HT.out v1 v2).mono ?_
  rintro e w1 ⟨rfl, hb1⟩
  have hB1 : Below w.heap.size w w1 := bnext (by go_grown) hb1
  have A0 : Blk w1 w.heap.size 24 #[.int .i64 c.gr, .int .i64 c.so, .int .i64 c.ki, .int .i64 c.sz, .int .i64 c.sl, .int .i64 c.off, .int .i64 c.ga, .int .i64 c.la, .int .i64 c.ea, .bool c.di] := Blk.below (by simp (disch := (first | omega | (simp only [World.size_alloc, World.size_setCell, World.size_drew] <;> omega) | fail)) only [Blk, heap_old, heap_at, heap_set_same, heap_set_ne, heap_drew', Option.map_some, putO_cells]) hb1
  have A2 : Blk w1 (w.heap.size + 1 + 1) 30 Win.zero.cells := Blk.below (by simp (disch := (first | omega | (simp only [World.size_alloc, World.size_setCell, World.size_drew] <;> omega) | fail)) only [Blk, heap_old, heap_at, heap_set_same, heap_set_ne, heap_drew', Option.map_some, putO_cells]) hb1
  have A3 : Blk w1 (w.heap.size + 1 + 1 + 1) 65 (x.blk (Value.slice none 0 0)) := Blk.below (by simp (disch := (first | omega | (simp only [World.size_alloc, World.size_setCell, World.size_drew] <;> omega) | fail)) only [Blk, heap_old, heap_at, heap_set_same, heap_set_ne, heap_drew', Option.map_some, putO_cells]) hb1
  clear hb1
  generalize hA : add ⟨x.c, x.su, x.mi, x.ma⟩ v = A
  have HA := Lib.hid hA
  clear hA
  have c3 := A3.cell
  have f3 := A3.free
  go_wp2_with fail
  refine (more_any _ _ b8 b9).mono ?_
  rintro e w2 ⟨rfl, hb2⟩
  have hB2 : Below w.heap.size w w2 := bnext (by go_grown) hb2
  have B0 : Blk w2 w.heap.size 24 #[.int .i64 c.gr, .int .i64 c.so, .int .i64 c.ki, .int .i64 c.sz, .int .i64 c.sl, .int .i64 c.off, .int .i64 c.ga, .int .i64 c.la, .int .i64 c.ea, .bool c.di] := Blk.below (by unfold Blk at A0; simp (disch := (first | omega | (simp only [World.size_alloc, World.size_setCell, World.size_drew] <;> omega) | fail)) only [Blk, heap_old, heap_at, heap_set_same, heap_set_ne, heap_drew', Option.map_some, putO_cells, A0]) hb2
  have B2 : Blk w2 (w.heap.size + 1 + 1) 30 Win.zero.cells := Blk.below (by unfold Blk at A2; simp (disch := (first | omega | (simp only [World.size_alloc, World.size_setCell, World.size_drew] <;> omega) | fail)) only [Blk, heap_old, heap_at, heap_set_same, heap_set_ne, heap_drew', Option.map_some, putO_cells, A2]) hb2
  have B3 : Blk w2 (w.heap.size + 1 + 1 + 1) 65 (Win.blk { x with c := A.c, su := A.su, mi := A.mi, ma := A.ma } (Value.slice none 0 0)) := Blk.below (by unfold Blk at A3; simp (disch := (first | omega | (simp only [World.size_alloc, World.size_setCell, World.size_drew] <;> omega) | fail)) only [Blk, heap_old, heap_at, heap_set_same, heap_set_ne, heap_drew', Option.map_some, putO_cells, A3]; simp; done) hb2
  clear hb2 hB1 A0 A2 A3 c3 f3
  have c0 := B0.cell
  have f0 := B0.free
  have c3 := B3.cell
  have f3 := B3.free
  go_wp2_with fail
  have e1 : hit x v t m = ⟨x.s, x.e, min x.h (max t m), A.c, A.su, A.mi, A.ma, more x.si, x.pa⟩ := by unfold hit; rw [HA.out]
  rw [e1] at hit1
  generalize hy : (⟨x.s, x.e, min x.h (max t m), A.c, A.su, A.mi, A.ma, more x.si, x.pa⟩ : Win) = y
  refine (behind_any ⟨x.s, x.e, min x.h (max t m), A.c, A.su, A.mi, A.ma, more x.si, x.pa⟩ c m _).mono ?_
  rw [hy]
  rintro e w3 ⟨rfl, hb3⟩
  have HE : Hid (eventW c x v t m = (if (behind c y m).2 then told y c.di else y) ∧ eventP c key x v t m = if (behind c y m).2 then [paneOf key y (behind c y m).1] else []) := Lib.hid (by unfold eventW eventP; rw [e1, hy]; exact ⟨rfl, rfl⟩)
  have hB3 : Below w.heap.size w w3 := bnext (by go_grown) hb3
  have C0 : Blk w3 w.heap.size 24 #[.int .i64 c.gr, .int .i64 c.so, .int .i64 c.ki, .int .i64 c.sz, .int .i64 c.sl, .int .i64 c.off, .int .i64 c.ga, .int .i64 c.la, .int .i64 c.ea, .bool c.di] := Blk.below (by unfold Blk at B0; simp (disch := (first | omega | (simp only [World.size_alloc, World.size_setCell, World.size_drew] <;> omega) | fail)) only [Blk, heap_old, heap_at, heap_set_same, heap_set_ne, heap_drew', Option.map_some, putO_cells, B0]) hb3
  have C2 : Blk w3 (w.heap.size + 1 + 1) 30 Win.zero.cells := Blk.below (by unfold Blk at B2; simp (disch := (first | omega | (simp only [World.size_alloc, World.size_setCell, World.size_drew] <;> omega) | fail)) only [Blk, heap_old, heap_at, heap_set_same, heap_set_ne, heap_drew', Option.map_some, putO_cells, B2]) hb3
  have C3 : Blk w3 (w.heap.size + 1 + 1 + 1) 65 (y.blk (Value.slice none 0 0)) := Blk.below (by unfold Blk at B3; simp (disch := (first | omega | (simp only [World.size_alloc, World.size_setCell, World.size_drew] <;> omega) | fail)) only [Blk, heap_old, heap_at, heap_set_same, heap_set_ne, heap_drew', Option.map_some, putO_cells, B3]; rw [← hy]; simp; done) hb3
  clear hb3 hB2 B0 B2 B3 c3 f3 c0 f0 e1 HA HT
  rw [hy] at hit1
  clear hy b8 b9
  have c0 := C0.cell
  have f0 := C0.free
  have c2 := C2.cell
  have f2 := C2.free
  have c3 := C3.cell
  have f3 := C3.free
  generalize behind c y m = kb at HE ⊢
  obtain ⟨kind, bb⟩ := kb
  cases bb
  · simp only [Bool.false_eq_true, if_false]
    go_wp2_with fail
    (refine region_keep (fun b => b = w.heap.size + 1 + 1 + 1) 5 [(0, true), (1, true), (2, true), (3, true), (4, false)] (by kernel_rfl) (fun _ _ d _ _ h => by cases d <;> exact h) (by kernel_rfl) ?_; simp only [withOps, List.getElem?_toArray, List.getElem?_cons_zero, List.getElem?_cons_succ, List.drop_succ_cons, List.drop_zero])
    (repeat (refine keep_quiet (v := ?_) rfl ?_ ?_; rotate_left; (focus (intro w' hw'; go_simp; (try with_reducible rfl); done)); try simp only [Act.put, List.setIfInBounds_toArray, List.set_cons_zero, List.set_cons_succ]))
    refine plan_loud (fun K hK => ?_)
    go_simp
    refine hK _ _ ?_ ?_
    · (repeat' (first | (with_reducible exact Keep.refl _ _) | (with_reducible refine Keep.drew ?_) | (with_reducible refine Keep.of_drew ?_) | (with_reducible refine Keep.alloc ?_ ?_ _) | (with_reducible refine Keep.setCell ?_ ?_ _) | (simp; omega) | (simp; done) | omega))
    clear hK K
    refine plan_end ?_
    (try simp only [Act.put, List.setIfInBounds_toArray, List.set_cons_zero, List.set_cons_succ])
    go_wp2_with fail
    refine bodyPost_ret (v := .tuple #[y.val, .slice none 0 0]) (by simp [results, Try.results16, go_sem, c2]; done) rfl ?_
    refine ⟨_, by rw [HE.out.1]; rfl, ?_, by go_grown⟩
    rw [HE.out.2]
    exact World.ownsRow_nil _ _ _ _
  · simp only [if_true]
    go_wp2_with fail
    refine (tell_any _ _ y _ _ _ hit1.out C3).mono ?_
    rintro e w4 ⟨rfl, ht⟩
    obtain ⟨p, cap, hg, hp1, hp2, hcap, hown, hgr⟩ := ht.facts
    clear ht c0 f0 c2 f2 c3 f3
    have hB4 : Below w.heap.size w w4 := hB3.grown hgr (by have := hB3.size; omega) (fun k hk => by cases hk; omega)
    have D2 : Blk w4 (w.heap.size + 1 + 1) 30 Win.zero.cells := C2.grown hgr (by simp)
    have D3 : Blk w4 (w.heap.size + 1 + 1 + 1) 65 ((told y c.di).blk (Value.slice (some ⟨p, 0, none⟩) 1 cap)) := hg
    have hown2 : w4.ownsRow w.heap.size 37 9 (.slice (some ⟨p, 0, none⟩) 1 cap) 1 (paneOf key y kind) := owns_mono hown (by have := hB3.size; omega)
    clear hg hown hgr
    have hp : w.heap.size + 1 + 1 + 1 < p := by have := C3.lt; omega
    have c2 := D2.cell
    have f2 := D2.free
    have c3 := D3.cell
    go_wp2_with fail
    (refine region_keep (fun b => b = w.heap.size + 1 + 1 + 1) 5 [(0, true), (1, true), (2, true), (3, true), (4, false)] (by kernel_rfl) (fun _ _ d _ _ h => by cases d <;> exact h) (by kernel_rfl) ?_; simp only [withOps, List.getElem?_toArray, List.getElem?_cons_zero, List.getElem?_cons_succ, List.drop_succ_cons, List.drop_zero])
    (repeat (refine keep_quiet (v := ?_) rfl ?_ ?_; rotate_left; (focus (intro w' hw'; go_simp; (try with_reducible rfl); done)); try simp only [Act.put, List.setIfInBounds_toArray, List.set_cons_zero, List.set_cons_succ]))
    refine plan_loud (fun K hK => ?_)
    go_simp
    refine hK _ _ ?_ ?_
    · (repeat' (first | (with_reducible exact Keep.refl _ _) | (with_reducible refine Keep.drew ?_) | (with_reducible refine Keep.of_drew ?_) | (with_reducible refine Keep.alloc ?_ ?_ _) | (with_reducible refine Keep.setCell ?_ ?_ _) | (simp; omega) | (simp; done) | omega))
    clear hK K
    refine plan_end ?_
    (try simp only [Act.put, List.setIfInBounds_toArray, List.set_cons_zero, List.set_cons_succ])
    go_wp2_with fail
    refine bodyPost_ret (v := .tuple #[(told y c.di).val, .slice (some ⟨p, 0, none⟩) 1 cap]) (by simp [results, Try.results16, go_sem, c2]; done) rfl ?_
    refine ⟨_, by rw [HE.out.1]; rfl, ?_, by go_grown⟩
    rw [HE.out.2]
    simp only [if_true, List.flatten_cons, List.flatten_nil, List.append_nil, List.length_cons, List.length_nil, Nat.zero_add]
    refine owns_of_heap hown2 ?_
    simp (disch := (first | omega | (simp only [World.size_alloc, World.size_setCell, World.size_drew] <;> omega) | fail)) only [Blk, heap_old, heap_at, heap_set_same, heap_set_ne, heap_drew', Option.map_some, putO_cells]

end Go.Proofs.Ytfpomiimloohkaa
