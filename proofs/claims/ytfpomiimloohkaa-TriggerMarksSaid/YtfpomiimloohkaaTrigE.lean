/- A value more to a tally: the program's and the reference's; the reference's Tell. -/
import Derived.Test.YtfpomiimloohkaaTrigD
import Derived.Test.YtfpomiimloohkaaTally
set_option linter.unusedSimpArgs false
set_option linter.unusedVariables false
namespace Go.Proofs.Ytfpomiimloohkaa
open Go.RowKit Go.Kp
attribute [local go_sem high] Kp.run_min2 Kp.run_max2

def add (t : Tally) (v : Int) : Tally := if t.c < 1 then ⟨1, v, v, v⟩ else ⟨more t.c, wrap64 (t.su + v), min t.mi v, max t.ma v⟩
theorem add_join (t : Tally) (v : Int) : join [t, ⟨1, v, v, v⟩] = add t v := by
  unfold join add
  simp only [List.foldl_cons, List.foldl_nil]
  by_cases h : t.c < 1
  · simp [joinStep, h]; omega
  · have h2 : 0 < min t.c 9007199254740992 := by omega
    simp only [joinStep, h, if_false]
    simp only [show ¬ (1 : Int) < 1 by omega, if_false, show ¬ (0 : Int) < 0 by omega, if_pos h2]
    congr 1
    unfold more; split <;> omega

theorem add_any (t : Tally) (v : Int) (w : World) (ht : t.ok) (hv1 : -9223372036854775808 ≤ v) (hv2 : v ≤ 9223372036854775807) :
    Calls Try.prog 28 #[t.val, .int .i64 v] w (Ret (add t v).val w) := by
  have HJ := Lib.hid (add_join t v)
  have HT := Lib.hid ht
  clear ht
  go_enter Try.func28, Try.ntmps28
  go_wp2_with fail
  refine (join_any _ 2 2 [t, ⟨1, v, v, v⟩] _ rfl ?_ (by omega) (.inr ⟨_, _, rfl, ?_, ?_⟩)).mono ?_
  · intro x hx
    rcases List.mem_cons.1 hx with rfl | hx
    · exact HT.out
    · obtain rfl := List.mem_singleton.1 hx
      exact ⟨⟨by show _ ≤ (1 : Int); omega, by show (1 : Int) ≤ _; omega⟩, ⟨hv1, hv2⟩, ⟨hv1, hv2⟩, ⟨hv1, hv2⟩⟩
  · simp
  · intro j u hu
    rw [cell_of_row _ _ _ _ _ _ (heap_at (by simp))]
    simpa using hu
  rintro e w1 ⟨rfl, hb1⟩
  have hB : Below w.heap.size w w1 := bnext (by go_grown) hb1
  rw [HJ.out]
  obtain ⟨hc1, hf1⟩ := bcell hb1
  have hz : w.heap.size + 2 < w1.heap.size := by have := hb1.size; simp at this; omega
  have hz1 : w.heap.size + 1 < w1.heap.size := by omega
  go_wp2_with fail
  refine bodyPost_ret (v := (add t v).val) (by simp [results, Try.results28, go_sem, hc1]) rfl ⟨rfl, ?_⟩
  go_grown

theorem refAdd_any (t : Tally) (v : Int) (w : World) (ht : t.ok) (hv1 : -9223372036854775808 ≤ v) (hv2 : v ≤ 9223372036854775807) :
    Calls Try.prog 30 #[t.val, .int .i64 v] w (Ret (add t v).val w) := by
  by_cases h : t.c < 1
  · have H := Lib.hid (show add t v = ⟨1, v, v, v⟩ from if_pos h)
    go_enter Try.func30, Try.ntmps30
    go_wp2
    refine bodyPost_ret (v := (add t v).val) (by simp [results, Try.results30, go_sem, H.out]) rfl ⟨rfl, ?_⟩
    go_grown
  · have H := Lib.hid (show add t v = ⟨more t.c, wrap64 (t.su + v), min t.mi v, max t.ma v⟩ from if_neg h)
    obtain ⟨⟨c1, c2⟩, _⟩ := ht
    go_enter Try.func30, Try.ntmps30
    go_wp2
    refine region_keep (fun b => b = w.heap.size) 15 [(0, true), (1, true), (3, true), (4, true), (5, true), (6, true), (7, true), (8, true), (9, true), (10, true), (11, true), (12, true), (13, true), (14, true), (2, false)] (by kernel_rfl) (fun _ _ d _ _ h => by cases d <;> exact h) (by kernel_rfl) ?_
    simp only [withOps, List.getElem?_toArray, List.getElem?_cons_zero, List.getElem?_cons_succ, List.drop_succ_cons, List.drop_zero]
    repeat (refine keep_quiet (v := ?_) rfl ?_ ?_; rotate_left; (focus (intro w' hw'; go_simp; (try with_reducible rfl); done)); try simp only [Act.put, List.setIfInBounds_toArray, List.set_cons_zero, List.set_cons_succ])
    refine plan_loud (fun K hK => ?_)
    go_simp
    refine (refMore_any _ _ c1 c2).mono ?_
    rintro e w1 ⟨rfl, hb1⟩
    refine hK _ _ ((Keep.refl _ _).below hb1 (by rintro x rfl; simp; omega)) ?_
    clear hK K
    refine plan_end ?_
    try simp only [Act.put, List.setIfInBounds_toArray, List.set_cons_zero, List.set_cons_succ]
    have hB : Below w.heap.size w w1 := bnext (by go_grown) hb1
    obtain ⟨hc1, hf1⟩ := bcell hb1
    have hz : w.heap.size + 1 < w1.heap.size := by have := hb1.size; simp at this; omega
    go_wp2
    refine bodyPost_ret (v := (add t v).val) (by simp [results, Try.results30, go_sem, hc1, H.out]) rfl ⟨rfl, ?_⟩
    go_grown

set_option maxHeartbeats 1000000 in
theorem refTell_any (key : ByteArray) (x : Win) (kind : Int) (di : Bool) (w : World) (hx : x.ok) :
    Calls Try.prog 15 #[.string key, x.val, .int .i64 kind, .bool di] w (Ret (.tuple #[.agg (paneOf key x kind).toArray, (told x di).val]) w) := by
  obtain ⟨_, _, _, _, _, _, _, _, ⟨p1, p2⟩⟩ := hx
  cases di
  · go_enter Try.func15, Try.ntmps15
    go_wp2_with fail
    refine (refMore_any _ _ p1 p2).mono ?_
    rintro e w1 ⟨rfl, hb1⟩
    have hB : Below w.heap.size w w1 := bnext (by go_grown) hb1
    have H0 : Blk w1 w.heap.size 30 x.cells := Blk.below (by simp (disch := (first | omega | (simp only [World.size_alloc, World.size_setCell, World.size_drew] <;> omega) | fail)) only [Blk, heap_old, heap_at, heap_set_same, heap_set_ne, heap_drew', Option.map_some, putO_cells]) hb1
    have H1 : Blk w1 (w.heap.size + 1) 37 noPane.toArray := Blk.below (by simp (disch := (first | omega | (simp only [World.size_alloc, World.size_setCell, World.size_drew] <;> omega) | fail)) only [Blk, heap_old, heap_at, heap_set_same, heap_set_ne, heap_drew', Option.map_some, putO_cells]; rfl) hb1
    have H2 : Blk w1 (w.heap.size + 1 + 1) 30 Win.zero.cells := Blk.below (by simp (disch := (first | omega | (simp only [World.size_alloc, World.size_setCell, World.size_drew] <;> omega) | fail)) only [Blk, heap_old, heap_at, heap_set_same, heap_set_ne, heap_drew', Option.map_some, putO_cells]) hb1
    have H3 : Blk w1 (w.heap.size + 1 + 1 + 1) 37 (paneOf key x kind).toArray := Blk.below (by simp (disch := (first | omega | (simp only [World.size_alloc, World.size_setCell, World.size_drew] <;> omega) | fail)) only [Blk, heap_old, heap_at, heap_set_same, heap_set_ne, heap_drew', Option.map_some, putO_cells]; rfl) hb1
    clear hb1
    have f0 := H0.free
    have c0 := H0.cell
    go_wp2_with fail
    refine wp_at (fun wc => Blk wc w.heap.size 30 (told x false).cells ∧ Blk wc (w.heap.size + 1) 37 noPane.toArray ∧ Blk wc (w.heap.size + 1 + 1) 30 Win.zero.cells ∧ Blk wc (w.heap.size + 1 + 1 + 1) 37 (paneOf key x kind).toArray ∧ Below w.heap.size w wc)
      ⟨by unfold Blk at H0; simp (disch := (first | omega | (simp only [World.size_alloc, World.size_setCell, World.size_drew] <;> omega) | fail)) only [Blk, heap_old, heap_at, heap_set_same, heap_set_ne, heap_drew', Option.map_some, putO_cells, H0]; simp [told]; done, by unfold Blk at H1; simp (disch := (first | omega | (simp only [World.size_alloc, World.size_setCell, World.size_drew] <;> omega) | fail)) only [Blk, heap_old, heap_at, heap_set_same, heap_set_ne, heap_drew', Option.map_some, putO_cells, H1], by unfold Blk at H2; simp (disch := (first | omega | (simp only [World.size_alloc, World.size_setCell, World.size_drew] <;> omega) | fail)) only [Blk, heap_old, heap_at, heap_set_same, heap_set_ne, heap_drew', Option.map_some, putO_cells, H2], by unfold Blk at H3; simp (disch := (first | omega | (simp only [World.size_alloc, World.size_setCell, World.size_drew] <;> omega) | fail)) only [Blk, heap_old, heap_at, heap_set_same, heap_set_ne, heap_drew', Option.map_some, putO_cells, H3], by go_grown⟩ ?_
    clear hB H0 H1 H2 H3 f0 c0 w1
    intro wc ⟨H0, H1, H2, H3, hB⟩
    have c0 := H0.cell
    have c1 := H1.cell
    have f1 := H1.free
    have c2 := H2.cell
    have f2 := H2.free
    have c3 := H3.cell
    unfold paneOf at c3
    unfold noPane paneOf at c1
    refine region_keep (fun b => b = w.heap.size ∨ b = w.heap.size + 1 + 1 + 1) 3 [(0, true), (1, true), (2, false)] (by kernel_rfl) (fun _ _ d _ _ h => by cases d <;> exact h) (by kernel_rfl) ?_
    simp only [withOps, List.getElem?_toArray, List.getElem?_cons_zero, List.getElem?_cons_succ, List.drop_succ_cons, List.drop_zero]
    repeat (refine keep_quiet (v := ?_) rfl ?_ ?_; rotate_left; (focus (intro w' hw'; go_simp; (try with_reducible rfl); done)); try simp only [Act.put, List.setIfInBounds_toArray, List.set_cons_zero, List.set_cons_succ])
    refine plan_loud (fun K hK => ?_)
    go_simp
    refine hK _ _ ?_ ?_
    · repeat' (first | (with_reducible exact Keep.refl _ _) | (with_reducible refine Keep.drew ?_) | (with_reducible refine Keep.of_drew ?_) | (with_reducible refine Keep.alloc ?_ ?_ _) | (with_reducible refine Keep.setCell ?_ ?_ _) | (simp; omega) | (simp; done) | omega)
    clear hK K
    refine plan_end ?_
    try simp only [Act.put, List.setIfInBounds_toArray, List.set_cons_zero, List.set_cons_succ]
    go_wp2_with fail
    refine bodyPost_ret (v := .tuple #[.agg (paneOf key x kind).toArray, (told x false).val]) (by simp [results, Try.results15, go_sem, c1, c2, paneOf]; done) rfl ⟨rfl, ?_⟩
    go_grown
  · go_enter Try.func15, Try.ntmps15
    go_wp2_with fail
    refine (refMore_any _ _ p1 p2).mono ?_
    rintro e w1 ⟨rfl, hb1⟩
    have hB : Below w.heap.size w w1 := bnext (by go_grown) hb1
    have H0 : Blk w1 w.heap.size 30 x.cells := Blk.below (by simp (disch := (first | omega | (simp only [World.size_alloc, World.size_setCell, World.size_drew] <;> omega) | fail)) only [Blk, heap_old, heap_at, heap_set_same, heap_set_ne, heap_drew', Option.map_some, putO_cells]) hb1
    have H1 : Blk w1 (w.heap.size + 1) 37 noPane.toArray := Blk.below (by simp (disch := (first | omega | (simp only [World.size_alloc, World.size_setCell, World.size_drew] <;> omega) | fail)) only [Blk, heap_old, heap_at, heap_set_same, heap_set_ne, heap_drew', Option.map_some, putO_cells]; rfl) hb1
    have H2 : Blk w1 (w.heap.size + 1 + 1) 30 Win.zero.cells := Blk.below (by simp (disch := (first | omega | (simp only [World.size_alloc, World.size_setCell, World.size_drew] <;> omega) | fail)) only [Blk, heap_old, heap_at, heap_set_same, heap_set_ne, heap_drew', Option.map_some, putO_cells]) hb1
    have H3 : Blk w1 (w.heap.size + 1 + 1 + 1) 37 (paneOf key x kind).toArray := Blk.below (by simp (disch := (first | omega | (simp only [World.size_alloc, World.size_setCell, World.size_drew] <;> omega) | fail)) only [Blk, heap_old, heap_at, heap_set_same, heap_set_ne, heap_drew', Option.map_some, putO_cells]; rfl) hb1
    clear hb1
    have f0 := H0.free
    have c0 := H0.cell
    go_wp2_with fail
    refine wp_at (fun wc => Blk wc w.heap.size 30 (told x true).cells ∧ Blk wc (w.heap.size + 1) 37 noPane.toArray ∧ Blk wc (w.heap.size + 1 + 1) 30 Win.zero.cells ∧ Blk wc (w.heap.size + 1 + 1 + 1) 37 (paneOf key x kind).toArray ∧ Below w.heap.size w wc)
      ⟨by unfold Blk at H0; simp (disch := (first | omega | (simp only [World.size_alloc, World.size_setCell, World.size_drew] <;> omega) | fail)) only [Blk, heap_old, heap_at, heap_set_same, heap_set_ne, heap_drew', Option.map_some, putO_cells, H0]; simp [told]; done, by unfold Blk at H1; simp (disch := (first | omega | (simp only [World.size_alloc, World.size_setCell, World.size_drew] <;> omega) | fail)) only [Blk, heap_old, heap_at, heap_set_same, heap_set_ne, heap_drew', Option.map_some, putO_cells, H1], by unfold Blk at H2; simp (disch := (first | omega | (simp only [World.size_alloc, World.size_setCell, World.size_drew] <;> omega) | fail)) only [Blk, heap_old, heap_at, heap_set_same, heap_set_ne, heap_drew', Option.map_some, putO_cells, H2], by unfold Blk at H3; simp (disch := (first | omega | (simp only [World.size_alloc, World.size_setCell, World.size_drew] <;> omega) | fail)) only [Blk, heap_old, heap_at, heap_set_same, heap_set_ne, heap_drew', Option.map_some, putO_cells, H3], by go_grown⟩ ?_
    clear hB H0 H1 H2 H3 f0 c0 w1
    intro wc ⟨H0, H1, H2, H3, hB⟩
    have c0 := H0.cell
    have c1 := H1.cell
    have f1 := H1.free
    have c2 := H2.cell
    have f2 := H2.free
    have c3 := H3.cell
    unfold paneOf at c3
    unfold noPane paneOf at c1
    refine region_keep (fun b => b = w.heap.size ∨ b = w.heap.size + 1 + 1 + 1) 3 [(0, true), (1, true), (2, false)] (by kernel_rfl) (fun _ _ d _ _ h => by cases d <;> exact h) (by kernel_rfl) ?_
    simp only [withOps, List.getElem?_toArray, List.getElem?_cons_zero, List.getElem?_cons_succ, List.drop_succ_cons, List.drop_zero]
    repeat (refine keep_quiet (v := ?_) rfl ?_ ?_; rotate_left; (focus (intro w' hw'; go_simp; (try with_reducible rfl); done)); try simp only [Act.put, List.setIfInBounds_toArray, List.set_cons_zero, List.set_cons_succ])
    refine plan_loud (fun K hK => ?_)
    go_simp
    refine hK _ _ ?_ ?_
    · repeat' (first | (with_reducible exact Keep.refl _ _) | (with_reducible refine Keep.drew ?_) | (with_reducible refine Keep.of_drew ?_) | (with_reducible refine Keep.alloc ?_ ?_ _) | (with_reducible refine Keep.setCell ?_ ?_ _) | (simp; omega) | (simp; done) | omega)
    clear hK K
    refine plan_end ?_
    try simp only [Act.put, List.setIfInBounds_toArray, List.set_cons_zero, List.set_cons_succ]
    go_wp2_with fail
    refine bodyPost_ret (v := .tuple #[.agg (paneOf key x kind).toArray, (told x true).val]) (by simp [results, Try.results15, go_sem, c1, c2, paneOf]; done) rfl ⟨rfl, ?_⟩
    go_grown
end Go.Proofs.Ytfpomiimloohkaa
