/- Tallies of values: the program's Of and the document's. -/
import Derived.Test.YtkafcdgeboldgaaDoorTAdd
set_option linter.unusedSimpArgs false
set_option linter.unusedVariables false
namespace Go.Proofs.YtkafcdgeboldgaaDoor
open Go.RowKit Go.Kp

def ofs (l : List Int) : Tally := l.foldl add Tally.zero
theorem ofs_snoc (l : List Int) (k : Nat) (x : Int) (h : l[k]? = some x) : ofs (l.take (k + 1)) = add (ofs (l.take k)) x := by
  have hk : k < l.length := (List.getElem?_eq_some_iff.1 h).1
  have hx : l[k] = x := by simpa [List.getElem?_eq_getElem hk] using h
  rw [List.take_succ_eq_append_getElem hk, ofs, List.foldl_append, hx]; rfl
def I64 (n : Int) : Prop := -9223372036854775808 ≤ n ∧ n ≤ 9223372036854775807
theorem ofs_ok (l : List Int) (h : ∀ z ∈ l, I64 z) : (ofs l).ok := by
  have : ∀ (l : List Int) (t : Tally), (∀ z ∈ l, I64 z) → t.ok → (l.foldl add t).ok := by
    intro l
    induction l with
    | nil => exact fun t _ h => h
    | cons x l ih => exact fun t h ht => ih _ (fun z hz => h z (List.mem_cons_of_mem _ hz)) (add_ok t x ht (h x List.mem_cons_self).1 (h x List.mem_cons_self).2)
  exact this l _ h (by unfold Tally.ok; decide)

set_option maxHeartbeats 1000000 in
theorem of_any (a : Option Addr) (cap : Nat) (l : List Int) (w : World) (hl : l.length ≤ 9223372036854775807) (hz : ∀ z ∈ l, I64 z) (hr : Rd w w.heap.size a (l.map (Value.int .i64))) :
    Calls Tryd.prog 11 #[.slice a l.length cap] w (Ret (ofs l).val w) := by
  generalize hn : l.length = n at hl ⊢
  have HN := Lib.hid hn
  have HZ := Lib.hid hz
  have HR := Lib.hid hr
  clear hn hz hr
  go_enter Tryd.func11, Tryd.ntmps11
  go_wp2_with fail
  go_loopw [5, 8] (fun _ i wr => ∃ k : Nat, k ≤ n ∧ i = .int .i64 k ∧ Blk wr w.heap.size 24 Tally.zero.cells.toArray ∧ Blk wr (w.heap.size + 1) 24 (ofs (l.take k)).cells.toArray ∧ Below w.heap.size w wr) (fun _ i _ => n - (intOf i).toNat)
  case atStart => exact ⟨0, Nat.zero_le _, rfl, (heap_old (by simp)).trans (heap_at rfl), heap_at (by simp), by go_grown⟩
  case round =>
    obtain ⟨k, hk, rfl, A0, A1, hB⟩ := hrel
    have l0 := A0.lt
    have l1 := A1.lt
    have c0 := A0.cell
    have f0 := A0.free
    have c1 := A1.cell
    have f1 := A1.free
    rcases Nat.lt_or_ge k n with hlt | hge
    · obtain ⟨z, hz⟩ : ∃ z, l[k]? = some z := ⟨_, List.getElem?_eq_getElem (by rw [HN.out]; exact hlt)⟩
      have zI := HZ.out z (List.mem_of_getElem? hz)
      have tok := Lib.hid (ofs_ok (l.take k) (fun y hy => HZ.out y (List.mem_of_mem_take hy)))
      rcases HR.out with hr | ⟨b, off, rfl, hbl, hc⟩
      · have := HN.out
        rw [List.map_eq_nil_iff.1 hr] at this
        simp at this; omega
      · have e0 : wr.cell? ⟨b, off + k, none⟩ = some (.int .i64 z) := (hB.cell (p := ⟨b, off + k, none⟩) hbl).trans (hc k _ (by rw [List.getElem?_map, hz]; rfl))
        have HS := Lib.hid (ofs_snoc l k z hz)
        have hbw : b < wr.heap.size := Nat.lt_of_lt_of_le hbl hB.size
        clear hz hbl hc
        generalize ofs (l.take k) = t at *
        go_wp2_with fail
        refine (add_any _ z _ tok.out zI.1 zI.2).mono ?_
        rintro en w1 ⟨rfl, hb1⟩
        have hB1 : Below w.heap.size w w1 := bnext (by go_grown) hb1
        have B0 : Blk w1 w.heap.size 24 Tally.zero.cells.toArray := Blk.below (by unfold Blk at A0; simp (disch := (first | omega | (simp only [World.size_alloc, World.size_setCell, World.size_drew] <;> omega) | fail)) only [Blk, heap_old, heap_at, heap_set_same, heap_set_ne, heap_drew', Option.map_some, putO_cells, A0]) hb1
        have B1 : Blk w1 (w.heap.size + 1) 24 t.cells.toArray := Blk.below (by unfold Blk at A1; simp (disch := (first | omega | (simp only [World.size_alloc, World.size_setCell, World.size_drew] <;> omega) | fail)) only [Blk, heap_old, heap_at, heap_set_same, heap_set_ne, heap_drew', Option.map_some, putO_cells, A1]) hb1
        clear A0 A1 c0 f0 c1 f1 l0 l1 hb1 hB
        have m0 := B0.lt
        have m1 := B1.lt
        have c1 := B1.cell
        have f1 := B1.free
        go_wp2_with fail
        go_roundw
        case rel =>
          refine ⟨k + 1, by omega, by go_num, ?_, ?_, by go_grown⟩
          · unfold Blk at B0; simp (disch := (first | omega | (simp only [World.size_alloc, World.size_setCell, World.size_drew] <;> omega) | fail)) only [Blk, heap_old, heap_at, heap_set_same, heap_set_ne, heap_drew', Option.map_some, putO_cells, B0]
          · rw [HS.out]
            unfold Blk at B1; simp (disch := (first | omega | (simp only [World.size_alloc, World.size_setCell, World.size_drew] <;> omega) | fail)) only [Blk, heap_old, heap_at, heap_set_same, heap_set_ne, heap_drew', Option.map_some, putO_cells, B1]; simp; done
        case measure => simp [intOf]; omega
    · obtain rfl : k = n := by omega
      have ht : l.take k = l := by rw [← HN.out]; exact List.take_length
      rw [ht] at c1
      go_wp2_with fail
      refine bodyPost_ret (v := (ofs l).val) (by simp [results, Tryd.results11, go_sem, c0, c1]; done) rfl ⟨rfl, ?_⟩
      go_grown

set_option maxHeartbeats 1000000 in
theorem refOf_any (a : Option Addr) (cap : Nat) (l : List Int) (w : World) (hl : l.length ≤ 9223372036854775807) (hz : ∀ z ∈ l, I64 z) (hr : Rd w w.heap.size a (l.map (Value.int .i64))) :
    Calls Tryd.prog 13 #[.slice a l.length cap] w (Ret (ofs l).val w) := by
  generalize hn : l.length = n at hl ⊢
  have HN := Lib.hid hn
  have HZ := Lib.hid hz
  have HR := Lib.hid hr
  clear hn hz hr
  go_enter Tryd.func13, Tryd.ntmps13
  go_wp2_with fail
  go_loopw [4] (fun i wr => ∃ k : Nat, k ≤ n ∧ i = .int .i64 k ∧ Blk wr w.heap.size 24 Tally.zero.cells.toArray ∧ Blk wr (w.heap.size + 1) 24 (ofs (l.take k)).cells.toArray ∧ Below w.heap.size w wr) (fun i _ => n - (intOf i).toNat)
  case atStart => exact ⟨0, Nat.zero_le _, rfl, (heap_old (by simp)).trans (heap_at rfl), heap_at (by simp), by go_grown⟩
  case round =>
    obtain ⟨k, hk, rfl, A0, A1, hB⟩ := hrel
    have l0 := A0.lt
    have l1 := A1.lt
    have c0 := A0.cell
    have f0 := A0.free
    have c1 := A1.cell
    have f1 := A1.free
    rcases Nat.lt_or_ge k n with hlt | hge
    · obtain ⟨z, hz⟩ : ∃ z, l[k]? = some z := ⟨_, List.getElem?_eq_getElem (by rw [HN.out]; exact hlt)⟩
      have zI := HZ.out z (List.mem_of_getElem? hz)
      have tok := Lib.hid (ofs_ok (l.take k) (fun y hy => HZ.out y (List.mem_of_mem_take hy)))
      rcases HR.out with hr | ⟨b, off, rfl, hbl, hc⟩
      · have := HN.out
        rw [List.map_eq_nil_iff.1 hr] at this
        simp at this; omega
      · have e0 : wr.cell? ⟨b, off + k, none⟩ = some (.int .i64 z) := (hB.cell (p := ⟨b, off + k, none⟩) hbl).trans (hc k _ (by rw [List.getElem?_map, hz]; rfl))
        have HS := Lib.hid (ofs_snoc l k z hz)
        have hbw : b < wr.heap.size := Nat.lt_of_lt_of_le hbl hB.size
        clear hz hbl hc
        generalize ofs (l.take k) = t at *
        go_wp2_with fail
        (refine region_keep (fun x => x < wr.heap.size) 6 [(0, true), (1, true), (2, true), (3, true), (4, true), (5, false)] (by kernel_rfl) (fun _ _ d _ _ h => by cases d <;> exact h) (by kernel_rfl) ?_; simp only [withOps, List.getElem?_toArray, List.getElem?_cons_zero, List.getElem?_cons_succ, List.drop_succ_cons, List.drop_zero])
        (repeat (refine keep_quiet (v := ?_) rfl ?_ ?_; rotate_left; (focus (intro w' hw'; go_simp; (try with_reducible rfl); done)); try simp only [Act.put, List.setIfInBounds_toArray, List.set_cons_zero, List.set_cons_succ]))
        refine plan_loud (fun K hK => ?_)
        go_simp
        refine (refAdd_any _ z _ tok.out zI.1 zI.2).mono ?_
        rintro en w1 ⟨rfl, hb1⟩
        refine hK _ _ ((Keep.refl _ _).below hb1 (fun _ h => h)) ?_
        clear hK K
        (with_reducible refine plan_end ?_)
        (try simp only [Act.put, List.setIfInBounds_toArray, List.set_cons_zero, List.set_cons_succ])
        have hB1 : Below w.heap.size w w1 := bnext (by go_grown) hb1
        have B0 : Blk w1 w.heap.size 24 Tally.zero.cells.toArray := Blk.below (by unfold Blk at A0; simp (disch := (first | omega | (simp only [World.size_alloc, World.size_setCell, World.size_drew] <;> omega) | fail)) only [Blk, heap_old, heap_at, heap_set_same, heap_set_ne, heap_drew', Option.map_some, putO_cells, A0]) hb1
        have B1 : Blk w1 (w.heap.size + 1) 24 t.cells.toArray := Blk.below (by unfold Blk at A1; simp (disch := (first | omega | (simp only [World.size_alloc, World.size_setCell, World.size_drew] <;> omega) | fail)) only [Blk, heap_old, heap_at, heap_set_same, heap_set_ne, heap_drew', Option.map_some, putO_cells, A1]) hb1
        clear A0 A1 c0 f0 c1 f1 l0 l1 hb1 hB
        have m0 := B0.lt
        have m1 := B1.lt
        have c1 := B1.cell
        have f1 := B1.free
        go_wp2_with fail
        go_roundw
        case rel =>
          refine ⟨k + 1, by omega, by go_num, ?_, ?_, by go_grown⟩
          · unfold Blk at B0; simp (disch := (first | omega | (simp only [World.size_alloc, World.size_setCell, World.size_drew] <;> omega) | fail)) only [Blk, heap_old, heap_at, heap_set_same, heap_set_ne, heap_drew', Option.map_some, putO_cells, B0]
          · rw [HS.out]
            unfold Blk at B1; simp (disch := (first | omega | (simp only [World.size_alloc, World.size_setCell, World.size_drew] <;> omega) | fail)) only [Blk, heap_old, heap_at, heap_set_same, heap_set_ne, heap_drew', Option.map_some, putO_cells, B1]; simp; done
        case measure => simp [intOf]; omega
    · obtain rfl : k = n := by omega
      have ht : l.take k = l := by rw [← HN.out]; exact List.take_length
      rw [ht] at c1
      go_wp2_with fail
      refine bodyPost_ret (v := (ofs l).val) (by simp [results, Tryd.results13, go_sem, c0, c1]; done) rfl ⟨rfl, ?_⟩
      go_grown
end Go.Proofs.YtkafcdgeboldgaaDoor
