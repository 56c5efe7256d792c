/- Tallies put together: the document's Join. -/
import Derived.Test.YtkafcdgeboldgaaDoorTAdd
set_option linter.unusedSimpArgs false
set_option linter.unusedVariables false
namespace Go.Proofs.YtkafcdgeboldgaaDoor
open Go.RowKit Go.Kp
attribute [local go_sem high] Kp.run_min2 Kp.run_max2

set_option maxHeartbeats 4000000 in
theorem refJoin_any (a : Option Addr) (n cap : Nat) (l : List Tally) (w : World) (hl : l.length = n) (hok : ∀ x ∈ l, x.ok) (hn : n ≤ 4611686018427387904) (hr : Rd w w.heap.size a (l.flatMap Tally.cells)) :
    Calls Tryd.prog 18 #[.slice a n cap] w (Ret (join l).val w) := by
  obtain ⟨hnp⟩ : Nonempty (n ≤ 4611686018427387904) := ⟨hn⟩
  rcases Nat.eq_zero_or_pos n with hn0 | hn0
  · subst hn0
    obtain rfl : l = [] := List.eq_nil_of_length_eq_zero hl
    go_enter Tryd.func18, Tryd.ntmps18
    go_wp2
    go_rounds 1
    go_returns
    exact ⟨rfl, by go_grown⟩
  · have hne : l.flatMap Tally.cells ≠ [] := by
      intro h
      have := flat_length Tally.cells 4 Tally.len l
      rw [h] at this; simp at this; omega
    rcases hr with hr | ⟨b, off, rfl, hb, hc⟩
    · exact absurd hr hne
    have hcell : ∀ k x, l[k]? = some x → ∀ j, j < 4 → w.cell? ⟨b, off + (k * 4 + j), none⟩ = x.cells[j]? := fun k x hx j hj => by
      have h1 := flat_get Tally.cells 4 Tally.len l k j x hx hj
      have h2 : x.cells[j]? = some (x.cells[j]'(by simpa using hj)) := List.getElem?_eq_getElem _
      rw [h2] at h1 ⊢
      exact hc _ _ h1
    clear hc hne
    have HC := Lib.hid hcell
    have HL := Lib.hid hl
    have HO := Lib.hid hok
    clear hcell hl hok
    go_enter Tryd.func18, Tryd.ntmps18
    go_wp2_with fail
    go_loopw [4, 5] (fun i _ wr => ∃ k : Nat, k ≤ n ∧ i = .int .i64 k ∧ Blk wr (w.heap.size + 1) 24 (join (l.take k)).cells.toArray ∧ Blk wr w.heap.size 24 Tally.zero.cells.toArray ∧ Below w.heap.size w wr) (fun i _ _ => n - (intOf i).toNat)
    case atStart => exact ⟨0, Nat.zero_le _, rfl, heap_at (by simp), (heap_old (by simp)).trans (heap_at rfl), by go_grown⟩
    case round =>
      obtain ⟨k, hk, rfl, A1, A0, hB⟩ := hrel
      have l0 := A0.lt
      have l1 := A1.lt
      have c1 := A1.cell
      have f1 := A1.free
      have c0 := A0.cell
      have f0 := A0.free
      rcases Nat.lt_or_ge k n with hlt | hge
      · obtain ⟨x, hx⟩ : ∃ x, l[k]? = some x := ⟨_, List.getElem?_eq_getElem (by rw [HL.out]; exact hlt)⟩
        have bd := join_bd (l.take k)
        obtain ⟨⟨x1, x2⟩, _⟩ := HO.out x (List.mem_of_getElem? hx)
        have HS := Lib.hid (join_snoc l k x hx)
        have e0 : wr.cell? ⟨b, off + k * 4, none⟩ = some (.int .i64 x.c) := (hB.cell (p := ⟨b, off + (k * 4 + 0), none⟩) hb).trans (HC.out k x hx 0 (by omega))
        have e1 : wr.cell? ⟨b, off + k * 4 + 1, none⟩ = some (.int .i64 x.su) := (hB.cell (p := ⟨b, off + (k * 4 + 1), none⟩) hb).trans (HC.out k x hx 1 (by omega))
        have e2 : wr.cell? ⟨b, off + k * 4 + 2, none⟩ = some (.int .i64 x.mi) := (hB.cell (p := ⟨b, off + (k * 4 + 2), none⟩) hb).trans (HC.out k x hx 2 (by omega))
        have e3 : wr.cell? ⟨b, off + k * 4 + 3, none⟩ = some (.int .i64 x.ma) := (hB.cell (p := ⟨b, off + (k * 4 + 3), none⟩) hb).trans (HC.out k x hx 3 (by omega))
        clear hx
        generalize join (l.take k) = r at *
        obtain ⟨bd1, bd2⟩ := bd
        by_cases h1 : x.c < 1
        · go_wp2_with fail
          go_roundw
          case rel => exact ⟨k + 1, by omega, by go_num, by rw [HS.out, joinStep, if_pos h1]; exact (heap_old l1).trans A1, (heap_old l0).trans A0, by go_grown⟩
          case measure => simp [intOf]; omega
        · have h1' : 1 ≤ x.c := by omega
          by_cases h2 : r.c = 0
          · go_wp2_with fail
            go_roundw
            case rel =>
              refine ⟨k + 1, by omega, by go_num, ?_, ?_, by go_grown⟩
              · rw [HS.out, joinStep, if_neg h1, if_neg (by omega)]
                unfold Blk at A1; simp (disch := (first | omega | (simp only [World.size_alloc, World.size_setCell, World.size_drew] <;> omega) | fail)) only [Blk, heap_old, heap_at, heap_set_same, heap_set_ne, heap_drew', Option.map_some, putO_cells, A1]; simp; done
              · unfold Blk at A0; simp (disch := (first | omega | (simp only [World.size_alloc, World.size_setCell, World.size_drew] <;> omega) | fail)) only [Blk, heap_old, heap_at, heap_set_same, heap_set_ne, heap_drew', Option.map_some, putO_cells, A0]
            case measure => simp [intOf]; omega
          · have h3 : 0 < r.c := by omega
            go_wp2_with fail
            go_roundw
            case rel =>
              refine ⟨k + 1, by omega, by go_num, ?_, ?_, by go_grown⟩
              · rw [HS.out, joinStep, if_neg h1, if_pos h3]
                unfold Blk at A1; simp (disch := (first | omega | (simp only [World.size_alloc, World.size_setCell, World.size_drew] <;> omega) | fail)) only [Blk, heap_old, heap_at, heap_set_same, heap_set_ne, heap_drew', Option.map_some, putO_cells, A1]; simp; done
              · unfold Blk at A0; simp (disch := (first | omega | (simp only [World.size_alloc, World.size_setCell, World.size_drew] <;> omega) | fail)) only [Blk, heap_old, heap_at, heap_set_same, heap_set_ne, heap_drew', Option.map_some, putO_cells, A0]
            case measure => simp [intOf]; omega
      · obtain rfl : k = n := by omega
        have ht : l.take k = l := by rw [← HL.out]; exact List.take_length
        rw [ht] at c1
        go_wp2_with fail
        refine bodyPost_ret (v := (join l).val) (by simp [results, Tryd.results18, go_sem, c0, c1]; done) rfl ⟨rfl, ?_⟩
        go_grown
end Go.Proofs.YtkafcdgeboldgaaDoor
