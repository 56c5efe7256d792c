/- Tallies: values put together, one by one; the program's Join and Add. -/
import Derived.Test.YtfpomiimloohkaaProg
import Derived.Test.YtfpomiimloohkaaPlan
import Derived.Test.YtfpomiimloohkaaBase
set_option linter.unusedSimpArgs false
set_option linter.unusedVariables false
namespace Go.Proofs.Ytfpomiimloohkaa
open Go.RowKit Go.Kp

attribute [local go_sem high] Kp.run_min2 Kp.run_max2

structure Tally where
  (c su mi ma : Int)
abbrev Tally.cells (t : Tally) : List Value := [.int .i64 t.c, .int .i64 t.su, .int .i64 t.mi, .int .i64 t.ma]
abbrev Tally.val (t : Tally) : Value := .agg #[.int .i64 t.c, .int .i64 t.su, .int .i64 t.mi, .int .i64 t.ma]
abbrev Tally.zero : Tally := ⟨0, 0, 0, 0⟩
def Tally.ok (t : Tally) : Prop := (-9223372036854775808 ≤ t.c ∧ t.c ≤ 9223372036854775807) ∧ (-9223372036854775808 ≤ t.su ∧ t.su ≤ 9223372036854775807) ∧ (-9223372036854775808 ≤ t.mi ∧ t.mi ≤ 9223372036854775807) ∧ (-9223372036854775808 ≤ t.ma ∧ t.ma ≤ 9223372036854775807)

/-- A tally more. -/
def joinStep (t x : Tally) : Tally :=
  if x.c < 1 then t
  else if 0 < t.c then ⟨min (t.c + min x.c 9007199254740992) 9007199254740992, wrap64 (t.su + x.su), min t.mi x.mi, max t.ma x.ma⟩
  else ⟨min x.c 9007199254740992, x.su, x.mi, x.ma⟩
def join (l : List Tally) : Tally := l.foldl joinStep Tally.zero

theorem join_snoc (l : List Tally) (k : Nat) (x : Tally) (h : l[k]? = some x) : join (l.take (k + 1)) = joinStep (join (l.take k)) x := by
  have hk : k < l.length := (List.getElem?_eq_some_iff.1 h).1
  have hx : l[k] = x := by simpa [List.getElem?_eq_getElem hk] using h
  rw [List.take_succ_eq_append_getElem hk, join, List.foldl_append, hx]; rfl
theorem joinStep_bd (t x : Tally) (h : 0 ≤ t.c ∧ t.c ≤ 9007199254740992) : 0 ≤ (joinStep t x).c ∧ (joinStep t x).c ≤ 9007199254740992 := by
  unfold joinStep
  split
  · exact h
  · split <;> simp only <;> omega
theorem join_bd (l : List Tally) : 0 ≤ (join l).c ∧ (join l).c ≤ 9007199254740992 := by
  have : ∀ (l : List Tally) (t : Tally), (0 ≤ t.c ∧ t.c ≤ 9007199254740992) → 0 ≤ (l.foldl joinStep t).c ∧ (l.foldl joinStep t).c ≤ 9007199254740992 := by
    intro l
    induction l with
    | nil => exact fun t h => h
    | cons x l ih => exact fun t h => ih _ (joinStep_bd t x h)
  exact this l _ ⟨by decide, by decide⟩
theorem Tally.len (t : Tally) : t.cells.length = 4 := rfl

set_option maxHeartbeats 1000000 in
theorem join_any (a : Option Addr) (n cap : Nat) (l : List Tally) (w : World) (hl : l.length = n) (hok : ∀ x ∈ l, x.ok) (hn : n ≤ 4611686018427387904) (hr : Rd w w.heap.size a (l.flatMap Tally.cells)) :
    Calls Try.prog 37 #[.slice a n cap] w (Ret (join l).val w) := by
  obtain ⟨hnp⟩ : Nonempty (n ≤ 4611686018427387904) := ⟨hn⟩
  rcases Nat.eq_zero_or_pos n with hn0 | hn0
  · subst hn0
    obtain rfl : l = [] := List.eq_nil_of_length_eq_zero hl
    go_enter Try.func37, Try.ntmps37
    go_wp2
    go_rounds 1
    go_returns
    exact ⟨rfl, by go_grown⟩
  · have hne : l.flatMap Tally.cells ≠ [] := by
      intro h
      have := flat_length Tally.cells 4 Tally.len l
      rw [h] at this; simp at this; omega
    rcases hr with hr | ⟨b, off, rfl, hb, hc⟩
    · exact absurd hr hne
    have hcell : ∀ k x, l[k]? = some x → ∀ j, j < 4 → w.cell? ⟨b, off + (k * 4 + j), none⟩ = x.cells[j]? := fun k x hx j hj => by
      have h1 := flat_get Tally.cells 4 Tally.len l k j x hx hj
      have h2 : x.cells[j]? = some (x.cells[j]'(by simpa using hj)) := List.getElem?_eq_getElem _
      rw [h2] at h1 ⊢
      exact hc _ _ h1
    clear hc hne
    have HC := Lib.hid hcell
    have HL := Lib.hid hl
    have HO := Lib.hid hok
    clear hcell hl hok
    go_enter Try.func37, Try.ntmps37
    go_wp2
    go_loopw [8] (fun i wr => ∃ k : Nat, k ≤ n ∧ i = .int .i64 k ∧ wr.heap[w.heap.size + 1]? = some (.cells (join (l.take k)).cells.toArray 28 (0, 0)) ∧
        wr.heap[w.heap.size]? = some (.cells Tally.zero.cells.toArray 28 (0, 0)) ∧ w.heap.size + 2 ≤ wr.heap.size ∧ Below w.heap.size w wr) (fun i _ => n - (intOf i).toNat)
    case atStart => exact ⟨0, Nat.zero_le _, rfl, heap_at (by simp), (heap_old (by simp)).trans (heap_at rfl), by simp, by go_grown⟩
    case round =>
      obtain ⟨k, hk, rfl, hT, hR, hs, hB⟩ := hrel
      have hs0 : w.heap.size < wr.heap.size := by omega
      have hs1 : w.heap.size + 1 < wr.heap.size := by omega
      have tT := fun j => cell_of_row wr _ j _ _ _ hT
      have fT := fun j => frozen_of_row wr _ j _ _ hT
      have tR := fun j => cell_of_row wr _ j _ _ _ hR
      have fR := fun j => frozen_of_row wr _ j _ _ hR
      have HT := Lib.hid hT
      have HR := Lib.hid hR
      clear hT hR
      rcases Nat.lt_or_ge k n with hlt | hge
      · obtain ⟨x, hx⟩ : ∃ x, l[k]? = some x := ⟨_, List.getElem?_eq_getElem (by rw [HL.out]; exact hlt)⟩
        have bd := join_bd (l.take k)
        obtain ⟨⟨x1, x2⟩, _⟩ := HO.out x (List.mem_of_getElem? hx)
        have HS := Lib.hid (join_snoc l k x hx)
        have e0 : wr.cell? ⟨b, off + k * 4, none⟩ = some (.int .i64 x.c) := (hB.cell (p := ⟨b, off + (k * 4 + 0), none⟩) hb).trans (HC.out k x hx 0 (by omega))
        have e1 : wr.cell? ⟨b, off + k * 4 + 1, none⟩ = some (.int .i64 x.su) := (hB.cell (p := ⟨b, off + (k * 4 + 1), none⟩) hb).trans (HC.out k x hx 1 (by omega))
        have e2 : wr.cell? ⟨b, off + k * 4 + 2, none⟩ = some (.int .i64 x.mi) := (hB.cell (p := ⟨b, off + (k * 4 + 2), none⟩) hb).trans (HC.out k x hx 2 (by omega))
        have e3 : wr.cell? ⟨b, off + k * 4 + 3, none⟩ = some (.int .i64 x.ma) := (hB.cell (p := ⟨b, off + (k * 4 + 3), none⟩) hb).trans (HC.out k x hx 3 (by omega))
        clear hx
        by_cases h1 : x.c < 1
        · go_wp2
          go_roundw
          case rel => exact ⟨k + 1, by omega, by go_num, by rw [HS.out, joinStep, if_pos h1]; exact (heap_old hs1).trans HT.out, (heap_old hs0).trans HR.out, by simp; omega, by go_grown⟩
          case measure => simp [intOf]; omega
        · by_cases h2 : 0 < (join (l.take k)).c
          · go_wp2
            go_roundw
            case rel =>
              refine ⟨k + 1, by omega, by go_num, ?_, ?_, by simp; omega, by go_grown⟩
              · simp (disch := (first | omega | (simp only [World.size_alloc, World.size_setCell, World.size_drew] <;> omega) | fail)) only [heap_old, heap_set_same, heap_drew', HT.out, Option.map_some, putO_cells]
                rw [HS.out, joinStep, if_neg h1]
                simp [h2]
              · simp (disch := (first | omega | (simp only [World.size_alloc, World.size_setCell, World.size_drew] <;> omega) | fail)) only [heap_old, heap_set_ne, heap_drew', HR.out]
            case measure => simp [intOf]; omega
          · go_wp2
            go_roundw
            case rel =>
              refine ⟨k + 1, by omega, by go_num, ?_, ?_, by simp; omega, by go_grown⟩
              · simp (disch := (first | omega | (simp only [World.size_alloc, World.size_setCell, World.size_drew] <;> omega) | fail)) only [heap_old, heap_set_same, heap_drew', HT.out, Option.map_some, putO_cells]
                rw [HS.out, joinStep, if_neg h1]
                simp [h2]
              · simp (disch := (first | omega | (simp only [World.size_alloc, World.size_setCell, World.size_drew] <;> omega) | fail)) only [heap_old, heap_set_ne, heap_drew', HR.out]
            case measure => simp [intOf]; omega
      · go_wp2
        obtain rfl : k = n := by omega
        refine bodyPost_ret (v := (join l).val) (by simp [results, Try.results37, go_sem, tR, HL.out.symm]) rfl ⟨rfl, ?_⟩
        go_grown
end Go.Proofs.Ytfpomiimloohkaa
