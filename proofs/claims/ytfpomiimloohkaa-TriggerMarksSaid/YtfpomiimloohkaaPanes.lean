/- The kit's Panes: two lists of equal panes. -/
import Derived.Test.YtfpomiimloohkaaTrigE
set_option linter.unusedSimpArgs false
set_option linter.unusedVariables false
namespace Go.Proofs.Ytfpomiimloohkaa
open Go.RowKit Go.Kp

/-- A pane. -/
structure Pn where
  (key : ByteArray)
  (s e ki pa c su mi ma : Int)
abbrev Pn.cells (x : Pn) : List Value := [.string x.key, .int .i64 x.s, .int .i64 x.e, .int .i64 x.ki, .int .i64 x.pa, .int .i64 x.c, .int .i64 x.su, .int .i64 x.mi, .int .i64 x.ma]
theorem Pn.len (x : Pn) : x.cells.length = 9 := rfl

/-- The cells of a row of panes, by place. -/
theorem pn_cells {w : World} {b off : Nat} {l : List Pn} (hc : ∀ (j : Nat) u, (l.flatMap Pn.cells)[j]? = some u → w.cell? ⟨b, off + j, none⟩ = some u) : ∀ k x, l[k]? = some x → ∀ j, j < 9 → w.cell? ⟨b, off + (k * 9 + j), none⟩ = x.cells[j]? := fun k x hx j hj => by
  have h1 := flat_get Pn.cells 9 Pn.len l k j x hx hj
  have h2 : x.cells[j]? = some (x.cells[j]'(by simpa using hj)) := List.getElem?_eq_getElem _
  rw [h2] at h1 ⊢
  exact hc _ _ h1

set_option maxHeartbeats 1000000 in
theorem panes_any (a a' : Option Addr) (n cap cap' : Nat) (l : List Pn) (w : World) (hl : l.length = n) (hn : n ≤ 4611686018427387904) (hr : Rd w w.heap.size a (l.flatMap Pn.cells)) (hr' : Rd w w.heap.size a' (l.flatMap Pn.cells)) :
    Calls Try.prog 18 #[.slice a n cap, .slice a' n cap'] w (Ret (.bool true) w) := by
  obtain ⟨hnp⟩ : Nonempty (n ≤ 4611686018427387904) := ⟨hn⟩
  rcases Nat.eq_zero_or_pos n with hn0 | hn0
  · subst hn0
    obtain rfl : l = [] := List.eq_nil_of_length_eq_zero hl
    go_enter Try.func18, Try.ntmps18
    go_wp2
    go_rounds 1
    go_returns
    exact ⟨rfl, by go_grown⟩
  · have hne : l.flatMap Pn.cells ≠ [] := by
      intro h
      have := flat_length Pn.cells 9 Pn.len l
      rw [h] at this; simp at this; omega
    rcases hr with hr | ⟨b, off, rfl, hb, hc⟩
    · exact absurd hr hne
    rcases hr' with hr' | ⟨b', off', rfl, hb', hc'⟩
    · exact absurd hr' hne
    have HC := Lib.hid (pn_cells hc)
    have HC' := Lib.hid (pn_cells hc')
    have HL := Lib.hid hl
    clear hc hc' hl hne
    go_enter Try.func18, Try.ntmps18
    go_wp2
    go_loopw [5] (fun i wr => ∃ k : Nat, k ≤ n ∧ i = .int .i64 k ∧ Below w.heap.size w wr) (fun i _ => n - (intOf i).toNat)
    case atStart => exact ⟨0, Nat.zero_le _, rfl, by go_grown⟩
    case round =>
      obtain ⟨k, hk, rfl, hB⟩ := hrel
      rcases Nat.lt_or_ge k n with hlt | hge
      · obtain ⟨x, hx⟩ : ∃ x, l[k]? = some x := ⟨_, List.getElem?_eq_getElem (by rw [HL.out]; exact hlt)⟩
        have e := fun j hj => (hB.cell (p := ⟨b, off + (k * 9 + j), none⟩) hb).trans (HC.out k x hx j hj)
        have e' := fun j hj => (hB.cell (p := ⟨b', off' + (k * 9 + j), none⟩) hb').trans (HC'.out k x hx j hj)
        have e0 := e 0 (by omega)
        have e1 := e 1 (by omega)
        have e2 := e 2 (by omega)
        have e3 := e 3 (by omega)
        have e4 := e 4 (by omega)
        have e5 := e 5 (by omega)
        have e6 := e 6 (by omega)
        have e7 := e 7 (by omega)
        have e8 := e 8 (by omega)
        have g0 := e' 0 (by omega)
        have g1 := e' 1 (by omega)
        have g2 := e' 2 (by omega)
        have g3 := e' 3 (by omega)
        have g4 := e' 4 (by omega)
        have g5 := e' 5 (by omega)
        have g6 := e' 6 (by omega)
        have g7 := e' 7 (by omega)
        have g8 := e' 8 (by omega)
        clear e e' hx
        simp only [← Nat.add_assoc, Nat.add_zero, List.getElem?_cons_zero, List.getElem?_cons_succ] at e0 e1 e2 e3 e4 e5 e6 e7 e8 g0 g1 g2 g3 g4 g5 g6 g7 g8
        go_wp2_with fail
        (refine region_keep (fun _ => True) 8 [(0, true), (1, true), (2, true), (3, true), (4, true), (5, true), (6, true), (7, true)] (by kernel_rfl) (fun _ _ d _ _ h => by cases d <;> exact h) (by kernel_rfl) ?_; simp only [withOps, List.getElem?_toArray, List.getElem?_cons_zero, List.getElem?_cons_succ, List.drop_succ_cons, List.drop_zero])
        (repeat (refine keep_quiet (v := ?_) rfl ?_ ?_; rotate_left; (focus (intro w' hw'; go_simp; (try with_reducible rfl); done)); try simp only [Act.put, List.setIfInBounds_toArray, List.set_cons_zero, List.set_cons_succ]))
        refine plan_end ?_
        (try simp only [Act.put, List.setIfInBounds_toArray, List.set_cons_zero, List.set_cons_succ])
        go_wp2
        go_roundw
        case rel => exact ⟨k + 1, by omega, by go_num, by go_grown⟩
        case measure => simp [intOf]; omega
      · go_wp2
        go_returns
        exact ⟨rfl, by go_grown⟩
/-- A row that a call owns, as a slice that is read. -/
theorem rd_of_owns {w : World} {B : Nat} {e : TypeId} {v : Value} {n : Nat} {xs : List Value} (h : w.ownsRow B e 9 v n xs) : ∃ a cap, v = .slice a n cap ∧ Rd w w.heap.size a xs := by
  rcases Nat.eq_zero_or_pos n with h0 | h0
  · subst h0
    have hx : xs = [] := List.eq_nil_of_length_eq_zero (by have := h.1; simpa using this)
    rcases h.2 with ⟨hv, _⟩ | ⟨g, cap, cur, hv, _⟩
    · exact ⟨none, 0, hv, .inl hx⟩
    · exact ⟨some ⟨g, 0, none⟩, cap, hv, .inl hx⟩
  · obtain ⟨g, cap, rfl, h1, h2⟩ := h.form h0
    refine ⟨some ⟨g, 0, none⟩, cap, rfl, .inr ⟨g, 0, rfl, h2, fun j u hu => ?_⟩⟩
    have hj : j < n * 9 := by have := h.1; have := (List.getElem?_eq_some_iff.1 hu).1; omega
    rw [Nat.zero_add]
    exact (h.cellAt j hj).trans hu
end Go.Proofs.Ytfpomiimloohkaa
