/- The kit's Ints: two lists of equal numbers; KeptInts: a list with its marks behind it. -/
import Derived.Test.YtkafcdgeboldgaaDoorTOf
set_option linter.unusedSimpArgs false
set_option linter.unusedVariables false
namespace Go.Proofs.YtkafcdgeboldgaaDoor
open Go.RowKit Go.Kp

theorem rd_num {w : World} {b off : Nat} {l : List Int} (hc : ∀ (j : Nat) u, (l.map (Value.int .i64))[j]? = some u → w.cell? ⟨b, off + j, none⟩ = some u) {k : Nat} {z : Int} (hz : l[k]? = some z) : w.cell? ⟨b, off + k, none⟩ = some (.int .i64 z) :=
  hc k _ (by rw [List.getElem?_map, hz]; rfl)

set_option maxHeartbeats 1000000 in
theorem ints_any (a a' : Option Addr) (n cap cap' : Nat) (l : List Int) (w : World) (hl : l.length = n) (hn : n ≤ 9223372036854775807) (hr : Rd w w.heap.size a (l.map (Value.int .i64))) (hr' : Rd w w.heap.size a' (l.map (Value.int .i64))) :
    Calls Tryd.prog 27 #[.slice a n cap, .slice a' n cap'] w (Ret (.bool true) w) := by
  obtain ⟨hnp⟩ : Nonempty (n ≤ 9223372036854775807) := ⟨hn⟩
  rcases Nat.eq_zero_or_pos n with hn0 | hn0
  · subst hn0
    go_enter Tryd.func27, Tryd.ntmps27
    go_wp2
    go_rounds 1
    go_returns
    exact ⟨rfl, by go_grown⟩
  · have hne : l.map (Value.int .i64) ≠ [] := by
      intro h
      rw [List.map_eq_nil_iff.1 h] at hl; simp at hl; omega
    rcases hr with hr | ⟨b, off, rfl, hb, hc⟩
    · exact absurd hr hne
    rcases hr' with hr' | ⟨b', off', rfl, hb', hc'⟩
    · exact absurd hr' hne
    have HC := Lib.hid hc
    have HC' := Lib.hid hc'
    have HL := Lib.hid hl
    clear hc hc' hl hne
    go_enter Tryd.func27, Tryd.ntmps27
    go_wp2
    go_loopw [5] (fun i wr => ∃ k : Nat, k ≤ n ∧ i = .int .i64 k ∧ Below w.heap.size w wr) (fun i _ => n - (intOf i).toNat)
    case atStart => exact ⟨0, Nat.zero_le _, rfl, by go_grown⟩
    case round =>
      obtain ⟨k, hk, rfl, hB⟩ := hrel
      rcases Nat.lt_or_ge k n with hlt | hge
      · obtain ⟨z, hz⟩ : ∃ z, l[k]? = some z := ⟨_, List.getElem?_eq_getElem (by rw [HL.out]; exact hlt)⟩
        have e := (hB.cell (p := ⟨b, off + k, none⟩) hb).trans (rd_num HC.out hz)
        have e' := (hB.cell (p := ⟨b', off' + k, none⟩) hb').trans (rd_num HC'.out hz)
        clear hz
        go_wp2_with fail
        (refine region_keep (fun _ => True) 8 [(0, true), (1, true), (2, true), (3, true), (4, true), (5, true), (6, true), (7, true)] (by kernel_rfl) (fun _ _ d _ _ h => by cases d <;> exact h) (by kernel_rfl) ?_; simp only [withOps, List.getElem?_toArray, List.getElem?_cons_zero, List.getElem?_cons_succ, List.drop_succ_cons, List.drop_zero])
        (repeat (refine keep_quiet (v := ?_) rfl ?_ ?_; rotate_left; (focus (intro w' hw'; go_simp; (try with_reducible rfl); done)); try simp only [Act.put, List.setIfInBounds_toArray, List.set_cons_zero, List.set_cons_succ]))
        (with_reducible refine plan_end ?_)
        (try simp only [Act.put, List.setIfInBounds_toArray, List.set_cons_zero, List.set_cons_succ])
        go_wp2
        go_roundw
        case rel => exact ⟨k + 1, by omega, by go_num, by go_grown⟩
        case measure => simp [intOf]; omega
      · go_wp2
        go_returns
        exact ⟨rfl, by go_grown⟩

/-- A list with the three marks behind it. -/
def marked (l : List Int) : List Int := l ++ [-7000, -7001, -7002]
theorem kept_any (g capm : Nat) (a : Option Addr) (n cap : Nat) (l : List Int) (w : World) (hl : l.length = n) (hn : n + 3 ≤ 9223372036854775807) (hcap : n + 3 ≤ capm) (hg : g < w.heap.size)
    (hm : ∀ (j : Nat) u, ((marked l).map (Value.int .i64))[j]? = some u → w.cell? ⟨g, j, none⟩ = some u) (hr : Rd w w.heap.size a (l.map (Value.int .i64))) :
    Calls Tryd.prog 15 #[.slice (some ⟨g, 0, none⟩) n capm, .slice a n cap] w (Ret (.bool true) w) := by
  have e0 : w.cell? ⟨g, n, none⟩ = some (.int .i64 (-7000)) := hm n _ (by simp [marked, ← hl])
  have e1 : w.cell? ⟨g, n + 1, none⟩ = some (.int .i64 (-7001)) := hm (n + 1) _ (by simp [marked, ← hl])
  have e2 : w.cell? ⟨g, n + 2, none⟩ = some (.int .i64 (-7002)) := hm (n + 2) _ (by simp [marked, ← hl])
  have hr2 : Rd w w.heap.size (some ⟨g, 0, none⟩) (l.map (Value.int .i64)) := .inr ⟨g, 0, rfl, hg, fun j u hu => by
    rw [Nat.zero_add]
    refine hm j u ?_
    rw [marked, List.map_append, List.getElem?_append_left (List.getElem?_eq_some_iff.1 hu).1]
    exact hu⟩
  have HR := Lib.hid hr
  have HR2 := Lib.hid hr2
  have E0 := Lib.hid e0
  have E1 := Lib.hid e1
  have E2 := Lib.hid e2
  have HL := Lib.hid hl
  clear hm hr hr2 e0 e1 e2 hl
  go_enter Tryd.func15, Tryd.ntmps15
  go_wp2_with fail
  refine (ints_any _ _ n _ _ l _ HL.out (by omega) HR2.out HR.out).mono ?_
  rintro en w1 ⟨rfl, hb⟩
  have hB : Below w.heap.size w w1 := bnext (by go_grown) hb
  have e0 := (hB.cell (p := ⟨g, n, none⟩) hg).trans E0.out
  have e1 := (hB.cell (p := ⟨g, n + 1, none⟩) hg).trans E1.out
  have e2 := (hB.cell (p := ⟨g, n + 2, none⟩) hg).trans E2.out
  clear hb
  go_wp2_with fail
  go_rounds 4
  go_returns
  exact ⟨rfl, by go_grown⟩
end Go.Proofs.YtkafcdgeboldgaaDoor
