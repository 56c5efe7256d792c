/- Tell, the program's and the reference's. -/
import Derived.Test.YtfpomiimloohkaaTrigC
set_option linter.unusedSimpArgs false
set_option linter.unusedVariables false
namespace Go.Proofs.Ytfpomiimloohkaa
open Go.RowKit Go.Kp

abbrev Win.zero : Win := ⟨0, 0, 0, 0, 0, 0, 0, 0, 0⟩
abbrev noPane : List Value := paneOf .empty Win.zero 0

theorem Told.facts {g : Nat} {key : ByteArray} {x : Win} {kind : Int} {di : Bool} {w w' : World} (h : Told g key x kind di w w') :
    ∃ p cap, w'.heap[g]? = some (.cells ((told x di).blk (Value.slice (some ⟨p, 0, none⟩) 1 cap)) 65 (0, 0)) ∧ w.heap.size ≤ p ∧ p < w'.heap.size ∧ 1 ≤ cap ∧ w'.ownsRow w.heap.size 37 9 (.slice (some ⟨p, 0, none⟩) 1 cap) 1 (paneOf key x kind) ∧ w.grownBy w' (some g) := by
  obtain ⟨v, h1, h2, h3⟩ := h
  obtain ⟨p, cap, hv, h4, h5⟩ := h2.form (by omega)
  subst hv
  have := h2.lt p rfl
  refine ⟨p, cap, h1, this.1, this.2, ?_, h2, h3⟩
  rcases h2.2 with ⟨h, _⟩ | ⟨_, _, _, h, _, _, hc, _⟩
  · cases h
  · cases h; exact hc

theorem tell_bad (key : ByteArray) (x : Win) (kind : Int) (di : Bool) (w : World) (hk : kind < 1 ∨ 3 < kind) :
    Calls Try.prog 12 #[.string key, x.val, .int .i64 kind, .bool di] w (Ret (.tuple #[.agg noPane.toArray, Win.zero.val, .int .i64 2]) w) := by
  rcases hk with hk | hk
  · go_enter Try.func12, Try.ntmps12
    go_wp2
    go_returns
    exact ⟨rfl, by go_grown⟩
  · have hk' : ¬ kind < 1 := by omega
    go_enter Try.func12, Try.ntmps12
    go_wp2
    go_returns
    exact ⟨rfl, by go_grown⟩

set_option maxHeartbeats 1000000 in
theorem tell_good (key : ByteArray) (x : Win) (kind : Int) (di : Bool) (w : World) (hk1 : 1 ≤ kind) (hk2 : kind ≤ 3) (hx : x.ok) :
    Calls Try.prog 12 #[.string key, x.val, .int .i64 kind, .bool di] w (Ret (.tuple #[.agg (paneOf key x kind).toArray, (told x di).val, .int .i64 0]) w) := by
  have hx' := Lib.hid hx
  clear hx
  go_enter Try.func12, Try.ntmps12
  go_wp2_with fail
  refine (tell_any _ _ _ _ _ _ hx'.out (heap_at (by simp))).mono ?_
  rintro e w1 ⟨rfl, ht⟩
  obtain ⟨p, cap, hg, hp1, hp2, hcap, hown, hgr⟩ := ht.facts
  clear ht
  have hz : w.heap.size + 4 ≤ w1.heap.size := by have := hgr.size; simp at this; omega
  have hp : w.heap.size + 4 ≤ p := by simp at hp1; omega
  have hB : Below w.heap.size w w1 := (Below.refl _ _ |>.alloc (Nat.le_refl _) _ |>.alloc (by simp) _ |>.alloc (by simp; omega) _ |>.alloc (by simp; omega) _).grown hgr (by simp; omega) (fun k hk => by cases hk; omega)
  have cg : ∀ j, w1.cell? ⟨w.heap.size + 1 + 1 + 1, j, none⟩ = ((told x di).blk (Value.slice (some ⟨p, 0, none⟩) 1 cap))[j]? := fun j => cell_of_row _ _ _ _ _ _ hg
  have cp : ∀ j, j < 9 → w1.cell? ⟨p, j, none⟩ = (paneOf key x kind)[j]? := fun j hj => hown.cellAt j (by omega)
  unfold paneOf at cp
  have b8 : w1.heap[w.heap.size + 1]? = some (.cells #[.string .empty, .int .i64 0, .int .i64 0, .int .i64 0, .int .i64 0, .int .i64 0, .int .i64 0, .int .i64 0, .int .i64 0] 37 (0, 0)) := (hgr.block _ (by simp) (by simp)).trans ((heap_old (by simp)).trans ((heap_old (by simp)).trans (heap_at (by simp))))
  have b9 : w1.heap[w.heap.size + 1 + 1]? = some (.cells Win.zero.cells 30 (0, 0)) := (hgr.block _ (by simp) (by simp)).trans ((heap_old (by simp)).trans (heap_at (by simp)))
  have cr8 := fun j => cell_of_row w1 _ j _ _ _ b8
  have cr9 := fun j => cell_of_row w1 _ j _ _ _ b9
  have fr8 := fun j => frozen_of_row w1 _ j _ _ b8
  have fr9 := fun j => frozen_of_row w1 _ j _ _ b9
  go_wp2_with fail
  refine region_keep (fun b => b = w.heap.size + 1 + 1 + 1 ∨ b = p) 7 [(0, true), (1, true), (2, true), (3, true), (4, true), (5, true), (6, false)] (by kernel_rfl) (fun _ _ d _ _ h => by cases d <;> exact h) (by kernel_rfl) ?_
  simp only [withOps, List.getElem?_toArray, List.getElem?_cons_zero, List.getElem?_cons_succ, List.drop_succ_cons, List.drop_zero]
  repeat (refine keep_quiet (v := ?_) rfl ?_ ?_; rotate_left; (focus (intro w' hw'; go_simp; (try with_reducible rfl); done)); try simp only [Act.put, List.setIfInBounds_toArray, List.set_cons_zero, List.set_cons_succ])
  refine plan_loud (fun K hK => ?_)
  go_simp
  refine hK _ _ ?_ ?_
  · repeat' (first | (with_reducible exact Keep.refl _ _) | (with_reducible refine Keep.drew ?_) | (with_reducible refine Keep.of_drew ?_) | (with_reducible refine Keep.alloc ?_ ?_ _) | (with_reducible refine Keep.setCell ?_ ?_ _) | (simp; omega) | (simp; done) | omega)
  clear hK K
  refine plan_end ?_
  try simp only [Act.put, List.setIfInBounds_toArray, List.set_cons_zero, List.set_cons_succ]
  go_wp2_with fail
  refine bodyPost_ret (v := .tuple #[.agg (paneOf key x kind).toArray, (told x di).val, .int .i64 0]) (by simp [results, Try.results12, go_sem, cr8, cr9, paneOf]) rfl ⟨rfl, ?_⟩
  go_grown

end Go.Proofs.Ytfpomiimloohkaa
