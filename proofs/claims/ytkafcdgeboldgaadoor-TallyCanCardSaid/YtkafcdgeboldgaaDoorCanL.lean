/- TallyCan: the walk. -/
import Derived.Test.YtkafcdgeboldgaaDoorCanW
import Derived.Test.YtkafcdgeboldgaaDoorTWorks
set_option linter.unusedSimpArgs false
set_option linter.unusedVariables false
namespace Go.Proofs.YtkafcdgeboldgaaDoor
open Go.RowKit Go.Kp

set_option maxHeartbeats 2000000 in
theorem can_law (t : Tally) (w : World) (ht : t.ok) (hT : Tab w) : Calls Tryd.prog 5 #[t.val] w (Ret (.bool true) w) := by
  have HO := Lib.hid ht
  have HT := Lib.hid hT
  clear ht hT
  go_enter Tryd.func5, Tryd.ntmps5
  go_upto_region 1 with (fail)
  (refine wp_at (fun w1 => Blk w1 w.heap.size 24 t.cells.toArray ∧ Below w.heap.size w w1) ⟨heap_at rfl, by go_grown⟩ ?_)
  rintro w1 ⟨A, hB⟩
  have cA : ∀ j, w1.cell? ⟨w.heap.size, j, none⟩ = t.cells.toArray[j]? := fun j => A.cell j
  have lA := A.lt
  have T1 := Lib.hid (tab_below HT.out hB)
  go_wp2_with (go_in)
  (refine region_keep (fun b => b < w1.heap.size) 3 [(0, true), (2, true), (1, false)] (by kernel_rfl) (fun _ _ d _ _ h => by cases d <;> exact h) (by kernel_rfl) ?_; simp only [withOps, List.getElem?_toArray, List.getElem?_cons_zero, List.getElem?_cons_succ, List.drop_succ_cons, List.drop_zero])
  (iterate 2 (refine keep_quiet (v := ?_) rfl ?_ ?_; rotate_left; (focus (intro w' hw'; go_simp; (try with_reducible rfl); done)); try simp only [Act.put, List.setIfInBounds_toArray, List.set_cons_zero, List.set_cons_succ]))
  (with_reducible refine plan_loud (fun K hK => ?_))
  go_simp
  refine (can_any t _ HO.out (tab_below T1.out (by go_grown))).mono ?_
  rintro en w2 ⟨rfl, hb2⟩
  refine hK _ _ ((Keep.refl _ _).below hb2 (by intro x h; simpa using h)) ?_
  clear hK K
  (with_reducible refine plan_end ?_)
  (try simp only [Act.put, List.setIfInBounds_toArray, List.set_cons_zero, List.set_cons_succ])
  have hB2 : Below w1.heap.size w1 w2 := bnext (by go_grown) hb2
  clear hb2 cA
  obtain ⟨r, hr⟩ : ∃ r, canB t = r := ⟨_, rfl⟩
  rw [hr]
  go_wp2_with fail
  refine (refcan_any t _ HO.out).mono ?_
  rintro en w3 ⟨rfl, hb3⟩
  have hB3 : Below w1.heap.size w1 w3 := bnext hB2 hb3
  rw [hr]
  clear hb3 hr
  cases r with
  | true =>
    go_wp2_with fail
    refine (works_any _).mono ?_
    rintro en w4 ⟨rfl, hb⟩
    have hB4 : Below w1.heap.size w1 w4 := bnext hB3 (bnext (by go_grown) hb)
    go_wp2_with fail
    go_returns
    exact ⟨rfl, bnext hB hB4⟩
  | false =>
    go_wp2_with fail
    refine (works_any _).mono ?_
    rintro en w4 ⟨rfl, hb⟩
    have hB4 : Below w1.heap.size w1 w4 := bnext hB3 (bnext (by go_grown) hb)
    go_wp2_with fail
    go_returns
    exact ⟨rfl, bnext hB hB4⟩
end Go.Proofs.YtkafcdgeboldgaaDoor
