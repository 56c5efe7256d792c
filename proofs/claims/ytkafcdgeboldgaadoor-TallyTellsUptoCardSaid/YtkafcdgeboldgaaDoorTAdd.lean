/- A value more to a tally, and tallies of values: the program's and the document's. -/
import Derived.Test.YtkafcdgeboldgaaDoorTally
set_option linter.unusedSimpArgs false
set_option linter.unusedVariables false
namespace Go.Proofs.YtkafcdgeboldgaaDoor
open Go.RowKit Go.Kp
attribute [local go_sem high] Kp.run_min2 Kp.run_max2

def more (n : Int) : Int := if 9007199254740992 ≤ n then 9007199254740992 else n + 1
theorem more_min (n : Int) : min n 9007199254740991 + 1 = more n := by unfold more; split <;> omega
theorem more_bd (n : Int) (h : -9223372036854775808 ≤ n) : -9223372036854775808 ≤ more n ∧ more n ≤ 9223372036854775807 := by unfold more; split <;> omega

def add (t : Tally) (v : Int) : Tally := if t.c < 1 then ⟨1, v, v, v⟩ else ⟨more t.c, wrap64 (t.su + v), min t.mi v, max t.ma v⟩
theorem add_join (t : Tally) (v : Int) : join [t, ⟨1, v, v, v⟩] = add t v := by
  unfold join add
  simp only [List.foldl_cons, List.foldl_nil]
  by_cases h : t.c < 1
  · simp [joinStep, h]; omega
  · have h2 : 0 < min t.c 9007199254740992 := by omega
    simp only [joinStep, h, if_false]
    simp only [show ¬ (1 : Int) < 1 by omega, if_false, show ¬ (0 : Int) < 0 by omega, if_pos h2]
    congr 1
    unfold more; split <;> omega

theorem add_any (t : Tally) (v : Int) (w : World) (ht : t.ok) (hv1 : -9223372036854775808 ≤ v) (hv2 : v ≤ 9223372036854775807) :
    Calls Tryd.prog 12 #[t.val, .int .i64 v] w (Ret (add t v).val w) := by
  have HJ := Lib.hid (add_join t v)
  have HT := Lib.hid ht
  clear ht
  go_enter Tryd.func12, Tryd.ntmps12
  go_wp2_with fail
  refine (join_any _ 2 2 [t, ⟨1, v, v, v⟩] _ rfl ?_ (by omega) (.inr ⟨_, _, rfl, ?_, ?_⟩)).mono ?_
  · intro x hx
    rcases List.mem_cons.1 hx with rfl | hx
    · exact HT.out
    · obtain rfl := List.mem_singleton.1 hx
      exact ⟨⟨by show _ ≤ (1 : Int); omega, by show (1 : Int) ≤ _; omega⟩, ⟨hv1, hv2⟩, ⟨hv1, hv2⟩, ⟨hv1, hv2⟩⟩
  · simp
  · intro j u hu
    rw [cell_of_row _ _ _ _ _ _ (heap_at (by simp))]
    simpa using hu
  rintro e w1 ⟨rfl, hb1⟩
  have hB : Below w.heap.size w w1 := bnext (by go_grown) hb1
  rw [HJ.out]
  obtain ⟨hc1, hf1⟩ := bcell hb1
  have hz : w.heap.size + 2 < w1.heap.size := by have := hb1.size; simp at this; omega
  have hz1 : w.heap.size + 1 < w1.heap.size := by omega
  go_wp2_with fail
  refine bodyPost_ret (v := (add t v).val) (by simp [results, Tryd.results12, go_sem, hc1]) rfl ⟨rfl, ?_⟩
  go_grown

theorem add_ok (t : Tally) (v : Int) (ht : t.ok) (h1 : -9223372036854775808 ≤ v) (h2 : v ≤ 9223372036854775807) : (add t v).ok := by
  obtain ⟨⟨a1, a2⟩, ⟨b1, b2⟩, ⟨c1, c2⟩, ⟨d1, d2⟩⟩ := ht
  unfold add Tally.ok
  split
  · simp only; omega
  · have := more_bd t.c a1
    simp only
    refine ⟨this, ?_, by omega, by omega⟩
    unfold wrap64; omega

theorem refAdd_any (t : Tally) (v : Int) (w : World) (ht : t.ok) (hv1 : -9223372036854775808 ≤ v) (hv2 : v ≤ 9223372036854775807) :
    Calls Tryd.prog 14 #[t.val, .int .i64 v] w (Ret (add t v).val w) := by
  obtain ⟨⟨c1, c2⟩, _⟩ := ht
  by_cases h : t.c < 1
  · have H := Lib.hid (show add t v = ⟨1, v, v, v⟩ from if_pos h)
    go_enter Tryd.func14, Tryd.ntmps14
    go_wp2
    refine bodyPost_ret (v := (add t v).val) (by simp [results, Tryd.results14, go_sem, H.out]) rfl ⟨rfl, ?_⟩
    go_grown
  · by_cases h2 : t.c < 9007199254740992
    · have H := Lib.hid (show add t v = ⟨t.c + 1, wrap64 (t.su + v), min t.mi v, max t.ma v⟩ by unfold add more; rw [if_neg h, if_neg (by omega)])
      go_enter Tryd.func14, Tryd.ntmps14
      go_wp2
      refine bodyPost_ret (v := (add t v).val) (by simp [results, Tryd.results14, go_sem, H.out]) rfl ⟨rfl, ?_⟩
      go_grown
    · have H := Lib.hid (show add t v = ⟨9007199254740992, wrap64 (t.su + v), min t.mi v, max t.ma v⟩ by unfold add more; rw [if_neg h, if_pos (by omega)])
      have h2' : 9007199254740992 ≤ t.c := by omega
      go_enter Tryd.func14, Tryd.ntmps14
      go_wp2
      refine bodyPost_ret (v := (add t v).val) (by simp [results, Tryd.results14, go_sem, H.out]) rfl ⟨rfl, ?_⟩
      go_grown
end Go.Proofs.YtkafcdgeboldgaaDoor
