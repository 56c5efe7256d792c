/- known: a frame of two bytes is put and read. -/
import Derived.Test.YtolbmjilcngnhaaDoorFrH
set_option linter.unusedSimpArgs false
set_option linter.unusedVariables false
namespace Go.Proofs.YtolbmjilcngnhaaDoor
open Go.RowKit Go.Kp

/-- The frame of two bytes, and one more behind it. -/
theorem known_look : Frm.look (Frm.frame 7 [1, 2] ++ [9]) = (2, 4, 0) := by decide +kernel
theorem known_len : (Frm.frame 7 [1, 2]).length = 8 := by decide +kernel
theorem known_nine : ∃ r, Frm.frame 7 [1, 2] ++ [9] = 7 :: r ∧ ((7 :: r).drop 2).take 2 = [1, 2] := ⟨_, rfl, by decide +kernel⟩

set_option maxHeartbeats 2000000 in
theorem known_any (w : World) (hT : Tab w) : Calls Tryd.prog 13 #[] w (Ret (.bool true) w) := by
  have HT := Lib.hid hT
  clear hT
  go_enter Tryd.func13, Tryd.ntmps13
  go_wp2_with fail
  refine (Put_any 7 (some ⟨w.heap.size, 0, none⟩) 2 2 [1, 2] _ (HT.out.next (by go_grown)) rfl (by omega) (fun h => by cases h) (.inr ⟨w.heap.size, 0, rfl, by simp, fun j u hu => ?_⟩)).mono ?_
  · rw [cell_of_row _ _ _ _ _ _ (heap_at rfl), Nat.zero_add]
    rw [show [(1 : UInt8), 2].map B8 = [Value.int .u8 1, .int .u8 2] from rfl] at hu
    simpa using hu
  rintro en w1 ⟨v1, rfl, ho1, hb1⟩
  have hB1 : Below w.heap.size w w1 := bnext (by go_grown) hb1
  have s1 := hB1.size
  clear hb1
  rw [known_len] at ho1
  obtain ⟨a1, c1, rfl, _, _, _, k4, k5⟩ := own_rd ho1
  have K4 := Lib.hid k4
  have K5 := Lib.hid k5
  clear k4 k5 ho1
  go_upto_region 2 with (fail)
  apply wp_region_lit
  iterate 1 (go_step; go_step; rename_i KK hKK; (with_reducible refine hKK _ _ ?_); clear hKK KK)
  (with_reducible refine append_own (w0 := w1) ?_ (.const (.slice none 0 0)) (.tmp 12) ?_ w.heap.size (.slice none 0 0) (.slice none 0 0) 0 [] ?_ (World.ownsRow_nil _ _ _ _) a1 8 c1 (Frm.frame 7 [1, 2]) ?_ K4.out known_len K5.out ?_ s1 (Own.of_below (Below.refl _ _) s1) ?_)
  · rfl
  · rfl
  · rfl
  · rfl
  · omega
  intro v2 w2 ho2 hg2
  rw [Nat.zero_add, List.nil_append] at ho2
  have HO2 := Lib.hid ho2
  have hB2 := hB1.trans hg2.1
  have s2 := hB2.size
  clear ho2
  iterate 1 (go_step; go_step; rename_i KK hKK; (with_reducible refine hKK _ _ ?_); clear hKK KK)
  (with_reducible refine append_own (w0 := w2) ?_ (.tmp 13) (.tmp 14) ?_ w.heap.size v2 v2 8 (Frm.frame 7 [1, 2]) ?_ (HO2.out.alloc _) (some ⟨w2.heap.size, 0, none⟩) 1 1 [9] ?_ (fun h => by cases h) rfl (one_rd _ _ rfl) ?_ s2 (Own.of_below (by go_grown) s2) ?_)
  · rfl
  · rfl
  · rfl
  · rfl
  · omega
  intro v3 w3 ho3 hg3
  have hB3 := hB2.trans hg3.1
  have s3 := hB3.size
  clear HO2
  obtain ⟨a3, c3, rfl, _, k2, k3, k4, k5⟩ := own_rd ho3
  obtain ⟨r, hr1, hr2⟩ := known_nine
  have HK := Lib.hid k5
  have HK2 := Lib.hid k2
  have HK3 := Lib.hid k3
  have HR1 := Lib.hid hr1
  have HR2 := Lib.hid hr2
  clear k5 k4 k2 k3 ho3 hr1 hr2 hg2 hg3
  go_step
  go_step
  refine (Read_ok a3 9 c3 7 r 2 4 _ (HT.out.below hB3 HT.out.1) (by rw [← HR1.out]; simp [known_len]) (by omega) HK2.out HK3.out (by rw [← HR1.out]; exact HK.out) (by rw [← HR1.out]; exact known_look)).mono ?_
  rintro en w4 ⟨v4, rfl, ho4, hb4⟩
  dsimp only
  rename_i KK hKK
  (with_reducible refine hKK _ _ ?_)
  clear hKK KK
  have hB4 := bnext hB3 hb4
  rw [HR2.out] at ho4
  obtain ⟨a4, c4, rfl, _, _, _, _, k5⟩ := own_rd ho4
  have HK4 := Lib.hid k5
  clear k5 ho4 HK HR1 HR2 HK2 HK3 K4 K5
  go_upto_region 3 with (fail)
  (refine wp_at (fun wc => Blk wc w4.heap.size 35 #[.int .u8 7, .slice a4 2 c4] ∧ Rd wc wc.heap.size a4 ([1, 2].map B8) ∧ Below w.heap.size w wc) ⟨heap_at rfl, (HK4.out.below (by go_grown)).more (by simp), bnext hB4 (by go_grown)⟩ ?_)
  rintro wc ⟨A, hr, hBc⟩
  have hcv : (convert 22 9 (.slice a4 2 c4)).run Tryd.prog wc = .ok (.string ⟨#[1, 2]⟩) wc := conv_rd a4 2 c4 [1, 2] rfl wc _ hr
  have cA : ∀ j, wc.cell? ⟨w4.heap.size, j, none⟩ = _ := A.cell
  clear hr A HK4 hb4 hB4
  go_wp2_with fail
  refine (size_any 2 _ (by omega)).mono ?_
  rintro en w5 ⟨rfl, hb5⟩
  rw [show 1 + (Frm.numB 2).length + 2 + 4 = 8 by decide +kernel]
  have hB5 := bnext hBc hb5
  go_wp2_with fail
  go_returns
  exact ⟨rfl, hB5⟩
end Go.Proofs.YtolbmjilcngnhaaDoor
