/- Store: some of the chapter's examples, by themselves. -/
import Derived.Test.YtchmlephgkimcaaStI
set_option linter.unusedSimpArgs false
set_option linter.unusedVariables false
namespace Go.Proofs.Ytchmlephgkimcaa.Wx
open Go.RowKit Go.Kp Go.St

theorem num_any (n : Int) (w : World) : Calls Try.prog 37 #[.int .i64 n] w fun e w' => e = .returned (.int .i64 n) ∧ w' = w := by
  go_enter Try.func37, Try.ntmps37
  go_wp2
  go_returns
  exact ⟨rfl, rfl⟩


theorem nil_nil (w : World) : (binOp .eql 72 .nilFunc .nilFunc).run Try.prog w = .ok (.bool true) w := by kernel_rfl
set_option maxRecDepth 100000 in
set_option maxHeartbeats 1000000 in
theorem newnil_any (w : World) : Calls Try.prog 30 #[.nilFunc] w fun e w' => e = .returned (.tuple #[.pointer none, .int .i64 1]) ∧ w' = w := by
  have hf := nil_nil
  go_enter Try.func30, Try.ntmps30
  go_wp2
  go_returns
  exact ⟨rfl, rfl⟩
def w1T : Tr := put pl 5 1 .nil
def w2T : Tr := put pl 1 2 w1T
def w3T : Tr := put pl 5 3 w2T
theorem w1L : w1T.toL = [(5, 1)] := by decide
theorem w2L : w2T.toL = [(1, 2), (5, 1)] := by decide
theorem w3L : w3T.toL = [(1, 2), (5, 3)] := by decide
theorem m1 : w1T.many = 1 := by decide
theorem m2 : w2T.many = 2 := by decide

set_option maxRecDepth 100000 in
set_option maxHeartbeats 8000000 in
theorem works_any (w : World) : Calls Try.prog 7 #[] w (Ret (.bool true) w) := by
  go_enter Try.func7, Try.ntmps7
  go_wp2_with fail
  refine (of_any w).mono ?_
  rintro en w1 ⟨g, rfl, hgs, hM, hb⟩
  have H1 := Lib.hid hM
  have HB1 := Lib.hid hb
  have HGS := Lib.hid hgs
  clear hM hb hgs
  go_wp2_with fail
  refine (Put_any H1.out 5 1 (by decide)).mono ?_
  rintro en w2 ⟨rfl, hM, hg⟩
  have H2 := Lib.hid (show MapAt _ _ _ _ w2 g w1T from hM)
  have G2 := Lib.hid hg
  clear hM hg
  rw [show getL pl 5 (T.nil : Tr).toL = none from rfl]
  simp only [Option.getD_none, Option.isSome_none]
  go_wp2_with fail
  refine (Put_any H2.out 1 2 (by rw [m1]; decide)).mono ?_
  rintro en w3 ⟨rfl, hM, hg⟩
  have H3 := Lib.hid (show MapAt _ _ _ _ w3 g w2T from hM)
  have G3 := Lib.hid hg
  clear hM hg
  rw [w1L, show getL pl 1 [((5 : Int), (1 : Int))] = none from by decide]
  simp only [Option.getD_none, Option.isSome_none]
  go_wp2_with fail
  refine (Put_any H3.out 5 3 (by rw [m2]; decide)).mono ?_
  rintro en w4 ⟨rfl, hM, hg⟩
  have H4 := Lib.hid (show MapAt _ _ _ _ w4 g w3T from hM)
  have G4 := Lib.hid hg
  clear hM hg
  rw [w2L, show getL pl 5 [((1 : Int), (2 : Int)), (5, 1)] = some 1 from by decide]
  simp only [Option.getD_some, Option.isSome_some]
  go_wp2_with fail
  refine (Place_any H4.out 5).mono ?_
  rintro en w5 ⟨rfl, hb⟩
  have H5 := Lib.hid (H4.out.below hb)
  have B5 := Lib.hid hb
  clear hb
  rw [w3L, show getL pl 5 [((1 : Int), (2 : Int)), (5, 3)] = some 3 from by decide, show placeL pl 5 [((1 : Int), (2 : Int)), (5, 3)] = 1 from by decide]
  simp only [Option.isSome_some]
  go_wp2_with fail
  refine (At_in H5.out 0 1 2 (by rw [w3L]; rfl)).mono ?_
  rintro en w6 ⟨rfl, hb⟩
  have H6 := Lib.hid (H5.out.below hb)
  have B6 := Lib.hid hb
  clear hb
  go_wp2_with fail
  refine (Take_any H6.out 1).mono ?_
  rintro en w7 ⟨rfl, hM, hg⟩
  have hm7 : (takeT pl 1 w3T).many = 1 := by decide
  have H7 := Lib.hid hM
  have G7 := Lib.hid hg
  have HM7 := Lib.hid hm7
  clear hM hg hm7
  rw [w3L, show getL pl 1 [((1 : Int), (2 : Int)), (5, 3)] = some 2 from by decide]
  simp only [Option.getD_some, Option.isSome_some]
  go_wp2_with fail
  refine (newnil_any w7).mono ?_
  rintro en w_ ⟨rfl, hw_⟩
  obtain rfl : w7 = w_ := hw_.symm
  go_wp2_with fail
  refine (num_any 0 w7).mono ?_
  rintro en w_ ⟨rfl, hw_⟩
  obtain rfl : w7 = w_ := hw_.symm
  go_wp2_with fail
  refine (Len_any H7.out).mono ?_
  rintro en w_ ⟨rfl, hw_⟩
  obtain rfl : w7 = w_ := hw_.symm
  rw [HM7.out]
  go_wp2_with fail
  refine (num_any 1 w7).mono ?_
  rintro en w_ ⟨rfl, hw_⟩
  obtain rfl : w7 = w_ := hw_.symm
  go_wp2_with fail
  have hs1 := HB1.out.size
  have R : ∀ {a b : World}, a.grownBy b (some g) → w.heap.size ≤ a.heap.size → Below w.heap.size w a → Below w.heap.size w b := fun h h1 h2 => h2.grown h h1 (fun k hk => by injection hk with hk; subst hk; exact HGS.out)
  have b2 := R G2.out HB1.out.size HB1.out
  have b3 := R G3.out b2.size b2
  have b4 := R G4.out b3.size b3
  have b5 := bnext b4 B5.out
  have b6 := bnext b5 B6.out
  have b7 := R G7.out b6.size b6
  go_returns
  exact ⟨rfl, b7⟩
end Go.Proofs.Ytchmlephgkimcaa.Wx
