/- Store: nothing: a map that is none. -/
import Derived.Test.YtchmlephgkimcaaSuE
set_option linter.unusedSimpArgs false
set_option linter.unusedVariables false
namespace Go.Proofs.Ytchmlephgkimcaa
open Go.RowKit Go.Kp Go.St

set_option maxRecDepth 100000 in
set_option maxHeartbeats 8000000 in
theorem nothing_any {w : World} {m : Option Addr} (h : NoMap w m) : Calls Try.prog 29 #[.pointer m] w (Ret (.bool true) w) := by
  have H := Lib.hid h
  clear h
  go_enter Try.func29, Try.ntmps29
  go_wp2_with fail
  refine (Put0_any H.out 1 2).mono ?_
  rintro en w_ ⟨rfl, hw_⟩
  obtain rfl : w = w_ := hw_.symm
  go_wp2_with fail
  refine (Get0_any H.out 1).mono ?_
  rintro en w_ ⟨rfl, hw_⟩
  obtain rfl : w = w_ := hw_.symm
  go_wp2_with fail
  refine (Take0_any H.out 1).mono ?_
  rintro en w_ ⟨rfl, hw_⟩
  obtain rfl : w = w_ := hw_.symm
  go_wp2_with fail
  refine (Place0_any H.out 1).mono ?_
  rintro en w_ ⟨rfl, hw_⟩
  obtain rfl : w = w_ := hw_.symm
  go_wp2_with fail
  refine (At0_any H.out).mono ?_
  rintro en w_ ⟨rfl, hw_⟩
  obtain rfl : w = w_ := hw_.symm
  go_wp2_with fail
  refine (num_any 1 w).mono ?_
  rintro en w_ ⟨rfl, hw_⟩
  obtain rfl : w = w_ := hw_.symm
  go_wp2_with fail
  refine (Len0_any H.out).mono ?_
  rintro en w_ ⟨rfl, hw_⟩
  obtain rfl : w = w_ := hw_.symm
  go_wp2_with fail
  refine (All0_any m w H.out).mono ?_
  rintro en w1 ⟨v1, rfl, hW, hb⟩
  have HB1 := Lib.hid hb
  have HW := Lib.hid hW
  clear hW hb
  go_wp2_with fail
  refine (lwalk0_any HW.out).mono ?_
  rintro en w2 ⟨rfl, hb⟩
  have HB2 := Lib.hid (bnext HB1.out hb)
  clear hb HW
  go_wp2_with fail
  refine (From0_any m 1 w2 (H.out.below HB2.out)).mono ?_
  rintro en w3 ⟨v3, rfl, hW, hb⟩
  have HB3 := Lib.hid (bnext HB2.out hb)
  have HW := Lib.hid hW
  clear hW hb
  go_wp2_with fail
  refine (lwalk0_any HW.out).mono ?_
  rintro en w4 ⟨rfl, hb⟩
  have HB4 := Lib.hid (bnext HB3.out hb)
  clear hb HW
  go_wp2_with fail
  refine (Back0_any m 1 w4 (H.out.below HB4.out)).mono ?_
  rintro en w5 ⟨v5, rfl, hW, hb⟩
  have HB5 := Lib.hid (bnext HB4.out hb)
  have HW := Lib.hid hW
  clear hW hb
  go_wp2_with fail
  refine (lwalk0_any HW.out).mono ?_
  rintro en w6 ⟨rfl, hb⟩
  have HB6 := Lib.hid (bnext HB5.out hb)
  clear hb HW
  go_wp2_with fail
  refine (Copy0_any (H.out.below HB6.out)).mono ?_
  rintro en w_ ⟨rfl, hw_⟩
  obtain rfl : w6 = w_ := hw_.symm
  go_wp2_with fail
  go_returns
  exact ⟨rfl, HB6.out⟩
end Go.Proofs.Ytchmlephgkimcaa
