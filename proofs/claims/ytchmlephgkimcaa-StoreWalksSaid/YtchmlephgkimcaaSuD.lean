/- Store: maps that are none: the answers of each call. -/
import Derived.Test.YtchmlephgkimcaaSuC
set_option linter.unusedSimpArgs false
set_option linter.unusedVariables false
namespace Go.Proofs.Ytchmlephgkimcaa
open Go.RowKit Go.Kp Go.St

/-- A map that is none: nil, or one without an order. -/
def NoMap (w : World) (m : Option Addr) : Prop := m = none ∨ ∃ g, m = some ⟨g, 0, none⟩ ∧ Blk w g 75 #[.nilFunc, .pointer none]
theorem NoMap.below {w w' : World} {m : Option Addr} (h : NoMap w m) (hb : Below w.heap.size w w') : NoMap w' m := by
  rcases h with h | ⟨g, h1, h2⟩
  · exact .inl h
  · exact .inr ⟨g, h1, h2.below hb⟩
section
variable {w : World} {m : Option Addr}
theorem none0_any (h : NoMap w m) : Calls Try.prog 40 #[.pointer m] w fun e w' => e = .returned (.bool true) ∧ w' = w := by
  have hf := nil_nil
  rcases h with rfl | ⟨g, rfl, hB⟩
  · go_enter Try.func40, Try.ntmps40
    go_wp2
    go_returns
    exact ⟨rfl, rfl⟩
  · have c := hB.cell 0
    clear hB
    go_enter Try.func40, Try.ntmps40
    go_wp2
    go_returns
    exact ⟨rfl, rfl⟩
set_option maxHeartbeats 1000000 in
theorem Get0_any (h : NoMap w m) (key : Int) : Calls Try.prog 39 #[.pointer m, .int .i64 key] w fun e w' => e = .returned (.tuple #[.int .i64 0, .bool false]) ∧ w' = w := by
  have H := Lib.hid h
  clear h
  go_enter Try.func39, Try.ntmps39
  go_wp2_with fail
  refine (none0_any H.out).mono ?_
  rintro en w_ ⟨rfl, hw_⟩
  obtain rfl : w = w_ := hw_.symm
  go_wp2_with fail
  go_returns
  exact ⟨rfl, rfl⟩
set_option maxHeartbeats 1000000 in
theorem Put0_any (h : NoMap w m) (key val : Int) : Calls Try.prog 8 #[.pointer m, .int .i64 key, .int .i64 val] w fun e w' => e = .returned (.tuple #[.int .i64 0, .bool false, .int .i64 1]) ∧ w' = w := by
  have H := Lib.hid h
  clear h
  go_enter Try.func8, Try.ntmps8
  go_wp2_with fail
  refine (Get0_any H.out key).mono ?_
  rintro en w_ ⟨rfl, hw_⟩
  obtain rfl : w = w_ := hw_.symm
  go_wp2_with fail
  refine (none0_any H.out).mono ?_
  rintro en w_ ⟨rfl, hw_⟩
  obtain rfl : w = w_ := hw_.symm
  go_wp2_with fail
  go_returns
  exact ⟨rfl, rfl⟩
set_option maxHeartbeats 1000000 in
theorem Take0_any (h : NoMap w m) (key : Int) : Calls Try.prog 36 #[.pointer m, .int .i64 key] w fun e w' => e = .returned (.tuple #[.int .i64 0, .bool false]) ∧ w' = w := by
  have H := Lib.hid h
  clear h
  go_enter Try.func36, Try.ntmps36
  go_wp2_with fail
  refine (Get0_any H.out key).mono ?_
  rintro en w_ ⟨rfl, hw_⟩
  obtain rfl : w = w_ := hw_.symm
  go_wp2_with fail
  go_returns
  exact ⟨rfl, rfl⟩
set_option maxHeartbeats 1000000 in
theorem Place0_any (h : NoMap w m) (key : Int) : Calls Try.prog 34 #[.pointer m, .int .i64 key] w fun e w' => e = .returned (.tuple #[.int .i64 0, .bool false]) ∧ w' = w := by
  have H := Lib.hid h
  clear h
  go_enter Try.func34, Try.ntmps34
  go_wp2_with fail
  refine (none0_any H.out).mono ?_
  rintro en w_ ⟨rfl, hw_⟩
  obtain rfl : w = w_ := hw_.symm
  go_wp2_with fail
  go_returns
  exact ⟨rfl, rfl⟩
set_option maxHeartbeats 1000000 in
theorem Len0_any (h : NoMap w m) : Calls Try.prog 38 #[.pointer m] w fun e w' => e = .returned (.int .i64 0) ∧ w' = w := by
  have H := Lib.hid h
  clear h
  go_enter Try.func38, Try.ntmps38
  go_wp2_with fail
  refine (none0_any H.out).mono ?_
  rintro en w_ ⟨rfl, hw_⟩
  obtain rfl : w = w_ := hw_.symm
  go_wp2_with fail
  go_returns
  exact ⟨rfl, rfl⟩
set_option maxHeartbeats 1000000 in
theorem At0_any (h : NoMap w m) : Calls Try.prog 35 #[.pointer m, .int .i64 0] w fun e w' => e = .returned (.tuple #[.int .i64 0, .int .i64 0, .bool false]) ∧ w' = w := by
  have H := Lib.hid h
  clear h
  go_enter Try.func35, Try.ntmps35
  go_wp2_with fail
  refine (Len0_any H.out).mono ?_
  rintro en w_ ⟨rfl, hw_⟩
  obtain rfl : w = w_ := hw_.symm
  go_wp2_with fail
  go_returns
  exact ⟨rfl, rfl⟩
set_option maxHeartbeats 1000000 in
theorem Copy0_any (h : NoMap w m) : Calls Try.prog 27 #[.pointer m] w fun e w' => e = .returned (.pointer none) ∧ w' = w := by
  have H := Lib.hid h
  clear h
  go_enter Try.func27, Try.ntmps27
  go_wp2_with fail
  refine (none0_any H.out).mono ?_
  rintro en w_ ⟨rfl, hw_⟩
  obtain rfl : w = w_ := hw_.symm
  go_wp2_with fail
  go_returns
  exact ⟨rfl, rfl⟩
end
end Go.Proofs.Ytchmlephgkimcaa
