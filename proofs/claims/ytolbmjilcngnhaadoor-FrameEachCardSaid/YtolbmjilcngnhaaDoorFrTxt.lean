/- A text among the arguments: how much room it has. -/
import Derived.Test.YtolbmjilcngnhaaDoorFrBlk
set_option linter.unusedSimpArgs false
set_option linter.unusedVariables false
namespace Go.Proofs.YtolbmjilcngnhaaDoor
open Go.ChangeShapes Go.WideShapes Go.ChangeAt Go.RowKit Go.Kp

theorem text_cap {H : Type} {enc : TypeId × Value → H} {w : World} {base : Nat} {spare : Nat → Bool} {held : Bool} {a : Option Addr} {n c : Nat} {d : DataW H} {p : List MemPlace} (h : DataW.Trod enc Tryd.prog w base spare held 22 (.slice a n c) d p) : c ≤ maxLen := by
  obtain ⟨f, hf⟩ := h
  have hc : Tryd.prog.cellsOf 5 = 1 := by kernel_rfl
  rcases open_ints Tryd.underlying22 Tryd.underlying5 hc hf with ⟨hcs, _⟩ | ⟨a', n', cap', zs, hcs, hnc, hl, hm, hz, hx, hcell, hwf⟩
  · simp [Value.cells] at hcs
    obtain ⟨_, _, rfl⟩ := hcs
    exact Nat.zero_le _
  · simp [Value.cells] at hcs
    obtain ⟨_, _, rfl⟩ := hcs
    exact hm
end Go.Proofs.YtolbmjilcngnhaaDoor
