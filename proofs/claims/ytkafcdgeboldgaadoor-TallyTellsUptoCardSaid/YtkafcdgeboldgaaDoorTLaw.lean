/- The table of bits and the arguments of this seat's laws. -/
import Derived.Test.YtkafcdgeboldgaaDoorTWorks
import Derived.Test.YtkafcdgeboldgaaDoorOpen
import Derived.Test.YtkafcdgeboldgaaDoorCards
import Derived.Test.YtkafcdgeboldgaaDoorTie
import Derived.WalkKit
import Derived.ProofKit
import Derived.OpenShut
import Derived.Deep.DeepHandedRow
import Derived.Lib.LaidTab
set_option linter.unusedSimpArgs false
set_option linter.unusedVariables false
namespace Go.Proofs.YtkafcdgeboldgaaDoor
open Go.ChangeShapes Go.WideShapes Go.ChangeAt Go.RowKit Go.Kp

theorem own : ownKnob Tryd.prog.godebug = none := by kernel_rfl
theorem laidOut : laidOutB Tryd.prog = true := by kernel_rfl
theorem gTab : Tryd.prog.globalNamed "math/bits.deBruijn64tab" = some 1 := by kernel_rfl
theorem gTabType : (Tryd.prog.globals[1]?).map (·.type) = some 55 := by kernel_rfl
theorem cells55 : Tryd.prog.cellsOf 55 = 64 := by kernel_rfl
theorem cells5 : Tryd.prog.cellsOf 5 = 1 := by kernel_rfl
def tabNums : List Int := [0, 1, 56, 2, 57, 49, 28, 3, 61, 58, 42, 50, 38, 29, 17, 4, 62, 47, 59, 36, 45, 43, 51, 22, 53, 39, 33, 30, 24, 18, 12, 5, 63, 55, 48, 27, 60, 41, 37, 16, 46, 35, 44, 21, 52, 32, 23, 11, 54, 26, 40, 15, 34, 20, 31, 10, 25, 14, 19, 9, 13, 8, 7, 6]
theorem table {W : World} (h : laidMetH Tryd.prog Rows.tallyMostRow.laid W) : Lib.TabIs Tryd.prog W "math/bits.deBruijn64tab" .u8 tabNums :=
  Lib.tabIs_of_head (rest := []) gTab gTabType Tryd.underlying55 Tryd.underlying5 cells5 cells55 h
theorem table0 {W : World} (h : laidMetH Tryd.prog Rows.tallyMostRow.laid W) : W.cell? ⟨1, 0, none⟩ = some (.int .u8 0) := (table h).cell gTab 0 (by decide)
theorem table1 {W : World} (h : laidMetH Tryd.prog Rows.tallyMostRow.laid W) : W.cell? ⟨1, 1, none⟩ = some (.int .u8 1) := (table h).cell gTab 1 (by decide)

/-- A world for the witness: the settled one, the table holding what its initialiser lays. -/
noncomputable def laidWorld (os : Os) : World :=
  { World.holding Tryd.prog os ⟨#[], #[], []⟩ with heap := (World.holding Tryd.prog os ⟨#[], #[], []⟩).heap.modify 1 fun
      | .cells _ t frozen => .cells #[.int .u8 0, .int .u8 1, .int .u8 56, .int .u8 2, .int .u8 57, .int .u8 49, .int .u8 28, .int .u8 3, .int .u8 61, .int .u8 58, .int .u8 42, .int .u8 50, .int .u8 38, .int .u8 29, .int .u8 17, .int .u8 4, .int .u8 62, .int .u8 47, .int .u8 59, .int .u8 36, .int .u8 45, .int .u8 43, .int .u8 51, .int .u8 22, .int .u8 53, .int .u8 39, .int .u8 33, .int .u8 30, .int .u8 24, .int .u8 18, .int .u8 12, .int .u8 5, .int .u8 63, .int .u8 55, .int .u8 48, .int .u8 27, .int .u8 60, .int .u8 41, .int .u8 37, .int .u8 16, .int .u8 46, .int .u8 35, .int .u8 44, .int .u8 21, .int .u8 52, .int .u8 32, .int .u8 23, .int .u8 11, .int .u8 54, .int .u8 26, .int .u8 40, .int .u8 15, .int .u8 34, .int .u8 20, .int .u8 31, .int .u8 10, .int .u8 25, .int .u8 14, .int .u8 19, .int .u8 9, .int .u8 13, .int .u8 8, .int .u8 7, .int .u8 6] t frozen
      | o => o }

theorem flat24 : flat Tryd.prog 4 24 = some [2, 2, 2, 2] := by kernel_rfl
theorem open_tally {H : Type} {enc : TypeId × Value → H} {w : World} {base b0 : Nat} {spare : Nat → Bool} {held : Bool} {r : Reach} {v : Value} {d : DataW H} {p : List MemPlace} (hv : Value.okWide Tryd.prog w r b0 24 v) (h : DataW.Trod enc Tryd.prog w base spare held 24 v d p) :
    ∃ t : Tally, v = t.val ∧ t.ok := by
  obtain ⟨cs, rfl, _⟩ := okWide_struct Tryd.underlying24 hv
  obtain ⟨f, hf⟩ := h
  have E := trod_flat laidOut 4 f 24 _ _ _ flat24 (of_decide_eq_true (by kernel_rfl)) hf
  obtain ⟨l⟩ := cs
  have hl : l.length = 4 := E.1
  match l, hl, E with
  | [a0, a1, a2, a3], _, E =>
    obtain ⟨n0, rfl, h0⟩ := E.int 0 rfl rfl Tryd.underlying2
    obtain ⟨n1, rfl, h1⟩ := E.int 1 rfl rfl Tryd.underlying2
    obtain ⟨n2, rfl, h2⟩ := E.int 2 rfl rfl Tryd.underlying2
    obtain ⟨n3, rfl, h3⟩ := E.int 3 rfl rfl Tryd.underlying2
    exact ⟨⟨n0, n1, n2, n3⟩, rfl, wf_i64 h0, wf_i64 h1, wf_i64 h2, wf_i64 h3⟩
end Go.Proofs.YtkafcdgeboldgaaDoor
