/-
  DERIVED. GIVEN WITH THE SEED: THE CARDS: each row of YtolbmjilcngnhaaDoorRows.lean that lists a variable, with what it lists TIED to the program's text (the seventh form; the later family's looks); each row that meets fmt, with fmt's text TOLD by the authors' own Lean function (tested against real Go, not proved from fmt's source: count such statements apart). THE CARD IS WHAT COUNTS. Prove the row's statement (the work); the ties are given (YtolbmjilcngnhaaDoorTie.lean); close each card by the builder's one call (the guide's Derived/Test/ToyasCard.lean, 'card_holds'). Laid BY PROGRAM, IN A SANDBOX (cutbox-door.mjs). By AI agents, Wed Nov 11 2026. No macro, syntax, notation, axiom, sorry.
-/
import Derived.Test.YtolbmjilcngnhaaDoorRows
import GoSem.ClaimSeven
namespace Go.Proofs.YtolbmjilcngnhaaDoor
namespace Rows

/-- THE TIED CARD OF 'keepsakelaw03.FramePuts'. -/
def framePutsCard : Claim7 := { stood := { row := framePutsRow, standIns := [], harness := (true, "751b3eb5f9bab47f69e3ac8508a01ad1bc16e29ede61ef0ca6849b97b95663ef"), looks := false }, kinds := [], alts := [], laidByText := true, laidKinds := [.data], laidTests := true, laidLooks := .later }
def FramePutsCardSaid : Prop := Claim7.holds Tryd.pinned (.plain (OpenSpec.ofChange framePutsSpec)) framePutsCard

/-- THE TIED CARD OF 'keepsakelaw03.FrameSpoilt'. -/
def frameSpoiltCard : Claim7 := { stood := { row := frameSpoiltRow, standIns := [], harness := (true, "751b3eb5f9bab47f69e3ac8508a01ad1bc16e29ede61ef0ca6849b97b95663ef"), looks := false }, kinds := [], alts := [], laidByText := true, laidKinds := [.data], laidTests := true, laidLooks := .later }
def FrameSpoiltCardSaid : Prop := Claim7.holds Tryd.pinned (.plain (OpenSpec.ofChange frameSpoiltSpec)) frameSpoiltCard

/-- THE TIED CARD OF 'keepsakelaw03.FrameReads'. -/
def frameReadsCard : Claim7 := { stood := { row := frameReadsRow, standIns := [], harness := (true, "751b3eb5f9bab47f69e3ac8508a01ad1bc16e29ede61ef0ca6849b97b95663ef"), looks := false }, kinds := [], alts := [], laidByText := true, laidKinds := [.data], laidTests := true, laidLooks := .later }
def FrameReadsCardSaid : Prop := Claim7.holds Tryd.pinned (.plain (OpenSpec.ofChange frameReadsSpec)) frameReadsCard

/-- THE TIED CARD OF 'keepsakelaw03.FrameJust'. -/
def frameJustCard : Claim7 := { stood := { row := frameJustRow, standIns := [], harness := (true, "751b3eb5f9bab47f69e3ac8508a01ad1bc16e29ede61ef0ca6849b97b95663ef"), looks := false }, kinds := [], alts := [], laidByText := true, laidKinds := [.data], laidTests := true, laidLooks := .later }
def FrameJustCardSaid : Prop := Claim7.holds Tryd.pinned (.plain (OpenSpec.ofChange frameJustSpec)) frameJustCard

/-- THE TIED CARD OF 'keepsakelaw03.FrameEach'. -/
def frameEachCard : Claim7 := { stood := { row := frameEachRow, standIns := [], harness := (true, "751b3eb5f9bab47f69e3ac8508a01ad1bc16e29ede61ef0ca6849b97b95663ef"), looks := false }, kinds := [], alts := [], laidByText := true, laidKinds := [.data], laidTests := true, laidLooks := .later }
def FrameEachCardSaid : Prop := Claim7.holds Tryd.pinned (.plain (OpenSpec.ofChange frameEachSpec)) frameEachCard

/-- THE TIED CARD OF 'keepsakelaw03.FrameRow'. -/
def frameRowCard : Claim7 := { stood := { row := frameRowRow, standIns := [], harness := (true, "751b3eb5f9bab47f69e3ac8508a01ad1bc16e29ede61ef0ca6849b97b95663ef"), looks := false }, kinds := [], alts := [], laidByText := true, laidKinds := [.data], laidTests := true, laidLooks := .later }
def FrameRowCardSaid : Prop := Claim7.holds Tryd.pinned (.plain (OpenSpec.ofChange frameRowSpec)) frameRowCard

/-- THE TIED CARD OF 'keepsakelaw03.FrameBack'. -/
def frameBackCard : Claim7 := { stood := { row := frameBackRow, standIns := [], harness := (true, "751b3eb5f9bab47f69e3ac8508a01ad1bc16e29ede61ef0ca6849b97b95663ef"), looks := false }, kinds := [], alts := [], laidByText := true, laidKinds := [.data], laidTests := true, laidLooks := .later }
def FrameBackCardSaid : Prop := Claim7.holds Tryd.pinned (.plain (OpenSpec.ofChange frameBackSpec)) frameBackCard

/-- THE TIED CARD OF 'keepsakelaw03.FrameSame'. -/
def frameSameCard : Claim7 := { stood := { row := frameSameRow, standIns := [], harness := (true, "751b3eb5f9bab47f69e3ac8508a01ad1bc16e29ede61ef0ca6849b97b95663ef"), looks := false }, kinds := [], alts := [], laidByText := true, laidKinds := [.data], laidTests := true, laidLooks := .later }
def FrameSameCardSaid : Prop := Claim7.holds Tryd.pinned (.plain (OpenSpec.ofChange frameSameSpec)) frameSameCard

/-- THE TIED CARD OF 'keepsakelaw03.FrameSizes'. -/
def frameSizesCard : Claim7 := { stood := { row := frameSizesRow, standIns := [], harness := (true, "751b3eb5f9bab47f69e3ac8508a01ad1bc16e29ede61ef0ca6849b97b95663ef"), looks := false }, kinds := [], alts := [], laidByText := true, laidKinds := [.data], laidTests := true, laidLooks := .later }
def FrameSizesCardSaid : Prop := Claim7.holds Tryd.pinned (.plain (OpenSpec.ofChange frameSizesSpec)) frameSizesCard

/-- THE SECOND FORM's CARD OF 'keepsakelaw03.FramePuts'. -/
def framePutsUptoCard : Claim7 := { stood := { row := framePutsUptoRow, standIns := [], harness := (true, "751b3eb5f9bab47f69e3ac8508a01ad1bc16e29ede61ef0ca6849b97b95663ef"), looks := false }, kinds := [], alts := [], laidByText := true, laidKinds := [.data], laidTests := true, laidLooks := .later }
def FramePutsUptoCardSaid : Prop := Claim7.holds Tryd.pinned (.plain (OpenSpec.upto framePutsSpec)) framePutsUptoCard

/-- THE SECOND FORM's CARD OF 'keepsakelaw03.FrameSpoilt'. -/
def frameSpoiltUptoCard : Claim7 := { stood := { row := frameSpoiltUptoRow, standIns := [], harness := (true, "751b3eb5f9bab47f69e3ac8508a01ad1bc16e29ede61ef0ca6849b97b95663ef"), looks := false }, kinds := [], alts := [], laidByText := true, laidKinds := [.data], laidTests := true, laidLooks := .later }
def FrameSpoiltUptoCardSaid : Prop := Claim7.holds Tryd.pinned (.plain (OpenSpec.upto frameSpoiltSpec)) frameSpoiltUptoCard

/-- THE SECOND FORM's CARD OF 'keepsakelaw03.FrameReads'. -/
def frameReadsUptoCard : Claim7 := { stood := { row := frameReadsUptoRow, standIns := [], harness := (true, "751b3eb5f9bab47f69e3ac8508a01ad1bc16e29ede61ef0ca6849b97b95663ef"), looks := false }, kinds := [], alts := [], laidByText := true, laidKinds := [.data], laidTests := true, laidLooks := .later }
def FrameReadsUptoCardSaid : Prop := Claim7.holds Tryd.pinned (.plain (OpenSpec.upto frameReadsSpec)) frameReadsUptoCard

/-- THE SECOND FORM's CARD OF 'keepsakelaw03.FrameJust'. -/
def frameJustUptoCard : Claim7 := { stood := { row := frameJustUptoRow, standIns := [], harness := (true, "751b3eb5f9bab47f69e3ac8508a01ad1bc16e29ede61ef0ca6849b97b95663ef"), looks := false }, kinds := [], alts := [], laidByText := true, laidKinds := [.data], laidTests := true, laidLooks := .later }
def FrameJustUptoCardSaid : Prop := Claim7.holds Tryd.pinned (.plain (OpenSpec.upto frameJustSpec)) frameJustUptoCard

/-- THE SECOND FORM's CARD OF 'keepsakelaw03.FrameEach'. -/
def frameEachUptoCard : Claim7 := { stood := { row := frameEachUptoRow, standIns := [], harness := (true, "751b3eb5f9bab47f69e3ac8508a01ad1bc16e29ede61ef0ca6849b97b95663ef"), looks := false }, kinds := [], alts := [], laidByText := true, laidKinds := [.data], laidTests := true, laidLooks := .later }
def FrameEachUptoCardSaid : Prop := Claim7.holds Tryd.pinned (.plain (OpenSpec.upto frameEachSpec)) frameEachUptoCard

/-- THE SECOND FORM's CARD OF 'keepsakelaw03.FrameRow'. -/
def frameRowUptoCard : Claim7 := { stood := { row := frameRowUptoRow, standIns := [], harness := (true, "751b3eb5f9bab47f69e3ac8508a01ad1bc16e29ede61ef0ca6849b97b95663ef"), looks := false }, kinds := [], alts := [], laidByText := true, laidKinds := [.data], laidTests := true, laidLooks := .later }
def FrameRowUptoCardSaid : Prop := Claim7.holds Tryd.pinned (.plain (OpenSpec.upto frameRowSpec)) frameRowUptoCard

/-- THE SECOND FORM's CARD OF 'keepsakelaw03.FrameBack'. -/
def frameBackUptoCard : Claim7 := { stood := { row := frameBackUptoRow, standIns := [], harness := (true, "751b3eb5f9bab47f69e3ac8508a01ad1bc16e29ede61ef0ca6849b97b95663ef"), looks := false }, kinds := [], alts := [], laidByText := true, laidKinds := [.data], laidTests := true, laidLooks := .later }
def FrameBackUptoCardSaid : Prop := Claim7.holds Tryd.pinned (.plain (OpenSpec.upto frameBackSpec)) frameBackUptoCard

/-- THE SECOND FORM's CARD OF 'keepsakelaw03.FrameSame'. -/
def frameSameUptoCard : Claim7 := { stood := { row := frameSameUptoRow, standIns := [], harness := (true, "751b3eb5f9bab47f69e3ac8508a01ad1bc16e29ede61ef0ca6849b97b95663ef"), looks := false }, kinds := [], alts := [], laidByText := true, laidKinds := [.data], laidTests := true, laidLooks := .later }
def FrameSameUptoCardSaid : Prop := Claim7.holds Tryd.pinned (.plain (OpenSpec.upto frameSameSpec)) frameSameUptoCard

/-- THE SECOND FORM's CARD OF 'keepsakelaw03.FrameSizes'. -/
def frameSizesUptoCard : Claim7 := { stood := { row := frameSizesUptoRow, standIns := [], harness := (true, "751b3eb5f9bab47f69e3ac8508a01ad1bc16e29ede61ef0ca6849b97b95663ef"), looks := false }, kinds := [], alts := [], laidByText := true, laidKinds := [.data], laidTests := true, laidLooks := .later }
def FrameSizesUptoCardSaid : Prop := Claim7.holds Tryd.pinned (.plain (OpenSpec.upto frameSizesSpec)) frameSizesUptoCard
end Rows
end Go.Proofs.YtolbmjilcngnhaaDoor
