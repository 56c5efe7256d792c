/-
  NARROWER THAN 'FOR EVERY INPUT', by the rows' own cells (each row's printed sentence says how): FramePuts: laid · FrameSpoilt: laid · FrameReads: laid · FrameJust: laid · FrameEach: laid · FrameRow: laid · FrameBack: laid · FrameSame: laid · FrameSizes: laid.
  DERIVED. THE GIVEN ROWS OF THIS SEAT. 9 by the template 'for every input the law returns true; each argument reads behind the call as it read before'; 0 by the template 'total and deterministic' (their statements: YtolbmjilcngnhaaDoorTotals.lean).
  GIVEN WITH THE SEED: the statements are not yours to turn. If you find one false, say at which input.
  Laid BY PROGRAM, IN A SANDBOX (cutbox-rows.mjs): the forced cells as the released guide's own fill.sh prints them over the translation 7457b59fc9a8d85b… (all of the seat's roots in one cut). By AI agents, Wed Nov 11 2026. No macro, syntax, notation, axiom, sorry.
-/
import Derived.Test.YtolbmjilcngnhaaDoorChecked
import GoSem.Claim
import GoSem.ClaimJoined
import GoSem.ClaimMapViews
import Derived.JoinedTies
import Derived.KernelRfl
namespace Go.Proofs.YtolbmjilcngnhaaDoor
/- THE CELL 'sum', in the pinned program and in every row, IS THE sha256 OF THE DUMP (.gsa) THAT YtolbmjilcngnhaaDoorProg.lean LOADS. Nothing in Lean hashes anything: it is a label: what it is worth is what the hold of that sum in a sandbox is worth. -/
noncomputable def Tryd.pinned : Pinned := { name := "ytolbmjilcngnhaadoor", sum := "7457b59fc9a8d85b5f17a24a7abe7ab37de3574380a890010b77ba23b960c30e", checked := Tryd.checked }
namespace Rows
def none {H : Type} : Left H := { results := [], args := [] }

/- WHAT THE LISTED PACKAGE-LEVEL VARIABLES READ AS WHEN THE CALL BEGINS. Each datum BY PROGRAM (the guide's laid-datum.mjs) off the statement by which the dump's own 'gosem.cut.vars' lays the variable. In a bare row this is a premise. The card (YtolbmjilcngnhaaDoorCards.lean) ties it to the program's text. -/
def laid_keepsake_crc_fours {H : Type} : DataW H := .agg [.lit (.int .u32 0), .lit (.int .u32 274646895), .lit (.int .u32 549293790), .lit (.int .u32 820201905), .lit (.int .u32 1098587580), .lit (.int .u32 1361435347), .lit (.int .u32 1640403810), .lit (.int .u32 1905808397), .lit (.int .u32 2197175160), .lit (.int .u32 2460548119), .lit (.int .u32 2722870694), .lit (.int .u32 2987750089), .lit (.int .u32 3280807620), .lit (.int .u32 3553878443), .lit (.int .u32 3811616794), .lit (.int .u32 4084100981)]

/-- 'keepsakelaw03.FramePuts': WHATEVER THE INPUT: true; the input reads as it did. -/
def framePutsSpec : ChangeSpec := { name := "framePuts", fn := fun _ => fun
  | [d1, d2] => { results := [.lit (.bool true)], args := [d1, d2] }
  | _ => none }
def framePutsRow : OpenClaim := { program := "ytolbmjilcngnhaadoor", sum := "7457b59fc9a8d85b5f17a24a7abe7ab37de3574380a890010b77ba23b960c30e", func := "keepsake/keepsakelaw03.FramePuts", spec := "framePuts", named := ["keepsake/crc.fours"], apart := false, laid := [("keepsake/crc.fours", laid_keepsake_crc_fours)] }
def FramePutsSaid : Prop := framePutsRow.holds Tryd.pinned (OpenSpec.ofChange framePutsSpec)

/-- ITS FALSE NEIGHBOUR: 'it returns false'. Refute it at one input. -/
def framePutsWrong : ChangeSpec := { name := "framePuts", fn := fun _ => fun
  | [d1, d2] => { results := [.lit (.bool false)], args := [d1, d2] }
  | _ => none }
def FramePutsWrongFalsely : Prop := framePutsRow.holds Tryd.pinned (OpenSpec.ofChange framePutsWrong)

/-- 'keepsakelaw03.FrameSpoilt': WHATEVER THE INPUT: true; the input reads as it did. -/
def frameSpoiltSpec : ChangeSpec := { name := "frameSpoilt", fn := fun _ => fun
  | [d1, d2, d3] => { results := [.lit (.bool true)], args := [d1, d2, d3] }
  | _ => none }
def frameSpoiltRow : OpenClaim := { program := "ytolbmjilcngnhaadoor", sum := "7457b59fc9a8d85b5f17a24a7abe7ab37de3574380a890010b77ba23b960c30e", func := "keepsake/keepsakelaw03.FrameSpoilt", spec := "frameSpoilt", named := ["keepsake/crc.fours"], apart := false, laid := [("keepsake/crc.fours", laid_keepsake_crc_fours)] }
def FrameSpoiltSaid : Prop := frameSpoiltRow.holds Tryd.pinned (OpenSpec.ofChange frameSpoiltSpec)

/-- ITS FALSE NEIGHBOUR: 'it returns false'. Refute it at one input. -/
def frameSpoiltWrong : ChangeSpec := { name := "frameSpoilt", fn := fun _ => fun
  | [d1, d2, d3] => { results := [.lit (.bool false)], args := [d1, d2, d3] }
  | _ => none }
def FrameSpoiltWrongFalsely : Prop := frameSpoiltRow.holds Tryd.pinned (OpenSpec.ofChange frameSpoiltWrong)

/-- 'keepsakelaw03.FrameReads': WHATEVER THE INPUT: true; the input reads as it did. -/
def frameReadsSpec : ChangeSpec := { name := "frameReads", fn := fun _ => fun
  | [d] => { results := [.lit (.bool true)], args := [d] }
  | _ => none }
def frameReadsRow : OpenClaim := { program := "ytolbmjilcngnhaadoor", sum := "7457b59fc9a8d85b5f17a24a7abe7ab37de3574380a890010b77ba23b960c30e", func := "keepsake/keepsakelaw03.FrameReads", spec := "frameReads", named := ["keepsake/crc.fours"], apart := false, laid := [("keepsake/crc.fours", laid_keepsake_crc_fours)] }
def FrameReadsSaid : Prop := frameReadsRow.holds Tryd.pinned (OpenSpec.ofChange frameReadsSpec)

/-- ITS FALSE NEIGHBOUR: 'it returns false'. Refute it at one input. -/
def frameReadsWrong : ChangeSpec := { name := "frameReads", fn := fun _ => fun
  | [d] => { results := [.lit (.bool false)], args := [d] }
  | _ => none }
def FrameReadsWrongFalsely : Prop := frameReadsRow.holds Tryd.pinned (OpenSpec.ofChange frameReadsWrong)

/-- 'keepsakelaw03.FrameJust': WHATEVER THE INPUT: true; the input reads as it did. -/
def frameJustSpec : ChangeSpec := { name := "frameJust", fn := fun _ => fun
  | [d1, d2] => { results := [.lit (.bool true)], args := [d1, d2] }
  | _ => none }
def frameJustRow : OpenClaim := { program := "ytolbmjilcngnhaadoor", sum := "7457b59fc9a8d85b5f17a24a7abe7ab37de3574380a890010b77ba23b960c30e", func := "keepsake/keepsakelaw03.FrameJust", spec := "frameJust", named := ["keepsake/crc.fours"], apart := false, laid := [("keepsake/crc.fours", laid_keepsake_crc_fours)] }
def FrameJustSaid : Prop := frameJustRow.holds Tryd.pinned (OpenSpec.ofChange frameJustSpec)

/-- ITS FALSE NEIGHBOUR: 'it returns false'. Refute it at one input. -/
def frameJustWrong : ChangeSpec := { name := "frameJust", fn := fun _ => fun
  | [d1, d2] => { results := [.lit (.bool false)], args := [d1, d2] }
  | _ => none }
def FrameJustWrongFalsely : Prop := frameJustRow.holds Tryd.pinned (OpenSpec.ofChange frameJustWrong)

/-- 'keepsakelaw03.FrameEach': WHATEVER THE INPUT: true; the input reads as it did. -/
def frameEachSpec : ChangeSpec := { name := "frameEach", fn := fun _ => fun
  | [d1, d2] => { results := [.lit (.bool true)], args := [d1, d2] }
  | _ => none }
def frameEachRow : OpenClaim := { program := "ytolbmjilcngnhaadoor", sum := "7457b59fc9a8d85b5f17a24a7abe7ab37de3574380a890010b77ba23b960c30e", func := "keepsake/keepsakelaw03.FrameEach", spec := "frameEach", unfollowed := true, recurses := true, named := ["keepsake/crc.fours"], apart := false, laid := [("keepsake/crc.fours", laid_keepsake_crc_fours)] }
def FrameEachSaid : Prop := frameEachRow.holds Tryd.pinned (OpenSpec.ofChange frameEachSpec)

/-- ITS FALSE NEIGHBOUR: 'it returns false'. Refute it at one input. -/
def frameEachWrong : ChangeSpec := { name := "frameEach", fn := fun _ => fun
  | [d1, d2] => { results := [.lit (.bool false)], args := [d1, d2] }
  | _ => none }
def FrameEachWrongFalsely : Prop := frameEachRow.holds Tryd.pinned (OpenSpec.ofChange frameEachWrong)

/-- 'keepsakelaw03.FrameRow': WHATEVER THE INPUT: true; the input reads as it did. -/
def frameRowSpec : ChangeSpec := { name := "frameRow", fn := fun _ => fun
  | [d] => { results := [.lit (.bool true)], args := [d] }
  | _ => none }
def frameRowRow : OpenClaim := { program := "ytolbmjilcngnhaadoor", sum := "7457b59fc9a8d85b5f17a24a7abe7ab37de3574380a890010b77ba23b960c30e", func := "keepsake/keepsakelaw03.FrameRow", spec := "frameRow", named := ["keepsake/crc.fours"], apart := false, laid := [("keepsake/crc.fours", laid_keepsake_crc_fours)] }
def FrameRowSaid : Prop := frameRowRow.holds Tryd.pinned (OpenSpec.ofChange frameRowSpec)

/-- ITS FALSE NEIGHBOUR: 'it returns false'. Refute it at one input. -/
def frameRowWrong : ChangeSpec := { name := "frameRow", fn := fun _ => fun
  | [d] => { results := [.lit (.bool false)], args := [d] }
  | _ => none }
def FrameRowWrongFalsely : Prop := frameRowRow.holds Tryd.pinned (OpenSpec.ofChange frameRowWrong)

/-- 'keepsakelaw03.FrameBack': WHATEVER THE INPUT: true; the input reads as it did. -/
def frameBackSpec : ChangeSpec := { name := "frameBack", fn := fun _ => fun
  | [d1, d2, d3] => { results := [.lit (.bool true)], args := [d1, d2, d3] }
  | _ => none }
def frameBackRow : OpenClaim := { program := "ytolbmjilcngnhaadoor", sum := "7457b59fc9a8d85b5f17a24a7abe7ab37de3574380a890010b77ba23b960c30e", func := "keepsake/keepsakelaw03.FrameBack", spec := "frameBack", named := ["keepsake/crc.fours"], apart := false, laid := [("keepsake/crc.fours", laid_keepsake_crc_fours)] }
def FrameBackSaid : Prop := frameBackRow.holds Tryd.pinned (OpenSpec.ofChange frameBackSpec)

/-- ITS FALSE NEIGHBOUR: 'it returns false'. Refute it at one input. -/
def frameBackWrong : ChangeSpec := { name := "frameBack", fn := fun _ => fun
  | [d1, d2, d3] => { results := [.lit (.bool false)], args := [d1, d2, d3] }
  | _ => none }
def FrameBackWrongFalsely : Prop := frameBackRow.holds Tryd.pinned (OpenSpec.ofChange frameBackWrong)

/-- 'keepsakelaw03.FrameSame': WHATEVER THE INPUT: true; the input reads as it did. -/
def frameSameSpec : ChangeSpec := { name := "frameSame", fn := fun _ => fun
  | [d] => { results := [.lit (.bool true)], args := [d] }
  | _ => none }
def frameSameRow : OpenClaim := { program := "ytolbmjilcngnhaadoor", sum := "7457b59fc9a8d85b5f17a24a7abe7ab37de3574380a890010b77ba23b960c30e", func := "keepsake/keepsakelaw03.FrameSame", spec := "frameSame", named := ["keepsake/crc.fours"], apart := false, laid := [("keepsake/crc.fours", laid_keepsake_crc_fours)] }
def FrameSameSaid : Prop := frameSameRow.holds Tryd.pinned (OpenSpec.ofChange frameSameSpec)

/-- ITS FALSE NEIGHBOUR: 'it returns false'. Refute it at one input. -/
def frameSameWrong : ChangeSpec := { name := "frameSame", fn := fun _ => fun
  | [d] => { results := [.lit (.bool false)], args := [d] }
  | _ => none }
def FrameSameWrongFalsely : Prop := frameSameRow.holds Tryd.pinned (OpenSpec.ofChange frameSameWrong)

/-- 'keepsakelaw03.FrameSizes': WHATEVER THE INPUT: true; the input reads as it did. -/
def frameSizesSpec : ChangeSpec := { name := "frameSizes", fn := fun _ => fun
  | [] => { results := [.lit (.bool true)], args := [] }
  | _ => none }
def frameSizesRow : OpenClaim := { program := "ytolbmjilcngnhaadoor", sum := "7457b59fc9a8d85b5f17a24a7abe7ab37de3574380a890010b77ba23b960c30e", func := "keepsake/keepsakelaw03.FrameSizes", spec := "frameSizes", named := ["keepsake/crc.fours"], apart := false, laid := [("keepsake/crc.fours", laid_keepsake_crc_fours)] }
def FrameSizesSaid : Prop := frameSizesRow.holds Tryd.pinned (OpenSpec.ofChange frameSizesSpec)

/-- ITS FALSE NEIGHBOUR: 'it returns false'. Refute it at one input. -/
def frameSizesWrong : ChangeSpec := { name := "frameSizes", fn := fun _ => fun
  | [] => { results := [.lit (.bool false)], args := [] }
  | _ => none }
def FrameSizesWrongFalsely : Prop := frameSizesRow.holds Tryd.pinned (OpenSpec.ofChange frameSizesWrong)

/- THE SECOND FORM. 'bulk': how many values and letters a reading holds, each counted each time it is reached (what is shared counts as often as it is met; a slice's spare places count too). A statement '..UptoSaid' is the law's where the arguments, and the package variables that the reading takes, are together of bulk at most 1048576: NARROWER than '..Said'. Prove '..Said' where nothing that the law and all that it calls make is longer than what came in: it says more and counts as full. Else prove '..UptoSaid'. A law counts once. -/
mutual
def uptoBulk {H : Type} : DataW H → Nat
  | .lit (.string bytes) => bytes.length + 1
  | .lit _ => 1
  | .nil => 1
  | .ptr d => uptoBulk d + 1
  | .slice elems spare => uptoBulkAll elems + uptoBulkAll spare + 1
  | .agg parts => uptoBulkAll parts + 1
  | .iface _ d => uptoBulk d + 1
  | .map entries => uptoBulkEntries entries + 1
  | .held _ => 1
def uptoBulkAll {H : Type} : List (DataW H) → Nat
  | [] => 0
  | d :: r => uptoBulk d + uptoBulkAll r
def uptoBulkEntries {H : Type} : List (Lit × DataW H) → Nat
  | [] => 0
  | x :: r => uptoBulkEntry x + uptoBulkEntries r
def uptoBulkEntry {H : Type} : Lit × DataW H → Nat
  | (.string bytes, d) => bytes.length + uptoBulk d + 1
  | (_, d) => uptoBulk d + 1
 end
def uptoSmall : (H : Type) → List (DataW H) → Bool := fun _ ds => decide (uptoBulkAll ds ≤ 1048576)
def OpenSpec.upto (s : _root_.Go.ChangeSpec) : _root_.Go.OpenSpec := { _root_.Go.OpenSpec.ofChange s with cond := some uptoSmall }

/-- 'keepsakelaw03.FramePuts', WHERE WHAT IT READS IS OF BULK AT MOST 1048576: true; the input reads as it did. -/
def framePutsUptoRow : OpenClaim := { program := "ytolbmjilcngnhaadoor", sum := "7457b59fc9a8d85b5f17a24a7abe7ab37de3574380a890010b77ba23b960c30e", func := "keepsake/keepsakelaw03.FramePuts", spec := "framePuts", named := ["keepsake/crc.fours"], apart := false, laid := [("keepsake/crc.fours", laid_keepsake_crc_fours)], narrowed := true }
def FramePutsUptoSaid : Prop := framePutsUptoRow.holds Tryd.pinned (OpenSpec.upto framePutsSpec)

/-- 'keepsakelaw03.FrameSpoilt', WHERE WHAT IT READS IS OF BULK AT MOST 1048576: true; the input reads as it did. -/
def frameSpoiltUptoRow : OpenClaim := { program := "ytolbmjilcngnhaadoor", sum := "7457b59fc9a8d85b5f17a24a7abe7ab37de3574380a890010b77ba23b960c30e", func := "keepsake/keepsakelaw03.FrameSpoilt", spec := "frameSpoilt", named := ["keepsake/crc.fours"], apart := false, laid := [("keepsake/crc.fours", laid_keepsake_crc_fours)], narrowed := true }
def FrameSpoiltUptoSaid : Prop := frameSpoiltUptoRow.holds Tryd.pinned (OpenSpec.upto frameSpoiltSpec)

/-- 'keepsakelaw03.FrameReads', WHERE WHAT IT READS IS OF BULK AT MOST 1048576: true; the input reads as it did. -/
def frameReadsUptoRow : OpenClaim := { program := "ytolbmjilcngnhaadoor", sum := "7457b59fc9a8d85b5f17a24a7abe7ab37de3574380a890010b77ba23b960c30e", func := "keepsake/keepsakelaw03.FrameReads", spec := "frameReads", named := ["keepsake/crc.fours"], apart := false, laid := [("keepsake/crc.fours", laid_keepsake_crc_fours)], narrowed := true }
def FrameReadsUptoSaid : Prop := frameReadsUptoRow.holds Tryd.pinned (OpenSpec.upto frameReadsSpec)

/-- 'keepsakelaw03.FrameJust', WHERE WHAT IT READS IS OF BULK AT MOST 1048576: true; the input reads as it did. -/
def frameJustUptoRow : OpenClaim := { program := "ytolbmjilcngnhaadoor", sum := "7457b59fc9a8d85b5f17a24a7abe7ab37de3574380a890010b77ba23b960c30e", func := "keepsake/keepsakelaw03.FrameJust", spec := "frameJust", named := ["keepsake/crc.fours"], apart := false, laid := [("keepsake/crc.fours", laid_keepsake_crc_fours)], narrowed := true }
def FrameJustUptoSaid : Prop := frameJustUptoRow.holds Tryd.pinned (OpenSpec.upto frameJustSpec)

/-- 'keepsakelaw03.FrameEach', WHERE WHAT IT READS IS OF BULK AT MOST 1048576: true; the input reads as it did. -/
def frameEachUptoRow : OpenClaim := { program := "ytolbmjilcngnhaadoor", sum := "7457b59fc9a8d85b5f17a24a7abe7ab37de3574380a890010b77ba23b960c30e", func := "keepsake/keepsakelaw03.FrameEach", spec := "frameEach", unfollowed := true, recurses := true, named := ["keepsake/crc.fours"], apart := false, laid := [("keepsake/crc.fours", laid_keepsake_crc_fours)], narrowed := true }
def FrameEachUptoSaid : Prop := frameEachUptoRow.holds Tryd.pinned (OpenSpec.upto frameEachSpec)

/-- 'keepsakelaw03.FrameRow', WHERE WHAT IT READS IS OF BULK AT MOST 1048576: true; the input reads as it did. -/
def frameRowUptoRow : OpenClaim := { program := "ytolbmjilcngnhaadoor", sum := "7457b59fc9a8d85b5f17a24a7abe7ab37de3574380a890010b77ba23b960c30e", func := "keepsake/keepsakelaw03.FrameRow", spec := "frameRow", named := ["keepsake/crc.fours"], apart := false, laid := [("keepsake/crc.fours", laid_keepsake_crc_fours)], narrowed := true }
def FrameRowUptoSaid : Prop := frameRowUptoRow.holds Tryd.pinned (OpenSpec.upto frameRowSpec)

/-- 'keepsakelaw03.FrameBack', WHERE WHAT IT READS IS OF BULK AT MOST 1048576: true; the input reads as it did. -/
def frameBackUptoRow : OpenClaim := { program := "ytolbmjilcngnhaadoor", sum := "7457b59fc9a8d85b5f17a24a7abe7ab37de3574380a890010b77ba23b960c30e", func := "keepsake/keepsakelaw03.FrameBack", spec := "frameBack", named := ["keepsake/crc.fours"], apart := false, laid := [("keepsake/crc.fours", laid_keepsake_crc_fours)], narrowed := true }
def FrameBackUptoSaid : Prop := frameBackUptoRow.holds Tryd.pinned (OpenSpec.upto frameBackSpec)

/-- 'keepsakelaw03.FrameSame', WHERE WHAT IT READS IS OF BULK AT MOST 1048576: true; the input reads as it did. -/
def frameSameUptoRow : OpenClaim := { program := "ytolbmjilcngnhaadoor", sum := "7457b59fc9a8d85b5f17a24a7abe7ab37de3574380a890010b77ba23b960c30e", func := "keepsake/keepsakelaw03.FrameSame", spec := "frameSame", named := ["keepsake/crc.fours"], apart := false, laid := [("keepsake/crc.fours", laid_keepsake_crc_fours)], narrowed := true }
def FrameSameUptoSaid : Prop := frameSameUptoRow.holds Tryd.pinned (OpenSpec.upto frameSameSpec)

/-- 'keepsakelaw03.FrameSizes', WHERE WHAT IT READS IS OF BULK AT MOST 1048576: true; the input reads as it did. -/
def frameSizesUptoRow : OpenClaim := { program := "ytolbmjilcngnhaadoor", sum := "7457b59fc9a8d85b5f17a24a7abe7ab37de3574380a890010b77ba23b960c30e", func := "keepsake/keepsakelaw03.FrameSizes", spec := "frameSizes", named := ["keepsake/crc.fours"], apart := false, laid := [("keepsake/crc.fours", laid_keepsake_crc_fours)], narrowed := true }
def FrameSizesUptoSaid : Prop := frameSizesUptoRow.holds Tryd.pinned (OpenSpec.upto frameSizesSpec)

end Rows
end Go.Proofs.YtolbmjilcngnhaaDoor
