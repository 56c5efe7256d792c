/-
  NARROWER THAN 'FOR EVERY INPUT', by the rows' own cells (each row's printed sentence says how): TallyAdds: laid · TallyJoins: laid · TallyCan: laid · TallyTells: laid · TallyMost: laid · TallyReals: laid · TallyCompares: laid.
  DERIVED. THE GIVEN ROWS OF THIS SEAT. 7 by the template 'for every input the law returns true; each argument reads behind the call as it read before'; 0 by the template 'total and deterministic' (their statements: YtkafcdgeboldgaaDoorTotals.lean).
  GIVEN WITH THE SEED: the statements are not yours to turn. If you find one false, say at which input.
  Laid BY PROGRAM, IN A SANDBOX (cutbox-rows.mjs): the forced cells as the released guide's own fill.sh prints them over the translation be65722ddbd36bdb… (all of the seat's roots in one cut). By AI agents, Wed Nov 11 2026. No macro, syntax, notation, axiom, sorry.
-/
import Derived.Test.YtkafcdgeboldgaaDoorChecked
import GoSem.Claim
import GoSem.ClaimJoined
import GoSem.ClaimMapViews
import Derived.JoinedTies
import Derived.KernelRfl
namespace Go.Proofs.YtkafcdgeboldgaaDoor
/- THE CELL 'sum', in the pinned program and in every row, IS THE sha256 OF THE DUMP (.gsa) THAT YtkafcdgeboldgaaDoorProg.lean LOADS. Nothing in Lean hashes anything: it is a label: what it is worth is what the hold of that sum in a sandbox is worth. -/
noncomputable def Tryd.pinned : Pinned := { name := "ytkafcdgeboldgaadoor", sum := "be65722ddbd36bdba1b0b71900cce41b491dc0eb423cbd03199cfaab5fe3c947", checked := Tryd.checked }
namespace Rows
def none {H : Type} : Left H := { results := [], args := [] }

/- WHAT THE LISTED PACKAGE-LEVEL VARIABLES READ AS WHEN THE CALL BEGINS. Each datum BY PROGRAM (the guide's laid-datum.mjs) off the statement by which the dump's own 'gosem.cut.vars' lays the variable. In a bare row this is a premise. The card (YtkafcdgeboldgaaDoorCards.lean) ties it to the program's text. -/
def laid_math_bits_deBruijn64tab {H : Type} : DataW H := .agg [.lit (.int .u8 0), .lit (.int .u8 1), .lit (.int .u8 56), .lit (.int .u8 2), .lit (.int .u8 57), .lit (.int .u8 49), .lit (.int .u8 28), .lit (.int .u8 3), .lit (.int .u8 61), .lit (.int .u8 58), .lit (.int .u8 42), .lit (.int .u8 50), .lit (.int .u8 38), .lit (.int .u8 29), .lit (.int .u8 17), .lit (.int .u8 4), .lit (.int .u8 62), .lit (.int .u8 47), .lit (.int .u8 59), .lit (.int .u8 36), .lit (.int .u8 45), .lit (.int .u8 43), .lit (.int .u8 51), .lit (.int .u8 22), .lit (.int .u8 53), .lit (.int .u8 39), .lit (.int .u8 33), .lit (.int .u8 30), .lit (.int .u8 24), .lit (.int .u8 18), .lit (.int .u8 12), .lit (.int .u8 5), .lit (.int .u8 63), .lit (.int .u8 55), .lit (.int .u8 48), .lit (.int .u8 27), .lit (.int .u8 60), .lit (.int .u8 41), .lit (.int .u8 37), .lit (.int .u8 16), .lit (.int .u8 46), .lit (.int .u8 35), .lit (.int .u8 44), .lit (.int .u8 21), .lit (.int .u8 52), .lit (.int .u8 32), .lit (.int .u8 23), .lit (.int .u8 11), .lit (.int .u8 54), .lit (.int .u8 26), .lit (.int .u8 40), .lit (.int .u8 15), .lit (.int .u8 34), .lit (.int .u8 20), .lit (.int .u8 31), .lit (.int .u8 10), .lit (.int .u8 25), .lit (.int .u8 14), .lit (.int .u8 19), .lit (.int .u8 9), .lit (.int .u8 13), .lit (.int .u8 8), .lit (.int .u8 7), .lit (.int .u8 6)]

/-- 'keepsakelaw08.TallyAdds': WHATEVER THE INPUT: true; the input reads as it did. -/
def tallyAddsSpec : ChangeSpec := { name := "tallyAdds", fn := fun _ => fun
  | [d1, d2, d3] => { results := [.lit (.bool true)], args := [d1, d2, d3] }
  | _ => none }
def tallyAddsRow : OpenClaim := { program := "ytkafcdgeboldgaadoor", sum := "be65722ddbd36bdba1b0b71900cce41b491dc0eb423cbd03199cfaab5fe3c947", func := "keepsake/keepsakelaw08.TallyAdds", spec := "tallyAdds", named := ["math/bits.deBruijn64tab"], apart := false, laid := [("math/bits.deBruijn64tab", laid_math_bits_deBruijn64tab)] }
def TallyAddsSaid : Prop := tallyAddsRow.holds Tryd.pinned (OpenSpec.ofChange tallyAddsSpec)

/-- ITS FALSE NEIGHBOUR: 'it returns false'. Refute it at one input. -/
def tallyAddsWrong : ChangeSpec := { name := "tallyAdds", fn := fun _ => fun
  | [d1, d2, d3] => { results := [.lit (.bool false)], args := [d1, d2, d3] }
  | _ => none }
def TallyAddsWrongFalsely : Prop := tallyAddsRow.holds Tryd.pinned (OpenSpec.ofChange tallyAddsWrong)

/-- 'keepsakelaw08.TallyJoins': WHATEVER THE INPUT: true; the input reads as it did. -/
def tallyJoinsSpec : ChangeSpec := { name := "tallyJoins", fn := fun _ => fun
  | [d] => { results := [.lit (.bool true)], args := [d] }
  | _ => none }
def tallyJoinsRow : OpenClaim := { program := "ytkafcdgeboldgaadoor", sum := "be65722ddbd36bdba1b0b71900cce41b491dc0eb423cbd03199cfaab5fe3c947", func := "keepsake/keepsakelaw08.TallyJoins", spec := "tallyJoins", named := ["math/bits.deBruijn64tab"], apart := false, laid := [("math/bits.deBruijn64tab", laid_math_bits_deBruijn64tab)] }
def TallyJoinsSaid : Prop := tallyJoinsRow.holds Tryd.pinned (OpenSpec.ofChange tallyJoinsSpec)

/-- ITS FALSE NEIGHBOUR: 'it returns false'. Refute it at one input. -/
def tallyJoinsWrong : ChangeSpec := { name := "tallyJoins", fn := fun _ => fun
  | [d] => { results := [.lit (.bool false)], args := [d] }
  | _ => none }
def TallyJoinsWrongFalsely : Prop := tallyJoinsRow.holds Tryd.pinned (OpenSpec.ofChange tallyJoinsWrong)

/-- 'keepsakelaw08.TallyCan': WHATEVER THE INPUT: true; the input reads as it did. -/
def tallyCanSpec : ChangeSpec := { name := "tallyCan", fn := fun _ => fun
  | [d] => { results := [.lit (.bool true)], args := [d] }
  | _ => none }
def tallyCanRow : OpenClaim := { program := "ytkafcdgeboldgaadoor", sum := "be65722ddbd36bdba1b0b71900cce41b491dc0eb423cbd03199cfaab5fe3c947", func := "keepsake/keepsakelaw08.TallyCan", spec := "tallyCan", named := ["math/bits.deBruijn64tab"], apart := false, laid := [("math/bits.deBruijn64tab", laid_math_bits_deBruijn64tab)] }
def TallyCanSaid : Prop := tallyCanRow.holds Tryd.pinned (OpenSpec.ofChange tallyCanSpec)

/-- ITS FALSE NEIGHBOUR: 'it returns false'. Refute it at one input. -/
def tallyCanWrong : ChangeSpec := { name := "tallyCan", fn := fun _ => fun
  | [d] => { results := [.lit (.bool false)], args := [d] }
  | _ => none }
def TallyCanWrongFalsely : Prop := tallyCanRow.holds Tryd.pinned (OpenSpec.ofChange tallyCanWrong)

/-- 'keepsakelaw08.TallyTells': WHATEVER THE INPUT: true; the input reads as it did. -/
def tallyTellsSpec : ChangeSpec := { name := "tallyTells", fn := fun _ => fun
  | [d] => { results := [.lit (.bool true)], args := [d] }
  | _ => none }
def tallyTellsRow : OpenClaim := { program := "ytkafcdgeboldgaadoor", sum := "be65722ddbd36bdba1b0b71900cce41b491dc0eb423cbd03199cfaab5fe3c947", func := "keepsake/keepsakelaw08.TallyTells", spec := "tallyTells", named := ["math/bits.deBruijn64tab"], apart := false, laid := [("math/bits.deBruijn64tab", laid_math_bits_deBruijn64tab)] }
def TallyTellsSaid : Prop := tallyTellsRow.holds Tryd.pinned (OpenSpec.ofChange tallyTellsSpec)

/-- ITS FALSE NEIGHBOUR: 'it returns false'. Refute it at one input. -/
def tallyTellsWrong : ChangeSpec := { name := "tallyTells", fn := fun _ => fun
  | [d] => { results := [.lit (.bool false)], args := [d] }
  | _ => none }
def TallyTellsWrongFalsely : Prop := tallyTellsRow.holds Tryd.pinned (OpenSpec.ofChange tallyTellsWrong)

/-- 'keepsakelaw08.TallyMost': WHATEVER THE INPUT: true; the input reads as it did. -/
def tallyMostSpec : ChangeSpec := { name := "tallyMost", fn := fun _ => fun
  | [d1, d2] => { results := [.lit (.bool true)], args := [d1, d2] }
  | _ => none }
def tallyMostRow : OpenClaim := { program := "ytkafcdgeboldgaadoor", sum := "be65722ddbd36bdba1b0b71900cce41b491dc0eb423cbd03199cfaab5fe3c947", func := "keepsake/keepsakelaw08.TallyMost", spec := "tallyMost", named := ["math/bits.deBruijn64tab"], apart := false, laid := [("math/bits.deBruijn64tab", laid_math_bits_deBruijn64tab)] }
def TallyMostSaid : Prop := tallyMostRow.holds Tryd.pinned (OpenSpec.ofChange tallyMostSpec)

/-- ITS FALSE NEIGHBOUR: 'it returns false'. Refute it at one input. -/
def tallyMostWrong : ChangeSpec := { name := "tallyMost", fn := fun _ => fun
  | [d1, d2] => { results := [.lit (.bool false)], args := [d1, d2] }
  | _ => none }
def TallyMostWrongFalsely : Prop := tallyMostRow.holds Tryd.pinned (OpenSpec.ofChange tallyMostWrong)

/-- 'keepsakelaw08.TallyReals': WHATEVER THE INPUT: true; the input reads as it did. -/
def tallyRealsSpec : ChangeSpec := { name := "tallyReals", fn := fun _ => fun
  | [d] => { results := [.lit (.bool true)], args := [d] }
  | _ => none }
def tallyRealsRow : OpenClaim := { program := "ytkafcdgeboldgaadoor", sum := "be65722ddbd36bdba1b0b71900cce41b491dc0eb423cbd03199cfaab5fe3c947", func := "keepsake/keepsakelaw08.TallyReals", spec := "tallyReals", inPlace := ["math.Float64bits"], named := ["math/bits.deBruijn64tab"], apart := false, laid := [("math/bits.deBruijn64tab", laid_math_bits_deBruijn64tab)] }
def TallyRealsSaid : Prop := tallyRealsRow.holds Tryd.pinned (OpenSpec.ofChange tallyRealsSpec)

/-- ITS FALSE NEIGHBOUR: 'it returns false'. Refute it at one input. -/
def tallyRealsWrong : ChangeSpec := { name := "tallyReals", fn := fun _ => fun
  | [d] => { results := [.lit (.bool false)], args := [d] }
  | _ => none }
def TallyRealsWrongFalsely : Prop := tallyRealsRow.holds Tryd.pinned (OpenSpec.ofChange tallyRealsWrong)

/-- 'keepsakelaw08.TallyCompares': WHATEVER THE INPUT: true; the input reads as it did. -/
def tallyComparesSpec : ChangeSpec := { name := "tallyCompares", fn := fun _ => fun
  | [d1, d2, d3] => { results := [.lit (.bool true)], args := [d1, d2, d3] }
  | _ => none }
def tallyComparesRow : OpenClaim := { program := "ytkafcdgeboldgaadoor", sum := "be65722ddbd36bdba1b0b71900cce41b491dc0eb423cbd03199cfaab5fe3c947", func := "keepsake/keepsakelaw08.TallyCompares", spec := "tallyCompares", named := ["math/bits.deBruijn64tab"], apart := false, laid := [("math/bits.deBruijn64tab", laid_math_bits_deBruijn64tab)] }
def TallyComparesSaid : Prop := tallyComparesRow.holds Tryd.pinned (OpenSpec.ofChange tallyComparesSpec)

/-- ITS FALSE NEIGHBOUR: 'it returns false'. Refute it at one input. -/
def tallyComparesWrong : ChangeSpec := { name := "tallyCompares", fn := fun _ => fun
  | [d1, d2, d3] => { results := [.lit (.bool false)], args := [d1, d2, d3] }
  | _ => none }
def TallyComparesWrongFalsely : Prop := tallyComparesRow.holds Tryd.pinned (OpenSpec.ofChange tallyComparesWrong)

/- THE SECOND FORM. 'bulk': how many values and letters a reading holds, each counted each time it is reached (what is shared counts as often as it is met; a slice's spare places count too). A statement '..UptoSaid' is the law's where the arguments, and the package variables that the reading takes, are together of bulk at most 1048576: NARROWER than '..Said'. Prove '..Said' where nothing that the law and all that it calls make is longer than what came in: it says more and counts as full. Else prove '..UptoSaid'. A law counts once. -/
mutual
def uptoBulk {H : Type} : DataW H → Nat
  | .lit (.string bytes) => bytes.length + 1
  | .lit _ => 1
  | .nil => 1
  | .ptr d => uptoBulk d + 1
  | .slice elems spare => uptoBulkAll elems + uptoBulkAll spare + 1
  | .agg parts => uptoBulkAll parts + 1
  | .iface _ d => uptoBulk d + 1
  | .map entries => uptoBulkEntries entries + 1
  | .held _ => 1
def uptoBulkAll {H : Type} : List (DataW H) → Nat
  | [] => 0
  | d :: r => uptoBulk d + uptoBulkAll r
def uptoBulkEntries {H : Type} : List (Lit × DataW H) → Nat
  | [] => 0
  | x :: r => uptoBulkEntry x + uptoBulkEntries r
def uptoBulkEntry {H : Type} : Lit × DataW H → Nat
  | (.string bytes, d) => bytes.length + uptoBulk d + 1
  | (_, d) => uptoBulk d + 1
 end
def uptoSmall : (H : Type) → List (DataW H) → Bool := fun _ ds => decide (uptoBulkAll ds ≤ 1048576)
def OpenSpec.upto (s : _root_.Go.ChangeSpec) : _root_.Go.OpenSpec := { _root_.Go.OpenSpec.ofChange s with cond := some uptoSmall }

/-- 'keepsakelaw08.TallyAdds', WHERE WHAT IT READS IS OF BULK AT MOST 1048576: true; the input reads as it did. -/
def tallyAddsUptoRow : OpenClaim := { program := "ytkafcdgeboldgaadoor", sum := "be65722ddbd36bdba1b0b71900cce41b491dc0eb423cbd03199cfaab5fe3c947", func := "keepsake/keepsakelaw08.TallyAdds", spec := "tallyAdds", named := ["math/bits.deBruijn64tab"], apart := false, laid := [("math/bits.deBruijn64tab", laid_math_bits_deBruijn64tab)], narrowed := true }
def TallyAddsUptoSaid : Prop := tallyAddsUptoRow.holds Tryd.pinned (OpenSpec.upto tallyAddsSpec)

/-- 'keepsakelaw08.TallyJoins', WHERE WHAT IT READS IS OF BULK AT MOST 1048576: true; the input reads as it did. -/
def tallyJoinsUptoRow : OpenClaim := { program := "ytkafcdgeboldgaadoor", sum := "be65722ddbd36bdba1b0b71900cce41b491dc0eb423cbd03199cfaab5fe3c947", func := "keepsake/keepsakelaw08.TallyJoins", spec := "tallyJoins", named := ["math/bits.deBruijn64tab"], apart := false, laid := [("math/bits.deBruijn64tab", laid_math_bits_deBruijn64tab)], narrowed := true }
def TallyJoinsUptoSaid : Prop := tallyJoinsUptoRow.holds Tryd.pinned (OpenSpec.upto tallyJoinsSpec)

/-- 'keepsakelaw08.TallyCan', WHERE WHAT IT READS IS OF BULK AT MOST 1048576: true; the input reads as it did. -/
def tallyCanUptoRow : OpenClaim := { program := "ytkafcdgeboldgaadoor", sum := "be65722ddbd36bdba1b0b71900cce41b491dc0eb423cbd03199cfaab5fe3c947", func := "keepsake/keepsakelaw08.TallyCan", spec := "tallyCan", named := ["math/bits.deBruijn64tab"], apart := false, laid := [("math/bits.deBruijn64tab", laid_math_bits_deBruijn64tab)], narrowed := true }
def TallyCanUptoSaid : Prop := tallyCanUptoRow.holds Tryd.pinned (OpenSpec.upto tallyCanSpec)

/-- 'keepsakelaw08.TallyTells', WHERE WHAT IT READS IS OF BULK AT MOST 1048576: true; the input reads as it did. -/
def tallyTellsUptoRow : OpenClaim := { program := "ytkafcdgeboldgaadoor", sum := "be65722ddbd36bdba1b0b71900cce41b491dc0eb423cbd03199cfaab5fe3c947", func := "keepsake/keepsakelaw08.TallyTells", spec := "tallyTells", named := ["math/bits.deBruijn64tab"], apart := false, laid := [("math/bits.deBruijn64tab", laid_math_bits_deBruijn64tab)], narrowed := true }
def TallyTellsUptoSaid : Prop := tallyTellsUptoRow.holds Tryd.pinned (OpenSpec.upto tallyTellsSpec)

/-- 'keepsakelaw08.TallyMost', WHERE WHAT IT READS IS OF BULK AT MOST 1048576: true; the input reads as it did. -/
def tallyMostUptoRow : OpenClaim := { program := "ytkafcdgeboldgaadoor", sum := "be65722ddbd36bdba1b0b71900cce41b491dc0eb423cbd03199cfaab5fe3c947", func := "keepsake/keepsakelaw08.TallyMost", spec := "tallyMost", named := ["math/bits.deBruijn64tab"], apart := false, laid := [("math/bits.deBruijn64tab", laid_math_bits_deBruijn64tab)], narrowed := true }
def TallyMostUptoSaid : Prop := tallyMostUptoRow.holds Tryd.pinned (OpenSpec.upto tallyMostSpec)

/-- 'keepsakelaw08.TallyReals', WHERE WHAT IT READS IS OF BULK AT MOST 1048576: true; the input reads as it did. -/
def tallyRealsUptoRow : OpenClaim := { program := "ytkafcdgeboldgaadoor", sum := "be65722ddbd36bdba1b0b71900cce41b491dc0eb423cbd03199cfaab5fe3c947", func := "keepsake/keepsakelaw08.TallyReals", spec := "tallyReals", inPlace := ["math.Float64bits"], named := ["math/bits.deBruijn64tab"], apart := false, laid := [("math/bits.deBruijn64tab", laid_math_bits_deBruijn64tab)], narrowed := true }
def TallyRealsUptoSaid : Prop := tallyRealsUptoRow.holds Tryd.pinned (OpenSpec.upto tallyRealsSpec)

/-- 'keepsakelaw08.TallyCompares', WHERE WHAT IT READS IS OF BULK AT MOST 1048576: true; the input reads as it did. -/
def tallyComparesUptoRow : OpenClaim := { program := "ytkafcdgeboldgaadoor", sum := "be65722ddbd36bdba1b0b71900cce41b491dc0eb423cbd03199cfaab5fe3c947", func := "keepsake/keepsakelaw08.TallyCompares", spec := "tallyCompares", named := ["math/bits.deBruijn64tab"], apart := false, laid := [("math/bits.deBruijn64tab", laid_math_bits_deBruijn64tab)], narrowed := true }
def TallyComparesUptoSaid : Prop := tallyComparesUptoRow.holds Tryd.pinned (OpenSpec.upto tallyComparesSpec)

end Rows
end Go.Proofs.YtkafcdgeboldgaaDoor
