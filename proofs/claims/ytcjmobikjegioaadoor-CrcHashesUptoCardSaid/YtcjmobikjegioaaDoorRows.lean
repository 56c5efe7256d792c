/-
  NARROWER THAN 'FOR EVERY INPUT', by the rows' own cells (each row's printed sentence says how): CrcSums: laid · CrcCarries: laid · CrcSpoilt: laid · CrcJoins: laid · CrcBytes: laid · CrcTable: laid · CrcHashes: laid · CrcBursts: laid.
  DERIVED. THE GIVEN ROWS OF THIS SEAT. 8 by the template 'for every input the law returns true; each argument reads behind the call as it read before'; 0 by the template 'total and deterministic' (their statements: YtcjmobikjegioaaDoorTotals.lean).
  GIVEN WITH THE SEED: the statements are not yours to turn. If you find one false, say at which input.
  Laid BY PROGRAM, IN A SANDBOX (cutbox-rows.mjs): the forced cells as the released guide's own fill.sh prints them over the translation 245f07958019a928… (all of the seat's roots in one cut). By AI agents, Wed Nov 11 2026. No macro, syntax, notation, axiom, sorry.
-/
import Derived.Test.YtcjmobikjegioaaDoorChecked
import GoSem.Claim
import GoSem.ClaimJoined
import GoSem.ClaimMapViews
import Derived.JoinedTies
import Derived.KernelRfl
namespace Go.Proofs.YtcjmobikjegioaaDoor
/- THE CELL 'sum', in the pinned program and in every row, IS THE sha256 OF THE DUMP (.gsa) THAT YtcjmobikjegioaaDoorProg.lean LOADS. Nothing in Lean hashes anything: it is a label: what it is worth is what the hold of that sum in a sandbox is worth. -/
noncomputable def Tryd.pinned : Pinned := { name := "ytcjmobikjegioaadoor", sum := "245f07958019a928a56e2b52db453daf84f7ca4a82ffe9924093145f1e5f1b70", checked := Tryd.checked }
namespace Rows
def none {H : Type} : Left H := { results := [], args := [] }

/- WHAT THE LISTED PACKAGE-LEVEL VARIABLES READ AS WHEN THE CALL BEGINS. Each datum BY PROGRAM (the guide's laid-datum.mjs) off the statement by which the dump's own 'gosem.cut.vars' lays the variable. In a bare row this is a premise. The card (YtcjmobikjegioaaDoorCards.lean) ties it to the program's text. -/
def laid_keepsake_crc_fours {H : Type} : DataW H := .agg [.lit (.int .u32 0), .lit (.int .u32 274646895), .lit (.int .u32 549293790), .lit (.int .u32 820201905), .lit (.int .u32 1098587580), .lit (.int .u32 1361435347), .lit (.int .u32 1640403810), .lit (.int .u32 1905808397), .lit (.int .u32 2197175160), .lit (.int .u32 2460548119), .lit (.int .u32 2722870694), .lit (.int .u32 2987750089), .lit (.int .u32 3280807620), .lit (.int .u32 3553878443), .lit (.int .u32 3811616794), .lit (.int .u32 4084100981)]

/-- 'keepsakelaw02.CrcSums': WHATEVER THE INPUT: true; the input reads as it did. -/
def crcSumsSpec : ChangeSpec := { name := "crcSums", fn := fun _ => fun
  | [d1, d2] => { results := [.lit (.bool true)], args := [d1, d2] }
  | _ => none }
def crcSumsRow : OpenClaim := { program := "ytcjmobikjegioaadoor", sum := "245f07958019a928a56e2b52db453daf84f7ca4a82ffe9924093145f1e5f1b70", func := "keepsake/keepsakelaw02.CrcSums", spec := "crcSums", named := ["keepsake/crc.fours"], apart := false, laid := [("keepsake/crc.fours", laid_keepsake_crc_fours)] }
def CrcSumsSaid : Prop := crcSumsRow.holds Tryd.pinned (OpenSpec.ofChange crcSumsSpec)

/-- ITS FALSE NEIGHBOUR: 'it returns false'. Refute it at one input. -/
def crcSumsWrong : ChangeSpec := { name := "crcSums", fn := fun _ => fun
  | [d1, d2] => { results := [.lit (.bool false)], args := [d1, d2] }
  | _ => none }
def CrcSumsWrongFalsely : Prop := crcSumsRow.holds Tryd.pinned (OpenSpec.ofChange crcSumsWrong)

/-- 'keepsakelaw02.CrcCarries': WHATEVER THE INPUT: true; the input reads as it did. -/
def crcCarriesSpec : ChangeSpec := { name := "crcCarries", fn := fun _ => fun
  | [d1, d2, d3] => { results := [.lit (.bool true)], args := [d1, d2, d3] }
  | _ => none }
def crcCarriesRow : OpenClaim := { program := "ytcjmobikjegioaadoor", sum := "245f07958019a928a56e2b52db453daf84f7ca4a82ffe9924093145f1e5f1b70", func := "keepsake/keepsakelaw02.CrcCarries", spec := "crcCarries", named := ["keepsake/crc.fours"], apart := false, laid := [("keepsake/crc.fours", laid_keepsake_crc_fours)] }
def CrcCarriesSaid : Prop := crcCarriesRow.holds Tryd.pinned (OpenSpec.ofChange crcCarriesSpec)

/-- ITS FALSE NEIGHBOUR: 'it returns false'. Refute it at one input. -/
def crcCarriesWrong : ChangeSpec := { name := "crcCarries", fn := fun _ => fun
  | [d1, d2, d3] => { results := [.lit (.bool false)], args := [d1, d2, d3] }
  | _ => none }
def CrcCarriesWrongFalsely : Prop := crcCarriesRow.holds Tryd.pinned (OpenSpec.ofChange crcCarriesWrong)

/-- 'keepsakelaw02.CrcSpoilt': WHATEVER THE INPUT: true; the input reads as it did. -/
def crcSpoiltSpec : ChangeSpec := { name := "crcSpoilt", fn := fun _ => fun
  | [d1, d2, d3] => { results := [.lit (.bool true)], args := [d1, d2, d3] }
  | _ => none }
def crcSpoiltRow : OpenClaim := { program := "ytcjmobikjegioaadoor", sum := "245f07958019a928a56e2b52db453daf84f7ca4a82ffe9924093145f1e5f1b70", func := "keepsake/keepsakelaw02.CrcSpoilt", spec := "crcSpoilt", named := ["keepsake/crc.fours"], apart := false, laid := [("keepsake/crc.fours", laid_keepsake_crc_fours)] }
def CrcSpoiltSaid : Prop := crcSpoiltRow.holds Tryd.pinned (OpenSpec.ofChange crcSpoiltSpec)

/-- ITS FALSE NEIGHBOUR: 'it returns false'. Refute it at one input. -/
def crcSpoiltWrong : ChangeSpec := { name := "crcSpoilt", fn := fun _ => fun
  | [d1, d2, d3] => { results := [.lit (.bool false)], args := [d1, d2, d3] }
  | _ => none }
def CrcSpoiltWrongFalsely : Prop := crcSpoiltRow.holds Tryd.pinned (OpenSpec.ofChange crcSpoiltWrong)

/-- 'keepsakelaw02.CrcJoins': WHATEVER THE INPUT: true; the input reads as it did. -/
def crcJoinsSpec : ChangeSpec := { name := "crcJoins", fn := fun _ => fun
  | [d1, d2, d3] => { results := [.lit (.bool true)], args := [d1, d2, d3] }
  | _ => none }
def crcJoinsRow : OpenClaim := { program := "ytcjmobikjegioaadoor", sum := "245f07958019a928a56e2b52db453daf84f7ca4a82ffe9924093145f1e5f1b70", func := "keepsake/keepsakelaw02.CrcJoins", spec := "crcJoins", named := ["keepsake/crc.fours"], apart := false, laid := [("keepsake/crc.fours", laid_keepsake_crc_fours)] }
def CrcJoinsSaid : Prop := crcJoinsRow.holds Tryd.pinned (OpenSpec.ofChange crcJoinsSpec)

/-- ITS FALSE NEIGHBOUR: 'it returns false'. Refute it at one input. -/
def crcJoinsWrong : ChangeSpec := { name := "crcJoins", fn := fun _ => fun
  | [d1, d2, d3] => { results := [.lit (.bool false)], args := [d1, d2, d3] }
  | _ => none }
def CrcJoinsWrongFalsely : Prop := crcJoinsRow.holds Tryd.pinned (OpenSpec.ofChange crcJoinsWrong)

/-- 'keepsakelaw02.CrcBytes': WHATEVER THE INPUT: true; the input reads as it did. -/
def crcBytesSpec : ChangeSpec := { name := "crcBytes", fn := fun _ => fun
  | [d1, d2] => { results := [.lit (.bool true)], args := [d1, d2] }
  | _ => none }
def crcBytesRow : OpenClaim := { program := "ytcjmobikjegioaadoor", sum := "245f07958019a928a56e2b52db453daf84f7ca4a82ffe9924093145f1e5f1b70", func := "keepsake/keepsakelaw02.CrcBytes", spec := "crcBytes", named := ["keepsake/crc.fours"], apart := false, laid := [("keepsake/crc.fours", laid_keepsake_crc_fours)] }
def CrcBytesSaid : Prop := crcBytesRow.holds Tryd.pinned (OpenSpec.ofChange crcBytesSpec)

/-- ITS FALSE NEIGHBOUR: 'it returns false'. Refute it at one input. -/
def crcBytesWrong : ChangeSpec := { name := "crcBytes", fn := fun _ => fun
  | [d1, d2] => { results := [.lit (.bool false)], args := [d1, d2] }
  | _ => none }
def CrcBytesWrongFalsely : Prop := crcBytesRow.holds Tryd.pinned (OpenSpec.ofChange crcBytesWrong)

/-- 'keepsakelaw02.CrcTable': WHATEVER THE INPUT: true; the input reads as it did. -/
def crcTableSpec : ChangeSpec := { name := "crcTable", fn := fun _ => fun
  | [] => { results := [.lit (.bool true)], args := [] }
  | _ => none }
def crcTableRow : OpenClaim := { program := "ytcjmobikjegioaadoor", sum := "245f07958019a928a56e2b52db453daf84f7ca4a82ffe9924093145f1e5f1b70", func := "keepsake/keepsakelaw02.CrcTable", spec := "crcTable", named := ["keepsake/crc.fours"], apart := false, laid := [("keepsake/crc.fours", laid_keepsake_crc_fours)] }
def CrcTableSaid : Prop := crcTableRow.holds Tryd.pinned (OpenSpec.ofChange crcTableSpec)

/-- ITS FALSE NEIGHBOUR: 'it returns false'. Refute it at one input. -/
def crcTableWrong : ChangeSpec := { name := "crcTable", fn := fun _ => fun
  | [] => { results := [.lit (.bool false)], args := [] }
  | _ => none }
def CrcTableWrongFalsely : Prop := crcTableRow.holds Tryd.pinned (OpenSpec.ofChange crcTableWrong)

/-- 'keepsakelaw02.CrcHashes': WHATEVER THE INPUT: true; the input reads as it did. -/
def crcHashesSpec : ChangeSpec := { name := "crcHashes", fn := fun _ => fun
  | [d] => { results := [.lit (.bool true)], args := [d] }
  | _ => none }
def crcHashesRow : OpenClaim := { program := "ytcjmobikjegioaadoor", sum := "245f07958019a928a56e2b52db453daf84f7ca4a82ffe9924093145f1e5f1b70", func := "keepsake/keepsakelaw02.CrcHashes", spec := "crcHashes", named := ["keepsake/crc.fours"], apart := false, laid := [("keepsake/crc.fours", laid_keepsake_crc_fours)] }
def CrcHashesSaid : Prop := crcHashesRow.holds Tryd.pinned (OpenSpec.ofChange crcHashesSpec)

/-- ITS FALSE NEIGHBOUR: 'it returns false'. Refute it at one input. -/
def crcHashesWrong : ChangeSpec := { name := "crcHashes", fn := fun _ => fun
  | [d] => { results := [.lit (.bool false)], args := [d] }
  | _ => none }
def CrcHashesWrongFalsely : Prop := crcHashesRow.holds Tryd.pinned (OpenSpec.ofChange crcHashesWrong)

/-- 'keepsakelaw02.CrcBursts': WHATEVER THE INPUT: true; the input reads as it did. -/
def crcBurstsSpec : ChangeSpec := { name := "crcBursts", fn := fun _ => fun
  | [d1, d2] => { results := [.lit (.bool true)], args := [d1, d2] }
  | _ => none }
def crcBurstsRow : OpenClaim := { program := "ytcjmobikjegioaadoor", sum := "245f07958019a928a56e2b52db453daf84f7ca4a82ffe9924093145f1e5f1b70", func := "keepsake/keepsakelaw02.CrcBursts", spec := "crcBursts", named := ["keepsake/crc.fours"], apart := false, laid := [("keepsake/crc.fours", laid_keepsake_crc_fours)] }
def CrcBurstsSaid : Prop := crcBurstsRow.holds Tryd.pinned (OpenSpec.ofChange crcBurstsSpec)

/-- ITS FALSE NEIGHBOUR: 'it returns false'. Refute it at one input. -/
def crcBurstsWrong : ChangeSpec := { name := "crcBursts", fn := fun _ => fun
  | [d1, d2] => { results := [.lit (.bool false)], args := [d1, d2] }
  | _ => none }
def CrcBurstsWrongFalsely : Prop := crcBurstsRow.holds Tryd.pinned (OpenSpec.ofChange crcBurstsWrong)

/- THE SECOND FORM. 'bulk': how many values and letters a reading holds, each counted each time it is reached (what is shared counts as often as it is met; a slice's spare places count too). A statement '..UptoSaid' is the law's where the arguments, and the package variables that the reading takes, are together of bulk at most 1048576: NARROWER than '..Said'. Prove '..Said' where nothing that the law and all that it calls make is longer than what came in: it says more and counts as full. Else prove '..UptoSaid'. A law counts once. -/
mutual
def uptoBulk {H : Type} : DataW H → Nat
  | .lit (.string bytes) => bytes.length + 1
  | .lit _ => 1
  | .nil => 1
  | .ptr d => uptoBulk d + 1
  | .slice elems spare => uptoBulkAll elems + uptoBulkAll spare + 1
  | .agg parts => uptoBulkAll parts + 1
  | .iface _ d => uptoBulk d + 1
  | .map entries => uptoBulkEntries entries + 1
  | .held _ => 1
def uptoBulkAll {H : Type} : List (DataW H) → Nat
  | [] => 0
  | d :: r => uptoBulk d + uptoBulkAll r
def uptoBulkEntries {H : Type} : List (Lit × DataW H) → Nat
  | [] => 0
  | x :: r => uptoBulkEntry x + uptoBulkEntries r
def uptoBulkEntry {H : Type} : Lit × DataW H → Nat
  | (.string bytes, d) => bytes.length + uptoBulk d + 1
  | (_, d) => uptoBulk d + 1
 end
def uptoSmall : (H : Type) → List (DataW H) → Bool := fun _ ds => decide (uptoBulkAll ds ≤ 1048576)
def OpenSpec.upto (s : _root_.Go.ChangeSpec) : _root_.Go.OpenSpec := { _root_.Go.OpenSpec.ofChange s with cond := some uptoSmall }

/-- 'keepsakelaw02.CrcSums', WHERE WHAT IT READS IS OF BULK AT MOST 1048576: true; the input reads as it did. -/
def crcSumsUptoRow : OpenClaim := { program := "ytcjmobikjegioaadoor", sum := "245f07958019a928a56e2b52db453daf84f7ca4a82ffe9924093145f1e5f1b70", func := "keepsake/keepsakelaw02.CrcSums", spec := "crcSums", named := ["keepsake/crc.fours"], apart := false, laid := [("keepsake/crc.fours", laid_keepsake_crc_fours)], narrowed := true }
def CrcSumsUptoSaid : Prop := crcSumsUptoRow.holds Tryd.pinned (OpenSpec.upto crcSumsSpec)

/-- 'keepsakelaw02.CrcCarries', WHERE WHAT IT READS IS OF BULK AT MOST 1048576: true; the input reads as it did. -/
def crcCarriesUptoRow : OpenClaim := { program := "ytcjmobikjegioaadoor", sum := "245f07958019a928a56e2b52db453daf84f7ca4a82ffe9924093145f1e5f1b70", func := "keepsake/keepsakelaw02.CrcCarries", spec := "crcCarries", named := ["keepsake/crc.fours"], apart := false, laid := [("keepsake/crc.fours", laid_keepsake_crc_fours)], narrowed := true }
def CrcCarriesUptoSaid : Prop := crcCarriesUptoRow.holds Tryd.pinned (OpenSpec.upto crcCarriesSpec)

/-- 'keepsakelaw02.CrcSpoilt', WHERE WHAT IT READS IS OF BULK AT MOST 1048576: true; the input reads as it did. -/
def crcSpoiltUptoRow : OpenClaim := { program := "ytcjmobikjegioaadoor", sum := "245f07958019a928a56e2b52db453daf84f7ca4a82ffe9924093145f1e5f1b70", func := "keepsake/keepsakelaw02.CrcSpoilt", spec := "crcSpoilt", named := ["keepsake/crc.fours"], apart := false, laid := [("keepsake/crc.fours", laid_keepsake_crc_fours)], narrowed := true }
def CrcSpoiltUptoSaid : Prop := crcSpoiltUptoRow.holds Tryd.pinned (OpenSpec.upto crcSpoiltSpec)

/-- 'keepsakelaw02.CrcJoins', WHERE WHAT IT READS IS OF BULK AT MOST 1048576: true; the input reads as it did. -/
def crcJoinsUptoRow : OpenClaim := { program := "ytcjmobikjegioaadoor", sum := "245f07958019a928a56e2b52db453daf84f7ca4a82ffe9924093145f1e5f1b70", func := "keepsake/keepsakelaw02.CrcJoins", spec := "crcJoins", named := ["keepsake/crc.fours"], apart := false, laid := [("keepsake/crc.fours", laid_keepsake_crc_fours)], narrowed := true }
def CrcJoinsUptoSaid : Prop := crcJoinsUptoRow.holds Tryd.pinned (OpenSpec.upto crcJoinsSpec)

/-- 'keepsakelaw02.CrcBytes', WHERE WHAT IT READS IS OF BULK AT MOST 1048576: true; the input reads as it did. -/
def crcBytesUptoRow : OpenClaim := { program := "ytcjmobikjegioaadoor", sum := "245f07958019a928a56e2b52db453daf84f7ca4a82ffe9924093145f1e5f1b70", func := "keepsake/keepsakelaw02.CrcBytes", spec := "crcBytes", named := ["keepsake/crc.fours"], apart := false, laid := [("keepsake/crc.fours", laid_keepsake_crc_fours)], narrowed := true }
def CrcBytesUptoSaid : Prop := crcBytesUptoRow.holds Tryd.pinned (OpenSpec.upto crcBytesSpec)

/-- 'keepsakelaw02.CrcTable', WHERE WHAT IT READS IS OF BULK AT MOST 1048576: true; the input reads as it did. -/
def crcTableUptoRow : OpenClaim := { program := "ytcjmobikjegioaadoor", sum := "245f07958019a928a56e2b52db453daf84f7ca4a82ffe9924093145f1e5f1b70", func := "keepsake/keepsakelaw02.CrcTable", spec := "crcTable", named := ["keepsake/crc.fours"], apart := false, laid := [("keepsake/crc.fours", laid_keepsake_crc_fours)], narrowed := true }
def CrcTableUptoSaid : Prop := crcTableUptoRow.holds Tryd.pinned (OpenSpec.upto crcTableSpec)

/-- 'keepsakelaw02.CrcHashes', WHERE WHAT IT READS IS OF BULK AT MOST 1048576: true; the input reads as it did. -/
def crcHashesUptoRow : OpenClaim := { program := "ytcjmobikjegioaadoor", sum := "245f07958019a928a56e2b52db453daf84f7ca4a82ffe9924093145f1e5f1b70", func := "keepsake/keepsakelaw02.CrcHashes", spec := "crcHashes", named := ["keepsake/crc.fours"], apart := false, laid := [("keepsake/crc.fours", laid_keepsake_crc_fours)], narrowed := true }
def CrcHashesUptoSaid : Prop := crcHashesUptoRow.holds Tryd.pinned (OpenSpec.upto crcHashesSpec)

/-- 'keepsakelaw02.CrcBursts', WHERE WHAT IT READS IS OF BULK AT MOST 1048576: true; the input reads as it did. -/
def crcBurstsUptoRow : OpenClaim := { program := "ytcjmobikjegioaadoor", sum := "245f07958019a928a56e2b52db453daf84f7ca4a82ffe9924093145f1e5f1b70", func := "keepsake/keepsakelaw02.CrcBursts", spec := "crcBursts", named := ["keepsake/crc.fours"], apart := false, laid := [("keepsake/crc.fours", laid_keepsake_crc_fours)], narrowed := true }
def CrcBurstsUptoSaid : Prop := crcBurstsUptoRow.holds Tryd.pinned (OpenSpec.upto crcBurstsSpec)

end Rows
end Go.Proofs.YtcjmobikjegioaaDoor
