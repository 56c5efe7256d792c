/-
  No cell of these rows narrows 'for every input' (looked for: loops, veiled, ifaces, maps, wideKeys, modest, calm, conditions, laid).
  DERIVED. THE GIVEN ROWS OF THIS SEAT. 5 by the template 'for every input the law returns true; each argument reads behind the call as it read before'; 0 by the template 'total and deterministic' (their statements: YtfpomiimloohkaaTotals.lean).
  GIVEN WITH THE SEED: the statements are not yours to turn. If you find one false, say at which input.
  Laid BY PROGRAM, IN A SANDBOX (cutbox-rows.mjs): the forced cells as the released guide's own fill.sh prints them over the translation 7e73d839278811e5… (all of the seat's roots in one cut). By AI agents, Wed Nov 11 2026. No macro, syntax, notation, axiom, sorry.
-/
import Derived.Test.YtfpomiimloohkaaChecked
import GoSem.Claim
import GoSem.ClaimJoined
import GoSem.ClaimMapViews
import Derived.JoinedTies
import Derived.KernelRfl
namespace Go.Proofs.Ytfpomiimloohkaa
/- THE CELL 'sum', in the pinned program and in every row, IS THE sha256 OF THE DUMP (.gsa) THAT YtfpomiimloohkaaProg.lean LOADS. Nothing in Lean hashes anything: it is a label: what it is worth is what the hold of that sum in a sandbox is worth. -/
noncomputable def Try.pinned : Pinned := { name := "ytfpomiimloohkaa", sum := "7e73d839278811e57cefef07aa798261fffbb00d3ae34282e8fc10a426e94355", checked := Try.checked }
namespace Rows
def none {H : Type} : Left H := { results := [], args := [] }

/-- 'keepsakelaw10.TriggerTells': WHATEVER THE INPUT: true; the input reads as it did. -/
def triggerTellsSpec : ChangeSpec := { name := "triggerTells", fn := fun _ => fun
  | [d1, d2, d3, d4] => { results := [.lit (.bool true)], args := [d1, d2, d3, d4] }
  | _ => none }
def triggerTellsRow : OpenClaim := { program := "ytfpomiimloohkaa", sum := "7e73d839278811e57cefef07aa798261fffbb00d3ae34282e8fc10a426e94355", func := "keepsake/keepsakelaw10.TriggerTells", spec := "triggerTells", unfollowed := true, recurses := true, apart := false }
def TriggerTellsSaid : Prop := triggerTellsRow.holds Try.pinned (OpenSpec.ofChange triggerTellsSpec)

/-- ITS FALSE NEIGHBOUR: 'it returns false'. Refute it at one input. -/
def triggerTellsWrong : ChangeSpec := { name := "triggerTells", fn := fun _ => fun
  | [d1, d2, d3, d4] => { results := [.lit (.bool false)], args := [d1, d2, d3, d4] }
  | _ => none }
def TriggerTellsWrongFalsely : Prop := triggerTellsRow.holds Try.pinned (OpenSpec.ofChange triggerTellsWrong)

/-- 'keepsakelaw10.TriggerEvents': WHATEVER THE INPUT: true; the input reads as it did. -/
def triggerEventsSpec : ChangeSpec := { name := "triggerEvents", fn := fun _ => fun
  | [d1, d2, d3, d4] => { results := [.lit (.bool true)], args := [d1, d2, d3, d4] }
  | _ => none }
def triggerEventsRow : OpenClaim := { program := "ytfpomiimloohkaa", sum := "7e73d839278811e57cefef07aa798261fffbb00d3ae34282e8fc10a426e94355", func := "keepsake/keepsakelaw10.TriggerEvents", spec := "triggerEvents", unfollowed := true, recurses := true, apart := false }
def TriggerEventsSaid : Prop := triggerEventsRow.holds Try.pinned (OpenSpec.ofChange triggerEventsSpec)

/-- ITS FALSE NEIGHBOUR: 'it returns false'. Refute it at one input. -/
def triggerEventsWrong : ChangeSpec := { name := "triggerEvents", fn := fun _ => fun
  | [d1, d2, d3, d4] => { results := [.lit (.bool false)], args := [d1, d2, d3, d4] }
  | _ => none }
def TriggerEventsWrongFalsely : Prop := triggerEventsRow.holds Try.pinned (OpenSpec.ofChange triggerEventsWrong)

/-- 'keepsakelaw10.TriggerWindow': WHATEVER THE INPUT: true; the input reads as it did. -/
def triggerWindowSpec : ChangeSpec := { name := "triggerWindow", fn := fun _ => fun
  | [d1, d2, d3, d4] => { results := [.lit (.bool true)], args := [d1, d2, d3, d4] }
  | _ => none }
def triggerWindowRow : OpenClaim := { program := "ytfpomiimloohkaa", sum := "7e73d839278811e57cefef07aa798261fffbb00d3ae34282e8fc10a426e94355", func := "keepsake/keepsakelaw10.TriggerWindow", spec := "triggerWindow", unfollowed := true, recurses := true, apart := false }
def TriggerWindowSaid : Prop := triggerWindowRow.holds Try.pinned (OpenSpec.ofChange triggerWindowSpec)

/-- ITS FALSE NEIGHBOUR: 'it returns false'. Refute it at one input. -/
def triggerWindowWrong : ChangeSpec := { name := "triggerWindow", fn := fun _ => fun
  | [d1, d2, d3, d4] => { results := [.lit (.bool false)], args := [d1, d2, d3, d4] }
  | _ => none }
def TriggerWindowWrongFalsely : Prop := triggerWindowRow.holds Try.pinned (OpenSpec.ofChange triggerWindowWrong)

/-- 'keepsakelaw10.TriggerMarks': WHATEVER THE INPUT: true; the input reads as it did. -/
def triggerMarksSpec : ChangeSpec := { name := "triggerMarks", fn := fun _ => fun
  | [d1, d2, d3, d4] => { results := [.lit (.bool true)], args := [d1, d2, d3, d4] }
  | _ => none }
def triggerMarksRow : OpenClaim := { program := "ytfpomiimloohkaa", sum := "7e73d839278811e57cefef07aa798261fffbb00d3ae34282e8fc10a426e94355", func := "keepsake/keepsakelaw10.TriggerMarks", spec := "triggerMarks", unfollowed := true, recurses := true, apart := false }
def TriggerMarksSaid : Prop := triggerMarksRow.holds Try.pinned (OpenSpec.ofChange triggerMarksSpec)

/-- ITS FALSE NEIGHBOUR: 'it returns false'. Refute it at one input. -/
def triggerMarksWrong : ChangeSpec := { name := "triggerMarks", fn := fun _ => fun
  | [d1, d2, d3, d4] => { results := [.lit (.bool false)], args := [d1, d2, d3, d4] }
  | _ => none }
def TriggerMarksWrongFalsely : Prop := triggerMarksRow.holds Try.pinned (OpenSpec.ofChange triggerMarksWrong)

/-- 'keepsakelaw10.TriggerLeft': WHATEVER THE INPUT: true; the input reads as it did. -/
def triggerLeftSpec : ChangeSpec := { name := "triggerLeft", fn := fun _ => fun
  | [d1, d2, d3] => { results := [.lit (.bool true)], args := [d1, d2, d3] }
  | _ => none }
def triggerLeftRow : OpenClaim := { program := "ytfpomiimloohkaa", sum := "7e73d839278811e57cefef07aa798261fffbb00d3ae34282e8fc10a426e94355", func := "keepsake/keepsakelaw10.TriggerLeft", spec := "triggerLeft", unfollowed := true, recurses := true, apart := false }
def TriggerLeftSaid : Prop := triggerLeftRow.holds Try.pinned (OpenSpec.ofChange triggerLeftSpec)

/-- ITS FALSE NEIGHBOUR: 'it returns false'. Refute it at one input. -/
def triggerLeftWrong : ChangeSpec := { name := "triggerLeft", fn := fun _ => fun
  | [d1, d2, d3] => { results := [.lit (.bool false)], args := [d1, d2, d3] }
  | _ => none }
def TriggerLeftWrongFalsely : Prop := triggerLeftRow.holds Try.pinned (OpenSpec.ofChange triggerLeftWrong)

/- THE SECOND FORM. 'bulk': how many values and letters a reading holds, each counted each time it is reached (what is shared counts as often as it is met; a slice's spare places count too). A statement '..UptoSaid' is the law's where the arguments, and the package variables that the reading takes, are together of bulk at most 1048576: NARROWER than '..Said'. Prove '..Said' where nothing that the law and all that it calls make is longer than what came in: it says more and counts as full. Else prove '..UptoSaid'. A law counts once. -/
mutual
def uptoBulk {H : Type} : DataW H → Nat
  | .lit (.string bytes) => bytes.length + 1
  | .lit _ => 1
  | .nil => 1
  | .ptr d => uptoBulk d + 1
  | .slice elems spare => uptoBulkAll elems + uptoBulkAll spare + 1
  | .agg parts => uptoBulkAll parts + 1
  | .iface _ d => uptoBulk d + 1
  | .map entries => uptoBulkEntries entries + 1
  | .held _ => 1
def uptoBulkAll {H : Type} : List (DataW H) → Nat
  | [] => 0
  | d :: r => uptoBulk d + uptoBulkAll r
def uptoBulkEntries {H : Type} : List (Lit × DataW H) → Nat
  | [] => 0
  | x :: r => uptoBulkEntry x + uptoBulkEntries r
def uptoBulkEntry {H : Type} : Lit × DataW H → Nat
  | (.string bytes, d) => bytes.length + uptoBulk d + 1
  | (_, d) => uptoBulk d + 1
 end
def uptoSmall : (H : Type) → List (DataW H) → Bool := fun _ ds => decide (uptoBulkAll ds ≤ 1048576)
def OpenSpec.upto (s : _root_.Go.ChangeSpec) : _root_.Go.OpenSpec := { _root_.Go.OpenSpec.ofChange s with cond := some uptoSmall }

/-- 'keepsakelaw10.TriggerTells', WHERE WHAT IT READS IS OF BULK AT MOST 1048576: true; the input reads as it did. -/
def triggerTellsUptoRow : OpenClaim := { program := "ytfpomiimloohkaa", sum := "7e73d839278811e57cefef07aa798261fffbb00d3ae34282e8fc10a426e94355", func := "keepsake/keepsakelaw10.TriggerTells", spec := "triggerTells", unfollowed := true, recurses := true, apart := false, narrowed := true }
def TriggerTellsUptoSaid : Prop := triggerTellsUptoRow.holds Try.pinned (OpenSpec.upto triggerTellsSpec)

/-- 'keepsakelaw10.TriggerEvents', WHERE WHAT IT READS IS OF BULK AT MOST 1048576: true; the input reads as it did. -/
def triggerEventsUptoRow : OpenClaim := { program := "ytfpomiimloohkaa", sum := "7e73d839278811e57cefef07aa798261fffbb00d3ae34282e8fc10a426e94355", func := "keepsake/keepsakelaw10.TriggerEvents", spec := "triggerEvents", unfollowed := true, recurses := true, apart := false, narrowed := true }
def TriggerEventsUptoSaid : Prop := triggerEventsUptoRow.holds Try.pinned (OpenSpec.upto triggerEventsSpec)

/-- 'keepsakelaw10.TriggerWindow', WHERE WHAT IT READS IS OF BULK AT MOST 1048576: true; the input reads as it did. -/
def triggerWindowUptoRow : OpenClaim := { program := "ytfpomiimloohkaa", sum := "7e73d839278811e57cefef07aa798261fffbb00d3ae34282e8fc10a426e94355", func := "keepsake/keepsakelaw10.TriggerWindow", spec := "triggerWindow", unfollowed := true, recurses := true, apart := false, narrowed := true }
def TriggerWindowUptoSaid : Prop := triggerWindowUptoRow.holds Try.pinned (OpenSpec.upto triggerWindowSpec)

/-- 'keepsakelaw10.TriggerMarks', WHERE WHAT IT READS IS OF BULK AT MOST 1048576: true; the input reads as it did. -/
def triggerMarksUptoRow : OpenClaim := { program := "ytfpomiimloohkaa", sum := "7e73d839278811e57cefef07aa798261fffbb00d3ae34282e8fc10a426e94355", func := "keepsake/keepsakelaw10.TriggerMarks", spec := "triggerMarks", unfollowed := true, recurses := true, apart := false, narrowed := true }
def TriggerMarksUptoSaid : Prop := triggerMarksUptoRow.holds Try.pinned (OpenSpec.upto triggerMarksSpec)

/-- 'keepsakelaw10.TriggerLeft', WHERE WHAT IT READS IS OF BULK AT MOST 1048576: true; the input reads as it did. -/
def triggerLeftUptoRow : OpenClaim := { program := "ytfpomiimloohkaa", sum := "7e73d839278811e57cefef07aa798261fffbb00d3ae34282e8fc10a426e94355", func := "keepsake/keepsakelaw10.TriggerLeft", spec := "triggerLeft", unfollowed := true, recurses := true, apart := false, narrowed := true }
def TriggerLeftUptoSaid : Prop := triggerLeftUptoRow.holds Try.pinned (OpenSpec.upto triggerLeftSpec)

end Rows
end Go.Proofs.Ytfpomiimloohkaa
