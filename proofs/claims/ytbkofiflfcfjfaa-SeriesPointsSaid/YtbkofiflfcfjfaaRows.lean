/-
  No cell of these rows narrows 'for every input' (looked for: loops, veiled, ifaces, maps, wideKeys, modest, calm, conditions, laid).
  DERIVED. THE GIVEN ROWS OF THIS SEAT. 6 by the template 'for every input the law returns true; each argument reads behind the call as it read before'; 0 by the template 'total and deterministic' (their statements: YtbkofiflfcfjfaaTotals.lean).
  GIVEN WITH THE SEED: the statements are not yours to turn. If you find one false, say at which input.
  Laid BY PROGRAM, IN A SANDBOX (cutbox-rows.mjs): the forced cells as the released guide's own fill.sh prints them over the translation 17e6b92c2795723c… (all of the seat's roots in one cut). By AI agents, Wed Nov 11 2026. No macro, syntax, notation, axiom, sorry.
-/
import Derived.Test.YtbkofiflfcfjfaaChecked
import GoSem.Claim
import GoSem.ClaimJoined
import GoSem.ClaimMapViews
import Derived.JoinedTies
import Derived.KernelRfl
namespace Go.Proofs.Ytbkofiflfcfjfaa
/- THE CELL 'sum', in the pinned program and in every row, IS THE sha256 OF THE DUMP (.gsa) THAT YtbkofiflfcfjfaaProg.lean LOADS. Nothing in Lean hashes anything: it is a label: what it is worth is what the hold of that sum in a sandbox is worth. -/
noncomputable def Try.pinned : Pinned := { name := "ytbkofiflfcfjfaa", sum := "17e6b92c2795723c322a2fe2ebacd0835f4c47c95d800c9ac234e06b09abf579", checked := Try.checked }
namespace Rows
def none {H : Type} : Left H := { results := [], args := [] }

/-- 'keepsakelaw30.SeriesLine': WHATEVER THE INPUT: true; the input reads as it did. -/
def seriesLineSpec : ChangeSpec := { name := "seriesLine", fn := fun _ => fun
  | [d1, d2] => { results := [.lit (.bool true)], args := [d1, d2] }
  | _ => none }
def seriesLineRow : OpenClaim := { program := "ytbkofiflfcfjfaa", sum := "17e6b92c2795723c322a2fe2ebacd0835f4c47c95d800c9ac234e06b09abf579", func := "keepsake/keepsakelaw30.SeriesLine", spec := "seriesLine", inPlace := ["math.sqrt", "math.Float64frombits"], apart := false }
def SeriesLineSaid : Prop := seriesLineRow.holds Try.pinned (OpenSpec.ofChange seriesLineSpec)

/-- ITS FALSE NEIGHBOUR: 'it returns false'. Refute it at one input. -/
def seriesLineWrong : ChangeSpec := { name := "seriesLine", fn := fun _ => fun
  | [d1, d2] => { results := [.lit (.bool false)], args := [d1, d2] }
  | _ => none }
def SeriesLineWrongFalsely : Prop := seriesLineRow.holds Try.pinned (OpenSpec.ofChange seriesLineWrong)

/-- 'keepsakelaw30.SeriesFold': WHATEVER THE INPUT: true; the input reads as it did. -/
def seriesFoldSpec : ChangeSpec := { name := "seriesFold", fn := fun _ => fun
  | [d] => { results := [.lit (.bool true)], args := [d] }
  | _ => none }
def seriesFoldRow : OpenClaim := { program := "ytbkofiflfcfjfaa", sum := "17e6b92c2795723c322a2fe2ebacd0835f4c47c95d800c9ac234e06b09abf579", func := "keepsake/keepsakelaw30.SeriesFold", spec := "seriesFold", inPlace := ["math.sqrt", "math.Float64frombits"], apart := false }
def SeriesFoldSaid : Prop := seriesFoldRow.holds Try.pinned (OpenSpec.ofChange seriesFoldSpec)

/-- ITS FALSE NEIGHBOUR: 'it returns false'. Refute it at one input. -/
def seriesFoldWrong : ChangeSpec := { name := "seriesFold", fn := fun _ => fun
  | [d] => { results := [.lit (.bool false)], args := [d] }
  | _ => none }
def SeriesFoldWrongFalsely : Prop := seriesFoldRow.holds Try.pinned (OpenSpec.ofChange seriesFoldWrong)

/-- 'keepsakelaw30.SeriesTones': WHATEVER THE INPUT: true; the input reads as it did. -/
def seriesTonesSpec : ChangeSpec := { name := "seriesTones", fn := fun _ => fun
  | [d1, d2] => { results := [.lit (.bool true)], args := [d1, d2] }
  | _ => none }
def seriesTonesRow : OpenClaim := { program := "ytbkofiflfcfjfaa", sum := "17e6b92c2795723c322a2fe2ebacd0835f4c47c95d800c9ac234e06b09abf579", func := "keepsake/keepsakelaw30.SeriesTones", spec := "seriesTones", inPlace := ["math.sqrt", "math.Float64frombits", "math.Float64bits"], apart := false }
def SeriesTonesSaid : Prop := seriesTonesRow.holds Try.pinned (OpenSpec.ofChange seriesTonesSpec)

/-- ITS FALSE NEIGHBOUR: 'it returns false'. Refute it at one input. -/
def seriesTonesWrong : ChangeSpec := { name := "seriesTones", fn := fun _ => fun
  | [d1, d2] => { results := [.lit (.bool false)], args := [d1, d2] }
  | _ => none }
def SeriesTonesWrongFalsely : Prop := seriesTonesRow.holds Try.pinned (OpenSpec.ofChange seriesTonesWrong)

/-- 'keepsakelaw30.SeriesRows': WHATEVER THE INPUT: true; the input reads as it did. -/
def seriesRowsSpec : ChangeSpec := { name := "seriesRows", fn := fun _ => fun
  | [d1, d2, d3] => { results := [.lit (.bool true)], args := [d1, d2, d3] }
  | _ => none }
def seriesRowsRow : OpenClaim := { program := "ytbkofiflfcfjfaa", sum := "17e6b92c2795723c322a2fe2ebacd0835f4c47c95d800c9ac234e06b09abf579", func := "keepsake/keepsakelaw30.SeriesRows", spec := "seriesRows", inPlace := ["math.sqrt", "math.Float64frombits", "math.Float64bits"], apart := false }
def SeriesRowsSaid : Prop := seriesRowsRow.holds Try.pinned (OpenSpec.ofChange seriesRowsSpec)

/-- ITS FALSE NEIGHBOUR: 'it returns false'. Refute it at one input. -/
def seriesRowsWrong : ChangeSpec := { name := "seriesRows", fn := fun _ => fun
  | [d1, d2, d3] => { results := [.lit (.bool false)], args := [d1, d2, d3] }
  | _ => none }
def SeriesRowsWrongFalsely : Prop := seriesRowsRow.holds Try.pinned (OpenSpec.ofChange seriesRowsWrong)

/-- 'keepsakelaw30.SeriesWhole': WHATEVER THE INPUT: true; the input reads as it did. -/
def seriesWholeSpec : ChangeSpec := { name := "seriesWhole", fn := fun _ => fun
  | [d] => { results := [.lit (.bool true)], args := [d] }
  | _ => none }
def seriesWholeRow : OpenClaim := { program := "ytbkofiflfcfjfaa", sum := "17e6b92c2795723c322a2fe2ebacd0835f4c47c95d800c9ac234e06b09abf579", func := "keepsake/keepsakelaw30.SeriesWhole", spec := "seriesWhole", inPlace := ["math.sqrt"], apart := false }
def SeriesWholeSaid : Prop := seriesWholeRow.holds Try.pinned (OpenSpec.ofChange seriesWholeSpec)

/-- ITS FALSE NEIGHBOUR: 'it returns false'. Refute it at one input. -/
def seriesWholeWrong : ChangeSpec := { name := "seriesWhole", fn := fun _ => fun
  | [d] => { results := [.lit (.bool false)], args := [d] }
  | _ => none }
def SeriesWholeWrongFalsely : Prop := seriesWholeRow.holds Try.pinned (OpenSpec.ofChange seriesWholeWrong)

/-- 'keepsakelaw30.SeriesPoints': WHATEVER THE INPUT: true; the input reads as it did. -/
def seriesPointsSpec : ChangeSpec := { name := "seriesPoints", fn := fun _ => fun
  | [d1, d2, d3] => { results := [.lit (.bool true)], args := [d1, d2, d3] }
  | _ => none }
def seriesPointsRow : OpenClaim := { program := "ytbkofiflfcfjfaa", sum := "17e6b92c2795723c322a2fe2ebacd0835f4c47c95d800c9ac234e06b09abf579", func := "keepsake/keepsakelaw30.SeriesPoints", spec := "seriesPoints", inPlace := ["math.sqrt", "math.Float64frombits"], unfollowed := true, recurses := true, apart := false }
def SeriesPointsSaid : Prop := seriesPointsRow.holds Try.pinned (OpenSpec.ofChange seriesPointsSpec)

/-- ITS FALSE NEIGHBOUR: 'it returns false'. Refute it at one input. -/
def seriesPointsWrong : ChangeSpec := { name := "seriesPoints", fn := fun _ => fun
  | [d1, d2, d3] => { results := [.lit (.bool false)], args := [d1, d2, d3] }
  | _ => none }
def SeriesPointsWrongFalsely : Prop := seriesPointsRow.holds Try.pinned (OpenSpec.ofChange seriesPointsWrong)

/- THE SECOND FORM. 'bulk': how many values and letters a reading holds, each counted each time it is reached (what is shared counts as often as it is met; a slice's spare places count too). A statement '..UptoSaid' is the law's where the arguments, and the package variables that the reading takes, are together of bulk at most 1048576: NARROWER than '..Said'. Prove '..Said' where nothing that the law and all that it calls make is longer than what came in: it says more and counts as full. Else prove '..UptoSaid'. A law counts once. -/
mutual
def uptoBulk {H : Type} : DataW H → Nat
  | .lit (.string bytes) => bytes.length + 1
  | .lit _ => 1
  | .nil => 1
  | .ptr d => uptoBulk d + 1
  | .slice elems spare => uptoBulkAll elems + uptoBulkAll spare + 1
  | .agg parts => uptoBulkAll parts + 1
  | .iface _ d => uptoBulk d + 1
  | .map entries => uptoBulkEntries entries + 1
  | .held _ => 1
def uptoBulkAll {H : Type} : List (DataW H) → Nat
  | [] => 0
  | d :: r => uptoBulk d + uptoBulkAll r
def uptoBulkEntries {H : Type} : List (Lit × DataW H) → Nat
  | [] => 0
  | x :: r => uptoBulkEntry x + uptoBulkEntries r
def uptoBulkEntry {H : Type} : Lit × DataW H → Nat
  | (.string bytes, d) => bytes.length + uptoBulk d + 1
  | (_, d) => uptoBulk d + 1
 end
def uptoSmall : (H : Type) → List (DataW H) → Bool := fun _ ds => decide (uptoBulkAll ds ≤ 1048576)
def OpenSpec.upto (s : _root_.Go.ChangeSpec) : _root_.Go.OpenSpec := { _root_.Go.OpenSpec.ofChange s with cond := some uptoSmall }

/-- 'keepsakelaw30.SeriesLine', WHERE WHAT IT READS IS OF BULK AT MOST 1048576: true; the input reads as it did. -/
def seriesLineUptoRow : OpenClaim := { program := "ytbkofiflfcfjfaa", sum := "17e6b92c2795723c322a2fe2ebacd0835f4c47c95d800c9ac234e06b09abf579", func := "keepsake/keepsakelaw30.SeriesLine", spec := "seriesLine", inPlace := ["math.sqrt", "math.Float64frombits"], apart := false, narrowed := true }
def SeriesLineUptoSaid : Prop := seriesLineUptoRow.holds Try.pinned (OpenSpec.upto seriesLineSpec)

/-- 'keepsakelaw30.SeriesFold', WHERE WHAT IT READS IS OF BULK AT MOST 1048576: true; the input reads as it did. -/
def seriesFoldUptoRow : OpenClaim := { program := "ytbkofiflfcfjfaa", sum := "17e6b92c2795723c322a2fe2ebacd0835f4c47c95d800c9ac234e06b09abf579", func := "keepsake/keepsakelaw30.SeriesFold", spec := "seriesFold", inPlace := ["math.sqrt", "math.Float64frombits"], apart := false, narrowed := true }
def SeriesFoldUptoSaid : Prop := seriesFoldUptoRow.holds Try.pinned (OpenSpec.upto seriesFoldSpec)

/-- 'keepsakelaw30.SeriesTones', WHERE WHAT IT READS IS OF BULK AT MOST 1048576: true; the input reads as it did. -/
def seriesTonesUptoRow : OpenClaim := { program := "ytbkofiflfcfjfaa", sum := "17e6b92c2795723c322a2fe2ebacd0835f4c47c95d800c9ac234e06b09abf579", func := "keepsake/keepsakelaw30.SeriesTones", spec := "seriesTones", inPlace := ["math.sqrt", "math.Float64frombits", "math.Float64bits"], apart := false, narrowed := true }
def SeriesTonesUptoSaid : Prop := seriesTonesUptoRow.holds Try.pinned (OpenSpec.upto seriesTonesSpec)

/-- 'keepsakelaw30.SeriesRows', WHERE WHAT IT READS IS OF BULK AT MOST 1048576: true; the input reads as it did. -/
def seriesRowsUptoRow : OpenClaim := { program := "ytbkofiflfcfjfaa", sum := "17e6b92c2795723c322a2fe2ebacd0835f4c47c95d800c9ac234e06b09abf579", func := "keepsake/keepsakelaw30.SeriesRows", spec := "seriesRows", inPlace := ["math.sqrt", "math.Float64frombits", "math.Float64bits"], apart := false, narrowed := true }
def SeriesRowsUptoSaid : Prop := seriesRowsUptoRow.holds Try.pinned (OpenSpec.upto seriesRowsSpec)

/-- 'keepsakelaw30.SeriesWhole', WHERE WHAT IT READS IS OF BULK AT MOST 1048576: true; the input reads as it did. -/
def seriesWholeUptoRow : OpenClaim := { program := "ytbkofiflfcfjfaa", sum := "17e6b92c2795723c322a2fe2ebacd0835f4c47c95d800c9ac234e06b09abf579", func := "keepsake/keepsakelaw30.SeriesWhole", spec := "seriesWhole", inPlace := ["math.sqrt"], apart := false, narrowed := true }
def SeriesWholeUptoSaid : Prop := seriesWholeUptoRow.holds Try.pinned (OpenSpec.upto seriesWholeSpec)

/-- 'keepsakelaw30.SeriesPoints', WHERE WHAT IT READS IS OF BULK AT MOST 1048576: true; the input reads as it did. -/
def seriesPointsUptoRow : OpenClaim := { program := "ytbkofiflfcfjfaa", sum := "17e6b92c2795723c322a2fe2ebacd0835f4c47c95d800c9ac234e06b09abf579", func := "keepsake/keepsakelaw30.SeriesPoints", spec := "seriesPoints", inPlace := ["math.sqrt", "math.Float64frombits"], unfollowed := true, recurses := true, apart := false, narrowed := true }
def SeriesPointsUptoSaid : Prop := seriesPointsUptoRow.holds Try.pinned (OpenSpec.upto seriesPointsSpec)

end Rows
end Go.Proofs.Ytbkofiflfcfjfaa
