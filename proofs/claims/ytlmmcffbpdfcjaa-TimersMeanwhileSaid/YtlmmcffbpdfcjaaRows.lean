/-
  No cell of these rows narrows 'for every input' (looked for: loops, veiled, ifaces, maps, wideKeys, modest, calm, conditions, laid).
  DERIVED. THE GIVEN ROWS OF THIS SEAT. 5 by the template 'for every input the law returns true; each argument reads behind the call as it read before'; 0 by the template 'total and deterministic' (their statements: YtlmmcffbpdfcjaaTotals.lean).
  GIVEN WITH THE SEED: the statements are not yours to turn. If you find one false, say at which input.
  Laid BY PROGRAM, IN A SANDBOX (cutbox-rows.mjs): the forced cells as the released guide's own fill.sh prints them over the translation 011392a1e494cb08… (all of the seat's roots in one cut). By AI agents, Wed Nov 11 2026. No macro, syntax, notation, axiom, sorry.
-/
import Derived.Test.YtlmmcffbpdfcjaaChecked
import GoSem.Claim
import GoSem.ClaimJoined
import GoSem.ClaimMapViews
import Derived.JoinedTies
import Derived.KernelRfl
namespace Go.Proofs.Ytlmmcffbpdfcjaa
/- THE CELL 'sum', in the pinned program and in every row, IS THE sha256 OF THE DUMP (.gsa) THAT YtlmmcffbpdfcjaaProg.lean LOADS. Nothing in Lean hashes anything: it is a label: what it is worth is what the hold of that sum in a sandbox is worth. -/
noncomputable def Try.pinned : Pinned := { name := "ytlmmcffbpdfcjaa", sum := "011392a1e494cb08a4e9a15daf60c319eb215c4cc7a4bba96c4a18a5c2f54a53", checked := Try.checked }
namespace Rows
def none {H : Type} : Left H := { results := [], args := [] }

/-- 'keepsakelaw06.TimersOrder': WHATEVER THE INPUT: true; the input reads as it did. -/
def timersOrderSpec : ChangeSpec := { name := "timersOrder", fn := fun _ => fun
  | [d1, d2] => { results := [.lit (.bool true)], args := [d1, d2] }
  | _ => none }
def timersOrderRow : OpenClaim := { program := "ytlmmcffbpdfcjaa", sum := "011392a1e494cb08a4e9a15daf60c319eb215c4cc7a4bba96c4a18a5c2f54a53", func := "keepsake/keepsakelaw06.TimersOrder", spec := "timersOrder", plainKeys := false, apart := false }
def TimersOrderSaid : Prop := timersOrderRow.holds Try.pinned (OpenSpec.ofChange timersOrderSpec)

/-- ITS FALSE NEIGHBOUR: 'it returns false'. Refute it at one input. -/
def timersOrderWrong : ChangeSpec := { name := "timersOrder", fn := fun _ => fun
  | [d1, d2] => { results := [.lit (.bool false)], args := [d1, d2] }
  | _ => none }
def TimersOrderWrongFalsely : Prop := timersOrderRow.holds Try.pinned (OpenSpec.ofChange timersOrderWrong)

/-- 'keepsakelaw06.TimersAgree': WHATEVER THE INPUT: true; the input reads as it did. -/
def timersAgreeSpec : ChangeSpec := { name := "timersAgree", fn := fun _ => fun
  | [d1, d2, d3] => { results := [.lit (.bool true)], args := [d1, d2, d3] }
  | _ => none }
def timersAgreeRow : OpenClaim := { program := "ytlmmcffbpdfcjaa", sum := "011392a1e494cb08a4e9a15daf60c319eb215c4cc7a4bba96c4a18a5c2f54a53", func := "keepsake/keepsakelaw06.TimersAgree", spec := "timersAgree", plainKeys := false, apart := false }
def TimersAgreeSaid : Prop := timersAgreeRow.holds Try.pinned (OpenSpec.ofChange timersAgreeSpec)

/-- ITS FALSE NEIGHBOUR: 'it returns false'. Refute it at one input. -/
def timersAgreeWrong : ChangeSpec := { name := "timersAgree", fn := fun _ => fun
  | [d1, d2, d3] => { results := [.lit (.bool false)], args := [d1, d2, d3] }
  | _ => none }
def TimersAgreeWrongFalsely : Prop := timersAgreeRow.holds Try.pinned (OpenSpec.ofChange timersAgreeWrong)

/-- 'keepsakelaw06.TimersPlay': WHATEVER THE INPUT: true; the input reads as it did. -/
def timersPlaySpec : ChangeSpec := { name := "timersPlay", fn := fun _ => fun
  | [d1, d2] => { results := [.lit (.bool true)], args := [d1, d2] }
  | _ => none }
def timersPlayRow : OpenClaim := { program := "ytlmmcffbpdfcjaa", sum := "011392a1e494cb08a4e9a15daf60c319eb215c4cc7a4bba96c4a18a5c2f54a53", func := "keepsake/keepsakelaw06.TimersPlay", spec := "timersPlay", unfollowed := true, recurses := true, plainKeys := false, apart := false }
def TimersPlaySaid : Prop := timersPlayRow.holds Try.pinned (OpenSpec.ofChange timersPlaySpec)

/-- ITS FALSE NEIGHBOUR: 'it returns false'. Refute it at one input. -/
def timersPlayWrong : ChangeSpec := { name := "timersPlay", fn := fun _ => fun
  | [d1, d2] => { results := [.lit (.bool false)], args := [d1, d2] }
  | _ => none }
def TimersPlayWrongFalsely : Prop := timersPlayRow.holds Try.pinned (OpenSpec.ofChange timersPlayWrong)

/-- 'keepsakelaw06.TimersMeanwhile': WHATEVER THE INPUT: true; the input reads as it did. -/
def timersMeanwhileSpec : ChangeSpec := { name := "timersMeanwhile", fn := fun _ => fun
  | [d1, d2] => { results := [.lit (.bool true)], args := [d1, d2] }
  | _ => none }
def timersMeanwhileRow : OpenClaim := { program := "ytlmmcffbpdfcjaa", sum := "011392a1e494cb08a4e9a15daf60c319eb215c4cc7a4bba96c4a18a5c2f54a53", func := "keepsake/keepsakelaw06.TimersMeanwhile", spec := "timersMeanwhile", unfollowed := true, recurses := true, plainKeys := false, apart := false }
def TimersMeanwhileSaid : Prop := timersMeanwhileRow.holds Try.pinned (OpenSpec.ofChange timersMeanwhileSpec)

/-- ITS FALSE NEIGHBOUR: 'it returns false'. Refute it at one input. -/
def timersMeanwhileWrong : ChangeSpec := { name := "timersMeanwhile", fn := fun _ => fun
  | [d1, d2] => { results := [.lit (.bool false)], args := [d1, d2] }
  | _ => none }
def TimersMeanwhileWrongFalsely : Prop := timersMeanwhileRow.holds Try.pinned (OpenSpec.ofChange timersMeanwhileWrong)

/-- 'keepsakelaw06.TimersNil': WHATEVER THE INPUT: true; the input reads as it did. -/
def timersNilSpec : ChangeSpec := { name := "timersNil", fn := fun _ => fun
  | [d1, d2] => { results := [.lit (.bool true)], args := [d1, d2] }
  | _ => none }
def timersNilRow : OpenClaim := { program := "ytlmmcffbpdfcjaa", sum := "011392a1e494cb08a4e9a15daf60c319eb215c4cc7a4bba96c4a18a5c2f54a53", func := "keepsake/keepsakelaw06.TimersNil", spec := "timersNil", unfollowed := true, recurses := true, plainKeys := false, apart := false }
def TimersNilSaid : Prop := timersNilRow.holds Try.pinned (OpenSpec.ofChange timersNilSpec)

/-- ITS FALSE NEIGHBOUR: 'it returns false'. Refute it at one input. -/
def timersNilWrong : ChangeSpec := { name := "timersNil", fn := fun _ => fun
  | [d1, d2] => { results := [.lit (.bool false)], args := [d1, d2] }
  | _ => none }
def TimersNilWrongFalsely : Prop := timersNilRow.holds Try.pinned (OpenSpec.ofChange timersNilWrong)

/- THE SECOND FORM. 'bulk': how many values and letters a reading holds, each counted each time it is reached (what is shared counts as often as it is met; a slice's spare places count too). A statement '..UptoSaid' is the law's where the arguments, and the package variables that the reading takes, are together of bulk at most 1048576: NARROWER than '..Said'. Prove '..Said' where nothing that the law and all that it calls make is longer than what came in: it says more and counts as full. Else prove '..UptoSaid'. A law counts once. -/
mutual
def uptoBulk {H : Type} : DataW H → Nat
  | .lit (.string bytes) => bytes.length + 1
  | .lit _ => 1
  | .nil => 1
  | .ptr d => uptoBulk d + 1
  | .slice elems spare => uptoBulkAll elems + uptoBulkAll spare + 1
  | .agg parts => uptoBulkAll parts + 1
  | .iface _ d => uptoBulk d + 1
  | .map entries => uptoBulkEntries entries + 1
  | .held _ => 1
def uptoBulkAll {H : Type} : List (DataW H) → Nat
  | [] => 0
  | d :: r => uptoBulk d + uptoBulkAll r
def uptoBulkEntries {H : Type} : List (Lit × DataW H) → Nat
  | [] => 0
  | x :: r => uptoBulkEntry x + uptoBulkEntries r
def uptoBulkEntry {H : Type} : Lit × DataW H → Nat
  | (.string bytes, d) => bytes.length + uptoBulk d + 1
  | (_, d) => uptoBulk d + 1
 end
def uptoSmall : (H : Type) → List (DataW H) → Bool := fun _ ds => decide (uptoBulkAll ds ≤ 1048576)
def OpenSpec.upto (s : _root_.Go.ChangeSpec) : _root_.Go.OpenSpec := { _root_.Go.OpenSpec.ofChange s with cond := some uptoSmall }

/-- 'keepsakelaw06.TimersOrder', WHERE WHAT IT READS IS OF BULK AT MOST 1048576: true; the input reads as it did. -/
def timersOrderUptoRow : OpenClaim := { program := "ytlmmcffbpdfcjaa", sum := "011392a1e494cb08a4e9a15daf60c319eb215c4cc7a4bba96c4a18a5c2f54a53", func := "keepsake/keepsakelaw06.TimersOrder", spec := "timersOrder", plainKeys := false, apart := false, narrowed := true }
def TimersOrderUptoSaid : Prop := timersOrderUptoRow.holds Try.pinned (OpenSpec.upto timersOrderSpec)

/-- 'keepsakelaw06.TimersAgree', WHERE WHAT IT READS IS OF BULK AT MOST 1048576: true; the input reads as it did. -/
def timersAgreeUptoRow : OpenClaim := { program := "ytlmmcffbpdfcjaa", sum := "011392a1e494cb08a4e9a15daf60c319eb215c4cc7a4bba96c4a18a5c2f54a53", func := "keepsake/keepsakelaw06.TimersAgree", spec := "timersAgree", plainKeys := false, apart := false, narrowed := true }
def TimersAgreeUptoSaid : Prop := timersAgreeUptoRow.holds Try.pinned (OpenSpec.upto timersAgreeSpec)

/-- 'keepsakelaw06.TimersPlay', WHERE WHAT IT READS IS OF BULK AT MOST 1048576: true; the input reads as it did. -/
def timersPlayUptoRow : OpenClaim := { program := "ytlmmcffbpdfcjaa", sum := "011392a1e494cb08a4e9a15daf60c319eb215c4cc7a4bba96c4a18a5c2f54a53", func := "keepsake/keepsakelaw06.TimersPlay", spec := "timersPlay", unfollowed := true, recurses := true, plainKeys := false, apart := false, narrowed := true }
def TimersPlayUptoSaid : Prop := timersPlayUptoRow.holds Try.pinned (OpenSpec.upto timersPlaySpec)

/-- 'keepsakelaw06.TimersMeanwhile', WHERE WHAT IT READS IS OF BULK AT MOST 1048576: true; the input reads as it did. -/
def timersMeanwhileUptoRow : OpenClaim := { program := "ytlmmcffbpdfcjaa", sum := "011392a1e494cb08a4e9a15daf60c319eb215c4cc7a4bba96c4a18a5c2f54a53", func := "keepsake/keepsakelaw06.TimersMeanwhile", spec := "timersMeanwhile", unfollowed := true, recurses := true, plainKeys := false, apart := false, narrowed := true }
def TimersMeanwhileUptoSaid : Prop := timersMeanwhileUptoRow.holds Try.pinned (OpenSpec.upto timersMeanwhileSpec)

/-- 'keepsakelaw06.TimersNil', WHERE WHAT IT READS IS OF BULK AT MOST 1048576: true; the input reads as it did. -/
def timersNilUptoRow : OpenClaim := { program := "ytlmmcffbpdfcjaa", sum := "011392a1e494cb08a4e9a15daf60c319eb215c4cc7a4bba96c4a18a5c2f54a53", func := "keepsake/keepsakelaw06.TimersNil", spec := "timersNil", unfollowed := true, recurses := true, plainKeys := false, apart := false, narrowed := true }
def TimersNilUptoSaid : Prop := timersNilUptoRow.holds Try.pinned (OpenSpec.upto timersNilSpec)

end Rows
end Go.Proofs.Ytlmmcffbpdfcjaa
