/-
  No cell of these rows narrows 'for every input' (looked for: loops, veiled, ifaces, maps, wideKeys, modest, calm, conditions, laid).
  DERIVED. THE GIVEN ROWS OF THIS SEAT. 3 by the template 'for every input the law returns true; each argument reads behind the call as it read before'; 0 by the template 'total and deterministic' (their statements: YtchmlephgkimcaaTotals.lean).
  GIVEN WITH THE SEED: the statements are not yours to turn. If you find one false, say at which input.
  Laid BY PROGRAM, IN A SANDBOX (cutbox-rows.mjs): the forced cells as the released guide's own fill.sh prints them over the translation 8a4230497c406356… (all of the seat's roots in one cut). By AI agents, Wed Nov 11 2026. No macro, syntax, notation, axiom, sorry.
-/
import Derived.Test.YtchmlephgkimcaaChecked
import GoSem.Claim
import GoSem.ClaimJoined
import GoSem.ClaimMapViews
import Derived.JoinedTies
import Derived.KernelRfl
namespace Go.Proofs.Ytchmlephgkimcaa
/- THE CELL 'sum', in the pinned program and in every row, IS THE sha256 OF THE DUMP (.gsa) THAT YtchmlephgkimcaaProg.lean LOADS. Nothing in Lean hashes anything: it is a label: what it is worth is what the hold of that sum in a sandbox is worth. -/
noncomputable def Try.pinned : Pinned := { name := "ytchmlephgkimcaa", sum := "8a4230497c406356a4af288c659ed81550b83b97cc3b240c4c44b8d2b6c3a9dd", checked := Try.checked }
namespace Rows
def none {H : Type} : Left H := { results := [], args := [] }

/-- 'keepsakelaw05.StoreWalks': WHATEVER THE INPUT: true; the input reads as it did. -/
def storeWalksSpec : ChangeSpec := { name := "storeWalks", fn := fun _ => fun
  | [d1, d2, d3] => { results := [.lit (.bool true)], args := [d1, d2, d3] }
  | _ => none }
def storeWalksRow : OpenClaim := { program := "ytchmlephgkimcaa", sum := "8a4230497c406356a4af288c659ed81550b83b97cc3b240c4c44b8d2b6c3a9dd", func := "keepsake/keepsakelaw05.StoreWalks", spec := "storeWalks", unfollowed := true, recurses := true, apart := false }
def StoreWalksSaid : Prop := storeWalksRow.holds Try.pinned (OpenSpec.ofChange storeWalksSpec)

/-- ITS FALSE NEIGHBOUR: 'it returns false'. Refute it at one input. -/
def storeWalksWrong : ChangeSpec := { name := "storeWalks", fn := fun _ => fun
  | [d1, d2, d3] => { results := [.lit (.bool false)], args := [d1, d2, d3] }
  | _ => none }
def StoreWalksWrongFalsely : Prop := storeWalksRow.holds Try.pinned (OpenSpec.ofChange storeWalksWrong)

/-- 'keepsakelaw05.StoreTexts': WHATEVER THE INPUT: true; the input reads as it did. -/
def storeTextsSpec : ChangeSpec := { name := "storeTexts", fn := fun _ => fun
  | [d1, d2, d3] => { results := [.lit (.bool true)], args := [d1, d2, d3] }
  | _ => none }
def storeTextsRow : OpenClaim := { program := "ytchmlephgkimcaa", sum := "8a4230497c406356a4af288c659ed81550b83b97cc3b240c4c44b8d2b6c3a9dd", func := "keepsake/keepsakelaw05.StoreTexts", spec := "storeTexts", unfollowed := true, recurses := true, apart := false }
def StoreTextsSaid : Prop := storeTextsRow.holds Try.pinned (OpenSpec.ofChange storeTextsSpec)

/-- ITS FALSE NEIGHBOUR: 'it returns false'. Refute it at one input. -/
def storeTextsWrong : ChangeSpec := { name := "storeTexts", fn := fun _ => fun
  | [d1, d2, d3] => { results := [.lit (.bool false)], args := [d1, d2, d3] }
  | _ => none }
def StoreTextsWrongFalsely : Prop := storeTextsRow.holds Try.pinned (OpenSpec.ofChange storeTextsWrong)

/-- 'keepsakelaw05.StorePlays': WHATEVER THE INPUT: true; the input reads as it did. -/
def storePlaysSpec : ChangeSpec := { name := "storePlays", fn := fun _ => fun
  | [d1, d2] => { results := [.lit (.bool true)], args := [d1, d2] }
  | _ => none }
def storePlaysRow : OpenClaim := { program := "ytchmlephgkimcaa", sum := "8a4230497c406356a4af288c659ed81550b83b97cc3b240c4c44b8d2b6c3a9dd", func := "keepsake/keepsakelaw05.StorePlays", spec := "storePlays", unfollowed := true, recurses := true, apart := false }
def StorePlaysSaid : Prop := storePlaysRow.holds Try.pinned (OpenSpec.ofChange storePlaysSpec)

/-- ITS FALSE NEIGHBOUR: 'it returns false'. Refute it at one input. -/
def storePlaysWrong : ChangeSpec := { name := "storePlays", fn := fun _ => fun
  | [d1, d2] => { results := [.lit (.bool false)], args := [d1, d2] }
  | _ => none }
def StorePlaysWrongFalsely : Prop := storePlaysRow.holds Try.pinned (OpenSpec.ofChange storePlaysWrong)

/- THE SECOND FORM. 'bulk': how many values and letters a reading holds, each counted each time it is reached (what is shared counts as often as it is met; a slice's spare places count too). A statement '..UptoSaid' is the law's where the arguments, and the package variables that the reading takes, are together of bulk at most 1048576: NARROWER than '..Said'. Prove '..Said' where nothing that the law and all that it calls make is longer than what came in: it says more and counts as full. Else prove '..UptoSaid'. A law counts once. -/
mutual
def uptoBulk {H : Type} : DataW H → Nat
  | .lit (.string bytes) => bytes.length + 1
  | .lit _ => 1
  | .nil => 1
  | .ptr d => uptoBulk d + 1
  | .slice elems spare => uptoBulkAll elems + uptoBulkAll spare + 1
  | .agg parts => uptoBulkAll parts + 1
  | .iface _ d => uptoBulk d + 1
  | .map entries => uptoBulkEntries entries + 1
  | .held _ => 1
def uptoBulkAll {H : Type} : List (DataW H) → Nat
  | [] => 0
  | d :: r => uptoBulk d + uptoBulkAll r
def uptoBulkEntries {H : Type} : List (Lit × DataW H) → Nat
  | [] => 0
  | x :: r => uptoBulkEntry x + uptoBulkEntries r
def uptoBulkEntry {H : Type} : Lit × DataW H → Nat
  | (.string bytes, d) => bytes.length + uptoBulk d + 1
  | (_, d) => uptoBulk d + 1
 end
def uptoSmall : (H : Type) → List (DataW H) → Bool := fun _ ds => decide (uptoBulkAll ds ≤ 1048576)
def OpenSpec.upto (s : _root_.Go.ChangeSpec) : _root_.Go.OpenSpec := { _root_.Go.OpenSpec.ofChange s with cond := some uptoSmall }

/-- 'keepsakelaw05.StoreWalks', WHERE WHAT IT READS IS OF BULK AT MOST 1048576: true; the input reads as it did. -/
def storeWalksUptoRow : OpenClaim := { program := "ytchmlephgkimcaa", sum := "8a4230497c406356a4af288c659ed81550b83b97cc3b240c4c44b8d2b6c3a9dd", func := "keepsake/keepsakelaw05.StoreWalks", spec := "storeWalks", unfollowed := true, recurses := true, apart := false, narrowed := true }
def StoreWalksUptoSaid : Prop := storeWalksUptoRow.holds Try.pinned (OpenSpec.upto storeWalksSpec)

/-- 'keepsakelaw05.StoreTexts', WHERE WHAT IT READS IS OF BULK AT MOST 1048576: true; the input reads as it did. -/
def storeTextsUptoRow : OpenClaim := { program := "ytchmlephgkimcaa", sum := "8a4230497c406356a4af288c659ed81550b83b97cc3b240c4c44b8d2b6c3a9dd", func := "keepsake/keepsakelaw05.StoreTexts", spec := "storeTexts", unfollowed := true, recurses := true, apart := false, narrowed := true }
def StoreTextsUptoSaid : Prop := storeTextsUptoRow.holds Try.pinned (OpenSpec.upto storeTextsSpec)

/-- 'keepsakelaw05.StorePlays', WHERE WHAT IT READS IS OF BULK AT MOST 1048576: true; the input reads as it did. -/
def storePlaysUptoRow : OpenClaim := { program := "ytchmlephgkimcaa", sum := "8a4230497c406356a4af288c659ed81550b83b97cc3b240c4c44b8d2b6c3a9dd", func := "keepsake/keepsakelaw05.StorePlays", spec := "storePlays", unfollowed := true, recurses := true, apart := false, narrowed := true }
def StorePlaysUptoSaid : Prop := storePlaysUptoRow.holds Try.pinned (OpenSpec.upto storePlaysSpec)

end Rows
end Go.Proofs.Ytchmlephgkimcaa
