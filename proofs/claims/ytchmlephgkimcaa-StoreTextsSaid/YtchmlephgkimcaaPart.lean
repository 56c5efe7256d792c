/- A region of a function by its number, so that a long walk may be proved in pieces. -/
import Derived.Test.YtchmlephgkimcaaBase
set_option linter.unusedSimpArgs false
set_option linter.unusedVariables false
namespace Go.Kp
open Go.RowKit

/-- The region of this number in a code. -/
def regionOf (id : Nat) : Code → Option Code
  | .region i ops d => if i = id then some (.region i ops d) else none
  | .seq a b => match regionOf id a with | some c => some c | none => regionOf id b
  | .cond _ a b => match regionOf id a with | some c => some c | none => regionOf id b
  | .block _ c => regionOf id c
  | .loop c => regionOf id c
  | .rangeFunc _ _ a b => match regionOf id a with | some c => some c | none => regionOf id b
  | .scope c => regionOf id c
  | _ => none
def theRegion (f : Func) (id : Nat) : Code := match f.body with | some b => (regionOf id b).getD .skip | none => .skip
theorem wp_of_eq {P : Program} {Q : Exit → Act → World → Prop} {c c' : Code} {a : Act} {w : World} (e : c = c') (h : c'.wp P Q a w) : c.wp P Q a w := e ▸ h
/-- What a region's law asks of what comes behind. -/
abbrev PanicStays (Q : Exit → Act → World → Prop) : Prop := ∀ c (a : Act) d v w, Q (.panic c) (a.put d v) w → Q (.panic c) a w
end Go.Kp
