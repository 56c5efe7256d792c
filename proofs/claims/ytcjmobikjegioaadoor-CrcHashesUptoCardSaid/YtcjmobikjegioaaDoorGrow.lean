/- A region that draws its order and stores into nothing that was there: the blocks that are there stay, new ones come. -/
import Derived.Test.YtcjmobikjegioaaDoorBase
import Derived.Test.YtcjmobikjegioaaDoorPlan
set_option linter.unusedSimpArgs false
set_option linter.unusedVariables false
namespace Go.Kp
open Go.RowKit

def Grow (w w' : World) : Prop := w.heap.size ≤ w'.heap.size ∧ ∀ b : Nat, b < w.heap.size → w'.heap[b]? = w.heap[b]?
theorem Grow.refl (w : World) : Grow w w := ⟨Nat.le_refl _, fun _ _ => rfl⟩
theorem Grow.trans (a b c : World) (h : Grow a b) (k : Grow b c) : Grow a c := ⟨Nat.le_trans h.1 k.1, fun x hx => (k.2 x (Nat.lt_of_lt_of_le hx h.1)).trans (h.2 x hx)⟩
theorem Grow.below {w w' : World} (hb : Below w.heap.size w w') : Grow w w' := ⟨hb.size, fun b h => hb.block b h⟩
theorem Grow.alloc {a b : World} (h : Grow a b) (o : Obj) : Grow a (b.alloc o) := ⟨by rw [World.size_alloc]; exact Nat.le_succ_of_le h.1, fun x hx => (Below.heap_alloc b o x (Nat.lt_of_lt_of_le hx h.1)).trans (h.2 x hx)⟩
theorem Grow.next {a b c : World} (h : Grow a b) (hb : Below b.heap.size b c) : Grow a c := Grow.trans _ _ _ h (Grow.below hb)
theorem Grow.cell {w w' : World} (h : Grow w w') (b o : Nat) (hb : b < w.heap.size) : w'.cell? ⟨b, o, none⟩ = w.cell? ⟨b, o, none⟩ := World.cell?_of_block (a := ⟨b, o, none⟩) (h.2 b hb)

section
variable {P : Program} {ops : Array Oper} {Q : Exit → Act → World → Prop}
theorem region_grow {id : Nat} {a : Act} {w : World} {l : List Oper} (n : Nat) (π : List (Nat × Bool))
    (hm : P.follows .mixedOrders = true) (hQ : ∀ c (a : Act) d v w, Q (.panic c) (a.put d v) w → Q (.panic c) a w) (hB : planOK .any l.toArray n π = true)
    (h : wpPlan P l.toArray Q Grow (fun a' w' => wpList P l.toArray Q (l.drop n) a' w') (withOps l.toArray π) a w.drew) : (Code.region id l.toArray true).wp P Q a w :=
  region_plan Grow Grow.refl Grow.trans n π hm hQ hB h
theorem grow_quiet {T : Act → World → Prop} {i : Nat} {o : Oper} {rest : List (Nat × Oper × Bool)} {a : Act} {w : World} {v : Value} (hw : Region.wanted o (yielded ops a.tmps) = true)
    (hy : ∀ w' : World, w.heap.size ≤ w'.heap.size → (∀ b o, b < w.heap.size → w'.cell? ⟨b, o, none⟩ = w.cell? ⟨b, o, none⟩) → (execOp a.eval o).run P w' = .ok (.value v) w') (h : wpPlan P ops Q Grow T rest (a.put o.dst v) w) :
    wpPlan P ops Q Grow T ((i, o, true) :: rest) a w :=
  plan_quiet hw (fun w' hw' => hy w' hw'.1 fun b o hb => hw'.cell b o hb) h
end
end Go.Kp
