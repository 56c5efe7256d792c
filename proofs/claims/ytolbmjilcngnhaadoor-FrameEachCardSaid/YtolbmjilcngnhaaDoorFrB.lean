/- A row of bytes that a call owns and makes longer: what else is there stays. -/
import Derived.Test.YtolbmjilcngnhaaDoorFrA
set_option linter.unusedSimpArgs false
set_option linter.unusedVariables false
namespace Go.Proofs.YtolbmjilcngnhaaDoor
open Go.RowKit Go.Kp

/-- From w to w' the row v became the row v'; all else that was there stays. -/
def Own (base : Nat) (w w' : World) (v v' : Value) : Prop :=
  Below base w w' ∧ (∀ g : Nat, g < w.heap.size → some g ≠ v.ownBlock → w'.heap[g]? = w.heap[g]?) ∧ (v'.ownBlock = v.ownBlock ∨ ∀ g, v'.ownBlock = some g → w.heap.size ≤ g)
theorem Own.of_below {base : Nat} {w w' : World} {v : Value} (h : Below w.heap.size w w') (hb : base ≤ w.heap.size) : Own base w w' v v :=
  ⟨h.mono hb, fun g hg _ => h.block g hg, .inl rfl⟩
theorem Own.trans {base : Nat} {w w1 w2 : World} {v v1 v2 : Value} (h : Own base w w1 v v1) (k : Own base w1 w2 v1 v2) : Own base w w2 v v2 := by
  refine ⟨h.1.trans k.1, fun g hg hne => ?_, ?_⟩
  · refine (k.2.1 g (Nat.lt_of_lt_of_le hg h.1.size) ?_).trans (h.2.1 g hg hne)
    rcases h.2.2 with e | e
    · rw [e]; exact hne
    · intro e2
      have := e g e2.symm
      omega
  · rcases k.2.2 with e | e
    · rcases h.2.2 with e2 | e2
      · exact .inl (e.trans e2)
      · exact .inr fun g hg => e2 g (e ▸ hg)
    · exact .inr fun g hg => Nat.le_trans h.1.size (e g hg)
theorem Own.grown {base : Nat} {w w' : World} {v v' : Value} (h : w.grownBy w' v.ownBlock) (hv : v'.ownBlock = v.ownBlock ∨ v'.ownBlock = some w.heap.size) (hr : ∀ k, v.ownBlock = some k → base ≤ k) (hb : base ≤ w.heap.size) : Own base w w' v v' := by
  refine ⟨(Below.refl base w).grown h hb hr, h.block, ?_⟩
  rcases hv with e | e
  · exact .inl e
  · exact .inr fun g hg => by rw [e] at hg; cases hg; exact Nat.le_refl _
theorem Own.next {base : Nat} {w w1 w2 : World} {v v1 : Value} (h : Own base w w1 v v1) (hb : base ≤ w.heap.size) (k : Below w1.heap.size w1 w2) : Own base w w2 v v1 :=
  h.trans (Own.of_below k (Nat.le_trans hb h.1.size))

/-- append of bytes that lie below 'base' or in a block that is no row's. -/
theorem append_own {w0 w : World} {ops : Array Oper} {rest : List Oper} {o : Oper} {a : Act} {Q : Exit → Act → World → Prop} (hgd : o.guard = none) (s x : Operand)
    (ho : o.op = .call { callee := .builtin .append, args := #[s, x], argTypes := #[22, 22] })
    (base : Nat) (v0 v : Value) (n : Nat) (l0 : List UInt8) (hs : a.eval s = v) (hown : w.ownsRow base 5 1 v n (l0.map B8))
    (ad : Option Addr) (m c : Nat) (l : List UInt8) (hx : a.eval x = .slice ad m c) (hn : ad = none → c = 0) (hl : l.length = m) (hr : Rd w w.heap.size ad (l.map B8))
    (hb : n + m ≤ 140737488355328) (hbase : base ≤ w0.heap.size) (hB : Own base w0 w v0 v)
    (h : ∀ v' w', w'.ownsRow base 5 1 v' (n + m) ((l0 ++ l).map B8) → Own base w0 w' v0 v' → wpList Tryd.prog ops Q rest (a.put o.dst v') w') :
    wpList Tryd.prog ops Q (o :: rest) a w := by
  have hbw : base ≤ w.heap.size := Nat.le_trans hbase hB.1.size
  refine append_bytes hgd s x ho base v n _ hs hown ad m c l hx hn hl hr hb hbw (fun v' w' h1 h2 h3 => h v' w' (by rw [List.map_append]; exact h1) (hB.trans (Own.grown h2 h3 (fun k hk => ?_) hbw)))
  exact (hown.lt k hk).1
end Go.Proofs.YtolbmjilcngnhaaDoor
