/- A row of panes behind another, at the operation append. -/
import Derived.Test.YtfpomiimloohkaaWinM
import Derived.Test.YtfpomiimloohkaaNums
import Derived.Laws.AppendOwnNone
import Derived.Maps.AppendAt
set_option linter.unusedSimpArgs false
set_option linter.unusedVariables false
namespace Go.Proofs.Ytfpomiimloohkaa
open Go.RowKit Go.Kp

/-- append of a row that is read, nil or not, to a row that the call owns. -/
theorem append_panes {w : World} {ops : Array Oper} {rest : List Oper} {o : Oper} {a : Act} {Q : Exit → Act → World → Prop} (hgd : o.guard = none) (s x : Operand)
    (ho : o.op = .call { callee := .builtin .append, args := #[s, x], argTypes := #[46, 46] })
    (base : Nat) (v : Value) (l : List Pn) (hs : a.eval s = v) (hown : w.ownsRow base 37 9 v l.length (l.flatMap Pn.cells))
    (base2 : Nat) (u : Value) (m : Nat) (r : List Pn) (hm : r.length = m) (hx : a.eval x = u) (hown2 : w.ownsRow base2 37 9 u m (r.flatMap Pn.cells))
    (hn : l.length + r.length ≤ 1000000) (hbase : base ≤ w.heap.size)
    (h : ∀ v' w', w'.ownsRow base 37 9 v' (l ++ r).length ((l ++ r).flatMap Pn.cells) → w.grownBy w' v.ownBlock → (∃ g cap, v' = .slice g (l ++ r).length cap) → wpList Try.prog ops Q rest (a.put o.dst v') w') :
    wpList Try.prog ops Q (o :: rest) a w := by
  subst hm
  obtain ⟨i0, hi, hz0, hz1, hz2⟩ := info_parts info37
  have form : ∀ {W : World} {b : Nat} {y : Value} {n : Nat} {xs : List Value}, W.ownsRow b 37 9 y n xs → ∃ g cap, y = .slice g n cap := fun hh => by
    rcases hh.2 with ⟨h1, h2⟩ | ⟨g, cap, _, h1, _⟩
    · exact ⟨none, 0, by rw [h1, h2]⟩
    · exact ⟨_, _, h1⟩
  rcases hown2.2 with ⟨h1, h2⟩ | ⟨g, cap, cur, h1, h2, h3, h4⟩
  · obtain rfl : r = [] := List.eq_nil_of_length_eq_zero h2
    rw [List.append_nil] at h
    refine wpList_append_own_none hgd s x 46 ho base 37 i0 9 Try.underlying46 hi v l.length _ hs hown (by rw [hx, h1]) ?_
    exact h v w hown (World.grownBy.refl _ _) (form hown)
  · refine wpList_append_own_at w hgd s x 46 ho base 37 i0 _ 9 80 Try.underlying46 hi hz0 hz1 hz2 rfl (by omega) v l.length _ hs hown ⟨g, 0, none⟩ r.length cap (r.flatMap Pn.cells) (by rw [hx, h1]) hown2.1 (hown2.cells (g := g) (by rw [h1]; rfl)) ?_ (by unfold maxLen; omega) (by omega) hbase ?_
    · intro u hu
      obtain ⟨p, _, hp⟩ := List.mem_flatMap.1 hu
      simp [Pn.cells] at hp
      rcases hp with h | h | h | h | h | h | h | h | h <;> subst h <;> rfl
    · intro v' w' ho' hg _ _
      rw [← List.flatMap_append, ← List.length_append] at ho'
      exact h v' w' ho' hg (form ho')
end Go.Proofs.Ytfpomiimloohkaa
