/- The frames with which bytes begin, and those that must have these tags: one answer each. -/
import Derived.Test.YtolbmjilcngnhaaDoorFrPre
set_option linter.unusedSimpArgs false
set_option linter.unusedVariables false
namespace Go.Frm
open Go

theorem rowB_cons (y : UInt8 × List UInt8) (ds : List (UInt8 × List UInt8)) : rowB (y :: ds) = frame y.1 y.2 ++ rowB ds := by simp [rowB]
theorem frame_pos (t : UInt8) (l : List UInt8) : 5 ≤ (frame t l).length := by rw [frame_len]; omega

/-- What stands at a place where a row of frames ends, of which a longer one is known. -/
theorem rowB_next {l : List UInt8} {bs cs : List (UInt8 × List UInt8)} {a b : Nat} (hn : l.length ≤ 268435456) (h : rowB bs = l.take a) (k : rowB cs = l.take b) (hab : a ≤ b) (hb : b ≤ l.length) :
    (cs = bs ∧ b = a) ∨ ∃ y ds, cs = bs ++ y :: ds ∧ y.2.length ≤ 268435456 ∧ l.drop a = frame y.1 y.2 ++ (rowB ds ++ l.drop b) ∧ a < l.length := by
  have e : l.take b = l.take a ++ (l.drop a).take (b - a) := by
    conv => lhs; rw [show b = a + (b - a) by omega, List.take_add]
  have hbs : ∀ x ∈ bs, x.2.length ≤ 268435456 := fun x hx => by
    have := rowB_body bs x hx
    rw [h, List.length_take] at this; omega
  have hcs : ∀ x ∈ cs, x.2.length ≤ 268435456 := fun x hx => by
    have := rowB_body cs x hx
    rw [k, List.length_take] at this; omega
  obtain ⟨ds, h1, h2⟩ := rowB_prefix bs cs _ hbs hcs (k.trans (e.trans (by rw [h])))
  have e2 : l.drop a = (l.drop a).take (b - a) ++ l.drop b := by
    conv => lhs; rw [← List.take_append_drop (b - a) (l.drop a)]
    rw [List.drop_drop, show a + (b - a) = b by omega]
  cases ds with
  | nil =>
    refine .inl ⟨by rw [h1, List.append_nil], ?_⟩
    have := congrArg List.length h2
    rw [List.length_take, List.length_drop] at this
    have h0 : (rowB []).length = 0 := rfl
    omega
  | cons y ds =>
    refine .inr ⟨y, ds, h1, hcs y (by rw [h1]; simp), ?_, ?_⟩
    · rw [e2, h2, rowB_cons, List.append_assoc]
    · have := congrArg List.length h2
      rw [List.length_take, List.length_drop, rowB_cons, List.length_append] at this
      have := frame_pos y.1 y.2
      omega

theorem look_not {l : List UInt8} {y : UInt8 × List UInt8} {R : List UInt8} {f e s : Nat} (hy : y.2.length ≤ 268435456) (h : l = frame y.1 y.2 ++ R) (k : look l = (f, e, s)) : s = 0 := by
  rw [h, look_behind y.1 y.2 _ hy] at k
  simp only [Prod.mk.injEq] at k
  exact k.2.2.symm

/-- bs are the frames with which l begins; behind them nothing stands, or what is wrong, for s. -/
def Heads (l : List UInt8) (bs : List (UInt8 × List UInt8)) (a s : Nat) : Prop :=
  rowB bs = l.take a ∧ a ≤ l.length ∧ ((s = 0 ∧ a = l.length) ∨ (s ≠ 0 ∧ a < l.length ∧ ∃ f e, look (l.drop a) = (f, e, s)))
theorem Heads.le {l : List UInt8} {bs cs : List (UInt8 × List UInt8)} {a b s t : Nat} (hn : l.length ≤ 268435456) (h : Heads l bs a s) (k : Heads l cs b t) (hab : a ≤ b) : cs = bs ∧ b = a := by
  rcases rowB_next hn h.1 k.1 hab k.2.1 with h' | ⟨y, ds, _, hy, h2, h3⟩
  · exact h'
  · exfalso
    rcases h.2.2 with ⟨_, h4⟩ | ⟨h4, _, f, e, h5⟩
    · omega
    · exact h4 (look_not hy h2 h5)
theorem Heads.unique {l : List UInt8} {bs cs : List (UInt8 × List UInt8)} {a b s t : Nat} (hn : l.length ≤ 268435456) (h : Heads l bs a s) (k : Heads l cs b t) : bs = cs ∧ a = b ∧ s = t := by
  have e : bs = cs ∧ a = b := by
    rcases Nat.le_total a b with hab | hab
    · obtain ⟨h1, h2⟩ := h.le hn k hab; exact ⟨h1.symm, h2.symm⟩
    · exact k.le hn h hab
  obtain ⟨rfl, rfl⟩ := e
  refine ⟨rfl, rfl, ?_⟩
  rcases h.2.2 with ⟨h1, h2⟩ | ⟨h1, h2, f, e, h3⟩ <;> rcases k.2.2 with ⟨k1, k2⟩ | ⟨k1, k2, f', e', k3⟩
  · omega
  · omega
  · omega
  · rw [h3] at k3
    simp only [Prod.mk.injEq] at k3
    exact k3.2.2

/-- The frames that have the tags that they must have, where that ends, and why. -/
def Just (l tags : List UInt8) (bs : List (UInt8 × List UInt8)) (a s : Nat) : Prop :=
  rowB bs = l.take a ∧ a ≤ l.length ∧ bs.length ≤ tags.length ∧ bs.map Prod.fst = tags.take bs.length ∧
    ((s = 0 ∧ a = l.length ∧ bs.length = tags.length) ∨ (s = 133 ∧ a = l.length ∧ bs.length < tags.length) ∨ (s ≠ 0 ∧ a < l.length ∧ ∃ f e, look (l.drop a) = (f, e, s)) ∨
     (s = 133 ∧ a < l.length ∧ ∃ t body R, body.length ≤ 268435456 ∧ l.drop a = frame t body ++ R ∧ tags[bs.length]? ≠ some t))
theorem Just.le {l tags : List UInt8} {bs cs : List (UInt8 × List UInt8)} {a b s t : Nat} (hn : l.length ≤ 268435456) (h : Just l tags bs a s) (k : Just l tags cs b t) (hab : a ≤ b) : cs = bs ∧ b = a := by
  rcases rowB_next hn h.1 k.1 hab k.2.1 with h' | ⟨y, ds, hc, hy, h2, h3⟩
  · exact h'
  · exfalso
    rcases h.2.2.2.2 with ⟨_, h4, _⟩ | ⟨_, h4, _⟩ | ⟨h4, _, f, e, h5⟩ | ⟨_, _, u, body, R, h5, h6, h7⟩
    · omega
    · omega
    · exact h4 (look_not hy h2 h5)
    · rw [h2] at h6
      obtain ⟨e1, _, _⟩ := frame_inj hy h5 h6
      apply h7
      have h8 := k.2.2.2.1
      have h9 : (cs.map Prod.fst)[bs.length]? = some y.1 := by rw [hc]; simp
      rw [h8, List.getElem?_take_of_lt (by rw [hc]; simp)] at h9
      rw [h9, e1]
theorem Just.unique {l tags : List UInt8} {bs cs : List (UInt8 × List UInt8)} {a b s t : Nat} (hn : l.length ≤ 268435456) (h : Just l tags bs a s) (k : Just l tags cs b t) : bs = cs ∧ a = b ∧ s = t := by
  have e : bs = cs ∧ a = b := by
    rcases Nat.le_total a b with hab | hab
    · obtain ⟨h1, h2⟩ := h.le hn k hab; exact ⟨h1.symm, h2.symm⟩
    · exact k.le hn h hab
  obtain ⟨rfl, rfl⟩ := e
  refine ⟨rfl, rfl, ?_⟩
  rcases h.2.2.2.2 with ⟨h1, h2, h3⟩ | ⟨h1, h2, h3⟩ | ⟨h1, h2, f, e, h3⟩ | ⟨h1, h2, u, body, R, h3, h4, h5⟩ <;>
    rcases k.2.2.2.2 with ⟨k1, k2, k3⟩ | ⟨k1, k2, k3⟩ | ⟨k1, k2, f', e', k3⟩ | ⟨k1, k2, u', body', R', k3, k4, k5⟩
  all_goals first
    | omega
    | (rw [h3] at k3; simp only [Prod.mk.injEq] at k3; exact k3.2.2)
    | exact absurd (look_not (y := (u', body')) k3 k4 h3) h1
    | exact absurd (look_not (y := (u, body)) h3 h4 k3) k1
/-- From all frames to those that have their tags: the first whose tag is another. -/
theorem Just.of_heads {l tags : List UInt8} {bs : List (UInt8 × List UInt8)} {a s : Nat} (h : Heads l bs a s) (hb : bs.length ≤ tags.length) (ht : bs.map Prod.fst = tags.take bs.length) :
    Just l tags bs a (if s ≠ 0 then s else if bs.length < tags.length then 133 else 0) := by
  refine ⟨h.1, h.2.1, hb, ht, ?_⟩
  rcases h.2.2 with ⟨h1, h2⟩ | ⟨h1, h2, h3⟩
  · rw [if_neg (by omega)]
    by_cases h4 : bs.length < tags.length
    · rw [if_pos h4]; exact .inr (.inl ⟨rfl, h2, h4⟩)
    · rw [if_neg h4]; exact .inl ⟨rfl, h2, by omega⟩
  · rw [if_pos h1]; exact .inr (.inr (.inl ⟨h1, h2, h3⟩))
end Go.Frm
