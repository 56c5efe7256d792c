/- A region that draws its order, walked by a plan that parts where two loud operations may come in either order. -/
import Derived.Test.YtbkofiflfcfjfaaPlan
set_option linter.unusedSimpArgs false
set_option linter.unusedVariables false
namespace Go.Kp
open Go.RowKit

section
variable {P : Program} {ops : Array Oper} {Q : Exit → Act → World → Prop} {md : Region.Mode} {R : World → World → Prop}

/-- A plan that may part: 'fin': what is left comes as it stands; 'seq': a row of operations; 'fork': two loud ones, of which either may come first. -/
inductive Tree where
  | fin
  | seq (π : List (Nat × Bool)) (t : Tree)
  | fork (i j : Nat) (p q : Tree)

def wpTree (P : Program) (ops : Array Oper) (Q : Exit → Act → World → Prop) (R : World → World → Prop) (T : Act → World → Prop) : Tree → Act → World → Prop
  | .fin, a, w => T a w
  | .seq π t, a, w => wpPlan P ops Q R (wpTree P ops Q R T t) (withOps ops π) a w
  | .fork i j p q, a, w => wpPlan P ops Q R (wpTree P ops Q R T p) (withOps ops [(i, false)]) a w ∧ wpPlan P ops Q R (wpTree P ops Q R T q) (withOps ops [(j, false)]) a w

def after : List (Nat × Bool) → Array Bool → Array Bool
  | [], l => l
  | (i, _) :: rest, l => after rest (l.setIfInBounds i true)

def stepsB (md : Region.Mode) (ops : Array Oper) (n : Nat) : List (Nat × Bool) → Array Bool → Bool
  | [], _ => true
  | (i, true) :: rest, listed => (Region.ready md ops listed).contains i && Region.free md ops listed i && decide (i < n) && stepsB md ops n rest (listed.setIfInBounds i true)
  | (i, false) :: rest, listed => decide (Region.ready md ops listed = [i]) && decide (i < n) && stepsB md ops n rest (listed.setIfInBounds i true)

def treeB (md : Region.Mode) (ops : Array Oper) (n : Nat) : Tree → Array Bool → Nat → Bool
  | .fin, listed, f => decide (f = 0) && Region.seqB md ops (ops.size - n) n listed
  | .seq π t, listed, f => decide (π.length ≤ f) && stepsB md ops n π listed && treeB md ops n t (after π listed) (f - π.length)
  | .fork i j p q, listed, f => decide (0 < f) && decide (Region.ready md ops listed = [i, j]) && decide (i < n) && decide (j < n) && treeB md ops n p (listed.setIfInBounds i true) (f - 1) && treeB md ops n q (listed.setIfInBounds j true) (f - 1)

theorem loud_sound {n i f : Nat} {L : Array Bool → Act → World → Prop} {C : Act → World → Prop} {listed : Array Bool} {a : Act} {w : World} (hrefl : ∀ w, R w w) (hi : i ∈ Region.ready md ops listed)
    (hC : ∀ a w, C a w → wpAnyG P md ops Q R n L f (listed.setIfInBounds i true) a w) (h : wpPlan P ops Q R C (withOps ops [(i, false)]) a w) :
    wpOp P ops Q i (fun a' w' => R w w' ∧ wpAnyG P md ops Q R n L f (listed.setIfInBounds i true) a' w') a w := by
  obtain ⟨_, o, ho, _⟩ := mem_ready.1 hi
  simp only [withOps, ho, wpPlan] at h
  unfold wpOp
  simp only [ho]
  split
  · rename_i hw
    rw [if_pos hw] at h
    exact .inl (Oper.wp_mono (fun a' w' h' => ⟨h'.1, hC _ _ h'.2⟩) h)
  · rename_i hw
    rw [if_neg hw] at h
    exact ⟨hrefl w, hC _ _ h⟩

theorem steps_sound (hrefl : ∀ w, R w w) (htrans : ∀ a b c, R a b → R b c → R a c) {n : Nat} {L : Array Bool → Act → World → Prop} {C : Act → World → Prop} (hsel : Region.noSelect ops = true) (hQ : ∀ c (a : Act) d v w, Q (.panic c) (a.put d v) w → Q (.panic c) a w)
    (hwait : ∀ listed, HeadInv md ops n listed → ∀ i, i < n → listed.getD i true = false → ∀ t, n ≤ t → t ∉ Region.ready md ops listed)
    (hdone : ∀ listed a w, L listed a w → ∀ j ∈ Region.ready md ops listed, n ≤ j) (f : Nat) :
    ∀ (π : List (Nat × Bool)) (listed : Array Bool) (a : Act) (w : World), HeadInv md ops n listed → stepsB md ops n π listed = true →
      (HeadInv md ops n (after π listed) → ∀ a w, C a w → wpAnyG P md ops Q R n L f (after π listed) a w) → wpPlan P ops Q R C (withOps ops π) a w → wpAnyG P md ops Q R n L (f + π.length) listed a w
  | [], listed, a, w, inv, _, hC, h => hC inv a w h
  | (i, true) :: π, listed, a, w, inv, hB, hC, h => by
    simp only [stepsB, Bool.and_eq_true, decide_eq_true_eq] at hB
    obtain ⟨⟨⟨hr, hf⟩, hin⟩, hB'⟩ := hB
    have hr' : i ∈ Region.ready md ops listed := by simpa using hr
    obtain ⟨_, o, ho, _⟩ := mem_ready.1 hr'
    simp only [withOps, ho, wpPlan] at h
    obtain ⟨v, hy, h⟩ := h
    exact wpAnyG_first hrefl htrans ho (Region.noSelect_spec hsel) (fun c a w => hQ c a o.dst v w) hin hwait hdone (f + π.length) listed a w inv (Region.free_spec ho hf) hr' hy
      (steps_sound hrefl htrans hsel hQ hwait hdone f π _ _ _ (inv.set hr' hin) hB' hC h)
  | (i, false) :: π, listed, a, w, inv, hB, hC, h => by
    simp only [stepsB, Bool.and_eq_true, decide_eq_true_eq] at hB
    obtain ⟨⟨hr, hin⟩, hB'⟩ := hB
    have hr' : i ∈ Region.ready md ops listed := by rw [hr]; simp
    obtain ⟨_, o, ho, _⟩ := mem_ready.1 hr'
    refine ⟨by rw [hr]; simp, fun j hj => ?_⟩
    rw [hr] at hj
    obtain rfl : j = i := by simpa using hj
    refine ⟨hin, loud_sound (C := wpPlan P ops Q R C (withOps ops π)) hrefl hr' (fun a w h' => steps_sound hrefl htrans hsel hQ hwait hdone f π _ _ _ (inv.set hr' hin) hB' hC h') ?_⟩
    simp only [withOps, ho, wpPlan] at h ⊢
    exact h

theorem tree_sound (hrefl : ∀ w, R w w) (htrans : ∀ a b c, R a b → R b c → R a c) {n : Nat} {T : Act → World → Prop} (hsel : Region.noSelect ops = true) (hQ : ∀ c (a : Act) d v w, Q (.panic c) (a.put d v) w → Q (.panic c) a w)
    (hwait : ∀ listed, HeadInv md ops n listed → ∀ i, i < n → listed.getD i true = false → ∀ t, n ≤ t → t ∉ Region.ready md ops listed) :
    ∀ (t : Tree) (f : Nat) (listed : Array Bool) (a : Act) (w : World), HeadInv md ops n listed → treeB md ops n t listed f = true → wpTree P ops Q R T t a w →
      wpAnyG P md ops Q R n (fun l a w => Region.seqB md ops (ops.size - n) n l = true ∧ T a w) f listed a w
  | .fin, f, listed, a, w, _, hB, h => by
    simp only [treeB, Bool.and_eq_true, decide_eq_true_eq] at hB
    obtain ⟨rfl, hB⟩ := hB
    exact ⟨hB, h⟩
  | .seq π t, f, listed, a, w, inv, hB, h => by
    simp only [treeB, Bool.and_eq_true, decide_eq_true_eq] at hB
    obtain ⟨⟨hf, hs⟩, ht⟩ := hB
    have := steps_sound hrefl htrans hsel hQ hwait (fun l a w hL => seqB_ready hL.1) (f - π.length) π listed a w inv hs (fun inv' a w h' => tree_sound hrefl htrans hsel hQ hwait t _ _ a w inv' ht h') h
    rwa [Nat.sub_add_cancel hf] at this
  | .fork i j p q, f, listed, a, w, inv, hB, h => by
    simp only [treeB, Bool.and_eq_true, decide_eq_true_eq] at hB
    obtain ⟨⟨⟨⟨⟨hf, hr⟩, hin⟩, hjn⟩, hp⟩, hq⟩ := hB
    have hri : i ∈ Region.ready md ops listed := by rw [hr]; simp
    have hrj : j ∈ Region.ready md ops listed := by rw [hr]; simp
    obtain ⟨f, rfl⟩ : ∃ k, f = k + 1 := ⟨f - 1, by omega⟩
    refine ⟨by rw [hr]; simp, fun k hk => ?_⟩
    rw [hr] at hk
    have hk' : k = i ∨ k = j := by simpa using hk
    rcases hk' with rfl | rfl
    · exact ⟨hin, loud_sound hrefl hri (fun a w h' => tree_sound hrefl htrans hsel hQ hwait p _ _ a w (inv.set hri hin) hp h') h.1⟩
    · exact ⟨hjn, loud_sound hrefl hrj (fun a w h' => tree_sound hrefl htrans hsel hQ hwait q _ _ a w (inv.set hrj hjn) hq h') h.2⟩

def treeOK (md : Region.Mode) (ops : Array Oper) (n : Nat) (t : Tree) : Bool :=
  Region.noSelect ops && treeB md ops n t (Array.replicate ops.size false) n &&
    (decide (n = ops.size) || (decide (n < ops.size) && Region.sinkB md ops n && Region.chainB md ops n))

theorem region_tree {id : Nat} {a : Act} {w : World} {l : List Oper} (R : World → World → Prop) (hrefl : ∀ w, R w w) (htrans : ∀ a b c, R a b → R b c → R a c) (n : Nat) (t : Tree)
    (hm : P.follows .mixedOrders = true) (hQ : ∀ c (a : Act) d v w, Q (.panic c) (a.put d v) w → Q (.panic c) a w) (hB : treeOK .any l.toArray n t = true)
    (h : wpTree P l.toArray Q R (fun a' w' => wpList P l.toArray Q (l.drop n) a' w') t a w.drew) : (Code.region id l.toArray true).wp P Q a w := by
  simp only [treeOK, Bool.and_eq_true, Bool.or_eq_true, decide_eq_true_eq] at hB
  obtain ⟨⟨hsel, hpl⟩, hend⟩ := hB
  have hle : n ≤ l.length := by rcases hend with h | ⟨⟨h, _⟩, _⟩ <;> simp at h <;> omega
  have hwait : ∀ listed, HeadInv .any l.toArray n listed → ∀ i, i < n → listed.getD i true = false → ∀ t, n ≤ t → t ∉ Region.ready .any l.toArray listed := by
    intro listed inv i hi hun t ht hr
    obtain ⟨_, o, ho, _⟩ := mem_ready.1 hr
    have htl : t < l.toArray.size := (Array.getElem?_eq_some_iff.1 ho).1
    rcases hend with h | ⟨⟨h1, h2⟩, h3⟩
    · omega
    · exact tail_waits h2 h3 h1 inv _ i rfl hi hun t ht hr
  have inv0 : HeadInv .any l.toArray n (Array.replicate l.toArray.size false) :=
    ⟨by simp, fun j oj _ hl => (by rw [getD_replicate_false] at hl; cases hl), fun t _ ht => getD_in (by simpa using ht) (getD_replicate_false _ _)⟩
  have H := tree_sound hrefl htrans hsel hQ hwait t n _ a w.drew inv0 hpl h
  refine wp_region_any hm ?_
  have hsz : n + (l.toArray.size - n) = l.toArray.size := by simp; omega
  have H' := wpAny_of_G (g := l.toArray.size - n) (fun listed a w hL => by
    have hdl : (l.drop n).length = l.toArray.size - n := by simp
    rw [← hdl]
    exact wpAny_of_seq (l.drop n) n listed a w (fun j => by simp) (by rw [hdl]; exact hL.1) hL.2) n _ a w.drew H
  rw [hsz] at H'
  exact H'
theorem tree_seq {T : Act → World → Prop} {π : List (Nat × Bool)} {t : Tree} {a : Act} {w : World} (h : wpPlan P ops Q R (wpTree P ops Q R T t) (withOps ops π) a w) : wpTree P ops Q R T (.seq π t) a w := h
theorem tree_fork {T : Act → World → Prop} {i j : Nat} {p q : Tree} {a : Act} {w : World} (h1 : wpPlan P ops Q R (wpTree P ops Q R T p) (withOps ops [(i, false)]) a w) (h2 : wpPlan P ops Q R (wpTree P ops Q R T q) (withOps ops [(j, false)]) a w) : wpTree P ops Q R T (.fork i j p q) a w := ⟨h1, h2⟩
theorem plan_skip_end {T : Act → World → Prop} {i : Nat} {o : Oper} {a : Act} {w : World} (hw : Region.wanted o (yielded ops a.tmps) = false) (h : T (a.put o.dst undef) w) : wpPlan P ops Q R T [(i, o, true)] a w := plan_skip hw h
theorem tree_fin {T : Act → World → Prop} {a : Act} {w : World} (h : T a w) : wpTree P ops Q R T .fin a w := h
theorem Keep.alloc2 {S : Nat → Prop} {b : World} (hS : ∀ x, S x → x < b.heap.size) (o o' : Obj) : Keep S (b.alloc o) (b.alloc o') := fun x hx => (Below.heap_alloc b o' x (hS x hx)).trans (Below.heap_alloc b o x (hS x hx)).symm
/-- A row that a call owns is there as long as its blocks are. -/
theorem owns_keep {w w' : World} {base : Nat} {e : TypeId} {size : Nat} {v : Value} {n : Nat} {xs : List Value} (h : w.ownsRow base e size v n xs) (hk : ∀ g, base ≤ g → g < w.heap.size → w'.heap[g]? = w.heap[g]?) : w'.ownsRow base e size v n xs := by
  refine ⟨h.1, ?_⟩
  rcases h.2 with h' | ⟨g, cap, cur, h1, h2, h3, h4⟩
  · exact .inl h'
  · refine .inr ⟨g, cap, cur, h1, h2, ?_, h4⟩
    have hlt : g < w.heap.size := by
      rcases Nat.lt_or_ge g w.heap.size with hh | hh
      · exact hh
      · rw [Array.getElem?_eq_none hh] at h3; cases h3
    rw [hk g h2 hlt, h3]
theorem owns_far {w : World} {base : Nat} {e : TypeId} {size : Nat} {v : Value} {n : Nat} {xs : List Value} (h : w.ownsRow base e size v n xs) {x : Nat} (hx : x < base) : some x ≠ v.ownBlock := by
  rcases h.2 with ⟨h', _⟩ | ⟨g, cap, cur, h1, h2, _⟩
  · subst h'; simp [Value.ownBlock]
  · subst h1; simp [Value.ownBlock]; omega
end
end Go.Kp
