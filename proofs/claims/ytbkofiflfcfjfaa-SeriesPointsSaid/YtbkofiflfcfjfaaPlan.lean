/- A region that draws its order, walked once by a plan: its quiet operations first wherever they can be, the others in the one order that they have. -/
import Derived.StillTail
import Derived.OrdersHeld
import Derived.Below
set_option linter.unusedSimpArgs false
set_option linter.unusedVariables false
namespace Go.Kp
open Go.RowKit

section
variable {P : Program} {ops : Array Oper} {Q : Exit → Act → World → Prop} {md : Region.Mode} {R : World → World → Prop}

/-- Whatever order is picked for the operations below n: behind each one the world has gone on as R says; when all of them have come up, L. -/
def wpAnyG (P : Program) (md : Region.Mode) (ops : Array Oper) (Q : Exit → Act → World → Prop) (R : World → World → Prop) (n : Nat) (L : Array Bool → Act → World → Prop) : Nat → Array Bool → Act → World → Prop
  | 0, listed, a, w => L listed a w
  | f + 1, listed, a, w =>
    Region.ready md ops listed ≠ [] ∧ ∀ i ∈ Region.ready md ops listed, i < n ∧ wpOp P ops Q i (fun a' w' => R w w' ∧ wpAnyG P md ops Q R n L f (listed.setIfInBounds i true) a' w') a w

theorem wpAny_of_G {n g : Nat} {L : Array Bool → Act → World → Prop} (hL : ∀ listed a w, L listed a w → wpAny P md ops Q g listed a w) :
    ∀ (f : Nat) (listed : Array Bool) (a : Act) (w : World), wpAnyG P md ops Q R n L f listed a w → wpAny P md ops Q (f + g) listed a w
  | 0, listed, a, w, h => by rw [Nat.zero_add]; exact hL _ _ _ h
  | f + 1, listed, a, w, h => by
    rw [show f + 1 + g = (f + g) + 1 by omega]
    exact ⟨fun h0 => absurd h0 h.1, fun i hi => wpOp_mono (fun a' w' h' => wpAny_of_G hL f _ a' w' h'.2) (h.2 i hi).2⟩

theorem yieldsIf_mono {S S' : World → Prop} (h : ∀ w, S' w → S w) {o : Oper} {v : Value} {a : Act} (hy : YieldsIf P ops S o v a) : YieldsIf P ops S' o v a :=
  hy.imp (fun ⟨hw, hv⟩ => ⟨hw, fun w hw' => hv w (h w hw')⟩) id

/-- An operation that yields its value in every world to which R leads may be taken first. -/
theorem wpAnyG_first (hrefl : ∀ w, R w w) (htrans : ∀ a b c, R a b → R b c → R a c) {n i : Nat} {oi : Oper} {v : Value} {L : Array Bool → Act → World → Prop} (hi : ops[i]? = some oi)
    (hsel : ∀ (j : Nat) (o : Oper) cs b, ops[j]? = some o → o.op ≠ .select cs b) (hQ : ∀ c a w, Q (.panic c) (a.put oi.dst v) w → Q (.panic c) a w) (hin : i < n)
    (hwait : ∀ listed, HeadInv md ops n listed → ∀ i, i < n → listed.getD i true = false → ∀ t, n ≤ t → t ∉ Region.ready md ops listed)
    (hdone : ∀ listed a w, L listed a w → ∀ j ∈ Region.ready md ops listed, n ≤ j) :
    ∀ (f : Nat) (listed : Array Bool) (a : Act) (w : World), HeadInv md ops n listed →
      (∀ j oj, ops[j]? = some oj → j ≠ i → listed.getD j true = false → (∀ e ∈ oj.after, Region.binds md e = true → e.on ≠ i) → oi.apart ops oj = true) →
      i ∈ Region.ready md ops listed → YieldsIf P ops (R w) oi v a →
      wpAnyG P md ops Q R n L f (listed.setIfInBounds i true) (a.put oi.dst v) w → wpAnyG P md ops Q R n L (f + 1) listed a w := by
  intro f
  induction f with
  | zero =>
    intro listed a w inv _ hr hy H
    have hun := (mem_ready.1 hr).1
    refine ⟨fun h => (by rw [h] at hr; cases hr), fun j hj => ?_⟩
    have hjn : j < n := by
      rcases Nat.lt_or_ge j n with h | h
      · exact h
      · exact absurd hj (hwait listed inv i hin hun j h)
    refine ⟨hjn, ?_⟩
    by_cases hji : j = i
    · subst hji; exact hy.wpOp hi (hrefl w) ⟨hrefl w, H⟩
    · have := hdone _ _ _ H j (ready_mono hj hji)
      omega
  | succ f ih =>
    intro listed a w inv hfree hr hy H
    have hun := (mem_ready.1 hr).1
    refine ⟨fun h => (by rw [h] at hr; cases hr), fun j hj => ?_⟩
    have hjn : j < n := by
      rcases Nat.lt_or_ge j n with h | h
      · exact h
      · exact absurd hj (hwait listed inv i hin hun j h)
    refine ⟨hjn, ?_⟩
    by_cases hji : j = i
    · subst hji; exact hy.wpOp hi (hrefl w) ⟨hrefl w, H⟩
    · have h1 := (H.2 j (ready_mono hj hji)).2
      obtain ⟨hjun, oj, hoj, hall⟩ := mem_ready.1 hj
      have hnot : ∀ e ∈ oj.after, Region.binds md e = true → e.on ≠ i := fun e he hb heq => by
        have h1 := hall e he hb
        rw [heq, getD_both hun] at h1
        cases h1
      have h2 := wpOp_putIf hoj (hfree j oj hoj hji hjun hnot) (fun cs b => hsel i oi cs b hi) (fun cs b => hsel j oj cs b hoj) hQ hy h1
      have hfree' : ∀ k ok, ops[k]? = some ok → k ≠ i → (listed.setIfInBounds j true).getD k true = false →
          (∀ e ∈ ok.after, Region.binds md e = true → e.on ≠ i) → oi.apart ops ok = true := fun k ok hk hki hun hno => by
        refine hfree k ok hk hki ?_ hno
        by_cases hjk : j = k
        · subst hjk; exact hjun
        · rw [getD_set_ne true hjk] at hun; exact hun
      refine wpOp_mono (fun a' w' h3 => ⟨h3.2.1, ih (listed.setIfInBounds j true) a' w' (inv.set hj hjn) hfree' (ready_mono hr (Ne.symm hji)) (yieldsIf_mono (fun w'' h => htrans _ _ _ h3.2.1 h) h3.1) ?_⟩) h2
      rw [Array.setIfInBounds_comm _ _ hji]
      exact h3.2.2

/-- A region's operations in the order of a plan: the quiet ones first wherever they can be. -/
def wpPlan (P : Program) (ops : Array Oper) (Q : Exit → Act → World → Prop) (R : World → World → Prop) (T : Act → World → Prop) : List (Nat × Oper × Bool) → Act → World → Prop
  | [], a, w => T a w
  | (_, o, true) :: rest, a, w => ∃ v, YieldsIf P ops (R w) o v a ∧ wpPlan P ops Q R T rest (a.put o.dst v) w
  | (_, o, false) :: rest, a, w => if Region.wanted o (yielded ops a.tmps) then o.wp P a w (fun a' w' => R w w' ∧ wpPlan P ops Q R T rest a' w') Q else wpPlan P ops Q R T rest (a.put o.dst undef) w

def planB (md : Region.Mode) (ops : Array Oper) (n : Nat) : List (Nat × Bool) → Array Bool → Bool
  | [], listed => Region.seqB md ops (ops.size - n) n listed
  | (i, true) :: rest, listed => (Region.ready md ops listed).contains i && Region.free md ops listed i && decide (i < n) && planB md ops n rest (listed.setIfInBounds i true)
  | (i, false) :: rest, listed => decide (Region.ready md ops listed = [i]) && decide (i < n) && planB md ops n rest (listed.setIfInBounds i true)

/-- The plan with its operations. -/
def withOps (ops : Array Oper) : List (Nat × Bool) → List (Nat × Oper × Bool)
  | [] => []
  | (i, b) :: rest => match ops[i]? with | some o => (i, o, b) :: withOps ops rest | none => withOps ops rest

theorem plan_sound (hrefl : ∀ w, R w w) (htrans : ∀ a b c, R a b → R b c → R a c) {n : Nat} {T : Act → World → Prop} (hsel : Region.noSelect ops = true) (hQ : ∀ c (a : Act) d v w, Q (.panic c) (a.put d v) w → Q (.panic c) a w)
    (hwait : ∀ listed, HeadInv md ops n listed → ∀ i, i < n → listed.getD i true = false → ∀ t, n ≤ t → t ∉ Region.ready md ops listed) :
    ∀ (π : List (Nat × Bool)) (listed : Array Bool) (a : Act) (w : World), HeadInv md ops n listed → planB md ops n π listed = true → wpPlan P ops Q R T (withOps ops π) a w →
      wpAnyG P md ops Q R n (fun l a w => Region.seqB md ops (ops.size - n) n l = true ∧ T a w) π.length listed a w
  | [], listed, a, w, _, hB, h => ⟨hB, h⟩
  | (i, true) :: π, listed, a, w, inv, hB, h => by
    simp only [planB, Bool.and_eq_true, decide_eq_true_eq] at hB
    obtain ⟨⟨⟨hr, hf⟩, hin⟩, hB'⟩ := hB
    have hr' : i ∈ Region.ready md ops listed := by simpa using hr
    obtain ⟨_, o, ho, _⟩ := mem_ready.1 hr'
    simp only [withOps, ho, wpPlan] at h
    obtain ⟨v, hy, h⟩ := h
    exact wpAnyG_first hrefl htrans ho (Region.noSelect_spec hsel) (fun c a w => hQ c a o.dst v w) hin hwait (fun l a w hL => seqB_ready hL.1) π.length listed a w inv (Region.free_spec ho hf) hr' hy
      (plan_sound hrefl htrans hsel hQ hwait π _ _ _ (inv.set hr' hin) hB' h)
  | (i, false) :: π, listed, a, w, inv, hB, h => by
    simp only [planB, Bool.and_eq_true, decide_eq_true_eq] at hB
    obtain ⟨⟨hr, hin⟩, hB'⟩ := hB
    have hr' : i ∈ Region.ready md ops listed := by rw [hr]; simp
    obtain ⟨_, o, ho, _⟩ := mem_ready.1 hr'
    simp only [withOps, ho, wpPlan] at h
    refine ⟨by rw [hr]; simp, fun j hj => ?_⟩
    rw [hr] at hj
    obtain rfl : j = i := by simpa using hj
    refine ⟨hin, ?_⟩
    unfold wpOp
    simp only [ho]
    split
    · rename_i hw
      rw [if_pos hw] at h
      exact .inl (Oper.wp_mono (fun a' w' h' => ⟨h'.1, plan_sound hrefl htrans hsel hQ hwait π _ _ _ (inv.set hr' hin) hB' h'.2⟩) h)
    · rename_i hw
      rw [if_neg hw] at h
      exact ⟨hrefl w, plan_sound hrefl htrans hsel hQ hwait π _ _ _ (inv.set hr' hin) hB' h⟩

/-- The check of a plan, in one Bool. -/
def planOK (md : Region.Mode) (ops : Array Oper) (n : Nat) (π : List (Nat × Bool)) : Bool :=
  Region.noSelect ops && decide (π.length = n) && planB md ops n π (Array.replicate ops.size false) &&
    (decide (n = ops.size) || (decide (n < ops.size) && Region.sinkB md ops n && Region.chainB md ops n))

/-- A REGION THAT DRAWS ITS ORDER, BY A PLAN: the operations below n in the plan's order, those from n on as they stand. -/
theorem region_plan {id : Nat} {a : Act} {w : World} {l : List Oper} (R : World → World → Prop) (hrefl : ∀ w, R w w) (htrans : ∀ a b c, R a b → R b c → R a c) (n : Nat) (π : List (Nat × Bool))
    (hm : P.follows .mixedOrders = true) (hQ : ∀ c (a : Act) d v w, Q (.panic c) (a.put d v) w → Q (.panic c) a w) (hB : planOK .any l.toArray n π = true)
    (h : wpPlan P l.toArray Q R (fun a' w' => wpList P l.toArray Q (l.drop n) a' w') (withOps l.toArray π) a w.drew) : (Code.region id l.toArray true).wp P Q a w := by
  simp only [planOK, Bool.and_eq_true, Bool.or_eq_true, decide_eq_true_eq] at hB
  obtain ⟨⟨⟨hsel, hlen⟩, hpl⟩, hend⟩ := hB
  have hle : n ≤ l.length := by rcases hend with h | ⟨⟨h, _⟩, _⟩ <;> simp at h <;> omega
  have hwait : ∀ listed, HeadInv .any l.toArray n listed → ∀ i, i < n → listed.getD i true = false → ∀ t, n ≤ t → t ∉ Region.ready .any l.toArray listed := by
    intro listed inv i hi hun t ht hr
    obtain ⟨_, o, ho, _⟩ := mem_ready.1 hr
    have htl : t < l.toArray.size := (Array.getElem?_eq_some_iff.1 ho).1
    rcases hend with h | ⟨⟨h1, h2⟩, h3⟩
    · omega
    · exact tail_waits h2 h3 h1 inv _ i rfl hi hun t ht hr
  have inv0 : HeadInv .any l.toArray n (Array.replicate l.toArray.size false) :=
    ⟨by simp, fun j oj _ hl => (by rw [getD_replicate_false] at hl; cases hl), fun t _ ht => getD_in (by simpa using ht) (getD_replicate_false _ _)⟩
  have H := plan_sound hrefl htrans hsel hQ hwait π _ a w.drew inv0 hpl h
  refine wp_region_any hm ?_
  have hsz : π.length + (l.toArray.size - n) = l.toArray.size := by simp; omega
  have H' := wpAny_of_G (g := l.toArray.size - n) (fun listed a w hL => by
    have hdl : (l.drop n).length = l.toArray.size - n := by simp
    rw [← hdl]
    exact wpAny_of_seq (l.drop n) n listed a w (fun j => by simp) (by rw [hdl]; exact hL.1) hL.2) π.length _ a w.drew H
  rw [hsz] at H'
  exact H'

/-- One step of a plan. -/
theorem plan_quiet {T : Act → World → Prop} {i : Nat} {o : Oper} {rest : List (Nat × Oper × Bool)} {a : Act} {w : World} {v : Value} (hw : Region.wanted o (yielded ops a.tmps) = true)
    (hy : ∀ w', R w w' → (execOp a.eval o).run P w' = .ok (.value v) w') (h : wpPlan P ops Q R T rest (a.put o.dst v) w) : wpPlan P ops Q R T ((i, o, true) :: rest) a w :=
  ⟨v, .inl ⟨hw, hy⟩, h⟩
theorem plan_skip {T : Act → World → Prop} {i : Nat} {o : Oper} {rest : List (Nat × Oper × Bool)} {a : Act} {w : World} (hw : Region.wanted o (yielded ops a.tmps) = false)
    (h : wpPlan P ops Q R T rest (a.put o.dst undef) w) : wpPlan P ops Q R T ((i, o, true) :: rest) a w :=
  ⟨undef, .inr ⟨hw, rfl⟩, h⟩
theorem plan_loud {T : Act → World → Prop} {i : Nat} {o : Oper} {rest : List (Nat × Oper × Bool)} {a : Act} {w : World}
    (h : ∀ K : Act → World → Prop, (∀ a' w', R w w' → wpPlan P ops Q R T rest a' w' → K a' w') → if Region.wanted o (yielded ops a.tmps) = true then o.wp P a w K Q else K (a.put o.dst undef) w) : wpPlan P ops Q R T ((i, o, false) :: rest) a w := by
  by_cases hw : Region.wanted o (yielded ops a.tmps) = true
  · have := h (fun a' w' => R w w' ∧ wpPlan P ops Q R T rest a' w') (fun _ _ h1 h2 => ⟨h1, h2⟩)
    rw [if_pos hw] at this
    simp only [wpPlan, if_pos hw]
    exact this
  · have := h (fun a' w' => wpPlan P ops Q R T rest a' w') (fun _ _ _ h2 => h2)
    rw [if_neg hw] at this
    simp only [wpPlan, if_neg hw]
    exact this
theorem plan_end {T : Act → World → Prop} {a : Act} {w : World} (h : T a w) : wpPlan P ops Q R T [] a w := h

/-! ### What most regions know of their going on: the blocks that S names stay as they are -/
end
def Keep (S : Nat → Prop) (w w' : World) : Prop := ∀ b : Nat, S b → w'.heap[b]? = w.heap[b]?
theorem Keep.refl (S : Nat → Prop) (w : World) : Keep S w w := fun _ _ => rfl
theorem Keep.trans {S : Nat → Prop} (a b c : World) (h : Keep S a b) (k : Keep S b c) : Keep S a c := fun x hx => (k x hx).trans (h x hx)
theorem Keep.drew {S : Nat → Prop} {a b : World} (h : Keep S a b) : Keep S a b.drew := h
theorem Keep.of_drew {S : Nat → Prop} {a b : World} (h : Keep S a b) : Keep S a.drew b := h
theorem Keep.below {S : Nat → Prop} {B : Nat} {a b c : World} (h : Keep S a b) (hb : Below B b c) (hS : ∀ x, S x → x < B) : Keep S a c := fun x hx => (hb.block x (hS x hx)).trans (h x hx)
theorem Keep.grown {S : Nat → Prop} {a b c : World} {row : Option Nat} (h : Keep S a b) (hb : b.grownBy c row) (hS : ∀ x, S x → x < b.heap.size) (hr : ∀ x, S x → some x ≠ row) : Keep S a c := fun x hx => (hb.block x (hS x hx) (hr x hx)).trans (h x hx)
theorem Keep.alloc {S : Nat → Prop} {a b : World} (h : Keep S a b) (hS : ∀ x, S x → x < b.heap.size) (o : Obj) : Keep S a (b.alloc o) := fun x hx => (Below.heap_alloc b o x (hS x hx)).trans (h x hx)
theorem Keep.setCell {S : Nat → Prop} {a b : World} (h : Keep S a b) {p : Addr} (hS : ¬ S p.block) (v : Value) : Keep S a (b.setCell p v) := fun x hx => (Below.heap_setCell b p v x (fun e => hS (e ▸ hx))).trans (h x hx)
theorem Keep.cell {S : Nat → Prop} {w w' : World} (h : Keep S w w') (b o : Nat) (hb : S b) : w'.cell? ⟨b, o, none⟩ = w.cell? ⟨b, o, none⟩ := World.cell?_of_block (a := ⟨b, o, none⟩) (h b hb)

section
variable {P : Program} {ops : Array Oper} {Q : Exit → Act → World → Prop} {S : Nat → Prop}
theorem region_keep {id : Nat} {a : Act} {w : World} {l : List Oper} (S : Nat → Prop) (n : Nat) (π : List (Nat × Bool))
    (hm : P.follows .mixedOrders = true) (hQ : ∀ c (a : Act) d v w, Q (.panic c) (a.put d v) w → Q (.panic c) a w) (hB : planOK .any l.toArray n π = true)
    (h : wpPlan P l.toArray Q (Keep S) (fun a' w' => wpList P l.toArray Q (l.drop n) a' w') (withOps l.toArray π) a w.drew) : (Code.region id l.toArray true).wp P Q a w :=
  region_plan (Keep S) (Keep.refl S) Keep.trans n π hm hQ hB h
theorem keep_quiet {T : Act → World → Prop} {i : Nat} {o : Oper} {rest : List (Nat × Oper × Bool)} {a : Act} {w : World} {v : Value} (hw : Region.wanted o (yielded ops a.tmps) = true)
    (hy : ∀ w' : World, (∀ b o, S b → w'.cell? ⟨b, o, none⟩ = w.cell? ⟨b, o, none⟩) → (execOp a.eval o).run P w' = .ok (.value v) w') (h : wpPlan P ops Q (Keep S) T rest (a.put o.dst v) w) :
    wpPlan P ops Q (Keep S) T ((i, o, true) :: rest) a w :=
  plan_quiet hw (fun w' hw' => hy w' fun b o hb => hw'.cell b o hb) h
end
end Go.Kp
