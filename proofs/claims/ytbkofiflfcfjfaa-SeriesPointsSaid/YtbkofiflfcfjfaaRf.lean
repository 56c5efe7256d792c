/- Loops over functions: what an iterator and its rounds promise each other, by the blocks that each of them may turn; a drawn region in a round. -/
import Derived.Test.YtbkofiflfcfjfaaBase
import Derived.Test.YtbkofiflfcfjfaaPlan
import Derived.RangeFuncNested
import Derived.RangeFuncBound
import Derived.RangeFuncCalls
import Derived.RangeFuncLeaves
import Derived.Shelf.Abstract
import Derived.OwnWalkIn
import Derived.TacticsInMore
import Derived.LoopNIn
import Derived.LoopIn
set_option linter.unusedSimpArgs false
set_option linter.unusedVariables false
namespace Go.Kp
open Go.RowKit

/-- From W to W': of the blocks that lay only those of M have turned. -/
structure Fr (M : Nat → Prop) (W W' : World) : Prop where
  os : W'.os = W.os
  tape : W'.tape = W.tape
  output : W'.output = W.output
  size : W.heap.size ≤ W'.heap.size
  block : ∀ k : Nat, k < W.heap.size → ¬ M k → W'.heap[k]? = W.heap[k]?
theorem Fr.refl (M : Nat → Prop) (W : World) : Fr M W W := ⟨rfl, rfl, rfl, Nat.le_refl _, fun _ _ _ => rfl⟩
theorem Fr.trans {M : Nat → Prop} {a b c : World} (h : Fr M a b) (k : Fr M b c) : Fr M a c :=
  ⟨k.os.trans h.os, k.tape.trans h.tape, k.output.trans h.output, Nat.le_trans h.size k.size, fun x hx hm => (k.block x (Nat.lt_of_lt_of_le hx h.size) hm).trans (h.block x hx hm)⟩
theorem Fr.mono {M M' : Nat → Prop} {a b : World} (h : Fr M a b) (hM : ∀ k, k < a.heap.size → M k → M' k) : Fr M' a b :=
  ⟨h.os, h.tape, h.output, h.size, fun x hx hm => h.block x hx (fun hm' => hm (hM x hx hm'))⟩
theorem Fr.of_below {B : Nat} {a b : World} (h : Below B a b) : Fr (fun k => B ≤ k) a b := ⟨h.os, h.tape, h.output, h.size, fun x _ hm => h.block x (Nat.lt_of_not_le hm)⟩
/-- Nothing that lay has turned. -/
theorem Fr.next {M : Nat → Prop} {a b : World} (h : Below a.heap.size a b) : Fr M a b := ⟨h.os, h.tape, h.output, h.size, fun x hx _ => h.block x hx⟩
theorem Fr.below {M : Nat → Prop} {B : Nat} {a b : World} (h : Fr M a b) (hM : ∀ k, M k → B ≤ k) (hB : B ≤ a.heap.size) : Below B a b :=
  ⟨h.os, h.tape, h.output, h.size, fun x hx => h.block x (Nat.lt_of_lt_of_le hx hB) (fun hm => by have := hM x hm; omega)⟩
theorem Fr.set {M : Nat → Prop} {a b : World} (h : Fr M a b) {g i : Nat} (v : Value) (hg : M g) : Fr M a (b.setCell ⟨g, i, none⟩ v) :=
  ⟨h.os, h.tape, h.output, by rw [World.size_setCell]; exact h.size, fun x hx hm => (heap_set_ne b g x i v (fun e => hm (e ▸ hg))).trans (h.block x hx hm)⟩
theorem Fr.alloc {M : Nat → Prop} {a b : World} (h : Fr M a b) (o : Obj) : Fr M a (b.alloc o) :=
  ⟨h.os, h.tape, h.output, by rw [World.size_alloc]; exact Nat.le_succ_of_le h.size, fun x hx hm => (heap_old (Nat.lt_of_lt_of_le hx h.size)).trans (h.block x hx hm)⟩
theorem Fr.drew {M : Nat → Prop} {a b : World} (h : Fr M a b) : Fr M a b.drew := ⟨h.os, h.tape, h.output, h.size, h.block⟩

/-- Block l alone has turned. -/
def OnlyB (l : Nat) (W W' : World) : Prop := Fr (fun k => k = l) W W' ∧ W'.heap.size = W.heap.size
theorem OnlyB.at {l : Nat} {W W' : World} (h : OnlyB l W W') {k : Nat} (hk : k ≠ l) : W'.heap[k]? = W.heap[k]? := by
  rcases Nat.lt_or_ge k W.heap.size with h1 | h1
  · exact h.1.block k h1 hk
  · rw [Array.getElem?_eq_none (by rw [h.2]; exact h1), Array.getElem?_eq_none h1]
theorem OnlyB.put (W : World) (l : Nat) (o : Obj) : OnlyB l W (W.putObj l o) :=
  ⟨⟨rfl, rfl, rfl, by rw [World.putObj_size]; exact Nat.le_refl _, fun k _ hk => World.putObj_heap_other hk⟩, World.putObj_size⟩

/-- What a round keeps for the iterator. -/
def Kept (Pv : Nat → Prop) (W W' : World) : Prop := W.heap.size ≤ W'.heap.size ∧ ∀ k : Nat, Pv k → W'.heap[k]? = W.heap[k]?
theorem Kept.of_fr {Pv M : Nat → Prop} {W W' : World} (h : Fr M W W') (hP : ∀ k, Pv k → k < W.heap.size ∧ ¬ M k) : Kept Pv W W' := ⟨h.size, fun k hk => h.block k (hP k hk).1 (hP k hk).2⟩

/-- What the caller's word abides: the iterator turns its own blocks Pv, and makes new ones, which may become its own. -/
def StabM {β : Type} (J : β → (Nat → Prop) → World → Prop) : Prop :=
  ∀ s Pv Pv' W W', J s Pv W → Fr Pv W W' → (∀ k : Nat, Pv' k → Pv k ∨ W.heap.size ≤ k) → J s Pv' W'

/-- An iterator's contract: T: what it knows of the element that it hands out; S: all have come; Sp: a part has come. Pf: its own blocks at the start; Ro: blocks that nobody turns. -/
def SeqM {α : Type} (F : Fence) (n : Nat) (P : Program) (g : Nat) (lb : Array Value) (encs : α → Array Value) (T : List α → α → (Nat → Prop) → World → Prop) (S Sp : List α → Prop) (Pf Ro : Nat → Prop) (W : World) : Prop :=
  ∀ (l : Nat) (J Jx : List α → (Nat → Prop) → World → Prop), StabM J → StabM Jx →
    (∀ pre x Pv W1, J pre Pv W1 → T pre x Pv W1 → YieldAt F (n - 1) P l (encs x) W1 fun e W' =>
      (e = .returned (.bool true) ∧ J (pre ++ [x]) Pv W' ∧ Kept (fun k => Pv k ∨ Ro k) W1 W') ∨ (e = .returned (.bool false) ∧ Jx (pre ++ [x]) Pv W')) →
    J [] Pf W →
    CallsIn F n P g (#[.func (.yield l) #[] #[]] ++ lb) W fun e W' => (∃ v, e = .returned v) ∧ ((∃ xs Pv, S xs ∧ J xs Pv W') ∨ (∃ pre Pv, Sp pre ∧ Jx pre Pv W'))

/-- How a round's body may be left. -/
def postM {α : Type} (I : List α → (Nat → Prop) → World → Prop) (Ix : Code → List α → (Nat → Prop) → World → Prop) (Pv Ro : Nat → Prop) (xs : List α) (l : Nat) (W W2 : World) : Exit → Act → World → Prop
  | .normal, _, W' => W'.heap[l]? = W2.heap[l]? ∧ W'.heap[l - 1]? = W2.heap[l - 1]? ∧ Kept (fun k => Pv k ∨ Ro k) W W' ∧ I xs Pv W'
  | .ret, _, W' => W'.heap[l]? = W2.heap[l]? ∧ W'.heap[l - 1]? = W2.heap[l - 1]? ∧ Ix .ret xs Pv W'
  | .exit id, _, W' => W'.heap[l]? = W2.heap[l]? ∧ W'.heap[l - 1]? = W2.heap[l - 1]? ∧ Ix (.exit id) xs Pv W'
  | .goto t, _, W' => W'.heap[l]? = W2.heap[l]? ∧ W'.heap[l - 1]? = W2.heap[l - 1]? ∧ Ix (.goto t) xs Pv W'
  | .panic _, _, _ => False
  | .outgrown, _, _ => False

variable {F : Fence} {n : Nat} {P : Program}

theorem wpIn_rangeFunc_M {α : Type} {g : Operand} {ps : Array Tmp} {assign body : Code} {Q : Exit → Act → World → Prop} {a : Act} {w : World}
    (hro : F.round = none) (h1 : 1 ≤ n) {gf : Nat} {lb : Array Value} (hg : a.eval g = .func (.func gf) #[] lb) (hFg : F.fn gf) (eg : ∀ args w, (callFunc gf args).run P w = .ok (.enter gf args) w)
    {encs : α → Array Value} {T : List α → α → (Nat → Prop) → World → Prop} {S Sp : List α → Prop} {Pf Ro : Nat → Prop} (hseq : ∀ W', Below w.heap.size w W' → SeqM F (n - 1) P gf lb encs T S Sp Pf Ro W') (hPf : ∀ k, Pf k → k < w.heap.size) (hRo : ∀ k, Ro k → k < w.heap.size) (hps : ∀ x, (encs x).size = ps.size)
    (I : List α → (Nat → Prop) → World → Prop) (Ix : Code → List α → (Nat → Prop) → World → Prop)
    (hI : ∀ pre (Pv Pv' : Nat → Prop) W W', I pre Pv W → Fr (fun k => Pv k ∨ k = w.heap.size + 1) W W' → (∀ k, Pv' k → Pv k ∨ W.heap.size ≤ k) → I pre Pv' W')
    (hIx : ∀ c pre (Pv Pv' : Nat → Prop) W W', Ix c pre Pv W → Fr (fun k => Pv k ∨ k = w.heap.size + 1) W W' → (∀ k, Pv' k → Pv k ∨ W.heap.size ≤ k) → Ix c pre Pv' W')
    (h0 : I [] Pf w)
    (hround : ∀ (l : Nat) (pre : List α) (x : α) (Pv : Nat → Prop) (W : World), l = w.heap.size + 1 → l < W.heap.size → ¬ Pv l → ¬ Pv (l - 1) → (∃ r, W.heap[l]? = some (.loop r)) → W.heap[l - 1]? = some (.deferred (some [])) → I pre Pv W → T pre x Pv W →
      assign.wpIn (F.inRound l) (n - 1 - 1) P (Exit.then (fun a1 W1 => W1.heap[l]? = W.heap[l]? ∧ W1.heap[l - 1]? = W.heap[l - 1]? ∧ ∀ W2, OnlyB l W1 W2 → body.wpIn (F.inRound l) (n - 1 - 1) P (postM I Ix Pv Ro (pre ++ [x]) l W W2) a1 W2) (fun _ _ _ => False))
        { tmps := (ps.zip (encs x)).foldl (fun t (p, v) => t.setIfInBounds p v) a.tmps, defers := [] } W)
    (hdone : ∀ (D : Nat) (xs : List α) (Pv : Nat → Prop) (W : World), D = w.heap.size → S xs → I xs Pv W → W.heap[D]? = some (.deferred (some [])) → Q .normal { a with defers := { target := .collected D, args := #[] } :: a.defers } W)
    (hstop : ∀ (D : Nat) (c : Code) (pre : List α) (Pv : Nat → Prop) (W : World), D = w.heap.size → Sp pre → Ix c pre Pv W → W.heap[D]? = some (.deferred (some [])) → c.wpIn F n P Q { a with defers := { target := .collected D, args := #[] } :: a.defers } W) :
    (Code.rangeFunc g ps assign body).wpIn F n P Q a w := by
  refine wpIn_rangeFunc ?_
  intro fn hfn
  rw [hro]
  obtain ⟨rec, hrec⟩ : ∃ rec : LoopState → Option Code → Loop, rec = fun st pe => { state := st, pending := pe, fn, tmps := a.tmps, params := ps, assign, body, defers := w.heap.size } := ⟨_, rfl⟩
  obtain ⟨W1, hW1⟩ : ∃ W1, (w.alloc (.deferred (some []))).alloc (.loop (rec .ready none)) = W1 := ⟨_, rfl⟩
  have hL1 : W1.heap[w.heap.size + 1]? = some (.loop (rec .ready none)) := by
    rw [← hW1]; have := World.alloc_heap_new (w.alloc (.deferred (some []))) (.loop (rec .ready none)); rwa [World.size_alloc] at this
  have hK1 : W1.heap[w.heap.size]? = some (.deferred (some [])) := by
    rw [← hW1]; exact (Below.heap_alloc _ _ _ (by simp)).trans (World.alloc_heap_new w _)
  have hb1 : Below w.heap.size w W1 := by
    rw [← hW1]; exact (((Below.refl _ w).alloc (Nat.le_refl _) _).alloc (by simp) _)
  have hs1 : w.heap.size + 1 < W1.heap.size := by rw [← hW1]; simp
  have hI1 : I [] Pf W1 := hI [] Pf Pf w W1 h0 (Fr.next hb1) (fun k hk => .inl hk)
  obtain ⟨L, hL⟩ : ∃ L, w.heap.size + 1 = L := ⟨_, rfl⟩
  have hLD : L - 1 = w.heap.size := by omega
  refine ⟨w.heap.size + 1, [{ target := .collected w.heap.size, args := #[] }], W1, { target := .fn (.func gf) lb, args := #[.func (.yield (w.heap.size + 1)) #[] #[]] }, W1, gf,
    #[.func (.yield (w.heap.size + 1)) #[] #[]] ++ lb, W1, ?_, ?_, ?_, ?_, fun _ => h1, ?_⟩
  · rw [← hW1, hrec]; exact run_enterLoop_outer _ _ _ _ _
  · simp only [resolve, hg]
    simp [go_sem]
  · intro f' hf'; simp [Target.leads] at hf'; subst hf'; exact hFg
  · simp [invoke, go_sem, eg]
  · have hrc : ∀ {Pv : Nat → Prop} {W W' : World} (b : Nat) (o : Obj), b < W.heap.size → ¬ Pv b → Fr Pv W W' → W.heap[b]? = some o → W'.heap[b]? = some o := fun b o hb hp hf h => (hf.block b hb hp).trans h
    refine (hseq W1 hb1 (w.heap.size + 1)
      (fun pre Pv W => I pre Pv W ∧ W.heap[w.heap.size + 1]? = some (.loop (rec .ready none)) ∧ W.heap[w.heap.size]? = some (.deferred (some [])) ∧ ¬ Pv (w.heap.size + 1) ∧ ¬ Pv w.heap.size)
      (fun pre Pv W => ∃ c, Ix c pre Pv W ∧ W.heap[w.heap.size + 1]? = some (.loop (rec .done (some c))) ∧ W.heap[w.heap.size]? = some (.deferred (some [])) ∧ ¬ Pv (w.heap.size + 1) ∧ ¬ Pv w.heap.size)
      ?_ ?_ ?_ ⟨hI1, hL1, hK1, fun h => by have := hPf _ h; omega, fun h => by have := hPf _ h; omega⟩).mono ?_
    · rintro pre Pv Pv' W W' ⟨hi, hl, hk, hp1, hp2⟩ hf hP
      have z1 := (Array.getElem?_eq_some_iff.1 hl).1
      have z2 := (Array.getElem?_eq_some_iff.1 hk).1
      exact ⟨hI pre Pv Pv' W W' hi (hf.mono fun k _ h => .inl h) hP, hrc _ _ z1 hp1 hf hl, hrc _ _ z2 hp2 hf hk, fun h => (hP _ h).elim hp1 (fun h => by omega), fun h => (hP _ h).elim hp2 (fun h => by omega)⟩
    · rintro pre Pv Pv' W W' ⟨c, hi, hl, hk, hp1, hp2⟩ hf hP
      have z1 := (Array.getElem?_eq_some_iff.1 hl).1
      have z2 := (Array.getElem?_eq_some_iff.1 hk).1
      exact ⟨c, hIx c pre Pv Pv' W W' hi (hf.mono fun k _ h => .inl h) hP, hrc _ _ z1 hp1 hf hl, hrc _ _ z2 hp2 hf hk, fun h => (hP _ h).elim hp1 (fun h => by omega), fun h => (hP _ h).elim hp2 (fun h => by omega)⟩
    · rintro pre x Pv W ⟨hi, hl, hk, hp1, hp2⟩ hT
      have hlt : w.heap.size + 1 < W.heap.size := (Array.getElem?_eq_some_iff.1 hl).1
      have hy := run_yield (P := P) (args := encs x) hl (by rw [hrec]; exact hps x)
      rw [hrec] at hy
      refine ⟨fn, _, assign, body, hy, roundIn_of_wpIn hfn (wpIn_mono (hround (w.heap.size + 1) pre x Pv W rfl hlt hp1 hp2 ⟨_, hl⟩ hk hi hT) ?_)⟩
      rintro e a1 W2 hp
      cases e with
      | normal =>
        obtain ⟨hl2, hk2, hbody⟩ := hp
        rw [hl] at hl2
        rw [Nat.add_sub_cancel, hk] at hk2
        have hlt2 := (Array.getElem?_eq_some_iff.1 hl2).1
        refine ⟨_, run_beginRound hl2 (by rw [hrec]), ?_⟩
        have hb2 := hbody _ (OnlyB.put W2 (w.heap.size + 1) (.loop { rec .ready none with state := .busy }))
        have hl3 : (W2.putObj (w.heap.size + 1) (.loop { rec .ready none with state := .busy })).heap[w.heap.size + 1]? = some (.loop { rec .ready none with state := .busy }) := World.putObj_heap_same hlt2
        have hk3 : (W2.putObj (w.heap.size + 1) (.loop { rec .ready none with state := .busy })).heap[w.heap.size]? = some (.deferred (some [])) := (World.putObj_heap_other (by omega)).trans hk2
        refine wpIn_mono hb2 ?_
        have fin : ∀ (jump : Option Code) (W3 : World), W3.heap[w.heap.size + 1]? = (W2.putObj (w.heap.size + 1) (.loop { rec .ready none with state := .busy })).heap[w.heap.size + 1]? →
            W3.heap[w.heap.size + 1 - 1]? = (W2.putObj (w.heap.size + 1) (.loop { rec .ready none with state := .busy })).heap[w.heap.size + 1 - 1]? →
            (Instr.endRound (w.heap.size + 1) jump).run P W3 = .ok (.bool jump.isNone) (W3.putObj (w.heap.size + 1) (.loop (rec (if jump.isNone then .ready else .done) jump))) ∧
            (W3.putObj (w.heap.size + 1) (.loop (rec (if jump.isNone then .ready else .done) jump))).heap[w.heap.size + 1]? = some (.loop (rec (if jump.isNone then .ready else .done) jump)) ∧
            (W3.putObj (w.heap.size + 1) (.loop (rec (if jump.isNone then .ready else .done) jump))).heap[w.heap.size]? = some (.deferred (some [])) := fun jump W3 e1 e2 => by
          rw [hl3] at e1
          rw [Nat.add_sub_cancel, hk3] at e2
          have := run_endRound (P := P) jump e1
          rw [hrec] at this ⊢
          exact ⟨this, World.putObj_heap_same (Array.getElem?_eq_some_iff.1 e1).1, (World.putObj_heap_other (by omega)).trans e2⟩
        have put : ∀ (W3 : World) (o : Obj), Fr (fun k => Pv k ∨ k = w.heap.size + 1) W3 (W3.putObj (w.heap.size + 1) o) := fun W3 o => (OnlyB.put W3 _ o).1.mono fun k _ h => .inr h
        rintro e a3 W3 hp
        cases e with
        | normal =>
          obtain ⟨e1, e2, hkp, hi3⟩ := hp
          obtain ⟨hr, hl4, hk4⟩ := fin none W3 e1 e2
          refine ⟨_, _, hr, .inl ⟨rfl, ⟨hI _ Pv Pv _ _ hi3 (put W3 _) (fun k hk => .inl hk), hl4, hk4, hp1, hp2⟩, ?_, fun k hk => ?_⟩⟩
          · rw [World.putObj_size]; exact hkp.1
          · exact (World.putObj_heap_other (fun e => hk.elim (fun h => hp1 (by rw [← e]; exact h)) (fun h => by have := hRo k h; omega))).trans (hkp.2 k hk)
        | ret =>
          obtain ⟨e1, e2, hi3⟩ := hp
          obtain ⟨hr, hl4, hk4⟩ := fin (some .ret) W3 e1 e2
          exact ⟨_, _, hr, .inr ⟨rfl, .ret, hIx _ _ Pv Pv _ _ hi3 (put W3 _) (fun k hk => .inl hk), hl4, hk4, hp1, hp2⟩⟩
        | exit id =>
          obtain ⟨e1, e2, hi3⟩ := hp
          obtain ⟨hr, hl4, hk4⟩ := fin (some (.exit id)) W3 e1 e2
          exact ⟨_, _, hr, .inr ⟨rfl, .exit id, hIx _ _ Pv Pv _ _ hi3 (put W3 _) (fun k hk => .inl hk), hl4, hk4, hp1, hp2⟩⟩
        | goto t =>
          obtain ⟨e1, e2, hi3⟩ := hp
          obtain ⟨hr, hl4, hk4⟩ := fin (some (.goto t)) W3 e1 e2
          exact ⟨_, _, hr, .inr ⟨rfl, .goto t, hIx _ _ Pv Pv _ _ hi3 (put W3 _) (fun k hk => .inl hk), hl4, hk4, hp1, hp2⟩⟩
        | panic ch => exact hp.elim
        | outgrown => exact hp.elim
      | ret => exact hp.elim
      | exit id => exact hp.elim
      | goto t => exact hp.elim
      | panic ch => exact hp.elim
      | outgrown => exact hp.elim
    · have put : ∀ (Pv : Nat → Prop) (W3 : World) (o : Obj), Fr (fun k => Pv k ∨ k = w.heap.size + 1) W3 (W3.putObj (w.heap.size + 1) o) := fun Pv W3 o => (OnlyB.put W3 _ o).1.mono fun k _ h => .inr h
      rintro e W2 ⟨⟨v, rfl⟩, (⟨xs, Pv, hS, hi, hl, hk, hp1, hp2⟩ | ⟨pre, Pv, hSp, c, hi, hl, hk, hp1, hp2⟩)⟩
      · exact ⟨none, _, by have := run_endLoop (P := P) hl (by rw [hrec]; simp); rw [hrec] at this; exact this, hdone _ xs Pv _ rfl hS (hI _ Pv Pv _ _ hi (put Pv W2 _) (fun k hk => .inl hk)) ((World.putObj_heap_other (by omega)).trans hk)⟩
      · exact ⟨some c, _, by have := run_endLoop (P := P) hl (by rw [hrec]; simp); rw [hrec] at this; exact this, hstop _ c pre Pv _ rfl hSp (hIx c _ Pv Pv _ _ hi (put Pv W2 _) (fun k hk => .inl hk)) ((World.putObj_heap_other (by omega)).trans hk)⟩

/-! ### In a round: operations that are no defer statement run as everywhere -/
/-- No defer statement. -/
def noDefer (ops : Array Oper) : Bool := ops.all fun o => match o.op with | .defer _ => false | _ => true
theorem noDefer_spec {ops : Array Oper} (h : noDefer ops = true) {i : Nat} {o : Oper} (ho : ops[i]? = some o) (c : Call) : o.op ≠ .defer c := by
  intro e
  have h1 := Array.all_eq_true.1 h i (Array.getElem?_eq_some_iff.1 ho).1
  rw [(Array.getElem?_eq_some_iff.1 ho).2, e] at h1
  cases h1
theorem oper_round {o : Oper} {a : Act} {w : World} {K : Act → World → Prop} {Q : Exit → Act → World → Prop} (l m : Nat) (hnd : ∀ c, o.op ≠ .defer c) (h : o.wp P a w K Q) : o.wpIn (Fence.wide.inRound l) m P a w K Q := by
  refine ⟨fun _ _ => trivial, ?_⟩
  rw [show o.semAt (Fence.wide.inRound l).round a.eval = execOp a.eval o from Oper.semAt_some l _ _ hnd]
  unfold Oper.wp at h
  generalize (execOp a.eval o).run P w = r at *
  cases r with
  | ok x w' =>
    cases x <;> simp only [Oper.upon, Oper.uponIn] at h ⊢ <;> first
      | exact h
      | exact ⟨fun h => by simp [Fence.wide, Fence.inRound] at h, (callsIn_wide.2 h).inRound l⟩
      | exact ⟨fun h => by simp [Fence.wide, Fence.inRound] at h, fun c cs _ => by
          obtain ⟨v, w'', h1, h2⟩ := h c cs
          exact ⟨v, w'', h1, stepsIn_wide.2 h2⟩⟩
  | halt x w' => cases x <;> simp only [Oper.upon, Oper.uponIn] at h ⊢ <;> exact h
/-- The same ways out, but for that of too little room. -/
def noOut (Q : Exit → Act → World → Prop) : Exit → Act → World → Prop
  | .normal => Q .normal
  | .ret => Q .ret
  | .exit id => Q (.exit id)
  | .goto t => Q (.goto t)
  | .panic c => Q (.panic c)
  | .outgrown => fun _ _ => False
theorem noOut_to {Q : Exit → Act → World → Prop} : ∀ e a w, noOut Q e a w → Q e a w
  | .normal, _, _, h => h
  | .ret, _, _, h => h
  | .exit _, _, _, h => h
  | .goto _, _, _, h => h
  | .panic _, _, _, h => h
  | .outgrown, _, _, h => h.elim
@[go_sem] theorem noOut_normal {Q : Exit → Act → World → Prop} {a : Act} {w : World} : noOut Q .normal a w = Q .normal a w := rfl
@[go_sem] theorem noOut_panic {Q : Exit → Act → World → Prop} {a : Act} {w : World} (c) : noOut Q (.panic c) a w = Q (.panic c) a w := rfl

theorem wpOp_round {ops : Array Oper} {Q : Exit → Act → World → Prop} (l m : Nat) (hnd : noDefer ops = true) (hlo : ¬ LetsOut Q) {i : Nat} {a : Act} {w : World} {K K' : Act → World → Prop} (hK : ∀ a w, K a w → K' a w) (h : wpOp P ops Q i K a w) : wpOpIn (Fence.wide.inRound l) m P ops Q i K' a w := by
  unfold wpOp at h
  unfold wpOpIn
  cases ho : ops[i]? with
  | none => rw [ho] at h; exact hK _ _ h
  | some o =>
    rw [ho] at h
    simp only at h ⊢
    split
    · rename_i hw
      rw [if_pos hw] at h
      rcases h with h | h
      · exact oper_round l m (noDefer_spec hnd ho) (Oper.wp_mono hK h)
      · exact absurd h.2 hlo
    · rename_i hw
      rw [if_neg hw] at h
      exact ⟨fun _ _ => trivial, hK _ _ h⟩
theorem wpAny_round {md : Region.Mode} {ops : Array Oper} {Q : Exit → Act → World → Prop} (l m : Nat) (hnd : noDefer ops = true) (hlo : ¬ LetsOut Q) : ∀ (f : Nat) (listed : Array Bool) (a : Act) (w : World), wpAny P md ops Q f listed a w → wpAnyIn (Fence.wide.inRound l) m P md ops Q f listed a w
  | 0, _, _, _, h => h
  | f + 1, listed, a, w, h => ⟨h.1, fun i hi => wpOp_round l m hnd hlo (fun a w h => wpAny_round l m hnd hlo f _ a w h) (h.2 i hi)⟩

/-- A REGION THAT DRAWS ITS ORDER, IN A ROUND, BY A PLAN (region_plan, Plan). -/
theorem region_plan_round {id : Nat} {a : Act} {w : World} {l : List Oper} {Q : Exit → Act → World → Prop} (r m : Nat) (R : World → World → Prop) (hrefl : ∀ w, R w w) (htrans : ∀ a b c, R a b → R b c → R a c) (n : Nat) (π : List (Nat × Bool))
    (hm : P.follows .mixedOrders = true) (hnd : noDefer l.toArray = true) (hQ : ∀ c (a : Act) d v w, Q (.panic c) (a.put d v) w → Q (.panic c) a w) (hB : planOK .any l.toArray n π = true)
    (h : wpPlan P l.toArray (noOut Q) R (fun a' w' => wpList P l.toArray (noOut Q) (l.drop n) a' w') (withOps l.toArray π) a w.drew) : (Code.region id l.toArray true).wpIn (Fence.wide.inRound r) m P Q a w := by
  refine wpIn_mono (Q := noOut Q) ?_ (fun e a w h => noOut_to e a w h)
  simp only [planOK, Bool.and_eq_true, Bool.or_eq_true, decide_eq_true_eq] at hB
  obtain ⟨⟨⟨hsel, hlen⟩, hpl⟩, hend⟩ := hB
  have hle : n ≤ l.length := by rcases hend with h | ⟨⟨h, _⟩, _⟩ <;> simp at h <;> omega
  have hwait : ∀ listed, HeadInv .any l.toArray n listed → ∀ i, i < n → listed.getD i true = false → ∀ t, n ≤ t → t ∉ Region.ready .any l.toArray listed := by
    intro listed inv i hi hun t ht hr
    obtain ⟨_, o, ho, _⟩ := mem_ready.1 hr
    have htl : t < l.toArray.size := (Array.getElem?_eq_some_iff.1 ho).1
    rcases hend with h | ⟨⟨h1, h2⟩, h3⟩
    · omega
    · exact tail_waits h2 h3 h1 inv _ i rfl hi hun t ht hr
  have inv0 : HeadInv .any l.toArray n (Array.replicate l.toArray.size false) :=
    ⟨by simp, fun j oj _ hl => (by rw [getD_replicate_false] at hl; cases hl), fun t _ ht => getD_in (by simpa using ht) (getD_replicate_false _ _)⟩
  have H := plan_sound hrefl htrans hsel (Q := noOut Q) (fun c a d v w h => hQ c a d v w h) hwait π _ a w.drew inv0 hpl h
  refine wpIn_region_any hm (wpAny_round r m hnd (fun ⟨_, _, h⟩ => h) _ _ _ _ ?_)
  have hsz : π.length + (l.toArray.size - n) = l.toArray.size := by simp; omega
  have H' := wpAny_of_G (g := l.toArray.size - n) (fun listed a w hL => by
    have hdl : (l.drop n).length = l.toArray.size - n := by simp
    rw [← hdl]
    exact wpAny_of_seq (l.drop n) n listed a w (fun j => by simp) (by rw [hdl]; exact hL.1) hL.2) π.length _ a w.drew H
  rw [hsz] at H'
  exact H'
theorem region_keep_round {id : Nat} {a : Act} {w : World} {l : List Oper} {Q : Exit → Act → World → Prop} (r m : Nat) (S : Nat → Prop) (n : Nat) (π : List (Nat × Bool))
    (hm : P.follows .mixedOrders = true) (hnd : noDefer l.toArray = true) (hQ : ∀ c (a : Act) d v w, Q (.panic c) (a.put d v) w → Q (.panic c) a w) (hB : planOK .any l.toArray n π = true)
    (h : wpPlan P l.toArray (noOut Q) (Keep S) (fun a' w' => wpList P l.toArray (noOut Q) (l.drop n) a' w') (withOps l.toArray π) a w.drew) : (Code.region id l.toArray true).wpIn (Fence.wide.inRound r) m P Q a w :=
  region_plan_round r m (Keep S) (Keep.refl S) Keep.trans n π hm hnd hQ hB h
end Go.Kp
