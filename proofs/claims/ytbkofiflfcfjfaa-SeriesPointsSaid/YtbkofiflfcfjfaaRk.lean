/- Iterators that lean on what their caller keeps up; a drawn region of an iterator, walked by a plan. -/
import Derived.Test.YtbkofiflfcfjfaaRf
set_option linter.unusedSimpArgs false
set_option linter.unusedVariables false
namespace Go.Kp
open Go.RowKit

/-- SeqM, of an iterator that leans on K, which its caller keeps up. -/
def SeqK {α : Type} (F : Fence) (n : Nat) (P : Program) (g : Nat) (lb : Array Value) (encs : α → Array Value) (T : List α → α → (Nat → Prop) → World → Prop) (S Sp : List α → Prop) (Pf Ro : Nat → Prop) (K : World → Prop) (W : World) : Prop :=
  ∀ (l : Nat) (J Jx : List α → (Nat → Prop) → World → Prop), StabM J → StabM Jx → (∀ pre Pv W, J pre Pv W → K W) →
    (∀ pre x Pv W1, J pre Pv W1 → T pre x Pv W1 → YieldAt F (n - 1) P l (encs x) W1 fun e W' =>
      (e = .returned (.bool true) ∧ J (pre ++ [x]) Pv W' ∧ Kept (fun k => Pv k ∨ Ro k) W1 W') ∨ (e = .returned (.bool false) ∧ Jx (pre ++ [x]) Pv W')) →
    J [] Pf W →
    CallsIn F n P g (#[.func (.yield l) #[] #[]] ++ lb) W fun e W' => (∃ v, e = .returned v) ∧ ((∃ xs Pv, S xs ∧ J xs Pv W') ∨ (∃ pre Pv, Sp pre ∧ Jx pre Pv W'))

variable {F : Fence} {n : Nat} {P : Program}
theorem wpIn_rangeFunc_K {α : Type} {g : Operand} {ps : Array Tmp} {assign body : Code} {Q : Exit → Act → World → Prop} {a : Act} {w : World}
    (hro : F.round = none) (h1 : 1 ≤ n) {gf : Nat} {lb : Array Value} (hg : a.eval g = .func (.func gf) #[] lb) (hFg : F.fn gf) (eg : ∀ args w, (callFunc gf args).run P w = .ok (.enter gf args) w)
    {encs : α → Array Value} {T : List α → α → (Nat → Prop) → World → Prop} {S Sp : List α → Prop} {Pf Ro : Nat → Prop} {K : World → Prop} (hseq : ∀ W', Below w.heap.size w W' → SeqK F (n - 1) P gf lb encs T S Sp Pf Ro K W') (hPf : ∀ k, Pf k → k < w.heap.size) (hRo : ∀ k, Ro k → k < w.heap.size) (hps : ∀ x, (encs x).size = ps.size)
    (I : List α → (Nat → Prop) → World → Prop) (Ix : Code → List α → (Nat → Prop) → World → Prop)
    (hI : ∀ pre (Pv Pv' : Nat → Prop) W W', I pre Pv W → Fr (fun k => Pv k ∨ k = w.heap.size + 1) W W' → (∀ k, Pv' k → Pv k ∨ W.heap.size ≤ k) → I pre Pv' W')
    (hIx : ∀ c pre (Pv Pv' : Nat → Prop) W W', Ix c pre Pv W → Fr (fun k => Pv k ∨ k = w.heap.size + 1) W W' → (∀ k, Pv' k → Pv k ∨ W.heap.size ≤ k) → Ix c pre Pv' W')
    (hIK : ∀ pre Pv W, I pre Pv W → K W) (h0 : I [] Pf w)
    (hround : ∀ (l : Nat) (pre : List α) (x : α) (Pv : Nat → Prop) (W : World), l = w.heap.size + 1 → l < W.heap.size → ¬ Pv l → ¬ Pv (l - 1) → (∃ r, W.heap[l]? = some (.loop r)) → W.heap[l - 1]? = some (.deferred (some [])) → I pre Pv W → T pre x Pv W →
      assign.wpIn (F.inRound l) (n - 1 - 1) P (Exit.then (fun a1 W1 => W1.heap[l]? = W.heap[l]? ∧ W1.heap[l - 1]? = W.heap[l - 1]? ∧ ∀ W2, OnlyB l W1 W2 → body.wpIn (F.inRound l) (n - 1 - 1) P (postM I Ix Pv Ro (pre ++ [x]) l W W2) a1 W2) (fun _ _ _ => False))
        { tmps := (ps.zip (encs x)).foldl (fun t (p, v) => t.setIfInBounds p v) a.tmps, defers := [] } W)
    (hdone : ∀ (D : Nat) (xs : List α) (Pv : Nat → Prop) (W : World), D = w.heap.size → S xs → I xs Pv W → W.heap[D]? = some (.deferred (some [])) → Q .normal { a with defers := { target := .collected D, args := #[] } :: a.defers } W)
    (hstop : ∀ (D : Nat) (c : Code) (pre : List α) (Pv : Nat → Prop) (W : World), D = w.heap.size → Sp pre → Ix c pre Pv W → W.heap[D]? = some (.deferred (some [])) → c.wpIn F n P Q { a with defers := { target := .collected D, args := #[] } :: a.defers } W) :
    (Code.rangeFunc g ps assign body).wpIn F n P Q a w := by
  refine wpIn_rangeFunc ?_
  intro fn hfn
  rw [hro]
  obtain ⟨rec, hrec⟩ : ∃ rec : LoopState → Option Code → Loop, rec = fun st pe => { state := st, pending := pe, fn, tmps := a.tmps, params := ps, assign, body, defers := w.heap.size } := ⟨_, rfl⟩
  obtain ⟨W1, hW1⟩ : ∃ W1, (w.alloc (.deferred (some []))).alloc (.loop (rec .ready none)) = W1 := ⟨_, rfl⟩
  have hL1 : W1.heap[w.heap.size + 1]? = some (.loop (rec .ready none)) := by
    rw [← hW1]; have := World.alloc_heap_new (w.alloc (.deferred (some []))) (.loop (rec .ready none)); rwa [World.size_alloc] at this
  have hK1 : W1.heap[w.heap.size]? = some (.deferred (some [])) := by
    rw [← hW1]; exact (Below.heap_alloc _ _ _ (by simp)).trans (World.alloc_heap_new w _)
  have hb1 : Below w.heap.size w W1 := by
    rw [← hW1]; exact (((Below.refl _ w).alloc (Nat.le_refl _) _).alloc (by simp) _)
  have hs1 : w.heap.size + 1 < W1.heap.size := by rw [← hW1]; simp
  have hI1 : I [] Pf W1 := hI [] Pf Pf w W1 h0 (Fr.next hb1) (fun k hk => .inl hk)
  obtain ⟨L, hL⟩ : ∃ L, w.heap.size + 1 = L := ⟨_, rfl⟩
  have hLD : L - 1 = w.heap.size := by omega
  refine ⟨w.heap.size + 1, [{ target := .collected w.heap.size, args := #[] }], W1, { target := .fn (.func gf) lb, args := #[.func (.yield (w.heap.size + 1)) #[] #[]] }, W1, gf,
    #[.func (.yield (w.heap.size + 1)) #[] #[]] ++ lb, W1, ?_, ?_, ?_, ?_, fun _ => h1, ?_⟩
  · rw [← hW1, hrec]; exact run_enterLoop_outer _ _ _ _ _
  · simp only [resolve, hg]
    simp [go_sem]
  · intro f' hf'; simp [Target.leads] at hf'; subst hf'; exact hFg
  · simp [invoke, go_sem, eg]
  · have hrc : ∀ {Pv : Nat → Prop} {W W' : World} (b : Nat) (o : Obj), b < W.heap.size → ¬ Pv b → Fr Pv W W' → W.heap[b]? = some o → W'.heap[b]? = some o := fun b o hb hp hf h => (hf.block b hb hp).trans h
    refine (hseq W1 hb1 (w.heap.size + 1)
      (fun pre Pv W => I pre Pv W ∧ W.heap[w.heap.size + 1]? = some (.loop (rec .ready none)) ∧ W.heap[w.heap.size]? = some (.deferred (some [])) ∧ ¬ Pv (w.heap.size + 1) ∧ ¬ Pv w.heap.size)
      (fun pre Pv W => ∃ c, Ix c pre Pv W ∧ W.heap[w.heap.size + 1]? = some (.loop (rec .done (some c))) ∧ W.heap[w.heap.size]? = some (.deferred (some [])) ∧ ¬ Pv (w.heap.size + 1) ∧ ¬ Pv w.heap.size)
      ?_ ?_ (fun pre Pv W h => hIK pre Pv W h.1) ?_ ⟨hI1, hL1, hK1, fun h => by have := hPf _ h; omega, fun h => by have := hPf _ h; omega⟩).mono ?_
    · rintro pre Pv Pv' W W' ⟨hi, hl, hk, hp1, hp2⟩ hf hP
      have z1 := (Array.getElem?_eq_some_iff.1 hl).1
      have z2 := (Array.getElem?_eq_some_iff.1 hk).1
      exact ⟨hI pre Pv Pv' W W' hi (hf.mono fun k _ h => .inl h) hP, hrc _ _ z1 hp1 hf hl, hrc _ _ z2 hp2 hf hk, fun h => (hP _ h).elim hp1 (fun h => by omega), fun h => (hP _ h).elim hp2 (fun h => by omega)⟩
    · rintro pre Pv Pv' W W' ⟨c, hi, hl, hk, hp1, hp2⟩ hf hP
      have z1 := (Array.getElem?_eq_some_iff.1 hl).1
      have z2 := (Array.getElem?_eq_some_iff.1 hk).1
      exact ⟨c, hIx c pre Pv Pv' W W' hi (hf.mono fun k _ h => .inl h) hP, hrc _ _ z1 hp1 hf hl, hrc _ _ z2 hp2 hf hk, fun h => (hP _ h).elim hp1 (fun h => by omega), fun h => (hP _ h).elim hp2 (fun h => by omega)⟩
    · rintro pre x Pv W ⟨hi, hl, hk, hp1, hp2⟩ hT
      have hlt : w.heap.size + 1 < W.heap.size := (Array.getElem?_eq_some_iff.1 hl).1
      have hy := run_yield (P := P) (args := encs x) hl (by rw [hrec]; exact hps x)
      rw [hrec] at hy
      refine ⟨fn, _, assign, body, hy, roundIn_of_wpIn hfn (wpIn_mono (hround (w.heap.size + 1) pre x Pv W rfl hlt hp1 hp2 ⟨_, hl⟩ hk hi hT) ?_)⟩
      rintro e a1 W2 hp
      cases e with
      | normal =>
        obtain ⟨hl2, hk2, hbody⟩ := hp
        rw [hl] at hl2
        rw [Nat.add_sub_cancel, hk] at hk2
        have hlt2 := (Array.getElem?_eq_some_iff.1 hl2).1
        refine ⟨_, run_beginRound hl2 (by rw [hrec]), ?_⟩
        have hb2 := hbody _ (OnlyB.put W2 (w.heap.size + 1) (.loop { rec .ready none with state := .busy }))
        have hl3 : (W2.putObj (w.heap.size + 1) (.loop { rec .ready none with state := .busy })).heap[w.heap.size + 1]? = some (.loop { rec .ready none with state := .busy }) := World.putObj_heap_same hlt2
        have hk3 : (W2.putObj (w.heap.size + 1) (.loop { rec .ready none with state := .busy })).heap[w.heap.size]? = some (.deferred (some [])) := (World.putObj_heap_other (by omega)).trans hk2
        refine wpIn_mono hb2 ?_
        have fin : ∀ (jump : Option Code) (W3 : World), W3.heap[w.heap.size + 1]? = (W2.putObj (w.heap.size + 1) (.loop { rec .ready none with state := .busy })).heap[w.heap.size + 1]? →
            W3.heap[w.heap.size + 1 - 1]? = (W2.putObj (w.heap.size + 1) (.loop { rec .ready none with state := .busy })).heap[w.heap.size + 1 - 1]? →
            (Instr.endRound (w.heap.size + 1) jump).run P W3 = .ok (.bool jump.isNone) (W3.putObj (w.heap.size + 1) (.loop (rec (if jump.isNone then .ready else .done) jump))) ∧
            (W3.putObj (w.heap.size + 1) (.loop (rec (if jump.isNone then .ready else .done) jump))).heap[w.heap.size + 1]? = some (.loop (rec (if jump.isNone then .ready else .done) jump)) ∧
            (W3.putObj (w.heap.size + 1) (.loop (rec (if jump.isNone then .ready else .done) jump))).heap[w.heap.size]? = some (.deferred (some [])) := fun jump W3 e1 e2 => by
          rw [hl3] at e1
          rw [Nat.add_sub_cancel, hk3] at e2
          have := run_endRound (P := P) jump e1
          rw [hrec] at this ⊢
          exact ⟨this, World.putObj_heap_same (Array.getElem?_eq_some_iff.1 e1).1, (World.putObj_heap_other (by omega)).trans e2⟩
        have put : ∀ (W3 : World) (o : Obj), Fr (fun k => Pv k ∨ k = w.heap.size + 1) W3 (W3.putObj (w.heap.size + 1) o) := fun W3 o => (OnlyB.put W3 _ o).1.mono fun k _ h => .inr h
        rintro e a3 W3 hp
        cases e with
        | normal =>
          obtain ⟨e1, e2, hkp, hi3⟩ := hp
          obtain ⟨hr, hl4, hk4⟩ := fin none W3 e1 e2
          refine ⟨_, _, hr, .inl ⟨rfl, ⟨hI _ Pv Pv _ _ hi3 (put W3 _) (fun k hk => .inl hk), hl4, hk4, hp1, hp2⟩, ?_, fun k hk => ?_⟩⟩
          · rw [World.putObj_size]; exact hkp.1
          · exact (World.putObj_heap_other (fun e => hk.elim (fun h => hp1 (by rw [← e]; exact h)) (fun h => by have := hRo k h; omega))).trans (hkp.2 k hk)
        | ret =>
          obtain ⟨e1, e2, hi3⟩ := hp
          obtain ⟨hr, hl4, hk4⟩ := fin (some .ret) W3 e1 e2
          exact ⟨_, _, hr, .inr ⟨rfl, .ret, hIx _ _ Pv Pv _ _ hi3 (put W3 _) (fun k hk => .inl hk), hl4, hk4, hp1, hp2⟩⟩
        | exit id =>
          obtain ⟨e1, e2, hi3⟩ := hp
          obtain ⟨hr, hl4, hk4⟩ := fin (some (.exit id)) W3 e1 e2
          exact ⟨_, _, hr, .inr ⟨rfl, .exit id, hIx _ _ Pv Pv _ _ hi3 (put W3 _) (fun k hk => .inl hk), hl4, hk4, hp1, hp2⟩⟩
        | goto t =>
          obtain ⟨e1, e2, hi3⟩ := hp
          obtain ⟨hr, hl4, hk4⟩ := fin (some (.goto t)) W3 e1 e2
          exact ⟨_, _, hr, .inr ⟨rfl, .goto t, hIx _ _ Pv Pv _ _ hi3 (put W3 _) (fun k hk => .inl hk), hl4, hk4, hp1, hp2⟩⟩
        | panic ch => exact hp.elim
        | outgrown => exact hp.elim
      | ret => exact hp.elim
      | exit id => exact hp.elim
      | goto t => exact hp.elim
      | panic ch => exact hp.elim
      | outgrown => exact hp.elim
    · have put : ∀ (Pv : Nat → Prop) (W3 : World) (o : Obj), Fr (fun k => Pv k ∨ k = w.heap.size + 1) W3 (W3.putObj (w.heap.size + 1) o) := fun Pv W3 o => (OnlyB.put W3 _ o).1.mono fun k _ h => .inr h
      rintro e W2 ⟨⟨v, rfl⟩, (⟨xs, Pv, hS, hi, hl, hk, hp1, hp2⟩ | ⟨pre, Pv, hSp, c, hi, hl, hk, hp1, hp2⟩)⟩
      · exact ⟨none, _, by have := run_endLoop (P := P) hl (by rw [hrec]; simp); rw [hrec] at this; exact this, hdone _ xs Pv _ rfl hS (hI _ Pv Pv _ _ hi (put Pv W2 _) (fun k hk => .inl hk)) ((World.putObj_heap_other (by omega)).trans hk)⟩
      · exact ⟨some c, _, by have := run_endLoop (P := P) hl (by rw [hrec]; simp); rw [hrec] at this; exact this, hstop _ c pre Pv _ rfl hSp (hIx c _ Pv Pv _ _ hi (put Pv W2 _) (fun k hk => .inl hk)) ((World.putObj_heap_other (by omega)).trans hk)⟩


/-! ### In an iterator -/
theorem oper_wide {o : Oper} {a : Act} {w : World} {K : Act → World → Prop} {Q : Exit → Act → World → Prop} (m : Nat) (h : o.wp P a w K Q) : o.wpIn Fence.wide m P a w K Q := by
  refine ⟨fun _ _ => trivial, ?_⟩
  rw [show o.semAt Fence.wide.round a.eval = execOp a.eval o from rfl]
  unfold Oper.wp at h
  generalize (execOp a.eval o).run P w = r at *
  cases r with
  | ok x w' =>
    cases x <;> simp only [Oper.upon, Oper.uponIn] at h ⊢ <;> first
      | exact h
      | exact ⟨fun h => by simp [Fence.wide] at h, callsIn_wide.2 h⟩
      | exact ⟨fun h => by simp [Fence.wide] at h, fun c cs _ => by
          obtain ⟨v, w'', h1, h2⟩ := h c cs
          exact ⟨v, w'', h1, stepsIn_wide.2 h2⟩⟩
  | halt x w' => cases x <;> simp only [Oper.upon, Oper.uponIn] at h ⊢ <;> exact h
theorem wpOp_wide {ops : Array Oper} {Q : Exit → Act → World → Prop} (m : Nat) (hlo : ¬ LetsOut Q) {i : Nat} {a : Act} {w : World} {K K' : Act → World → Prop} (hK : ∀ a w, K a w → K' a w) (h : wpOp P ops Q i K a w) : wpOpIn Fence.wide m P ops Q i K' a w := by
  unfold wpOp at h
  unfold wpOpIn
  cases ho : ops[i]? with
  | none => rw [ho] at h; exact hK _ _ h
  | some o =>
    rw [ho] at h
    simp only at h ⊢
    split
    · rename_i hw
      rw [if_pos hw] at h
      rcases h with h | h
      · exact oper_wide m (Oper.wp_mono hK h)
      · exact absurd h.2 hlo
    · rename_i hw
      rw [if_neg hw] at h
      exact ⟨fun _ _ => trivial, hK _ _ h⟩
theorem wpAnyIn_of_G {md : Region.Mode} {ops : Array Oper} {Q : Exit → Act → World → Prop} {R : World → World → Prop} (m : Nat) (hlo : ¬ LetsOut Q) {k g : Nat} {L : Array Bool → Act → World → Prop} (hL : ∀ listed a w, L listed a w → wpAnyIn Fence.wide m P md ops Q g listed a w) :
    ∀ (f : Nat) (listed : Array Bool) (a : Act) (w : World), wpAnyG P md ops Q R k L f listed a w → wpAnyIn Fence.wide m P md ops Q (f + g) listed a w
  | 0, listed, a, w, h => by rw [Nat.zero_add]; exact hL _ _ _ h
  | f + 1, listed, a, w, h => by
    rw [show f + 1 + g = (f + g) + 1 by omega]
    exact ⟨fun h0 => absurd h0 h.1, fun i hi => wpOp_wide m hlo (fun a' w' h' => wpAnyIn_of_G m hlo hL f _ a' w' h'.2) (h.2 i hi).2⟩
theorem wpAnyIn_of_seq {md : Region.Mode} {ops : Array Oper} {Q : Exit → Act → World → Prop} (m : Nat) : ∀ (l : List Oper) (k : Nat) (listed : Array Bool) (a : Act) (w : World), (∀ j, l[j]? = ops[k + j]?) →
    Region.seqB md ops l.length k listed = true → wpListIn Fence.wide m P ops Q l a w → wpAnyIn Fence.wide m P md ops Q l.length listed a w
  | [], _, _, _, _, _, hB, h => ⟨by simpa [Region.seqB] using hB, h⟩
  | o :: l, k, listed, a, w, hl, hB, h => by
    have h0 : ops[k]? = some o := by simpa using (hl 0).symm
    simp only [List.length_cons, Region.seqB, Bool.and_eq_true, decide_eq_true_eq] at hB
    refine ⟨fun h1 => (by rw [hB.1] at h1; cases h1), fun i hi => ?_⟩
    rw [hB.1] at hi
    have hik : i = k := by simpa using hi
    subst hik
    have hw : wpOpIn Fence.wide m P ops Q i (wpListIn Fence.wide m P ops Q l) a w := by unfold wpOpIn; simp only [h0]; exact h
    exact wpOpIn_mono (fun a' w' h' => wpAnyIn_of_seq m l (i + 1) _ a' w' (fun j => by have := hl (j + 1); simpa [Nat.add_assoc, Nat.add_comm 1 j] using this) hB.2 h') hw

/-- The ways out, but for that of too little room: inside an iterator. -/
theorem region_keep_wide {id : Nat} {a : Act} {w : World} {l : List Oper} {Q : Exit → Act → World → Prop} (m : Nat) (S : Nat → Prop) (k : Nat) (π : List (Nat × Bool))
    (hm : P.follows .mixedOrders = true) (hQ : ∀ c (a : Act) d v w, Q (.panic c) (a.put d v) w → Q (.panic c) a w) (hB : planOK .any l.toArray k π = true)
    (h : wpPlan P l.toArray (noOut Q) (Keep S) (fun a' w' => wpListIn Fence.wide m P l.toArray (noOut Q) (l.drop k) a' w') (withOps l.toArray π) a w.drew) : (Code.region id l.toArray true).wpIn Fence.wide m P Q a w := by
  refine wpIn_mono (Q := noOut Q) ?_ (fun e a w h => noOut_to e a w h)
  simp only [planOK, Bool.and_eq_true, Bool.or_eq_true, decide_eq_true_eq] at hB
  obtain ⟨⟨⟨hsel, hlen⟩, hpl⟩, hend⟩ := hB
  have hle : k ≤ l.length := by rcases hend with h | ⟨⟨h, _⟩, _⟩ <;> simp at h <;> omega
  have hwait : ∀ listed, HeadInv .any l.toArray k listed → ∀ i, i < k → listed.getD i true = false → ∀ t, k ≤ t → t ∉ Region.ready .any l.toArray listed := by
    intro listed inv i hi hun t ht hr
    obtain ⟨_, o, ho, _⟩ := mem_ready.1 hr
    have htl : t < l.toArray.size := (Array.getElem?_eq_some_iff.1 ho).1
    rcases hend with h | ⟨⟨h1, h2⟩, h3⟩
    · omega
    · exact tail_waits h2 h3 h1 inv _ i rfl hi hun t ht hr
  have inv0 : HeadInv .any l.toArray k (Array.replicate l.toArray.size false) :=
    ⟨by simp, fun j oj _ hl => (by rw [getD_replicate_false] at hl; cases hl), fun t _ ht => getD_in (by simpa using ht) (getD_replicate_false _ _)⟩
  have H := plan_sound (Keep.refl S) Keep.trans hsel (Q := noOut Q) (fun c a d v w h => hQ c a d v w h) hwait π _ a w.drew inv0 hpl h
  refine wpIn_region_any hm ?_
  have hsz : π.length + (l.toArray.size - k) = l.toArray.size := by simp; omega
  have H' := wpAnyIn_of_G m (fun ⟨_, _, h⟩ => h) (g := l.toArray.size - k) (fun listed a w hL => by
    have hdl : (l.drop k).length = l.toArray.size - k := by simp
    rw [← hdl]
    exact wpAnyIn_of_seq m (l.drop k) k listed a w (fun j => by simp) (by rw [hdl]; exact hL.1) hL.2) π.length _ a w.drew H
  rw [hsz] at H'
  exact H'

/-! ### The least of numbers -/
open Classical in
noncomputable def least (p : Nat → Prop) : Nat := if h : ∃ m, p m ∧ ∀ k, p k → m ≤ k then Classical.choose h else 0
theorem least_ex {p : Nat → Prop} : ∀ n, p n → ∃ m, p m ∧ ∀ k, p k → m ≤ k := by
  intro n
  induction n using Nat.strongRecOn with
  | _ n ih =>
    intro h
    by_cases hx : ∃ k, k < n ∧ p k
    · obtain ⟨k, h1, h2⟩ := hx; exact ih k h1 h2
    · exact ⟨n, h, fun k hk => (Nat.lt_or_ge k n).elim (fun h1 => absurd ⟨k, h1, hk⟩ hx) id⟩
theorem least_of {p : Nat → Prop} (h : ∃ n, p n) : p (least p) := by
  have hx := h.elim fun n hn => least_ex n hn
  unfold least
  rw [dif_pos hx]
  exact (Classical.choose_spec hx).1
theorem least_le {p : Nat → Prop} {n : Nat} (h : p n) : least p ≤ n := by
  have hx := least_ex n h
  unfold least
  rw [dif_pos hx]
  exact (Classical.choose_spec hx).2 n h
end Go.Kp
