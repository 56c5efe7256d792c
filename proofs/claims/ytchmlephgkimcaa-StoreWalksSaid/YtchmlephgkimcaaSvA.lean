/- Store: what stands while a map is gone over and turns. -/
import Derived.Test.YtchmlephgkimcaaSvLaw
import Derived.Test.YtchmlephgkimcaaPart
import Derived.Test.YtchmlephgkimcaaRl
set_option linter.unusedSimpArgs false
set_option linter.unusedVariables false
namespace Go.Proofs.Ytchmlephgkimcaa
open Go.RowKit Go.Kp Go.St

/-- The block of this number in a code. -/
def blockOf (id : Nat) : Code → Option Code
  | .block i c => if i = id then some (.block i c) else blockOf id c
  | .seq a b => match blockOf id a with | some c => some c | none => blockOf id b
  | .cond _ a b => match blockOf id a with | some c => some c | none => blockOf id b
  | .loop c => blockOf id c
  | .rangeFunc _ _ a b => match blockOf id a with | some c => some c | none => blockOf id b
  | .scope c => blockOf id c
  | _ => none
def theBlock (f : Func) (id : Nat) : Code := match f.body with | some b => (blockOf id b).getD .skip | none => .skip
theorem wpIn_at {F : Fence} {n : Nat} {P : Program} {c : Code} {Q : Exit → Act → World → Prop} {a : Act} {W : World} (T : World → Prop) (hT : T W) (h : ∀ wc, T wc → c.wpIn F n P Q a wc) : c.wpIn F n P Q a W := h W hT
theorem at_W {G : Act → World → Prop} {a : Act} {W : World} (T : World → Prop) (hT : T W) (h : ∀ wc, T wc → G a wc) : G a W := h W hT

/-- The types of the blocks that both maps hold, but for their order. -/
def bmTy (ty : TypeId) : Prop := ty = 75 ∨ ty = 29 ∨ ty = 100 ∨ ty = 43
theorem Bm.most {wh : Int} {w w' : World} {q g r : Nat} {t : Tr} (h : Bm wh w q g r t) (hq : w'.heap[q]? = w.heap[q]?) (hk : ∀ b ty cs, Blk w b ty cs → bmTy ty → w'.heap[b]? = w.heap[b]?) : Bm wh w' q g r t := by
  obtain ⟨a, h1, h2⟩ := h.own.cells
  obtain ⟨a', cap, h3, h4, h5⟩ := h.ref
  have hq' : Blk w q 3 #[.int .i64 wh] := h.own.holds
  exact ⟨⟨h.own.last, h.own.lastM, h.own.cmp, h.own.ord, hq.trans hq', h.own.srt, h.own.few, a, (hk _ _ _ h1 (.inl rfl)).trans h1, h2.same fun b cs hB => hk _ _ _ hB (.inr (.inr (.inl rfl)))⟩,
    ⟨a', cap, (hk _ _ _ h3 (.inr (.inl rfl))).trans h3, h4.same fun b cs hB => hk _ _ _ hB (.inr (.inr (.inr rfl))), h5⟩, h.lastR⟩
theorem Bm.gblk {wh : Int} {w : World} {q g r : Nat} {t : Tr} (h : Bm wh w q g r t) : (∃ cs, Blk w g 75 cs) ∧ (∃ cs, Blk w r 29 cs) ∧ Blk w q 3 #[.int .i64 wh] := by
  obtain ⟨a, h1, h2⟩ := h.own.cells
  obtain ⟨a', cap, h3, h4, h5⟩ := h.ref
  exact ⟨⟨_, h1⟩, ⟨_, h3⟩, h.own.holds⟩

/-- What turns while a map is gone over: both maps, the place in the script, the count; and what is new. -/
def WkM (g r b12 bn z : Nat) (b : Nat) : Prop := b = g ∨ b = r ∨ b = b12 ∨ b = bn ∨ z ≤ b
/-- What stands between two rounds. -/
structure WkC (wh : Int) (q g r b12 bn N0 ns at_ : Nat) (wL : World) (k : Nat) (W : World) : Prop where
  st : ∃ t', Bm wh W q g r t' ∧ t'.many ≤ N0 + min (at_ + k) ns
  ct : Blk W b12 3 #[.int .i64 ((at_ + k : Nat) : Int)]
  n : Blk W bn 3 #[.int .i64 (k : Int)]
  fr : Fr (WkM g r b12 bn wL.heap.size) wL W
def WkI (wh : Int) (q g r b12 bn N0 ns at_ : Nat) (wL : World) (k : Nat) (Pv : Nat → Prop) (W : World) : Prop :=
  (∀ b, Pv b → wL.heap.size ≤ b) ∧ ∀ W', Fr (fun b => Pv b ∨ b = wL.heap.size + 1) W W' → WkC wh q g r b12 bn N0 ns at_ wL k W'
section
variable {wh : Int} {q g r b12 bn N0 ns at_ : Nat} {wL : World} {k : Nat} {Pv Pv' : Nat → Prop} {W W' : World}
theorem WkI.core (h : WkI wh q g r b12 bn N0 ns at_ wL k Pv W) : WkC wh q g r b12 bn N0 ns at_ wL k W := h.2 W (Fr.refl _ _)
theorem WkI.stab (h : WkI wh q g r b12 bn N0 ns at_ wL k Pv W) (hf : Fr (fun b => Pv b ∨ b = wL.heap.size + 1) W W') (hP : ∀ b, Pv' b → Pv b ∨ W.heap.size ≤ b) : WkI wh q g r b12 bn N0 ns at_ wL k Pv' W' := by
  have hz := h.core.fr.size
  refine ⟨fun b hb => (hP b hb).elim (h.1 b) (fun h => by omega), fun W'' hf' => h.2 W'' ?_⟩
  refine ⟨hf'.os.trans hf.os, hf'.tape.trans hf.tape, hf'.output.trans hf.output, Nat.le_trans hf.size hf'.size, fun b hb hn => ?_⟩
  refine (hf'.block b (Nat.lt_of_lt_of_le hb hf.size) fun hh => hn ?_).trans (hf.block b hb hn)
  rcases hh with hh | hh
  · exact (hP b hh).elim .inl (fun h => by omega)
  · exact .inr hh
/-- A round's end: the iterator's own blocks are none of ours. -/
theorem WkC.close (h : WkC wh q g r b12 bn N0 ns at_ wL k W) (hty : ∀ b, Pv b → ∃ cs, Blk W b 73 cs) (hl : ∃ x, W.heap[wL.heap.size + 1]? = some (.loop x)) (hpv : ∀ b, Pv b → wL.heap.size ≤ b) : WkI wh q g r b12 bn N0 ns at_ wL k Pv W := by
  refine ⟨hpv, fun W' hf => ?_⟩
  have keep : ∀ b ty cs, Blk W b ty cs → ty ≠ 73 → W'.heap[b]? = W.heap[b]? := fun b ty cs hB hne => by
    refine hf.block b hB.lt fun hh => ?_
    rcases hh with hh | rfl
    · obtain ⟨cs', h'⟩ := hty b hh
      exact blk_types hB h' hne rfl
    · obtain ⟨x, hx⟩ := hl
      unfold Blk at hB
      rw [hx] at hB
      cases hB
  obtain ⟨t', h1, h2⟩ := h.st
  refine ⟨⟨t', h1.most (keep _ _ _ h1.gblk.2.2 (by decide)) (fun b ty cs hB hty' => keep _ _ _ hB ?_), h2⟩, (keep _ _ _ h.ct (by decide)).trans h.ct, (keep _ _ _ h.n (by decide)).trans h.n, h.fr.trans (hf.mono fun b _ hh => ?_)⟩
  · rcases hty' with rfl | rfl | rfl | rfl <;> decide
  · rcases hh with hh | rfl
    · exact .inr (.inr (.inr (.inr (hpv b hh))))
    · exact .inr (.inr (.inr (.inr (by omega))))
/-- A round's record alone has turned. -/
theorem WkI.busy (h : WkI wh q g r b12 bn N0 ns at_ wL k Pv W) (hO : OnlyB (wL.heap.size + 1) W W') : WkC wh q g r b12 bn N0 ns at_ wL k W' := h.2 W' (hO.1.mono fun _ _ h => .inr h)
theorem wki_start {t : Tr} (h : Bm wh wL q g r t) (hm : t.many ≤ N0 + min at_ ns) (hc : Blk wL b12 3 #[.int .i64 (at_ : Int)]) (hn : Blk wL bn 3 #[.int .i64 0]) : WkI wh q g r b12 bn N0 ns at_ wL 0 (fun _ => False) wL := by
  refine ⟨fun _ h => h.elim, fun W' hf => ?_⟩
  have hb : Below wL.heap.size wL W' := hf.below (fun b hh => hh.elim False.elim fun e => by omega) (Nat.le_refl _)
  exact ⟨⟨t, h.below hb, hm⟩, hc.below hb, hn.below hb, Fr.next hb⟩
/-- What a step finds, and what it leaves: the count has gone on, the step is done, the place goes on. -/
theorem WkC.round {W2 W3 W4 W5 : World} {t'' : Tr} (h : WkC wh q g r b12 bn N0 ns at_ wL k W2) (hqn : q ≠ bn) (hqc : q ≠ b12) (hcn : b12 ≠ bn) (hB : Bm wh W4 q g r t'') (hm : t''.many ≤ N0 + min (at_ + (k + 1)) ns)
    (e3 : W3 = W2.setCell ⟨bn, 0, none⟩ (.int .i64 ((k + 1 : Nat) : Int))) (hT : Two g r W3 W4) (e5 : W5 = W4.setCell ⟨b12, 0, none⟩ (.int .i64 ((at_ + (k + 1) : Nat) : Int))) :
    WkC wh q g r b12 bn N0 ns at_ wL (k + 1) W5 := by
  subst e3
  subst e5
  obtain ⟨⟨cg, hg⟩, ⟨cr, hr⟩, hq⟩ := hB.gblk
  have hz := h.fr.size
  have hn3 : Blk (W2.setCell ⟨bn, 0, none⟩ (.int .i64 ((k + 1 : Nat) : Int))) bn 3 #[.int .i64 ((k + 1 : Nat) : Int)] := blk_set h.n
  have hc3 : Blk (W2.setCell ⟨bn, 0, none⟩ (.int .i64 ((k + 1 : Nat) : Int))) b12 3 #[.int .i64 ((at_ + k : Nat) : Int)] := blk_setNe h.ct hcn
  obtain ⟨t', hB2, _⟩ := h.st
  obtain ⟨⟨cg2, hg2⟩, ⟨cr2, hr2⟩, hq2⟩ := hB2.gblk
  have hg3 : Blk (W2.setCell ⟨bn, 0, none⟩ (.int .i64 ((k + 1 : Nat) : Int))) g 75 cg2 := blk_setNe hg2 (blk_types hg2 h.n (by decide))
  have hr3 : Blk (W2.setCell ⟨bn, 0, none⟩ (.int .i64 ((k + 1 : Nat) : Int))) r 29 cr2 := blk_setNe hr2 (blk_types hr2 h.n (by decide))
  have hn4 := (blk_stays hg3 hr3 hT hn3 (fun e => absurd e (by decide)) (fun e => absurd e (by decide))).trans hn3
  have hc4 : Blk W4 b12 3 #[.int .i64 ((at_ + k : Nat) : Int)] := (blk_stays hg3 hr3 hT hc3 (fun e => absurd e (by decide)) (fun e => absurd e (by decide))).trans hc3
  refine ⟨⟨t'', hB.most (heap_set_ne _ _ _ _ _ hqc) (fun b ty cs hb hty => heap_set_ne _ _ _ _ _ (blk_types hb hc4 ?_)), hm⟩, ?_, blk_setNe hn4 hcn.symm, ?_⟩
  · rcases hty with rfl | rfl | rfl | rfl <;> decide
  · exact blk_set hc4
  · refine ((h.fr.set _ (.inr (.inr (.inr (.inl rfl))))).trans (hT.mono fun b _ hh => ?_)).set _ (.inr (.inr (.inl rfl)))
    exact hh.elim .inl (fun h => .inr (.inl h))
/-- The end of a round. -/
theorem over_fin {α : Type} {pre : List α} {x : α} {a : Act} {W2 W5 : World} {Ix : Code → List α → (Nat → Prop) → World → Prop} (hk : pre.length = k) (hI : WkI wh q g r b12 bn N0 ns at_ wL k Pv W) (hO : OnlyB (wL.heap.size + 1) W W2) (hx : ∃ r, W2.heap[wL.heap.size + 1]? = some (.loop r)) (hPl : ∀ b, Pv b → ∃ cs, Blk W b 73 cs)
    (hp1 : ¬ Pv (wL.heap.size + 1)) (hrs : wL.heap.size + 1 < W.heap.size) (hlt : ∀ b, b = g ∨ b = r ∨ b = b12 ∨ b = bn → b < wL.heap.size) (h5 : WkC wh q g r b12 bn N0 ns at_ wL (k + 1) W5) (hF : Fr (fun b => b = g ∨ b = r ∨ b = b12 ∨ b = bn) W2 W5) :
    postM (fun pre Pv W => WkI wh q g r b12 bn N0 ns at_ wL pre.length Pv W) Ix Pv (fun _ => False) (pre ++ [x]) (wL.heap.size + 1) W W2 .normal a W5 := by
  have hz2 : W2.heap.size = W.heap.size := hO.2
  have keep : ∀ b, b < W2.heap.size → wL.heap.size ≤ b → W5.heap[b]? = W2.heap[b]? := fun b h1 h2 => hF.block b h1 fun hh => by have := hlt b hh; omega
  have hPv : ∀ b, Pv b → W5.heap[b]? = W.heap[b]? := fun b hb => by
    obtain ⟨cs, hB⟩ := hPl b hb
    exact (keep b (by have := hB.lt; omega) (hI.1 b hb)).trans (hO.at fun e => hp1 (e ▸ hb))
  refine ⟨keep _ (by omega) (by omega), keep _ (by omega) (by omega), ⟨by have := hF.size; omega, fun b hb => hPv b (hb.elim id False.elim)⟩, ?_⟩
  dsimp only
  rw [List.length_append, List.length_singleton, hk]
  refine h5.close (fun b hb => ?_) ?_ hI.1
  · obtain ⟨cs, hB⟩ := hPl b hb
    exact ⟨cs, (hPv b hb).trans hB⟩
  · obtain ⟨x', hx'⟩ := hx
    exact ⟨x', (keep _ (by omega) (by omega)).trans hx'⟩
end
end Go.Proofs.Ytchmlephgkimcaa
