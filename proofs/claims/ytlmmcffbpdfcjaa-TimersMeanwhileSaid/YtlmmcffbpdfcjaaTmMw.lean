/- TimersMeanwhile: one going over, in whose rounds the queue is turned. -/
import Derived.Test.YtlmmcffbpdfcjaaTmPl3
import Derived.Test.YtlmmcffbpdfcjaaPart
set_option linter.unusedSimpArgs false
set_option linter.unusedVariables false
namespace Go.Proofs.Ytlmmcffbpdfcjaa
open Go.RowKit Go.Kp Go.ChangeMaps Go.Shelf

/-- The block of this number in a code. -/
def blockOf (id : Nat) : Code → Option Code
  | .block i c => if i = id then some (.block i c) else blockOf id c
  | .seq a b => match blockOf id a with | some c => some c | none => blockOf id b
  | .cond _ a b => match blockOf id a with | some c => some c | none => blockOf id b
  | .loop c => blockOf id c
  | .rangeFunc _ _ a b => match blockOf id a with | some c => some c | none => blockOf id b
  | .scope c => blockOf id c
  | _ => none
def theBlock (f : Func) (id : Nat) : Code := match f.body with | some b => (blockOf id b).getD .skip | none => .skip
theorem wpIn_at {F : Fence} {n : Nat} {P : Program} {c : Code} {Q : Exit → Act → World → Prop} {a : Act} {W : World} (T : World → Prop) (hT : T W) (h : ∀ wc, T wc → c.wpIn F n P Q a wc) : c.wpIn F n P Q a W := h W hT

/-- The blocks that stand: the script's box, the answer, the state's box, the list's box, the place in the script, the state, the iterator's queue. -/
structure Bs where
  (b3 b4 b6 b7 b10 gw bb : Nat)
abbrev Bs.list (s : Bs) : List Nat := [s.b3, s.b4, s.b6, s.b7, s.b10, s.gw, s.bb]
/-- What lies in memory between two rounds. -/
structure MwS (w : World) (B : Nat) (s : Bs) (sv : Value) (x : Qr) (at_ : Nat) (d0 d1 : Value) : Prop where
  c3 : Blk w s.b3 38 #[sv]
  c4 : Blk w s.b4 4 #[.bool false]
  c6 : Blk w s.b6 39 #[ptr s.gw]
  c7 : Blk w s.b7 29 #[x.lv]
  c10 : Blk w s.b10 3 #[.int .i64 at_]
  G : Blk w s.gw 45 #[ptr x.q, ptr x.q, d0, d1, .slice none 0 0, .slice none 0 0]
  bb : Blk w s.bb 30 #[ptr x.q]
  ok : x.ok w B
  dj : ∀ b ∈ s.list, ¬ x.foot b ∧ x.lv.ownBlock ≠ some b
/-- Its own blocks. -/
def MwS.own (s : Bs) (x : Qr) (b : Nat) : Prop := b ∈ s.list ∨ x.foot b ∨ x.lv.ownBlock = some b
theorem MwS.lt {w : World} {B : Nat} {s : Bs} {sv : Value} {x : Qr} {at_ : Nat} {d0 d1 : Value} (h : MwS w B s sv x at_ d0 d1) : ∀ b, MwS.own s x b → b < w.heap.size := by
  rintro b (hb | hb | hb)
  · simp only [List.mem_cons, List.not_mem_nil, or_false] at hb
    rcases hb with rfl | rfl | rfl | rfl | rfl | rfl | rfl
    · exact h.c3.lt
    · exact h.c4.lt
    · exact h.c6.lt
    · exact h.c7.lt
    · exact h.c10.lt
    · exact h.G.lt
    · exact h.bb.lt
  · exact h.ok.lt.1 b hb
  · exact h.ok.lt.2 b hb
theorem MwS.same {w w' : World} {B : Nat} {s : Bs} {sv : Value} {x : Qr} {at_ : Nat} {d0 d1 : Value} (h : MwS w B s sv x at_ d0 d1) (hk : ∀ b, MwS.own s x b → w'.heap[b]? = w.heap[b]?) : MwS w' B s sv x at_ d0 d1 :=
  ⟨(hk _ (.inl (by simp))).trans h.c3, (hk _ (.inl (by simp))).trans h.c4, (hk _ (.inl (by simp))).trans h.c6, (hk _ (.inl (by simp))).trans h.c7, (hk _ (.inl (by simp))).trans h.c10, (hk _ (.inl (by simp))).trans h.G, (hk _ (.inl (by simp))).trans h.bb,
    h.ok.same (fun b hb => hk b (.inr (.inl hb))) fun b hb => hk b (.inr (.inr hb)), h.dj⟩
theorem MwS.below {w w' : World} {B : Nat} {s : Bs} {sv : Value} {x : Qr} {at_ : Nat} {d0 d1 : Value} (h : MwS w B s sv x at_ d0 d1) (hb : Below w.heap.size w w') : MwS w' B s sv x at_ d0 d1 := h.same fun b hf => hb.block b (h.lt b hf)


theorem mem7 {s : Bs} {b : Nat} : b ∈ s.list ↔ b = s.b3 ∨ b = s.b4 ∨ b = s.b6 ∨ b = s.b7 ∨ b = s.b10 ∨ b = s.gw ∨ b = s.bb := by
  simp only [List.mem_cons, List.not_mem_nil, or_false]
/-- A store beside. -/
theorem MwS.beside {w : World} {B : Nat} {s : Bs} {sv : Value} {x : Qr} {at_ : Nat} {d0 d1 : Value} (h : MwS w B s sv x at_ d0 d1) {g i : Nat} (v : Value) (hg : ¬ MwS.own s x g) : MwS (w.setCell ⟨g, i, none⟩ v) B s sv x at_ d0 d1 :=
  h.same fun b hb => heap_set_ne _ _ _ _ _ fun e => hg (e ▸ hb)
theorem blk_set {w : World} {b : Nat} {t : TypeId} {c v : Value} (h : Blk w b t #[c]) : Blk (w.setCell ⟨b, 0, none⟩ v) b t #[v] := by
  unfold Blk at h ⊢
  rw [heap_set_same, h]
  rfl
theorem blk_beside {w : World} {b g i : Nat} {t : TypeId} {cs : Array Value} {v : Value} (h : Blk w b t cs) (hne : b ≠ g) : Blk (w.setCell ⟨g, i, none⟩ v) b t cs := (heap_set_ne _ _ _ _ _ hne).trans h
theorem ok_beside {w : World} {B : Nat} {s : Bs} {sv : Value} {x : Qr} {at_ : Nat} {d0 d1 : Value} (h : MwS w B s sv x at_ d0 d1) {g i : Nat} {v : Value} (hg : g ∈ s.list) : x.ok (w.setCell ⟨g, i, none⟩ v) B :=
  h.ok.same (fun b hb => heap_set_ne _ _ _ _ _ fun e => (h.dj g hg).1 (e ▸ hb)) fun b hb => heap_set_ne _ _ _ _ _ fun e => (h.dj g hg).2 (e ▸ hb)
/-- The place in the script goes on. -/
theorem MwS.tick {w : World} {B : Nat} {s : Bs} {sv : Value} {x : Qr} {at_ n : Nat} {d0 d1 : Value} (h : MwS w B s sv x at_ d0 d1) (hd : s.list.Nodup) : MwS (w.setCell ⟨s.b10, 0, none⟩ (.int .i64 n)) B s sv x n d0 d1 := by
  simp only [List.nodup_cons, List.mem_cons, List.not_mem_nil, or_false, not_or] at hd
  obtain ⟨⟨h1, h2, h3, h4, h5, h6⟩, ⟨h7, h8, h9, h10, h11⟩, ⟨h12, h13, h14, h15⟩, ⟨h16, h17, h18⟩, ⟨h19, h20⟩, h21, _⟩ := hd
  exact ⟨blk_beside h.c3 h4, blk_beside h.c4 h9, blk_beside h.c6 h13, blk_beside h.c7 h16, blk_set h.c10, blk_beside h.G (fun e => h19 e.symm), blk_beside h.bb (fun e => h20 e.symm), ok_beside h (by simp), h.dj⟩
/-- The list is laid into the state. -/
theorem MwS.lay {w : World} {B : Nat} {s : Bs} {sv : Value} {x : Qr} {at_ : Nat} {d0 d1 v0 v1 : Value} (h : MwS w B s sv x at_ d0 d1) (hd : s.list.Nodup) : MwS ((w.setCell ⟨s.gw, 2, none⟩ v0).setCell ⟨s.gw, 3, none⟩ v1) B s sv x at_ v0 v1 := by
  simp only [List.nodup_cons, List.mem_cons, List.not_mem_nil, or_false, not_or] at hd
  obtain ⟨⟨h1, h2, h3, h4, h5, h6⟩, ⟨h7, h8, h9, h10, h11⟩, ⟨h12, h13, h14, h15⟩, ⟨h16, h17, h18⟩, ⟨h19, h20⟩, h21, _⟩ := hd
  refine ⟨blk_beside (blk_beside h.c3 h5) h5, blk_beside (blk_beside h.c4 h10) h10, blk_beside (blk_beside h.c6 h14) h14, blk_beside (blk_beside h.c7 h17) h17, blk_beside (blk_beside h.c10 h19) h19, ?_, blk_beside (blk_beside h.bb (fun e => h21 e.symm)) (fun e => h21 e.symm), ?_, h.dj⟩
  · have hG := h.G
    unfold Blk at hG ⊢
    rw [heap_set_same, heap_set_same, hG]
    rfl
  · have n1 : ∀ b, x.foot b → b ≠ s.gw := fun b hb e => by subst e; exact (h.dj s.gw (by simp)).1 hb
    have n2 : ∀ b, x.lv.ownBlock = some b → b ≠ s.gw := fun b hb e => by subst e; exact (h.dj s.gw (by simp)).2 hb
    exact h.ok.same (fun b hb => (heap_set_ne _ _ _ _ _ (n1 b hb)).trans (heap_set_ne _ _ _ _ _ (n1 b hb))) fun b hb => (heap_set_ne _ _ _ _ _ (n2 b hb)).trans (heap_set_ne _ _ _ _ _ (n2 b hb))
/-- Behind a step, the list taken over. -/
theorem MwS.stepped {w w' : World} {B : Nat} {s : Bs} {sv : Value} {x x' : Qr} {at_ : Nat} {d0 d1 : Value} {S' : List Tm.T} (h : MwS w B s sv x at_ d0 d1) (hd : s.list.Nodup) (p : StepP w w' B s.gw 0 #[ptr x.q, ptr x.q, d0, d1, .slice none 0 0, .slice none 0 0] x x' S') :
    MwS (w'.setCell ⟨s.b7, 0, none⟩ x'.lv) B s sv x' at_ x'.lv d1 ∧ (∀ b, b ∈ s.list → b ≠ s.gw → w'.heap[b]? = w.heap[b]?) := by
  have hd' := hd
  simp only [List.nodup_cons, List.mem_cons, List.not_mem_nil, or_false, not_or] at hd
  obtain ⟨⟨h1, h2, h3, h4, h5, h6⟩, ⟨h7, h8, h9, h10, h11⟩, ⟨h12, h13, h14, h15⟩, ⟨h16, h17, h18⟩, ⟨h19, h20⟩, h21, _⟩ := hd
  have keep : ∀ b, b ∈ s.list → b ≠ s.gw → w'.heap[b]? = w.heap[b]? := fun b hb hne => p.fr.block b (h.lt b (.inl hb)) fun e => e.elim (fun hf => (h.dj b hb).1 hf) hne
  have dj : ∀ b ∈ s.list, ¬ x'.foot b ∧ x'.lv.ownBlock ≠ some b := fun b hb => by
    have hl := h.lt b (.inl hb)
    refine ⟨fun hf => ?_, fun hf => ?_⟩
    · rcases p.foot b hf with e | e
      · exact (h.dj b hb).1 e
      · omega
    · rcases p.list b hf with e | e
      · exact (h.dj b hb).2 e
      · omega
  refine ⟨⟨blk_beside ((keep _ (by simp) h5).trans h.c3) h3, blk_beside ((keep _ (by simp) h10).trans h.c4) h8, blk_beside ((keep _ (by simp) h14).trans h.c6) h12, blk_set ((keep _ (by simp) h17).trans h.c7), blk_beside ((keep _ (by simp) h19).trans h.c10) (fun e => h16 e.symm), ?_, ?_, ?_, dj⟩, keep⟩
  · refine blk_beside ?_ (fun e => h17 e.symm)
    have hb := p.blk
    rw [p.q]
    exact hb
  · rw [p.q]
    exact blk_beside ((keep _ (by simp) (fun e => h21 e.symm)).trans h.bb) (fun e => h18 e.symm)
  · exact p.ok.same (fun b hb => heap_set_ne _ _ _ _ _ fun e => (dj s.b7 (by simp)).1 (e ▸ hb)) fun b hb => heap_set_ne _ _ _ _ _ fun e => (dj s.b7 (by simp)).2 (e ▸ hb)
end Go.Proofs.Ytlmmcffbpdfcjaa
