/- Store: StoreWalks: what stands between the turns. -/
import Derived.Test.YtchmlephgkimcaaSvB
set_option linter.unusedSimpArgs false
set_option linter.unusedVariables false
namespace Go.Proofs.Ytchmlephgkimcaa
open Go.RowKit Go.Kp Go.St

/-- The blocks of the three walks. -/
structure Ws where
  (bm0 bb0 bo0 bm1 bb1 bo1 xm1 xk1 bm2 bb2 bo2 xm2 xk2 : Nat)
abbrev SOq (wh : Int) (q g xm xk : Nat) (key : Int) : World → Prop := SO (fun w => Blk w q 3 #[.int .i64 wh]) 31 #[.pointer (some ⟨q, 0, none⟩)] g xm xk key
/-- What stands between two turns. -/
structure StS (wh fm : Int) (q g r b5 b7 b8 b11 b12 : Nat) (y : Ws) (sv : Value) (w : World) : Prop where
  c5 : Blk w b5 23 #[sv]
  c7 : Blk w b7 24 #[ptr g]
  c8 : Blk w b8 26 #[ptr r]
  c11 : Blk w b11 40 #[wkV y.bm0 y.bb0 y.bo0, wkV y.bm1 y.bb1 y.bo1, wkV y.bm2 y.bb2 y.bo2]
  w0 : Wk (fun _ => True) 44 #[] (fun _ => false) false g y.bm0 y.bb0 y.bo0 w
  w1 : Wk (SOq wh q g y.xm1 y.xk1 fm) 45 #[.pointer (some ⟨y.xm1, 0, none⟩), .pointer (some ⟨y.xk1, 0, none⟩)] (fun k => decide (cw wh k fm < 0)) false g y.bm1 y.bb1 y.bo1 w
  w2 : Wk (SOq wh q g y.xm2 y.xk2 fm) 46 #[.pointer (some ⟨y.xm2, 0, none⟩), .pointer (some ⟨y.xk2, 0, none⟩)] (fun k => decide (0 < cw wh k fm)) true g y.bm2 y.bb2 y.bo2 w
  ne : q ≠ b12 ∧ y.xk1 ≠ b12 ∧ y.xk2 ≠ b12
section
variable {wh fm : Int} {q g r b5 b7 b8 b11 b12 : Nat} {y : Ws} {sv : Value} {w w' : World} {t t' : Tr}
theorem so_next {xm xk : Nat} (h : SOq wh q g xm xk fm w) (hB : Bm wh w' q g r t') (h1 : ∀ cs, Blk w xm 24 cs → w'.heap[xm]? = w.heap[xm]?) (h2 : ∀ cs, Blk w xk 3 cs → w'.heap[xk]? = w.heap[xk]?) : SOq wh q g xm xk fm w' := by
  obtain ⟨e1, e2, e3, a, e4⟩ := h
  obtain ⟨a', g1, _⟩ := hB.own.cells
  exact ⟨hB.own.holds, (h1 _ e2).trans e2, (h2 _ e3).trans e3, a', g1⟩
theorem StS.next (h : StS wh fm q g r b5 b7 b8 b11 b12 y sv w) (hB : Bm wh w' q g r t') (hf : ∀ b ty cs, Blk w b ty cs → ty ≠ 75 → ty ≠ 29 → b ≠ b12 → w'.heap[b]? = w.heap[b]?) (ho : ∀ ty cs, Blk w b12 ty cs → ty = 3) : StS wh fm q g r b5 b7 b8 b11 b12 y sv w' := by
  have k : ∀ b ty cs, Blk w b ty cs → ty ≠ 75 → ty ≠ 29 → ty ≠ 3 → Blk w' b ty cs := fun b ty cs hb n1 n2 n3 => (hf b ty cs hb n1 n2 fun e => by subst e; exact n3 (ho _ _ hb)).trans hb
  refine ⟨k _ _ _ h.c5 (by decide) (by decide) (by decide), k _ _ _ h.c7 (by decide) (by decide) (by decide), k _ _ _ h.c8 (by decide) (by decide) (by decide), k _ _ _ h.c11 (by decide) (by decide) (by decide), ?_, ?_, ?_, h.ne⟩
  · exact ⟨k _ _ _ h.w0.bm (by decide) (by decide) (by decide), k _ _ _ h.w0.bb (by decide) (by decide) (by decide), k _ _ _ h.w0.bo (by decide) (by decide) (by decide), trivial, h.w0.out⟩
  · exact ⟨k _ _ _ h.w1.bm (by decide) (by decide) (by decide), k _ _ _ h.w1.bb (by decide) (by decide) (by decide), k _ _ _ h.w1.bo (by decide) (by decide) (by decide), so_next h.w1.so hB (fun cs hb => (k _ _ _ hb (by decide) (by decide) (by decide)).trans hb.symm) (fun cs hb => hf _ _ _ hb (by decide) (by decide) h.ne.2.1), h.w1.out⟩
  · exact ⟨k _ _ _ h.w2.bm (by decide) (by decide) (by decide), k _ _ _ h.w2.bb (by decide) (by decide) (by decide), k _ _ _ h.w2.bo (by decide) (by decide) (by decide), so_next h.w2.so hB (fun cs hb => (k _ _ _ hb (by decide) (by decide) (by decide)).trans hb.symm) (fun cs hb => hf _ _ _ hb (by decide) (by decide) h.ne.2.2), h.w2.out⟩
theorem StS.below {v : Value} (h : StS wh fm q g r b5 b7 b8 b11 b12 y sv w) (hB : Bm wh w q g r t) (hc : Blk w b12 3 #[v]) (hb : Below w.heap.size w w') : StS wh fm q g r b5 b7 b8 b11 b12 y sv w' :=
  h.next (hB.below hb) (fun b ty cs h1 _ _ _ => hb.block b h1.lt) fun ty cs h1 => by
    unfold Blk at h1 hc
    rw [hc] at h1
    cases h1; rfl
/-- What From and Back lean on stays while the map turns. -/
theorem so_over {bn xm xk : Nat} {cs cs' : Array Value} (h : SOq wh q g xm xk fm w) (hB : Bm wh w q g r t) (hc : Blk w b12 3 cs) (hn : Blk w bn 3 cs') (hx : xk ≠ b12) (hxn : xk ≠ bn) : ∀ W' t', Fr (WkM g r b12 bn w.heap.size) w W' → Bm wh W' q g r t' → SOq wh q g xm xk fm W' := by
  intro W' t' hf hB'
  obtain ⟨⟨cg, hg⟩, ⟨cr, hr⟩, hq⟩ := hB.gblk
  refine so_next h hB' (fun cs hb => hf.block _ hb.lt fun hh => ?_) (fun cs hb => hf.block _ hb.lt fun hh => ?_)
  · rcases hh with hh | hh | hh | hh | hh
    · exact blk_types hb hg (by decide) hh
    · exact blk_types hb hr (by decide) hh
    · exact blk_types hb hc (by decide) hh
    · exact blk_types hb hn (by decide) hh
    · have := hb.lt; omega
  · rcases hh with hh | hh | hh | hh | hh
    · exact blk_types hb hg (by decide) hh
    · exact blk_types hb hr (by decide) hh
    · exact hx hh
    · exact hxn hh
    · have := hb.lt; omega
/-- What a turn leaves. -/
structure TurnP (wh : Int) (q g r b12 N0 ns at_ : Nat) (w w' : World) (D : Nat) : Prop where
  st : ∃ t' at', Bm wh w' q g r t' ∧ t'.many ≤ N0 + min at' ns ∧ at' ≤ at_ + 5000000000000 ∧ Blk w' b12 3 #[.int .i64 ((at' : Nat) : Int)]
  fr : Fr (fun b => b = g ∨ b = r ∨ b = b12) w w'
  d : w'.heap[D]? = some (.deferred (some []))
  new : w.heap.size ≤ D
theorem soq_set {A i xm xk : Nat} {cs : Array Value} {v : Value} (h : SOq wh q g xm xk fm w) (hA : Blk w A 40 cs) : SOq wh q g xm xk fm (w.setCell ⟨A, i, none⟩ v) := by
  obtain ⟨e1, e2, e3, a, e4⟩ := h
  exact ⟨blk_setNe e1 (blk_types e1 hA (by decide)), blk_setNe e2 (blk_types e2 hA (by decide)), blk_setNe e3 (blk_types e3 hA (by decide)), a, blk_setNe e4 (blk_types e4 hA (by decide))⟩
theorem wk_set {A i bm bb bo id' : Nat} {caps' cs : Array Value} {p : Int → Bool} {back : Bool} {v : Value} {S' : World → Prop} (h : Wk S' id' caps' p back g bm bb bo w) (hA : Blk w A 40 cs) (hS : S' (w.setCell ⟨A, i, none⟩ v)) : Wk S' id' caps' p back g bm bb bo (w.setCell ⟨A, i, none⟩ v) :=
  ⟨blk_setNe h.bm (blk_types h.bm hA (by decide)), blk_setNe h.bb (blk_types h.bb hA (by decide)), blk_setNe h.bo (blk_types h.bo hA (by decide)), hS, h.out⟩
/-- The three walks. -/
def W3 (wh fm : Int) (q g b11 : Nat) (y : Ws) (cs : Array Value) (w : World) : Prop := Blk w b11 40 cs ∧
  Wk (fun _ => True) 44 #[] (fun _ => false) false g y.bm0 y.bb0 y.bo0 w ∧
  Wk (SOq wh q g y.xm1 y.xk1 fm) 45 #[.pointer (some ⟨y.xm1, 0, none⟩), .pointer (some ⟨y.xk1, 0, none⟩)] (fun k => decide (cw wh k fm < 0)) false g y.bm1 y.bb1 y.bo1 w ∧
  Wk (SOq wh q g y.xm2 y.xk2 fm) 46 #[.pointer (some ⟨y.xm2, 0, none⟩), .pointer (some ⟨y.xk2, 0, none⟩)] (fun k => decide (0 < cw wh k fm)) true g y.bm2 y.bb2 y.bo2 w
theorem W3.set {b11 : Nat} {cs : Array Value} (h : W3 wh fm q g b11 y cs w) (i : Nat) (v : Value) : W3 wh fm q g b11 y (cs.setIfInBounds i v) (w.setCell ⟨b11, i, none⟩ v) :=
  ⟨blk_set h.1, wk_set h.2.1 h.1 trivial, wk_set h.2.2.1 h.1 (soq_set h.2.2.1.so h.1), wk_set h.2.2.2 h.1 (soq_set h.2.2.2.so h.1)⟩
end
end Go.Proofs.Ytchmlephgkimcaa
