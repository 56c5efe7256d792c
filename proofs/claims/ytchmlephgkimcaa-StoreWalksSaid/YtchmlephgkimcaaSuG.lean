/- Store: maps that stay while another one turns. -/
import Derived.Test.YtchmlephgkimcaaSuF
set_option linter.unusedSimpArgs false
set_option linter.unusedVariables false
namespace Go.Proofs.Ytchmlephgkimcaa
open Go.RowKit Go.Kp Go.St

/-- Both maps, of the law's own order. -/
abbrev Bm (wh : Int) (w : World) (q g r : Nat) (t : Tr) : Prop := Both (fun w => Blk w q 3 #[.int .i64 wh]) 31 #[.pointer (some ⟨q, 0, none⟩)] wh w g r t
theorem blk_stays {w w' : World} {g r : Nat} {cg cr : Array Value} (hg : Blk w g 75 cg) (hr : Blk w r 29 cr) (hT : Two g r w w') {b : Nat} {ty : TypeId} {cs : Array Value} (hB : Blk w b ty cs)
    (h1 : ty = 75 → b ≠ g) (h2 : ty = 29 → b ≠ r) : w'.heap[b]? = w.heap[b]? := by
  refine hT.block b hB.lt fun h => ?_
  rcases h with rfl | rfl
  · by_cases e : ty = 75
    · exact h1 e rfl
    · exact blk_types hB hg e rfl
  · by_cases e : ty = 29
    · exact h2 e rfl
    · exact blk_types hB hr e rfl
theorem Bm.other {wh : Int} {w w' : World} {q g r g' r' : Nat} {t : Tr} (h : Bm wh w q g r t) {cg cr : Array Value} (hg : Blk w g' 75 cg) (hr : Blk w r' 29 cr) (hT : Two g' r' w w') (hne : g ≠ g') (hne' : r ≠ r') : Bm wh w' q g r t := by
  obtain ⟨a, h1, h2⟩ := h.own.cells
  obtain ⟨a', cap, h3, h4, h5⟩ := h.ref
  have hq : Blk w q 3 #[.int .i64 wh] := h.own.holds
  refine ⟨⟨h.own.last, h.own.lastM, h.own.cmp, h.own.ord, (blk_stays hg hr hT hq (fun e => absurd e (by decide)) (fun e => absurd e (by decide))).trans hq, h.own.srt, h.own.few, a, (blk_stays hg hr hT h1 (fun _ => hne) (fun e => absurd e (by decide))).trans h1, h2.same fun b cs hB => blk_stays hg hr hT hB (fun e => absurd e (by decide)) (fun e => absurd e (by decide))⟩,
    ⟨a', cap, (blk_stays hg hr hT h3 (fun e => absurd e (by decide)) (fun _ => hne')).trans h3, h4.same fun b cs hB => blk_stays hg hr hT hB (fun e => absurd e (by decide)) (fun e => absurd e (by decide)), h5⟩, h.lastR⟩
/-- Both maps stay where nothing but arrays of pointers turns. -/
theorem Bm.types {wh : Int} {w w' : World} {q g r : Nat} {t : Tr} (h : Bm wh w q g r t) (hk : ∀ b ty cs, Blk w b ty cs → ty ≠ 67 → ty ≠ 68 → w'.heap[b]? = w.heap[b]?) : Bm wh w' q g r t := by
  obtain ⟨a, h1, h2⟩ := h.own.cells
  obtain ⟨a', cap, h3, h4, h5⟩ := h.ref
  have hq : Blk w q 3 #[.int .i64 wh] := h.own.holds
  exact ⟨⟨h.own.last, h.own.lastM, h.own.cmp, h.own.ord, (hk _ _ _ hq (by decide) (by decide)).trans hq, h.own.srt, h.own.few, a, (hk _ _ _ h1 (by decide) (by decide)).trans h1, h2.same fun b cs hB => hk _ _ _ hB (by decide) (by decide)⟩,
    ⟨a', cap, (hk _ _ _ h3 (by decide) (by decide)).trans h3, h4.same fun b cs hB => hk _ _ _ hB (by decide) (by decide), h5⟩, h.lastR⟩
theorem bm_lastR (wh : Int) (q : Nat) : ∀ (w w' : World) (r : Nat) (cs : Array Value), Blk w q 3 #[.int .i64 wh] → Blk w r 29 cs → w.grownBy w' (some r) → Blk w' q 3 #[.int .i64 wh] :=
  fun w w' r cs h hr hb => h.grown hb fun e => blk_types h hr (by decide) (by injection e)
end Go.Proofs.Ytchmlephgkimcaa
