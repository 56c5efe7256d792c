/- Store: three pairs of maps in two arrays. -/
import Derived.Test.YtchmlephgkimcaaSuG
set_option linter.unusedSimpArgs false
set_option linter.unusedVariables false
namespace Go.Proofs.Ytchmlephgkimcaa
open Go.RowKit Go.Kp Go.St

/-- The first k places of an array of three pointers are taken. -/
def pt (k : Nat) (f : Nat → Nat) (i : Nat) : Value := .pointer (if i < k then some ⟨f i, 0, none⟩ else none)
def tri (k : Nat) (f : Nat → Nat) : Array Value := #[pt k f 0, pt k f 1, pt k f 2]
def upd {α : Type} (f : Nat → α) (n : Nat) (x : α) : Nat → α := fun i => if i = n then x else f i
theorem upd_same {α : Type} (f : Nat → α) (n : Nat) (x : α) : upd f n x n = x := if_pos rfl
theorem upd_ne {α : Type} (f : Nat → α) (n : Nat) (x : α) {i : Nat} (h : i ≠ n) : upd f n x i = f i := if_neg h
theorem lt_three {i : Nat} (h : i < 3) : i = 0 ∨ i = 1 ∨ i = 2 := by omega
theorem tri_get {k : Nat} {f : Nat → Nat} {i : Nat} (h : i < 3) (hk : i < k) : (tri k f)[i]? = some (.pointer (some ⟨f i, 0, none⟩)) := by
  rcases lt_three h with rfl | rfl | rfl <;> simp [tri, pt, hk]
theorem tri_set {k k' n x : Nat} {f : Nat → Nat} (h : n < 3) (hk : ∀ i, i < k' ↔ i < k ∨ i = n) : (tri k f).setIfInBounds n (.pointer (some ⟨x, 0, none⟩)) = tri k' (upd f n x) := by
  have h0 := hk 0
  have h1 := hk 1
  have h2 := hk 2
  rcases lt_three h with rfl | rfl | rfl <;> simp [tri, pt, upd, h0, h1, h2]

section
variable {wh : Int} {w w' : World} {q g r : Nat} {t : Tr}
theorem MapAt.types {id : Nat} {caps : Array Value} {c : Int → Int → Int} (h : MapAt (fun w => Blk w q 3 #[.int .i64 wh]) id caps c w g t) (hk : ∀ b ty cs, Blk w b ty cs → ty ≠ 67 → ty ≠ 68 → w'.heap[b]? = w.heap[b]?) :
    MapAt (fun w => Blk w q 3 #[.int .i64 wh]) id caps c w' g t := by
  obtain ⟨a, h1, h2⟩ := h.cells
  have hq : Blk w q 3 #[.int .i64 wh] := h.holds
  exact ⟨h.last, h.lastM, h.cmp, h.ord, (hk _ _ _ hq (by decide) (by decide)).trans hq, h.srt, h.few, a, (hk _ _ _ h1 (by decide) (by decide)).trans h1, h2.same fun b cs hB => hk _ _ _ hB (by decide) (by decide)⟩
theorem RefAt.types {L : List (Int × Int)} (h : RefAt w wh r L) (hk : ∀ b ty cs, Blk w b ty cs → ty ≠ 67 → ty ≠ 68 → w'.heap[b]? = w.heap[b]?) : RefAt w' wh r L := by
  obtain ⟨a', cap, h3, h4, h5⟩ := h
  exact ⟨a', cap, (hk _ _ _ h3 (by decide) (by decide)).trans h3, h4.same fun b cs hB => hk _ _ _ hB (by decide) (by decide), h5⟩
theorem set_types {A n : Nat} {v : Value} {ty : TypeId} {cs : Array Value} (h : Blk w A ty cs) (ht : ty = 67 ∨ ty = 68) :
    ∀ b ty' cs', Blk w b ty' cs' → ty' ≠ 67 → ty' ≠ 68 → (w.setCell ⟨A, n, none⟩ v).heap[b]? = w.heap[b]? := by
  intro b ty' cs' hB h1 h2
  refine heap_set_ne _ _ _ _ _ (blk_types hB h ?_)
  rcases ht with rfl | rfl
  · exact h1
  · exact h2
theorem blk_set {A n : Nat} {v : Value} {ty : TypeId} {cs : Array Value} (h : Blk w A ty cs) : Blk (w.setCell ⟨A, n, none⟩ v) A ty (cs.setIfInBounds n v) := by
  unfold Blk at h ⊢
  rw [heap_set_same, h]
  rfl
theorem blk_setNe {A B n : Nat} {v : Value} {ty : TypeId} {cs : Array Value} (h : Blk w B ty cs) (hn : B ≠ A) : Blk (w.setCell ⟨A, n, none⟩ v) B ty cs := (heap_set_ne _ _ _ _ _ hn).trans h

/-- Three pairs of maps in two arrays; the first k of them are made. -/
structure Pls (wh : Int) (w : World) (k : Nat) (qs gs rs : Nat → Nat) (ts : Nat → Tr) (m : Nat) (Z : World) : Prop where
  own : Blk Z w.heap.size 67 (tri k gs)
  ref : Blk Z (w.heap.size + 1) 68 (tri k rs)
  maps : ∀ i, i < k → Bm wh Z (qs i) (gs i) (rs i) (ts i)
  gne : ∀ i j, i < k → j < k → gs i = gs j → i = j
  rne : ∀ i j, i < k → j < k → rs i = rs j → i = j
  few : ∀ i, i < k → (ts i).many ≤ m
  old : ∀ i, i < k → w.heap.size ≤ gs i ∧ w.heap.size ≤ rs i
  below : Below w.heap.size w Z

variable {qs gs rs : Nat → Nat} {ts : Nat → Tr} {k m : Nat} {Z Z' : World}
theorem Pls.more (h : Pls wh w k qs gs rs ts m Z) {m' : Nat} (hm : m ≤ m') : Pls wh w k qs gs rs ts m' Z :=
  ⟨h.own, h.ref, h.maps, h.gne, h.rne, fun i hi => Nat.le_trans (h.few i hi) hm, h.old, h.below⟩
theorem Pls.next (h : Pls wh w k qs gs rs ts m Z) (hb : Below Z.heap.size Z Z') : Pls wh w k qs gs rs ts m Z' :=
  ⟨h.own.below hb, h.ref.below hb, fun i hi => (h.maps i hi).below hb, h.gne, h.rne, h.few, h.old, h.below.trans (hb.mono h.below.size)⟩
theorem Pls.gcell (h : Pls wh w 3 qs gs rs ts m Z) {n : Nat} (hn : n < 3) : Z.cell? ⟨w.heap.size, n, none⟩ = some (.pointer (some ⟨gs n, 0, none⟩)) := (h.own.cell n).trans (tri_get hn hn)
theorem Pls.rcell (h : Pls wh w 3 qs gs rs ts m Z) {n : Nat} (hn : n < 3) : Z.cell? ⟨w.heap.size + 1, n, none⟩ = some (.pointer (some ⟨rs n, 0, none⟩)) := (h.ref.cell n).trans (tri_get hn hn)

/-- Another pair comes into the place n. -/
theorem Pls.put (h : Pls wh w k qs gs rs ts m Z) {k' n : Nat} (hn : n < 3) (hk : ∀ i, i < k' ↔ i < k ∨ i = n) {w1 w3 : World} {q g r : Nat} {t : Tr} (hb : Below Z.heap.size Z w1) (hM : MapAt (fun w => Blk w q 3 #[.int .i64 wh]) 31 #[.pointer (some ⟨q, 0, none⟩)] (cw wh) w1 g t)
    (hg : Z.heap.size ≤ g) (hb3 : Below w1.heap.size (w1.setCell ⟨w.heap.size, n, none⟩ (.pointer (some ⟨g, 0, none⟩))) w3) (hR : RefAt w3 wh r t.toL) (hr : Z.heap.size ≤ r) (hm : t.many ≤ m) :
    Pls wh w k' (upd qs n q) (upd gs n g) (upd rs n r) (upd ts n t) m (w3.setCell ⟨w.heap.size + 1, n, none⟩ (.pointer (some ⟨r, 0, none⟩))) := by
  have hz : (w1.setCell ⟨w.heap.size, n, none⟩ (.pointer (some ⟨g, 0, none⟩))).heap.size = w1.heap.size := World.size_setCell ..
  have o1 := h.own.below hb
  have r1 := h.ref.below hb
  have o2 := blk_set o1 (n := n) (v := .pointer (some ⟨g, 0, none⟩))
  have r2 := blk_setNe r1 (n := n) (v := .pointer (some ⟨g, 0, none⟩)) (Nat.succ_ne_self w.heap.size)
  rw [← hz] at hb3
  have o3 := o2.below hb3
  have r3 := r2.below hb3
  rw [tri_set hn hk] at o3
  have r4 := blk_set r3 (n := n) (v := .pointer (some ⟨r, 0, none⟩))
  rw [tri_set hn hk] at r4
  have T1 := set_types (n := n) (v := .pointer (some ⟨g, 0, none⟩)) o1 (.inl rfl)
  have T3 := set_types (n := n) (v := .pointer (some ⟨r, 0, none⟩)) r3 (.inr rfl)
  have old : ∀ i, i < k → i ≠ n → Bm wh (w3.setCell ⟨w.heap.size + 1, n, none⟩ (.pointer (some ⟨r, 0, none⟩))) (qs i) (gs i) (rs i) (ts i) := fun i hi _ =>
    Bm.types (Both.below (Bm.types ((h.maps i hi).below hb) T1) hb3) T3
  have hlt : ∀ i, i < k → gs i < Z.heap.size ∧ rs i < Z.heap.size := fun i hi => by
    obtain ⟨a, h1, _⟩ := (h.maps i hi).own.cells
    obtain ⟨_, _, h3, _⟩ := (h.maps i hi).ref
    exact ⟨h1.lt, h3.lt⟩
  refine ⟨blk_setNe o3 (Nat.succ_ne_self w.heap.size).symm, r4, fun i hi => ?_, fun i j hi hj e => ?_, fun i j hi hj e => ?_, fun i hi => ?_, fun i hi => ?_, ?_⟩
  · by_cases e : i = n
    · subst e
      rw [upd_same, upd_same, upd_same, upd_same]
      exact ⟨((MapAt.types hM T1).below hb3).types T3, RefAt.types hR T3, bm_lastR wh q⟩
    · rw [upd_ne _ _ _ e, upd_ne _ _ _ e, upd_ne _ _ _ e, upd_ne _ _ _ e]
      exact old i (((hk i).1 hi).resolve_right e) e
  · by_cases ei : i = n <;> by_cases ej : j = n
    · omega
    · subst ei
      rw [upd_same, upd_ne _ _ _ ej] at e
      have := (hlt j (((hk j).1 hj).resolve_right ej)).1
      omega
    · subst ej
      rw [upd_same, upd_ne _ _ _ ei] at e
      have := (hlt i (((hk i).1 hi).resolve_right ei)).1
      omega
    · rw [upd_ne _ _ _ ei, upd_ne _ _ _ ej] at e
      exact h.gne i j (((hk i).1 hi).resolve_right ei) (((hk j).1 hj).resolve_right ej) e
  · by_cases ei : i = n <;> by_cases ej : j = n
    · omega
    · subst ei
      rw [upd_same, upd_ne _ _ _ ej] at e
      have := (hlt j (((hk j).1 hj).resolve_right ej)).2
      omega
    · subst ej
      rw [upd_same, upd_ne _ _ _ ei] at e
      have := (hlt i (((hk i).1 hi).resolve_right ei)).2
      omega
    · rw [upd_ne _ _ _ ei, upd_ne _ _ _ ej] at e
      exact h.rne i j (((hk i).1 hi).resolve_right ei) (((hk j).1 hj).resolve_right ej) e
  · by_cases e : i = n
    · subst e; rw [upd_same]; exact hm
    · rw [upd_ne _ _ _ e]; exact h.few i (((hk i).1 hi).resolve_right e)
  · have hs := h.below.size
    by_cases e : i = n
    · subst e; rw [upd_same, upd_same]; exact ⟨by omega, by omega⟩
    · rw [upd_ne _ _ _ e, upd_ne _ _ _ e]; exact h.old i (((hk i).1 hi).resolve_right e)
  · have hs := h.below.size
    have hb1 := hb.size
    have e1 := (h.below.trans (hb.mono hs)).setCell (p := ⟨w.heap.size, n, none⟩) (Nat.le_refl _) (.pointer (some ⟨g, 0, none⟩))
    exact (e1.trans (hb3.mono (by omega))).setCell (p := ⟨w.heap.size + 1, n, none⟩) (Nat.le_succ _) _

/-- One pair has turned. -/
theorem Pls.turn (h : Pls wh w k qs gs rs ts m Z) {n : Nat} (hn : n < k) {t : Tr} (hB : Bm wh Z' (qs n) (gs n) (rs n) t) (hT : Two (gs n) (rs n) Z Z') (hm : t.many ≤ m + 1) : Pls wh w k qs gs rs (upd ts n t) (m + 1) Z' := by
  obtain ⟨a, hg, _⟩ := (h.maps n hn).own.cells
  obtain ⟨_, _, hr, _⟩ := (h.maps n hn).ref
  refine ⟨(blk_stays hg hr hT h.own (fun e => absurd e (by decide)) (fun e => absurd e (by decide))).trans h.own, (blk_stays hg hr hT h.ref (fun e => absurd e (by decide)) (fun e => absurd e (by decide))).trans h.ref, fun i hi => ?_, h.gne, h.rne, fun i hi => ?_, h.old, ?_⟩
  · by_cases e : i = n
    · subst e; rw [upd_same]; exact hB
    · rw [upd_ne _ _ _ e]
      exact Bm.other (h.maps i hi) hg hr hT (fun e' => e (h.gne i n hi hn e')) (fun e' => e (h.rne i n hi hn e'))
  · by_cases e : i = n
    · subst e; rw [upd_same]; exact hm
    · rw [upd_ne _ _ _ e]; exact Nat.le_succ_of_le (h.few i hi)
  · have hs := h.below.size
    have h1 := h.old n hn
    refine h.below.trans (Fr.below hT (fun k hk => ?_) hs)
    rcases hk with rfl | rfl
    · exact h1.1
    · exact h1.2
end
end Go.Proofs.Ytchmlephgkimcaa
