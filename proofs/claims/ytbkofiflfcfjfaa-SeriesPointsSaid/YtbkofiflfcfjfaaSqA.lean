/- Store: a tree in memory; high, many, with. -/
import Derived.Test.YtbkofiflfcfjfaaStM
import Derived.Test.YtbkofiflfcfjfaaFork
import Derived.Test.YtbkofiflfcfjfaaProg
import Derived.Deep.Cut
set_option linter.unusedSimpArgs false
set_option linter.unusedVariables false
namespace Go.Proofs.Ytbkofiflfcfjfaa.Px
open Go.RowKit Go.Kp Go.St
attribute [local go_sem high] Kp.run_min2 Kp.run_max2

/-- A window of a key. -/
structure At where
  (k : ByteArray) (s e : Int)
/-- A pane. -/
structure Pn where
  (key : ByteArray) (s e kind nth count sum min max : Int)
abbrev Pn.zero : Pn := ⟨⟨#[]⟩, 0, 0, 0, 0, 0, 0, 0, 0⟩
abbrev Kx := At
abbrev Vx := Pn
abbrev Tr := T Kx Vx
abbrev nodeC (k : Kx) (v : Vx) (pl pr : Option Addr) (h m : Nat) : Array Value := #[.string k.k, .int .i64 k.s, .int .i64 k.e, .string v.key, .int .i64 v.s, .int .i64 v.e, .int .i64 v.kind, .int .i64 v.nth, .int .i64 v.count, .int .i64 v.sum, .int .i64 v.min, .int .i64 v.max, .pointer pl, .pointer pr, .int .i64 h, .int .i64 m]
/-- The tree that a pointer leads to. -/
def TreeAt (w : World) : Tr → Option Addr → Prop
  | .nil, p => p = none
  | .node l k v r, p => ∃ b pl pr, p = some ⟨b, 0, none⟩ ∧ Blk w b 135 (nodeC k v pl pr (T.node l k v r).high (T.node l k v r).many) ∧ TreeAt w l pl ∧ TreeAt w r pr
theorem TreeAt.same {w w' : World} (hk : ∀ b cs, Blk w b 135 cs → w'.heap[b]? = w.heap[b]?) : ∀ {t : Tr} {p : Option Addr}, TreeAt w t p → TreeAt w' t p
  | .nil, p, h => h
  | .node l k v r, p, ⟨b, pl, pr, h1, h2, h3, h4⟩ => ⟨b, pl, pr, h1, (hk b _ h2).trans h2, TreeAt.same hk h3, TreeAt.same hk h4⟩
theorem TreeAt.below {w w' : World} {t : Tr} {p : Option Addr} (h : TreeAt w t p) (hb : Below w.heap.size w w') : TreeAt w' t p := h.same fun b _ hB => hb.block b hB.lt
theorem TreeAt.form {w : World} {t : Tr} {p : Option Addr} (h : TreeAt w t p) : p = none ∧ t = .nil ∨ ∃ b, p = some ⟨b, 0, none⟩ ∧ b < w.heap.size ∧ t.isNil = false := by
  cases t with
  | nil => exact .inl ⟨h, rfl⟩
  | node l k v r => obtain ⟨b, pl, pr, h1, h2, _⟩ := h; exact .inr ⟨b, h1, h2.lt, rfl⟩
/-- Returned: a pointer to this tree. -/
def PtrR (t : Tr) (w : World) (e : Ending) (w' : World) : Prop := ∃ p, e = .returned (.pointer p) ∧ TreeAt w' t p ∧ Below w.heap.size w w'

theorem high_any (t : Tr) (p : Option Addr) (w : World) (h : TreeAt w t p) : Calls Try.prog 69 #[.pointer p] w fun e w' => e = .returned (.int .i64 t.high) ∧ w' = w := by
  cases t with
  | nil =>
    obtain rfl : p = none := h
    go_enter Try.func69, Try.ntmps69
    go_wp2
    go_returns
    exact ⟨rfl, rfl⟩
  | node l k v r =>
    obtain ⟨b, pl, pr, rfl, hB, _⟩ := h
    have c := hB.cell 14
    go_enter Try.func69, Try.ntmps69
    go_wp2
    go_returns
    exact ⟨rfl, rfl⟩
theorem many_any (t : Tr) (p : Option Addr) (w : World) (h : TreeAt w t p) : Calls Try.prog 70 #[.pointer p] w fun e w' => e = .returned (.int .i64 t.many) ∧ w' = w := by
  cases t with
  | nil =>
    obtain rfl : p = none := h
    go_enter Try.func70, Try.ntmps70
    go_wp2
    go_returns
    exact ⟨rfl, rfl⟩
  | node l k v r =>
    obtain ⟨b, pl, pr, rfl, hB, _⟩ := h
    have c := hB.cell 15
    go_enter Try.func70, Try.ntmps70
    go_wp2
    go_returns
    exact ⟨rfl, rfl⟩

abbrev keyC (k : Kx) : Array Value := #[.string k.k, .int .i64 k.s, .int .i64 k.e]
abbrev valC (v : Vx) : Array Value := #[.string v.key, .int .i64 v.s, .int .i64 v.e, .int .i64 v.kind, .int .i64 v.nth, .int .i64 v.count, .int .i64 v.sum, .int .i64 v.min, .int .i64 v.max]
theorem TreeAt.drew {w : World} {t : Tr} {p : Option Addr} (h : TreeAt w t p) : TreeAt w.drew t p := TreeAt.same (w := w) (w' := w.drew) (fun _ _ _ => rfl) h
theorem boxed {w : World} {k : Kx} {v : Vx} : Blk ((w.alloc (.cells (keyC k) 112 (0, 0))).alloc (.cells (valC v) 92 (0, 0))) w.heap.size 112 (keyC k) ∧ Blk ((w.alloc (.cells (keyC k) 112 (0, 0))).alloc (.cells (valC v) 92 (0, 0))) (w.heap.size + 1) 92 (valC v) ∧ Below w.heap.size w ((w.alloc (.cells (keyC k) 112 (0, 0))).alloc (.cells (valC v) 92 (0, 0))) :=
  ⟨(heap_old (by simp)).trans (heap_at rfl), heap_at (by simp), by go_grown⟩

set_option maxRecDepth 100000 in
set_option maxHeartbeats 4000000 in
theorem with_any (k : Kx) (v : Vx) (l r : Tr) (pl pr : Option Addr) (wA : World) (hl : TreeAt wA l pl) (hr : TreeAt wA r pr) (hN : l.many + r.many ≤ 4611686018427387904) :
    Calls Try.prog 66 #[.agg #[.string k.k, .int .i64 k.s, .int .i64 k.e], .agg #[.string v.key, .int .i64 v.s, .int .i64 v.e, .int .i64 v.kind, .int .i64 v.nth, .int .i64 v.count, .int .i64 v.sum, .int .i64 v.min, .int .i64 v.max], .pointer pl, .pointer pr] wA (PtrR (.node l k v r) wA) := by
  have h1 := l.high_le
  have h2 := r.high_le
  have HLA := Lib.hid hl
  have HRA := Lib.hid hr
  clear hl hr
  go_enter Try.func66, Try.ntmps66
  go_upto_region 1 with (fail)
  refine wp_at (fun Z => Blk Z wA.heap.size 112 (keyC k) ∧ Blk Z (wA.heap.size + 1) 92 (valC v) ∧ Below wA.heap.size wA Z) boxed ?_
  rintro w ⟨hKb, hVb, hBA⟩
  have kc := hKb.cell
  have vc := hVb.cell
  have kl := hKb.lt
  have vl := hVb.lt
  have HL := Lib.hid (HLA.out.below hBA)
  have HR := Lib.hid (HRA.out.below hBA)
  have HBA := Lib.hid hBA
  clear hKb hVb hBA HLA HRA
  (refine region_keep (fun x => x < w.heap.size) 16 [(0, true), (1, true), (2, true), (3, true), (4, true), (6, true), (10, true), (12, true), (5, false), (7, false), (8, true), (9, true), (11, false), (13, false), (14, true), (15, true)] (by kernel_rfl) (fun _ _ d _ _ h => by cases d <;> exact h) (by kernel_rfl) ?_; simp only [withOps, List.getElem?_toArray, List.getElem?_cons_zero, List.getElem?_cons_succ, List.drop_succ_cons, List.drop_zero])
  (iterate 8 (refine keep_quiet (v := ?_) rfl ?_ ?_; rotate_left; (focus (intro w' hw'; go_simp; (try with_reducible rfl); done)); try simp only [Act.put, List.setIfInBounds_toArray, List.set_cons_zero, List.set_cons_succ]))
  (with_reducible refine plan_loud (fun K hK => ?_))
  go_simp
  refine (high_any l _ _ HL.out.drew).mono ?_
  rintro en w_ ⟨rfl, hw_⟩
  obtain rfl : w.drew = w_ := hw_.symm
  refine hK _ _ (Keep.refl _ _) ?_
  clear hK K
  (try simp only [Act.put, List.setIfInBounds_toArray, List.set_cons_zero, List.set_cons_succ])
  (with_reducible refine plan_loud (fun K hK => ?_))
  go_simp
  refine (high_any r _ _ HR.out.drew).mono ?_
  rintro en w_ ⟨rfl, hw_⟩
  obtain rfl : w.drew = w_ := hw_.symm
  refine hK _ _ (Keep.refl _ _) ?_
  clear hK K
  (try simp only [Act.put, List.setIfInBounds_toArray, List.set_cons_zero, List.set_cons_succ])
  (iterate 2 (refine keep_quiet (v := ?_) rfl ?_ ?_; rotate_left; (focus (intro w' hw'; go_simp; (try with_reducible rfl); done)); try simp only [Act.put, List.setIfInBounds_toArray, List.set_cons_zero, List.set_cons_succ]))
  (with_reducible refine plan_loud (fun K hK => ?_))
  go_simp
  refine (many_any l _ _ HL.out.drew).mono ?_
  rintro en w_ ⟨rfl, hw_⟩
  obtain rfl : w.drew = w_ := hw_.symm
  refine hK _ _ (Keep.refl _ _) ?_
  clear hK K
  (try simp only [Act.put, List.setIfInBounds_toArray, List.set_cons_zero, List.set_cons_succ])
  (with_reducible refine plan_loud (fun K hK => ?_))
  go_simp
  refine (many_any r _ _ HR.out.drew).mono ?_
  rintro en w_ ⟨rfl, hw_⟩
  obtain rfl : w.drew = w_ := hw_.symm
  refine hK _ _ (Keep.refl _ _) ?_
  clear hK K
  (try simp only [Act.put, List.setIfInBounds_toArray, List.set_cons_zero, List.set_cons_succ])
  (iterate 2 (refine keep_quiet (v := ?_) rfl ?_ ?_; rotate_left; (focus (intro w' hw'; go_simp; (try with_reducible rfl); done)); try simp only [Act.put, List.setIfInBounds_toArray, List.set_cons_zero, List.set_cons_succ]))
  (with_reducible refine plan_end ?_)
  (try simp only [Act.put, List.setIfInBounds_toArray, List.set_cons_zero, List.set_cons_succ])
  go_wp2_with fail
  go_returns
  have hBA := HBA.out
  refine ⟨_, rfl, ⟨w.heap.size, pl, pr, rfl, ?_, HL.out.below (by go_grown), HR.out.below (by go_grown)⟩, by go_grown⟩
  have e1 : (max (l.high : Int) r.high + 1) = (((T.node l k v r).high : Nat) : Int) := by simp only [T.high]; omega
  have e2 : ((l.many : Int) + r.many + 1) = (((T.node l k v r).many : Nat) : Int) := by simp only [T.many]; omega
  rw [e1, e2]
  exact heap_at rfl
end Go.Proofs.Ytbkofiflfcfjfaa.Px
