/- Store: a tree in memory; high, many, with. -/
import Derived.Test.YtchmlephgkimcaaStM
import Derived.Test.YtchmlephgkimcaaFork
import Derived.Test.YtchmlephgkimcaaProg
import Derived.Deep.Cut
set_option linter.unusedSimpArgs false
set_option linter.unusedVariables false
namespace Go.Proofs.Ytchmlephgkimcaa
open Go.RowKit Go.Kp Go.St
attribute [local go_sem high] Kp.run_min2 Kp.run_max2

abbrev Tr := T Int Int
abbrev nodeC (k v : Int) (pl pr : Option Addr) (h m : Nat) : Array Value := #[.int .i64 k, .int .i64 v, .pointer pl, .pointer pr, .int .i64 h, .int .i64 m]
/-- The tree that a pointer leads to. -/
def TreeAt (w : World) : Tr → Option Addr → Prop
  | .nil, p => p = none
  | .node l k v r, p => ∃ b pl pr, p = some ⟨b, 0, none⟩ ∧ Blk w b 100 (nodeC k v pl pr (T.node l k v r).high (T.node l k v r).many) ∧ TreeAt w l pl ∧ TreeAt w r pr
theorem TreeAt.same {w w' : World} (hk : ∀ b cs, Blk w b 100 cs → w'.heap[b]? = w.heap[b]?) : ∀ {t : Tr} {p : Option Addr}, TreeAt w t p → TreeAt w' t p
  | .nil, p, h => h
  | .node l k v r, p, ⟨b, pl, pr, h1, h2, h3, h4⟩ => ⟨b, pl, pr, h1, (hk b _ h2).trans h2, TreeAt.same hk h3, TreeAt.same hk h4⟩
theorem TreeAt.below {w w' : World} {t : Tr} {p : Option Addr} (h : TreeAt w t p) (hb : Below w.heap.size w w') : TreeAt w' t p := h.same fun b _ hB => hb.block b hB.lt
theorem TreeAt.form {w : World} {t : Tr} {p : Option Addr} (h : TreeAt w t p) : p = none ∧ t = .nil ∨ ∃ b, p = some ⟨b, 0, none⟩ ∧ b < w.heap.size ∧ t.isNil = false := by
  cases t with
  | nil => exact .inl ⟨h, rfl⟩
  | node l k v r => obtain ⟨b, pl, pr, h1, h2, _⟩ := h; exact .inr ⟨b, h1, h2.lt, rfl⟩
/-- Returned: a pointer to this tree. -/
def PtrR (t : Tr) (w : World) (e : Ending) (w' : World) : Prop := ∃ p, e = .returned (.pointer p) ∧ TreeAt w' t p ∧ Below w.heap.size w w'

theorem high_any (t : Tr) (p : Option Addr) (w : World) (h : TreeAt w t p) : Calls Try.prog 74 #[.pointer p] w fun e w' => e = .returned (.int .i64 t.high) ∧ w' = w := by
  cases t with
  | nil =>
    obtain rfl : p = none := h
    go_enter Try.func74, Try.ntmps74
    go_wp2
    go_returns
    exact ⟨rfl, rfl⟩
  | node l k v r =>
    obtain ⟨b, pl, pr, rfl, hB, _⟩ := h
    have c := hB.cell 4
    go_enter Try.func74, Try.ntmps74
    go_wp2
    go_returns
    exact ⟨rfl, rfl⟩
theorem many_any (t : Tr) (p : Option Addr) (w : World) (h : TreeAt w t p) : Calls Try.prog 62 #[.pointer p] w fun e w' => e = .returned (.int .i64 t.many) ∧ w' = w := by
  cases t with
  | nil =>
    obtain rfl : p = none := h
    go_enter Try.func62, Try.ntmps62
    go_wp2
    go_returns
    exact ⟨rfl, rfl⟩
  | node l k v r =>
    obtain ⟨b, pl, pr, rfl, hB, _⟩ := h
    have c := hB.cell 5
    go_enter Try.func62, Try.ntmps62
    go_wp2
    go_returns
    exact ⟨rfl, rfl⟩

set_option maxHeartbeats 1000000 in
theorem with_any (k v : Int) (l r : Tr) (pl pr : Option Addr) (w : World) (hl : TreeAt w l pl) (hr : TreeAt w r pr) (hN : l.many + r.many ≤ 4611686018427387904) :
    Calls Try.prog 64 #[.int .i64 k, .int .i64 v, .pointer pl, .pointer pr] w (PtrR (.node l k v r) w) := by
  have HL := Lib.hid hl
  have HR := Lib.hid hr
  have h1 := l.high_le
  have h2 := r.high_le
  clear hl hr
  go_enter Try.func64, Try.ntmps64
  go_wp2_with fail
  refine (high_any l _ _ HL.out).mono ?_
  rintro en w_ ⟨rfl, hw_⟩
  obtain rfl : w = w_ := hw_.symm
  go_wp2_with fail
  refine (high_any r _ _ HR.out).mono ?_
  rintro en w_ ⟨rfl, hw_⟩
  obtain rfl : w = w_ := hw_.symm
  go_wp2_with fail
  refine (many_any l _ _ HL.out).mono ?_
  rintro en w_ ⟨rfl, hw_⟩
  obtain rfl : w = w_ := hw_.symm
  go_wp2_with fail
  refine (many_any r _ _ HR.out).mono ?_
  rintro en w_ ⟨rfl, hw_⟩
  obtain rfl : w = w_ := hw_.symm
  go_wp2_with fail
  go_returns
  refine ⟨_, rfl, ⟨w.heap.size, pl, pr, rfl, ?_, HL.out.below (by go_grown), HR.out.below (by go_grown)⟩, by go_grown⟩
  have e1 : (max (l.high : Int) r.high + 1) = (((T.node l k v r).high : Nat) : Int) := by simp only [T.high]; omega
  have e2 : ((l.many : Int) + r.many + 1) = (((T.node l k v r).many : Nat) : Int) := by simp only [T.many]; omega
  rw [e1, e2]
  exact heap_at rfl
end Go.Proofs.Ytchmlephgkimcaa
