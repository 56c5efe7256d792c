/- Store: All, From, Back of a map; the law's walk. -/
import Derived.Test.YtbkofiflfcfjfaaSqO
set_option linter.unusedSimpArgs false
set_option linter.unusedVariables false
namespace Go.Proofs.Ytbkofiflfcfjfaa.Px
open Go.RowKit Go.Kp Go.St

/-- A walk: a function value of a map, a way, and what is left out. -/
structure Wk (S : World → Prop) (id : Nat) (caps : Array Value) (p : Kx → Bool) (back : Bool) (g bm bb bo : Nat) (W : World) : Prop where
  bm : Blk W bm 108 #[.pointer (some ⟨g, 0, none⟩)]
  bb : Blk W bb 4 #[.bool back]
  bo : Blk W bo 133 #[.func (.func id) #[] caps]
  so : S W
  out : OutF S id caps p
abbrev wkV (bm bb bo : Nat) : Value := .func (.func 68) #[] #[.pointer (some ⟨bm, 0, none⟩), .pointer (some ⟨bb, 0, none⟩), .pointer (some ⟨bo, 0, none⟩)]
theorem Wk.below {S : World → Prop} {id : Nat} {caps : Array Value} {p : Kx → Bool} {back : Bool} {g bm bb bo : Nat} {W W' : World} (h : Wk S id caps p back g bm bb bo W) (hS : ∀ w w', S w → Below w.heap.size w w' → S w') (hb : Below W.heap.size W W') : Wk S id caps p back g bm bb bo W' :=
  ⟨h.bm.below hb, h.bb.below hb, h.bo.below hb, hS _ _ h.so hb, h.out⟩

theorem walk_any {S : World → Prop} {id : Nat} {caps : Array Value} {p : Kx → Bool} (hO : OutF S id caps p) (back : Bool) (g : Nat) (w : World) (hS : ∀ w', Below w.heap.size w w' → S w') :
    Calls Try.prog 64 #[.pointer (some ⟨g, 0, none⟩), .bool back, .func (.func id) #[] caps] w fun e w' => ∃ bm bb bo, e = .returned (wkV bm bb bo) ∧ Wk S id caps p back g bm bb bo w' ∧ Below w.heap.size w w' := by
  have HO := Lib.hid hO
  have HS := Lib.hid hS
  clear hO hS
  go_enter Try.func64, Try.ntmps64
  go_wp2_with fail
  go_returns
  exact ⟨_, _, _, rfl, ⟨by simp (disch := (first | omega | (simp only [World.size_alloc, World.size_setCell, World.size_drew] <;> omega) | fail)) only [Blk, heap_old, heap_at, heap_set_same, heap_set_ne, heap_drew', Option.map_some, putO_cells], by simp (disch := (first | omega | (simp only [World.size_alloc, World.size_setCell, World.size_drew] <;> omega) | fail)) only [Blk, heap_old, heap_at, heap_set_same, heap_set_ne, heap_drew', Option.map_some, putO_cells], by simp (disch := (first | omega | (simp only [World.size_alloc, World.size_setCell, World.size_drew] <;> omega) | fail)) only [Blk, heap_old, heap_at, heap_set_same, heap_set_ne, heap_drew', Option.map_some, putO_cells], HS.out _ (by go_grown), HO.out⟩, by go_grown⟩

theorem all_out : OutF (fun _ => True) 65 #[] (fun _ => false) := by
  refine ⟨fun k w => by kernel_rfl, fun k w _ => ?_⟩
  go_enter Try.func65, Try.ntmps65
  go_wp2
  go_returns
  exact ⟨rfl, by go_grown⟩
theorem All_any (g : Nat) (w : World) : Calls Try.prog 56 #[.pointer (some ⟨g, 0, none⟩)] w fun e w' => ∃ bm bb bo, e = .returned (wkV bm bb bo) ∧ Wk (fun _ => True) 65 #[] (fun _ => false) false g bm bb bo w' ∧ Below w.heap.size w w' := by
  go_enter Try.func56, Try.ntmps56
  go_wp2_with fail
  refine (walk_any all_out false g _ (fun _ _ => trivial)).mono ?_
  rintro en w1 ⟨bm, bb, bo, rfl, hW, hb⟩
  have HW := Lib.hid hW
  have HB := Lib.hid hb
  clear hW hb
  go_wp2_with fail
  go_returns
  exact ⟨_, _, _, rfl, HW.out, HB.out⟩

end Go.Proofs.Ytbkofiflfcfjfaa.Px
