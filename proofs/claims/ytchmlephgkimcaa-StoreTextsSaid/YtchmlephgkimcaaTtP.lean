/- Store: All, From, Back of a map; the law's walk. -/
import Derived.Test.YtchmlephgkimcaaTtO
set_option linter.unusedSimpArgs false
set_option linter.unusedVariables false
namespace Go.Proofs.Ytchmlephgkimcaa.Tx
open Go.RowKit Go.Kp Go.St

/-- A walk: a function value of a map, a way, and what is left out. -/
structure Wk (S : World → Prop) (id : Nat) (caps : Array Value) (p : Kx → Bool) (back : Bool) (g bm bb bo : Nat) (W : World) : Prop where
  bm : Blk W bm 50 #[.pointer (some ⟨g, 0, none⟩)]
  bb : Blk W bb 4 #[.bool back]
  bo : Blk W bo 95 #[.func (.func id) #[] caps]
  so : S W
  out : OutF S id caps p
abbrev wkV (bm bb bo : Nat) : Value := .func (.func 71) #[] #[.pointer (some ⟨bm, 0, none⟩), .pointer (some ⟨bb, 0, none⟩), .pointer (some ⟨bo, 0, none⟩)]
theorem Wk.below {S : World → Prop} {id : Nat} {caps : Array Value} {p : Kx → Bool} {back : Bool} {g bm bb bo : Nat} {W W' : World} (h : Wk S id caps p back g bm bb bo W) (hS : Lasting S) (hb : Below W.heap.size W W') : Wk S id caps p back g bm bb bo W' :=
  ⟨h.bm.below hb, h.bb.below hb, h.bo.below hb, hS _ _ h.so hb, h.out⟩

theorem walk_any {S : World → Prop} {id : Nat} {caps : Array Value} {p : Kx → Bool} (hO : OutF S id caps p) (back : Bool) (g : Nat) (w : World) (hS : ∀ w', Below w.heap.size w w' → S w') :
    Calls Try.prog 54 #[.pointer (some ⟨g, 0, none⟩), .bool back, .func (.func id) #[] caps] w fun e w' => ∃ bm bb bo, e = .returned (wkV bm bb bo) ∧ Wk S id caps p back g bm bb bo w' ∧ Below w.heap.size w w' := by
  have HO := Lib.hid hO
  have HS := Lib.hid hS
  clear hO hS
  go_enter Try.func54, Try.ntmps54
  go_wp2_with fail
  go_returns
  exact ⟨_, _, _, rfl, ⟨by simp (disch := (first | omega | (simp only [World.size_alloc, World.size_setCell, World.size_drew] <;> omega) | fail)) only [Blk, heap_old, heap_at, heap_set_same, heap_set_ne, heap_drew', Option.map_some, putO_cells], by simp (disch := (first | omega | (simp only [World.size_alloc, World.size_setCell, World.size_drew] <;> omega) | fail)) only [Blk, heap_old, heap_at, heap_set_same, heap_set_ne, heap_drew', Option.map_some, putO_cells], by simp (disch := (first | omega | (simp only [World.size_alloc, World.size_setCell, World.size_drew] <;> omega) | fail)) only [Blk, heap_old, heap_at, heap_set_same, heap_set_ne, heap_drew', Option.map_some, putO_cells], HS.out _ (by go_grown), HO.out⟩, by go_grown⟩

theorem all_out : OutF (fun _ => True) 55 #[] (fun _ => false) := by
  refine ⟨fun k w => by kernel_rfl, fun k w _ => ?_⟩
  go_enter Try.func55, Try.ntmps55
  go_wp2
  go_returns
  exact ⟨rfl, Below.refl _ _⟩
theorem All_any (g : Nat) (w : World) : Calls Try.prog 20 #[.pointer (some ⟨g, 0, none⟩)] w fun e w' => ∃ bm bb bo, e = .returned (wkV bm bb bo) ∧ Wk (fun _ => True) 55 #[] (fun _ => false) false g bm bb bo w' ∧ Below w.heap.size w w' := by
  go_enter Try.func20, Try.ntmps20
  go_wp2_with fail
  refine (walk_any all_out false g _ (fun _ _ => trivial)).mono ?_
  rintro en w1 ⟨bm, bb, bo, rfl, hW, hb⟩
  have HW := Lib.hid hW
  have HB := Lib.hid hb
  clear hW hb
  go_wp2_with fail
  go_returns
  exact ⟨_, _, _, rfl, HW.out, HB.out⟩

/-- What From and Back lean on: the map's order. -/
def SO (S : World → Prop) (id : Nat) (caps : Array Value) (g xm xk : Nat) (key : Kx) (w : World) : Prop :=
  S w ∧ Blk w xm 50 #[.pointer (some ⟨g, 0, none⟩)] ∧ Blk w xk 9 #[.string key] ∧ ∃ a, Blk w g 91 #[.func (.func id) #[] caps, .pointer a]
theorem SO.lasting {S : World → Prop} (hS : Lasting S) (id : Nat) (caps : Array Value) (g xm xk : Nat) (key : Kx) : Lasting (SO S id caps g xm xk key) := by
  rintro w w' ⟨h1, h2, h3, a, h4⟩ hb
  exact ⟨hS _ _ h1 hb, h2.below hb, h3.below hb, a, h4.below hb⟩

set_option maxRecDepth 100000 in
set_option maxHeartbeats 4000000 in
theorem from_out {S : World → Prop} {id : Nat} {caps : Array Value} {c : Kx → Kx → Int} (hC : CmpF S id caps c) (hL : Lasting S) (g xm xk : Nat) (key : Kx) :
    OutF (SO S id caps g xm xk key) 56 #[.pointer (some ⟨xm, 0, none⟩), .pointer (some ⟨xk, 0, none⟩)] (fun k => decide (c k key < 0)) := by
  refine ⟨fun k w => by kernel_rfl, fun k w hs => ?_⟩
  obtain ⟨h1, h2, h3, a, h4⟩ := hs
  have HS := Lib.hid h1
  have c2 := h2.cell
  have q2 := h2.lt
  have c3 := h3.cell
  have q3 := h3.lt
  have c4 := h4.cell
  have q4 := h4.lt
  have HL := Lib.hid hL
  obtain ⟨hcf, hcc⟩ := hC
  have HCC := Lib.hid hcc
  clear hcc h1 h2 h3 h4 hL
  go_enter Try.func56, Try.ntmps56
  go_wp2_with fail
  (refine region_keep (fun x => x < w.heap.size) 6 [(0, true), (1, true), (2, true), (3, true), (4, true), (5, true)] (by kernel_rfl) (fun _ _ d _ _ h => by cases d <;> exact h) (by kernel_rfl) ?_; simp only [withOps, List.getElem?_toArray, List.getElem?_cons_zero, List.getElem?_cons_succ, List.drop_succ_cons, List.drop_zero])
  (iterate 6 (refine keep_quiet (v := ?_) rfl ?_ ?_; rotate_left; (focus (intro w' hw'; go_simp; (try with_reducible rfl); done)); try simp only [Act.put, List.setIfInBounds_toArray, List.set_cons_zero, List.set_cons_succ]))
  (with_reducible refine plan_end ?_)
  (try simp only [Act.put, List.setIfInBounds_toArray, List.set_cons_zero, List.set_cons_succ])
  go_wp2_with fail
  refine (HCC.out k key w.drew (HL.out.drew HS.out)).mono ?_
  rintro en w_ ⟨rfl, hw_⟩
  obtain rfl : w.drew = w_ := hw_.symm
  generalize hX : c k key = X at *
  go_wp2_with fail
  go_returns
  subst hX
  exact ⟨rfl, (Below.refl _ _).drew⟩
set_option maxRecDepth 100000 in
set_option maxHeartbeats 4000000 in
theorem back_out {S : World → Prop} {id : Nat} {caps : Array Value} {c : Kx → Kx → Int} (hC : CmpF S id caps c) (hL : Lasting S) (g xm xk : Nat) (key : Kx) :
    OutF (SO S id caps g xm xk key) 57 #[.pointer (some ⟨xm, 0, none⟩), .pointer (some ⟨xk, 0, none⟩)] (fun k => decide (0 < c k key)) := by
  refine ⟨fun k w => by kernel_rfl, fun k w hs => ?_⟩
  obtain ⟨h1, h2, h3, a, h4⟩ := hs
  have HS := Lib.hid h1
  have c2 := h2.cell
  have q2 := h2.lt
  have c3 := h3.cell
  have q3 := h3.lt
  have c4 := h4.cell
  have q4 := h4.lt
  have HL := Lib.hid hL
  obtain ⟨hcf, hcc⟩ := hC
  have HCC := Lib.hid hcc
  clear hcc h1 h2 h3 h4 hL
  go_enter Try.func57, Try.ntmps57
  go_wp2_with fail
  (refine region_keep (fun x => x < w.heap.size) 6 [(0, true), (1, true), (2, true), (3, true), (4, true), (5, true)] (by kernel_rfl) (fun _ _ d _ _ h => by cases d <;> exact h) (by kernel_rfl) ?_; simp only [withOps, List.getElem?_toArray, List.getElem?_cons_zero, List.getElem?_cons_succ, List.drop_succ_cons, List.drop_zero])
  (iterate 6 (refine keep_quiet (v := ?_) rfl ?_ ?_; rotate_left; (focus (intro w' hw'; go_simp; (try with_reducible rfl); done)); try simp only [Act.put, List.setIfInBounds_toArray, List.set_cons_zero, List.set_cons_succ]))
  (with_reducible refine plan_end ?_)
  (try simp only [Act.put, List.setIfInBounds_toArray, List.set_cons_zero, List.set_cons_succ])
  go_wp2_with fail
  refine (HCC.out k key w.drew (HL.out.drew HS.out)).mono ?_
  rintro en w_ ⟨rfl, hw_⟩
  obtain rfl : w.drew = w_ := hw_.symm
  generalize hX : c k key = X at *
  go_wp2_with fail
  go_returns
  subst hX
  exact ⟨rfl, (Below.refl _ _).drew⟩

set_option maxHeartbeats 1000000 in
theorem From_any {S : World → Prop} {id : Nat} {caps : Array Value} {c : Kx → Kx → Int} {w : World} {g : Nat} {t : Tr} (hM : MapAt S id caps c w g t) (key : Kx) :
    Calls Try.prog 21 #[.pointer (some ⟨g, 0, none⟩), .string key] w fun e w' => ∃ bm bb bo xm xk, e = .returned (wkV bm bb bo) ∧ Wk (SO S id caps g xm xk key) 56 #[.pointer (some ⟨xm, 0, none⟩), .pointer (some ⟨xk, 0, none⟩)] (fun k => decide (c k key < 0)) false g bm bb bo w' ∧ Below w.heap.size w w' := by
  have HM := Lib.hid hM
  clear hM
  go_enter Try.func21, Try.ntmps21
  go_upto_region 1 with (fail)
  refine wp_at (fun Z => Blk Z w.heap.size 50 #[.pointer (some ⟨g, 0, none⟩)] ∧ Blk Z (w.heap.size + 1) 9 #[.string key] ∧ Below w.heap.size w Z) ⟨by simp (disch := (first | omega | (simp only [World.size_alloc, World.size_setCell, World.size_drew] <;> omega) | fail)) only [Blk, heap_old, heap_at, heap_set_same, heap_set_ne, heap_drew', Option.map_some, putO_cells], by simp (disch := (first | omega | (simp only [World.size_alloc, World.size_setCell, World.size_drew] <;> omega) | fail)) only [Blk, heap_old, heap_at, heap_set_same, heap_set_ne, heap_drew', Option.map_some, putO_cells], by go_grown⟩ ?_
  rintro w2 ⟨A, B, hb⟩
  have HA := Lib.hid A
  have HB := Lib.hid B
  have HBb := Lib.hid hb
  have cA := A.cell
  have qA := A.lt
  have hSO : Hid (SO S id caps g w.heap.size (w.heap.size + 1) key w2) := Lib.hid ⟨HM.out.last _ _ HM.out.holds hb, A, B, by
    obtain ⟨a, h1, _⟩ := HM.out.cells
    exact ⟨a, h1.below hb⟩⟩
  clear A B hb
  go_wp2_with fail
  refine (walk_any (from_out HM.out.cmp HM.out.last g w.heap.size (w.heap.size + 1) key) false g _ (fun w' hb => SO.lasting HM.out.last _ _ _ _ _ _ _ _ hSO.out hb)).mono ?_
  rintro en w1 ⟨bm, bb, bo, rfl, hW, hb⟩
  have HW := Lib.hid hW
  have HB1 := Lib.hid (bnext HBb.out hb)
  clear hW hb
  go_wp2_with fail
  go_returns
  exact ⟨_, _, _, _, _, rfl, HW.out, HB1.out⟩

set_option maxHeartbeats 1000000 in
theorem Back_any {S : World → Prop} {id : Nat} {caps : Array Value} {c : Kx → Kx → Int} {w : World} {g : Nat} {t : Tr} (hM : MapAt S id caps c w g t) (key : Kx) :
    Calls Try.prog 22 #[.pointer (some ⟨g, 0, none⟩), .string key] w fun e w' => ∃ bm bb bo xm xk, e = .returned (wkV bm bb bo) ∧ Wk (SO S id caps g xm xk key) 57 #[.pointer (some ⟨xm, 0, none⟩), .pointer (some ⟨xk, 0, none⟩)] (fun k => decide (0 < c k key)) true g bm bb bo w' ∧ Below w.heap.size w w' := by
  have HM := Lib.hid hM
  clear hM
  go_enter Try.func22, Try.ntmps22
  go_upto_region 1 with (fail)
  refine wp_at (fun Z => Blk Z w.heap.size 50 #[.pointer (some ⟨g, 0, none⟩)] ∧ Blk Z (w.heap.size + 1) 9 #[.string key] ∧ Below w.heap.size w Z) ⟨by simp (disch := (first | omega | (simp only [World.size_alloc, World.size_setCell, World.size_drew] <;> omega) | fail)) only [Blk, heap_old, heap_at, heap_set_same, heap_set_ne, heap_drew', Option.map_some, putO_cells], by simp (disch := (first | omega | (simp only [World.size_alloc, World.size_setCell, World.size_drew] <;> omega) | fail)) only [Blk, heap_old, heap_at, heap_set_same, heap_set_ne, heap_drew', Option.map_some, putO_cells], by go_grown⟩ ?_
  rintro w2 ⟨A, B, hb⟩
  have HA := Lib.hid A
  have HB := Lib.hid B
  have HBb := Lib.hid hb
  have cA := A.cell
  have qA := A.lt
  have hSO : Hid (SO S id caps g w.heap.size (w.heap.size + 1) key w2) := Lib.hid ⟨HM.out.last _ _ HM.out.holds hb, A, B, by
    obtain ⟨a, h1, _⟩ := HM.out.cells
    exact ⟨a, h1.below hb⟩⟩
  clear A B hb
  go_wp2_with fail
  refine (walk_any (back_out HM.out.cmp HM.out.last g w.heap.size (w.heap.size + 1) key) true g _ (fun w' hb => SO.lasting HM.out.last _ _ _ _ _ _ _ _ hSO.out hb)).mono ?_
  rintro en w1 ⟨bm, bb, bo, rfl, hW, hb⟩
  have HW := Lib.hid hW
  have HB1 := Lib.hid (bnext HBb.out hb)
  clear hW hb
  go_wp2_with fail
  go_returns
  exact ⟨_, _, _, _, _, rfl, HW.out, HB1.out⟩
end Go.Proofs.Ytchmlephgkimcaa.Tx
