/- Store: take. -/
import Derived.Test.YtchmlephgkimcaaStC
import Derived.Test.YtchmlephgkimcaaStD
set_option linter.unusedSimpArgs false
set_option linter.unusedVariables false
namespace Go.Proofs.Ytchmlephgkimcaa
open Go.RowKit Go.Kp Go.St

set_option maxRecDepth 100000 in
set_option maxHeartbeats 8000000 in
theorem take_lt (S : World → Prop) (hS : Lasting S) (id : Nat) (caps : Array Value) (c : Int → Int → Int) (hc : CmpF S id caps c) (g : Nat) (root : Option Addr) (key : Int) (l r : Tr) (k v : Int) (a : Option Addr) (w : World) (hw : S w) (hg : Blk w g 75 #[.func (.func id) #[] caps, .pointer root])
    (ht : TreeAt w (.node l k v r) a) (hN : (T.node l k v r).many ≤ 4611686018427387000) (h : c key k < 0) (T1 : Tr) (hm1 : T1.many ≤ l.many + 1)
    (ih : ∀ (a : Option Addr) (w : World), S w → Blk w g 75 #[.func (.func id) #[] caps, .pointer root] → TreeAt w l a → Calls Try.prog 63 #[.pointer (some ⟨g, 0, none⟩), .pointer a, .int .i64 key] w (PtrR T1 w)) :
    Calls Try.prog 63 #[.pointer (some ⟨g, 0, none⟩), .pointer a, .int .i64 key] w (PtrR (even k v T1 r) w) := by
  obtain ⟨b, al, ar, rfl, hB, hl, hr⟩ := ht
  have hm : l.many + r.many + 1 ≤ 4611686018427387000 := hN
  have HL := Lib.hid hl
  have HR := Lib.hid hr
  have HG := Lib.hid hg
  have HB := Lib.hid hB
  have HW := Lib.hid hw
  have cL := hB.cell
  have qL := hB.lt
  have cG := hg.cell
  have qG := hg.lt
  obtain ⟨hcf, hcc⟩ := hc
  have HCC := Lib.hid hcc
  have HLa := Lib.hid hS
  clear hl hr hN hB hg hcc hw hS
  generalize hX : c key k = X at *
  have HX := Lib.hid hX
  clear hX
  have HIH := Lib.hid ih
  clear ih
  go_enter Try.func63, Try.ntmps63
  go_wp2_with fail
  (refine region_keep (fun x => x < w.heap.size) 9 [(0, true), (1, true), (2, true), (3, true), (4, true), (5, true), (6, true), (7, true), (8, true)] (by kernel_rfl) (fun _ _ d _ _ h => by cases d <;> exact h) (by kernel_rfl) ?_; simp only [withOps, List.getElem?_toArray, List.getElem?_cons_zero, List.getElem?_cons_succ, List.drop_succ_cons, List.drop_zero])
  (iterate 9 (refine keep_quiet (v := ?_) rfl ?_ ?_; rotate_left; (focus (intro w' hw'; go_simp; (try with_reducible rfl); done)); try simp only [Act.put, List.setIfInBounds_toArray, List.set_cons_zero, List.set_cons_succ]))
  (with_reducible refine plan_end ?_)
  (try simp only [Act.put, List.setIfInBounds_toArray, List.set_cons_zero, List.set_cons_succ])
  go_wp2_with fail
  refine (HCC.out key k w.drew (HLa.out.drew HW.out)).mono ?_
  rintro en w_ ⟨rfl, hw_⟩
  obtain rfl : w.drew = w_ := hw_.symm
  rw [HX.out]
  clear hcf
  go_upto_region 3 with (fail)
  refine wp_at (fun Z => Below w.heap.size w Z) (by go_grown) ?_
  rintro w2 hb2
  have hB2 := HB.out.below hb2
  have hG2 := HG.out.below hb2
  have hW2 := Lib.hid (HLa.out _ _ HW.out hb2)
  have HG := Lib.hid hG2
  have cL := hB2.cell
  have qL := hB2.lt
  have cG := hG2.cell
  have qG := hG2.lt
  have HL := Lib.hid (HL.out.below hb2)
  have HR := Lib.hid (HR.out.below hb2)
  clear hB2 hG2
  go_wp2_with fail
  (refine region_keep (fun x => x < w2.heap.size) 19 [(0, true), (1, true), (2, true), (3, true), (4, true), (5, true), (6, true), (7, true), (8, true), (9, true), (10, true), (11, true), (12, true), (13, true), (15, true), (16, true), (17, true), (18, true), (14, false)] (by kernel_rfl) (fun _ _ d _ _ h => by cases d <;> exact h) (by kernel_rfl) ?_; simp only [withOps, List.getElem?_toArray, List.getElem?_cons_zero, List.getElem?_cons_succ, List.drop_succ_cons, List.drop_zero])
  (iterate 18 (refine keep_quiet (v := ?_) rfl ?_ ?_; rotate_left; (focus (intro w' hw'; go_simp; (try with_reducible rfl); done)); try simp only [Act.put, List.setIfInBounds_toArray, List.set_cons_zero, List.set_cons_succ]))
  (with_reducible refine plan_loud (fun K hK => ?_))
  go_simp
  refine (HIH.out _ w2.drew (HLa.out.drew hW2.out) HG.out HL.out.drew).mono ?_
  rintro en w3 ⟨p3, rfl, hT3, hb3⟩
  refine hK _ _ ((Keep.refl _ _).below hb3 (by intro x h; simpa using h)) ?_
  clear hK K
  have HT3 := Lib.hid hT3
  have HB3 := Lib.hid (hb2.drew.trans (hb3.mono hb2.size))
  have HR := Lib.hid (HR.out.drew.below hb3)
  clear hT3 hb3
  (with_reducible refine plan_end ?_)
  (try simp only [Act.put, List.setIfInBounds_toArray, List.set_cons_zero, List.set_cons_succ])
  go_wp2_with fail
  refine (even_any k v T1 r _ _ _ HT3.out HR.out (by omega)).mono ?_
  rintro en w9 ⟨p9, rfl, hT9, hb9⟩
  have HB9 := bnext HB3.out hb9
  have HT9 := Lib.hid hT9
  clear hT9 hb9
  go_wp2_with fail
  go_returns
  exact ⟨_, rfl, HT9.out, HB9⟩

set_option maxRecDepth 100000 in
set_option maxHeartbeats 8000000 in
theorem take_gt (S : World → Prop) (hS : Lasting S) (id : Nat) (caps : Array Value) (c : Int → Int → Int) (hc : CmpF S id caps c) (g : Nat) (root : Option Addr) (key : Int) (l r : Tr) (k v : Int) (a : Option Addr) (w : World) (hw : S w) (hg : Blk w g 75 #[.func (.func id) #[] caps, .pointer root])
    (ht : TreeAt w (.node l k v r) a) (hN : (T.node l k v r).many ≤ 4611686018427387000) (h : 0 < c key k) (T1 : Tr) (hm1 : T1.many ≤ r.many + 1)
    (ih : ∀ (a : Option Addr) (w : World), S w → Blk w g 75 #[.func (.func id) #[] caps, .pointer root] → TreeAt w r a → Calls Try.prog 63 #[.pointer (some ⟨g, 0, none⟩), .pointer a, .int .i64 key] w (PtrR T1 w)) :
    Calls Try.prog 63 #[.pointer (some ⟨g, 0, none⟩), .pointer a, .int .i64 key] w (PtrR (even k v l T1) w) := by
  obtain ⟨b, al, ar, rfl, hB, hl, hr⟩ := ht
  have hm : l.many + r.many + 1 ≤ 4611686018427387000 := hN
  have HL := Lib.hid hl
  have HR := Lib.hid hr
  have HG := Lib.hid hg
  have HB := Lib.hid hB
  have HW := Lib.hid hw
  have cL := hB.cell
  have qL := hB.lt
  have cG := hg.cell
  have qG := hg.lt
  obtain ⟨hcf, hcc⟩ := hc
  have HCC := Lib.hid hcc
  have HLa := Lib.hid hS
  clear hl hr hN hB hg hcc hw hS
  generalize hX : c key k = X at *
  have HX := Lib.hid hX
  clear hX
  have HIH := Lib.hid ih
  clear ih
  have h2 : ¬ X < 0 := by omega
  go_enter Try.func63, Try.ntmps63
  go_wp2_with fail
  (refine region_keep (fun x => x < w.heap.size) 9 [(0, true), (1, true), (2, true), (3, true), (4, true), (5, true), (6, true), (7, true), (8, true)] (by kernel_rfl) (fun _ _ d _ _ h => by cases d <;> exact h) (by kernel_rfl) ?_; simp only [withOps, List.getElem?_toArray, List.getElem?_cons_zero, List.getElem?_cons_succ, List.drop_succ_cons, List.drop_zero])
  (iterate 9 (refine keep_quiet (v := ?_) rfl ?_ ?_; rotate_left; (focus (intro w' hw'; go_simp; (try with_reducible rfl); done)); try simp only [Act.put, List.setIfInBounds_toArray, List.set_cons_zero, List.set_cons_succ]))
  (with_reducible refine plan_end ?_)
  (try simp only [Act.put, List.setIfInBounds_toArray, List.set_cons_zero, List.set_cons_succ])
  go_wp2_with fail
  refine (HCC.out key k w.drew (HLa.out.drew HW.out)).mono ?_
  rintro en w_ ⟨rfl, hw_⟩
  obtain rfl : w.drew = w_ := hw_.symm
  rw [HX.out]
  clear hcf
  go_upto_region 5 with (fail)
  refine wp_at (fun Z => Below w.heap.size w Z) (by go_grown) ?_
  rintro w2 hb2
  have hB2 := HB.out.below hb2
  have hG2 := HG.out.below hb2
  have hW2 := Lib.hid (HLa.out _ _ HW.out hb2)
  have HG := Lib.hid hG2
  have cL := hB2.cell
  have qL := hB2.lt
  have cG := hG2.cell
  have qG := hG2.lt
  have HL := Lib.hid (HL.out.below hb2)
  have HR := Lib.hid (HR.out.below hb2)
  clear hB2 hG2
  go_wp2_with fail
  (refine region_keep (fun x => x < w2.heap.size) 19 [(0, true), (1, true), (2, true), (3, true), (4, true), (5, true), (6, true), (7, true), (8, true), (9, true), (10, true), (11, true), (12, true), (13, true), (14, true), (15, true), (16, true), (17, true), (18, false)] (by kernel_rfl) (fun _ _ d _ _ h => by cases d <;> exact h) (by kernel_rfl) ?_; simp only [withOps, List.getElem?_toArray, List.getElem?_cons_zero, List.getElem?_cons_succ, List.drop_succ_cons, List.drop_zero])
  (iterate 18 (refine keep_quiet (v := ?_) rfl ?_ ?_; rotate_left; (focus (intro w' hw'; go_simp; (try with_reducible rfl); done)); try simp only [Act.put, List.setIfInBounds_toArray, List.set_cons_zero, List.set_cons_succ]))
  (with_reducible refine plan_loud (fun K hK => ?_))
  go_simp
  refine (HIH.out _ w2.drew (HLa.out.drew hW2.out) HG.out HR.out.drew).mono ?_
  rintro en w3 ⟨p3, rfl, hT3, hb3⟩
  refine hK _ _ ((Keep.refl _ _).below hb3 (by intro x h; simpa using h)) ?_
  clear hK K
  have HT3 := Lib.hid hT3
  have HB3 := Lib.hid (hb2.drew.trans (hb3.mono hb2.size))
  have HL := Lib.hid (HL.out.drew.below hb3)
  clear hT3 hb3
  (with_reducible refine plan_end ?_)
  (try simp only [Act.put, List.setIfInBounds_toArray, List.set_cons_zero, List.set_cons_succ])
  go_wp2_with fail
  refine (even_any k v l T1 _ _ _ HL.out HT3.out (by omega)).mono ?_
  rintro en w9 ⟨p9, rfl, hT9, hb9⟩
  have HB9 := bnext HB3.out hb9
  have HT9 := Lib.hid hT9
  clear hT9 hb9
  go_wp2_with fail
  go_returns
  exact ⟨_, rfl, HT9.out, HB9⟩

set_option maxRecDepth 100000 in
set_option maxHeartbeats 8000000 in
theorem take_eq (S : World → Prop) (hS : Lasting S) (id : Nat) (caps : Array Value) (c : Int → Int → Int) (hc : CmpF S id caps c) (g : Nat) (root : Option Addr) (key : Int) (l r : Tr) (k v : Int) (a : Option Addr) (w : World) (hw : S w) (hg : Blk w g 75 #[.func (.func id) #[] caps, .pointer root])
    (ht : TreeAt w (.node l k v r) a) (hN : (T.node l k v r).many ≤ 4611686018427387000) (h : c key k = 0) :
    Calls Try.prog 63 #[.pointer (some ⟨g, 0, none⟩), .pointer a, .int .i64 key] w (PtrR (joined l r) w) := by
  obtain ⟨b, al, ar, rfl, hB, hl, hr⟩ := ht
  have hm : l.many + r.many + 1 ≤ 4611686018427387000 := hN
  have HL := Lib.hid hl
  have HR := Lib.hid hr
  have HG := Lib.hid hg
  have HB := Lib.hid hB
  have HW := Lib.hid hw
  have cL := hB.cell
  have qL := hB.lt
  have cG := hg.cell
  have qG := hg.lt
  obtain ⟨hcf, hcc⟩ := hc
  have HCC := Lib.hid hcc
  have HLa := Lib.hid hS
  clear hl hr hN hB hg hcc hw hS
  generalize hX : c key k = X at *
  have HX := Lib.hid hX
  clear hX
  subst h
  go_enter Try.func63, Try.ntmps63
  go_wp2_with fail
  (refine region_keep (fun x => x < w.heap.size) 9 [(0, true), (1, true), (2, true), (3, true), (4, true), (5, true), (6, true), (7, true), (8, true)] (by kernel_rfl) (fun _ _ d _ _ h => by cases d <;> exact h) (by kernel_rfl) ?_; simp only [withOps, List.getElem?_toArray, List.getElem?_cons_zero, List.getElem?_cons_succ, List.drop_succ_cons, List.drop_zero])
  (iterate 9 (refine keep_quiet (v := ?_) rfl ?_ ?_; rotate_left; (focus (intro w' hw'; go_simp; (try with_reducible rfl); done)); try simp only [Act.put, List.setIfInBounds_toArray, List.set_cons_zero, List.set_cons_succ]))
  (with_reducible refine plan_end ?_)
  (try simp only [Act.put, List.setIfInBounds_toArray, List.set_cons_zero, List.set_cons_succ])
  go_wp2_with fail
  refine (HCC.out key k w.drew (HLa.out.drew HW.out)).mono ?_
  rintro en w_ ⟨rfl, hw_⟩
  obtain rfl : w.drew = w_ := hw_.symm
  rw [HX.out]
  clear hcf
  go_upto_region 6 with (fail)
  refine wp_at (fun Z => Below w.heap.size w Z) (by go_grown) ?_
  rintro w2 hb2
  have hB2 := HB.out.below hb2
  have hG2 := HG.out.below hb2
  have hW2 := Lib.hid (HLa.out _ _ HW.out hb2)
  have HG := Lib.hid hG2
  have cL := hB2.cell
  have qL := hB2.lt
  have cG := hG2.cell
  have qG := hG2.lt
  have HL := Lib.hid (HL.out.below hb2)
  have HR := Lib.hid (HR.out.below hb2)
  clear hB2 hG2
  go_wp2_with fail
  (refine region_keep (fun x => x < w2.heap.size) 8 [(0, true), (1, true), (2, true), (3, true), (4, true), (5, true), (6, true), (7, true)] (by kernel_rfl) (fun _ _ d _ _ h => by cases d <;> exact h) (by kernel_rfl) ?_; simp only [withOps, List.getElem?_toArray, List.getElem?_cons_zero, List.getElem?_cons_succ, List.drop_succ_cons, List.drop_zero])
  (iterate 8 (refine keep_quiet (v := ?_) rfl ?_ ?_; rotate_left; (focus (intro w' hw'; go_simp; (try with_reducible rfl); done)); try simp only [Act.put, List.setIfInBounds_toArray, List.set_cons_zero, List.set_cons_succ]))
  (with_reducible refine plan_end ?_)
  (try simp only [Act.put, List.setIfInBounds_toArray, List.set_cons_zero, List.set_cons_succ])
  go_wp2_with fail
  refine (joined_any l r _ _ _ HL.out.drew HR.out.drew (by omega)).mono ?_
  rintro en w9 ⟨p9, rfl, hT9, hb9⟩
  have HB9 := hb2.drew.trans (hb9.mono hb2.size)
  have HT9 := Lib.hid hT9
  clear hT9 hb9
  go_wp2_with fail
  go_returns
  exact ⟨_, rfl, HT9.out, HB9⟩

theorem many_take (c : Int → Int → Int) (key : Int) : ∀ t : Tr, (take c key t).many ≤ t.many + 1
  | .nil => Nat.le_succ _
  | .node l k v r => by
    have h1 := many_take c key l
    have h2 := many_take c key r
    unfold take
    split
    · rw [many_even]; simp only [T.many]; omega
    · split
      · rw [many_even]; simp only [T.many]; omega
      · have : (joined l r).many = l.many + r.many := by simp only [T.many_len, toL_joined, List.length_append]
        simp only [T.many]; omega
/-- take at a key that is there. -/
theorem take_any (S : World → Prop) (hS : Lasting S) (id : Nat) (caps : Array Value) (c : Int → Int → Int) (hc : CmpF S id caps c) (g : Nat) (root : Option Addr) (key : Int) : ∀ (t : Tr) (a : Option Addr) (w : World), S w → Blk w g 75 #[.func (.func id) #[] caps, .pointer root] → TreeAt w t a → t.many ≤ 4611686018427387000 → Has c key t →
    Calls Try.prog 63 #[.pointer (some ⟨g, 0, none⟩), .pointer a, .int .i64 key] w (PtrR (take c key t) w)
  | .nil, a, w, _, _, ht, _, hh => hh.elim
  | .node l k v r, a, w, hw, hg, ht, hN, hh => by
    have hm : l.many + r.many + 1 ≤ 4611686018427387000 := hN
    unfold Has at hh
    unfold take
    split
    · rename_i h
      rw [if_pos h] at hh
      exact take_lt S hS id caps c hc g root key l r k v a w hw hg ht hN h _ (many_take c key l) fun a w hw hg ht => take_any S hS id caps c hc g root key l a w hw hg ht (by omega) hh
    · rename_i h0
      rw [if_neg h0] at hh
      split
      · rename_i h
        rw [if_pos h] at hh
        exact take_gt S hS id caps c hc g root key l r k v a w hw hg ht hN h _ (many_take c key r) fun a w hw hg ht => take_any S hS id caps c hc g root key r a w hw hg ht (by omega) hh
      · rename_i h1
        exact take_eq S hS id caps c hc g root key l r k v a w hw hg ht hN (by omega)
end Go.Proofs.Ytchmlephgkimcaa
