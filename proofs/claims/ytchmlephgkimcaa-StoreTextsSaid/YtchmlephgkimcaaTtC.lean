/- Store: maps in memory; put. -/
import Derived.Test.YtchmlephgkimcaaTtB
set_option linter.unusedSimpArgs false
set_option linter.unusedVariables false
namespace Go.Proofs.Ytchmlephgkimcaa.Tx
open Go.RowKit Go.Kp Go.St

/-- A function value that compares as c does, in every world of which S holds; the world stays. -/
def CmpF (S : World → Prop) (id : Nat) (caps : Array Value) (c : Kx → Kx → Int) : Prop :=
  (∀ (a b : Kx) (w : World), (callFunc id (#[Value.string a, .string b] ++ caps)).run Try.prog w = .ok (.enter id (#[Value.string a, .string b] ++ caps)) w) ∧
  ∀ (a b : Kx) (w : World), S w → Calls Try.prog id (#[Value.string a, .string b] ++ caps) w fun e w' => e = .returned (.int .i64 (c a b)) ∧ w' = w
/-- What holds of a world, holds of what comes of it. -/
def Lasting (S : World → Prop) : Prop := ∀ w w', S w → Below w.heap.size w w' → S w'
theorem Lasting.drew {S : World → Prop} (h : Lasting S) {w : World} (hw : S w) : S w.drew := h w _ hw (Below.refl _ _).drew

set_option maxRecDepth 100000 in
set_option maxHeartbeats 8000000 in
theorem put_nil (g : Nat) (a : Option Addr) (key : Kx) (val : Vx) (w : World) (ht : TreeAt w .nil a) :
    Calls Try.prog 52 #[.pointer (some ⟨g, 0, none⟩), .pointer a, .string key, .slice val.a val.n val.c] w (PtrR (.node .nil key val .nil) w) := by
  obtain rfl : a = none := ht
  go_enter Try.func52, Try.ntmps52
  go_wp2_with fail
  refine (with_any key val .nil .nil none none _ rfl rfl (by simp [T.many])).mono ?_
  rintro en w9 ⟨p9, rfl, hT9, hb9⟩
  have HT9 := Lib.hid hT9
  have HB9 := hb9
  clear hT9 hb9
  go_wp2_with fail
  go_returns
  exact ⟨_, rfl, HT9.out, HB9⟩

set_option maxRecDepth 100000 in
set_option maxHeartbeats 8000000 in
theorem put_lt (S : World → Prop) (hS : Lasting S) (id : Nat) (caps : Array Value) (c : Kx → Kx → Int) (hc : CmpF S id caps c) (g : Nat) (root : Option Addr) (key : Kx) (val : Vx) (l r : Tr) (k : Kx) (v : Vx) (a : Option Addr) (w : World) (hw : S w) (hg : Blk w g 91 #[.func (.func id) #[] caps, .pointer root])
    (ht : TreeAt w (.node l k v r) a) (hN : (T.node l k v r).many ≤ 4611686018427387000) (h : c key k < 0) (T1 : Tr) (hm1 : T1.many ≤ l.many + 1)
    (ih : ∀ (a : Option Addr) (w : World), S w → Blk w g 91 #[.func (.func id) #[] caps, .pointer root] → TreeAt w l a → Calls Try.prog 52 #[.pointer (some ⟨g, 0, none⟩), .pointer a, .string key, .slice val.a val.n val.c] w (PtrR T1 w)) :
    Calls Try.prog 52 #[.pointer (some ⟨g, 0, none⟩), .pointer a, .string key, .slice val.a val.n val.c] w (PtrR (even k v T1 r) w) := by
  obtain ⟨b, al, ar, rfl, hB, hl, hr⟩ := ht
  have hm : l.many + r.many + 1 ≤ 4611686018427387000 := hN
  have HL := Lib.hid hl
  have HR := Lib.hid hr
  have HG := Lib.hid hg
  have HB := Lib.hid hB
  have HW := Lib.hid hw
  have cL := hB.cell
  have qL := hB.lt
  have cG := hg.cell
  have qG := hg.lt
  obtain ⟨hcf, hcc⟩ := hc
  have HCC := Lib.hid hcc
  have HLa := Lib.hid hS
  clear hl hr hN hB hg hcc hw hS
  generalize hX : c key k = X at *
  have HX := Lib.hid hX
  clear hX
  have HIH := Lib.hid ih
  clear ih
  go_enter Try.func52, Try.ntmps52
  go_wp2_with fail
  (refine region_keep (fun x => x < w.heap.size) 9 [(0, true), (1, true), (2, true), (3, true), (4, true), (5, true), (6, true), (7, true), (8, true)] (by kernel_rfl) (fun _ _ d _ _ h => by cases d <;> exact h) (by kernel_rfl) ?_; simp only [withOps, List.getElem?_toArray, List.getElem?_cons_zero, List.getElem?_cons_succ, List.drop_succ_cons, List.drop_zero])
  (iterate 9 (refine keep_quiet (v := ?_) rfl ?_ ?_; rotate_left; (focus (intro w' hw'; go_simp; (try with_reducible rfl); done)); try simp only [Act.put, List.setIfInBounds_toArray, List.set_cons_zero, List.set_cons_succ]))
  (with_reducible refine plan_end ?_)
  (try simp only [Act.put, List.setIfInBounds_toArray, List.set_cons_zero, List.set_cons_succ])
  go_wp2_with fail
  refine (HCC.out key k w.drew (HLa.out.drew HW.out)).mono ?_
  rintro en w_ ⟨rfl, hw_⟩
  obtain rfl : w.drew = w_ := hw_.symm
  rw [HX.out]
  clear hcf
  go_upto_region 5 with (fail)
  refine wp_at (fun Z => Below w.heap.size w Z) (by go_grown) ?_
  rintro w2 hb2
  have hB2 := HB.out.below hb2
  have hG2 := HG.out.below hb2
  have hW2 := Lib.hid (HLa.out _ _ HW.out hb2)
  have HG := Lib.hid hG2
  have cL := hB2.cell
  have qL := hB2.lt
  have cG := hG2.cell
  have qG := hG2.lt
  have HL := Lib.hid (HL.out.below hb2)
  have HR := Lib.hid (HR.out.below hb2)
  clear hB2 hG2
  go_wp2_with fail
  (refine region_keep (fun x => x < w2.heap.size) 20 [(0, true), (1, true), (2, true), (3, true), (4, true), (5, true), (6, true), (7, true), (8, true), (9, true), (10, true), (11, true), (12, true), (13, true), (14, true), (16, true), (17, true), (18, true), (19, true), (15, false)] (by kernel_rfl) (fun _ _ d _ _ h => by cases d <;> exact h) (by kernel_rfl) ?_; simp only [withOps, List.getElem?_toArray, List.getElem?_cons_zero, List.getElem?_cons_succ, List.drop_succ_cons, List.drop_zero])
  (iterate 19 (refine keep_quiet (v := ?_) rfl ?_ ?_; rotate_left; (focus (intro w' hw'; go_simp; (try with_reducible rfl); done)); try simp only [Act.put, List.setIfInBounds_toArray, List.set_cons_zero, List.set_cons_succ]))
  (with_reducible refine plan_loud (fun K hK => ?_))
  go_simp
  refine (HIH.out _ w2.drew (HLa.out.drew hW2.out) HG.out HL.out.drew).mono ?_
  rintro en w3 ⟨p3, rfl, hT3, hb3⟩
  refine hK _ _ ((Keep.refl _ _).below hb3 (by intro x h; simpa using h)) ?_
  clear hK K
  have HT3 := Lib.hid hT3
  have HB3 := Lib.hid (hb2.drew.trans (hb3.mono hb2.size))
  have HR := Lib.hid (HR.out.drew.below hb3)
  clear hT3 hb3
  (with_reducible refine plan_end ?_)
  (try simp only [Act.put, List.setIfInBounds_toArray, List.set_cons_zero, List.set_cons_succ])
  go_wp2_with fail
  refine (even_any k v T1 r _ _ _ HT3.out HR.out (by omega)).mono ?_
  rintro en w9 ⟨p9, rfl, hT9, hb9⟩
  have HB9 := bnext HB3.out hb9
  have HT9 := Lib.hid hT9
  clear hT9 hb9
  go_wp2_with fail
  go_returns
  exact ⟨_, rfl, HT9.out, HB9⟩

set_option maxRecDepth 100000 in
set_option maxHeartbeats 8000000 in
theorem put_gt (S : World → Prop) (hS : Lasting S) (id : Nat) (caps : Array Value) (c : Kx → Kx → Int) (hc : CmpF S id caps c) (g : Nat) (root : Option Addr) (key : Kx) (val : Vx) (l r : Tr) (k : Kx) (v : Vx) (a : Option Addr) (w : World) (hw : S w) (hg : Blk w g 91 #[.func (.func id) #[] caps, .pointer root])
    (ht : TreeAt w (.node l k v r) a) (hN : (T.node l k v r).many ≤ 4611686018427387000) (h : 0 < c key k) (T1 : Tr) (hm1 : T1.many ≤ r.many + 1)
    (ih : ∀ (a : Option Addr) (w : World), S w → Blk w g 91 #[.func (.func id) #[] caps, .pointer root] → TreeAt w r a → Calls Try.prog 52 #[.pointer (some ⟨g, 0, none⟩), .pointer a, .string key, .slice val.a val.n val.c] w (PtrR T1 w)) :
    Calls Try.prog 52 #[.pointer (some ⟨g, 0, none⟩), .pointer a, .string key, .slice val.a val.n val.c] w (PtrR (even k v l T1) w) := by
  obtain ⟨b, al, ar, rfl, hB, hl, hr⟩ := ht
  have hm : l.many + r.many + 1 ≤ 4611686018427387000 := hN
  have HL := Lib.hid hl
  have HR := Lib.hid hr
  have HG := Lib.hid hg
  have HB := Lib.hid hB
  have HW := Lib.hid hw
  have cL := hB.cell
  have qL := hB.lt
  have cG := hg.cell
  have qG := hg.lt
  obtain ⟨hcf, hcc⟩ := hc
  have HCC := Lib.hid hcc
  have HLa := Lib.hid hS
  clear hl hr hN hB hg hcc hw hS
  generalize hX : c key k = X at *
  have HX := Lib.hid hX
  clear hX
  have HIH := Lib.hid ih
  clear ih
  have h2 : ¬ X < 0 := by omega
  go_enter Try.func52, Try.ntmps52
  go_wp2_with fail
  (refine region_keep (fun x => x < w.heap.size) 9 [(0, true), (1, true), (2, true), (3, true), (4, true), (5, true), (6, true), (7, true), (8, true)] (by kernel_rfl) (fun _ _ d _ _ h => by cases d <;> exact h) (by kernel_rfl) ?_; simp only [withOps, List.getElem?_toArray, List.getElem?_cons_zero, List.getElem?_cons_succ, List.drop_succ_cons, List.drop_zero])
  (iterate 9 (refine keep_quiet (v := ?_) rfl ?_ ?_; rotate_left; (focus (intro w' hw'; go_simp; (try with_reducible rfl); done)); try simp only [Act.put, List.setIfInBounds_toArray, List.set_cons_zero, List.set_cons_succ]))
  (with_reducible refine plan_end ?_)
  (try simp only [Act.put, List.setIfInBounds_toArray, List.set_cons_zero, List.set_cons_succ])
  go_wp2_with fail
  refine (HCC.out key k w.drew (HLa.out.drew HW.out)).mono ?_
  rintro en w_ ⟨rfl, hw_⟩
  obtain rfl : w.drew = w_ := hw_.symm
  rw [HX.out]
  clear hcf
  go_upto_region 7 with (fail)
  refine wp_at (fun Z => Below w.heap.size w Z) (by go_grown) ?_
  rintro w2 hb2
  have hB2 := HB.out.below hb2
  have hG2 := HG.out.below hb2
  have hW2 := Lib.hid (HLa.out _ _ HW.out hb2)
  have HG := Lib.hid hG2
  have cL := hB2.cell
  have qL := hB2.lt
  have cG := hG2.cell
  have qG := hG2.lt
  have HL := Lib.hid (HL.out.below hb2)
  have HR := Lib.hid (HR.out.below hb2)
  clear hB2 hG2
  go_wp2_with fail
  (refine region_keep (fun x => x < w2.heap.size) 20 [(0, true), (1, true), (2, true), (3, true), (4, true), (5, true), (6, true), (7, true), (8, true), (9, true), (10, true), (11, true), (12, true), (13, true), (14, true), (15, true), (16, true), (17, true), (18, true), (19, false)] (by kernel_rfl) (fun _ _ d _ _ h => by cases d <;> exact h) (by kernel_rfl) ?_; simp only [withOps, List.getElem?_toArray, List.getElem?_cons_zero, List.getElem?_cons_succ, List.drop_succ_cons, List.drop_zero])
  (iterate 19 (refine keep_quiet (v := ?_) rfl ?_ ?_; rotate_left; (focus (intro w' hw'; go_simp; (try with_reducible rfl); done)); try simp only [Act.put, List.setIfInBounds_toArray, List.set_cons_zero, List.set_cons_succ]))
  (with_reducible refine plan_loud (fun K hK => ?_))
  go_simp
  refine (HIH.out _ w2.drew (HLa.out.drew hW2.out) HG.out HR.out.drew).mono ?_
  rintro en w3 ⟨p3, rfl, hT3, hb3⟩
  refine hK _ _ ((Keep.refl _ _).below hb3 (by intro x h; simpa using h)) ?_
  clear hK K
  have HT3 := Lib.hid hT3
  have HB3 := Lib.hid (hb2.drew.trans (hb3.mono hb2.size))
  have HL := Lib.hid (HL.out.drew.below hb3)
  clear hT3 hb3
  (with_reducible refine plan_end ?_)
  (try simp only [Act.put, List.setIfInBounds_toArray, List.set_cons_zero, List.set_cons_succ])
  go_wp2_with fail
  refine (even_any k v l T1 _ _ _ HL.out HT3.out (by omega)).mono ?_
  rintro en w9 ⟨p9, rfl, hT9, hb9⟩
  have HB9 := bnext HB3.out hb9
  have HT9 := Lib.hid hT9
  clear hT9 hb9
  go_wp2_with fail
  go_returns
  exact ⟨_, rfl, HT9.out, HB9⟩

set_option maxRecDepth 100000 in
set_option maxHeartbeats 8000000 in
theorem put_eq (S : World → Prop) (hS : Lasting S) (id : Nat) (caps : Array Value) (c : Kx → Kx → Int) (hc : CmpF S id caps c) (g : Nat) (root : Option Addr) (key : Kx) (val : Vx) (l r : Tr) (k : Kx) (v : Vx) (a : Option Addr) (w : World) (hw : S w) (hg : Blk w g 91 #[.func (.func id) #[] caps, .pointer root])
    (ht : TreeAt w (.node l k v r) a) (hN : (T.node l k v r).many ≤ 4611686018427387000) (h : c key k = 0) :
    Calls Try.prog 52 #[.pointer (some ⟨g, 0, none⟩), .pointer a, .string key, .slice val.a val.n val.c] w (PtrR (.node l k val r) w) := by
  obtain ⟨b, al, ar, rfl, hB, hl, hr⟩ := ht
  have hm : l.many + r.many + 1 ≤ 4611686018427387000 := hN
  have HL := Lib.hid hl
  have HR := Lib.hid hr
  have HG := Lib.hid hg
  have HB := Lib.hid hB
  have HW := Lib.hid hw
  have cL := hB.cell
  have qL := hB.lt
  have cG := hg.cell
  have qG := hg.lt
  obtain ⟨hcf, hcc⟩ := hc
  have HCC := Lib.hid hcc
  have HLa := Lib.hid hS
  clear hl hr hN hB hg hcc hw hS
  generalize hX : c key k = X at *
  have HX := Lib.hid hX
  clear hX
  subst h
  go_enter Try.func52, Try.ntmps52
  go_wp2_with fail
  (refine region_keep (fun x => x < w.heap.size) 9 [(0, true), (1, true), (2, true), (3, true), (4, true), (5, true), (6, true), (7, true), (8, true)] (by kernel_rfl) (fun _ _ d _ _ h => by cases d <;> exact h) (by kernel_rfl) ?_; simp only [withOps, List.getElem?_toArray, List.getElem?_cons_zero, List.getElem?_cons_succ, List.drop_succ_cons, List.drop_zero])
  (iterate 9 (refine keep_quiet (v := ?_) rfl ?_ ?_; rotate_left; (focus (intro w' hw'; go_simp; (try with_reducible rfl); done)); try simp only [Act.put, List.setIfInBounds_toArray, List.set_cons_zero, List.set_cons_succ]))
  (with_reducible refine plan_end ?_)
  (try simp only [Act.put, List.setIfInBounds_toArray, List.set_cons_zero, List.set_cons_succ])
  go_wp2_with fail
  refine (HCC.out key k w.drew (HLa.out.drew HW.out)).mono ?_
  rintro en w_ ⟨rfl, hw_⟩
  obtain rfl : w.drew = w_ := hw_.symm
  rw [HX.out]
  clear hcf
  go_upto_region 8 with (fail)
  refine wp_at (fun Z => Below w.heap.size w Z) (by go_grown) ?_
  rintro w2 hb2
  have hB2 := HB.out.below hb2
  have hG2 := HG.out.below hb2
  have hW2 := Lib.hid (HLa.out _ _ HW.out hb2)
  have HG := Lib.hid hG2
  have cL := hB2.cell
  have qL := hB2.lt
  have cG := hG2.cell
  have qG := hG2.lt
  have HL := Lib.hid (HL.out.below hb2)
  have HR := Lib.hid (HR.out.below hb2)
  clear hB2 hG2
  go_wp2_with fail
  (refine region_keep (fun x => x < w2.heap.size) 13 [(0, true), (1, true), (2, true), (3, true), (4, true), (5, true), (6, true), (7, true), (8, true), (9, true), (10, true), (11, true), (12, true)] (by kernel_rfl) (fun _ _ d _ _ h => by cases d <;> exact h) (by kernel_rfl) ?_; simp only [withOps, List.getElem?_toArray, List.getElem?_cons_zero, List.getElem?_cons_succ, List.drop_succ_cons, List.drop_zero])
  (iterate 13 (refine keep_quiet (v := ?_) rfl ?_ ?_; rotate_left; (focus (intro w' hw'; go_simp; (try with_reducible rfl); done)); try simp only [Act.put, List.setIfInBounds_toArray, List.set_cons_zero, List.set_cons_succ]))
  (with_reducible refine plan_end ?_)
  (try simp only [Act.put, List.setIfInBounds_toArray, List.set_cons_zero, List.set_cons_succ])
  go_wp2_with fail
  refine (with_any k val l r _ _ _ HL.out.drew HR.out.drew (by omega)).mono ?_
  rintro en w9 ⟨p9, rfl, hT9, hb9⟩
  have HB9 := hb2.drew.trans (hb9.mono hb2.size)
  have HT9 := Lib.hid hT9
  clear hT9 hb9
  go_wp2_with fail
  go_returns
  exact ⟨_, rfl, HT9.out, HB9⟩

theorem many_put (c : Kx → Kx → Int) (key : Kx) (val : Vx) : ∀ t : Tr, (put c key val t).many ≤ t.many + 1
  | .nil => Nat.le_refl _
  | .node l k v r => by
    have h1 := many_put c key val l
    have h2 := many_put c key val r
    unfold put
    split
    · rw [many_even]; simp only [T.many]; omega
    · split
      · rw [many_even]; simp only [T.many]; omega
      · simp only [T.many]; omega
theorem put_any (S : World → Prop) (hS : Lasting S) (id : Nat) (caps : Array Value) (c : Kx → Kx → Int) (hc : CmpF S id caps c) (g : Nat) (root : Option Addr) (key : Kx) (val : Vx) : ∀ (t : Tr) (a : Option Addr) (w : World), S w → Blk w g 91 #[.func (.func id) #[] caps, .pointer root] → TreeAt w t a → t.many ≤ 4611686018427387000 →
    Calls Try.prog 52 #[.pointer (some ⟨g, 0, none⟩), .pointer a, .string key, .slice val.a val.n val.c] w (PtrR (put c key val t) w)
  | .nil, a, w, _, _, ht, _ => put_nil g a key val w ht
  | .node l k v r, a, w, hw, hg, ht, hN => by
    have hm : l.many + r.many + 1 ≤ 4611686018427387000 := hN
    unfold put
    split
    · rename_i h
      exact put_lt S hS id caps c hc g root key val l r k v a w hw hg ht hN h _ (many_put c key val l) fun a w hw hg ht => put_any S hS id caps c hc g root key val l a w hw hg ht (by omega)
    · split
      · rename_i h
        exact put_gt S hS id caps c hc g root key val l r k v a w hw hg ht hN h _ (many_put c key val r) fun a w hw hg ht => put_any S hS id caps c hc g root key val r a w hw hg ht (by omega)
      · rename_i h1 h2
        exact put_eq S hS id caps c hc g root key val l r k v a w hw hg ht hN (by omega)
end Go.Proofs.Ytchmlephgkimcaa.Tx
