/- Panes by windows: put (printed by mksqc.py). -/
import Derived.Test.YtbkofiflfcfjfaaSqB
import Derived.Test.YtbkofiflfcfjfaaSqH
set_option linter.unusedSimpArgs false
set_option linter.unusedVariables false
namespace Go.Proofs.Ytbkofiflfcfjfaa.Px
open Go.RowKit Go.Kp Go.St

set_option maxRecDepth 100000 in
set_option maxHeartbeats 8000000 in
theorem put_nil (g : Nat) (a : Option Addr) (key : Kx) (val : Vx) (wA : World) (ht : TreeAt wA .nil a) :
    Calls Try.prog 63 #[.pointer (some ⟨g, 0, none⟩), .pointer a, .agg #[.string key.k, .int .i64 key.s, .int .i64 key.e], .agg #[.string val.key, .int .i64 val.s, .int .i64 val.e, .int .i64 val.kind, .int .i64 val.nth, .int .i64 val.count, .int .i64 val.sum, .int .i64 val.min, .int .i64 val.max]] wA (PtrR (.node .nil key val .nil) wA) := by
  obtain rfl : a = none := ht
  go_enter Try.func63, Try.ntmps63
  go_upto_region 1 with (fail)
  refine wp_at (fun Z => Blk Z wA.heap.size 112 (keyC key) ∧ Blk Z (wA.heap.size + 1) 92 (valC val) ∧ Below wA.heap.size wA Z) boxed ?_
  rintro w ⟨hKb, hVb, hBA⟩
  have kc := hKb.cell
  have vc := hVb.cell
  have kl := hKb.lt
  have vl := hVb.lt
  have HKb := Lib.hid hKb
  have HVb := Lib.hid hVb
  have HBA := Lib.hid hBA
  clear hKb hVb hBA
  go_wp2_with fail
  refine (with_any key val .nil .nil none none _ rfl rfl (by simp [T.many])).mono ?_
  rintro en w9 ⟨p9, rfl, hT9, hb9⟩
  have HB9 := hb9
  have HT9 := Lib.hid hT9
  clear hT9 hb9
  go_wp2_with fail
  go_returns
  exact ⟨_, rfl, HT9.out, HBA.out.trans (HB9.mono HBA.out.size)⟩

set_option maxRecDepth 100000 in
set_option maxHeartbeats 8000000 in
theorem put_lt (g : Nat) (root : Option Addr) (key : Kx) (val : Vx) (l r : Tr) (k : Kx) (v : Vx) (a : Option Addr) (wA : World) (hgA : Blk wA g 126 #[cmpV, .pointer root])
    (htA : TreeAt wA (.node l k v r) a) (hN : (T.node l k v r).many ≤ 4611686018427387000) (h : cA key k < 0) (T1 : Tr) (hm1 : T1.many ≤ l.many + 1)
    (ih : ∀ (a : Option Addr) (w : World), Blk w g 126 #[cmpV, .pointer root] → TreeAt w l a → Calls Try.prog 63 #[.pointer (some ⟨g, 0, none⟩), .pointer a, .agg #[.string key.k, .int .i64 key.s, .int .i64 key.e], .agg #[.string val.key, .int .i64 val.s, .int .i64 val.e, .int .i64 val.kind, .int .i64 val.nth, .int .i64 val.count, .int .i64 val.sum, .int .i64 val.min, .int .i64 val.max]] w (PtrR T1 w)) :
    Calls Try.prog 63 #[.pointer (some ⟨g, 0, none⟩), .pointer a, .agg #[.string key.k, .int .i64 key.s, .int .i64 key.e], .agg #[.string val.key, .int .i64 val.s, .int .i64 val.e, .int .i64 val.kind, .int .i64 val.nth, .int .i64 val.count, .int .i64 val.sum, .int .i64 val.min, .int .i64 val.max]] wA (PtrR (even k v T1 r) wA) := by
  go_enter Try.func63, Try.ntmps63
  go_upto_region 1 with (fail)
  refine wp_at (fun Z => Blk Z wA.heap.size 112 (keyC key) ∧ Blk Z (wA.heap.size + 1) 92 (valC val) ∧ Below wA.heap.size wA Z) boxed ?_
  rintro w ⟨hKb, hVb, hBA⟩
  have kc := hKb.cell
  have vc := hVb.cell
  have kl := hKb.lt
  have vl := hVb.lt
  have HKb := Lib.hid hKb
  have HVb := Lib.hid hVb
  have HBA := Lib.hid hBA
  have hg := hgA.below hBA
  have ht := htA.below hBA
  clear hKb hVb hBA hgA htA
  obtain ⟨b, al, ar, rfl, hB, hl, hr⟩ := ht
  have hm : l.many + r.many + 1 ≤ 4611686018427387000 := hN
  have HL := Lib.hid hl
  have HR := Lib.hid hr
  have HG := Lib.hid hg
  have HB := Lib.hid hB
  have cL := hB.cell
  have qL := hB.lt
  have cG := hg.cell
  have qG := hg.lt
  clear hl hr hN hB hg
  generalize hX : cA key k = X at *
  have HX := Lib.hid hX
  clear hX
  have hcf := cmp_call
  have HIH := Lib.hid ih
  clear ih
  go_wp2_with fail
  (refine region_keep (fun x => x < w.heap.size) 9 [(0, true), (1, true), (2, true), (3, true), (4, true), (5, true), (6, true), (7, true), (8, true)] (by kernel_rfl) (fun _ _ d _ _ h => by cases d <;> exact h) (by kernel_rfl) ?_; simp only [withOps, List.getElem?_toArray, List.getElem?_cons_zero, List.getElem?_cons_succ, List.drop_succ_cons, List.drop_zero])
  (iterate 9 (refine keep_quiet (v := ?_) rfl ?_ ?_; rotate_left; (focus (intro w' hw'; go_simp; (try with_reducible rfl); done)); try simp only [Act.put, List.setIfInBounds_toArray, List.set_cons_zero, List.set_cons_succ]))
  (with_reducible refine plan_end ?_)
  (try simp only [Act.put, List.setIfInBounds_toArray, List.set_cons_zero, List.set_cons_succ])
  go_wp2_with fail
  refine (cmpA_any key k _).mono ?_
  rintro en w_ ⟨rfl, hw_⟩
  have hb0 : Below w.heap.size w w_ := bnext (by go_grown) hw_
  clear hw_
  rw [HX.out]
  clear hcf
  go_upto_region 5 with (fail)
  refine wp_at (fun Z => Below w.heap.size w Z) (by go_grown) ?_
  rintro w2 hb2
  clear hb0
  have hB2 := HB.out.below hb2
  have hG2 := HG.out.below hb2
  have HG := Lib.hid hG2
  have hK2 := HKb.out.below hb2
  have hV2 := HVb.out.below hb2
  have kc := hK2.cell
  have vc := hV2.cell
  have kl := hK2.lt
  have vl := hV2.lt
  have cL := hB2.cell
  have qL := hB2.lt
  have cG := hG2.cell
  have qG := hG2.lt
  have HL := Lib.hid (HL.out.below hb2)
  have HR := Lib.hid (HR.out.below hb2)
  clear hB2 hG2 hK2 hV2
  go_wp2_with fail
  (refine region_keep (fun x => x < w2.heap.size) 20 [(0, true), (1, true), (2, true), (3, true), (4, true), (5, true), (6, true), (7, true), (8, true), (9, true), (10, true), (11, true), (12, true), (13, true), (14, true), (16, true), (17, true), (18, true), (19, true), (15, false)] (by kernel_rfl) (fun _ _ d _ _ h => by cases d <;> exact h) (by kernel_rfl) ?_; simp only [withOps, List.getElem?_toArray, List.getElem?_cons_zero, List.getElem?_cons_succ, List.drop_succ_cons, List.drop_zero])
  (iterate 19 (refine keep_quiet (v := ?_) rfl ?_ ?_; rotate_left; (focus (intro w' hw'; go_simp; (try with_reducible rfl); done)); try simp only [Act.put, List.setIfInBounds_toArray, List.set_cons_zero, List.set_cons_succ]))
  (with_reducible refine plan_loud (fun K hK => ?_))
  go_simp
  refine (HIH.out _ w2.drew HG.out HL.out.drew).mono ?_
  rintro en w3 ⟨p3, rfl, hT3, hb3⟩
  refine hK _ _ ((Keep.refl _ _).below hb3 (by intro x h; simpa using h)) ?_
  clear hK K
  have HT3 := Lib.hid hT3
  have HB3 := Lib.hid (hb2.drew.trans (hb3.mono hb2.size))
  have HR := Lib.hid (HR.out.drew.below hb3)
  clear hT3 hb3
  (with_reducible refine plan_end ?_)
  (try simp only [Act.put, List.setIfInBounds_toArray, List.set_cons_zero, List.set_cons_succ])
  go_wp2_with fail
  refine (even_any k v T1 r _ _ _ HT3.out HR.out (by omega)).mono ?_
  rintro en w9 ⟨p9, rfl, hT9, hb9⟩
  have HB9 := bnext HB3.out hb9
  have HT9 := Lib.hid hT9
  clear hT9 hb9
  go_wp2_with fail
  go_returns
  exact ⟨_, rfl, HT9.out, HBA.out.trans (HB9.mono HBA.out.size)⟩

set_option maxRecDepth 100000 in
set_option maxHeartbeats 8000000 in
theorem put_gt (g : Nat) (root : Option Addr) (key : Kx) (val : Vx) (l r : Tr) (k : Kx) (v : Vx) (a : Option Addr) (wA : World) (hgA : Blk wA g 126 #[cmpV, .pointer root])
    (htA : TreeAt wA (.node l k v r) a) (hN : (T.node l k v r).many ≤ 4611686018427387000) (h : 0 < cA key k) (T1 : Tr) (hm1 : T1.many ≤ r.many + 1)
    (ih : ∀ (a : Option Addr) (w : World), Blk w g 126 #[cmpV, .pointer root] → TreeAt w r a → Calls Try.prog 63 #[.pointer (some ⟨g, 0, none⟩), .pointer a, .agg #[.string key.k, .int .i64 key.s, .int .i64 key.e], .agg #[.string val.key, .int .i64 val.s, .int .i64 val.e, .int .i64 val.kind, .int .i64 val.nth, .int .i64 val.count, .int .i64 val.sum, .int .i64 val.min, .int .i64 val.max]] w (PtrR T1 w)) :
    Calls Try.prog 63 #[.pointer (some ⟨g, 0, none⟩), .pointer a, .agg #[.string key.k, .int .i64 key.s, .int .i64 key.e], .agg #[.string val.key, .int .i64 val.s, .int .i64 val.e, .int .i64 val.kind, .int .i64 val.nth, .int .i64 val.count, .int .i64 val.sum, .int .i64 val.min, .int .i64 val.max]] wA (PtrR (even k v l T1) wA) := by
  go_enter Try.func63, Try.ntmps63
  go_upto_region 1 with (fail)
  refine wp_at (fun Z => Blk Z wA.heap.size 112 (keyC key) ∧ Blk Z (wA.heap.size + 1) 92 (valC val) ∧ Below wA.heap.size wA Z) boxed ?_
  rintro w ⟨hKb, hVb, hBA⟩
  have kc := hKb.cell
  have vc := hVb.cell
  have kl := hKb.lt
  have vl := hVb.lt
  have HKb := Lib.hid hKb
  have HVb := Lib.hid hVb
  have HBA := Lib.hid hBA
  have hg := hgA.below hBA
  have ht := htA.below hBA
  clear hKb hVb hBA hgA htA
  obtain ⟨b, al, ar, rfl, hB, hl, hr⟩ := ht
  have hm : l.many + r.many + 1 ≤ 4611686018427387000 := hN
  have HL := Lib.hid hl
  have HR := Lib.hid hr
  have HG := Lib.hid hg
  have HB := Lib.hid hB
  have cL := hB.cell
  have qL := hB.lt
  have cG := hg.cell
  have qG := hg.lt
  clear hl hr hN hB hg
  generalize hX : cA key k = X at *
  have HX := Lib.hid hX
  clear hX
  have hcf := cmp_call
  have HIH := Lib.hid ih
  clear ih
  have h2 : ¬ X < 0 := by omega
  go_wp2_with fail
  (refine region_keep (fun x => x < w.heap.size) 9 [(0, true), (1, true), (2, true), (3, true), (4, true), (5, true), (6, true), (7, true), (8, true)] (by kernel_rfl) (fun _ _ d _ _ h => by cases d <;> exact h) (by kernel_rfl) ?_; simp only [withOps, List.getElem?_toArray, List.getElem?_cons_zero, List.getElem?_cons_succ, List.drop_succ_cons, List.drop_zero])
  (iterate 9 (refine keep_quiet (v := ?_) rfl ?_ ?_; rotate_left; (focus (intro w' hw'; go_simp; (try with_reducible rfl); done)); try simp only [Act.put, List.setIfInBounds_toArray, List.set_cons_zero, List.set_cons_succ]))
  (with_reducible refine plan_end ?_)
  (try simp only [Act.put, List.setIfInBounds_toArray, List.set_cons_zero, List.set_cons_succ])
  go_wp2_with fail
  refine (cmpA_any key k _).mono ?_
  rintro en w_ ⟨rfl, hw_⟩
  have hb0 : Below w.heap.size w w_ := bnext (by go_grown) hw_
  clear hw_
  rw [HX.out]
  clear hcf
  go_upto_region 7 with (fail)
  refine wp_at (fun Z => Below w.heap.size w Z) (by go_grown) ?_
  rintro w2 hb2
  clear hb0
  have hB2 := HB.out.below hb2
  have hG2 := HG.out.below hb2
  have HG := Lib.hid hG2
  have hK2 := HKb.out.below hb2
  have hV2 := HVb.out.below hb2
  have kc := hK2.cell
  have vc := hV2.cell
  have kl := hK2.lt
  have vl := hV2.lt
  have cL := hB2.cell
  have qL := hB2.lt
  have cG := hG2.cell
  have qG := hG2.lt
  have HL := Lib.hid (HL.out.below hb2)
  have HR := Lib.hid (HR.out.below hb2)
  clear hB2 hG2 hK2 hV2
  go_wp2_with fail
  (refine region_keep (fun x => x < w2.heap.size) 20 [(0, true), (1, true), (2, true), (3, true), (4, true), (5, true), (6, true), (7, true), (8, true), (9, true), (10, true), (11, true), (12, true), (13, true), (14, true), (15, true), (16, true), (17, true), (18, true), (19, false)] (by kernel_rfl) (fun _ _ d _ _ h => by cases d <;> exact h) (by kernel_rfl) ?_; simp only [withOps, List.getElem?_toArray, List.getElem?_cons_zero, List.getElem?_cons_succ, List.drop_succ_cons, List.drop_zero])
  (iterate 19 (refine keep_quiet (v := ?_) rfl ?_ ?_; rotate_left; (focus (intro w' hw'; go_simp; (try with_reducible rfl); done)); try simp only [Act.put, List.setIfInBounds_toArray, List.set_cons_zero, List.set_cons_succ]))
  (with_reducible refine plan_loud (fun K hK => ?_))
  go_simp
  refine (HIH.out _ w2.drew HG.out HR.out.drew).mono ?_
  rintro en w3 ⟨p3, rfl, hT3, hb3⟩
  refine hK _ _ ((Keep.refl _ _).below hb3 (by intro x h; simpa using h)) ?_
  clear hK K
  have HT3 := Lib.hid hT3
  have HB3 := Lib.hid (hb2.drew.trans (hb3.mono hb2.size))
  have HL := Lib.hid (HL.out.drew.below hb3)
  clear hT3 hb3
  (with_reducible refine plan_end ?_)
  (try simp only [Act.put, List.setIfInBounds_toArray, List.set_cons_zero, List.set_cons_succ])
  go_wp2_with fail
  refine (even_any k v l T1 _ _ _ HL.out HT3.out (by omega)).mono ?_
  rintro en w9 ⟨p9, rfl, hT9, hb9⟩
  have HB9 := bnext HB3.out hb9
  have HT9 := Lib.hid hT9
  clear hT9 hb9
  go_wp2_with fail
  go_returns
  exact ⟨_, rfl, HT9.out, HBA.out.trans (HB9.mono HBA.out.size)⟩

set_option maxRecDepth 100000 in
set_option maxHeartbeats 8000000 in
theorem put_eq (g : Nat) (root : Option Addr) (key : Kx) (val : Vx) (l r : Tr) (k : Kx) (v : Vx) (a : Option Addr) (wA : World) (hgA : Blk wA g 126 #[cmpV, .pointer root])
    (htA : TreeAt wA (.node l k v r) a) (hN : (T.node l k v r).many ≤ 4611686018427387000) (h : cA key k = 0) :
    Calls Try.prog 63 #[.pointer (some ⟨g, 0, none⟩), .pointer a, .agg #[.string key.k, .int .i64 key.s, .int .i64 key.e], .agg #[.string val.key, .int .i64 val.s, .int .i64 val.e, .int .i64 val.kind, .int .i64 val.nth, .int .i64 val.count, .int .i64 val.sum, .int .i64 val.min, .int .i64 val.max]] wA (PtrR (.node l k val r) wA) := by
  go_enter Try.func63, Try.ntmps63
  go_upto_region 1 with (fail)
  refine wp_at (fun Z => Blk Z wA.heap.size 112 (keyC key) ∧ Blk Z (wA.heap.size + 1) 92 (valC val) ∧ Below wA.heap.size wA Z) boxed ?_
  rintro w ⟨hKb, hVb, hBA⟩
  have kc := hKb.cell
  have vc := hVb.cell
  have kl := hKb.lt
  have vl := hVb.lt
  have HKb := Lib.hid hKb
  have HVb := Lib.hid hVb
  have HBA := Lib.hid hBA
  have hg := hgA.below hBA
  have ht := htA.below hBA
  clear hKb hVb hBA hgA htA
  obtain ⟨b, al, ar, rfl, hB, hl, hr⟩ := ht
  have hm : l.many + r.many + 1 ≤ 4611686018427387000 := hN
  have HL := Lib.hid hl
  have HR := Lib.hid hr
  have HG := Lib.hid hg
  have HB := Lib.hid hB
  have cL := hB.cell
  have qL := hB.lt
  have cG := hg.cell
  have qG := hg.lt
  clear hl hr hN hB hg
  generalize hX : cA key k = X at *
  have HX := Lib.hid hX
  clear hX
  have hcf := cmp_call
  subst h
  go_wp2_with fail
  (refine region_keep (fun x => x < w.heap.size) 9 [(0, true), (1, true), (2, true), (3, true), (4, true), (5, true), (6, true), (7, true), (8, true)] (by kernel_rfl) (fun _ _ d _ _ h => by cases d <;> exact h) (by kernel_rfl) ?_; simp only [withOps, List.getElem?_toArray, List.getElem?_cons_zero, List.getElem?_cons_succ, List.drop_succ_cons, List.drop_zero])
  (iterate 9 (refine keep_quiet (v := ?_) rfl ?_ ?_; rotate_left; (focus (intro w' hw'; go_simp; (try with_reducible rfl); done)); try simp only [Act.put, List.setIfInBounds_toArray, List.set_cons_zero, List.set_cons_succ]))
  (with_reducible refine plan_end ?_)
  (try simp only [Act.put, List.setIfInBounds_toArray, List.set_cons_zero, List.set_cons_succ])
  go_wp2_with fail
  refine (cmpA_any key k _).mono ?_
  rintro en w_ ⟨rfl, hw_⟩
  have hb0 : Below w.heap.size w w_ := bnext (by go_grown) hw_
  clear hw_
  rw [HX.out]
  clear hcf
  go_upto_region 8 with (fail)
  refine wp_at (fun Z => Below w.heap.size w Z) (by go_grown) ?_
  rintro w2 hb2
  clear hb0
  have hB2 := HB.out.below hb2
  have hG2 := HG.out.below hb2
  have HG := Lib.hid hG2
  have hK2 := HKb.out.below hb2
  have hV2 := HVb.out.below hb2
  have kc := hK2.cell
  have vc := hV2.cell
  have kl := hK2.lt
  have vl := hV2.lt
  have cL := hB2.cell
  have qL := hB2.lt
  have cG := hG2.cell
  have qG := hG2.lt
  have HL := Lib.hid (HL.out.below hb2)
  have HR := Lib.hid (HR.out.below hb2)
  clear hB2 hG2 hK2 hV2
  go_wp2_with fail
  (refine region_keep (fun x => x < w2.heap.size) 13 [(0, true), (1, true), (2, true), (3, true), (4, true), (5, true), (6, true), (7, true), (8, true), (9, true), (10, true), (11, true), (12, true)] (by kernel_rfl) (fun _ _ d _ _ h => by cases d <;> exact h) (by kernel_rfl) ?_; simp only [withOps, List.getElem?_toArray, List.getElem?_cons_zero, List.getElem?_cons_succ, List.drop_succ_cons, List.drop_zero])
  (iterate 13 (refine keep_quiet (v := ?_) rfl ?_ ?_; rotate_left; (focus (intro w' hw'; go_simp; (try with_reducible rfl); done)); try simp only [Act.put, List.setIfInBounds_toArray, List.set_cons_zero, List.set_cons_succ]))
  (with_reducible refine plan_end ?_)
  (try simp only [Act.put, List.setIfInBounds_toArray, List.set_cons_zero, List.set_cons_succ])
  go_wp2_with fail
  refine (with_any k val l r _ _ _ HL.out.drew HR.out.drew (by omega)).mono ?_
  rintro en w9 ⟨p9, rfl, hT9, hb9⟩
  have HB9 := hb2.drew.trans (hb9.mono hb2.size)
  have HT9 := Lib.hid hT9
  clear hT9 hb9
  go_wp2_with fail
  go_returns
  exact ⟨_, rfl, HT9.out, HBA.out.trans (HB9.mono HBA.out.size)⟩

theorem many_put (c : Kx → Kx → Int) (key : Kx) (val : Vx) : ∀ t : Tr, (put c key val t).many ≤ t.many + 1
  | .nil => Nat.le_refl _
  | .node l k v r => by
    have h1 := many_put c key val l
    have h2 := many_put c key val r
    unfold put
    split
    · rw [many_even]; simp only [T.many]; omega
    · split
      · rw [many_even]; simp only [T.many]; omega
      · simp only [T.many]; omega
theorem put_any (g : Nat) (root : Option Addr) (key : Kx) (val : Vx) : ∀ (t : Tr) (a : Option Addr) (w : World), Blk w g 126 #[cmpV, .pointer root] → TreeAt w t a → t.many ≤ 4611686018427386000 →
    Calls Try.prog 63 #[.pointer (some ⟨g, 0, none⟩), .pointer a, .agg #[.string key.k, .int .i64 key.s, .int .i64 key.e], .agg #[.string val.key, .int .i64 val.s, .int .i64 val.e, .int .i64 val.kind, .int .i64 val.nth, .int .i64 val.count, .int .i64 val.sum, .int .i64 val.min, .int .i64 val.max]] w (PtrR (put cA key val t) w)
  | .nil, a, w, _, ht, _ => put_nil g a key val w ht
  | .node l k v r, a, w, hg, ht, hN => by
    have hm : l.many + r.many + 1 ≤ 4611686018427386000 := hN
    have m1 := many_put cA key val l
    have m2 := many_put cA key val r
    unfold put
    split
    · rename_i h
      exact put_lt g root key val l r k v a w hg ht (by omega) h _ (by omega) (fun a w hg ht => put_any g root key val l a w hg ht (by omega))
    · rename_i h
      split
      · rename_i h2
        exact put_gt g root key val l r k v a w hg ht (by omega) h2 _ (by omega) (fun a w hg ht => put_any g root key val r a w hg ht (by omega))
      · rename_i h2
        exact put_eq g root key val l r k v a w hg ht (by omega) (by omega)
end Go.Proofs.Ytbkofiflfcfjfaa.Px
