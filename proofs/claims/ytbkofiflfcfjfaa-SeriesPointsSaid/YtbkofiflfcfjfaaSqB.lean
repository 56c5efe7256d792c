/- Store: even. -/
import Derived.Test.YtbkofiflfcfjfaaSqA
set_option linter.unusedSimpArgs false
set_option linter.unusedVariables false
namespace Go.Proofs.Ytbkofiflfcfjfaa.Px
open Go.RowKit Go.Kp Go.St

set_option maxRecDepth 100000 in
set_option maxHeartbeats 8000000 in
theorem even_A1 (k : Kx) (v : Vx) (lk : Kx) (lv : Vx) (ll lr r : Tr) (pl pr : Option Addr) (wA : World) (hlA : TreeAt wA (.node ll lk lv lr) pl) (hrA : TreeAt wA r pr) (hN : T.many (.node ll lk lv lr) + T.many r ≤ 4611686018427387904) (h1 : r.high + 1 < (T.node ll lk lv lr).high) (h2 : lr.high ≤ ll.high) :
    Calls Try.prog 67 #[.agg #[.string k.k, .int .i64 k.s, .int .i64 k.e], .agg #[.string v.key, .int .i64 v.s, .int .i64 v.e, .int .i64 v.kind, .int .i64 v.nth, .int .i64 v.count, .int .i64 v.sum, .int .i64 v.min, .int .i64 v.max], .pointer pl, .pointer pr] wA (PtrR (.node ll lk lv (.node lr k v r)) wA) := by
  go_enter Try.func67, Try.ntmps67
  go_upto_region 1 with (fail)
  refine wp_at (fun Z => Blk Z wA.heap.size 112 (keyC k) ∧ Blk Z (wA.heap.size + 1) 92 (valC v) ∧ Below wA.heap.size wA Z) boxed ?_
  rintro w ⟨hKb, hVb, hBA⟩
  have kc := hKb.cell
  have vc := hVb.cell
  have kl := hKb.lt
  have vl := hVb.lt
  have HKb := Lib.hid hKb
  have HVb := Lib.hid hVb
  have HBA := Lib.hid hBA
  have hl := hlA.below hBA
  have hr := hrA.below hBA
  clear hKb hVb hBA hlA hrA
  have HL := Lib.hid hl
  have HR := Lib.hid hr
  have hm : ll.many + lr.many + 1 + r.many ≤ 4611686018427387904 := hN
  have hh := T.high_le (T.node ll lk lv lr)
  have hh2 := T.high_le r
  have hh3 := T.high_le ll
  have hh4 := T.high_le lr
  have g1 : ((r.high : Int) + 1) < ((T.node ll lk lv lr).high : Int) := by omega
  have g2 : (lr.high : Int) ≤ ll.high := by omega
  obtain ⟨bl, al, ar, rfl, hB, hll, hlr⟩ := hl
  have HLL := Lib.hid hll
  have HLR := Lib.hid hlr
  have cL := hB.cell
  have qL := hB.lt
  clear hr hll hlr
  go_wp2_with fail
  refine (high_any _ _ _ HL.out).mono ?_
  rintro en w_ ⟨rfl, hw_⟩
  obtain rfl : w = w_ := hw_.symm
  go_wp2_with fail
  refine (high_any r _ _ HR.out).mono ?_
  rintro en w_ ⟨rfl, hw_⟩
  obtain rfl : w = w_ := hw_.symm
  go_wp2_with fail
  (refine region_keep (fun x => x < w.heap.size) 9 [(0, true), (1, true), (2, true), (3, true), (5, true), (6, true), (7, true), (8, true), (4, false)] (by kernel_rfl) (fun _ _ d _ _ h => by cases d <;> exact h) (by kernel_rfl) ?_; simp only [withOps, List.getElem?_toArray, List.getElem?_cons_zero, List.getElem?_cons_succ, List.drop_succ_cons, List.drop_zero])
  (iterate 8 (refine keep_quiet (v := ?_) rfl ?_ ?_; rotate_left; (focus (intro w' hw'; go_simp; (try with_reducible rfl); done)); try simp only [Act.put, List.setIfInBounds_toArray, List.set_cons_zero, List.set_cons_succ]))
  (with_reducible refine plan_loud (fun K hK => ?_))
  go_simp
  refine (high_any ll _ _ HLL.out.drew).mono ?_
  rintro en w_ ⟨rfl, hw_⟩
  obtain rfl : w.drew = w_ := hw_.symm
  refine hK _ _ (Keep.refl _ _) ?_
  clear hK K
  (with_reducible refine plan_end ?_)
  (try simp only [Act.put, List.setIfInBounds_toArray, List.set_cons_zero, List.set_cons_succ])
  go_wp2_with fail
  refine (high_any lr _ _ HLR.out.drew).mono ?_
  rintro en w_ ⟨rfl, hw_⟩
  obtain rfl : w.drew = w_ := hw_.symm
  go_upto_region 4 with (fail)
  refine wp_at (fun Z => Below w.heap.size w Z) (by go_grown) ?_
  rintro w2 hb2
  have hK2 := HKb.out.below hb2
  have hV2 := HVb.out.below hb2
  have kc := hK2.cell
  have vc := hV2.cell
  have kl := hK2.lt
  have vl := hV2.lt
  clear hK2 hV2
  have hB2 := hB.below hb2
  have cL := hB2.cell
  have qL := hB2.lt
  have HLL := Lib.hid (HLL.out.below hb2)
  have HR := Lib.hid (HR.out.below hb2)
  have HLR := Lib.hid (HLR.out.below hb2)
  go_wp2_with fail
  (refine region_keep (fun x => x < w2.heap.size) 20 [(0, true), (1, true), (2, true), (3, true), (4, true), (5, true), (6, true), (7, true), (8, true), (9, true), (10, true), (11, true), (12, true), (13, true), (14, true), (15, true), (16, true), (17, true), (18, true), (19, false)] (by kernel_rfl) (fun _ _ d _ _ h => by cases d <;> exact h) (by kernel_rfl) ?_; simp only [withOps, List.getElem?_toArray, List.getElem?_cons_zero, List.getElem?_cons_succ, List.drop_succ_cons, List.drop_zero])
  (iterate 19 (refine keep_quiet (v := ?_) rfl ?_ ?_; rotate_left; (focus (intro w' hw'; go_simp; (try with_reducible rfl); done)); try simp only [Act.put, List.setIfInBounds_toArray, List.set_cons_zero, List.set_cons_succ]))
  (with_reducible refine plan_loud (fun K hK => ?_))
  go_simp
  refine (with_any k v lr r _ _ _ HLR.out.drew HR.out.drew (by omega)).mono ?_
  rintro en w3 ⟨p3, rfl, hT3, hb3⟩
  refine hK _ _ ((Keep.refl _ _).below hb3 (by intro x h; simpa using h)) ?_
  clear hK K
  have HT3 := Lib.hid hT3
  have HB3 := Lib.hid (hb2.drew.trans (hb3.mono hb2.size))
  have HLL := Lib.hid (HLL.out.drew.below hb3)
  clear hT3 hb3
  (with_reducible refine plan_end ?_)
  (try simp only [Act.put, List.setIfInBounds_toArray, List.set_cons_zero, List.set_cons_succ])
  go_wp2_with fail
  refine (with_any lk lv ll (.node lr k v r) _ _ _ HLL.out HT3.out (by simp only [T.many]; omega)).mono ?_
  rintro en w9 ⟨p9, rfl, hT9, hb9⟩
  have HB9 := bnext HB3.out hb9
  have HT9 := Lib.hid hT9
  clear hT9 hb9
  go_wp2_with fail
  go_returns
  exact ⟨_, rfl, HT9.out, HBA.out.trans (HB9.mono HBA.out.size)⟩

set_option maxRecDepth 100000 in
set_option maxHeartbeats 8000000 in
theorem even_A2 (k : Kx) (v : Vx) (lk : Kx) (lv : Vx) (mk : Kx) (mv : Vx) (ll ml mr r : Tr) (pl pr : Option Addr) (wA : World) (hlA : TreeAt wA (.node ll lk lv (.node ml mk mv mr)) pl) (hrA : TreeAt wA r pr) (hN : T.many (.node ll lk lv (.node ml mk mv mr)) + T.many r ≤ 4611686018427387904) (h1 : r.high + 1 < (T.node ll lk lv (.node ml mk mv mr)).high) (h2 : ll.high < (T.node ml mk mv mr).high) :
    Calls Try.prog 67 #[.agg #[.string k.k, .int .i64 k.s, .int .i64 k.e], .agg #[.string v.key, .int .i64 v.s, .int .i64 v.e, .int .i64 v.kind, .int .i64 v.nth, .int .i64 v.count, .int .i64 v.sum, .int .i64 v.min, .int .i64 v.max], .pointer pl, .pointer pr] wA (PtrR (.node (.node ll lk lv ml) mk mv (.node mr k v r)) wA) := by
  go_enter Try.func67, Try.ntmps67
  go_upto_region 1 with (fail)
  refine wp_at (fun Z => Blk Z wA.heap.size 112 (keyC k) ∧ Blk Z (wA.heap.size + 1) 92 (valC v) ∧ Below wA.heap.size wA Z) boxed ?_
  rintro w ⟨hKb, hVb, hBA⟩
  have kc := hKb.cell
  have vc := hVb.cell
  have kl := hKb.lt
  have vl := hVb.lt
  have HKb := Lib.hid hKb
  have HVb := Lib.hid hVb
  have HBA := Lib.hid hBA
  have hl := hlA.below hBA
  have hr := hrA.below hBA
  clear hKb hVb hBA hlA hrA
  have HL := Lib.hid hl
  have HR := Lib.hid hr
  have hm : ll.many + (T.node ml mk mv mr).many + 1 + r.many ≤ 4611686018427387904 := hN
  have hm2 : (T.node ml mk mv mr).many = ml.many + mr.many + 1 := rfl
  have hh := T.high_le (T.node ll lk lv (.node ml mk mv mr))
  have hh2 := T.high_le r
  have hh3 := T.high_le ll
  have hh4 := T.high_le (T.node ml mk mv mr)
  have g1 : ((r.high : Int) + 1) < ((T.node ll lk lv (.node ml mk mv mr)).high : Int) := by omega
  have g2 : ¬ ((T.node ml mk mv mr).high : Int) ≤ ll.high := by omega
  obtain ⟨bl, al, ar, rfl, hB, hll, hlr⟩ := hl
  have HLL := Lib.hid hll
  have HLR := Lib.hid hlr
  have cL := hB.cell
  have qL := hB.lt
  obtain ⟨bm, aml, amr, rfl, hBm, hml, hmr⟩ := hlr
  have HML := Lib.hid hml
  have HMR := Lib.hid hmr
  clear hr hll hml hmr
  go_wp2_with fail
  refine (high_any _ _ _ HL.out).mono ?_
  rintro en w_ ⟨rfl, hw_⟩
  obtain rfl : w = w_ := hw_.symm
  go_wp2_with fail
  refine (high_any r _ _ HR.out).mono ?_
  rintro en w_ ⟨rfl, hw_⟩
  obtain rfl : w = w_ := hw_.symm
  go_wp2_with fail
  (refine region_keep (fun x => x < w.heap.size) 9 [(0, true), (1, true), (2, true), (3, true), (5, true), (6, true), (7, true), (8, true), (4, false)] (by kernel_rfl) (fun _ _ d _ _ h => by cases d <;> exact h) (by kernel_rfl) ?_; simp only [withOps, List.getElem?_toArray, List.getElem?_cons_zero, List.getElem?_cons_succ, List.drop_succ_cons, List.drop_zero])
  (iterate 8 (refine keep_quiet (v := ?_) rfl ?_ ?_; rotate_left; (focus (intro w' hw'; go_simp; (try with_reducible rfl); done)); try simp only [Act.put, List.setIfInBounds_toArray, List.set_cons_zero, List.set_cons_succ]))
  (with_reducible refine plan_loud (fun K hK => ?_))
  go_simp
  refine (high_any ll _ _ HLL.out.drew).mono ?_
  rintro en w_ ⟨rfl, hw_⟩
  obtain rfl : w.drew = w_ := hw_.symm
  refine hK _ _ (Keep.refl _ _) ?_
  clear hK K
  (with_reducible refine plan_end ?_)
  (try simp only [Act.put, List.setIfInBounds_toArray, List.set_cons_zero, List.set_cons_succ])
  go_wp2_with fail
  refine (high_any (T.node ml mk mv mr) _ _ HLR.out.drew).mono ?_
  rintro en w_ ⟨rfl, hw_⟩
  obtain rfl : w.drew = w_ := hw_.symm
  go_upto_region 5 with (fail)
  refine wp_at (fun Z => Below w.heap.size w Z) (by go_grown) ?_
  rintro w2 hb2
  have hK2 := HKb.out.below hb2
  have hV2 := HVb.out.below hb2
  have kc := hK2.cell
  have vc := hV2.cell
  have kl := hK2.lt
  have vl := hV2.lt
  clear hK2 hV2
  have hB2 := hB.below hb2
  have cL := hB2.cell
  have qL := hB2.lt
  have HLL := Lib.hid (HLL.out.below hb2)
  have HR := Lib.hid (HR.out.below hb2)
  have hBm2 := hBm.below hb2
  have cM := hBm2.cell
  have qM := hBm2.lt
  have HML := Lib.hid (HML.out.below hb2)
  have HMR := Lib.hid (HMR.out.below hb2)
  go_wp2_with fail
  (try simp only [List.append_eq, List.cons_append, List.nil_append])
  (refine region_keep (fun x => x < w2.heap.size) 33 [(0, true), (1, true), (2, true), (3, true), (4, true), (5, true), (6, true), (7, true), (8, true), (9, true), (10, true), (11, true), (12, true), (13, true), (14, true), (15, true), (16, true), (17, true), (18, true), (19, true), (20, true), (21, true), (22, true), (23, true), (25, true), (26, true), (27, true), (28, true), (29, true), (30, true), (31, true), (24, false), (32, false)] (by kernel_rfl) (fun _ _ d _ _ h => by cases d <;> exact h) (by kernel_rfl) ?_; simp only [withOps, List.getElem?_toArray, List.getElem?_cons_zero, List.getElem?_cons_succ, List.drop_succ_cons, List.drop_zero])
  (iterate 31 (refine keep_quiet (v := ?_) rfl ?_ ?_; rotate_left; (focus (intro w' hw'; go_simp; (try with_reducible rfl); done)); try simp only [Act.put, List.setIfInBounds_toArray, List.set_cons_zero, List.set_cons_succ]))
  (with_reducible refine plan_loud (fun K hK => ?_))
  go_simp
  refine (with_any lk lv ll ml _ _ _ HLL.out.drew HML.out.drew (by omega)).mono ?_
  rintro en w3 ⟨p3, rfl, hT3, hb3⟩
  refine hK _ _ ((Keep.refl _ _).below hb3 (by intro x h; simpa using h)) ?_
  clear hK K
  have HT3 := Lib.hid hT3
  have SZ := Lib.hid (show w2.heap.size ≤ w3.heap.size from hb3.size)
  have HB3 := Lib.hid (hb2.drew.trans (hb3.mono hb2.size))
  have HMR := Lib.hid (HMR.out.drew.below hb3)
  have HR := Lib.hid (HR.out.drew.below hb3)
  clear hT3 hb3
  (try simp only [Act.put, List.setIfInBounds_toArray, List.set_cons_zero, List.set_cons_succ])
  (with_reducible refine plan_loud (fun K hK => ?_))
  go_simp
  refine (with_any k v mr r _ _ _ HMR.out HR.out (by omega)).mono ?_
  rintro en w4 ⟨p4, rfl, hT3, hb3⟩
  refine hK _ _ ((Keep.refl _ _).below hb3 (by intro x h; have := SZ.out; omega)) ?_
  clear hK K
  have HT4 := Lib.hid hT3
  have HB4 := Lib.hid (bnext HB3.out hb3)
  have HT3 := Lib.hid (HT3.out.below hb3)
  clear hT3 hb3
  (with_reducible refine plan_end ?_)
  (try simp only [Act.put, List.setIfInBounds_toArray, List.set_cons_zero, List.set_cons_succ])
  go_wp2_with fail
  refine (with_any mk mv (.node ll lk lv ml) (.node mr k v r) _ _ _ HT3.out HT4.out (by simp only [T.many]; omega)).mono ?_
  rintro en w9 ⟨p9, rfl, hT9, hb9⟩
  have HB9 := bnext HB4.out hb9
  have HT9 := Lib.hid hT9
  clear hT9 hb9
  go_wp2_with fail
  go_returns
  exact ⟨_, rfl, HT9.out, HBA.out.trans (HB9.mono HBA.out.size)⟩

set_option maxRecDepth 100000 in
set_option maxHeartbeats 8000000 in
theorem even_B1 (k : Kx) (v : Vx) (rk : Kx) (rv : Vx) (l rl rr : Tr) (pl pr : Option Addr) (wA : World) (hlA : TreeAt wA l pl) (hrA : TreeAt wA (.node rl rk rv rr) pr) (hN : T.many l + T.many (.node rl rk rv rr) ≤ 4611686018427387904) (h0 : ¬ (T.node rl rk rv rr).high + 1 < l.high) (h1 : l.high + 1 < (T.node rl rk rv rr).high) (h2 : rl.high ≤ rr.high) :
    Calls Try.prog 67 #[.agg #[.string k.k, .int .i64 k.s, .int .i64 k.e], .agg #[.string v.key, .int .i64 v.s, .int .i64 v.e, .int .i64 v.kind, .int .i64 v.nth, .int .i64 v.count, .int .i64 v.sum, .int .i64 v.min, .int .i64 v.max], .pointer pl, .pointer pr] wA (PtrR (.node (.node l k v rl) rk rv rr) wA) := by
  go_enter Try.func67, Try.ntmps67
  go_upto_region 1 with (fail)
  refine wp_at (fun Z => Blk Z wA.heap.size 112 (keyC k) ∧ Blk Z (wA.heap.size + 1) 92 (valC v) ∧ Below wA.heap.size wA Z) boxed ?_
  rintro w ⟨hKb, hVb, hBA⟩
  have kc := hKb.cell
  have vc := hVb.cell
  have kl := hKb.lt
  have vl := hVb.lt
  have HKb := Lib.hid hKb
  have HVb := Lib.hid hVb
  have HBA := Lib.hid hBA
  have hl := hlA.below hBA
  have hr := hrA.below hBA
  clear hKb hVb hBA hlA hrA
  have HL := Lib.hid hl
  have HR := Lib.hid hr
  have hm : l.many + (rl.many + rr.many + 1) ≤ 4611686018427387904 := hN
  have hh := T.high_le (T.node rl rk rv rr)
  have hh2 := T.high_le l
  have hh3 := T.high_le rr
  have hh4 := T.high_le rl
  have g0 : ¬ (((T.node rl rk rv rr).high : Int) + 1) < (l.high : Int) := by omega
  have g1 : ((l.high : Int) + 1) < ((T.node rl rk rv rr).high : Int) := by omega
  have g2 : (rl.high : Int) ≤ rr.high := by omega
  obtain ⟨br, al, ar, rfl, hB, hrl, hrr⟩ := hr
  have HRL := Lib.hid hrl
  have HRR := Lib.hid hrr
  have cL := hB.cell
  have qL := hB.lt
  clear hl hrl hrr
  go_wp2_with fail
  refine (high_any l _ _ HL.out).mono ?_
  rintro en w_ ⟨rfl, hw_⟩
  obtain rfl : w = w_ := hw_.symm
  go_wp2_with fail
  refine (high_any _ _ _ HR.out).mono ?_
  rintro en w_ ⟨rfl, hw_⟩
  obtain rfl : w = w_ := hw_.symm
  go_wp2_with fail
  refine (high_any _ _ _ HR.out).mono ?_
  rintro en w_ ⟨rfl, hw_⟩
  obtain rfl : w = w_ := hw_.symm
  go_wp2_with fail
  refine (high_any l _ _ HL.out).mono ?_
  rintro en w_ ⟨rfl, hw_⟩
  obtain rfl : w = w_ := hw_.symm
  go_wp2_with fail
  (refine region_keep (fun x => x < w.heap.size) 9 [(0, true), (1, true), (2, true), (3, true), (5, true), (6, true), (7, true), (8, true), (4, false)] (by kernel_rfl) (fun _ _ d _ _ h => by cases d <;> exact h) (by kernel_rfl) ?_; simp only [withOps, List.getElem?_toArray, List.getElem?_cons_zero, List.getElem?_cons_succ, List.drop_succ_cons, List.drop_zero])
  (iterate 8 (refine keep_quiet (v := ?_) rfl ?_ ?_; rotate_left; (focus (intro w' hw'; go_simp; (try with_reducible rfl); done)); try simp only [Act.put, List.setIfInBounds_toArray, List.set_cons_zero, List.set_cons_succ]))
  (with_reducible refine plan_loud (fun K hK => ?_))
  go_simp
  refine (high_any rr _ _ HRR.out.drew).mono ?_
  rintro en w_ ⟨rfl, hw_⟩
  obtain rfl : w.drew = w_ := hw_.symm
  refine hK _ _ (Keep.refl _ _) ?_
  clear hK K
  (with_reducible refine plan_end ?_)
  (try simp only [Act.put, List.setIfInBounds_toArray, List.set_cons_zero, List.set_cons_succ])
  go_wp2_with fail
  refine (high_any rl _ _ HRL.out.drew).mono ?_
  rintro en w_ ⟨rfl, hw_⟩
  obtain rfl : w.drew = w_ := hw_.symm
  go_upto_region 10 with (fail)
  refine wp_at (fun Z => Below w.heap.size w Z) (by go_grown) ?_
  rintro w2 hb2
  have hK2 := HKb.out.below hb2
  have hV2 := HVb.out.below hb2
  have kc := hK2.cell
  have vc := hV2.cell
  have kl := hK2.lt
  have vl := hV2.lt
  clear hK2 hV2
  have hB2 := hB.below hb2
  have cL := hB2.cell
  have qL := hB2.lt
  have HRR := Lib.hid (HRR.out.below hb2)
  have HL := Lib.hid (HL.out.below hb2)
  have HRL := Lib.hid (HRL.out.below hb2)
  go_wp2_with fail
  (refine region_keep (fun x => x < w2.heap.size) 20 [(0, true), (1, true), (2, true), (3, true), (4, true), (5, true), (6, true), (7, true), (8, true), (9, true), (10, true), (11, true), (12, true), (13, true), (14, true), (16, true), (17, true), (18, true), (19, true), (15, false)] (by kernel_rfl) (fun _ _ d _ _ h => by cases d <;> exact h) (by kernel_rfl) ?_; simp only [withOps, List.getElem?_toArray, List.getElem?_cons_zero, List.getElem?_cons_succ, List.drop_succ_cons, List.drop_zero])
  (iterate 19 (refine keep_quiet (v := ?_) rfl ?_ ?_; rotate_left; (focus (intro w' hw'; go_simp; (try with_reducible rfl); done)); try simp only [Act.put, List.setIfInBounds_toArray, List.set_cons_zero, List.set_cons_succ]))
  (with_reducible refine plan_loud (fun K hK => ?_))
  go_simp
  refine (with_any k v l rl _ _ _ HL.out.drew HRL.out.drew (by omega)).mono ?_
  rintro en w3 ⟨p3, rfl, hT3, hb3⟩
  refine hK _ _ ((Keep.refl _ _).below hb3 (by intro x h; simpa using h)) ?_
  clear hK K
  have HT3 := Lib.hid hT3
  have HB3 := Lib.hid (hb2.drew.trans (hb3.mono hb2.size))
  have HRR := Lib.hid (HRR.out.drew.below hb3)
  clear hT3 hb3
  (with_reducible refine plan_end ?_)
  (try simp only [Act.put, List.setIfInBounds_toArray, List.set_cons_zero, List.set_cons_succ])
  go_wp2_with fail
  refine (with_any rk rv (.node l k v rl) rr _ _ _ HT3.out HRR.out (by simp only [T.many]; omega)).mono ?_
  rintro en w9 ⟨p9, rfl, hT9, hb9⟩
  have HB9 := bnext HB3.out hb9
  have HT9 := Lib.hid hT9
  clear hT9 hb9
  go_wp2_with fail
  go_returns
  exact ⟨_, rfl, HT9.out, HBA.out.trans (HB9.mono HBA.out.size)⟩

set_option maxRecDepth 100000 in
set_option maxHeartbeats 8000000 in
theorem even_B2 (k : Kx) (v : Vx) (rk : Kx) (rv : Vx) (mk : Kx) (mv : Vx) (l ml mr rr : Tr) (pl pr : Option Addr) (wA : World) (hlA : TreeAt wA l pl) (hrA : TreeAt wA (.node (.node ml mk mv mr) rk rv rr) pr) (hN : T.many l + T.many (.node (.node ml mk mv mr) rk rv rr) ≤ 4611686018427387904) (h0 : ¬ (T.node (.node ml mk mv mr) rk rv rr).high + 1 < l.high) (h1 : l.high + 1 < (T.node (.node ml mk mv mr) rk rv rr).high) (h2 : rr.high < (T.node ml mk mv mr).high) :
    Calls Try.prog 67 #[.agg #[.string k.k, .int .i64 k.s, .int .i64 k.e], .agg #[.string v.key, .int .i64 v.s, .int .i64 v.e, .int .i64 v.kind, .int .i64 v.nth, .int .i64 v.count, .int .i64 v.sum, .int .i64 v.min, .int .i64 v.max], .pointer pl, .pointer pr] wA (PtrR (.node (.node l k v ml) mk mv (.node mr rk rv rr)) wA) := by
  go_enter Try.func67, Try.ntmps67
  go_upto_region 1 with (fail)
  refine wp_at (fun Z => Blk Z wA.heap.size 112 (keyC k) ∧ Blk Z (wA.heap.size + 1) 92 (valC v) ∧ Below wA.heap.size wA Z) boxed ?_
  rintro w ⟨hKb, hVb, hBA⟩
  have kc := hKb.cell
  have vc := hVb.cell
  have kl := hKb.lt
  have vl := hVb.lt
  have HKb := Lib.hid hKb
  have HVb := Lib.hid hVb
  have HBA := Lib.hid hBA
  have hl := hlA.below hBA
  have hr := hrA.below hBA
  clear hKb hVb hBA hlA hrA
  have HL := Lib.hid hl
  have HR := Lib.hid hr
  have hm : l.many + ((T.node ml mk mv mr).many + rr.many + 1) ≤ 4611686018427387904 := hN
  have hm2 : (T.node ml mk mv mr).many = ml.many + mr.many + 1 := rfl
  have hh := T.high_le (T.node (.node ml mk mv mr) rk rv rr)
  have hh2 := T.high_le l
  have hh3 := T.high_le rr
  have hh4 := T.high_le (T.node ml mk mv mr)
  have g0 : ¬ (((T.node (.node ml mk mv mr) rk rv rr).high : Int) + 1) < (l.high : Int) := by omega
  have g1 : ((l.high : Int) + 1) < ((T.node (.node ml mk mv mr) rk rv rr).high : Int) := by omega
  have g2 : ¬ ((T.node ml mk mv mr).high : Int) ≤ rr.high := by omega
  obtain ⟨br, al, ar, rfl, hB, hrl, hrr⟩ := hr
  have HRL := Lib.hid hrl
  have HRR := Lib.hid hrr
  have cL := hB.cell
  have qL := hB.lt
  obtain ⟨bm, aml, amr, rfl, hBm, hml, hmr⟩ := hrl
  have HML := Lib.hid hml
  have HMR := Lib.hid hmr
  clear hl hrr hml hmr
  go_wp2_with fail
  refine (high_any l _ _ HL.out).mono ?_
  rintro en w_ ⟨rfl, hw_⟩
  obtain rfl : w = w_ := hw_.symm
  go_wp2_with fail
  refine (high_any _ _ _ HR.out).mono ?_
  rintro en w_ ⟨rfl, hw_⟩
  obtain rfl : w = w_ := hw_.symm
  go_wp2_with fail
  refine (high_any _ _ _ HR.out).mono ?_
  rintro en w_ ⟨rfl, hw_⟩
  obtain rfl : w = w_ := hw_.symm
  go_wp2_with fail
  refine (high_any l _ _ HL.out).mono ?_
  rintro en w_ ⟨rfl, hw_⟩
  obtain rfl : w = w_ := hw_.symm
  go_wp2_with fail
  (refine region_keep (fun x => x < w.heap.size) 9 [(0, true), (1, true), (2, true), (3, true), (5, true), (6, true), (7, true), (8, true), (4, false)] (by kernel_rfl) (fun _ _ d _ _ h => by cases d <;> exact h) (by kernel_rfl) ?_; simp only [withOps, List.getElem?_toArray, List.getElem?_cons_zero, List.getElem?_cons_succ, List.drop_succ_cons, List.drop_zero])
  (iterate 8 (refine keep_quiet (v := ?_) rfl ?_ ?_; rotate_left; (focus (intro w' hw'; go_simp; (try with_reducible rfl); done)); try simp only [Act.put, List.setIfInBounds_toArray, List.set_cons_zero, List.set_cons_succ]))
  (with_reducible refine plan_loud (fun K hK => ?_))
  go_simp
  refine (high_any rr _ _ HRR.out.drew).mono ?_
  rintro en w_ ⟨rfl, hw_⟩
  obtain rfl : w.drew = w_ := hw_.symm
  refine hK _ _ (Keep.refl _ _) ?_
  clear hK K
  (with_reducible refine plan_end ?_)
  (try simp only [Act.put, List.setIfInBounds_toArray, List.set_cons_zero, List.set_cons_succ])
  go_wp2_with fail
  refine (high_any (T.node ml mk mv mr) _ _ HRL.out.drew).mono ?_
  rintro en w_ ⟨rfl, hw_⟩
  obtain rfl : w.drew = w_ := hw_.symm
  go_upto_region 11 with (fail)
  refine wp_at (fun Z => Below w.heap.size w Z) (by go_grown) ?_
  rintro w2 hb2
  have hK2 := HKb.out.below hb2
  have hV2 := HVb.out.below hb2
  have kc := hK2.cell
  have vc := hV2.cell
  have kl := hK2.lt
  have vl := hV2.lt
  clear hK2 hV2
  have hB2 := hB.below hb2
  have cL := hB2.cell
  have qL := hB2.lt
  have HRR := Lib.hid (HRR.out.below hb2)
  have HL := Lib.hid (HL.out.below hb2)
  have hBm2 := hBm.below hb2
  have cM := hBm2.cell
  have qM := hBm2.lt
  have HML := Lib.hid (HML.out.below hb2)
  have HMR := Lib.hid (HMR.out.below hb2)
  go_wp2_with fail
  (try simp only [List.append_eq, List.cons_append, List.nil_append])
  (refine region_keep (fun x => x < w2.heap.size) 33 [(0, true), (1, true), (2, true), (3, true), (4, true), (5, true), (6, true), (7, true), (8, true), (9, true), (10, true), (11, true), (12, true), (13, true), (14, true), (16, true), (17, true), (18, true), (19, true), (20, true), (21, true), (22, true), (23, true), (24, true), (25, true), (26, true), (27, true), (28, true), (29, true), (30, true), (31, true), (15, false), (32, false)] (by kernel_rfl) (fun _ _ d _ _ h => by cases d <;> exact h) (by kernel_rfl) ?_; simp only [withOps, List.getElem?_toArray, List.getElem?_cons_zero, List.getElem?_cons_succ, List.drop_succ_cons, List.drop_zero])
  (iterate 31 (refine keep_quiet (v := ?_) rfl ?_ ?_; rotate_left; (focus (intro w' hw'; go_simp; (try with_reducible rfl); done)); try simp only [Act.put, List.setIfInBounds_toArray, List.set_cons_zero, List.set_cons_succ]))
  (with_reducible refine plan_loud (fun K hK => ?_))
  go_simp
  refine (with_any k v l ml _ _ _ HL.out.drew HML.out.drew (by omega)).mono ?_
  rintro en w3 ⟨p3, rfl, hT3, hb3⟩
  refine hK _ _ ((Keep.refl _ _).below hb3 (by intro x h; simpa using h)) ?_
  clear hK K
  have HT3 := Lib.hid hT3
  have SZ := Lib.hid (show w2.heap.size ≤ w3.heap.size from hb3.size)
  have HB3 := Lib.hid (hb2.drew.trans (hb3.mono hb2.size))
  have HMR := Lib.hid (HMR.out.drew.below hb3)
  have HRR := Lib.hid (HRR.out.drew.below hb3)
  clear hT3 hb3
  (try simp only [Act.put, List.setIfInBounds_toArray, List.set_cons_zero, List.set_cons_succ])
  (with_reducible refine plan_loud (fun K hK => ?_))
  go_simp
  refine (with_any rk rv mr rr _ _ _ HMR.out HRR.out (by omega)).mono ?_
  rintro en w4 ⟨p4, rfl, hT3, hb3⟩
  refine hK _ _ ((Keep.refl _ _).below hb3 (by intro x h; have := SZ.out; omega)) ?_
  clear hK K
  have HT4 := Lib.hid hT3
  have HB4 := Lib.hid (bnext HB3.out hb3)
  have HT3 := Lib.hid (HT3.out.below hb3)
  clear hT3 hb3
  (with_reducible refine plan_end ?_)
  (try simp only [Act.put, List.setIfInBounds_toArray, List.set_cons_zero, List.set_cons_succ])
  go_wp2_with fail
  refine (with_any mk mv (.node l k v ml) (.node mr rk rv rr) _ _ _ HT3.out HT4.out (by simp only [T.many]; omega)).mono ?_
  rintro en w9 ⟨p9, rfl, hT9, hb9⟩
  have HB9 := bnext HB4.out hb9
  have HT9 := Lib.hid hT9
  clear hT9 hb9
  go_wp2_with fail
  go_returns
  exact ⟨_, rfl, HT9.out, HBA.out.trans (HB9.mono HBA.out.size)⟩

set_option maxRecDepth 100000 in
set_option maxHeartbeats 8000000 in
theorem even_C (k : Kx) (v : Vx) (l r : Tr) (pl pr : Option Addr) (wA : World) (hlA : TreeAt wA l pl) (hrA : TreeAt wA r pr) (hN : T.many l + T.many r ≤ 4611686018427387904) (h0 : ¬ r.high + 1 < l.high) (h1 : ¬ l.high + 1 < r.high) :
    Calls Try.prog 67 #[.agg #[.string k.k, .int .i64 k.s, .int .i64 k.e], .agg #[.string v.key, .int .i64 v.s, .int .i64 v.e, .int .i64 v.kind, .int .i64 v.nth, .int .i64 v.count, .int .i64 v.sum, .int .i64 v.min, .int .i64 v.max], .pointer pl, .pointer pr] wA (PtrR (.node l k v r) wA) := by
  go_enter Try.func67, Try.ntmps67
  go_upto_region 1 with (fail)
  refine wp_at (fun Z => Blk Z wA.heap.size 112 (keyC k) ∧ Blk Z (wA.heap.size + 1) 92 (valC v) ∧ Below wA.heap.size wA Z) boxed ?_
  rintro w ⟨hKb, hVb, hBA⟩
  have kc := hKb.cell
  have vc := hVb.cell
  have kl := hKb.lt
  have vl := hVb.lt
  have HKb := Lib.hid hKb
  have HVb := Lib.hid hVb
  have HBA := Lib.hid hBA
  have hl := hlA.below hBA
  have hr := hrA.below hBA
  clear hKb hVb hBA hlA hrA
  have HL := Lib.hid hl
  have HR := Lib.hid hr
  have hh := T.high_le r
  have hh2 := T.high_le l
  have g0 : ¬ ((r.high : Int) + 1) < (l.high : Int) := by omega
  have g1 : ¬ ((l.high : Int) + 1) < (r.high : Int) := by omega
  clear hl hr
  go_wp2_with fail
  refine (high_any l _ _ HL.out).mono ?_
  rintro en w_ ⟨rfl, hw_⟩
  obtain rfl : w = w_ := hw_.symm
  go_wp2_with fail
  refine (high_any r _ _ HR.out).mono ?_
  rintro en w_ ⟨rfl, hw_⟩
  obtain rfl : w = w_ := hw_.symm
  go_wp2_with fail
  refine (high_any r _ _ HR.out).mono ?_
  rintro en w_ ⟨rfl, hw_⟩
  obtain rfl : w = w_ := hw_.symm
  go_wp2_with fail
  refine (high_any l _ _ HL.out).mono ?_
  rintro en w_ ⟨rfl, hw_⟩
  obtain rfl : w = w_ := hw_.symm
  go_wp2_with fail
  refine (with_any k v l r _ _ _ HL.out HR.out (by omega)).mono ?_
  rintro en w9 ⟨p9, rfl, hT9, hb9⟩
  have HT9 := Lib.hid hT9
  have HB9 := hb9
  clear hT9 hb9
  go_wp2_with fail
  go_returns
  exact ⟨_, rfl, HT9.out, HBA.out.trans (HB9.mono HBA.out.size)⟩

theorem even_any (k : Kx) (v : Vx) (l r : Tr) (pl pr : Option Addr) (w : World) (hl : TreeAt w l pl) (hr : TreeAt w r pr) (hN : l.many + r.many ≤ 4611686018427387904) :
    Calls Try.prog 67 #[.agg #[.string k.k, .int .i64 k.s, .int .i64 k.e], .agg #[.string v.key, .int .i64 v.s, .int .i64 v.e, .int .i64 v.kind, .int .i64 v.nth, .int .i64 v.count, .int .i64 v.sum, .int .i64 v.min, .int .i64 v.max], .pointer pl, .pointer pr] w (PtrR (even k v l r) w) := by
  unfold even
  split
  · rename_i h1
    cases l with
    | nil => exact absurd h1 (by simp [T.high])
    | node ll lk lv lr =>
      simp only
      split
      · rename_i h2; exact even_A1 k v lk lv ll lr r pl pr w hl hr hN h1 h2
      · rename_i h2
        cases lr with
        | nil => exact absurd h2 (by simp [T.high])
        | node ml mk mv mr => exact even_A2 k v lk lv mk mv ll ml mr r pl pr w hl hr hN h1 (by omega)
  · rename_i h0
    split
    · rename_i h1
      cases r with
      | nil => exact absurd h1 (by simp [T.high])
      | node rl rk rv rr =>
        simp only
        split
        · rename_i h2; exact even_B1 k v rk rv l rl rr pl pr w hl hr hN h0 h1 h2
        · rename_i h2
          cases rl with
          | nil => exact absurd h2 (by simp [T.high])
          | node ml mk mv mr => exact even_B2 k v rk rv mk mv l ml mr rr pl pr w hl hr hN h0 h1 (by omega)
    · rename_i h1
      exact even_C k v l r pl pr w hl hr hN h0 h1
end Go.Proofs.Ytbkofiflfcfjfaa.Px
