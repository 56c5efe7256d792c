/- Panes by windows: a map in memory; none, Get. -/
import Derived.Test.YtbkofiflfcfjfaaSqC
set_option linter.unusedSimpArgs false
set_option linter.unusedVariables false
namespace Go.Proofs.Ytbkofiflfcfjfaa.Px
open Go.RowKit Go.Kp Go.St

theorem TreeAt.unique {w : World} : ∀ {t t' : Tr} {a : Option Addr}, TreeAt w t a → TreeAt w t' a → t = t'
  | .nil, .nil, _, _, _ => rfl
  | .nil, .node .., _, h, ⟨_, _, _, h', _⟩ => by rw [show _ = none from h] at h'; cases h'
  | .node .., .nil, _, ⟨_, _, _, h, _⟩, h' => by rw [show _ = none from h'] at h; cases h
  | .node l k v r, .node l' k' v' r', a, ⟨b, pl, pr, h1, h2, h3, h4⟩, ⟨b', pl', pr', h1', h2', h3', h4'⟩ => by
    rw [h1] at h1'
    have hb : b = b' := by injection h1' with h; injection h
    subst hb
    have hc := h2.symm.trans h2'
    injection hc with hc
    injection hc with hc
    have hc' : nodeC k v pl pr (T.node l k v r).high (T.node l k v r).many = nodeC k' v' pl' pr' (T.node l' k' v' r').high (T.node l' k' v' r').many := hc
    obtain ⟨kk, ks, ke⟩ := k
    obtain ⟨kk', ks', ke'⟩ := k'
    obtain ⟨v0, v1, v2, v3, v4, v5, v6, v7, v8⟩ := v
    obtain ⟨v0', v1', v2', v3', v4', v5', v6', v7', v8'⟩ := v'
    have e0 := congrArg (fun x => x[0]?) hc'
    have e1 := congrArg (fun x => x[1]?) hc'
    have e2 := congrArg (fun x => x[2]?) hc'
    have e3 := congrArg (fun x => x[3]?) hc'
    have e4 := congrArg (fun x => x[4]?) hc'
    have e5 := congrArg (fun x => x[5]?) hc'
    have e6 := congrArg (fun x => x[6]?) hc'
    have e7 := congrArg (fun x => x[7]?) hc'
    have e8 := congrArg (fun x => x[8]?) hc'
    have e9 := congrArg (fun x => x[9]?) hc'
    have e10 := congrArg (fun x => x[10]?) hc'
    have e11 := congrArg (fun x => x[11]?) hc'
    have e12 := congrArg (fun x => x[12]?) hc'
    have e13 := congrArg (fun x => x[13]?) hc'
    simp at e0 e1 e2 e3 e4 e5 e6 e7 e8 e9 e10 e11 e12 e13
    subst e0
    subst e1
    subst e2
    subst e3
    subst e4
    subst e5
    subst e6
    subst e7
    subst e8
    subst e9
    subst e10
    subst e11
    subst e12
    subst e13
    rw [TreeAt.unique h3 h3', TreeAt.unique h4 h4']
open Classical in
noncomputable def sizeAt (w : World) (v : Value) : Nat := if h : ∃ t : Tr, ∃ a, v = .pointer a ∧ TreeAt w t a then (Classical.choose h).many else 0
theorem sizeAt_eq {w : World} {t : Tr} {a : Option Addr} (h : TreeAt w t a) : sizeAt w (.pointer a) = t.many := by
  have hx : ∃ t : Tr, ∃ a', Value.pointer a = .pointer a' ∧ TreeAt w t a' := ⟨t, a, rfl, h⟩
  unfold sizeAt
  rw [dif_pos hx]
  obtain ⟨a', h1, h2⟩ := Classical.choose_spec hx
  injection h1 with h1
  subst h1
  rw [TreeAt.unique h2 h]


theorem func_nil (w : World) : (binOp .eql 116 cmpV .nilFunc).run Try.prog w = .ok (.bool false) w := by kernel_rfl
/-- A map that holds this tree. -/
structure MapAt (w : World) (g : Nat) (t : Tr) : Prop where
  srt : Sorted cA t.toL
  few : t.many ≤ 4611686018427386000
  cells : ∃ a, Blk w g 126 #[cmpV, .pointer a] ∧ TreeAt w t a
theorem MapAt.below {w w' : World} {g : Nat} {t : Tr} (h : MapAt w g t) (hb : Below w.heap.size w w') : MapAt w' g t := by
  obtain ⟨a, h1, h2⟩ := h.cells
  exact ⟨h.srt, h.few, a, h1.below hb, h2.below hb⟩
theorem none_any {g : Nat} (a : Option Addr) (w : World) (hg : Blk w g 126 #[cmpV, .pointer a]) :
    Calls Try.prog 62 #[.pointer (some ⟨g, 0, none⟩)] w fun e w' => e = .returned (.bool false) ∧ w' = w := by
  have hf := func_nil
  have cG := hg.cell 0
  clear hg
  go_enter Try.func62, Try.ntmps62
  go_wp2
  go_returns
  exact ⟨rfl, rfl⟩
/-- A value is boxed over nought. -/
theorem set_val {w : World} {b : Nat} {cs : Array Value} (v : Vx) (hb : Blk w b 92 cs) (hs : cs.size = 9) :
    Blk (((((((((w.setCell ⟨b, 0, none⟩ (.string v.key)).setCell ⟨b, 1, none⟩ (.int .i64 v.s)).setCell ⟨b, 2, none⟩ (.int .i64 v.e)).setCell ⟨b, 3, none⟩ (.int .i64 v.kind)).setCell ⟨b, 4, none⟩ (.int .i64 v.nth)).setCell ⟨b, 5, none⟩ (.int .i64 v.count)).setCell ⟨b, 6, none⟩ (.int .i64 v.sum)).setCell ⟨b, 7, none⟩ (.int .i64 v.min)).setCell ⟨b, 8, none⟩ (.int .i64 v.max)) b 92 (valC v) := by
  obtain ⟨l⟩ := cs
  match l, hs with
  | [a0, a1, a2, a3, a4, a5, a6, a7, a8], _ =>
    unfold Blk at hb ⊢
    simp only [heap_set_same, hb, Option.map_some, putO_cells, List.setIfInBounds_toArray, List.set_cons_zero, List.set_cons_succ]

theorem body_at {P : Program} {f : Func} {Q : Ending → World → Prop} {e : Exit} {a : Act} {w : World} (S : World → Prop) (hS : S w) (h : ∀ Z, S Z → bodyPost P f Q e a Z) : bodyPost P f Q e a w := h w hS

set_option maxRecDepth 100000 in
set_option maxHeartbeats 8000000 in
theorem Get_any {g : Nat} {t : Tr} {wA : World} (hM : MapAt wA g t) (key : Kx) : Calls Try.prog 61 #[.pointer (some ⟨g, 0, none⟩), .agg #[.string key.k, .int .i64 key.s, .int .i64 key.e]] wA fun e w' => ∃ (v : Vx) (b : Bool), e = .returned (.tuple #[.agg (valC v), .bool b]) ∧ Below wA.heap.size wA w' := by
  obtain ⟨a, hgA, htA⟩ := hM.cells
  have HTA := Lib.hid htA
  have HGA := Lib.hid hgA
  clear hM htA hgA
  go_enter Try.func61, Try.ntmps61
  go_upto_region 2 with (fail)
  refine wp_at (fun Z => Blk Z wA.heap.size 112 (keyC key) ∧ Blk Z (wA.heap.size + 1) 92 (valC Pn.zero) ∧ Blk Z (wA.heap.size + 1 + 1) 92 (valC Pn.zero) ∧ Below wA.heap.size wA Z) ⟨by simp (disch := (first | omega | (simp only [World.size_alloc, World.size_setCell, World.size_drew] <;> omega) | fail)) only [Blk, heap_old, heap_at, heap_set_same, heap_set_ne, heap_drew', Option.map_some, putO_cells], by simp (disch := (first | omega | (simp only [World.size_alloc, World.size_setCell, World.size_drew] <;> omega) | fail)) only [Blk, heap_old, heap_at, heap_set_same, heap_set_ne, heap_drew', Option.map_some, putO_cells], by simp (disch := (first | omega | (simp only [World.size_alloc, World.size_setCell, World.size_drew] <;> omega) | fail)) only [Blk, heap_old, heap_at, heap_set_same, heap_set_ne, heap_drew', Option.map_some, putO_cells], by go_grown⟩ ?_
  rintro w ⟨hKb, hVb, hNb, hBA⟩
  have HKb := Lib.hid hKb
  have HVb := Lib.hid hVb
  have HNb := Lib.hid hNb
  have HBA := Lib.hid hBA
  have HG := Lib.hid (HGA.out.below hBA)
  have HT := Lib.hid (HTA.out.below hBA)
  have cG := HG.out.cell
  have qG := HG.out.lt
  clear hKb hVb hNb hBA HGA HTA
  go_wp2_with fail
  refine (none_any a _ HG.out).mono ?_
  rintro en w_ ⟨rfl, hw_⟩
  obtain rfl : w = w_ := hw_.symm
  go_wp2_with fail
  clear cG qG
  go_loopw [7, 8] (fun n _ wr => ∃ (sub : Tr) (a : Option Addr), n = .pointer a ∧ TreeAt wr sub a ∧ Blk wr wA.heap.size 112 (keyC key) ∧ Blk wr (wA.heap.size + 1) 92 (valC Pn.zero) ∧ Blk wr (wA.heap.size + 1 + 1) 92 (valC Pn.zero) ∧ Below w.heap.size w wr) (fun n _ wr => sizeAt wr n)
  case atStart => exact ⟨t, a, rfl, HT.out, HKb.out, HVb.out, HNb.out, by go_grown⟩
  case round =>
    rename World => wr
    obtain ⟨sub, a', rfl, hT, hK, hV, hNn, hB⟩ := hrel
    have HT' := Lib.hid hT
    have HB := Lib.hid hB
    cases sub with
    | nil =>
      obtain rfl : a' = none := hT
      have cV := hV.cell
      have fV := hV.free
      have qV := hV.lt
      have cN := hNn.cell
      have qN := hNn.lt
      have HV := Lib.hid hV
      clear hK hV hNn hB
      go_wp2_with fail
      have hBA := HBA.out.trans (HB.out.mono HBA.out.size)
      refine body_at (fun Z => Blk Z (wA.heap.size + 1) 92 (valC Pn.zero) ∧ Below wA.heap.size wA Z) ?_ ?_
      · have hT := set_val Pn.zero HV.out rfl
        exact ⟨hT, by go_grown⟩
      rintro Z ⟨hZ, hBZ⟩
      have cZ := hZ.cell
      clear hZ
      refine bodyPost_ret (v := .tuple #[.agg (valC Pn.zero), .bool false]) (by simp [results, Try.results61, go_sem, cZ]; done) rfl ⟨Pn.zero, false, rfl, hBZ⟩
    | node l k v r =>
      obtain ⟨b, al, ar, rfl, hBk, hl, hr⟩ := hT
      have HBk := Lib.hid hBk
      have HL := Lib.hid hl
      have HR := Lib.hid hr
      have HK := Lib.hid hK
      have HV := Lib.hid hV
      have HN := Lib.hid hNn
      have cB := hBk.cell
      have qB := hBk.lt
      have hG' := HG.out.below hB
      have cG := hG'.cell
      have qG := hG'.lt
      have kc := hK.cell
      have kl := hK.lt
      have hcf := cmp_call
      clear hBk hl hr hG' hK hV hNn hB
      go_wp2_with fail
      (refine region_keep (fun x => x < wr.heap.size) 9 [(0, true), (1, true), (2, true), (3, true), (4, true), (5, true), (6, true), (7, true), (8, true)] (by kernel_rfl) (fun _ _ d _ _ h => by cases d <;> exact h) (by kernel_rfl) ?_; simp only [withOps, List.getElem?_toArray, List.getElem?_cons_zero, List.getElem?_cons_succ, List.drop_succ_cons, List.drop_zero])
      (iterate 9 (refine keep_quiet (v := ?_) rfl ?_ ?_; rotate_left; (focus (intro w' hw'; go_simp; (try with_reducible rfl); done)); try simp only [Act.put, List.setIfInBounds_toArray, List.set_cons_zero, List.set_cons_succ]))
      (with_reducible refine plan_end ?_)
      (try simp only [Act.put, List.setIfInBounds_toArray, List.set_cons_zero, List.set_cons_succ])
      go_wp2_with fail
      refine (cmpA_any key k _).mono ?_
      rintro en w_ ⟨rfl, hw_⟩
      have hb0 : Below wr.heap.size wr w_ := bnext (by go_grown) hw_
      have HT2 := Lib.hid (HT'.out.below hb0)
      have HB0 := Lib.hid (HBk.out.below hb0)
      have HL := Lib.hid (HL.out.below hb0)
      have HR := Lib.hid (HR.out.below hb0)
      have HK := Lib.hid (HK.out.below hb0)
      have HV := Lib.hid (HV.out.below hb0)
      have HN := Lib.hid (HN.out.below hb0)
      have HB2 := Lib.hid (HB.out.trans (hb0.mono HB.out.size))
      have hsz := HB.out.size
      clear hw_ hb0 hcf kc kl cG qG cB qB
      have cB := HB0.out.cell
      have qB := HB0.out.lt
      have vl := HV.out.lt
      have vc := HV.out.cell
      have vf := HV.out.free
      have hm2 : (T.node l k v r).many = l.many + r.many + 1 := rfl
      generalize cA key k = X
      rcases Int.lt_trichotomy X 0 with h1 | h1 | h1
      · go_wp2_with fail
        go_roundw
        case rel => exact ⟨l, al, rfl, HL.out, HK.out, HV.out, HN.out, HB2.out⟩
        case measure => rw [sizeAt_eq HL.out, sizeAt_eq HT'.out]; omega
      · subst h1
        go_wp2_with fail
        have hBA := HBA.out.trans (HB2.out.mono HBA.out.size)
        refine body_at (fun Z => Blk Z (wA.heap.size + 1) 92 (valC v) ∧ Below wA.heap.size wA Z) ?_ ?_
        · have hT := set_val v HV.out rfl
          exact ⟨hT, by go_grown⟩
        rintro Z ⟨hZ, hBZ⟩
        have cZ := hZ.cell
        clear hZ
        refine bodyPost_ret (v := .tuple #[.agg (valC v), .bool true]) (by simp [results, Try.results61, go_sem, cZ]; done) rfl ⟨v, true, rfl, hBZ⟩
      · have h2 : ¬ X < 0 := by omega
        go_wp2_with fail
        go_roundw
        case rel => exact ⟨r, ar, rfl, HR.out, HK.out, HV.out, HN.out, HB2.out⟩
        case measure => rw [sizeAt_eq HR.out, sizeAt_eq HT'.out]; omega
end Go.Proofs.Ytbkofiflfcfjfaa.Px
