/- Store: behind, joined; none, Len, Get, Place, At. -/
import Derived.Test.YtchmlephgkimcaaStC
set_option linter.unusedSimpArgs false
set_option linter.unusedVariables false
namespace Go.Proofs.Ytchmlephgkimcaa
open Go.RowKit Go.Kp Go.St

theorem TreeAt.unique {w : World} : ∀ {t t' : Tr} {a : Option Addr}, TreeAt w t a → TreeAt w t' a → t = t'
  | .nil, .nil, _, _, _ => rfl
  | .nil, .node .., _, h, ⟨_, _, _, h', _⟩ => by rw [show _ = none from h] at h'; cases h'
  | .node .., .nil, _, ⟨_, _, _, h, _⟩, h' => by rw [show _ = none from h'] at h; cases h
  | .node l k v r, .node l' k' v' r', a, ⟨b, pl, pr, h1, h2, h3, h4⟩, ⟨b', pl', pr', h1', h2', h3', h4'⟩ => by
    rw [h1] at h1'
    have hb : b = b' := by injection h1' with h; injection h
    subst hb
    have hc := h2.symm.trans h2'
    injection hc with hc
    injection hc with hc
    have hc' : nodeC k v pl pr (T.node l k v r).high (T.node l k v r).many = nodeC k' v' pl' pr' (T.node l' k' v' r').high (T.node l' k' v' r').many := hc
    have e0 := congrArg (fun x => x[0]?) hc'
    have e1 := congrArg (fun x => x[1]?) hc'
    have e2 := congrArg (fun x => x[2]?) hc'
    have e3 := congrArg (fun x => x[3]?) hc'
    simp at e0 e1 e2 e3
    subst e0; subst e1; subst e2; subst e3
    rw [TreeAt.unique h3 h3', TreeAt.unique h4 h4']
open Classical in
noncomputable def sizeAt (w : World) (v : Value) : Nat := if h : ∃ t : Tr, ∃ a, v = .pointer a ∧ TreeAt w t a then (Classical.choose h).many else 0
theorem sizeAt_eq {w : World} {t : Tr} {a : Option Addr} (h : TreeAt w t a) : sizeAt w (.pointer a) = t.many := by
  have hx : ∃ t : Tr, ∃ a', Value.pointer a = .pointer a' ∧ TreeAt w t a' := ⟨t, a, rfl, h⟩
  unfold sizeAt
  rw [dif_pos hx]
  obtain ⟨a', h1, h2⟩ := Classical.choose_spec hx
  injection h1 with h1
  subst h1
  rw [TreeAt.unique h2 h]

set_option maxRecDepth 100000 in
set_option maxHeartbeats 4000000 in
theorem behind_any : ∀ (t : Tr) (a : Option Addr) (w : World), TreeAt w t a → t.isNil = false → t.many ≤ 4611686018427387000 → Calls Try.prog 77 #[.pointer a] w (PtrR (behind t) w)
  | .nil, _, _, _, h, _ => by cases h
  | .node l k v r, a, w, ht, _, hN => by
    obtain ⟨b, al, ar, rfl, hB, hl, hr⟩ := ht
    have hm : l.many + r.many + 1 ≤ 4611686018427387000 := hN
    have ih := behind_any l
    have HL := Lib.hid hl
    have HR := Lib.hid hr
    have cL := hB.cell
    have qL := hB.lt
    unfold behind
    cases hnl : l.isNil with
    | true =>
      obtain rfl := isNil_eq hnl
      obtain rfl : al = none := hl
      clear hr ih hnl
      go_enter Try.func77, Try.ntmps77
      go_wp2
      go_returns
      exact ⟨_, rfl, HR.out, by go_grown⟩
    | false =>
      have HIH := Lib.hid (fun (w' : World) (h : TreeAt w' l al) => ih al w' h hnl (by omega))
      rcases hl.form with ⟨_, h0⟩ | ⟨bl, h1, h2, _⟩
      · rw [h0] at hnl; cases hnl
      subst h1
      have hmB : (behind l).many ≤ l.many := by
        obtain ⟨p, _, hp⟩ := first_behind l hnl
        rw [T.many_len, T.many_len, hp]; simp
      clear hl hr ih hnl
      go_enter Try.func77, Try.ntmps77
      go_wp2_with fail
      (refine region_keep (fun x => x < w.heap.size) 17 [(0, true), (1, true), (2, true), (3, true), (4, true), (5, true), (6, true), (7, true), (8, true), (9, true), (10, true), (11, true), (13, true), (14, true), (15, true), (16, true), (12, false)] (by kernel_rfl) (fun _ _ d _ _ h => by cases d <;> exact h) (by kernel_rfl) ?_; simp only [withOps, List.getElem?_toArray, List.getElem?_cons_zero, List.getElem?_cons_succ, List.drop_succ_cons, List.drop_zero])
      (iterate 16 (refine keep_quiet (v := ?_) rfl ?_ ?_; rotate_left; (focus (intro w' hw'; go_simp; (try with_reducible rfl); done)); try simp only [Act.put, List.setIfInBounds_toArray, List.set_cons_zero, List.set_cons_succ]))
      (with_reducible refine plan_loud (fun K hK => ?_))
      go_simp
      refine (HIH.out w.drew HL.out.drew).mono ?_
      rintro en w3 ⟨p3, rfl, hT3, hb3⟩
      refine hK _ _ ((Keep.refl _ _).below hb3 (by intro x h; simpa using h)) ?_
      clear hK K
      have HT3 := Lib.hid hT3
      have HB3 := Lib.hid (show Below w.heap.size w w3 from bnext (show Below w.heap.size w w.drew by go_grown) hb3)
      have HR := Lib.hid (HR.out.drew.below hb3)
      clear hT3 hb3
      (with_reducible refine plan_end ?_)
      (try simp only [Act.put, List.setIfInBounds_toArray, List.set_cons_zero, List.set_cons_succ])
      go_wp2_with fail
      refine (even_any k v (behind l) r _ _ _ HT3.out HR.out (by omega)).mono ?_
      rintro en w9 ⟨p9, rfl, hT9, hb9⟩
      have HB9 := bnext HB3.out hb9
      have HT9 := Lib.hid hT9
      clear hT9 hb9
      go_wp2_with fail
      go_returns
      exact ⟨_, rfl, HT9.out, HB9⟩

set_option maxRecDepth 100000 in
set_option maxHeartbeats 4000000 in
theorem joined_any (l r : Tr) (pl pr : Option Addr) (w : World) (hl : TreeAt w l pl) (hr : TreeAt w r pr) (hN : l.many + r.many ≤ 4611686018427387000) :
    Calls Try.prog 73 #[.pointer pl, .pointer pr] w (PtrR (joined l r) w) := by
  have HL := Lib.hid hl
  have HR := Lib.hid hr
  unfold joined
  cases hnl : l.isNil with
  | true =>
    obtain rfl := isNil_eq hnl
    obtain rfl : pl = none := hl
    clear hr hnl
    go_enter Try.func73, Try.ntmps73
    go_wp2
    go_returns
    exact ⟨_, rfl, HR.out, by go_grown⟩
  | false =>
    rcases hl.form with ⟨_, h0⟩ | ⟨bl, h1, h2, _⟩
    · rw [h0] at hnl; cases hnl
    subst h1
    cases hnr : r.isNil with
    | true =>
      obtain rfl := isNil_eq hnr
      obtain rfl : pr = none := hr
      clear hl hnl hnr
      go_enter Try.func73, Try.ntmps73
      go_wp2
      go_returns
      exact ⟨_, rfl, HL.out, by go_grown⟩
    | false =>
      obtain ⟨p, hf, hp⟩ := first_behind r hnr
      have HF := Lib.hid hf
      have HNR := Lib.hid hnr
      have hmB : (behind r).many + 1 ≤ r.many := by rw [T.many_len, T.many_len, hp]; simp
      rcases hr.form with ⟨_, h0⟩ | ⟨br, h1, h3, _⟩
      · rw [h0] at hnr; cases hnr
      subst h1
      simp only [Bool.false_eq_true, if_false, hf]
      clear hl hr hnl hnr hf hp
      go_enter Try.func73, Try.ntmps73
      go_wp2_with fail
      go_loopw [5] (fun n wr => ∃ (sub : Tr) (a : Option Addr), n = .pointer a ∧ TreeAt wr sub a ∧ sub.isNil = false ∧ sub.first = some p ∧ Below w.heap.size w wr) (fun n wr => sizeAt wr n)
      case atStart => exact ⟨r, _, rfl, HR.out, HNR.out, HF.out, by go_grown⟩
      case round =>
        obtain ⟨sub, a, rfl, hT, hn, hf, hB⟩ := hrel
        cases sub with
        | nil => cases hn
        | node sl k v sr =>
          have HT := Lib.hid hT
          obtain ⟨b, al, ar, rfl, hBk, hsl, hsr⟩ := hT
          have c := hBk.cell
          have q := hBk.lt
          have HSL := Lib.hid hsl
          have HF2 := Lib.hid hf
          cases hs : sl.isNil with
          | true =>
            obtain rfl := isNil_eq hs
            obtain rfl : al = none := hsl
            have hkv : p = (k, v) := by
              have := HF2.out
              simp only [T.first, T.isNil, if_true] at this
              exact (Option.some.inj this).symm
            subst hkv
            have HLw := Lib.hid (HL.out.below hB)
            have HRw := Lib.hid (HR.out.below hB)
            clear hsr hs hf
            go_upto_region 8 with (fail)
            go_wp2_with fail
            (refine region_keep (fun x => x < wr.heap.size) 11 [(0, true), (1, true), (2, true), (3, true), (4, true), (5, true), (6, true), (7, true), (8, true), (9, true), (10, false)] (by kernel_rfl) (fun _ _ d _ _ h => by cases d <;> exact h) (by kernel_rfl) ?_; simp only [withOps, List.getElem?_toArray, List.getElem?_cons_zero, List.getElem?_cons_succ, List.drop_succ_cons, List.drop_zero])
            (iterate 10 (refine keep_quiet (v := ?_) rfl ?_ ?_; rotate_left; (focus (intro w' hw'; go_simp; (try with_reducible rfl); done)); try simp only [Act.put, List.setIfInBounds_toArray, List.set_cons_zero, List.set_cons_succ]))
            (with_reducible refine plan_loud (fun K hK => ?_))
            go_simp
            refine (behind_any r _ wr.drew HRw.out.drew HNR.out (by omega)).mono ?_
            rintro en w3 ⟨p3, rfl, hT3, hb3⟩
            refine hK _ _ ((Keep.refl _ _).below hb3 (by intro x h; simpa using h)) ?_
            clear hK K
            have HT3 := Lib.hid hT3
            have HB3 := Lib.hid (hB.drew.trans (hb3.mono hB.size))
            have HL3 := Lib.hid (HLw.out.drew.below hb3)
            clear hT3 hb3
            (with_reducible refine plan_end ?_)
            (try simp only [Act.put, List.setIfInBounds_toArray, List.set_cons_zero, List.set_cons_succ])
            go_wp2_with fail
            refine (even_any k v l (behind r) _ _ _ HL3.out HT3.out (by omega)).mono ?_
            rintro en w9 ⟨p9, rfl, hT9, hb9⟩
            have HB9 := bnext HB3.out hb9
            have HT9 := Lib.hid hT9
            clear hT9 hb9
            go_wp2_with fail
            go_returns
            exact ⟨_, rfl, HT9.out, HB9⟩
          | false =>
            have HS := Lib.hid hs
            rcases hsl.form with ⟨_, h0⟩ | ⟨bl', h1, h4, _⟩
            · rw [h0] at hs; cases hs
            subst h1
            clear hsr hsl hs hf
            go_wp2
            go_roundw
            case rel =>
              refine ⟨sl, _, rfl, HSL.out, HS.out, ?_, hB⟩
              have := HF2.out
              simp only [T.first, HS.out, Bool.false_eq_true, if_false] at this
              exact this
            case measure =>
              rw [sizeAt_eq HSL.out, sizeAt_eq HT.out]
              simp only [T.many]
              omega
/-- Is there a node of this key, on the way to it? -/
def Has (c : Int → Int → Int) (key : Int) : Tr → Prop
  | .nil => False
  | .node l k _ r => if c key k < 0 then Has c key l else if 0 < c key k then Has c key r else True
end Go.Proofs.Ytchmlephgkimcaa
