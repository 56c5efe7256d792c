/- FrameJust: the walk. -/
import Derived.Test.YtolbmjilcngnhaaDoorFrJustP
set_option linter.unusedSimpArgs false
set_option linter.unusedVariables false
namespace Go.Proofs.YtolbmjilcngnhaaDoor
open Go.RowKit Go.Kp

theorem lws_read {w : World} {lo : Nat} {v : Value} {bs : List Bk} (h : Lws w lo v bs) : (∃ a c, v = .slice a bs.length c ∧ Rd w w.heap.size a (bs.flatMap bodyOf)) ∧ ∀ x ∈ bs, x.rd w w.heap.size := by
  refine ⟨?_, fun x hx => bk_rd (h.2 x hx).1⟩
  obtain ⟨a, c, e, _, _, _, _, hr⟩ := own_rdv h.1
  exact ⟨a, c, e, hr⟩
theorem Out.lws {s1 s2 lo : Nat} {w w' : World} (h : Out s1 s2 w w') {v : Value} {bs : List Bk} (hr : Lws w lo v bs) (hlo : s2 ≤ lo) : Lws w' lo v bs :=
  ⟨h.own hr.1 fun g hg => .inr (Nat.le_trans hlo (hr.1.lt g hg).1), fun x hx => ⟨h.own (hr.2 x hx).1 fun g hg => .inr (Nat.le_trans hlo ((hr.2 x hx).1.lt g hg).1), (hr.2 x hx).2⟩⟩
/-- What 'lent' gives, as it is used. -/
theorem lent_use {w' : World} {g cm m : Nat} {cs : Array Value} {l : List UInt8} (hl : l.length = m) (h1 : m + 2 ≤ cm) (h2 : cm ≤ maxLen) (A : Blk w' g 5 cs) (hcs : cs.toList.take (m + 2) = (marked l).map B8) :
    Lent w' g cm l ∧ Rd w' w'.heap.size (some ⟨g, 0, none⟩) (l.map B8) := by
  have hL : Lent w' g cm l := ⟨A.lt, by rw [hl]; exact h1, h2, fun j u hu => by
    have hj : j < m + 2 := by have := (List.getElem?_eq_some_iff.1 hu).1; simp [marked, hl] at this; omega
    rw [← hcs, List.getElem?_take_of_lt hj] at hu
    rw [A.cell]
    simpa using hu⟩
  refine ⟨hL, .inr ⟨g, 0, rfl, A.lt, fun j u hu => ?_⟩⟩
  rw [Nat.zero_add]
  exact hL.2.2.2 j u (by rw [marked, List.map_append, List.getElem?_append_left (List.getElem?_eq_some_iff.1 hu).1]; exact hu)
theorem just_body {l tg : List UInt8} {ps : List (UInt8 × List UInt8)} {a s : Nat} (h : Frm.Just l tg ps a s) {cs : List Bk} (hc : cs.map Bk.l = (if s = 0 then ps.map Prod.snd else [])) {x : Bk} (hx : x ∈ cs) : x.l.length ≤ l.length := by
  have h1 : x.l ∈ cs.map Bk.l := List.mem_map.2 ⟨x, hx, rfl⟩
  rw [hc] at h1
  split at h1
  · obtain ⟨y, hy, he⟩ := List.mem_map.1 h1
    have h2 := Frm.rowB_body ps y hy
    rw [h.1, List.length_take, he] at h2
    omega
  · cases h1

set_option maxHeartbeats 8000000 in
theorem justs (a a' : Option Addr) (n c m c' : Nat) (l tg : List UInt8) (w : World) (hT : Tab w) (hl : l.length = n) (hn : n ≤ 140737488355328) (hc : n ≤ c) (hcm : c ≤ maxLen) (ha : a = none → c = 0) (hr : Rd w w.heap.size a (l.map B8))
    (htl : tg.length = m) (hm : m ≤ 140737488355328) (ha' : a' = none → c' = 0) (hrt : Rd w w.heap.size a' (tg.map B8)) :
    Calls Tryd.prog 6 #[.slice a n c, .slice a' m c'] w (Ret (.bool true) w) := by
  have HT := Lib.hid hT
  have HL := Lib.hid hl
  have HA := Lib.hid ha
  have HR := Lib.hid hr
  have HCM := Lib.hid hcm
  have HTL := Lib.hid htl
  have HAT := Lib.hid ha'
  have HRT := Lib.hid hrt
  clear hT hl ha hr hcm htl ha' hrt
  rcases Decidable.em (200000 < n ∨ 200000 < m) with h | h
  · have h' : 200000 < n ∨ ¬ 200000 < n ∧ 200000 < m := by omega
    clear h
    go_enter Tryd.func6, Tryd.ntmps6
    go_wp2_with fail
    refine (long_any a n c _ (by omega)).mono ?_
    rintro en w0 ⟨rfl, hb0⟩
    have hB0 : Below w.heap.size w w0 := bnext (by go_grown) hb0
    clear hb0
    rcases h' with h | ⟨h, h2⟩
    · rw [show decide (200000 < n) = true by simp [h]]
      go_wp2_with fail
      refine (known_any _ (HT.out.below hB0 HT.out.1)).mono ?_
      rintro en w1 ⟨rfl, hb1⟩
      have hB1 := bnext hB0 hb1
      go_wp2_with fail
      go_returns
      exact ⟨rfl, hB1⟩
    · rw [show decide (200000 < n) = false by simp; omega]
      go_wp2_with fail
      refine (long_any a' m c' _ (by omega)).mono ?_
      rintro en w1 ⟨rfl, hb1⟩
      have hB1 := bnext hB0 hb1
      rw [show decide (200000 < m) = true by simp [h2]]
      go_wp2_with fail
      refine (known_any _ (HT.out.below hB1 HT.out.1)).mono ?_
      rintro en w2 ⟨rfl, hb2⟩
      have hB2 := bnext hB1 hb2
      go_wp2_with fail
      go_returns
      exact ⟨rfl, hB2⟩
  · have hn2 : n ≤ 200000 := by omega
    have hm2 : m ≤ 200000 := by omega
    clear h
    go_enter Tryd.func6, Tryd.ntmps6
    go_wp2_with fail
    refine (long_any a n c _ (by omega)).mono ?_
    rintro en w0 ⟨rfl, hb0⟩
    have hB0 : Below w.heap.size w w0 := bnext (by go_grown) hb0
    clear hb0
    rw [show decide (200000 < n) = false by simp; omega]
    go_wp2_with fail
    refine (long_any a' m c' _ (by omega)).mono ?_
    rintro en w1 ⟨rfl, hb1⟩
    have hB1 := bnext hB0 hb1
    clear hb1 hB0
    rw [show decide (200000 < m) = false by simp; omega]
    go_wp2_with fail
    refine (lent_any a n c l _ HL.out (by omega) HA.out ((HR.out.below hB1).more hB1.size)).mono ?_
    rintro en w2 ⟨g, cm, cs, rfl, hcm1, hcm2, hg, Am, hcs1, hcs2, hb2⟩
    have hB2 := bnext hB1 hb2
    have hu := lent_use HL.out hcm1 hcm2 Am hcs2
    have lAm := Am.lt
    have HLT := Lib.hid hu.1
    have HRm := Lib.hid hu.2
    have s12 := hb2.size
    have s01 := hB1.size
    clear hb2 hcs1 hcs2 hB1 Am hu
    go_wp2_with fail
    refine (lent_any a' m c' tg _ HTL.out (by omega) HAT.out ((HRT.out.below hB2).more hB2.size)).mono ?_
    rintro en w3 ⟨gt, ct, cst, rfl, hct1, hct2, hgt, At, hcs1, hcs2, hb3⟩
    have hB3 := bnext hB2 hb3
    have hu := lent_use HTL.out hct1 hct2 At hcs2
    have lAt := At.lt
    have HLT := Lib.hid (lent_below HLT.out hb3)
    have HRm := Lib.hid ((HRm.out.below hb3).more hb3.size)
    have HLTt := Lib.hid hu.1
    have HRt := Lib.hid hu.2
    have s23 := hb3.size
    have hB3s := hB3.size
    clear hb3 hcs1 hcs2 hB2 At hu
    go_wp2_with fail
    refine (Just_any (some ⟨g, 0, none⟩) (some ⟨gt, 0, none⟩) n cm m ct l tg _ (HT.out.below hB3 HT.out.1) HL.out (by omega) (by omega) hcm2 HRm.out HTL.out (by omega) HRt.out).mono ?_
    rintro en w6 ⟨vA, cA, ps, at_, sA, rfl, hb6, hHA, hWA, hpA, hlA⟩
    have HHA := Lib.hid hHA
    have HPA := Lib.hid hpA
    have HLA := Lib.hid hlA
    have hM6 := hb6
    have hB6 := bnext hB3 hM6
    have s56 := hb6.size
    obtain ⟨aA, cpA, hvA, _⟩ := own_slice hWA.1
    have HNA : cA.length ≤ 200000 := by have := HLA.out; rw [HL.out] at this; omega
    subst hvA
    have HLA1 := Lib.hid (fun x hx => hWA.1.lt x hx)
    have HLA2 := Lib.hid (fun y hy x hx => (hWA.2 y hy).1.lt x hx)
    have HWA := Lib.hid hWA
    clear hHA hpA hlA hWA hb6
    generalize hNA : cA.length = nA at *
    have HCA := Lib.hid hNA
    clear hNA
    go_wp2_with fail
    refine (Just_any (some ⟨g, 0, none⟩) (some ⟨gt, 0, none⟩) n cm m ct l tg _ (HT.out.below hB6 HT.out.1) HL.out (by omega) (by omega) hcm2 ((HRm.out.below hM6).more hM6.size) HTL.out (by omega) ((HRt.out.below hM6).more hM6.size)).mono ?_
    rintro en w7 ⟨vT, cT, psT, atT, sT, rfl, hb7, hHT, hWT, hpT, hlT⟩
    obtain ⟨rfl, rfl, rfl⟩ := Frm.Just.unique (by rw [HL.out]; omega) HHA.out hHT
    have HPT := Lib.hid hpT
    have hM7 := bnext hM6 hb7
    have hB7 := bnext hB3 hM7
    have HWA := Lib.hid (HWA.out.below hb7)
    have s67 := hb7.size
    obtain ⟨aT, cpT, hvT, _⟩ := own_slice hWT.1
    have HNT : cT.length ≤ 200000 := by rw [HL.out] at hlT; omega
    subst hvT
    have HWT := Lib.hid hWT
    clear hHT hpT hlT hWT hb7
    generalize hNT : cT.length = nT at *
    have HCT := Lib.hid hNT
    clear hNT
    go_wp2_with fail
    refine (refJust_any a a' n c m c' l tg _ HL.out (by omega) hc HCM.out HA.out ((HR.out.below hB7).more hB7.size) HTL.out (by omega) ((HRT.out.below hB7).more hB7.size)).mono ?_
    rintro en w8 ⟨vW, cW, psW, atW, sW, rfl, hb8, hHW, hWW, hpW, hlW⟩
    obtain ⟨rfl, rfl, rfl⟩ := Frm.Just.unique (by rw [HL.out]; omega) HHA.out hHW
    have HPW := Lib.hid hpW
    have hM8 := bnext hM7 hb8
    have hB8 := bnext hB3 hM8
    have HWA := Lib.hid (HWA.out.below hb8)
    have HWT := Lib.hid (HWT.out.below hb8)
    have s78 := hb8.size
    obtain ⟨aW, cpW, hvW, _⟩ := own_slice hWW.1
    have HNW : cW.length ≤ 200000 := by rw [HL.out] at hlW; omega
    subst hvW
    have HWW := Lib.hid hWW
    clear hHW hpW hlW hWW hb8
    generalize hNW : cW.length = nW at *
    have HCW := Lib.hid hNW
    clear hNW
    have HSB1 := Lib.hid (show decide (cA.map Bk.l = cW.map Bk.l) = true by rw [decide_eq_true_eq, HPA.out, HPW.out])
    have HSB2 := Lib.hid (show decide (cT.map Bk.l = cW.map Bk.l) = true by rw [decide_eq_true_eq, HPT.out, HPW.out])
    clear hM6 hM7 hB6 hB7
    go_wp2_with fail
    have qA := lws_read HWA.out
    have qW := lws_read HWW.out
    obtain ⟨⟨_, _, eA, rA⟩, bA⟩ := qA
    rw [HCA.out] at eA
    cases eA
    obtain ⟨⟨_, _, eW, rW⟩, bW⟩ := qW
    rw [HCW.out] at eW
    cases eW
    refine (SameLists_any aA aW nA nW cpA cpW cA cW _ HCA.out HCW.out (by omega) (by omega) rA rW bA bW).mono ?_
    rintro en w10 ⟨rfl, hb9⟩
    rw [HSB1.out]
    have hM10 := bnext hM8 hb9
    have hB10 := bnext hB3 hM10
    have HWA := Lib.hid (HWA.out.below hb9)
    have HWT := Lib.hid (HWT.out.below hb9)
    have HWW := Lib.hid (HWW.out.below hb9)
    have s89 := hb9.size
    have HBY := Lib.hid (show ∀ x ∈ cA, Byt w10 x.v x.l.length from fun x hx => byt_of_own (HWA.out.2 x hx).1)
    have HLT := Lib.hid (lent_below HLT.out hM10)
    have HLTt := Lib.hid (lent_below HLTt.out hM10)
    clear hb9 rA bA rW bW hM8 hB8
    go_wp2_with fail
    have HROW := Lib.hid (show 0 < nA → ∃ (gA : Nat) (cs' : Array Value), aA = some ⟨gA, 0, none⟩ ∧ w3.heap.size ≤ gA ∧ gA < w6.heap.size ∧ Blk w10 gA 22 cs' ∧ (∀ x ∈ cA, x.v.ownBlock ≠ some gA) ∧ ∀ (j : Nat) (u : Value), (cA.flatMap bodyOf)[j]? = some u → cs'[j]? = some u from fun h0 => by
      obtain ⟨gA, _, cs', e, h1, h2, h3, _, _, _, h4⟩ := own_row HWA.out.1 (by rw [HCA.out]; exact h0)
      cases e
      exact ⟨gA, cs', rfl, h1, (HLA1.out gA rfl).2, h3, fun x hx e => (HWA.out.2 x hx).2 gA e rfl, fun j u hu => h4 j u hu⟩)
    go_loopw [16] (fun i wr => ∃ k : Nat, k ≤ nA ∧ i = .int .i64 k ∧ (0 < nA → ∃ (gA : Nat) (cs' : Array Value), aA = some ⟨gA, 0, none⟩ ∧ w3.heap.size ≤ gA ∧ gA < w6.heap.size ∧ Blk wr gA 22 cs' ∧ (∀ x ∈ cA, x.v.ownBlock ≠ some gA) ∧ ∀ (j : Nat) (u : Value), (cA.flatMap bodyOf)[j]? = some u → cs'[j]? = some u) ∧ (∀ x ∈ cA, Byt wr x.v x.l.length) ∧ Out w3.heap.size w6.heap.size w10 wr) (fun i _ => nA - (intOf i).toNat)
    case atStart => exact ⟨0, Nat.zero_le _, rfl, HROW.out, HBY.out, Out.refl _ _ _⟩
    case round =>
      clear HROW HBY
      obtain ⟨k, hk, rfl, hrow, hby, hO⟩ := hrel
      have HBY := Lib.hid hby
      have HO := Lib.hid hO
      have so := hO.2.1
      clear hby hO
      rcases Nat.lt_or_ge k nA with hlt | hge
      · obtain ⟨gA, cs', rfl, hg1, hg2, hgb, hgx, hgc⟩ := hrow (by omega)
        obtain ⟨x, hx⟩ : ∃ x, cA[k]? = some x := ⟨_, List.getElem?_eq_getElem (by rw [HCA.out]; exact hlt)⟩
        have hxm := List.mem_of_getElem? hx
        have HXM := Lib.hid hxm
        have e1 : cs'[k]? = some x.v := hgc _ _ (by simpa using (flat_get bodyOf 1 (fun _ => rfl) cA k 0 x hx (by omega)).trans rfl)
        obtain ⟨ax, cx, hxv, _⟩ := own_slice (HWA.out.2 x hxm).1
        rw [hxv] at e1
        have y0 : wr.cell? ⟨gA, k, none⟩ = some (.slice ax x.l.length cx) := (hgb.cell _).trans e1
        have HGB := Lib.hid hgb
        have HGX := Lib.hid hgx
        have HGC := Lib.hid hgc
        have hxl := just_body HHA.out HPA.out hxm
        rw [HL.out] at hxl
        have hby := HBY.out x hxm
        rw [hxv] at hby
        have HXV := Lib.hid hxv
        clear hrow hgb hgx hgc hx hxm e1 hxv
        generalize hxn : x.l.length = xn at *
        clear hxn
        go_wp2_with fail
        refine (spoilt_b (.slice ax xn cx) xn _ hby (by omega)).mono ?_
        rintro en w11 ⟨rfl, hS⟩
        have hxg := HLA2.out x HXM.out
        rw [HXV.out] at hxg
        have hO11 := Lib.hid (hS.out (s1 := w3.heap.size) (s2 := w6.heap.size) (fun y hy => hxg y hy))
        have hgb := Lib.hid (show Blk w11 gA 22 cs' from (hS.1 gA (fun e => HGX.out x HXM.out (by rw [HXV.out]; exact e))).trans HGB.out)
        have HBY2 := Lib.hid (fun y hy => hS.2.2.2 _ _ (HBY.out y hy))
        have s11 := hS.2.1
        clear hxg hS hby y0
        go_wp2_with fail
        go_roundw
        case rel => exact ⟨k + 1, by omega, by go_num, fun _ => ⟨gA, cs', rfl, hg1, hg2, hgb.out, HGX.out, HGC.out⟩, HBY2.out, HO.out.trans hO11.out⟩
        case measure => simp [intOf]; omega
      · obtain rfl : k = nA := by omega
        have hMr : Below w3.heap.size w3 wr := hM10.trans HO.out.1
        have hBr := bnext hB3 hMr
        have HWT := Lib.hid (HO.out.lws HWT.out (by omega))
        have HWW := Lib.hid (HO.out.lws HWW.out (by omega))
        have HLT := Lib.hid (HO.out.lent HLT.out (.inl (by omega)))
        have HLTt := Lib.hid (HO.out.lent HLTt.out (.inl lAt))
        clear hrow HBY HO hM10 hB10
        have qT := lws_read HWT.out
        have qW := lws_read HWW.out
        obtain ⟨⟨_, _, eT, rT⟩, bT⟩ := qT
        rw [HCT.out] at eT
        cases eT
        obtain ⟨⟨_, _, eW, rW⟩, bW⟩ := qW
        rw [HCW.out] at eW
        cases eW
        have RT := Lib.hid rT
        have RW := Lib.hid rW
        have BT := Lib.hid bT
        have BW := Lib.hid bW
        clear rT rW bT bW
        go_wp2_with fail
        refine (SameLists_any aT aW nT nW cpT cpW cT cW _ HCT.out HCW.out (by omega) (by omega) RT.out RW.out BT.out BW.out).mono ?_
        rintro en w11 ⟨rfl, hb11⟩
        rw [HSB2.out]
        have hB11 := bnext hBr hb11
        go_wp2_with fail
        refine (kept_any g cm a n c l _ (lent_below HLT.out hb11) HL.out (by omega) ((HR.out.below hB11).more hB11.size)).mono ?_
        rintro en w12 ⟨rfl, hb12⟩
        have hB12 := bnext hB11 hb12
        go_wp2_with fail
        refine (kept_any gt ct a' m c' tg _ (lent_below (lent_below HLTt.out hb11) hb12) HTL.out (by omega) ((HRT.out.below hB12).more hB12.size)).mono ?_
        rintro en w13 ⟨rfl, hb13⟩
        have hB13 := bnext hB12 hb13
        go_wp2_with fail
        refine (known_any _ (HT.out.below hB13 HT.out.1)).mono ?_
        rintro en w14 ⟨rfl, hb14⟩
        have hB14 := bnext hB13 hb14
        go_wp2_with fail
        go_returns
        exact ⟨rfl, hB14⟩
end Go.Proofs.YtolbmjilcngnhaaDoor
