/- FrameReads: the walk. -/
import Derived.Test.YtolbmjilcngnhaaDoorFrHdA
set_option linter.unusedSimpArgs false
set_option linter.unusedVariables false
namespace Go.Proofs.YtolbmjilcngnhaaDoor
open Go.RowKit Go.Kp

/-- The row's own block. -/
theorem own_row {w : World} {base : Nat} {e : TypeId} {size : Nat} {v : Value} {n : Nat} {xs : List Value} (h : w.ownsRow base e size v n xs) (h0 : 0 < n) :
    ∃ (g c : Nat) (cs : Array Value), v = .slice (some ⟨g, 0, none⟩) n c ∧ base ≤ g ∧ g < w.heap.size ∧ Blk w g e cs ∧ n ≤ c ∧ c ≤ maxLen ∧ cs.toList.take (n * size) = xs ∧ ∀ (k : Nat) (u : Value), xs[k]? = some u → cs[k]? = some u := by
  rcases h.2 with ⟨_, h2⟩ | ⟨g, c, cs, rfl, h1, h2, h3, h4, h5, h6⟩
  · omega
  · refine ⟨g, c, cs, rfl, h1, Blk.lt (show Blk w g e cs from h2), h2, h3, h4, h6, fun k u hu => ?_⟩
    have hk : k < n * size := by have := (List.getElem?_eq_some_iff.1 hu).1; have h1 := h.1; omega
    rw [← h6, List.getElem?_take_of_lt hk] at hu
    simpa using hu
/-- A block that a call has read, as a block that is read. -/
theorem bk_rd {w : World} {lo : Nat} {x : Bk} (h : w.ownsRow lo 5 1 x.v x.l.length (x.l.map B8)) : x.rd w w.heap.size := by
  obtain ⟨a, c, h1, _, _, _, h2, h3⟩ := own_rd h
  exact ⟨a, c, h1, h2, h3⟩
theorem rws_read {w : World} {lo : Nat} {v : Value} {bs : List Bk} (h : Rws w lo v bs) : (∃ a c, v = .slice a bs.length c ∧ Rd w w.heap.size a (bs.flatMap Bk.cells)) ∧ ∀ x ∈ bs, x.rd w w.heap.size := by
  refine ⟨?_, fun x hx => bk_rd (h.2 x hx).1⟩
  rcases Nat.eq_zero_or_pos bs.length with h0 | h0
  · obtain ⟨a, c, hv, _⟩ := own_slice h.1
    obtain rfl := List.eq_nil_of_length_eq_zero h0
    exact ⟨a, c, hv, .inl rfl⟩
  · obtain ⟨g, c, cs, rfl, _, hg, hB, _, _, _, hc⟩ := own_row h.1 h0
    exact ⟨_, c, rfl, .inr ⟨g, 0, rfl, hg, fun j u hu => by rw [Nat.zero_add]; exact (hB.cell j).trans (hc j u hu)⟩⟩

theorem lent_below {w w' : World} {x c : Nat} {l : List UInt8} (hL : Lent w x c l) (hb : Below w.heap.size w w') : Lent w' x c l := by
  obtain ⟨h1, h2, h3, h4⟩ := hL
  exact ⟨Nat.lt_of_lt_of_le h1 hb.size, h2, h3, fun j u hu => (hb.cell (p := ⟨x, j, none⟩) h1).trans (h4 j u hu)⟩
theorem readF_len (l : List UInt8) : (readF l).2.1.length ≤ l.length := by
  unfold readF
  split
  · show (List.take _ _).length ≤ _
    rw [List.length_take, List.length_drop]; omega
  · exact Nat.zero_le _

set_option maxHeartbeats 8000000 in
theorem reads (a : Option Addr) (n c : Nat) (l : List UInt8) (w : World) (hT : Tab w) (hl : l.length = n) (hn : n ≤ 140737488355328) (hc : n ≤ c) (hcm : c ≤ maxLen) (ha : a = none → c = 0) (hr : Rd w w.heap.size a (l.map B8)) :
    Calls Tryd.prog 5 #[.slice a n c] w (Ret (.bool true) w) := by
  have HT := Lib.hid hT
  have HL := Lib.hid hl
  have HA := Lib.hid ha
  have HR := Lib.hid hr
  have HCM := Lib.hid hcm
  clear hT hl ha hr hcm
  go_enter Tryd.func5, Tryd.ntmps5
  go_wp2_with fail
  refine (long_any a n c _ (by omega)).mono ?_
  rintro en w0 ⟨rfl, hb0⟩
  have hB0 : Below w.heap.size w w0 := bnext (by go_grown) hb0
  clear hb0
  rcases Nat.lt_or_ge 200000 n with h | h
  · rw [show decide (200000 < n) = true by simp [h]]
    go_wp2_with fail
    refine (known_any _ (HT.out.below hB0 HT.out.1)).mono ?_
    rintro en w1 ⟨rfl, hb1⟩
    have hB1 := bnext hB0 hb1
    go_wp2_with fail
    go_returns
    exact ⟨rfl, hB1⟩
  · rw [show decide (200000 < n) = false by simp; omega]
    go_wp2_with fail
    refine (lent_any a n c l _ HL.out (by omega) HA.out ((HR.out.below hB0).more hB0.size)).mono ?_
    rintro en w2 ⟨g, cm, cs, rfl, hcm1, hcm2, hg, Am, hcs1, hcs2, hb2⟩
    have hB2 := bnext hB0 hb2
    have lAm := Am.lt
    have HLT := Lib.hid (show Lent w2 g cm l from ⟨lAm, by rw [HL.out]; exact hcm1, hcm2, fun j u hu => by
      have hj : j < n + 2 := by have := (List.getElem?_eq_some_iff.1 hu).1; simp [marked, HL.out] at this; omega
      rw [← hcs2, List.getElem?_take_of_lt hj] at hu
      rw [Am.cell]
      simpa using hu⟩)
    have HRm := Lib.hid (show Rd w2 w2.heap.size (some ⟨g, 0, none⟩) (l.map B8) from .inr ⟨g, 0, rfl, lAm, fun j u hu => by
      rw [Nat.zero_add]
      exact HLT.out.2.2.2 j u (by rw [marked, List.map_append, List.getElem?_append_left (List.getElem?_eq_some_iff.1 hu).1]; exact hu)⟩)
    have s02 := hb2.size
    have hB2s := hB2.size
    have hB0s := hB0.size
    clear hb2 hcs1 hcs2 hB0 Am
    go_wp2_with fail
    refine (Read_any (some ⟨g, 0, none⟩) n cm l _ (HT.out.below hB2 HT.out.1) HL.out hn (by omega) hcm2 HRm.out).mono ?_
    have HRL := Lib.hid (readF_len l)
    generalize hq : readF l = q at *
    obtain ⟨t, bd, e, s⟩ := q
    have HQ := Lib.hid hq
    clear hq
    rintro en w3 ⟨v3, rfl, ho3, hb3⟩
    dsimp only at ho3 ⊢
    have hB3 := bnext hB2 hb3
    have hM3 := hb3
    have s23 := hb3.size
    obtain ⟨a3, c3, hv3, _⟩ := own_slice ho3
    generalize hbl : bd.length = bl at *
    subst hv3
    have HLO3 := Lib.hid (fun x hx => ho3.lt x hx)
    have HO3 := Lib.hid ho3
    have HBL := Lib.hid hbl
    clear ho3 hb3 hbl
    go_wp2_with fail
    refine (refRead_any a n c l _ HL.out hn hc HCM.out ((HR.out.below (bnext hB3 (by go_grown))).more (by have := hB3.size; simp; omega))).mono ?_
    intro en w4 hz
    obtain ⟨v4, rfl, ho4, hb4⟩ := readT_of hz
    rw [HQ.out] at ho4 ⊢
    dsimp only at ho4 ⊢
    have hB4 := bnext hB3 (bnext (by go_grown) hb4)
    have hM4 : Below w2.heap.size w2 w4 := bnext hM3 (bnext (by go_grown) hb4)
    have X3 : Blk w4 w3.heap.size 35 #[B8 t, .slice a3 bl c3] := Blk.below (heap_at rfl) hb4
    have s34 := hb4.size
    rw [World.size_alloc] at s34
    rw [HBL.out] at ho4
    obtain ⟨a4, c4, rfl, _⟩ := own_slice ho4
    have HO3 := Lib.hid (owns_keep HO3.out (fun x _ hx => (hb4.block x (by rw [World.size_alloc]; omega)).trans (heap_old hx)))
    have HO4 := Lib.hid ho4
    clear hz ho4 hb4
    go_upto_region 6 with (fail)
    (refine wp_at (fun wc => Blk wc w4.heap.size 35 #[B8 t, .slice a4 bl c4] ∧ Below w4.heap.size w4 wc) ⟨heap_at rfl, by go_grown⟩ ?_)
    rintro w5 ⟨X5, hb5⟩
    have hB5 := bnext hB4 hb5
    have hM5 := bnext hM4 hb5
    have X3 := X3.below hb5
    have s45 := hb5.size
    have HO3 := Lib.hid (owns_keep HO3.out (fun x _ hx => hb5.block x hx))
    have HO4 := Lib.hid (owns_keep HO4.out (fun x _ hx => hb5.block x hx))
    have p3 := own_rd HO3.out
    have p4 := own_rd HO4.out
    obtain ⟨_, _, e3, p31, _, _, _, p32⟩ := p3
    cases e3
    obtain ⟨_, _, e4, p41, _, _, _, p42⟩ := p4
    cases e4
    have r1 := conv_rd a3 bl c3 bd p31 w5 _ p32
    have r2 := conv_rd a4 bl c4 bd p41 w5 _ p42
    have x3 := X3.cell
    have x5 := X5.cell
    clear hb5 p31 p32 p41 p42 HO4
    go_wp2_with fail
    refine (All_heads (some ⟨g, 0, none⟩) n cm l _ (HT.out.below hB5 HT.out.1) HL.out (by omega) (by omega) hcm2 (fun h => by cases h) ((HRm.out.below hM5).more (by omega))).mono ?_
    rintro en w6 ⟨vA, cA, ps, at_, sA, rfl, hb6, hHA, hWA, hpA, hlA⟩
    have HHA := Lib.hid hHA
    have HPA := Lib.hid hpA
    have HLA := Lib.hid hlA
    have hM6 := bnext hM5 hb6
    have hB6 := bnext hB2 hM6
    have X3 := X3.below hb6
    have HO3 := Lib.hid (owns_keep HO3.out (fun x _ hx => hb6.block x hx))
    have s56 := hb6.size
    obtain ⟨aA, cpA, hvA, _⟩ := own_slice hWA.1
    have HNA : cA.length ≤ 200000 := by have := HLA.out; rw [HL.out] at this; omega
    subst hvA
    have HLA1 := Lib.hid (fun x hx => hWA.1.lt x hx)
    have HLA2 := Lib.hid (fun y hy x hx => (hWA.2 y hy).1.lt x hx)
    have HWA := Lib.hid hWA
    clear hHA hpA hlA hWA hb6 r1 r2 x3 x5 X5
    generalize hNA : cA.length = nA at *
    have HCA := Lib.hid hNA
    clear hNA
    go_wp2_with fail
    refine (All_heads (some ⟨g, 0, none⟩) n cm l _ (HT.out.below hB6 HT.out.1) HL.out (by omega) (by omega) hcm2 (fun h => by cases h) ((HRm.out.below hM6).more (by omega))).mono ?_
    rintro en w7 ⟨vT, cT, psT, atT, sT, rfl, hb7, hHT, hWT, hpT, hlT⟩
    obtain ⟨rfl, rfl, rfl⟩ := Frm.Heads.unique (by rw [HL.out]; omega) HHA.out hHT
    have HPT := Lib.hid hpT
    have hM7 := bnext hM6 hb7
    have hB7 := bnext hB2 hM7
    have X3 := X3.below hb7
    have HO3 := Lib.hid (owns_keep HO3.out (fun x _ hx => hb7.block x hx))
    have HWA := Lib.hid (HWA.out.below hb7)
    have s67 := hb7.size
    obtain ⟨aT, cpT, hvT, _⟩ := own_slice hWT.1
    have HNT : cT.length ≤ 200000 := by rw [HL.out] at hlT; omega
    subst hvT
    have HWT := Lib.hid hWT
    clear hHT hpT hlT hWT hb7
    generalize hNT : cT.length = nT at *
    have HCT := Lib.hid hNT
    clear hNT
    go_wp2_with fail
    refine (refAll_any a n c l _ HL.out (by omega) hc HCM.out HA.out ((HR.out.below hB7).more hB7.size)).mono ?_
    rintro en w8 ⟨vW, cW, psW, atW, sW, rfl, hb8, hHW, hWW, hpW, hlW⟩
    obtain ⟨rfl, rfl, rfl⟩ := Frm.Heads.unique (by rw [HL.out]; omega) HHA.out hHW
    have HPW := Lib.hid hpW
    have hM8 := bnext hM7 hb8
    have hB8 := bnext hB2 hM8
    have X3 := X3.below hb8
    have HO3 := Lib.hid (owns_keep HO3.out (fun x _ hx => hb8.block x hx))
    have HWA := Lib.hid (HWA.out.below hb8)
    have HWT := Lib.hid (HWT.out.below hb8)
    have s78 := hb8.size
    obtain ⟨aW, cpW, hvW, _⟩ := own_slice hWW.1
    have HNW : cW.length ≤ 200000 := by rw [HL.out] at hlW; omega
    subst hvW
    have HWW := Lib.hid hWW
    clear hHW hpW hlW hWW hb8
    generalize hNW : cW.length = nW at *
    have HCW := Lib.hid hNW
    clear hNW
    have hsb1 : decide (cA.map Bk.pair = cW.map Bk.pair) = true := by rw [decide_eq_true_eq, HPA.out, HPW.out]
    have hsb2 : decide (cT.map Bk.pair = cW.map Bk.pair) = true := by rw [decide_eq_true_eq, HPT.out, HPW.out]
    have HSB1 := Lib.hid hsb1
    have HSB2 := Lib.hid hsb2
    clear hsb1 hsb2 hM6 hM7 hB6 hB7 hM3 hM4 hM5 hB3 hB4 hB5
    go_wp2_with fail
    have qA := rws_read HWA.out
    have qW := rws_read HWW.out
    obtain ⟨⟨_, _, eA, rA⟩, bA⟩ := qA
    rw [HCA.out] at eA
    cases eA
    obtain ⟨⟨_, _, eW, rW⟩, bW⟩ := qW
    rw [HCW.out] at eW
    cases eW
    refine (SameBlocks_any aA aW nA nW cpA cpW cA cW _ HCA.out HCW.out (by omega) (by omega) rA rW bA bW).mono ?_
    rintro en w9 ⟨rfl, hb9⟩
    rw [HSB1.out]
    have hM9 := bnext hM8 hb9
    have hB9 := bnext hB2 hM9
    have X3 := X3.below hb9
    have HO3 := Lib.hid (owns_keep HO3.out (fun x _ hx => hb9.block x hx))
    have HWA := Lib.hid (HWA.out.below hb9)
    have HWT := Lib.hid (HWT.out.below hb9)
    have HWW := Lib.hid (HWW.out.below hb9)
    have s89 := hb9.size
    have x3 := X3.cell
    clear hb9 rA bA rW bW hM8 hB8
    go_wp2_with fail
    have hBy3 := byt_of_own HO3.out
    refine (spoilt_b (.slice a3 bl c3) bl _ hBy3 (by have := HBL.out; have h1 : bl ≤ l.length := HRL.out; rw [HL.out] at h1; omega)).mono ?_
    rintro en w10 ⟨rfl, hS10⟩
    have hO10 := hS10.out (s1 := w2.heap.size) (s2 := w6.heap.size) (fun x hx => by have := HLO3.out x hx; omega)
    have hM10 : Below w2.heap.size w2 w10 := hM9.trans hO10.1
    have hB10 := bnext hB2 hM10
    have HWA := Lib.hid (show Rws w10 w5.heap.size (.slice aA nA cpA) cA from ⟨own_grown HWA.out.1 hS10.2.2.1 (fun g hg e => by
        have h1 := HLO3.out g hg
        have h2 := HLA1.out g e
        omega), fun x hx => ⟨own_grown (HWA.out.2 x hx).1 hS10.2.2.1 (fun g hg e => by
        have h1 := HLO3.out g hg
        have h2 := HLA2.out x hx g e
        omega), (HWA.out.2 x hx).2⟩⟩)
    have HBY := Lib.hid (show ∀ x ∈ cA, Byt w10 x.v x.l.length from fun x hx => byt_of_own (HWA.out.2 x hx).1)
    have HWT := Lib.hid (hO10.rws HWT.out (by omega))
    have HWW := Lib.hid (hO10.rws HWW.out (by omega))
    have HLT := Lib.hid (hO10.lent (lent_below HLT.out hM9) (.inl lAm))
    have s910 := hO10.2.1
    have HBL2 := Lib.hid (show ∀ x ∈ cA, x.l.length ≤ 200000 from fun x hx => by
      have h1 : x.pair ∈ cA.map Bk.pair := List.mem_map.2 ⟨x, hx, rfl⟩
      rw [HPA.out] at h1
      split at h1
      · have h2 := Frm.rowB_body ps x.pair h1
        rw [HHA.out.1, List.length_take, HL.out] at h2
        simp at h2
        omega
      · cases h1)
    clear hS10 hO10 hBy3 HO3 X3 x3 hM9 hB9
    go_wp2_with fail
    have HROW := Lib.hid (show 0 < nA → ∃ (gA : Nat) (cs' : Array Value), aA = some ⟨gA, 0, none⟩ ∧ w5.heap.size ≤ gA ∧ gA < w6.heap.size ∧ Blk w10 gA 35 cs' ∧ (∀ x ∈ cA, x.v.ownBlock ≠ some gA) ∧ ∀ (j : Nat) (u : Value), 0 * 2 ≤ j → (cA.flatMap Bk.cells)[j]? = some u → cs'[j]? = some u from fun h0 => by
      obtain ⟨gA, _, cs', e, h1, h2, h3, _, _, _, h4⟩ := own_row HWA.out.1 (by rw [HCA.out]; exact h0)
      cases e
      exact ⟨gA, cs', rfl, h1, (HLA1.out gA rfl).2, h3, fun x hx e => (HWA.out.2 x hx).2 gA e rfl, fun j u _ hu => h4 j u hu⟩)
    go_loopw [19] (fun i wr => ∃ k : Nat, k ≤ nA ∧ i = .int .i64 k ∧ (0 < nA → ∃ (gA : Nat) (cs' : Array Value), aA = some ⟨gA, 0, none⟩ ∧ w5.heap.size ≤ gA ∧ gA < w6.heap.size ∧ Blk wr gA 35 cs' ∧ (∀ x ∈ cA, x.v.ownBlock ≠ some gA) ∧ ∀ (j : Nat) (u : Value), k * 2 ≤ j → (cA.flatMap Bk.cells)[j]? = some u → cs'[j]? = some u) ∧ (∀ x ∈ cA, Byt wr x.v x.l.length) ∧ Out w2.heap.size w6.heap.size w10 wr) (fun i _ => nA - (intOf i).toNat)
    case atStart => exact ⟨0, Nat.zero_le _, rfl, HROW.out, HBY.out, Out.refl _ _ _⟩
    case round =>
      clear HROW HBY
      obtain ⟨k, hk, rfl, hrow, hby, hO⟩ := hrel
      have HBY := Lib.hid hby
      have HO := Lib.hid hO
      have so := hO.2.1
      clear hby hO
      rcases Nat.lt_or_ge k nA with hlt | hge
      · obtain ⟨gA, cs', rfl, hg1, hg2, hgb, hgx, hgc⟩ := hrow (by omega)
        obtain ⟨x, hx⟩ : ∃ x, cA[k]? = some x := ⟨_, List.getElem?_eq_getElem (by rw [HCA.out]; exact hlt)⟩
        have hxm := List.mem_of_getElem? hx
        have HXM := Lib.hid hxm
        have e0 : cs'[k * 2]? = some (B8 x.t) := hgc _ _ (by omega) ((flat_get Bk.cells 2 Bk.len cA k 0 x hx (by omega)).trans rfl)
        have e1 : cs'[k * 2 + 1]? = some x.v := hgc _ _ (by omega) ((flat_get Bk.cells 2 Bk.len cA k 1 x hx (by omega)).trans rfl)
        obtain ⟨ax, cx, hxv, _⟩ := own_slice (HWA.out.2 x hxm).1
        rw [hxv] at e1
        have HE0 := Lib.hid e0
        have HE1 := Lib.hid e1
        have y0 : wr.cell? ⟨gA, k * 2 + 1, none⟩ = some (.slice ax x.l.length cx) := (hgb.cell _).trans e1
        have HGB := Lib.hid hgb
        have HGX := Lib.hid hgx
        have HGC := Lib.hid hgc
        have hxl := HBL2.out x hxm
        have hby := HBY.out x hxm
        rw [hxv] at hby
        have HXV := Lib.hid hxv
        clear hrow hgb hgx hgc hx hxm e0 e1 hxv
        generalize hxn : x.l.length = xn at *
        clear hxn
        go_wp2_with fail
        refine (spoilt_b (.slice ax xn cx) xn _ hby (by omega)).mono ?_
        rintro en w11 ⟨rfl, hS⟩
        have hxg := HLA2.out x HXM.out
        rw [HXV.out] at hxg
        have hO11 := hS.out (s1 := w2.heap.size) (s2 := w6.heap.size) (fun y hy => by have := hxg y hy; omega)
        have hgb : Blk w11 gA 35 cs' := (hS.1 gA (fun e => HGX.out x HXM.out (by rw [HXV.out]; exact e))).trans HGB.out
        have y0 : w11.cell? ⟨gA, k * 2, none⟩ = some (B8 x.t) := (hgb.cell _).trans HE0.out
        have y1 : w11.cell? ⟨gA, k * 2 + 1, none⟩ = some (.slice ax xn cx) := (hgb.cell _).trans HE1.out
        have f0 := hgb.free
        have lA := hgb.lt
        have HBY2 := Lib.hid (fun y hy => hS.2.2.2 _ _ (HBY.out y hy))
        have s11 := hS.2.1
        clear hxg hS hby
        go_wp2_with fail
        go_roundw
        case rel =>
          have hO12 : Out w2.heap.size w6.heap.size w11 ((w11.setCell ⟨gA, k * 2, none⟩ (.int .u8 0)).setCell ⟨gA, k * 2 + 1, none⟩ (.slice none 0 0)) := by
            refine ⟨by go_grown, by simp, fun y hy => ?_⟩
            rw [heap_set_ne _ _ _ _ _ (by omega), heap_set_ne _ _ _ _ _ (by omega)]
          refine ⟨k + 1, by omega, by go_num, fun _ => ⟨gA, (cs'.setIfInBounds (k * 2) (.int .u8 0)).setIfInBounds (k * 2 + 1) (.slice none 0 0), rfl, hg1, hg2, ?_, HGX.out, fun j u hj hu => ?_⟩, fun y hy => ?_, (HO.out.trans hO11).trans hO12⟩
          · unfold Blk at hgb; simp (disch := (first | omega | (simp only [World.size_alloc, World.size_setCell, World.size_drew] <;> omega) | fail)) only [Blk, heap_old, heap_at, heap_set_same, heap_set_ne, heap_drew', Option.map_some, putO_cells, hgb]
          · rw [Array.getElem?_setIfInBounds_ne (by omega), Array.getElem?_setIfInBounds_ne (by omega)]
            exact HGC.out j u (by omega) hu
          · refine (HBY2.out y hy).heap fun z hz => ?_
            have hne : z ≠ gA := fun e => HGX.out y hy (by rw [hz, e])
            rw [heap_set_ne _ _ _ _ _ hne, heap_set_ne _ _ _ _ _ hne]
        case measure => simp [intOf]; omega
      · obtain rfl : k = nA := by omega
        have hMr : Below w2.heap.size w2 wr := hM10.trans HO.out.1
        have hBr := bnext hB2 hMr
        have HWT := Lib.hid (HO.out.rws HWT.out (by omega))
        have HWW := Lib.hid (HO.out.rws HWW.out (by omega))
        have HLT := Lib.hid (HO.out.lent HLT.out (.inl lAm))
        clear hrow HBY HO hM10 hB10
        have qT := rws_read HWT.out
        have qW := rws_read HWW.out
        obtain ⟨⟨_, _, eT, rT⟩, bT⟩ := qT
        rw [HCT.out] at eT
        cases eT
        obtain ⟨⟨_, _, eW, rW⟩, bW⟩ := qW
        rw [HCW.out] at eW
        cases eW
        have RT := Lib.hid rT
        have RW := Lib.hid rW
        have BT := Lib.hid bT
        have BW := Lib.hid bW
        clear rT rW bT bW
        go_wp2_with fail
        refine (SameBlocks_any aT aW nT nW cpT cpW cT cW _ HCT.out HCW.out (by omega) (by omega) RT.out RW.out BT.out BW.out).mono ?_
        rintro en w11 ⟨rfl, hb11⟩
        rw [HSB2.out]
        have hB11 := bnext hBr hb11
        have hM11 := bnext hMr hb11
        go_wp2_with fail
        refine (kept_any g cm a n c l _ (lent_below HLT.out hb11) HL.out (by omega) ((HR.out.below hB11).more hB11.size)).mono ?_
        rintro en w12 ⟨rfl, hb12⟩
        have hB12 := bnext hB11 hb12
        go_wp2_with fail
        refine (known_any _ (HT.out.below hB12 HT.out.1)).mono ?_
        rintro en w13 ⟨rfl, hb13⟩
        have hB13 := bnext hB12 hb13
        go_wp2_with fail
        go_returns
        exact ⟨rfl, hB13⟩
end Go.Proofs.YtolbmjilcngnhaaDoor
