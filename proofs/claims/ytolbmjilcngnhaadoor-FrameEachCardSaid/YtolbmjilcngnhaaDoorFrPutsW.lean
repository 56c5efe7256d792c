/- FramePuts: the walk. -/
import Derived.Test.YtolbmjilcngnhaaDoorFrK
set_option linter.unusedSimpArgs false
set_option linter.unusedVariables false
namespace Go.Proofs.YtolbmjilcngnhaaDoor
open Go.RowKit Go.Kp

/-- A row that is owned, as a block. -/
theorem own_blk {w : World} {base : Nat} {v : Value} {n : Nat} {l : List UInt8} (h : w.ownsRow base 5 1 v n (l.map B8)) (h0 : 0 < n) :
    ∃ g c cs, v = .slice (some ⟨g, 0, none⟩) n c ∧ base ≤ g ∧ Blk w g 5 cs ∧ (∀ k z, l[k]? = some z → cs[0 + k]? = some (B8 z)) ∧ l.length = n ∧ n ≤ c ∧ c ≤ maxLen := by
  have hl : l.length = n := by have := h.1; simpa using this
  rcases h.2 with ⟨_, h2⟩ | ⟨g, c, cs, rfl, h1, h2, h3, h4, h5, h6⟩
  · omega
  · refine ⟨g, c, cs, rfl, h1, h2, fun k z hz => ?_, hl, h3, h4⟩
    have hk : k < l.length := (List.getElem?_eq_some_iff.1 hz).1
    have e : (cs.toList.take (n * 1))[k]? = (l.map B8)[k]? := by rw [h6]
    rw [List.getElem?_take_of_lt (by omega), List.getElem?_map, hz] at e
    rw [Nat.zero_add]
    simpa using e
theorem blk_rd {w : World} {g B : Nat} {cs : Array Value} {l : List UInt8} (h : Blk w g 5 cs) (hg : g < B) (hc : ∀ k z, l[k]? = some z → cs[0 + k]? = some (B8 z)) : Rd w B (some ⟨g, 0, none⟩) (l.map B8) := by
  refine .inr ⟨g, 0, rfl, hg, fun j u hu => ?_⟩
  rw [List.getElem?_map] at hu
  obtain ⟨z, hz, rfl⟩ := Option.map_eq_some_iff.1 hu
  rw [h.cell]
  exact hc j z hz

set_option maxHeartbeats 4000000 in
theorem puts (tag : UInt8) (a : Option Addr) (n c : Nat) (l : List UInt8) (w : World) (hT : Tab w) (hl : l.length = n) (hn : n ≤ 140737488355328) (ha : a = none → c = 0) (hr : Rd w w.heap.size a (l.map B8)) :
    Calls Tryd.prog 3 #[B8 tag, .slice a n c] w (Ret (.bool true) w) := by
  have HT := Lib.hid hT
  have HL := Lib.hid hl
  have HA := Lib.hid ha
  have HR := Lib.hid hr
  clear hT hl ha hr
  go_enter Tryd.func3, Tryd.ntmps3
  go_wp2_with fail
  refine (long_any a n c _ (by omega)).mono ?_
  rintro en w0 ⟨rfl, hb0⟩
  have hB0 : Below w.heap.size w w0 := bnext (by go_grown) hb0
  clear hb0
  rcases Nat.lt_or_ge 200000 n with h | h
  · rw [show decide (200000 < n) = true by simp [h]]
    go_wp2_with fail
    refine (known_any _ (HT.out.below hB0 HT.out.1)).mono ?_
    rintro en w1 ⟨rfl, hb1⟩
    have hB1 := bnext hB0 hb1
    go_wp2_with fail
    go_returns
    exact ⟨rfl, hB1⟩
  · rw [show decide (200000 < n) = false by simp; omega]
    go_wp2_with fail
    refine (refPut_any tag a n c l _ HL.out (by omega) HA.out ((HR.out.below hB0).more hB0.size)).mono ?_
    rintro en w1 ⟨v1, rfl, ho1, hb1⟩
    have hB1 := bnext hB0 hb1
    have hfl : (Frm.frame tag l).length = 1 + (Frm.numB l.length).length + l.length + 4 := Frm.frame_len tag l
    have hnb := numB_len l.length (by rw [HL.out]; omega)
    have HFL := Lib.hid hfl
    have HNB := Lib.hid hnb
    have hN : 0 < (Frm.frame tag l).length := by omega
    obtain ⟨g1, c1, cs1, rfl, _, A1, q1, _, _, _⟩ := own_blk ho1 hN
    have HQ1 := Lib.hid q1
    have lA1 := A1.lt
    clear hfl hnb hb1 ho1 q1 hB0
    go_wp2_with fail
    refine (lent_any a n c l _ HL.out (by omega) HA.out ((HR.out.below hB1).more hB1.size)).mono ?_
    rintro en w2 ⟨g, cm, cs, rfl, hcm1, hcm2, hg, Am, hcs1, hcs2, hb2⟩
    have hB2 := bnext hB1 hb2
    have A1 := Blk.below A1 hb2
    have lAm := Am.lt
    have HM := Lib.hid (show ∀ (j : Nat) u, ((marked l).map B8)[j]? = some u → cs[j]? = some u from fun j u hu => by
      have hj : j < n + 2 := by have := (List.getElem?_eq_some_iff.1 hu).1; simp [marked, HL.out] at this; omega
      rw [← hcs2, List.getElem?_take_of_lt hj] at hu
      simpa using hu)
    have HQm := Lib.hid (show ∀ k z, l[k]? = some z → cs[0 + k]? = some (B8 z) from fun k z hz => by
      have hk : k < l.length := (List.getElem?_eq_some_iff.1 hz).1
      have e : (cs.toList.take (n + 2))[k]? = ((marked l).map B8)[k]? := by rw [hcs2]
      rw [List.getElem?_take_of_lt (by rw [← HL.out]; omega), List.getElem?_map, marked, List.getElem?_append_left hk, hz] at e
      rw [Nat.zero_add]
      simpa using e)
    have s12 := hb2.size
    have hB2s := hB2.size
    have hB1s := hB1.size
    clear hb2 hcs1 hcs2 hB1
    obtain ⟨fl, hfl2⟩ : ∃ fl, (Frm.frame tag l).length = fl := ⟨_, rfl⟩
    rw [hfl2]
    rw [hfl2] at hN
    have HFL2 := Lib.hid hfl2
    clear hfl2
    go_wp2_with fail
    refine (Put_any tag (some ⟨g, 0, none⟩) n cm l _ (HT.out.below hB2 HT.out.1) HL.out (by omega) (fun h => by cases h) (blk_rd Am lAm HQm.out)).mono ?_
    rintro en w3 ⟨v3, rfl, ho3, hb3⟩
    rw [HFL2.out] at ho3
    have hB3 := bnext hB2 hb3
    have s23 := hb3.size
    have A1 := Blk.below A1 hb3
    have Am := Blk.below Am hb3
    obtain ⟨ga, ca, csa, rfl, hga, Aa, qa, hla, hca1, hca2⟩ := own_blk ho3 hN
    have HQa := Lib.hid qa
    have lAa := Aa.lt
    clear hb3 ho3 qa hB2
    go_wp2_with fail
    refine (Put_any tag (some ⟨g, 0, none⟩) n cm l _ (HT.out.below hB3 HT.out.1) HL.out (by omega) (fun h => by cases h) (blk_rd Am (by omega) HQm.out)).mono ?_
    rintro en w4 ⟨v4, rfl, ho4, hb4⟩
    rw [HFL2.out] at ho4
    have hB4 := bnext hB3 hb4
    have s34 := hb4.size
    have A1 := Blk.below A1 hb4
    have Am := Blk.below Am hb4
    have Aa := Blk.below Aa hb4
    obtain ⟨gb, cb, csb, rfl, hgb, Ab, qb, _, hcb1, hcb2⟩ := own_blk ho4 hN
    have HQb := Lib.hid qb
    have lAb := Ab.lt
    clear hb4 ho4 qb hB3
    have r1 := conv_rd (some ⟨g1, 0, none⟩) fl c1 (Frm.frame tag l) HFL2.out w4 w4.heap.size (blk_rd A1 (by omega) HQ1.out)
    have r2 := conv_rd (some ⟨ga, 0, none⟩) fl ca (Frm.frame tag l) HFL2.out w4 w4.heap.size (blk_rd Aa (by omega) HQa.out)
    go_wp2_with fail
    refine (size_any n _ (by omega)).mono ?_
    rintro en w5 ⟨rfl, hb5⟩
    rw [show 1 + (Frm.numB n).length + n + 4 = fl by have := HFL.out; rw [HFL2.out, HL.out] at this; exact this.symm]
    have hB5 := bnext hB4 hb5
    have s45 := hb5.size
    have A1 := Blk.below A1 hb5
    have Am := Blk.below Am hb5
    have Aa := Blk.below Aa hb5
    have Ab := Blk.below Ab hb5
    clear hb5 r1 r2 hB4
    go_wp2_with fail
    refine (kept_any g cm a n c l _ ⟨Am.lt, by rw [HL.out]; exact hcm1, hcm2, fun j u hu => by rw [Am.cell]; exact HM.out j u hu⟩ HL.out (by omega) ((HR.out.below hB5).more hB5.size)).mono ?_
    rintro en w6 ⟨rfl, hb6⟩
    have hB6 := bnext hB5 hb6
    have s56 := hb6.size
    have A1 := Blk.below A1 hb6
    have Am := Blk.below Am hb6
    have Aa := Blk.below Aa hb6
    have Ab := Blk.below Ab hb6
    clear hb6 hB5 HM
    go_wp2_with fail
    refine (spoilt_any g 0 n cm cs l _ HL.out (by omega) Am HQm.out).mono ?_
    rintro en w7 ⟨rfl, hO7⟩
    have hB7 := hB6.trans (hO7.below (by have := hB2s; omega))
    have A1 := hO7.blk A1 (by omega)
    have Aa := hO7.blk Aa (by omega)
    have Ab := hO7.blk Ab (by omega)
    have s67 := hO7.2.1
    clear hO7 hB6 Am HQm
    go_wp2_with fail
    refine (spoilt_any ga 0 fl ca csa (Frm.frame tag l) _ HFL2.out (by have := HFL.out; rw [HFL2.out] at this; have := HNB.out; rw [HL.out] at *; omega) Aa HQa.out).mono ?_
    rintro en w8 ⟨rfl, hO8⟩
    have hB8 := hB7.trans (hO8.below (by have := hB2s; omega))
    have A1 := hO8.blk A1 (by omega)
    have Ab := hO8.blk Ab (by omega)
    have s78 := hO8.2.1
    clear hO8 hB7 Aa HQa
    have r1 := conv_rd (some ⟨g1, 0, none⟩) fl c1 (Frm.frame tag l) HFL2.out w8 w8.heap.size (blk_rd A1 (by omega) HQ1.out)
    have r2 := conv_rd (some ⟨gb, 0, none⟩) fl cb (Frm.frame tag l) HFL2.out w8 w8.heap.size (blk_rd Ab (by omega) HQb.out)
    go_wp2_with fail
    refine (known_any _ (HT.out.below hB8 HT.out.1)).mono ?_
    rintro en w9 ⟨rfl, hb9⟩
    have hB9 := bnext hB8 hb9
    clear r1 r2
    go_wp2_with fail
    go_returns
    exact ⟨rfl, hB9⟩
end Go.Proofs.YtolbmjilcngnhaaDoor
