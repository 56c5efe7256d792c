/- FrameEach: the walk. -/
import Derived.Test.YtolbmjilcngnhaaDoorFrWalks
set_option linter.unusedSimpArgs false
set_option linter.unusedVariables false
namespace Go.Proofs.YtolbmjilcngnhaaDoor
open Go.RowKit Go.Kp

theorem func_nil (lb : Array Value) (w : World) : (binOp .eql 59 (.func (.func 41) #[] lb) .nilFunc).run Tryd.prog w = .ok (.bool false) w := by kernel_rfl

set_option maxHeartbeats 8000000 in
theorem eachs (a : Option Addr) (n c : Nat) (l : List UInt8) (lv : Int) (w : World) (hT : Tab w) (hl : l.length = n) (hn : n ≤ 140737488355328) (hc : n ≤ c) (hcm : c ≤ maxLen) (ha : a = none → c = 0) (hr : Rd w w.heap.size a (l.map B8)) :
    Calls Tryd.prog 7 #[.slice a n c, .int .i64 lv] w (Ret (.bool true) w) := by
  have HT := Lib.hid hT
  have HL := Lib.hid hl
  have HA := Lib.hid ha
  have HR := Lib.hid hr
  have HCM := Lib.hid hcm
  clear hT hl ha hr hcm
  go_enter Tryd.func7, Tryd.ntmps7
  go_wp2_with fail
  refine (long_any a n c _ (by omega)).mono ?_
  rintro en w0 ⟨rfl, hb0⟩
  have hB0 : Below w.heap.size w w0 := bnext (by go_grown) hb0
  clear hb0
  rcases Nat.lt_or_ge 200000 n with h | h
  · rw [show decide (200000 < n) = true by simp [h]]
    go_wp2_with fail
    refine (known_any _ (HT.out.below hB0 HT.out.1)).mono ?_
    rintro en w1 ⟨rfl, hb1⟩
    have hB1 := bnext hB0 hb1
    go_wp2_with fail
    go_returns
    exact ⟨rfl, hB1⟩
  · rw [show decide (200000 < n) = false by simp; omega]
    go_wp2_with fail
    refine (Heads_any a n c l _ HL.out (by omega) hc HCM.out HA.out ((HR.out.below hB0).more hB0.size)).mono ?_
    rintro en w1 ⟨v, vp, bs, at_, s, rfl, hb1, hW, hbl, hH, hP⟩
    have hB1 := bnext hB0 hb1
    obtain ⟨ap, cp, rfl, hpl, _, _, _, hpr⟩ := own_rdv hP
    obtain ⟨⟨av, cv, rfl, hvr⟩, hvb⟩ := rws_read hW
    have hbn : bs.length ≤ 200000 := by have := hH.2.1; rw [HL.out] at this; omega
    obtain ⟨g, off, rfl, hg, hcp⟩ : ∃ g off, ap = some ⟨g, off, none⟩ ∧ g < w1.heap.size ∧ ∀ (j : Nat) u, (plc bs)[j]? = some u → w1.cell? ⟨g, off + j, none⟩ = some u := by
      rcases hpr with h | h
      · rw [h] at hpl; simp at hpl
      · exact h
    have HCP := Lib.hid (show ∀ j, j ≤ bs.length → w1.cell? ⟨g, off + j, none⟩ = some (.int .i64 (szTo bs j : Nat)) from fun j hj => hcp j _ (plc_get bs j hj))
    have HH := Lib.hid hH
    have HVR := Lib.hid hvr
    have HVB := Lib.hid hvb
    have s01 := hB1.size
    clear hW hH hP hpl hcp hpr hvr hvb hb1 hB0
    go_wp2_with fail
    refine (lent_any a n c l _ HL.out (by omega) HA.out ((HR.out.below hB1).more hB1.size)).mono ?_
    rintro en w2 ⟨gm, cm, cs, rfl, hcm1, hcm2, hgm, Am, hcs1, hcs2, hb2⟩
    have hM2 := hb2
    have hB2 := bnext hB1 hM2
    have hu := lent_use HL.out hcm1 hcm2 Am hcs2
    have lAm := Am.lt
    have HLT := Lib.hid hu.1
    have HLB := Lib.hid (show LentB w2 ⟨0, gm, cm, l⟩ from ⟨cs, Am, by rw [HL.out]; exact hcm1, hcm2, by rw [HL.out]; exact hcs2⟩)
    have HRm := Lib.hid hu.2
    have s12 := hM2.size
    clear hb2 hcs1 hcs2 Am hu
    go_wp2_with fail
    refine (Each_any gm n cm l _ HL.out (by omega) HRm.out).mono ?_
    rintro en w3 ⟨vb, rfl, A3, ho3, hb3⟩
    have hM3 := bnext hM2 hb3
    have hN3 := hb3
    have hB3 := bnext hB1 hM3
    have HLT := Lib.hid (lent_below HLT.out hb3)
    have HO3 := Lib.hid ho3
    have s23 := hb3.size
    have lA3 := A3.lt
    have lgm : gm < w2.heap.size := lAm
    clear hb3 ho3 hB2 hM2 HRm
    have hfn := func_nil #[.pointer (some ⟨w2.heap.size, 0, none⟩)]
    go_wp2_with fail
    refine (kept_any gm cm a n c l _ HLT.out HL.out (by omega) ((HR.out.below hB3).more hB3.size)).mono ?_
    rintro en w4 ⟨rfl, hb4⟩
    have hM4 := bnext hM3 hb4
    have hMM := bnext hN3 hb4
    have hB4 := bnext hB1 hM4
    have A4 := A3.below hb4
    have HO4 := Lib.hid (owns_keep HO3.out (fun g _ hg => hb4.block g hg))
    have HLT := Lib.hid (lent_below HLT.out hb4)
    have s34 := hb4.size
    have HBY := Lib.hid (show Byt w4 (.slice (some ⟨gm, 0, none⟩) n cm) n from by
      have h := (HLB.out.heap (hMM.block gm lgm)).byt
      rw [LB.v, HL.out] at h
      exact h)
    clear hb4 hM3 hB3 A3 HO3 hfn
    go_wp2_with fail
    refine (spoilt_b (.slice (some ⟨gm, 0, none⟩) n cm) n _ HBY.out (by omega)).mono ?_
    rintro en w5 ⟨rfl, hS⟩
    have hM5 : Below w1.heap.size w1 w5 := hM4.trans ⟨hS.2.2.1.os, hS.2.2.1.tape, hS.2.2.1.output, hS.2.2.1.size, fun b hb => hS.1 b (fun e => by
      have h1 : gm = b := Option.some.inj e
      omega)⟩
    have hB5 := bnext hB1 hM5
    have s5 := hM5.size
    have A5 : Blk w5 w2.heap.size 22 #[vb] := (hS.1 _ (fun e => by have h1 : gm = w2.heap.size := Option.some.inj e; omega)).trans A4
    have HO5 := own_at HO4.out (fun g' hg' => hS.1 g' (fun e => by
      have h1 : gm = g' := Option.some.inj e
      have h2 := (HO4.out.lt g' hg').1
      omega))
    obtain ⟨ab, cb, rfl, p51, p5c, p5m, p52, p53⟩ := own_rd HO5
    have P51 := Lib.hid p51
    have P53 := Lib.hid p53
    have P5M := Lib.hid p5m
    have HV5 := Lib.hid ((HVR.out.below hM5).more s5)
    have HVB5 := Lib.hid (show ∀ x ∈ bs, x.rd w5 w5.heap.size from fun x hx => by
      obtain ⟨xa, xc, h1, h2, h3⟩ := HVB.out x hx
      exact ⟨xa, xc, h1, h2, (h3.below hM5).more s5⟩)
    have HCP5 := Lib.hid (show ∀ j, j ≤ bs.length → w5.cell? ⟨g, off + j, none⟩ = some (.int .i64 (szTo bs j : Nat)) from fun j hj => (hM5.cell (p := ⟨g, _, none⟩) hg).trans (HCP.out j hj))
    clear HO5 p51 p53 p5m hS A4 HO4 HLB HBY HLT hM4 hMM hN3 p52 HVR HVB HCP hB4
    go_wp2_with fail
    refine (walks_any w2.heap.size ab av n cb cv g off cp l bs lv at_ s _ (HT.out.below hB5 HT.out.1) A5 HL.out (by omega) p5c P5M.out P53.out HV5.out HVB5.out (by omega) (by omega) HCP5.out HH.out).mono ?_
    rintro en w6 ⟨rfl, hb6⟩
    have hB6 := bnext hB5 hb6
    have A6 := A5.below hb6
    have s6 := hb6.size
    have HCP6 := Lib.hid (show ∀ j, j ≤ bs.length → w6.cell? ⟨g, off + j, none⟩ = some (.int .i64 (szTo bs j : Nat)) from fun j hj => (hb6.cell (p := ⟨g, _, none⟩) (Nat.lt_of_lt_of_le hg s5)).trans (HCP5.out j hj))
    have HVB6 := Lib.hid (show ∀ x ∈ bs, x.rd w6 w6.heap.size from fun x hx => by
      obtain ⟨xa, xc, h1, h2, h3⟩ := HVB5.out x hx
      exact ⟨xa, xc, h1, h2, (h3.below hb6).more s6⟩)
    have HV6 := Lib.hid ((HV5.out.below hb6).more s6)
    have P63 := Lib.hid ((P53.out.below hb6).more s6)
    clear hb6 A5 hB5 HV5 HVB5 HCP5 P53
    go_wp2_with fail
    refine (walks_any w2.heap.size ab av n cb cv g off cp l bs 0 at_ s _ (HT.out.below hB6 HT.out.1) A6 HL.out (by omega) p5c P5M.out P63.out HV6.out HVB6.out (by omega) (by omega) HCP6.out HH.out).mono ?_
    rintro en w7 ⟨rfl, hb7⟩
    have hB7 := bnext hB6 hb7
    go_wp2_with fail
    refine (known_any _ (HT.out.below hB7 HT.out.1)).mono ?_
    rintro en w8 ⟨rfl, hb8⟩
    have hB8 := bnext hB7 hb8
    go_wp2_with fail
    go_returns
    exact ⟨rfl, hB8⟩
end Go.Proofs.YtolbmjilcngnhaaDoor
