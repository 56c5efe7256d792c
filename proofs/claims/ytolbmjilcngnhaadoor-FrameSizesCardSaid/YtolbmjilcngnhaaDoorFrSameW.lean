/- FrameSame: the walk. -/
import Derived.Test.YtolbmjilcngnhaaDoorFrRow
set_option linter.unusedSimpArgs false
set_option linter.unusedVariables false
namespace Go.Proofs.YtolbmjilcngnhaaDoor
open Go.RowKit Go.Kp

/-- A row that is owned, read cell by cell. -/
theorem own_cells {w : World} {base : Nat} {e : TypeId} {size : Nat} {v : Value} {n : Nat} {xs : List Value} (h : w.ownsRow base e size v n xs) : ∃ ad cap, v = .slice ad n cap ∧ (ad = none → cap = 0) ∧ Rd w w.heap.size ad xs := by
  obtain ⟨a, c, rfl, _, _, h3⟩ := own_slice h
  refine ⟨a, c, rfl, h3, ?_⟩
  rcases Nat.eq_zero_or_pos n with h0 | h0
  · subst h0
    exact .inl (List.eq_nil_of_length_eq_zero (by rw [h.1]; simp))
  · obtain ⟨g, c', he, hg1, hgl⟩ := World.ownsRow.form h h0
    simp only [Value.slice.injEq] at he
    obtain ⟨rfl, _, rfl⟩ := he
    refine .inr ⟨g, 0, rfl, hgl, fun j u hu => ?_⟩
    have hj := (List.getElem?_eq_some_iff.1 hu).1
    rw [Nat.zero_add]
    exact (h.cellAt j (by rw [← h.1]; exact hj)).trans hu
theorem rws_rd {w : World} {lo : Nat} {v : Value} {bs : List Bk} (h : Rws w lo v bs) : ∀ x ∈ bs, x.rd w w.heap.size := fun x hx => by
  obtain ⟨a, c, h1, _, _, _, h2, h3⟩ := own_rd (h.2 x hx).1
  exact ⟨a, c, h1, h2, h3⟩
theorem szTo_all (bs : List Bk) (n : Nat) (h : bs.length = n) : szTo bs n = (Frm.rowB (bs.map Bk.pair)).length := by
  unfold szTo; rw [List.take_of_length_le (by omega)]

set_option maxHeartbeats 4000000 in
theorem same_law (a : Option Addr) (n c : Nat) (l : List UInt8) (w : World) (hT : Tab w) (hl : l.length = n) (hn : n ≤ 140737488355328) (hc : n ≤ c) (hcm : c ≤ maxLen) (ha : a = none → c = 0) (hr : Rd w w.heap.size a (l.map B8)) :
    Calls Tryd.prog 10 #[.slice a n c] w (Ret (.bool true) w) := by
  have HT := Lib.hid hT
  have HL := Lib.hid hl
  have HA := Lib.hid ha
  have HR := Lib.hid hr
  have HCM := Lib.hid hcm
  clear hT hl ha hr hcm
  go_enter Tryd.func10, Tryd.ntmps10
  go_wp2_with fail
  refine (long_any a n c _ (by omega)).mono ?_
  rintro en w0 ⟨rfl, hb0⟩
  have hB0 : Below w.heap.size w w0 := bnext (by go_grown) hb0
  clear hb0
  rcases Nat.lt_or_ge 200000 n with h | h
  · rw [show decide (200000 < n) = true by simp [h]]
    go_wp2_with fail
    refine (known_any _ (HT.out.below hB0 HT.out.1)).mono ?_
    rintro en w1 ⟨rfl, hb1⟩
    have hB1 := bnext hB0 hb1
    go_wp2_with fail
    go_returns
    exact ⟨rfl, hB1⟩
  · rw [show decide (200000 < n) = false by simp; omega]
    go_wp2_with fail
    refine (All_any a n c l _ (HT.out.below hB0 HT.out.1) HL.out (by omega) hc HCM.out HA.out ((HR.out.below hB0).more hB0.size)).mono ?_
    rintro en w1 ⟨hb1, ⟨v, bs, rfl, hW, hrow, hbn⟩ | ⟨at_, s, f, e, bs, rfl, hs, hat, _, _⟩⟩
    · have hB1 := bnext hB0 hb1
      have HW := Lib.hid hW
      have HRow := Lib.hid hrow
      clear hb1 hW hrow
      obtain ⟨ad, cap, hv, _, hrd⟩ := own_cells HW.out.1
      have HRD := Lib.hid hrd
      subst hv
      have HSZ := Lib.hid (show szTo bs bs.length = n by rw [szTo_all bs _ rfl, HRow.out, HL.out])
      clear hrd
      go_wp2_with fail
      refine (Row_ok ad bs.length cap bs _ (HT.out.below hB1 HT.out.1) rfl HRD.out (rws_rd HW.out) (by rw [HSZ.out]; omega) (by omega)).mono ?_
      rintro en w2 ⟨v2, rfl, ho2, hb2⟩
      have hB2 := bnext hB1 hb2
      rw [HSZ.out, HRow.out] at ho2
      obtain ⟨a2, c2, rfl, _, _, _, _, k5⟩ := own_rd ho2
      have r1 := conv_rd a2 n c2 l HL.out w2 w2.heap.size k5
      have r2 := conv_rd a n c l HL.out w2 w2.heap.size ((HR.out.below hB2).more hB2.size)
      clear k5 ho2 hb2
      go_wp2_with fail
      refine (known_any _ (HT.out.below hB2 HT.out.1)).mono ?_
      rintro en w3 ⟨rfl, hb3⟩
      have hB3 := bnext hB2 hb3
      clear r1 r2
      go_wp2_with fail
      go_returns
      exact ⟨rfl, hB3⟩
    · have hB1 := bnext hB0 hb1
      have hs' : ((s : Int) == 0) = false := by simp; omega
      have h1 : (0 : Int) ≤ (at_ : Int) := by omega
      have h2 : (at_ : Int) ≤ (n : Int) := by omega
      clear hb1
      go_wp2_with fail
      refine (known_any _ (HT.out.below hB1 HT.out.1)).mono ?_
      rintro en w2 ⟨rfl, hb2⟩
      have hB2 := bnext hB1 hb2
      go_wp2_with fail
      go_returns
      exact ⟨rfl, hB2⟩
end Go.Proofs.YtolbmjilcngnhaaDoor
