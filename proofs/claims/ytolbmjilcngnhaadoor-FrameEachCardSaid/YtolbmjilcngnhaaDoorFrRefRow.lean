/- The document's Row. -/
import Derived.Test.YtolbmjilcngnhaaDoorFrJustW
set_option linter.unusedSimpArgs false
set_option linter.unusedVariables false
namespace Go.Proofs.YtolbmjilcngnhaaDoor
open Go.RowKit Go.Kp

set_option maxHeartbeats 4000000 in
theorem refRow_any (a : Option Addr) (n c : Nat) (bs : List Bk) (w : World) (hl : bs.length = n) (hr : Rd w w.heap.size a (bs.flatMap Bk.cells)) (hb : ∀ x ∈ bs, x.rd w w.heap.size) (hs : szTo bs n ≤ 268435456) (hn : n ≤ 268435456) :
    Calls Tryd.prog 32 #[.slice a n c] w fun e w' => ∃ v, e = .returned v ∧ w'.ownsRow w.heap.size 5 1 v (szTo bs n) ((Frm.rowB (bs.map Bk.pair)).map B8) ∧ Below w.heap.size w w' := by
  have HR := Lib.hid hr
  have HL := Lib.hid hl
  have HB := Lib.hid hb
  have HS := Lib.hid (fun k => Nat.le_trans (szTo_le bs k) (by rw [hl]; exact hs))
  clear hr hl hb hs
  go_enter Tryd.func32, Tryd.ntmps32
  go_wp2_with fail
  go_loopw [3, 4] (fun v i wi => ∃ j : Nat, j ≤ n ∧ i = .int .i64 j ∧ wi.ownsRow w.heap.size 5 1 v (szTo bs j) ((Frm.rowB ((bs.take j).map Bk.pair)).map B8) ∧ Below w.heap.size w wi) (fun _ i _ => n - (intOf i).toNat)
  case atStart => exact ⟨0, Nat.zero_le _, rfl, World.ownsRow_nil _ _ _ _, by go_grown⟩
  case round =>
    obtain ⟨j, hj, rfl, ho, hB⟩ := hrel
    have HO := Lib.hid ho
    have sB := hB.size
    clear ho
    rcases Nat.lt_or_ge j n with hlt | hge
    · obtain ⟨x, hx⟩ : ∃ x, bs[j]? = some x := ⟨_, List.getElem?_eq_getElem (by rw [HL.out]; exact hlt)⟩
      have HX := Lib.hid (szTo_succ bs j x hx)
      have HN := Lib.hid (szTo_next bs j x hx)
      have HSk := Lib.hid (HS.out (j + 1))
      obtain ⟨b, off, rfl⟩ := rd_some Bk.cells 2 Bk.len (by omega) HR.out (k := j) (by rw [HL.out]; exact hlt)
      obtain ⟨xa, xc, hxv, hxn, hxr⟩ := HB.out x (List.mem_of_getElem? hx)
      have HXN := Lib.hid hxn
      have HXR := Lib.hid hxr
      have g0 := rd_flat Bk.cells 2 Bk.len HR.out hx (j := 0) rfl
      have g1 := rd_flat Bk.cells 2 Bk.len HR.out hx (j := 1) rfl
      have e0 : wr.cell? ⟨b, off + j * 2, none⟩ = some (B8 x.t) := (hB.cell (p := ⟨b, _, none⟩) g0.2).trans g0.1
      have e1 : wr.cell? ⟨b, off + j * 2 + 1, none⟩ = some (.slice xa x.l.length xc) := by rw [← hxv]; exact (hB.cell (p := ⟨b, _, none⟩) g1.2).trans g1.1
      have lb := g0.2
      have hxl : x.l.length ≤ 268435456 := by have h1 := HSk.out; have h2 := HX.out; omega
      have HXL := Lib.hid hxl
      have HXS := Lib.hid (show szTo bs j ≤ 268435456 from HS.out j)
      have HXF := Lib.hid (show szTo bs (j + 1) = szTo bs j + (Frm.frame x.t x.l).length by rw [HX.out, Frm.frame_len])
      have HFL := Lib.hid (show (Frm.frame x.t x.l).length ≤ 268435456 by have h1 := HSk.out; rw [HXF.out] at h1; omega)
      clear hx g0 g1 hxv hxn hxr hxl
      go_wp2_with fail
      (refine region_keep (fun x => x < w.heap.size) 12 [(0, true), (1, true), (2, true), (3, true), (4, true), (5, true), (6, true), (7, true), (8, true), (9, true), (10, true), (11, false)] (by kernel_rfl) (fun _ _ d _ _ h => by cases d <;> exact h) (by kernel_rfl) ?_; simp only [withOps, List.getElem?_toArray, List.getElem?_cons_zero, List.getElem?_cons_succ, List.drop_succ_cons, List.drop_zero])
      (iterate 11 (refine keep_quiet (v := ?_) rfl ?_ ?_; rotate_left; (focus (intro w' hw'; go_simp; (try with_reducible rfl); done)); try simp only [Act.put, List.setIfInBounds_toArray, List.set_cons_zero, List.set_cons_succ]))
      (with_reducible refine plan_loud (fun K hK => ?_))
      go_simp
      refine (refPut_any x.t xa x.l.length xc x.l _ rfl (by have := HXL.out; omega) HXN.out ((HXR.out.below (hB.trans (show Below w.heap.size wr wr.drew by go_grown))).more sB)).mono ?_
      rintro en w1 ⟨v1, rfl, ho1, hb1⟩
      have hB1 : Below w.heap.size w w1 := (hB.trans (show Below w.heap.size wr wr.drew by go_grown)).trans (hb1.mono sB)
      refine hK _ _ (fun y hy => hb1.block y (Nat.lt_of_lt_of_le hy sB)) ?_
      clear hK K
      (with_reducible refine plan_end ?_)
      (try simp only [Act.put, List.setIfInBounds_toArray, List.set_cons_zero, List.set_cons_succ])
      have HO1 := Lib.hid (owns_keep HO.out (fun g _ hg => hb1.block g hg))
      obtain ⟨a1, c1, rfl, _, _, _, hn1, hr1⟩ := own_rd ho1
      have HR1 := Lib.hid hr1
      have s1 := hb1.size
      have HT := Lib.hid hn1
      clear ho1 hr1 e0 e1 HO hb1 hn1
      (with_reducible refine append_own (w0 := w1) ?_ (.tmp 11) (.tmp 22) ?_ w.heap.size u3 u3 (szTo bs j) (Frm.rowB ((bs.take j).map Bk.pair)) ?_ HO1.out a1 (Frm.frame x.t x.l).length c1 (Frm.frame x.t x.l) ?_ HT.out rfl HR1.out ?_ ?_ (Own.of_below (Below.refl _ _) ?_) ?_)
      · rfl
      · rfl
      · rfl
      · rfl
      · have := HXS.out; have := HFL.out; omega
      · exact hB1.size
      · exact hB1.size
      intro v2 w2 ho2 hg2
      have hB2 := hB1.trans hg2.1
      have HO2 := Lib.hid (show w2.ownsRow w.heap.size 5 1 v2 (szTo bs (j + 1)) ((Frm.rowB ((bs.take (j + 1)).map Bk.pair)).map B8) by rw [HXF.out, HN.out]; exact ho2)
      clear ho2 hg2 HO1
      go_wp2_with fail
      go_roundw
      case rel => exact ⟨j + 1, by omega, by go_num, HO2.out, hB2⟩
      case measure => simp [intOf]; omega
    · obtain rfl : j = n := by omega
      have HO2 := Lib.hid (show wr.ownsRow w.heap.size 5 1 u3 (szTo bs j) ((Frm.rowB (bs.map Bk.pair)).map B8) by
        have h := HO.out
        rw [List.take_of_length_le (by rw [HL.out]; exact Nat.le_refl _)] at h
        exact h)
      go_wp2_with fail
      go_returns
      exact ⟨_, rfl, HO2.out, hB⟩
end Go.Proofs.YtolbmjilcngnhaaDoor
