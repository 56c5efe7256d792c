/- The program's Row. -/
import Derived.Test.YtolbmjilcngnhaaDoorFrAll
set_option linter.unusedSimpArgs false
set_option linter.unusedVariables false
namespace Go.Proofs.YtolbmjilcngnhaaDoor
open Go.RowKit Go.Kp

/-- A block that is read: its body lies below B. -/
def Bk.rd (w : World) (B : Nat) (x : Bk) : Prop := ∃ a c, x.v = .slice a x.l.length c ∧ (a = none → c = 0) ∧ Rd w B a (x.l.map B8)
theorem Bk.rd.below {w w' : World} {B : Nat} {x : Bk} (h : x.rd w B) (hb : Below B w w') : x.rd w' B := by
  obtain ⟨a, c, h1, h2, h3⟩ := h
  exact ⟨a, c, h1, h2, h3.below hb⟩
/-- How many bytes the first k blocks take. -/
def szTo (bs : List Bk) (k : Nat) : Nat := (Frm.rowB ((bs.take k).map Bk.pair)).length
theorem szTo_next (bs : List Bk) (k : Nat) (x : Bk) (h : bs[k]? = some x) : Frm.rowB ((bs.take (k + 1)).map Bk.pair) = Frm.rowB ((bs.take k).map Bk.pair) ++ Frm.frame x.t x.l := by
  rw [List.take_add_one, h, List.map_append]
  exact Frm.rowB_snoc _ (x.t, x.l)
theorem szTo_succ (bs : List Bk) (k : Nat) (x : Bk) (h : bs[k]? = some x) : szTo bs (k + 1) = szTo bs k + (1 + (Frm.numB x.l.length).length + x.l.length + 4) := by
  unfold szTo
  rw [szTo_next bs k x h, List.length_append, Frm.frame_len]
theorem szTo_le (bs : List Bk) (k : Nat) : szTo bs k ≤ szTo bs bs.length := by
  unfold szTo
  have h : (bs.take bs.length) = bs.take k ++ bs.drop k := by rw [List.take_length, List.take_append_drop]
  rw [h, List.map_append, Frm.rowB, Frm.rowB, List.flatMap_append, List.length_append]
  omega

set_option maxHeartbeats 4000000 in
theorem Row_ok (a : Option Addr) (n c : Nat) (bs : List Bk) (w : World) (hT : Tab w) (hl : bs.length = n) (hr : Rd w w.heap.size a (bs.flatMap Bk.cells)) (hb : ∀ x ∈ bs, x.rd w w.heap.size) (hs : szTo bs n ≤ 268435456) (hn : n ≤ 268435456) :
    Calls Tryd.prog 33 #[.slice a n c] w fun e w' => ∃ v, e = .returned (.tuple #[v, .int .i64 0]) ∧ w'.ownsRow w.heap.size 5 1 v (szTo bs n) ((Frm.rowB (bs.map Bk.pair)).map B8) ∧ Below w.heap.size w w' := by
  have HT := Lib.hid hT
  have HR := Lib.hid hr
  have HL := Lib.hid hl
  have HB := Lib.hid hb
  have HS := Lib.hid (fun k => Nat.le_trans (szTo_le bs k) (by rw [hl]; exact hs))
  clear hT hr hl hb hs
  go_enter Tryd.func33, Tryd.ntmps33
  go_wp2_with fail
  go_loopw [4, 12] (fun s i wr => ∃ k : Nat, k ≤ n ∧ i = .int .i64 k ∧ s = .int .i64 (szTo bs k) ∧ Below w.heap.size w wr) (fun _ i _ => n - (intOf i).toNat)
  case atStart => exact ⟨0, Nat.zero_le _, rfl, rfl, by go_grown⟩
  case round =>
    obtain ⟨k, hk, rfl, rfl, hB⟩ := hrel
    rcases Nat.lt_or_ge k n with hlt | hge
    · obtain ⟨x, hx⟩ : ∃ x, bs[k]? = some x := ⟨_, List.getElem?_eq_getElem (by rw [HL.out]; exact hlt)⟩
      have HX := Lib.hid (szTo_succ bs k x hx)
      have HSk := Lib.hid (HS.out (k + 1))
      obtain ⟨xa, xc, hxv, hxn, hxr⟩ := HB.out x (List.mem_of_getElem? hx)
      rcases HR.out with hr | ⟨b, off, rfl, hbl, hcc⟩
      · have := flat_length Bk.cells 2 Bk.len bs
        rw [hr, HL.out] at this
        simp at this; omega
      have e := fun j (hj : j < 2) => (hB.cell (p := ⟨b, off + (k * 2 + j), none⟩) hbl).trans (hcc (k * 2 + j) _ ((flat_get Bk.cells 2 Bk.len bs k j x hx hj).trans (List.getElem?_eq_getElem (by simpa using hj))))
      have e0 : wr.cell? ⟨b, off + k * 2, none⟩ = some (B8 x.t) := e 0 (by omega)
      have e1 : wr.cell? ⟨b, off + k * 2 + 1, none⟩ = some (.slice xa x.l.length xc) := by rw [← hxv]; exact e 1 (by omega)
      have hxl : x.l.length ≤ 268435456 := by have h1 := HSk.out; have h2 := HX.out; omega
      have hxl2 : ¬ (268435456 : Int) < x.l.length := by omega
      have HXL := Lib.hid hxl
      obtain ⟨sk, hsk⟩ : ∃ sk, szTo bs k = sk := ⟨_, rfl⟩
      obtain ⟨sk1, hsk1⟩ : ∃ sk1, szTo bs (k + 1) = sk1 := ⟨_, rfl⟩
      have HSK1 := Lib.hid hsk1
      rw [hsk]
      obtain ⟨fs, hfs⟩ : ∃ fs, 1 + (Frm.numB x.l.length).length + x.l.length + 4 = fs := ⟨_, rfl⟩
      have hadd : (sk : Int) + (fs : Int) = (sk1 : Int) := by have := HX.out; rw [hsk, hsk1, hfs] at this; omega
      have HFS := Lib.hid hfs
      have hsk3 : ¬ (268435456 : Int) < sk1 := by have := HSk.out; rw [hsk1] at this; omega
      have hw : wrap64 ((sk : Int) + (fs : Int)) = (sk1 : Int) := by rw [hadd]; unfold wrap64; omega
      clear hx hbl hcc e hxv hxn hxr hsk hsk1 hxl hfs
      go_wp2_with fail
      refine (size_any x.l.length _ HXL.out).mono ?_
      rintro en w1 ⟨rfl, hb1⟩
      have hB1 := bnext hB (bnext (by go_grown) hb1)
      rw [HFS.out]
      clear hb1 e0 e1
      go_wp2_with fail
      go_roundw
      case rel => exact ⟨k + 1, by omega, by go_num, by rw [HSK1.out], hB1⟩
      case measure => simp [intOf]; omega
    · obtain rfl : k = n := by omega
      clear hge hk
      go_wp2_with fail
      go_loopw [7, 31] (fun v i wi => ∃ j : Nat, j ≤ k ∧ i = .int .i64 j ∧ wi.ownsRow w.heap.size 5 1 v (szTo bs j) ((Frm.rowB ((bs.take j).map Bk.pair)).map B8) ∧ Below w.heap.size w wi) (fun _ i _ => k - (intOf i).toNat)
      case atStart => exact ⟨0, Nat.zero_le _, rfl, World.ownsRow_nil _ _ _ _, by go_grown⟩
      case round =>
        clear hB
        obtain ⟨j, hj, rfl, ho, hB⟩ := hrel
        have HO := Lib.hid ho
        have sB := hB.size
        clear ho
        rcases Nat.lt_or_ge j k with hlt | hge
        · obtain ⟨x, hx⟩ : ∃ x, bs[j]? = some x := ⟨_, List.getElem?_eq_getElem (by rw [HL.out]; exact hlt)⟩
          have HX := Lib.hid (szTo_succ bs j x hx)
          have HN := Lib.hid (szTo_next bs j x hx)
          have HSk := Lib.hid (HS.out (j + 1))
          obtain ⟨xa, xc, hxv, hxn, hxr⟩ := HB.out x (List.mem_of_getElem? hx)
          have HXN := Lib.hid hxn
          have HXR := Lib.hid hxr
          rcases HR.out with hr | ⟨b, off, rfl, hbl, hcc⟩
          · have := flat_length Bk.cells 2 Bk.len bs
            rw [hr, HL.out] at this
            simp at this; omega
          have e := fun i (hi : i < 2) => (hB.cell (p := ⟨b, off + (j * 2 + i), none⟩) hbl).trans (hcc (j * 2 + i) _ ((flat_get Bk.cells 2 Bk.len bs j i x hx hi).trans (List.getElem?_eq_getElem (by simpa using hi))))
          have e0 : wr.cell? ⟨b, off + j * 2, none⟩ = some (B8 x.t) := e 0 (by omega)
          have e1 : wr.cell? ⟨b, off + j * 2 + 1, none⟩ = some (.slice xa x.l.length xc) := by rw [← hxv]; exact e 1 (by omega)
          have hxl : x.l.length ≤ 268435456 := by have h1 := HSk.out; have h2 := HX.out; omega
          have HXL := Lib.hid hxl
          have HXS := Lib.hid (show szTo bs j ≤ 268435456 from HS.out j)
          have HXF := Lib.hid (show szTo bs (j + 1) = szTo bs j + (Frm.frame x.t x.l).length by rw [HX.out, Frm.frame_len])
          clear hx hbl hcc e hxv hxn hxr hxl
          go_wp2_with fail
          refine (put_any w.heap.size u7 (szTo bs j) (Frm.rowB ((bs.take j).map Bk.pair)) x.t xa x.l.length xc x.l _ (HT.out.below (hB.trans (show Below w.heap.size wr _ by go_grown)) HT.out.1) (by simp; omega) HT.out.1 (owns_keep HO.out (fun g _ hg => (show Below wr.heap.size wr _ by go_grown).block g hg)) (by have := HXS.out; omega) rfl HXL.out HXN.out ((HXR.out.below hB).below (by go_grown))).mono ?_
          rintro en w1 ⟨v1, rfl, ho1, hg1⟩
          have hB1 : Below w.heap.size w w1 := (hB.trans (show Below w.heap.size wr _ by go_grown)).trans hg1.1
          have HO1 := Lib.hid (show w1.ownsRow w.heap.size 5 1 v1 (szTo bs (j + 1)) ((Frm.rowB ((bs.take (j + 1)).map Bk.pair)).map B8) by rw [HXF.out, HN.out]; exact ho1)
          clear hg1 ho1 e0 e1
          go_wp2_with fail
          go_roundw
          case rel => exact ⟨j + 1, by omega, by go_num, HO1.out, hB1⟩
          case measure => simp [intOf]; omega
        · obtain rfl : j = k := by omega
          have HO2 := Lib.hid (show wr.ownsRow w.heap.size 5 1 u7 (szTo bs j) ((Frm.rowB (bs.map Bk.pair)).map B8) by
            have h := HO.out
            rw [List.take_of_length_le (by rw [HL.out]; exact Nat.le_refl _)] at h
            exact h)
          go_wp2_with fail
          go_ret2
          exact ⟨_, rfl, HO2.out, hB⟩
end Go.Proofs.YtolbmjilcngnhaaDoor
