/- FrameSizes: the walk. -/
import Derived.Test.YtolbmjilcngnhaaDoorFrPre
import Derived.Test.YtolbmjilcngnhaaDoorFrSameW
import Derived.OwnWalk
set_option linter.unusedSimpArgs false
set_option linter.unusedVariables false
namespace Go.Proofs.YtolbmjilcngnhaaDoor
open Go.RowKit Go.Kp

theorem info5' : (Tryd.prog.info? 5).map (fun i => (i.zero, i.size, i.bytes)) = some (some (.int .u8 0), 1, 1) := by kernel_rfl
/-- N noughts. -/
def big (N : Nat) : List UInt8 := List.replicate N 0
theorem big_cells (N : Nat) : (madeCells (Value.int .u8 0).cells (N * 1)).toList = (big N).map B8 := by
  rw [Nat.mul_one]
  show (madeCells #[.int .u8 0] N).toList = _
  rw [toList_madeCells_one, big, List.map_replicate]
  rfl
theorem four_len (N : Nat) (hN : N = 1048576) (bs : List Bk) (h : ∀ x ∈ bs, x.l = big N) (h4 : bs.length = 4) : (Frm.rowB (bs.map Bk.pair)).length = 4194336 := by
  have hf : ∀ x ∈ bs, (Frm.frame x.t x.l).length = 1048584 := fun x hx => by
    rw [Frm.frame_len, h x hx]
    have : (big N).length = 1048576 := by rw [big, List.length_replicate, hN]
    rw [this, show (Frm.numB 1048576).length = 3 by decide +kernel]
  match bs, h4 with
  | [x, y, z, u], _ =>
    simp only [Frm.rowB, List.map_cons, List.map_nil, List.flatMap_cons, List.flatMap_nil, List.length_append, List.length_nil]
    rw [hf x (by simp), hf y (by simp), hf z (by simp), hf u (by simp)]

set_option maxHeartbeats 4000000 in
theorem sizes_law (w : World) (hT : Tab w) : Calls Tryd.prog 11 #[] w (Ret (.bool true) w) := by
  have HT := Lib.hid hT
  clear hT
  obtain ⟨N, hN⟩ : ∃ N : Nat, N = 1048576 := ⟨_, rfl⟩
  have HN := Lib.hid hN
  clear hN
  obtain ⟨i0, hi, hz0, hz1, hz2⟩ := info_parts info5'
  go_enter Tryd.func11, Tryd.ntmps11
  go_upto_region 1 with (fail)
  apply wp_region_lit
  (with_reducible refine wpList_make_full w ?_ (.const (.int .i64 1048576)) (.const (.int .i64 1048576)) 22 ?_ w.heap.size 5 i0 (.int .u8 0) 1 Tryd.underlying22 hi hz0 hz1 .i64 .i64 1048576 1048576 N ?_ ?_ ?_ ?_ ?_ ?_ (Nat.le_refl _) ?_)
  · rfl
  · rfl
  · rfl
  · rfl
  · rw [HN.out]; rfl
  · rw [HN.out]; rfl
  · rw [hz2, HN.out]; decide
  · rw [HN.out]; unfold maxLen; decide
  intro w1 ho1 hg1
  rw [big_cells] at ho1
  have hB1 : Below w.heap.size w w1 := (Below.refl _ _).grown hg1 (Nat.le_refl _) (fun k hk => by cases hk)
  have HO1 := Lib.hid ho1
  have HLB := Lib.hid (show (big N).length = N by simp [big])
  clear ho1 hg1
  go_upto_region 3 with (fail)
  (refine wp_at (fun wc => Blk wc w1.heap.size 35 #[.int .u8 5, .slice (some ⟨w.heap.size, 0, none⟩) N N] ∧ Below w1.heap.size w1 wc) ⟨heap_at rfl, by go_grown⟩ ?_)
  rintro w2 ⟨A2, hb2⟩
  have hB2 := bnext hB1 hb2
  have HO2 := Lib.hid (owns_keep HO1.out (fun g _ hg => hb2.block g hg))
  have cA := A2.cell
  have lA := A2.lt
  clear hb2 HO1
  go_wp2_with fail
  have HR2 := Lib.hid (show Rd w2 w2.heap.size (some ⟨w.heap.size, 0, none⟩) ((big N).map B8) by
    obtain ⟨a, c, he, _, _, _, _, k⟩ := own_rd HO2.out
    simp only [Value.slice.injEq] at he
    rw [he.1]; exact k)
  obtain ⟨x, hx⟩ : ∃ x : Bk, x = ⟨5, .slice (some ⟨w.heap.size, 0, none⟩) N N, big N⟩ := ⟨_, rfl⟩
  have HX := Lib.hid hx
  clear hx
  have HF := Lib.hid (four_len N HN.out [x, x, x, x] (fun y hy => by
    have : y = x := by simpa using hy
    rw [this, HX.out]) rfl)
  have HSZ := Lib.hid (show szTo [x, x, x, x] 4 = 4194336 by rw [szTo_all _ 4 rfl, HF.out])
  refine (Row_ok (some ⟨w2.heap.size, 0, none⟩) 4 4 [x, x, x, x] _ (HT.out.below (bnext hB2 (by go_grown)) HT.out.1) rfl (.inr ⟨w2.heap.size, 0, rfl, by simp, fun j u hu => ?_⟩) (fun y hy => ?_) (by rw [HSZ.out]; omega) (by omega)).mono ?_
  · rw [cell_of_row _ _ _ _ _ _ (heap_at rfl), Nat.zero_add]
    rw [HX.out] at hu
    rw [← Array.getElem?_toList]
    exact hu
  · have : y = x := by simpa using hy
    subst this
    rw [HX.out]
    exact ⟨_, N, by rw [HLB.out], fun h => (by cases h), (HR2.out.below (by go_grown)).more (by simp)⟩
  rintro en w3 ⟨v3, rfl, ho3, hb3⟩
  rw [HSZ.out] at ho3
  have hB3 := bnext hB2 (bnext (by go_grown) hb3)
  have s3 := hB3.size
  obtain ⟨a3, c3, rfl, hl3, k2, k3, k4, k5⟩ := own_rd ho3
  have HL3 := Lib.hid hl3
  have HK2 := Lib.hid k2
  have HK3 := Lib.hid k3
  have HK4 := Lib.hid k4
  have HK5 := Lib.hid k5
  clear ho3 hb3 hl3 k2 k3 k4 k5 cA lA A2 HO2 HR2
  go_wp2_with fail
  refine (All_any a3 4194336 c3 _ _ (HT.out.below hB3 HT.out.1) HL3.out (by omega) HK2.out HK3.out HK4.out HK5.out).mono ?_
  rintro en w4 ⟨hb4, ⟨v, bs, rfl, hW, hrow, hbn⟩ | ⟨at_, s, f, e, bs, rfl, hs, hat, hlk, hrw⟩⟩
  · have hB4 := bnext hB3 hb4
    have hsame := Frm.rowB_same (by rw [HL3.out]; omega) hrow
    have hl4 : bs.length = 4 := by have := congrArg List.length hsame; simpa using this
    have HE := Lib.hid (show ∀ y ∈ bs, y.t = 5 ∧ y.l.length = N from fun y hy => by
      have h1 : y.pair ∈ ([x, x, x, x] : List Bk).map Bk.pair := by rw [← hsame]; exact List.mem_map.2 ⟨y, hy, rfl⟩
      have h2 : y.pair = x.pair := by simpa using h1
      rw [HX.out] at h2
      simp only [Bk.pair, Prod.mk.injEq] at h2
      exact ⟨h2.1, by rw [h2.2]; exact HLB.out⟩)
    have HL4 := Lib.hid hl4
    have HW := Lib.hid hW
    obtain ⟨ad, cap, hv, _, hrd⟩ := own_cells HW.out.1
    have HRD := Lib.hid hrd
    have HRX := Lib.hid (rws_rd HW.out)
    rw [hl4] at hv
    subst hv
    clear hb4 hsame hW hrow hbn hrd hl4 HK5 HL3 HK2 HK3 HK4 HF
    go_wp2_with fail
    go_loopw [8] (fun i wr => ∃ k : Nat, k ≤ 4 ∧ i = .int .i64 k ∧ Below w4.heap.size w4 wr) (fun i _ => 4 - (intOf i).toNat)
    case atStart => exact ⟨0, Nat.zero_le _, rfl, by go_grown⟩
    case round =>
      obtain ⟨k, hk, rfl, hB⟩ := hrel
      have hBr := bnext hB4 hB
      rcases Nat.lt_or_ge k 4 with hlt | hge
      · obtain ⟨y, hy⟩ : ∃ y, bs[k]? = some y := ⟨_, List.getElem?_eq_getElem (by rw [HL4.out]; exact hlt)⟩
        obtain ⟨hy1, hy2⟩ := HE.out y (List.mem_of_getElem? hy)
        obtain ⟨ya, yc, hyv, _, _⟩ := HRX.out y (List.mem_of_getElem? hy)
        rcases HRD.out with hr | ⟨b, off, rfl, hbl, hcc⟩
        · have := flat_length Bk.cells 2 Bk.len bs
          rw [hr, HL4.out] at this
          simp at this
        have e := fun j (hj : j < 2) => (hB.cell (p := ⟨b, off + (k * 2 + j), none⟩) hbl).trans (hcc (k * 2 + j) _ ((flat_get Bk.cells 2 Bk.len bs k j y hy hj).trans (List.getElem?_eq_getElem (by simpa using hj))))
        have e0 : wr.cell? ⟨b, off + k * 2, none⟩ = some (.int .u8 5) := by
          have h : wr.cell? ⟨b, off + k * 2, none⟩ = some (B8 y.t) := e 0 (by omega)
          rw [h, hy1]; rfl
        have e1 : wr.cell? ⟨b, off + k * 2 + 1, none⟩ = some (.slice ya N yc) := by
          have h : wr.cell? ⟨b, off + k * 2 + 1, none⟩ = some y.v := e 1 (by omega)
          rw [h, hyv, hy2]
        have hki : (k : Int) < 4 := by omega
        clear e hcc hbl hy hyv
        go_wp2_with fail
        go_roundw
        case rel => exact ⟨k + 1, by omega, by go_num, hB.trans (by go_grown)⟩
        case measure => simp [intOf]; omega
      · obtain rfl : k = 4 := by omega
        go_wp2_with fail
        refine (size_any N _ (by rw [HN.out]; decide)).mono ?_
        rintro en w5 ⟨rfl, hb5⟩
        have hB5 := bnext hBr hb5
        rw [show 1 + (Frm.numB N).length + N + 4 = 1048584 by rw [HN.out, show (Frm.numB 1048576).length = 3 by decide +kernel]]
        clear hb5
        go_wp2_with fail
        refine (size_any 0 _ (by omega)).mono ?_
        rintro en w6 ⟨rfl, hb6⟩
        have hB6 := bnext hB5 hb6
        rw [show 1 + (Frm.numB 0).length + 0 + 4 = 6 by decide +kernel]
        clear hb6
        go_wp2_with fail
        refine (size_any 127 _ (by omega)).mono ?_
        rintro en w7 ⟨rfl, hb7⟩
        have hB7 := bnext hB6 hb7
        rw [show 1 + (Frm.numB 127).length + 127 + 4 = 133 by decide +kernel]
        clear hb7
        go_wp2_with fail
        refine (size_any 128 _ (by omega)).mono ?_
        rintro en w8 ⟨rfl, hb8⟩
        have hB8 := bnext hB7 hb8
        rw [show 1 + (Frm.numB 128).length + 128 + 4 = 135 by decide +kernel]
        clear hb8
        go_wp2_with fail
        refine (size_any 268435456 _ (by omega)).mono ?_
        rintro en w9 ⟨rfl, hb9⟩
        have hB9 := bnext hB8 hb9
        rw [show 1 + (Frm.numB 268435456).length + 268435456 + 4 = 268435466 by rw [show (Frm.numB 268435456).length = 5 by decide +kernel]]
        clear hb9
        go_wp2_with fail
        refine (size_out 268435457 _ (.inr (by omega))).mono ?_
        rintro en w10 ⟨rfl, hb10⟩
        have hB10 := bnext hB9 hb10
        clear hb10
        go_wp2_with fail
        refine (size_out (-1) _ (.inl (by omega))).mono ?_
        rintro en w11 ⟨rfl, hb11⟩
        have hB11 := bnext hB10 hb11
        clear hb11
        go_wp2_with fail
        refine (known_any _ (HT.out.below hB11 HT.out.1)).mono ?_
        rintro en w12 ⟨rfl, hb12⟩
        have hB12 := bnext hB11 hb12
        go_wp2_with fail
        go_returns
        exact ⟨rfl, hB12⟩
  · exfalso
    exact hs (Frm.rowB_no_err (by rw [HL3.out]; omega) hrw (by rw [HL3.out]; exact hat) hlk)
end Go.Proofs.YtolbmjilcngnhaaDoor
