/- Series: means that move along, of the document; smoothed rows, of both. -/
import Derived.Test.YtbkofiflfcfjfaaSeE
import Derived.Deep.AppendLies
set_option linter.unusedSimpArgs false
set_option linter.unusedVariables false
namespace Go.Proofs.Ytbkofiflfcfjfaa
open Go.RowKit Go.Kp Go.Ser

set_option maxHeartbeats 2000000 in
theorem refMoving_ok (a : Option Addr) (n cap W : Nat) (l : List Nat) (w : World) (hl : l.length = n) (hn : n ≤ 1048576) (hcap : n ≤ cap) (hW : 1 ≤ W) (hW2 : W ≤ 9223372036854775807) (hr : Rd w w.heap.size a (fl l)) :
    Calls Try.prog 31 #[.slice a n cap, .int .i64 W] w (RowE (MovR l W) (n + 1 - W) 0 w) := by
  have hW1 : ¬ (W : Int) < 1 := by omega
  rcases Nat.lt_or_ge n W with hlt | hge
  · have e : n + 1 - W = 0 := by omega
    have hI : ¬ (W : Int) ≤ (n : Int) := by omega
    rw [e]
    clear e hl hr
    rcases Nat.eq_zero_or_pos n with h0 | h0
    · subst h0
      go_enter Try.func31, Try.ntmps31
      go_wp2
      go_rounds 1
      refine bodyPost_ret (v := .tuple #[.slice none 0 0, .int .i64 0]) (by simp [results, Try.results31, go_sem]; done) rfl (RowE.none rfl MovR.nil (by go_grown))
    · go_enter Try.func31, Try.ntmps31
      go_wp2
      go_rounds 1
      refine bodyPost_ret (v := .tuple #[.slice none 0 0, .int .i64 0]) (by simp [results, Try.results31, go_sem]; done) rfl (RowE.none rfl MovR.nil (by go_grown))
  · rcases hr with hr | ⟨b, off, rfl, hb, hc⟩
    · exact absurd hr (fl_ne hl (by omega))
    have HC := Lib.hid hc
    have HL := Lib.hid hl
    clear hc hl hW2
    go_enter Try.func31, Try.ntmps31
    go_wp2
    go_loopw [6, 7] (fun v i wr => ∃ k : Nat, ∃ o : List Nat, W + k ≤ n + 1 ∧ i = .int .i64 k ∧ o.length = k ∧ MovR l W o ∧ wr.ownsRow w.heap.size 25 1 v k (fl o) ∧ Below w.heap.size w wr) (fun _ i _ => n + 1 - (intOf i).toNat)
    case atStart => exact ⟨0, [], by omega, by go_num, rfl, MovR.nil, World.ownsRow_nil _ _ _ _, by go_grown⟩
    case round =>
      obtain ⟨k, o, hk, rfl, hol, hM, hO, hB⟩ := hrel
      have HO := Lib.hid hO
      have HM := Lib.hid hM
      have HOL := Lib.hid hol
      clear hO hM hol
      have hsz := hB.size
      rcases Nat.lt_or_ge n (W + k) with hgt | hle
      · obtain ⟨hkn⟩ : Nonempty (n + 1 - W = k) := ⟨by omega⟩
        have HK := Lib.hid hkn
        clear hkn
        have hI : ¬ (W : Int) ≤ (n : Int) - k := by omega
        rcases Nat.lt_or_ge k n with hkn | hkn
        · go_wp2_with fail
          refine bodyPost_ret (v := .tuple #[u6, .int .i64 0]) (by simp [results, Try.results31, go_sem]; done) rfl ⟨u6, o, rfl, by rw [HK.out]; exact HOL.out, HM.out, by rw [HK.out]; exact HO.out, hB⟩
        · go_wp2_with fail
          refine bodyPost_ret (v := .tuple #[u6, .int .i64 0]) (by simp [results, Try.results31, go_sem]; done) rfl ⟨u6, o, rfl, by rw [HK.out]; exact HOL.out, HM.out, by rw [HK.out]; exact HO.out, hB⟩
      · have HRd := Lib.hid (rd_part (k := k) (m := W) hb hB HC.out)
        have HLen : Hid (((l.drop k).take W).length = W) := Lib.hid (by simp [HL.out]; omega)
        have hI : (W : Int) ≤ (n : Int) - k := by omega
        have hkn : k < n := by omega
        go_wp2_with fail
        refine (refMean_any _ W _ ((l.drop k).take W) _ HLen.out (by omega) HRd.out).mono ?_
        rintro en w1 ⟨r, hr, rfl, hb1⟩
        have HR := Lib.hid hr
        have HB1 := bnext hB hb1
        have HO1 := Lib.hid (owns_keep HO.out fun g _ hg => hb1.block g hg)
        have hs1 := HB1.size
        have he : Hid (errE W = 0) := Lib.hid (if_neg (by omega))
        rw [he.out]
        clear hr hb1
        go_upto_region 8 with (fail)
        apply wp_region_lit
        iterate 3 (go_step; go_step; rename_i KK hKK; (with_reducible refine hKK _ _ ?_); clear hKK KK)
        (with_reducible refine append_fl ?_ (.tmp 36) (.tmp 38) ?_ w.heap.size u6 k o ?_ ?_ w1.heap.size r 1 ?_ ?_ ?_ ?_ ?_)
        · rfl
        · rfl
        · rfl
        · exact HO1.out.alloc _
        · rfl
        · rw [cell_of_row _ _ _ _ _ _ (heap_at rfl)]; rfl
        · omega
        · simp; omega
        intro v1 w5 ho hb5
        have HB5 : Below w.heap.size w w5 := (show Below w.heap.size w (w1.alloc (Obj.cells #[.float .f64 r] 25)) by go_grown).trans hb5
        clear hb5
        go_wp2_with fail
        go_roundw
        case rel =>
          refine ⟨k + 1, o ++ [r], by omega, by go_num, by simp [HOL.out], HM.out.snoc ?_, ho, HB5⟩
          have := HR.out
          unfold MeanE at this
          rw [if_neg (by rw [HLen.out]; omega)] at this
          rw [HOL.out]; exact this
        case measure => simp [intOf]; omega

/-- Is a number from 0 to 1? -/
def InP (p : Nat) : Prop := (FloatKind.f64.format.order p 0 = some .gt ∨ FloatKind.f64.format.order p 0 = some .eq) ∧ (FloatKind.f64.format.order p 4607182418800017408 = some .lt ∨ FloatKind.f64.format.order p 4607182418800017408 = some .eq)

set_option maxHeartbeats 4000000 in
theorem smooth_ok (a : Option Addr) (n cap p : Nat) (l : List Nat) (w : World) (hl : l.length = n) (hn : n ≤ 1048576) (hp : InP p) (hr : Rd w w.heap.size a (fl l)) :
    Calls Try.prog 32 #[.slice a n cap, .float .f64 p] w (RowE (SmoR p l) n 0 w) := by
  obtain ⟨hnp⟩ : Nonempty (n ≤ 4611686018427387904) := ⟨by omega⟩
  obtain ⟨q, wq, hrun0, hresq, hwq⟩ := sub_any w 4607182418800017408 p
  have hBq := hwq.out.below w.heap.size
  have hsq := hBq.size
  obtain ⟨h0, h1⟩ := hp
  rcases h0 with h0 | h0 <;> rcases h1 with h1 | h1
  all_goals
    rcases Nat.eq_zero_or_pos n with hn0 | hn0
    · subst hn0
      clear hl hr
      go_enter Try.func32, Try.ntmps32
      go_wp2
      go_rounds 1
      refine bodyPost_ret (v := .tuple #[.slice none 0 0, .int .i64 0]) (by simp [results, Try.results32, go_sem]; done) rfl (RowE.none rfl SmoR.nil hBq)
    · rcases hr with hr | ⟨b, off, rfl, hb, hc⟩
      · exact absurd hr (fl_ne hl hn0)
      have HC := Lib.hid hc
      have HL := Lib.hid hl
      clear hc hl
      go_enter Try.func32, Try.ntmps32
      go_wp2
      go_loopw [7, 21] (fun v i wr => ∃ k : Nat, ∃ o : List Nat, k ≤ n ∧ i = .int .i64 k ∧ o.length = k ∧ SmoR p l o ∧ wr.ownsRow w.heap.size 25 1 v k (fl o) ∧ Below w.heap.size w wr) (fun _ i _ => n - (intOf i).toNat)
      case atStart => exact ⟨0, [], by omega, by go_num, rfl, SmoR.nil, World.ownsRow_nil _ _ _ _, hBq⟩
      case round =>
        obtain ⟨k, o, hk, rfl, hol, hM, hO, hB⟩ := hrel
        have HO := Lib.hid hO
        have HM := Lib.hid hM
        have HOL := Lib.hid hol
        clear hO hM hol h0 h1 hrun0
        have hsz := hB.size
        rcases Nat.lt_or_ge k n with hlt | hge
        · obtain ⟨x, hx⟩ := some_at HL.out hlt
          have HX := Lib.hid hx
          have e := fl_at hb hB HC.out hx
          clear hx
          rcases Nat.eq_zero_or_pos k with hk0 | hk0
          · subst hk0
            rw [Nat.add_zero] at e
            go_upto_region 10 with (fail)
            apply wp_region_lit
            iterate 3 (go_step; go_step; rename_i KK hKK; (with_reducible refine hKK _ _ ?_); clear hKK KK)
            (with_reducible refine append_fl ?_ (.tmp 39) (.tmp 41) ?_ w.heap.size u7 0 o ?_ ?_ wr.heap.size x 1 ?_ ?_ ?_ ?_ ?_)
            · rfl
            · rfl
            · rfl
            · exact HO.out.alloc _
            · rfl
            · rw [cell_of_row _ _ _ _ _ _ (heap_at rfl)]; rfl
            · omega
            · simp; omega
            intro v1 w5 ho hb5
            have HB5 : Below w.heap.size w w5 := (show Below w.heap.size w (wr.alloc (Obj.cells #[.float .f64 x] 25)) by go_grown).trans hb5
            clear hb5
            go_wp2_with fail
            go_roundw
            case rel =>
              have e0 : o = [] := List.eq_nil_of_length_eq_zero HOL.out
              exact ⟨1, o ++ [x], by omega, by go_num, by simp [HOL.out], by rw [e0]; exact SmoR.first HX.out, ho, HB5⟩
            case measure => simp [intOf]; omega
          · obtain ⟨j, rfl⟩ : ∃ j, k = j + 1 := ⟨k - 1, by omega⟩
            obtain ⟨z, hz⟩ : ∃ z, o[j]? = some z := ⟨_, List.getElem?_eq_getElem (by rw [HOL.out]; omega)⟩
            have HZ := Lib.hid hz
            obtain ⟨g, c, rfl, hg1, hg2⟩ := World.ownsRow.form HO.out (by omega)
            have ez : wr.cell? ⟨g, j, none⟩ = some (.float .f64 z) := (HO.out.cellAt j (by omega)).trans (by rw [List.getElem?_map, hz]; rfl)
            clear hz
            obtain ⟨a1, w2, hrun1, hres1, hw1⟩ := mul_any wr p x
            have ez2 := hw1.out.cell ez
            clear ez
            obtain ⟨a2, w3, hrun2, hres2, hw2⟩ := mul_any w2 q z
            obtain ⟨t, w4, hrun3, hres3, hw3⟩ := add_any w3 a1 a2
            have HB4 := ((hB.trans (hw1.out.below _)).trans (hw2.out.below _)).trans (hw3.out.below _)
            have HH : Hid (w4.heap = wr.heap) := Lib.hid (hw3.out.heap.trans (hw2.out.heap.trans hw1.out.heap))
            have hs4 := HB4.size
            go_upto_region 10 with (fail)
            apply wp_region_lit
            iterate 3 (go_step; go_step; rename_i KK hKK; (with_reducible refine hKK _ _ ?_); clear hKK KK)
            (with_reducible refine append_fl ?_ (.tmp 39) (.tmp 41) ?_ w.heap.size (.slice (some ⟨g, 0, none⟩) (j + 1) c) (j + 1) o ?_ ?_ w4.heap.size t 1 ?_ ?_ ?_ ?_ ?_)
            · rfl
            · rfl
            · rfl
            · exact owns_keep HO.out fun g _ hg => by rw [heap_old (by rw [HH.out]; exact hg), HH.out]
            · rfl
            · rw [cell_of_row _ _ _ _ _ _ (heap_at rfl)]; rfl
            · omega
            · simp; omega
            intro v1 w5 ho hb5
            have HB5 : Below w.heap.size w w5 := (show Below w.heap.size w (w4.alloc (Obj.cells #[.float .f64 t] 25)) by go_grown).trans hb5
            clear hb5 HH
            go_wp2_with fail
            go_roundw
            case rel => exact ⟨j + 1 + 1, o ++ [t], by omega, by go_num, by simp [HOL.out], HM.out.snoc HOL.out HX.out HZ.out ⟨q, a1, a2, hresq.out, hres1.out, hres2.out, hres3.out⟩, ho, HB5⟩
            case measure => simp [intOf]; omega
        · obtain rfl : k = n := by omega
          go_wp2_with fail
          refine bodyPost_ret (v := .tuple #[u7, .int .i64 0]) (by simp [results, Try.results32, go_sem]; done) rfl ⟨u7, o, rfl, HOL.out, HM.out, HO.out, hB⟩
end Go.Proofs.Ytbkofiflfcfjfaa
