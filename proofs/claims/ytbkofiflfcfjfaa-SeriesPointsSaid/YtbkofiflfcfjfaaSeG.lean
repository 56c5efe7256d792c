/- Series: smoothed rows, of the document; the part that is none. -/
import Derived.Test.YtbkofiflfcfjfaaSeF
set_option linter.unusedSimpArgs false
set_option linter.unusedVariables false
namespace Go.Ser
open Ieee
theorem order_some {x y : Nat} (h : ¬ nanP x) (h' : ¬ nanP y) : ∃ o, Go.FloatKind.f64.format.order x y = some o := by
  show ∃ o, Datum.order (double.read x) (double.read y) = some o
  unfold nanP at h h'
  cases e : double.read x with
  | nan s f => rw [e] at h; exact absurd rfl h
  | number s m i =>
    cases e' : double.read y with
    | nan s f => rw [e'] at h'; exact absurd rfl h'
    | number s m i => exact ⟨_, rfl⟩
    | infinity s => exact ⟨_, rfl⟩
  | infinity s =>
    cases e' : double.read y with
    | nan s f => rw [e'] at h'; exact absurd rfl h'
    | number s m i => exact ⟨_, rfl⟩
    | infinity s => exact ⟨_, rfl⟩
theorem zero_num : ¬ nanP 0 := by unfold nanP; decide
theorem one_num : ¬ nanP 4607182418800017408 := by unfold nanP; decide +kernel
end Go.Ser
namespace Go.Proofs.Ytbkofiflfcfjfaa
open Go.RowKit Go.Kp Go.Ser

/-- Is a number none from 0 to 1? -/
def BadP (p : Nat) : Prop := nanP p ∨ (¬ nanP p ∧ FloatKind.f64.format.order p 0 = some .lt) ∨ (¬ nanP p ∧ (FloatKind.f64.format.order p 0 = some .gt ∨ FloatKind.f64.format.order p 0 = some .eq) ∧ FloatKind.f64.format.order p 4607182418800017408 = some .gt)
theorem p_cases (p : Nat) : (InP p ∧ ¬ nanP p) ∨ BadP p := by
  rcases Classical.em (nanP p) with h | h
  · exact .inr (.inl h)
  · obtain ⟨o, ho⟩ := order_some h zero_num
    obtain ⟨o', ho'⟩ := order_some h one_num
    unfold InP BadP
    rw [ho, ho']
    cases o <;> cases o' <;> simp [h]

set_option maxHeartbeats 1000000 in
theorem smooth_bad (a : Option Addr) (n cap p : Nat) (l : List Nat) (w : World) (hp : BadP p) :
    Calls Try.prog 32 #[.slice a n cap, .float .f64 p] w (RowE (SmoR p l) 0 2 w) := by
  rcases hp with h | ⟨_, h⟩ | ⟨_, h | h, h2⟩
  · have e1 : FloatKind.f64.format.order p 0 = none := order_nan_left h
    clear h
    go_enter Try.func32, Try.ntmps32
    go_wp2
    refine bodyPost_ret (v := .tuple #[.slice none 0 0, .int .i64 2]) (by simp [results, Try.results32, go_sem]; done) rfl (RowE.none rfl SmoR.nil (by go_grown))
  all_goals
    go_enter Try.func32, Try.ntmps32
    go_wp2
    refine bodyPost_ret (v := .tuple #[.slice none 0 0, .int .i64 2]) (by simp [results, Try.results32, go_sem]; done) rfl (RowE.none rfl SmoR.nil (by go_grown))
set_option maxHeartbeats 1000000 in
theorem refSmooth_bad (a : Option Addr) (n cap p : Nat) (l : List Nat) (w : World) (hp : BadP p) :
    Calls Try.prog 33 #[.slice a n cap, .float .f64 p] w (RowE (SmoR p l) 0 2 w) := by
  rcases hp with h | ⟨h0, h⟩ | ⟨h0, h | h, h2⟩
  · have e1 : FloatKind.f64.format.order p p = none := order_nan_left h
    clear h
    go_enter Try.func33, Try.ntmps33
    go_wp2
    refine bodyPost_ret (v := .tuple #[.slice none 0 0, .int .i64 2]) (by simp [results, Try.results33, go_sem]; done) rfl (RowE.none rfl SmoR.nil (by go_grown))
  all_goals
    have e1 : FloatKind.f64.format.order p p = some .eq := order_self h0
    clear h0
    go_enter Try.func33, Try.ntmps33
    go_wp2
    refine bodyPost_ret (v := .tuple #[.slice none 0 0, .int .i64 2]) (by simp [results, Try.results33, go_sem]; done) rfl (RowE.none rfl SmoR.nil (by go_grown))

set_option maxHeartbeats 4000000 in
theorem refSmooth_ok (a : Option Addr) (n cap p : Nat) (l : List Nat) (w : World) (hl : l.length = n) (hn : n ≤ 1048576) (hp : InP p) (hpn : ¬ nanP p) (hr : Rd w w.heap.size a (fl l)) :
    Calls Try.prog 33 #[.slice a n cap, .float .f64 p] w (RowE (SmoR p l) n 0 w) := by
  obtain ⟨hnp⟩ : Nonempty (n ≤ 4611686018427387904) := ⟨by omega⟩
  obtain ⟨h0, h1⟩ := hp
  have hpp := order_self hpn
  clear hpn
  rcases h0 with h0 | h0 <;> rcases h1 with h1 | h1
  all_goals
    rcases Nat.eq_zero_or_pos n with hn0 | hn0
    · subst hn0
      clear hl hr
      go_enter Try.func33, Try.ntmps33
      go_wp2
      go_rounds 1
      refine bodyPost_ret (v := .tuple #[.slice none 0 0, .int .i64 0]) (by simp [results, Try.results33, go_sem]; done) rfl (RowE.none rfl SmoR.nil (by go_grown))
    · rcases hr with hr | ⟨b, off, rfl, hb, hc⟩
      · exact absurd hr (fl_ne hl hn0)
      have HC := Lib.hid hc
      have HL := Lib.hid hl
      clear hc hl
      go_enter Try.func33, Try.ntmps33
      go_wp2
      go_loopw [6, 7] (fun v i wr => ∃ k : Nat, ∃ o : List Nat, k ≤ n ∧ i = .int .i64 k ∧ o.length = k ∧ SmoR p l o ∧ wr.ownsRow w.heap.size 25 1 v k (fl o) ∧ Below w.heap.size w wr) (fun _ i _ => n - (intOf i).toNat)
      case atStart => exact ⟨0, [], by omega, by go_num, rfl, SmoR.nil, World.ownsRow_nil _ _ _ _, by go_grown⟩
      case round =>
        obtain ⟨k, o, hk, rfl, hol, hM, hO, hB⟩ := hrel
        have HO := Lib.hid hO
        have HM := Lib.hid hM
        have HOL := Lib.hid hol
        clear hO hM hol h0 h1 hpp
        have hsz := hB.size
        rcases Nat.lt_or_ge k n with hlt | hge
        · obtain ⟨x, hx⟩ := some_at HL.out hlt
          have HX := Lib.hid hx
          have e := fl_at hb hB HC.out hx
          clear hx
          rcases Nat.eq_zero_or_pos k with hk0 | hk0
          · subst hk0
            rw [Nat.add_zero] at e
            go_upto_region 8 with (fail)
            apply wp_region_lit
            iterate 5 (go_step; go_step; rename_i KK hKK; (with_reducible refine hKK _ _ ?_); clear hKK KK)
            (with_reducible refine append_fl ?_ (.tmp 30) (.tmp 34) ?_ w.heap.size u6 0 o ?_ ?_ wr.heap.size x 1 ?_ ?_ ?_ ?_ ?_)
            · rfl
            · rfl
            · rfl
            · exact HO.out.alloc _
            · rfl
            · rw [cell_of_row _ _ _ _ _ _ (heap_at rfl)]; rfl
            · omega
            · simp; omega
            intro v1 w5 ho hb5
            have HB5 : Below w.heap.size w w5 := (show Below w.heap.size w (wr.alloc (Obj.cells #[.float .f64 x] 25)) by go_grown).trans hb5
            clear hb5
            go_wp2_with fail
            go_roundw
            case rel =>
              have e0 : o = [] := List.eq_nil_of_length_eq_zero HOL.out
              exact ⟨1, o ++ [x], by omega, by go_num, by simp [HOL.out], by rw [e0]; exact SmoR.first HX.out, ho, HB5⟩
            case measure => simp [intOf]; omega
          · obtain ⟨j, rfl⟩ : ∃ j, k = j + 1 := ⟨k - 1, by omega⟩
            have hne : ¬ ((j : Int) + 1 = 0) := by omega
            obtain ⟨z, hz⟩ : ∃ z, o[j]? = some z := ⟨_, List.getElem?_eq_getElem (by rw [HOL.out]; omega)⟩
            have HZ := Lib.hid hz
            obtain ⟨g, c, rfl, hg1, hg2⟩ := World.ownsRow.form HO.out (by omega)
            have ez : wr.cell? ⟨g, j, none⟩ = some (.float .f64 z) := (HO.out.cellAt j (by omega)).trans (by rw [List.getElem?_map, hz]; rfl)
            clear hz
            obtain ⟨q, w1, hrun0, hres0, hw0⟩ := sub_any wr 4607182418800017408 p
            have e1 := hw0.out.cell e
            have ez1 := hw0.out.cell ez
            clear e ez
            obtain ⟨a1, w2, hrun1, hres1, hw1⟩ := mul_any w1 p x
            have ez2 := hw1.out.cell ez1
            clear ez1
            obtain ⟨a2, w3, hrun2, hres2, hw2⟩ := mul_any w2 q z
            obtain ⟨t, w4, hrun3, hres3, hw3⟩ := add_any w3 a1 a2
            have HB4 := (((hB.trans (hw0.out.below _)).trans (hw1.out.below _)).trans (hw2.out.below _)).trans (hw3.out.below _)
            have HH : Hid (w4.heap = wr.heap) := Lib.hid (hw3.out.heap.trans (hw2.out.heap.trans (hw1.out.heap.trans hw0.out.heap)))
            have hs4 := HB4.size
            go_upto_region 12 with (fail)
            apply wp_region_lit
            iterate 5 (go_step; go_step; rename_i KK hKK; (with_reducible refine hKK _ _ ?_); clear hKK KK)
            (with_reducible refine append_fl ?_ (.tmp 51) (.tmp 55) ?_ w.heap.size (.slice (some ⟨g, 0, none⟩) (j + 1) c) (j + 1) o ?_ ?_ w4.heap.size t 1 ?_ ?_ ?_ ?_ ?_)
            · rfl
            · rfl
            · rfl
            · exact owns_keep HO.out fun g _ hg => by rw [heap_old (by rw [HH.out]; exact hg), HH.out]
            · rfl
            · rw [cell_of_row _ _ _ _ _ _ (heap_at rfl)]; rfl
            · omega
            · simp; omega
            intro v1 w5 ho hb5
            have HB5 : Below w.heap.size w w5 := (show Below w.heap.size w (w4.alloc (Obj.cells #[.float .f64 t] 25)) by go_grown).trans hb5
            clear hb5 HH
            go_wp2_with fail
            go_roundw
            case rel => exact ⟨j + 1 + 1, o ++ [t], by omega, by go_num, by simp [HOL.out], HM.out.snoc HOL.out HX.out HZ.out ⟨q, a1, a2, hres0.out, hres1.out, hres2.out, hres3.out⟩, ho, HB5⟩
            case measure => simp [intOf]; omega
        · obtain rfl : k = n := by omega
          go_wp2_with fail
          refine bodyPost_ret (v := .tuple #[u6, .int .i64 0]) (by simp [results, Try.results33, go_sem]; done) rfl ⟨u6, o, rfl, HOL.out, HM.out, HO.out, hB⟩
end Go.Proofs.Ytbkofiflfcfjfaa
