/- Panes as points: the document's. -/
import Derived.Test.YtbkofiflfcfjfaaSqW
set_option linter.unusedSimpArgs false
set_option linter.unusedVariables false
namespace Go.Proofs.Ytbkofiflfcfjfaa.Px
open Go.RowKit Go.Kp Go.St Go.Ser

theorem refGo_len : ∀ (l out : List Pn), (refGo out l).length ≤ out.length + l.length
  | [], out => Nat.le_refl _
  | x :: l, out => by
    rw [refGo_cons]
    have h := refGo_len l (if laterB x l then out else insL x out)
    have h2 : (if laterB x l then out else insL x out).length ≤ out.length + 1 := by
      split
      · omega
      · rw [insL_len]; omega
    simp only [List.length_cons]
    omega

set_option maxRecDepth 100000 in
set_option maxHeartbeats 8000000 in
theorem refPoints_any (a : Option Addr) (n cap : Nat) (key : ByteArray) (b : Int) (L : List Pn) (w : World) (hl : L.length = n) (hn : n ≤ 200) (hr : Rd w w.heap.size a (L.flatMap Pn.cl)) :
    Calls Try.prog 37 #[.slice a n cap, .string key, .int .i64 b] w (PointsP b (lastL key L) w) := by
  have HL := Lib.hid hl
  have HR := Lib.hid hr
  clear hl hr
  rcases Int.lt_or_le b 1 with h1 | h1
  · have hbad : bad b = true := by unfold bad; simp [h1]
    have HBD := Lib.hid hbad
    clear hbad
    go_enter Try.func37, Try.ntmps37
    go_wp2_with fail
    go_returns
    exact ⟨.slice none 0 0, [], by rw [HBD.out]; rfl, World.ownsRow_nil _ _ _ _, by rw [HBD.out]; rfl, by go_grown⟩
  rcases Int.lt_or_le 5 b with h2 | h2
  · have hbad : bad b = true := by unfold bad; simp [h2]
    have HBD := Lib.hid hbad
    clear hbad
    go_enter Try.func37, Try.ntmps37
    go_wp2_with fail
    go_returns
    exact ⟨.slice none 0 0, [], by rw [HBD.out]; rfl, World.ownsRow_nil _ _ _ _, by rw [HBD.out]; rfl, by go_grown⟩
  have hbad : bad b = false := by unfold bad; simp; omega
  have HBD := Lib.hid hbad
  clear hbad
  go_enter Try.func37, Try.ntmps37
  go_wp2_with fail
  refine (refLast_any a n cap L _ HL.out hn HR.out).mono ?_
  rintro en w2 ⟨v2, rfl, ho2, hb2⟩
  obtain ⟨a2, c2, rfl, hr2⟩ := rd9 ho2
  have HR2 := Lib.hid hr2
  have HB2 := Lib.hid hb2
  have hll : (refGo [] L).length ≤ n := by have := refGo_len L []; have h9 := HL.out; simp at this; omega
  have HPL := Lib.hid (last_law key L)
  clear ho2 hr2 hb2
  generalize refGo [] L = PL at *
  generalize hm2 : PL.length = m2 at hll
  have HM2 := Lib.hid hm2
  clear hm2
  go_wp2_with fail
  go_loopw [8, 10] (fun v vi wr => ∃ (k : Nat) (pl : List (Nat × Nat)), vi = .int .i64 k ∧ k ≤ m2 ∧ pl.length ≤ k ∧ wr.ownsRow w2.heap.size 29 2 v pl.length (pts pl) ∧ PtsV b (ofL key (PL.take k)) pl ∧ Below w2.heap.size w2 wr) (fun _ vi _ => m2 - (intOf vi).toNat)
  case atStart => exact ⟨0, [], rfl, Nat.zero_le _, Nat.zero_le _, World.ownsRow_nil _ _ _ _, PtsV.nil, by go_grown⟩
  case round =>
    rename World => wr
    obtain ⟨k, pl, rfl, hk, hpk, hO, hV, hB⟩ := hrel
    have HO := Lib.hid hO
    have HB := Lib.hid hB
    have HV := Lib.hid hV
    have hsz := hB.size
    have hsw := HB2.out.size
    clear hO hB hV
    rcases Nat.lt_or_ge k m2 with hlt | hge
    · obtain ⟨x, hx⟩ : ∃ x, PL[k]? = some x := ⟨_, List.getElem?_eq_getElem (by rw [HM2.out]; exact hlt)⟩
      have HX := Lib.hid hx
      rcases HR2.out with hr | ⟨bb, off, rfl, hbl, hcc⟩
      · have h := flat_length Pn.cl 9 Pn.cl_len PL
        rw [hr, HM2.out] at h
        simp at h
        omega
      have e := fun j hj => (HB.out.cell (p := ⟨bb, off + (k * 9 + j), none⟩) hbl).trans (pn_at hcc k x hx j hj)
      have hbw : bb < wr.heap.size := by omega
      have e0 := e 0 (by omega)
      have e1 := e 1 (by omega)
      have e2 := e 2 (by omega)
      have e3 := e 3 (by omega)
      have e4 := e 4 (by omega)
      have e5 := e 5 (by omega)
      have e6 := e 6 (by omega)
      have e7 := e 7 (by omega)
      have e8 := e 8 (by omega)
      clear e hx hcc
      simp only [← Nat.add_assoc, Nat.add_zero, List.getElem?_cons_zero, List.getElem?_cons_succ] at e0 e1 e2 e3 e4 e5 e6 e7 e8
      have kin : (k : Int) < (m2 : Int) := by omega
      rcases Decidable.em (x.key = key) with hxk | hxk
      · have hxk2 : (x.key.toList == key.toList) = true := by rw [hxk]; simp
        have HXK := Lib.hid hxk
        clear hxk
        go_upto_region 9 with (fail)
        (refine region_keep (fun q => q < wr.heap.size) 16 [(0, true), (1, true), (2, true), (3, true), (4, true), (5, true), (6, true), (7, true), (8, true), (9, true), (10, true), (11, true), (12, true), (13, false), (14, true), (15, false)] (by kernel_rfl) (fun _ _ d _ _ h => by cases d <;> exact h) (by kernel_rfl) ?_; simp only [withOps, List.getElem?_toArray, List.getElem?_cons_zero, List.getElem?_cons_succ, List.drop_succ_cons, List.drop_zero])
        (iterate 13 (refine keep_quiet (v := ?_) rfl ?_ ?_; rotate_left; (focus (intro w' hw'; go_simp; (try with_reducible rfl); done)); try simp only [Act.put, List.setIfInBounds_toArray, List.set_cons_zero, List.set_cons_succ]))
        (with_reducible refine plan_loud (fun K hK => ?_))
        go_simp
        refine (refValue_any x b _).mono ?_
        rintro en w3 ⟨r, hr, rfl, hb3⟩
        refine hK _ _ ((Keep.refl _ _).below hb3 (by intro x h; simpa using h)) ?_
        clear hK K
        have HVR := Lib.hid hr
        have hb3' : Below wr.heap.size wr w3 := bnext (by go_grown) hb3
        have HB3 := Lib.hid (HB.out.trans (hb3'.mono hsz))
        have HO3 := Lib.hid (owns_keep HO.out (fun q _ hq => hb3'.block q hq))
        have s3 : wr.heap.size ≤ w3.heap.size := hb3'.size
        clear hr hb3 hb3' e0 e1 e2 e3 e4 e5 e6 e7 e8 HO HB
        (try simp only [Act.put, List.setIfInBounds_toArray, List.set_cons_zero, List.set_cons_succ])
        (iterate 1 (refine keep_quiet (v := ?_) rfl ?_ ?_; rotate_left; (focus (intro w' hw'; go_simp; (try with_reducible rfl); done)); try simp only [Act.put, List.setIfInBounds_toArray, List.set_cons_zero, List.set_cons_succ]))
        (with_reducible refine plan_loud (fun K hK => ?_))
        go_simp
        (with_reducible refine hK _ _ ?_ ?_)
        · exact (Keep.refl _ _).alloc (fun q hq => Nat.lt_of_lt_of_le hq s3) _
        clear hK K
        (with_reducible refine plan_end ?_)
        (try simp only [Act.put, List.setIfInBounds_toArray, List.set_cons_zero, List.set_cons_succ])
        have hb6 : Blk (w3.alloc (.cells #[.float .f64 (floatOfInt .f64 x.s), .float .f64 r] 29 (0, 0))) w3.heap.size 29 #[.float .f64 (floatOfInt .f64 x.s), .float .f64 r] := heap_at rfl
        have q0 : (w3.alloc (.cells #[.float .f64 (floatOfInt .f64 x.s), .float .f64 r] 29 (0, 0))).cell? ⟨w3.heap.size, 0, none⟩ = some (.float .f64 (floatOfInt .f64 x.s, r).1) := hb6.cell 0
        have q1 : (w3.alloc (.cells #[.float .f64 (floatOfInt .f64 x.s), .float .f64 r] 29 (0, 0))).cell? ⟨w3.heap.size, 1, none⟩ = some (.float .f64 (floatOfInt .f64 x.s, r).2) := hb6.cell 1
        have hO6 := HO3.out.alloc (.cells #[.float .f64 (floatOfInt .f64 x.s), .float .f64 r] 29 (0, 0))
        have HB6 := Lib.hid (HB3.out.trans ((show Below w3.heap.size w3 (w3.alloc (.cells #[.float .f64 (floatOfInt .f64 x.s), .float .f64 r] 29 (0, 0))) by go_grown).mono HB3.out.size))
        have hs6 : w2.heap.size ≤ (w3.alloc (.cells #[.float .f64 (floatOfInt .f64 x.s), .float .f64 r] 29 (0, 0))).heap.size := by simp; omega
        have hpn : pl.length + 1 ≤ 1048576 := by omega
        (with_reducible refine append_pt ?_ (.tmp 32) (.tmp 47) ?_ w2.heap.size u8 pl.length pl ?_ hO6 w3.heap.size 1 (floatOfInt .f64 x.s, r) ?_ q0 q1 hpn hs6 ?_)
        · rfl
        · rfl
        · rfl
        · rfl
        intro v7 w7 ho7 hb7
        have HO7 := ho7
        have HB7 := Lib.hid (show Below w2.heap.size w2 w7 from HB6.out.trans hb7)
        clear ho7 hb7 q0 q1 hb6 hO6
        go_wp2_with fail
        go_roundw
        case rel =>
          refine ⟨k + 1, pl ++ [(floatOfInt .f64 x.s, r)], by go_num, by omega, by simp; omega, ?_, ?_, HB7.out⟩
          · have h := HO7.out
            rw [List.length_append]
            exact h
          · rw [take_one HX.out, ofL_snoc, if_pos HXK.out]; exact HV.out.snoc HVR.out
        case measure => simp [intOf]; omega
      · have hxk2 : (x.key.toList == key.toList) = false := by
          simp only [beq_eq_false_iff_ne]
          exact fun h => hxk (Tm.toList_inj h)
        have HXK := Lib.hid hxk
        clear hxk
        go_wp2_with fail
        go_roundw
        case rel => exact ⟨k + 1, pl, by go_num, by omega, by omega, HO.out, by rw [take_one HX.out, ofL_snoc, if_neg HXK.out, List.append_nil]; exact HV.out, HB.out⟩
        case measure => simp [intOf]; omega
    · obtain rfl : k = m2 := by omega
      have kin : ¬ (k : Int) < (k : Int) := by omega
      have hTk : PL.take k = PL := List.take_of_length_le (by rw [HM2.out]; exact Nat.le_refl _)
      rw [hTk, HPL.out] at HV
      clear hTk
      go_wp2_with fail
      go_returns
      exact ⟨u8, pl, by rw [HBD.out]; rfl, owns_mono HO.out hsw, by rw [HBD.out]; exact HV.out, HB2.out.trans (HB.out.mono hsw)⟩
end Go.Proofs.Ytbkofiflfcfjfaa.Px
