/- Panes as points: the program's. -/
import Derived.Test.YtbkofiflfcfjfaaSqT
set_option linter.unusedSimpArgs false
set_option linter.unusedVariables false
namespace Go.Proofs.Ytbkofiflfcfjfaa.Px
open Go.RowKit Go.Kp Go.St Go.Ser

/-- Points of panes. -/
def PtsV (b : Int) (PL : List Pn) (pl : List (Nat × Nat)) : Prop := pl.length = PL.length ∧ ∀ (i : Nat) v p, PL[i]? = some v → pl[i]? = some p → p.1 = floatOfInt .f64 v.s ∧ ValR v b p.2
theorem PtsV.nil {b : Int} : PtsV b [] [] := ⟨rfl, fun i v p h => by simp at h⟩
theorem PtsV.snoc {b : Int} {PL : List Pn} {pl : List (Nat × Nat)} {v : Pn} {r : Nat} (h : PtsV b PL pl) (hr : ValR v b r) : PtsV b (PL ++ [v]) (pl ++ [(floatOfInt .f64 v.s, r)]) := by
  refine ⟨by simp [h.1], fun i v' p h1 h2 => ?_⟩
  rcases Nat.lt_or_ge i PL.length with hi | hi
  · rw [List.getElem?_append_left hi] at h1
    rw [List.getElem?_append_left (by rw [h.1]; exact hi)] at h2
    exact h.2 i v' p h1 h2
  · rw [List.getElem?_append_right hi] at h1
    rw [List.getElem?_append_right (by rw [h.1]; exact hi), h.1] at h2
    rcases Nat.eq_zero_or_pos (i - PL.length) with e | e
    · rw [e] at h1 h2
      cases h1
      cases h2
      exact ⟨rfl, hr⟩
    · rw [List.getElem?_eq_none (by simp; omega)] at h1
      cases h1
theorem PtsV.congr {b : Int} {PL : List Pn} {pl pl' : List (Nat × Nat)} (h : PtsV b PL pl) (h' : PtsV b PL pl') : PtsQ pl pl' := by
  refine ⟨h.1.trans h'.1.symm, fun i p q hp hq => ?_⟩
  have hi := (List.getElem?_eq_some_iff.1 hp).1
  obtain ⟨v, hv⟩ : ∃ v, PL[i]? = some v := ⟨_, List.getElem?_eq_getElem (by rw [← h.1]; exact hi)⟩
  obtain ⟨a1, a2⟩ := h.2 i v p hv hp
  obtain ⟨b1, b2⟩ := h'.2 i v q hv hq
  exact ⟨by rw [a1, b1]; exact Fq.refl _, a2.congr b2⟩
theorem rd9 {w : World} {B : Nat} {e : TypeId} {v : Value} {n : Nat} {xs : List Value} (h : w.ownsRow B e 9 v n xs) : ∃ a cap, v = .slice a n cap ∧ Rd w w.heap.size a xs := by
  rcases Nat.eq_zero_or_pos n with h0 | h0
  · subst h0
    have hx : xs = [] := List.eq_nil_of_length_eq_zero (by have := h.1; simpa using this)
    rcases h.2 with ⟨hv, _⟩ | ⟨g, cap, cur, hv, _⟩
    · exact ⟨none, 0, hv, .inl hx⟩
    · exact ⟨some ⟨g, 0, none⟩, cap, hv, .inl hx⟩
  · obtain ⟨g, cap, rfl, h1, h2⟩ := h.form h0
    refine ⟨some ⟨g, 0, none⟩, cap, rfl, .inr ⟨g, 0, rfl, h2, fun j u hu => ?_⟩⟩
    have hj : j < n * 9 := by have := h.1; have := (List.getElem?_eq_some_iff.1 hu).1; omega
    rw [Nat.zero_add]
    exact (h.cellAt j hj).trans hu
/-- A way to ask that is none. -/
def bad (b : Int) : Bool := decide (b < 1) || decide (5 < b)
/-- Returned: points of these panes, or the error. -/
def PointsP (b : Int) (PL : List Pn) (w : World) (e : Ending) (w' : World) : Prop :=
  ∃ v pl, e = .returned (.tuple #[v, .int .i64 (if bad b then 2 else 0)]) ∧ w'.ownsRow w.heap.size 29 2 v pl.length (pts pl) ∧ (if bad b then pl = [] else PtsV b PL pl) ∧ Below w.heap.size w w'
/-- The last pane of each window of a key. -/
def lastL (key : ByteArray) (L : List Pn) : List Pn := (putsL (ofL key L)).map Prod.snd
theorem lastL_len {key : ByteArray} {L : List Pn} : (lastL key L).length ≤ L.length := by
  unfold lastL
  rw [List.length_map]
  have h := puts_both (ofL key L)
  have h2 := congrArg List.length h.2.1
  rw [← T.many_len] at h2
  have h3 := h.2.2
  have h4 : (ofL key L).length ≤ L.length := ofL_len
  omega

set_option maxRecDepth 100000 in
set_option maxHeartbeats 8000000 in
theorem Points_any (a : Option Addr) (n cap : Nat) (key : ByteArray) (b : Int) (L : List Pn) (w : World) (hl : L.length = n) (hn : n ≤ 200) (hr : Rd w w.heap.size a (L.flatMap Pn.cl)) :
    Calls Try.prog 36 #[.slice a n cap, .string key, .int .i64 b] w (PointsP b (lastL key L) w) := by
  have HL := Lib.hid hl
  have HR := Lib.hid hr
  clear hl hr
  rcases Int.lt_or_le b 1 with h1 | h1
  · have hbad : bad b = true := by unfold bad; simp [h1]
    have HBD := Lib.hid hbad
    clear hbad
    go_enter Try.func36, Try.ntmps36
    go_wp2_with fail
    go_returns
    exact ⟨.slice none 0 0, [], by rw [HBD.out]; rfl, World.ownsRow_nil _ _ _ _, by rw [HBD.out]; rfl, by go_grown⟩
  rcases Int.lt_or_le 5 b with h2 | h2
  · have hbad : bad b = true := by unfold bad; simp [h2]
    have HBD := Lib.hid hbad
    clear hbad
    go_enter Try.func36, Try.ntmps36
    go_wp2_with fail
    go_returns
    exact ⟨.slice none 0 0, [], by rw [HBD.out]; rfl, World.ownsRow_nil _ _ _ _, by rw [HBD.out]; rfl, by go_grown⟩
  have hbad : bad b = false := by unfold bad; simp; omega
  have HBD := Lib.hid hbad
  clear hbad
  go_enter Try.func36, Try.ntmps36
  go_wp2_with fail
  refine (Of_any a n cap key L _ HL.out hn HR.out).mono ?_
  rintro en w1 ⟨v1, rfl, ho1, hb1⟩
  obtain ⟨a1, c1, rfl, hr1⟩ := rd9 ho1
  have HR1 := Lib.hid hr1
  have HB1 := Lib.hid hb1
  have hol : (ofL key L).length ≤ n := by rw [← HL.out]; exact ofL_len
  clear ho1 hr1 hb1
  generalize hm1 : (ofL key L).length = m1 at hol
  have HM1 := Lib.hid hm1
  clear hm1
  go_wp2_with fail
  refine (Last_any a1 m1 c1 (ofL key L) _ HM1.out (by omega) HR1.out).mono ?_
  rintro en w2 ⟨v2, rfl, ho2, hb2⟩
  have e2 : ((putsL (ofL key L)).flatMap fun q => q.2.cl) = (lastL key L).flatMap Pn.cl := by unfold lastL; rw [List.flatMap_map]
  have e3 : (putsL (ofL key L)).length = (lastL key L).length := by unfold lastL; rw [List.length_map]
  rw [e2, e3] at ho2
  obtain ⟨a2, c2, rfl, hr2⟩ := rd9 ho2
  have HR2 := Lib.hid hr2
  have HB2 := Lib.hid (HB1.out.trans (hb2.mono HB1.out.size))
  have hll : (lastL key L).length ≤ n := by rw [← HL.out]; exact lastL_len
  clear ho2 hr2 hb2 e2 e3
  generalize hPL : lastL key L = PL at *
  generalize hm2 : PL.length = m2 at hll
  have HM2 := Lib.hid hm2
  have HPL := Lib.hid hPL
  clear hm2 hPL
  go_wp2_with fail
  go_loopw [8, 10, 22] (fun v _ vi wr => ∃ (k : Nat) (pl : List (Nat × Nat)), vi = .int .i64 k ∧ k ≤ m2 ∧ pl.length = k ∧ wr.ownsRow w2.heap.size 29 2 v pl.length (pts pl) ∧ PtsV b (PL.take k) pl ∧ Below w2.heap.size w2 wr) (fun _ _ vi _ => m2 - (intOf vi).toNat)
  case atStart => exact ⟨0, [], rfl, Nat.zero_le _, rfl, World.ownsRow_nil _ _ _ _, PtsV.nil, by go_grown⟩
  case round =>
    rename World => wr
    obtain ⟨k, pl, rfl, hk, hpk, hO, hV, hB⟩ := hrel
    have HO := Lib.hid hO
    have HB := Lib.hid hB
    have HV := Lib.hid hV
    have hsz := hB.size
    have hsw := HB2.out.size
    clear hO hB hV
    rcases Nat.lt_or_ge k m2 with hlt | hge
    · obtain ⟨x, hx⟩ : ∃ x, PL[k]? = some x := ⟨_, List.getElem?_eq_getElem (by rw [HM2.out]; exact hlt)⟩
      have HX := Lib.hid hx
      rcases HR2.out with hr | ⟨bb, off, rfl, hbl, hcc⟩
      · have h := flat_length Pn.cl 9 Pn.cl_len PL
        rw [hr, HM2.out] at h
        simp at h
        omega
      have e := fun j hj => (HB.out.cell (p := ⟨bb, off + (k * 9 + j), none⟩) hbl).trans (pn_at hcc k x hx j hj)
      have hbw : bb < wr.heap.size := by omega
      have e0 := e 0 (by omega)
      have e1 := e 1 (by omega)
      have e2 := e 2 (by omega)
      have e3 := e 3 (by omega)
      have e4 := e 4 (by omega)
      have e5 := e 5 (by omega)
      have e6 := e 6 (by omega)
      have e7 := e 7 (by omega)
      have e8 := e 8 (by omega)
      clear e hx hcc
      simp only [← Nat.add_assoc, Nat.add_zero, List.getElem?_cons_zero, List.getElem?_cons_succ] at e0 e1 e2 e3 e4 e5 e6 e7 e8
      have kin : (k : Int) < (m2 : Int) := by omega
      go_upto_region 7 with (fail)
      refine wp_at (fun Z => Blk Z wr.heap.size 92 (valC x) ∧ Below wr.heap.size wr Z ∧ Z.heap.size = wr.heap.size + 1) ⟨by simp (disch := (first | omega | (simp only [World.size_alloc, World.size_setCell, World.size_drew] <;> omega) | fail)) only [Blk, heap_old, heap_at, heap_set_same, heap_set_ne, heap_drew', Option.map_some, putO_cells], by go_grown, by simp⟩ ?_
      rintro wz ⟨hZ, hBZ, hSZ⟩
      have HZ := Lib.hid hZ
      have HBZ := Lib.hid (HB.out.trans (hBZ.mono hsz))
      have HOZ := Lib.hid (owns_keep HO.out (fun q _ hq => hBZ.block q hq))
      have cz := hZ.cell
      have lz := hZ.lt
      clear hZ hBZ hSZ e0 e1 e2 e3 e4 e5 e6 e7 e8 HO HB
      (refine region_keep (fun q => q < wz.heap.size) 10 [(0, true), (1, true), (2, true), (3, true), (4, true), (5, true), (6, true), (7, false), (8, true), (9, false)] (by kernel_rfl) (fun _ _ d _ _ h => by cases d <;> exact h) (by kernel_rfl) ?_; simp only [withOps, List.getElem?_toArray, List.getElem?_cons_zero, List.getElem?_cons_succ, List.drop_succ_cons, List.drop_zero])
      (iterate 7 (refine keep_quiet (v := ?_) rfl ?_ ?_; rotate_left; (focus (intro w' hw'; go_simp; (try with_reducible rfl); done)); try simp only [Act.put, List.setIfInBounds_toArray, List.set_cons_zero, List.set_cons_succ]))
      (with_reducible refine plan_loud (fun K hK => ?_))
      go_simp
      refine (value_any x b _).mono ?_
      rintro en w3 ⟨r, hr, rfl, hb3⟩
      refine hK _ _ ((Keep.refl _ _).below hb3 (by intro x h; simpa using h)) ?_
      clear hK K
      have HVR := Lib.hid hr
      have hb3' : Below wz.heap.size wz w3 := bnext (by go_grown) hb3
      have HB3 := Lib.hid (HBZ.out.trans (hb3'.mono HBZ.out.size))
      have HO3 := Lib.hid (owns_keep HOZ.out (fun q _ hq => hb3'.block q hq))
      have s3 : wz.heap.size ≤ w3.heap.size := hb3'.size
      clear hr hb3 hb3' cz
      (try simp only [Act.put, List.setIfInBounds_toArray, List.set_cons_zero, List.set_cons_succ])
      (iterate 1 (refine keep_quiet (v := ?_) rfl ?_ ?_; rotate_left; (focus (intro w' hw'; go_simp; (try with_reducible rfl); done)); try simp only [Act.put, List.setIfInBounds_toArray, List.set_cons_zero, List.set_cons_succ]))
      (with_reducible refine plan_loud (fun K hK => ?_))
      go_simp
      (with_reducible refine hK _ _ ?_ ?_)
      · exact (Keep.refl _ _).alloc (fun q hq => Nat.lt_of_lt_of_le hq s3) _
      clear hK K
      (with_reducible refine plan_end ?_)
      (try simp only [Act.put, List.setIfInBounds_toArray, List.set_cons_zero, List.set_cons_succ])
      have hb6 : Blk (w3.alloc (.cells #[.float .f64 (floatOfInt .f64 x.s), .float .f64 r] 29 (0, 0))) w3.heap.size 29 #[.float .f64 (floatOfInt .f64 x.s), .float .f64 r] := heap_at rfl
      have q0 : (w3.alloc (.cells #[.float .f64 (floatOfInt .f64 x.s), .float .f64 r] 29 (0, 0))).cell? ⟨w3.heap.size, 0, none⟩ = some (.float .f64 (floatOfInt .f64 x.s, r).1) := hb6.cell 0
      have q1 : (w3.alloc (.cells #[.float .f64 (floatOfInt .f64 x.s), .float .f64 r] 29 (0, 0))).cell? ⟨w3.heap.size, 1, none⟩ = some (.float .f64 (floatOfInt .f64 x.s, r).2) := hb6.cell 1
      have hO6 := HO3.out.alloc (.cells #[.float .f64 (floatOfInt .f64 x.s), .float .f64 r] 29 (0, 0))
      have HB6 := Lib.hid (HB3.out.trans ((show Below w3.heap.size w3 (w3.alloc (.cells #[.float .f64 (floatOfInt .f64 x.s), .float .f64 r] 29 (0, 0))) by go_grown).mono HB3.out.size))
      have hs6 : w2.heap.size ≤ (w3.alloc (.cells #[.float .f64 (floatOfInt .f64 x.s), .float .f64 r] 29 (0, 0))).heap.size := by simp; omega
      have hpn : pl.length + 1 ≤ 1048576 := by omega
      (with_reducible refine append_pt ?_ (.tmp 26) (.tmp 35) ?_ w2.heap.size u8 pl.length pl ?_ hO6 w3.heap.size 1 (floatOfInt .f64 x.s, r) ?_ q0 q1 hpn hs6 ?_)
      · rfl
      · rfl
      · rfl
      · rfl
      intro v7 w7 ho7 hb7
      have HO7 := ho7
      have HB7 := Lib.hid (show Below w2.heap.size w2 w7 from HB6.out.trans hb7)
      clear ho7 hb7 q0 q1 hb6 hO6
      go_wp2_with fail
      go_roundw
      case rel =>
        refine ⟨k + 1, pl ++ [(floatOfInt .f64 x.s, r)], by go_num, by omega, by simp [hpk], ?_, ?_, HB7.out⟩
        · have h := HO7.out
          rw [List.length_append]
          exact h
        · rw [take_one HX.out]; exact HV.out.snoc HVR.out
      case measure => simp [intOf]; omega
    · obtain rfl : k = m2 := by omega
      have kin : ¬ (k : Int) < (k : Int) := by omega
      have hTk : PL.take k = PL := List.take_of_length_le (by rw [HM2.out]; exact Nat.le_refl _)
      rw [hTk] at HV
      clear hTk
      go_wp2_with fail
      go_returns
      exact ⟨u8, pl, by rw [HBD.out]; rfl, owns_mono HO.out hsw, by rw [HBD.out]; exact HV.out, HB2.out.trans (HB.out.mono hsw)⟩
end Go.Proofs.Ytbkofiflfcfjfaa.Px
