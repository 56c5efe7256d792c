/- SeriesWhole: the walk. -/
import Derived.Test.YtbkofiflfcfjfaaSeY
set_option linter.unusedSimpArgs false
set_option linter.unusedVariables false
namespace Go.Proofs.Ytbkofiflfcfjfaa
open Go.RowKit Go.Kp Go.Ser
attribute [local go_sem high] Kp.run_min2 Kp.run_max2

def loF (l : List Int) : Int := l.foldl min 1048576
def hiF (l : List Int) : Int := l.foldl max (-1048576)
theorem loF_snoc (l : List Int) (x : Int) : loF (l ++ [x]) = min (loF l) x := by simp [loF, List.foldl_append]
theorem hiF_snoc (l : List Int) (x : Int) : hiF (l ++ [x]) = max (hiF l) x := by simp [hiF, List.foldl_append]
theorem foldl_min (l : List Int) : ∀ a : Int, (l.foldl min a ≤ a ∧ ∀ x ∈ l, l.foldl min a ≤ x) ∧ (l.foldl min a = a ∨ l.foldl min a ∈ l) := by
  induction l with
  | nil => intro a; simp
  | cons y l ih =>
    intro a
    obtain ⟨⟨h1, h2⟩, h3⟩ := ih (min a y)
    rw [List.foldl_cons]
    refine ⟨⟨by omega, fun x hx => ?_⟩, ?_⟩
    · rcases List.mem_cons.1 hx with rfl | hx
      · omega
      · exact h2 x hx
    · rcases h3 with h3 | h3
      · rw [h3]
        rcases Int.le_total a y with h | h
        · left; omega
        · right; rw [Int.min_eq_right h]; exact List.mem_cons_self
      · exact .inr (List.mem_cons_of_mem _ h3)
theorem foldl_max (l : List Int) : ∀ a : Int, (a ≤ l.foldl max a ∧ ∀ x ∈ l, x ≤ l.foldl max a) ∧ (l.foldl max a = a ∨ l.foldl max a ∈ l) := by
  induction l with
  | nil => intro a; simp
  | cons y l ih =>
    intro a
    obtain ⟨⟨h1, h2⟩, h3⟩ := ih (max a y)
    rw [List.foldl_cons]
    refine ⟨⟨by omega, fun x hx => ?_⟩, ?_⟩
    · rcases List.mem_cons.1 hx with rfl | hx
      · omega
      · exact h2 x hx
    · rcases h3 with h3 | h3
      · rw [h3]
        rcases Int.le_total a y with h | h
        · right; rw [Int.max_eq_right h]; exact List.mem_cons_self
        · left; omega
      · exact .inr (List.mem_cons_of_mem _ h3)
/-- The least and the greatest of a row that is not empty. -/
theorem bounds_of {ms : List Int} (hm : ∀ m ∈ ms, -1048576 < m ∧ m < 1048576) (h0 : ms ≠ []) : (∀ m ∈ ms, loF ms ≤ m ∧ m ≤ hiF ms) ∧ loF ms ∈ ms ∧ hiF ms ∈ ms := by
  obtain ⟨⟨a1, a2⟩, a3⟩ := foldl_min ms 1048576
  obtain ⟨⟨b1, b2⟩, b3⟩ := foldl_max ms (-1048576)
  obtain ⟨m, hmm⟩ := List.exists_mem_of_ne_nil ms h0
  have h1 := hm m hmm
  have h2 := a2 m hmm
  have h3 := b2 m hmm
  refine ⟨fun x hx => ⟨a2 x hx, b2 x hx⟩, ?_, ?_⟩
  · rcases a3 with h | h
    · omega
    · exact h
  · rcases b3 with h | h
    · omega
    · exact h
theorem sum_abs : ∀ l : List Int, (∀ m ∈ l, -1048576 < m ∧ m < 1048576) → -((l.length : Int) * 1048576) ≤ l.sum ∧ l.sum ≤ (l.length : Int) * 1048576
  | [], _ => by simp
  | x :: l, h => by
    have h1 := h x List.mem_cons_self
    have h2 := sum_abs l fun y hy => h y (List.mem_cons_of_mem _ hy)
    simp only [List.sum_cons, List.length_cons]
    omega
/-- Remainders. -/
def rems (zs : List Int) : List Int := zs.map fun z => z.tmod 1048576
theorem rems_bd (zs : List Int) : ∀ m ∈ rems zs, -1048576 < m ∧ m < 1048576 := by
  intro m hm
  obtain ⟨z, _, rfl⟩ := List.mem_map.1 hm
  show -1048576 < z.tmod 1048576 ∧ z.tmod 1048576 < 1048576
  have h := Int.natAbs_tmod z 1048576
  have h2 := Nat.mod_lt z.natAbs (show 0 < 1048576 by decide)
  rw [show (1048576 : Int).natAbs = 1048576 from rfl] at h
  omega
abbrev is (l : List Int) : List Value := l.map (Value.int .i64)

set_option maxRecDepth 100000 in
set_option maxHeartbeats 8000000 in
theorem whole_any (a : Option Addr) (n cap : Nat) (zs : List Int) (w : World) (hl : zs.length = n) (hn : n ≤ 9223372036854775807) (hr : Rd w w.heap.size a (is zs)) :
    Calls Try.prog 7 #[.slice a n cap] w (Ret (.bool true) w) := by
  have HL := Lib.hid hl
  have HR := Lib.hid hr
  clear hl hr
  rcases Nat.lt_or_ge 500 n with h500 | h500
  · go_enter Try.func7, Try.ntmps7
    go_wp2_with fail
    refine (known_any _).mono ?_
    rintro en w1 ⟨rfl, hb1⟩
    go_wp2_with fail
    go_returns
    exact ⟨rfl, hb1⟩
  rcases Nat.eq_zero_or_pos n with hn0 | hn0
  · subst hn0
    go_enter Try.func7, Try.ntmps7
    go_wp2_with fail
    refine (known_any _).mono ?_
    rintro en w1 ⟨rfl, hb1⟩
    go_wp2_with fail
    go_returns
    exact ⟨rfl, hb1⟩
  clear hn
  rcases HR.out with hr | ⟨b, off, rfl, hb, hc⟩
  · have := HL.out; rw [List.map_eq_nil_iff.1 hr] at this; simp at this; omega
  have HC := Lib.hid hc
  have HML : Hid ((rems zs).length = n) := Lib.hid (by rw [rems, List.length_map, HL.out])
  have HBd := Lib.hid (rems_bd zs)
  have HZ : Hid (∀ (k : Nat) z, zs[k]? = some z → (rems zs)[k]? = some (z.tmod 1048576)) := Lib.hid fun k z hz => by rw [rems, List.getElem?_map, hz]; rfl
  have hq0 : ((n : Int) == 0) = false := by simp; omega
  clear hc
  generalize rems zs = ms at HML HBd HZ
  go_enter Try.func7, Try.ntmps7
  go_wp2_with fail
  go_loopw [3, 4, 5, 6, 7] (fun v s lo hi i wr => ∃ k : Nat, k ≤ n ∧ i = .int .i64 k ∧ s = .int .i64 (ms.take k).sum ∧ lo = .int .i64 (loF (ms.take k)) ∧ hi = .int .i64 (hiF (ms.take k)) ∧ wr.ownsRow w.heap.size 25 1 v k (fl ((ms.take k).map fi)) ∧ Below w.heap.size w wr) (fun _ _ _ _ i _ => n - (intOf i).toNat)
  case atStart => exact ⟨0, Nat.zero_le _, rfl, rfl, rfl, rfl, World.ownsRow_nil _ _ _ _, by go_grown⟩
  case round =>
    obtain ⟨k, hk, rfl, rfl, rfl, rfl, hO, hB⟩ := hrel
    have HO := Lib.hid hO
    clear hO
    have hsz := hB.size
    rcases Nat.lt_or_ge k n with hlt | hge
    · obtain ⟨z, hz⟩ : ∃ z, zs[k]? = some z := ⟨_, List.getElem?_eq_getElem (by rw [HL.out]; exact hlt)⟩
      have hm := HZ.out k z hz
      have e : wr.cell? ⟨b, off + k, none⟩ = some (.int .i64 z) := (hB.cell (p := ⟨b, off + k, none⟩) hb).trans (HC.out k _ (by rw [List.getElem?_map, hz]; rfl))
      have hmb := HBd.out _ (List.mem_of_getElem? hm)
      have hT : ms.take (k + 1) = ms.take k ++ [z.tmod 1048576] := by rw [List.take_add_one, hm]; rfl
      have HT1 : Hid ((ms.take (k + 1)).sum = (ms.take k).sum + z.tmod 1048576) := Lib.hid (by rw [hT]; simp)
      have HT2 : Hid (loF (ms.take (k + 1)) = min (loF (ms.take k)) (z.tmod 1048576)) := Lib.hid (by rw [hT]; exact loF_snoc _ _)
      have HT3 : Hid (hiF (ms.take (k + 1)) = max (hiF (ms.take k)) (z.tmod 1048576)) := Lib.hid (by rw [hT]; exact hiF_snoc _ _)
      have HT4 : Hid (fl ((ms.take (k + 1)).map fi) = fl ((ms.take k).map fi ++ [fi (z.tmod 1048576)])) := Lib.hid (by rw [hT]; simp)
      have hs := sum_abs (ms.take k) fun m hm => HBd.out m (List.mem_of_mem_take hm)
      have hlen : (ms.take k).length ≤ 500 := by simp; omega
      have hs1 : -524288000 ≤ (ms.take k).sum := by omega
      have hs2 : (ms.take k).sum ≤ 524288000 := by omega
      obtain ⟨hm1, hm2⟩ := hmb
      clear hz hm hT hs hlen
      generalize hS : (ms.take k).sum = S at *
      generalize hLo : loF (ms.take k) = lo at *
      generalize hHi : hiF (ms.take k) = hi at *
      clear hS hLo hHi
      go_upto_region 9 with (fail)
      generalize hM : z.tmod 1048576 = m at *
      clear hM e
      apply wp_region_lit
      iterate 4 (go_step; go_step; rename_i KK hKK; (with_reducible refine hKK _ _ ?_); clear hKK KK)
      (with_reducible refine append_fl ?_ (.tmp 40) (.tmp 43) ?_ w.heap.size u3 k ((ms.take k).map fi) ?_ (HO.out.alloc _) wr.heap.size (fi m) 1 ?_ ?_ ?_ ?_ ?_)
      · rfl
      · rfl
      · rfl
      · rfl
      · rw [cell_of_row _ _ _ _ _ _ (heap_at rfl)]; rfl
      · omega
      · simp; omega
      intro v1 w5 ho hb5
      have HB5 : Below w.heap.size w w5 := (show Below w.heap.size w (wr.alloc (Obj.cells #[.float .f64 (fi m)] 25)) by go_grown).trans hb5
      clear hb5
      go_wp2_with fail
      go_roundw
      case rel => exact ⟨k + 1, by omega, by go_num, by rw [HT1.out], by rw [HT2.out], by rw [HT3.out], by rw [HT4.out]; exact ho.out, HB5⟩
      case measure => simp [intOf]; omega
    · obtain rfl : k = n := by omega
      have htk : ms.take k = ms := List.take_of_length_le (by rw [HML.out]; omega)
      rw [htk] at HO
      rw [htk]
      clear htk
      have hne : ms ≠ [] := fun h => by have := HML.out; rw [h] at this; simp at this; omega
      obtain ⟨hbd, hlom, him⟩ := bounds_of HBd.out hne
      have hmB : ∀ m ∈ ms, m.natAbs ≤ 1048576 := fun m hm => by have := HBd.out m hm; omega
      have hlenS := sum_abs ms HBd.out
      obtain ⟨v0, hv0⟩ : ∃ v, ms[0]? = some v := ⟨_, List.getElem?_eq_getElem (by rw [HML.out]; exact hn0)⟩
      obtain ⟨g, c, rfl, hg1, hg2⟩ := World.ownsRow.form HO.out (by omega)
      have hcap : k ≤ c := by
        rcases HO.out.2 with ⟨h, _⟩ | ⟨_, _, _, h, _, _, h2, _⟩
        · cases h
        · cases h; exact h2
      obtain ⟨a1, c1, hv1, hxl, _, hrd⟩ := own_rd HO.out
      obtain ⟨rfl, rfl⟩ : a1 = some ⟨g, 0, none⟩ ∧ c = c1 := by injection hv1 with h1 h2 h3; exact ⟨h1.symm, h3⟩
      have HXL := Lib.hid hxl
      have HRD := Lib.hid hrd
      have HmB := Lib.hid hmB
      have HV0 := Lib.hid hv0
      have Hloa := Lib.hid (hmB _ hlom)
      have Hhia := Lib.hid (hmB _ him)
      have Hbd := Lib.hid hbd
      have Hlom := Lib.hid hlom
      have Him := Lib.hid him
      have HNE := Lib.hid hne
      have HBw := Lib.hid hB
      have HG2 := Lib.hid hg2
      have hl500 : ms.length ≤ 500 := by rw [HML.out]; exact h500
      have hl0 : 0 < ms.length := by rw [HML.out]; exact hn0
      have HLm := Lib.hid hl500
      have HL0 := Lib.hid hl0
      have HZf : Hid (ms.headD 0 = v0) := Lib.hid (by
        cases ms with
        | nil => simp at hv0
        | cons x xs => simpa using hv0)
      clear hbd hlom him hmB hv0 hv1 hxl hrd HO HC HZ HR hne hB hlenS hl500 hl0 HL
      go_wp2_with fail
      refine (Mean_any _ k _ (ms.map fi) _ HXL.out (by omega) HRD.out).mono ?_
      rintro en w1 ⟨m, hM, rfl, hb⟩
      have Mm : Hid (MeanR (ms.map fi) m) := Lib.hid (by unfold MeanE at hM; rwa [if_neg (by rw [HXL.out]; omega)] at hM)
      have HRD1 := Lib.hid ((HRD.out.below hb).more hb.size)
      have HB1 := Lib.hid (bnext HBw.out hb)
      have he : errE k = 0 := if_neg (by omega)
      rw [he]
      clear hM hb
      go_wp2_with fail
      refine (Spread_any _ k _ (ms.map fi) _ HXL.out (by omega) HRD1.out).mono ?_
      rintro en w2 ⟨s, hS, rfl, hb⟩
      have Ms : Hid (SpreadR (ms.map fi) s) := Lib.hid (by unfold SpreadE at hS; rwa [if_neg (by rw [HXL.out]; omega)] at hS)
      have HRD2 := Lib.hid ((HRD1.out.below hb).more hb.size)
      have HB2 := Lib.hid (bnext HB1.out hb)
      rw [he]
      clear hS hb he
      go_wp2_with fail
      refine (moving_any _ k _ 1 (ms.map fi) _ HXL.out (by omega) hcap (by omega) HRD2.out).mono ?_
      rintro en w3 ⟨v3, o3, rfl, hlen, hR, hO, hb⟩
      have hk3 : movN k 1 = k := by unfold movN; simp
      have hk4 : movK 1 = 0 := rfl
      rw [hk3] at hlen hO
      rw [hk4]
      obtain ⟨a3, c3, rfl, _, _, hrd3⟩ := own_rd hO
      have HQ3 : Hid (Eqs o3 (ms.map fi)) := Lib.hid ⟨hlen.trans HXL.out.symm, fun i x y hx hy => by
        rw [List.getElem?_map] at hy
        cases hmi : ms[i]? with
        | none => rw [hmi] at hy; cases hy
        | some v => rw [hmi] at hy; rw [← Option.some.inj hy]; exact moving_one hR HmB.out i x v hx hmi⟩
      have HLN3 := Lib.hid hlen
      have HRO3 := Lib.hid hrd3
      have HRD3 := Lib.hid ((HRD2.out.below hb).more hb.size)
      have HB3 := Lib.hid (bnext HB2.out hb)
      clear hlen hR hO hb hk3 hk4 hrd3
      go_wp2_with fail
      refine (smooth_ok _ k _ 4607182418800017408 (ms.map fi) _ HXL.out (by omega) ⟨.inl (by decide +kernel), .inr (by decide +kernel)⟩ HRD3.out).mono ?_
      rintro en w4 ⟨v4, o4, rfl, hlen, hR, hO, hb⟩
      obtain ⟨a4, c4, rfl, _, _, hrd4⟩ := own_rd hO
      have HQ4 : Hid (Eqs o4 (ms.map fi)) := Lib.hid ⟨hlen.trans HXL.out.symm, fun i x y hx hy => by
        rw [List.getElem?_map] at hy
        cases hmi : ms[i]? with
        | none => rw [hmi] at hy; cases hy
        | some v => rw [hmi] at hy; rw [← Option.some.inj hy]; exact order_eq (smo_one hR HmB.out i x v hx hmi) (W.fi v) (by have := HmB.out v (List.mem_of_getElem? hmi); omega)⟩
      have HLN4 := Lib.hid hlen
      have HRO4 := Lib.hid hrd4
      have HRO3 := Lib.hid ((HRO3.out.below hb).more hb.size)
      have HRD4 := Lib.hid ((HRD3.out.below hb).more hb.size)
      have HB4 := Lib.hid (bnext HB3.out hb)
      clear hlen hR hO hb hrd4
      go_wp2_with fail
      refine (smooth_ok _ k _ 0 (ms.map fi) _ HXL.out (by omega) ⟨.inr (by decide +kernel), .inl (by decide +kernel)⟩ HRD4.out).mono ?_
      rintro en w5 ⟨v5, o5, rfl, hlen, hR, hO, hb⟩
      obtain ⟨a5, c5, rfl, _, _, hrd5⟩ := own_rd hO
      have HQ5 : Hid (∀ (i : Nat) x, o5[i]? = some x → FloatKind.f64.format.order x (fi v0) = some .eq) := Lib.hid fun i x hx => order_eq (smo_zero hR HmB.out HV0.out i x hx) (W.fi v0) (by have := HmB.out v0 (List.mem_of_getElem? HV0.out); omega)
      have HLN5 := Lib.hid hlen
      have HRO5 := Lib.hid hrd5
      have HRO4 := Lib.hid ((HRO4.out.below hb).more hb.size)
      have HRO3 := Lib.hid ((HRO3.out.below hb).more hb.size)
      have HRD5 := Lib.hid ((HRD4.out.below hb).more hb.size)
      have HB5 := Lib.hid (bnext HB4.out hb)
      clear hlen hR hO hb hrd5
      have HSb : Hid (ms.sum.natAbs ≤ 1048576000) := Lib.hid (by have := sum_abs ms HBd.out; have := HLm.out; omega)
      obtain ⟨q1, q2⟩ := mean_order Mm.out HmB.out HLm.out HL0.out Hbd.out Hloa.out Hhia.out
      have ho1 : (FloatKind.f64.format.order m (floatOfInt .f64 (loF ms)) == some .lt) = false := by
        have q1' : (FloatKind.f64.format.order m (floatOfInt .f64 (loF ms)) == some .gt || FloatKind.f64.format.order m (floatOfInt .f64 (loF ms)) == some .eq) = true := q1
        generalize FloatKind.f64.format.order m (floatOfInt .f64 (loF ms)) = x at q1'
        cases x with
        | none => rfl
        | some o => cases o <;> simp_all
      have ho2 : (FloatKind.f64.format.order m (floatOfInt .f64 (hiF ms)) == some .gt) = false := by
        have q2' : (FloatKind.f64.format.order m (floatOfInt .f64 (hiF ms)) == some .lt || FloatKind.f64.format.order m (floatOfInt .f64 (hiF ms)) == some .eq) = true := q2
        generalize FloatKind.f64.format.order m (floatOfInt .f64 (hiF ms)) = x at q2'
        cases x with
        | none => rfl
        | some o => cases o <;> simp_all
      obtain ⟨bb, hb1, hb2⟩ : ∃ bb : Bool, (FloatKind.f64.format.order s 0 == some .eq) = bb ∧ (loF ms == hiF ms) = bb := by
        rcases Decidable.em (loF ms = hiF ms) with h | h
        · refine ⟨true, ?_, by simpa using h⟩
          have hall : ∀ x ∈ ms, x = loF ms := fun x hx => by have := Hbd.out x hx; omega
          have := spread_zero Ms.out hall Hloa.out HLm.out HL0.out
          rw [this]; rfl
        · refine ⟨false, ?_, by simpa using h⟩
          have := spread_some Ms.out HmB.out HLm.out Hlom.out Him.out h
          simpa using this
      clear q1 q2
      generalize hGl : loF ms = lo at *
      generalize hGh : hiF ms = hi at *
      generalize hGs : ms.sum = S at *
      have HGS := Lib.hid hGs
      clear hGl hGh hGs
      go_wp2_with fail
      clear ho1 ho2 hb1 hb2
      refine (same_eq _ _ k _ _ o3 (ms.map fi) _ HLN3.out HQ3.out (by omega) HRO3.out HRD5.out).mono ?_
      rintro en w6 ⟨rfl, hb⟩
      have HRO4 := Lib.hid ((HRO4.out.below hb).more hb.size)
      have HRO5 := Lib.hid ((HRO5.out.below hb).more hb.size)
      have HRD6 := Lib.hid ((HRD5.out.below hb).more hb.size)
      have HB6 := Lib.hid (bnext HB5.out hb)
      clear hb
      go_wp2_with fail
      refine (same_eq _ _ k _ _ o4 (ms.map fi) _ HLN4.out HQ4.out (by omega) HRO4.out HRD6.out).mono ?_
      rintro en w7 ⟨rfl, hb⟩
      have HRO5 := Lib.hid ((HRO5.out.below hb).more hb.size)
      have HRD7 := Lib.hid ((HRD6.out.below hb).more hb.size)
      have HB7 := Lib.hid (bnext HB6.out hb)
      clear hb
      obtain ⟨wo, hwo⟩ : ∃ x : World, x = wr := ⟨_, rfl⟩
      subst hwo
      go_wp2_with fail
      go_loopw [19] (fun i wr => ∃ j : Nat, j ≤ k ∧ i = .int .i64 j ∧ Below w7.heap.size w7 wr) (fun i _ => k - (intOf i).toNat)
      case atStart => exact ⟨0, Nat.zero_le _, rfl, by go_grown⟩
      case round =>
        obtain ⟨j, hj, rfl, hB⟩ := hrel
        have hszr := hB.size
        have HRDr := Lib.hid ((HRD7.out.below hB).more hB.size)
        obtain ⟨gx, hgx⟩ : ∃ gx, gx = g := ⟨_, rfl⟩
        have eg : wr.cell? ⟨g, 0, none⟩ = some (.float .f64 (fi v0)) := by
          rcases HRDr.out with h | ⟨b1, off1, h1, h2, h3⟩
          · exact absurd h (fl_ne HXL.out hn0)
          · injection h1 with h1
            injection h1 with h4 h5
            subst h4; subst h5
            have := h3 0 (.float .f64 (fi v0)) (by rw [List.getElem?_map, List.getElem?_map, HV0.out]; rfl)
            simpa using this
        have lg : g < wr.heap.size := by
          rcases Nat.lt_or_ge g wr.heap.size with h | h
          · exact h
          · simp [World.cell?, Array.getElem?_eq_none h] at eg
        rcases Nat.lt_or_ge j k with hlt | hge
        · rcases HRO5.out with hz | ⟨b5, off5, rfl, hb5, hc5⟩
          · exact absurd hz (fl_ne HLN5.out hn0)
          obtain ⟨x, hx⟩ := some_at HLN5.out hlt
          have e5 := fl_at hb5 hB hc5 hx
          have eo := HQ5.out j x hx
          have q5 : b5 < wr.heap.size := Nat.lt_of_lt_of_le hb5 hszr
          have hHc := Lib.hid hc5
          clear hx hc5 hgx
          go_wp2_with fail
          (refine region_keep (fun _ => True) 8 [(0, true), (1, true), (2, true), (3, true), (4, true), (5, true), (6, true), (7, true)] (by kernel_rfl) (fun _ _ d _ _ h => by cases d <;> exact h) (by kernel_rfl) ?_; simp only [withOps, List.getElem?_toArray, List.getElem?_cons_zero, List.getElem?_cons_succ, List.drop_succ_cons, List.drop_zero])
          (repeat (refine keep_quiet (v := ?_) rfl ?_ ?_; rotate_left; (focus (intro w' hw'; go_simp; (try with_reducible rfl); done)); try simp only [Act.put, List.setIfInBounds_toArray, List.set_cons_zero, List.set_cons_succ]))
          (with_reducible refine plan_end ?_)
          (try simp only [Act.put, List.setIfInBounds_toArray, List.set_cons_zero, List.set_cons_succ])
          go_wp2
          go_roundw
          case rel => exact ⟨j + 1, by omega, by go_num, by go_grown⟩
          case measure => simp [intOf]; omega
        · clear hgx
          have HBw2 := Lib.hid (bnext HB7.out hB)
          go_wp2_with fail
          (refine region_keep (fun x => x < wr.heap.size) 13 [(0, true), (2, true), (3, true), (4, true), (1, false), (5, true), (6, true), (7, true), (9, true), (10, true), (11, true), (12, true), (8, false)] (by kernel_rfl) (fun _ _ d _ _ h => by cases d <;> exact h) (by kernel_rfl) ?_; simp only [withOps, List.getElem?_toArray, List.getElem?_cons_zero, List.getElem?_cons_succ, List.drop_succ_cons, List.drop_zero])
          (iterate 4 (refine keep_quiet (v := ?_) rfl ?_ ?_; rotate_left; (focus (intro w' hw'; go_simp; (try with_reducible rfl); done)); try simp only [Act.put, List.setIfInBounds_toArray, List.set_cons_zero, List.set_cons_succ]))
          (with_reducible refine plan_loud (fun K hK => ?_))
          go_simp
          refine (tone_any _ k _ _ _ (ms.map fi) wr.drew HXL.out (by omega) (show Rd wr.drew wr.drew.heap.size _ _ from HRDr.out)).mono ?_
          rintro en w8 ⟨u, v, hT, rfl, hb⟩
          obtain ⟨t1, t2, _⟩ := tone_one hT HmB.out HLm.out
          refine hK _ _ ((Keep.refl _ _).below hb (by intro x h; simpa using h)) ?_
          clear hK K
          have eo1 : FloatKind.f64.format.order u (floatOfInt .f64 S) = some .eq := by rw [← HGS.out]; exact order_eq t1 (W.fi _) (by rw [HGS.out]; exact HSb.out)
          have eo2 : FloatKind.f64.format.order v 0 = some .eq := order_eq t2 W.zero (by simp)
          have HB8 := Lib.hid ((HBw2.out.drew).trans (hb.mono HBw2.out.size))
          have HRD8 : Hid (Rd w8 w8.heap.size (some ⟨g, 0, none⟩) (fl (ms.map fi))) := Lib.hid (((show Rd wr.drew wr.drew.heap.size _ _ from HRDr.out).below hb).more hb.size)
          have eg8 : w8.cell? ⟨g, 0, none⟩ = some (.float .f64 (fi v0)) := (hb.cell (p := ⟨g, 0, none⟩) lg).trans eg
          have HSw8 : Hid (wr.heap.size ≤ w8.heap.size) := Lib.hid hb.size
          clear hT hb t1 t2
          (iterate 7 (refine keep_quiet (v := ?_) rfl ?_ ?_; rotate_left; (focus (intro w' hw'; go_simp; (try with_reducible rfl); done)); try simp only [Act.put, List.setIfInBounds_toArray, List.set_cons_zero, List.set_cons_succ]))
          (with_reducible refine plan_loud (fun K hK => ?_))
          go_simp
          refine (tone_any _ k _ _ _ (ms.map fi) _ HXL.out (by omega) HRD8.out).mono ?_
          rintro en w9 ⟨u0, v0', hT, rfl, hb⟩
          obtain ⟨t1, t2⟩ := tone_zero hT HmB.out
          rw [HZf.out] at t1
          refine hK _ _ ((Keep.refl _ _).below hb (by intro x h; have := hb.size; have h9 := HSw8.out; omega)) ?_
          clear hK K
          have eo3 : FloatKind.f64.format.order u0 (floatOfInt .f64 v0) = some .eq := order_eq t1 (W.fi _) (by have := HmB.out v0 (List.mem_of_getElem? HV0.out); omega)
          have eo4 : FloatKind.f64.format.order v0' 0 = some .eq := order_eq t2 W.zero (by simp)
          have HB9 := Lib.hid (bnext HB8.out hb)
          clear hT hb t1 t2
          (with_reducible refine plan_end ?_)
          (try simp only [Act.put, List.setIfInBounds_toArray, List.set_cons_zero, List.set_cons_succ])
          go_wp2_with fail
          refine (known_any _).mono ?_
          rintro en w10 ⟨rfl, hb⟩
          have HB10 := bnext HB9.out hb
          clear hb
          go_wp2_with fail
          go_returns
          exact ⟨rfl, HB10⟩
end Go.Proofs.Ytbkofiflfcfjfaa
