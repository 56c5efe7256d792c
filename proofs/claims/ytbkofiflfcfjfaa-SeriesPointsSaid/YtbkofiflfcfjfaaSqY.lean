/- SeriesPoints: the walk. -/
import Derived.Test.YtbkofiflfcfjfaaSqX
import Derived.Test.YtbkofiflfcfjfaaSeT
set_option linter.unusedSimpArgs false
set_option linter.unusedVariables false
namespace Go.Proofs.Ytbkofiflfcfjfaa.Px
open Go.RowKit Go.Kp Go.St Go.Ser
attribute [local go_sem] store_float

/-- The pane behind the lent ones. -/
abbrev Pn.mark : Pn := ⟨⟨#[]⟩, 0, 0, 0, 4242, 0, 0, 0, 0⟩
theorem PointsP.same {b : Int} {PL : List Pn} {pl pl' : List (Nat × Nat)} (h : if bad b then pl = [] else PtsV b PL pl) (h' : if bad b then pl' = [] else PtsV b PL pl') : PtsQ pl pl' := by
  cases hb : bad b with
  | true =>
    rw [hb] at h h'
    rw [if_pos rfl] at h h'
    subst h h'
    exact PtsQ.refl _
  | false =>
    rw [hb] at h h'
    rw [if_neg (by simp)] at h h'
    exact h.congr h'
theorem PointsP.len {b : Int} {key : ByteArray} {L : List Pn} {pl : List (Nat × Nat)} (h : if bad b then pl = [] else PtsV b (lastL key L) pl) : pl.length ≤ L.length := by
  cases hb : bad b with
  | true =>
    rw [hb, if_pos rfl] at h
    subst h
    exact Nat.zero_le _
  | false =>
    rw [hb, if_neg (by simp)] at h
    rw [h.1]
    exact lastL_len
theorem Rd.front {w : World} {B : Nat} {a : Option Addr} {L M : List Pn} (h : Rd w B a ((L ++ M).flatMap Pn.cl)) : Rd w B a (L.flatMap Pn.cl) := by
  rw [List.flatMap_append] at h
  rcases h with h | ⟨b, off, h1, h2, h3⟩
  · exact .inl (List.append_eq_nil_iff.1 h).1
  · exact .inr ⟨b, off, h1, h2, fun j u hu => h3 j u (by rw [List.getElem?_append_left (List.getElem?_eq_some_iff.1 hu).1]; exact hu)⟩
theorem mark_at {w : World} {B g n : Nat} {L : List Pn} (h : Rd w B (some ⟨g, 0, none⟩) ((L ++ [Pn.mark]).flatMap Pn.cl)) (hl : L.length = n) : g < B ∧ w.cell? ⟨g, n * 9 + 4, none⟩ = some (.int .i64 4242) := by
  rcases h with h | ⟨b, off, h1, h2, h3⟩
  · have h4 := flat_length Pn.cl 9 Pn.cl_len (L ++ [Pn.mark])
    rw [h] at h4
    simp at h4
  · cases h1
    refine ⟨h2, ?_⟩
    have h4 := flat_get Pn.cl 9 Pn.cl_len (L ++ [Pn.mark]) n 4 Pn.mark (by rw [← hl]; simp) (by omega)
    have h5 := h3 (n * 9 + 4) _ h4
    rw [Nat.zero_add] at h5
    exact h5

/-- A row that is owned stays one when a cell of it is written. -/
theorem own_set2 {w : World} {B : Nat} {e : TypeId} {size : Nat} {v : Value} {n : Nat} {xs : List Value} (h : w.ownsRow B e size v n xs) (g i : Nat) (u : Value) : ∃ xs', (w.setCell ⟨g, i, none⟩ u).ownsRow B e size v n xs' := by
  rcases h.2 with ⟨h1, h2⟩ | ⟨g1, c1, cur, h1, h2, h3, h4, h5, h6, h7⟩
  · exact ⟨xs, h.1, .inl ⟨h1, h2⟩⟩
  · subst h1
    by_cases hg : g1 = g
    · subst hg
      have hb : Blk w g1 e cur := h3
      have hl : n * size ≤ cur.size := by rw [h6]; exact Nat.mul_le_mul_right _ h4
      refine ⟨((cur.setIfInBounds i u).toList.take (n * size)), ?_, .inr ⟨g1, c1, cur.setIfInBounds i u, rfl, h2, ?_, h4, h5, by simp [h6], rfl⟩⟩
      · rw [List.length_take]; simp; omega
      · unfold Blk at hb
        rw [heap_set_same, hb]
        rfl
    · exact ⟨xs, h.1, .inr ⟨g1, c1, cur, rfl, h2, (heap_set_ne w g g1 i u hg).trans h3, h4, h5, h6, h7⟩⟩

set_option maxRecDepth 100000 in
set_option maxHeartbeats 16000000 in
theorem points (a : Option Addr) (n cap : Nat) (key : ByteArray) (b : Int) (L : List Pn) (w : World) (hl : L.length = n) (hn : n ≤ 9223372036854775807) (hnil : a = none → cap = 0) (hr : Rd w w.heap.size a (L.flatMap Pn.cl)) :
    Calls Try.prog 8 #[.slice a n cap, .string key, .int .i64 b] w (Ret (.bool true) w) := by
  have HL := Lib.hid hl
  have HR := Lib.hid hr
  have HA := Lib.hid hnil
  clear hl hr hnil
  obtain ⟨E, hE⟩ : ∃ E : Int, (if bad b then 2 else 0) = E := ⟨_, rfl⟩
  have HEE := Lib.hid hE
  clear hE
  rcases Nat.lt_or_ge 200 n with h200 | h200
  · go_enter Try.func8, Try.ntmps8
    go_wp2_with fail
    refine (known_any _).mono ?_
    rintro en w1 ⟨rfl, hb1⟩
    go_wp2_with fail
    go_returns
    exact ⟨rfl, hb1⟩
  clear hn
  go_enter Try.func8, Try.ntmps8
  go_upto_region 3 with (fail)
  apply wp_region_lit
  iterate 1 (go_step; go_step; rename_i KK hKK; (with_reducible refine hKK _ _ ?_); clear hKK KK)
  refine append_rd rfl (.const (.slice none 0 0)) (.tmp 20) 85 92 _ 9 80 infoP Try.underlying85 rfl (by omega) rfl w.heap.size (.slice none 0 0) 0 [] rfl (World.ownsRow_nil _ _ _ _) a n cap (L.flatMap Pn.cl) rfl HA.out (by rw [flat_length Pn.cl 9 Pn.cl_len, HL.out]) HR.out Pn.one (by unfold maxLen; omega) (by omega) (Nat.le_refl _) ?_
  intro v1 w1 ho1 hg1 hv1
  rw [Nat.zero_add, List.nil_append] at ho1
  have HO1 := Lib.hid ho1
  have HB1 := Lib.hid (show Below w.heap.size w w1 from (Below.refl _ _).grown hg1 (Nat.le_refl _) (fun q hq => by cases hq))
  have s1 := HB1.out.size
  clear ho1 hg1 hv1
  iterate 2 (go_step; go_step; rename_i KK hKK; (with_reducible refine hKK _ _ ?_); clear hKK KK)
  refine append_pane rfl (.tmp 21) (.tmp 23) rfl w.heap.size v1 n L rfl (HO1.out.alloc _) w1.heap.size 1 Pn.mark rfl (heap_at rfl) (by omega) (by simp; omega) ?_
  intro v2 w2 ho2 hb2
  have ho := ho2.out
  have HB2 := Lib.hid (HB1.out.trans (Below.trans (show Below w.heap.size w1 (w1.alloc (.cells (valC Pn.mark) 92 (0, 0))) by go_grown) hb2))
  obtain ⟨g, cm, rfl, hcm1, hcm2⟩ : ∃ g c1, v2 = .slice (some ⟨g, 0, none⟩) (n + 1) c1 ∧ n + 1 ≤ c1 ∧ c1 ≤ maxLen := by
    rcases ho.2 with ⟨h1, h0⟩ | ⟨g1, c1, cur1, h1, _, _, h4, h5, _⟩
    · exact absurd h0 (by omega)
    · exact ⟨_, _, h1, h4, h5⟩
  obtain ⟨a9, c9, e9, r9⟩ := rd9 ho
  obtain rfl : some ⟨g, 0, none⟩ = a9 := by injection e9
  have HM2 := Lib.hid r9
  have s2 := HB2.out.size
  have HR2 := Lib.hid ((HR.out.below HB2.out).more s2)
  clear ho2 hb2 HO1 HB1 ho e9 r9
  have hn0 : (0 : Int) ≤ (n : Int) := by omega
  have hnc : (n : Int) ≤ (cm : Int) := by omega
  go_wp2_with fail
  refine (Points_any (some ⟨g, 0, none⟩) n cm key b L _ HL.out h200 (Rd.front HM2.out)).mono ?_
  rintro en w3 ⟨va, pl, rfl, hoA, hpA, hb3⟩
  rw [HEE.out]
  obtain ⟨aa, ca, rfl, hla, _, hrA⟩ := own_rdp hoA
  have HOA := Lib.hid hoA
  have HPA := Lib.hid hpA
  have HB3 := Lib.hid hb3
  have s3 := hb3.size
  have HM3 := Lib.hid (HM2.out.below hb3)
  have HR3 := Lib.hid (HR2.out.below hb3)
  have hlA : pl.length ≤ n := by rw [← HL.out]; exact PointsP.len hpA
  clear hoA hpA hb3 hrA hla
  go_wp2_with fail
  refine (Points_any (some ⟨g, 0, none⟩) n cm key b L _ HL.out h200 ((Rd.front HM3.out).more s3)).mono ?_
  rintro en w4 ⟨vb, pl2, rfl, hoB, hpB, hb4⟩
  rw [HEE.out]
  obtain ⟨ab, cb, rfl, _, _, hrB⟩ := own_rdp hoB
  have HOB := Lib.hid hoB
  have HPB := Lib.hid hpB
  have HB4 := Lib.hid hb4
  have s4 := hb4.size
  have HR4 := Lib.hid (((HR3.out.more s3).below hb4))
  have hlB : pl2.length ≤ n := by rw [← HL.out]; exact PointsP.len hpB
  clear hoB hpB hb4 hrB
  go_wp2_with fail
  refine (refPoints_any a n cap key b L _ HL.out h200 (HR4.out.more s4)).mono ?_
  rintro en w5 ⟨vw, pl3, rfl, hoW, hpW, hb5⟩
  rw [HEE.out]
  obtain ⟨aw, cw, rfl, _, _, hrW⟩ := own_rdp hoW
  have HOW := Lib.hid (owns_mono hoW s4)
  have HRW := Lib.hid hrW
  have s5 := hb5.size
  have HPW := Lib.hid hpW
  have HQA := Lib.hid (PointsP.same HPA.out hpW)
  have HQB := Lib.hid (PointsP.same HPB.out hpW)
  have b35 : Below w3.heap.size w3 w5 := HB4.out.trans (hb5.mono s4)
  have HM5 := Lib.hid (show Rd w5 w2.heap.size (some ⟨g, 0, none⟩) ((L ++ [Pn.mark]).flatMap Pn.cl) from (HM2.out.below HB3.out).keep fun bb o hb => b35.cell (p := ⟨bb, o, none⟩) (Nat.lt_of_lt_of_le hb s3))
  have HR5 := Lib.hid (show Rd w5 w2.heap.size a (L.flatMap Pn.cl) from (HR2.out.below HB3.out).keep fun bb o hb => b35.cell (p := ⟨bb, o, none⟩) (Nat.lt_of_lt_of_le hb s3))
  have HOA5 := Lib.hid (owns_keep HOA.out (fun q _ hq => b35.block q hq))
  have HOB5 := Lib.hid (owns_keep HOB.out (fun q _ hq => hb5.block q hq))
  have HB5 := Lib.hid (HB2.out.trans ((HB3.out.trans (b35.mono s3)).mono s2))
  have eW : pl3.length = pl.length := HQA.out.1.symm
  have eB : pl2.length = pl.length := HQB.out.1.trans eW
  clear hoW hpW hb5 hrW b35 HOB HM2 HM3 HR2 HR3 HR4 HPA HPB HPW HB2 HB3 HB4
  rw [eW, eB]
  generalize hpn : pl.length = np at *
  have HPN := Lib.hid hpn
  have HEW := Lib.hid (And.intro eW eB)
  clear hpn eW eB
  have h15 : w2.heap.size ≤ w5.heap.size := by omega
  have h35 : w3.heap.size ≤ w5.heap.size := by omega
  have hmk := mark_at HM5.out HL.out
  have hgm : g < w5.heap.size := by omega
  have qm := hmk.2
  have hn3 : (n : Int) + 1 ≤ (cm : Int) := by omega
  go_wp2_with fail
  refine (samePoints_any aa aw np ca cw pl pl3 _ HPN.out HQA.out (by omega) (by obtain ⟨x, y, h1, h2, h3, h4⟩ := own_rdp HOA5.out; cases h1; exact h4) HRW.out).mono ?_
  rintro en w6 ⟨rfl, hb6⟩
  have HB6 := Lib.hid hb6
  have s6 := hb6.size
  clear hb6
  have hgm6 : g < w6.heap.size := by omega
  have qm6 : w6.cell? ⟨g, n * 9 + 4, none⟩ = some (.int .i64 4242) := (HB6.out.cell (p := ⟨g, n * 9 + 4, none⟩) hgm).trans qm
  have wn : IntKind.i64.wrap (n : Int) = (n : Int) := by rw [IntKind.wrap_i64]; omega
  have hEE : (E == E) = true := by simp
  clear qm
  go_wp2_with fail
  have k56 : ∀ bb o, bb < w5.heap.size → w6.cell? ⟨bb, o, none⟩ = w5.cell? ⟨bb, o, none⟩ := fun bb o hb => HB6.out.cell (p := ⟨bb, o, none⟩) hb
  have HM6 := Lib.hid (show Rd w6 w2.heap.size (some ⟨g, 0, none⟩) (L.flatMap Pn.cl) from (Rd.front HM5.out).keep fun bb o hb => k56 bb o (Nat.lt_of_lt_of_le hb h15))
  have HR6 := Lib.hid (show Rd w6 w2.heap.size a (L.flatMap Pn.cl) from HR5.out.keep fun bb o hb => k56 bb o (Nat.lt_of_lt_of_le hb h15))
  have HOA6 := Lib.hid (owns_keep HOA5.out (fun q _ hq => HB6.out.block q hq))
  have HOB6 := Lib.hid (owns_keep HOB5.out (fun q _ hq => HB6.out.block q hq))
  have HOW6 := Lib.hid (owns_keep HOW.out (fun q _ hq => HB6.out.block q hq))
  have HBw6 := Lib.hid (HB5.out.trans (HB6.out.mono HB5.out.size))
  have h26 : w2.heap.size ≤ w6.heap.size := by omega
  have h36 : w3.heap.size ≤ w6.heap.size := by omega
  clear k56 HM5 HR5 HOA5 HOB5 HOW HRW HB5 HB6 qm6 hgm hgm6 hmk s5 h15 h35
  go_loopw [14] (fun vi wr => ∃ i : Nat, vi = .int .i64 i ∧ i ≤ n ∧ Below w6.heap.size w6 wr) (fun vi _ => n - (intOf vi).toNat)
  case atStart => exact ⟨0, rfl, Nat.zero_le _, by go_grown⟩
  case round =>
    rename World => wr
    obtain ⟨i, rfl, hi, hB⟩ := hrel
    have HB := Lib.hid hB
    have hsz := hB.size
    clear hB
    rcases Nat.lt_or_ge i n with hlt | hge
    · obtain ⟨x, hx⟩ : ∃ x, L[i]? = some x := ⟨_, List.getElem?_eq_getElem (by rw [HL.out]; exact hlt)⟩
      have hne : L.flatMap Pn.cl ≠ [] := by
        intro h
        have h2 := flat_length Pn.cl 9 Pn.cl_len L
        rw [h, HL.out] at h2
        simp at h2
        omega
      rcases HR6.out with hr | ⟨bl, off, rfl, hbl, hcl⟩
      · exact absurd hr hne
      rcases HM6.out with hr | ⟨bm, offm, hbm0, hbm, hcm⟩
      · exact absurd hr hne
      cases hbm0
      have ex := fun j hj => (HB.out.cell (p := ⟨bl, off + (i * 9 + j), none⟩) (Nat.lt_of_lt_of_le hbl h26)).trans (pn_at hcl i x hx j hj)
      have ep := fun j hj => (HB.out.cell (p := ⟨g, 0 + (i * 9 + j), none⟩) (Nat.lt_of_lt_of_le hbm h26)).trans (pn_at hcm i x hx j hj)
      have hbl2 : bl < wr.heap.size := by omega
      have hgl2 : g < wr.heap.size := by omega
      have x0 := ex 0 (by omega)
      have x1 := ex 1 (by omega)
      have x2 := ex 2 (by omega)
      have x3 := ex 3 (by omega)
      have x4 := ex 4 (by omega)
      have x5 := ex 5 (by omega)
      have x6 := ex 6 (by omega)
      have x7 := ex 7 (by omega)
      have x8 := ex 8 (by omega)
      have p0 := ep 0 (by omega)
      have p1 := ep 1 (by omega)
      have p2 := ep 2 (by omega)
      have p3 := ep 3 (by omega)
      have p4 := ep 4 (by omega)
      have p5 := ep 5 (by omega)
      have p6 := ep 6 (by omega)
      have p7 := ep 7 (by omega)
      have p8 := ep 8 (by omega)
      clear ex ep hx hcl hcm hne
      simp only [← Nat.add_assoc, Nat.zero_add, Nat.add_zero, List.getElem?_cons_zero, List.getElem?_cons_succ] at x0 x1 x2 x3 x4 x5 x6 x7 x8 p0 p1 p2 p3 p4 p5 p6 p7 p8
      have iin : (i : Int) < (n : Int) := by omega
      go_wp2_with fail
      (refine region_keep (fun _ => True) 8 [(0, true), (1, true), (2, true), (3, true), (4, true), (5, true), (6, true), (7, true)] (by kernel_rfl) (fun _ _ d _ _ h => by cases d <;> exact h) (by kernel_rfl) ?_; simp only [withOps, List.getElem?_toArray, List.getElem?_cons_zero, List.getElem?_cons_succ, List.drop_succ_cons, List.drop_zero])
      (iterate 8 (refine keep_quiet (v := ?_) rfl ?_ ?_; rotate_left; (focus (intro w' hw'; go_simp; (try with_reducible rfl); done)); try simp only [Act.put, List.setIfInBounds_toArray, List.set_cons_zero, List.set_cons_succ]))
      (with_reducible refine plan_end ?_)
      (try simp only [Act.put, List.setIfInBounds_toArray, List.set_cons_zero, List.set_cons_succ])
      go_wp2_with fail
      go_roundw
      case rel => exact ⟨i + 1, by go_num, by omega, by have h := HB.out; go_grown⟩
      case measure => simp [intOf]; omega
    · obtain rfl : i = n := by omega
      have iin : ¬ (i : Int) < (i : Int) := by omega
      have hOA := owns_keep HOA6.out (fun q _ hq => HB.out.block q hq)
      have HOA7 := Lib.hid hOA
      have HOB7 := Lib.hid (owns_keep HOB6.out (fun q _ hq => HB.out.block q hq))
      have HOW7 := Lib.hid (owns_keep HOW6.out (fun q _ hq => HB.out.block q hq))
      have HBw7 := Lib.hid (HBw6.out.trans (HB.out.mono HBw6.out.size))
      have h37 : w3.heap.size ≤ wr.heap.size := by omega
      have h27 : w2.heap.size ≤ wr.heap.size := by omega
      clear hOA HOA6 HOB6 HOW6 HM6 HR6 HBw6 HB
      go_wp2_with fail
      go_loopw [15] (fun vi wz => ∃ (j : Nat) (xs : List Value), vi = .int .i64 j ∧ j ≤ np ∧ wz.ownsRow w2.heap.size 29 2 (.slice aa np ca) np xs ∧ wr.grownBy wz (Value.ownBlock (.slice aa np ca))) (fun vi _ => np - (intOf vi).toNat)
      case atStart => exact ⟨0, _, rfl, Nat.zero_le _, HOA7.out, World.grownBy.refl _ _⟩
      case round =>
        rename World => wz
        obtain ⟨j, xs, rfl, hj, hO, hG⟩ := hrel
        have HO := Lib.hid hO
        have HG := Lib.hid hG
        have hszz := hG.size
        clear hO hG
        rcases Nat.lt_or_ge j np with hlt2 | hge2
        · obtain ⟨ga, ca', hv, hg1, hg2⟩ := World.ownsRow.form HO.out (by omega)
          obtain ⟨rfl, rfl⟩ : aa = some ⟨ga, 0, none⟩ ∧ ca = ca' := by injection hv with h1 h2 h3; exact ⟨h1, h3⟩
          have hxl := HO.out.1
          obtain ⟨u0, hu0⟩ : ∃ u, xs[j * 2]? = some u := ⟨_, List.getElem?_eq_getElem (by omega)⟩
          obtain ⟨u1, hu1⟩ : ∃ u, xs[j * 2 + 1]? = some u := ⟨_, List.getElem?_eq_getElem (by omega)⟩
          have e0 : wz.cell? ⟨ga, j * 2, none⟩ = some u0 := (HO.out.cellAt _ (by omega)).trans hu0
          have e1 : wz.cell? ⟨ga, j * 2 + 1, none⟩ = some u1 := (HO.out.cellAt _ (by omega)).trans hu1
          have fg : ∀ o, wz.frozen? ⟨ga, o, none⟩ = false := fun o => by
            rcases HO.out.2 with ⟨h, _⟩ | ⟨g', cap, cur, h1, h2, h3, _⟩
            · cases h
            · cases h1
              exact Blk.free (t := 29) (cs := cur) h3 o
          clear hv hu0 hu1 hxl
          have jin : (j : Int) < (np : Int) := by omega
          go_wp2_with fail
          go_roundw
          case rel =>
            obtain ⟨xs2, h2⟩ := own_set2 HO.out ga (j * 2) (.float .f64 4636666922610458624)
            obtain ⟨xs3, h3⟩ := own_set2 h2 ga (j * 2 + 1) (.float .f64 0)
            exact ⟨j + 1, xs3, by go_num, by omega, h3, grown_set (grown_set HG.out)⟩
          case measure => simp [intOf]; omega
        · obtain rfl : j = np := by omega
          have jin : ¬ (j : Int) < (j : Int) := by omega
          have hob : wz.ownsRow w3.heap.size 29 2 (.slice ab j cb) j (pts pl2) := owns_keep (by have h := HOB7.out; rw [HEW.out.2] at h; exact h) (fun q h1 h2 => HG.out.block q h2 (fun e => by have := (HOA.out.lt q e.symm).2; omega))
          have how : wz.ownsRow w3.heap.size 29 2 (.slice aw j cw) j (pts pl3) := owns_keep (by have h := HOW7.out; rw [HEW.out.1] at h; exact h) (fun q h1 h2 => HG.out.block q h2 (fun e => by have := (HOA.out.lt q e.symm).2; omega))
          have HBz := Lib.hid (HBw7.out.grown HG.out HBw7.out.size (fun q hq => by have := (HOA7.out.lt q hq).1; omega))
          have HOBz := Lib.hid hob
          have HOWz := Lib.hid how
          clear hob how
          go_wp2_with fail
          refine (samePoints_any ab aw j cb cw pl2 pl3 _ (by rw [HEW.out.2]) HQB.out (by omega) (by obtain ⟨x, y, h1, h2, h3, h4⟩ := own_rdp HOBz.out; cases h1; exact h4) (by obtain ⟨x, y, h1, h2, h3, h4⟩ := own_rdp HOWz.out; cases h1; exact h4)).mono ?_
          rintro en x1 ⟨rfl, hx1⟩
          have HX1 := Lib.hid hx1
          clear hx1
          go_wp2_with fail
          refine (known_any _).mono ?_
          rintro en x2 ⟨rfl, hx2⟩
          have hbb := HBz.out.trans ((HX1.out.trans (hx2.mono HX1.out.size)).mono HBz.out.size)
          clear hx2
          go_wp2_with fail
          go_returns
          exact ⟨rfl, by go_grown⟩
end Go.Proofs.Ytbkofiflfcfjfaa.Px
