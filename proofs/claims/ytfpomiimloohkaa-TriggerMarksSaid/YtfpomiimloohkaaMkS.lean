/- A mark: the document's, walked. -/
import Derived.Test.YtfpomiimloohkaaMkR
set_option linter.unusedSimpArgs false
set_option linter.unusedVariables false
namespace Go.Proofs.Ytfpomiimloohkaa
open Go.RowKit Go.Kp Go.So

set_option maxRecDepth 100000 in
set_option maxHeartbeats 16000000 in
theorem refMark_any (c : Conf) (key : ByteArray) (a : Option Addr) (n cap : Nat) (L : List Win) (fr up : Int) (w : World) (hl : L.length = n) (hn : n ≤ 2000000000000) (hok : ∀ x ∈ L, x.ok) (hla : I64 c.la) (hup : I64 up) (hnil : a = none → cap = 0)
    (hr : Rd w w.heap.size a (L.flatMap Win.cl)) :
    Calls Try.prog 21 #[c.val, .string key, .slice a n cap, .int .i64 fr, .int .i64 up] w (RefP w.heap.size c key L fr up w) := by
  have HL := Lib.hid hl
  have HOK := Lib.hid hok
  have HI := Lib.hid (And.intro hla hup)
  have hr0 : Rd (w.alloc (.cells c.cells 24 (0, 0))) (w.heap.size + 1) a (L.flatMap Win.cl) := (hr.below (by go_grown)).more (Nat.le_succ _)
  have HR := Lib.hid hr0
  have HNIL := Lib.hid hnil
  clear hr hl hok hla hup hr0 hnil
  go_enter Try.func21, Try.ntmps21
  go_upto_region 1 with (fail)
  apply wp_region_lit
  go_step; go_step; rename_i KK hKK; (with_reducible refine hKK _ _ ?_); clear hKK KK
  refine append_rd rfl (.const (.slice none 0 0)) (.tmp 19) 52 30 _ 9 72 infoW Try.underlying52 rfl (by omega) rfl (w.heap.size + 1) (.slice none 0 0) 0 [] rfl (World.ownsRow_nil _ _ _ _) a n cap (L.flatMap Win.cl) rfl HNIL.out (by rw [flat_length Win.cl 9 Win.len, HL.out]) (by simpa using HR.out) Win.one (by unfold maxLen; omega) (by omega) (by simp) ?_
  intro v1 w1 ho1 hg1 hv1
  rw [Nat.zero_add, List.nil_append] at ho1
  have HB1 := Lib.hid (show Below w.heap.size w w1 from (show Below w.heap.size w (w.alloc (.cells c.cells 24 (0, 0))) by go_grown).grown hg1 (by simp) (fun q hq => by cases hq))
  have HC1 := Lib.hid (show Blk w1 w.heap.size 24 c.cells from Blk.grown (heap_at rfl) hg1 (by simp [Value.ownBlock]))
  clear hg1 hv1
  rcases Nat.eq_zero_or_pos n with hn0 | hn0
  · subst hn0
    obtain rfl : L = [] := List.eq_nil_of_length_eq_zero HL.out
    obtain ⟨a1, c1, rfl⟩ : ∃ a1 c1, v1 = .slice a1 0 c1 := by
      rcases ho1.2 with ⟨h1, _⟩ | ⟨g1, c1, cur1, h1, _⟩
      · exact ⟨_, _, h1⟩
      · exact ⟨_, _, h1⟩
    have hB1 := HB1.out
    clear ho1
    go_wp2_with fail
    go_rounds 1
    go_wp2_with fail
    go_rounds 1
    go_returns
    exact ⟨_, _, [], rfl, World.ownsRow_nil _ _ _ _, World.ownsRow_nil _ _ _ _, ⟨List.Pairwise.nil, fun _ => rfl⟩, by go_grown⟩
  obtain ⟨gA, cA, rfl⟩ : ∃ g c1, v1 = .slice (some ⟨g, 0, none⟩) n c1 := by
    rcases ho1.2 with ⟨h1, h0⟩ | ⟨g1, c1, cur1, h1, _⟩
    · have := h0; omega
    · exact ⟨_, _, h1⟩
  obtain ⟨d0, hd0, hd1⟩ := roww_of_own ho1 HL.out
  have HA := Lib.hid (show w.heap.size + 1 ≤ gA from (own_at ho1 rfl).choose_spec.2.2.2.1)
  have HR0 := Lib.hid (show Rm w1 w.heap.size gA n c d0 (.slice none 0 0) [] from ⟨hd0, HC1.out, World.ownsRow_nil _ _ _ _⟩)
  have HH0 := Lib.hid (show Half L fr up c.di 0 d0 from fun i x hx => by rw [hd1 i x hx, if_neg (Nat.not_lt_zero _)])
  clear ho1 hd0 hd1 HC1 HR HNIL
  go_wp2_with fail
  go_loopw [13, 14, 15, 16] (fun vp vi _ _ wr => ∃ (k : Nat) (d : Nat → Win) (P : List Pa), vi = .int .i64 k ∧ k ≤ n ∧ Rm wr w.heap.size gA n c d vp P ∧ Half L fr up c.di k d ∧ Ordered P (pansL key fr up (L.take k)) ∧ Below w.heap.size w wr) (fun _ vi _ _ _ => n - (intOf vi).toNat)
  case atStart => exact ⟨0, d0, [], rfl, Nat.zero_le _, HR0.out, HH0.out, ⟨List.Pairwise.nil, fun _ => rfl⟩, HB1.out⟩
  case round =>
    rename World => wr
    obtain ⟨k, d, P, rfl, hk, hR, hH, hO, hB⟩ := hrel
    have HR1 := Lib.hid hR
    have HH := Lib.hid hH
    have HO := Lib.hid hO
    have HB := Lib.hid hB
    clear hR hH hO hB HR0 HH0 HB1
    have hsz := HB.out.size
    have hga := HR1.out.row.lt
    have hgb := HR1.out.cfg.lt
    rcases Nat.lt_or_ge k n with hlt | hge
    · obtain ⟨x, hx⟩ : ∃ x, L[k]? = some x := ⟨_, List.getElem?_eq_getElem (by rw [HL.out]; exact hlt)⟩
      have HX := Lib.hid hx
      have HXO := Lib.hid (HOK.out x (List.mem_of_getElem? hx))
      have hdk : d k = x := by rw [HH.out k x hx, if_neg (Nat.lt_irrefl _)]
      clear hx
      have e0 := HR1.out.row.cell hlt (show 0 < 9 by decide)
      have e1 := HR1.out.row.cell hlt (show 1 < 9 by decide)
      have e2 := HR1.out.row.cell hlt (show 2 < 9 by decide)
      have e3 := HR1.out.row.cell hlt (show 3 < 9 by decide)
      have e4 := HR1.out.row.cell hlt (show 4 < 9 by decide)
      have e5 := HR1.out.row.cell hlt (show 5 < 9 by decide)
      have e6 := HR1.out.row.cell hlt (show 6 < 9 by decide)
      have e7 := HR1.out.row.cell hlt (show 7 < 9 by decide)
      have e8 := HR1.out.row.cell hlt (show 8 < 9 by decide)
      rw [hdk] at e0 e1 e2 e3 e4 e5 e6 e7 e8
      clear hdk
      simp only [Win.cl, Nat.add_zero, List.getElem?_cons_zero, List.getElem?_cons_succ] at e0 e1 e2 e3 e4 e5 e6 e7 e8
      have kin : (k : Int) < (n : Int) := by omega
      go_wp2_with fail
      refine (refOnTime_any x fr up _).mono ?_
      rintro en w2 ⟨rfl, hb2⟩
      have HR2 := Lib.hid (HR1.out.below hb2)
      have HB2 := Lib.hid (bnext HB.out hb2)
      have hs2 := hb2.size
      clear hb2 HR1 HB e0 e1 e2 e3 e4 e5 e6 e7 e8
      cases hon : onT fr up x
      · have ho : (decide (fr < x.e) && decide (x.e ≤ up)) = false := hon
        have HON := Lib.hid hon
        clear hon
        rw [ho]
        clear ho
        go_wp2_with fail
        go_roundw
        case rel =>
          refine ⟨k + 1, d, P, by go_num, by omega, HR2.out, HH.out.off HX.out HON.out, ?_, HB2.out⟩
          rw [take_snoc HX.out, pansL_snoc, if_neg (by rw [HON.out]; simp), List.append_nil]
          exact HO.out
        case measure => simp [intOf]; omega
      · have ho : (decide (fr < x.e) && decide (x.e ≤ up)) = true := hon
        have HON := Lib.hid hon
        clear hon
        rw [ho]
        clear ho
        go_wp2_with fail
        generalize hh : w2.heap.size = h
        refine wp_at (fun wc => Rm wc w.heap.size gA n c d u13 P ∧ Blk wc h 37 noPane.toArray ∧ Below w.heap.size w wc ∧ wc.heap.size = h + 1 ∧ (∀ g, u13.ownBlock = some g → g < h)) ⟨HR2.out.alloc _, by subst hh; exact Blk_new _ _ _, by have hB := HB2.out; go_grown, by simp [hh], fun g hg => by subst hh; exact (own_at HR2.out.own hg).choose_spec.2.2.2.2⟩ ?_
        clear HR2 HB2 hgb hga hsz hs2 hh
        intro wc ⟨hR, hP, hB, hz, hvl⟩
        have HVL := Lib.hid hvl
        have HR3 := Lib.hid hR
        have HP3 := Lib.hid hP
        have HB3 := Lib.hid hB
        have HZ3 := Lib.hid hz
        have lp := hP.lt
        have fp := hP.free
        have cc := hR.cfg.cell
        have hgA : gA < h := by have h1 := hR.row.lt; have h2 := hR.row.ne hP (by decide); omega
        have hgB : w.heap.size < h := by have := hB.size; have := HA.out; omega
        have fA := hR.row.free
        have hdk : d k = x := by rw [HH.out k x HX.out, if_neg (Nat.lt_irrefl _)]
        have e0 := hR.row.cell hlt (show 0 < 9 by decide)
        have e1 := hR.row.cell hlt (show 1 < 9 by decide)
        have e2 := hR.row.cell hlt (show 2 < 9 by decide)
        have e3 := hR.row.cell hlt (show 3 < 9 by decide)
        have e4 := hR.row.cell hlt (show 4 < 9 by decide)
        have e5 := hR.row.cell hlt (show 5 < 9 by decide)
        have e6 := hR.row.cell hlt (show 6 < 9 by decide)
        have e7 := hR.row.cell hlt (show 7 < 9 by decide)
        have e8 := hR.row.cell hlt (show 8 < 9 by decide)
        rw [hdk] at e0 e1 e2 e3 e4 e5 e6 e7 e8
        simp only [Win.cl, Nat.add_zero, List.getElem?_cons_zero, List.getElem?_cons_succ] at e0 e1 e2 e3 e4 e5 e6 e7 e8
        clear hR hP hB hz hdk hvl
        (refine region_keep (fun q => q < h) 14 [(0, true), (1, true), (2, true), (3, true), (4, true), (5, true), (6, true), (7, true), (8, true), (9, false), (10, true), (11, true), (12, true), (13, false)] (by kernel_rfl) (fun _ _ d _ _ h => by cases d <;> exact h) (by kernel_rfl) ?_; simp only [withOps, List.getElem?_toArray, List.getElem?_cons_zero, List.getElem?_cons_succ, List.drop_succ_cons, List.drop_zero])
        (iterate 9 (refine keep_quiet (v := ?_) rfl ?_ ?_; rotate_left; (focus (intro w' hw'; go_simp; (try with_reducible rfl); done)); try simp only [Act.put, List.setIfInBounds_toArray, List.set_cons_zero, List.set_cons_succ]))
        refine plan_loud (fun K hK => ?_)
        go_simp
        obtain ⟨y, hy⟩ : ∃ y, y = told x c.di := ⟨_, rfl⟩
        have HY := Lib.hid hy
        refine (refTell_y key x y c.di _ HXO.out hy).mono ?_
        clear hy
        rintro en w4 ⟨rfl, hb4⟩
        have hs4 : wc.heap.size ≤ w4.heap.size := hb4.size
        refine hK _ _ ((Keep.refl _ _).below hb4 (fun q hq => by have := HZ3.out; simp; omega)) ?_
        clear hK K
        (try simp only [Act.put, List.setIfInBounds_toArray, List.set_cons_zero, List.set_cons_succ])
        (iterate 3 (refine keep_quiet (v := ?_) rfl ?_ ?_; rotate_left; (focus (intro w' hw'; go_simp; (try with_reducible rfl); done)); try simp only [Act.put, List.setIfInBounds_toArray, List.set_cons_zero, List.set_cons_succ]))
        have HR4 := Lib.hid (HR3.out.below (show Below wc.heap.size wc w4 from bnext (by go_grown) hb4))
        have HP4 := Lib.hid (HP3.out.below (show Below wc.heap.size wc w4 from bnext (by go_grown) hb4))
        have HB4 := Lib.hid (show Below w.heap.size w w4 by have hB := HB3.out; exact bnext (by go_grown) hb4)
        clear hb4 lp fp cc fA e0 e1 e2 e3 e4 e5 e6 e7 e8 HR3 HP3 HB3
        have lp := HP4.out.lt
        have fp := HP4.out.free
        have p0 : w4.cell? ⟨h, 0, none⟩ = some (.string .empty) := HP4.out.cell 0
        have p1 : w4.cell? ⟨h, 1, none⟩ = some (.int .i64 0) := HP4.out.cell 1
        have p2 : w4.cell? ⟨h, 2, none⟩ = some (.int .i64 0) := HP4.out.cell 2
        have p3 : w4.cell? ⟨h, 3, none⟩ = some (.int .i64 0) := HP4.out.cell 3
        have p4 : w4.cell? ⟨h, 4, none⟩ = some (.int .i64 0) := HP4.out.cell 4
        have p5 : w4.cell? ⟨h, 5, none⟩ = some (.int .i64 0) := HP4.out.cell 5
        have p6 : w4.cell? ⟨h, 6, none⟩ = some (.int .i64 0) := HP4.out.cell 6
        have p7 : w4.cell? ⟨h, 7, none⟩ = some (.int .i64 0) := HP4.out.cell 7
        have p8 : w4.cell? ⟨h, 8, none⟩ = some (.int .i64 0) := HP4.out.cell 8
        have fA := HR4.out.row.free
        have lA := HR4.out.row.lt
        have neA : gA ≠ h := by omega
        have neP : u13.ownBlock ≠ some h := fun hg => Nat.lt_irrefl _ (HVL.out h hg)
        clear HXO
        refine plan_loud (fun K hK => ?_)
        go_simp
        with_reducible refine hK _ _ ?_ ?_
        · have hT := setPa_lt w4 h ⟨key, x.s, x.e, 2, x.pa, x.c, x.su, x.mi, x.ma⟩
          exact hT
        clear hK K
        (try simp only [Act.put, List.setIfInBounds_toArray, List.set_cons_zero, List.set_cons_succ])
        refine plan_end ?_
        with_reducible refine mk_list_at (fun Z => Rm Z w.heap.size gA n c d u13 P ∧ Blk Z h 37 (Pa.mk key x.s x.e 2 x.pa x.c x.su x.mi x.ma).cells.toArray ∧ Below w.heap.size w Z ∧ w4.heap.size ≤ Z.heap.size) ?_ ?_
        · have hT := Rm.boxed ⟨key, x.s, x.e, 2, x.pa, x.c, x.su, x.mi, x.ma⟩ HR4.out HP4.out HB4.out neA hgB neP
          exact hT
        clear lp fp fA lA p0 p1 p2 p3 p4 p5 p6 p7 p8 HR4 HP4 HB4 hs4
        intro wd hwd
        have hR := hwd.1
        have hP := hwd.2.1
        have hB := hwd.2.2.1
        have hz := hwd.2.2.2
        clear hwd
        have HR4 := Lib.hid hR
        have HP4 := Lib.hid hP
        have HB4 := Lib.hid hB
        have fA := hR.row.free
        have lA := hR.row.lt
        clear hR hP hB hz
        have hdk : d k = x := by rw [HH.out k x HX.out, if_neg (Nat.lt_irrefl _)]
        have e0 := HR4.out.row.cell hlt (show 0 < 9 by decide)
        have e1 := HR4.out.row.cell hlt (show 1 < 9 by decide)
        have e2 := HR4.out.row.cell hlt (show 2 < 9 by decide)
        have e3 := HR4.out.row.cell hlt (show 3 < 9 by decide)
        have e4 := HR4.out.row.cell hlt (show 4 < 9 by decide)
        have e5 := HR4.out.row.cell hlt (show 5 < 9 by decide)
        have e6 := HR4.out.row.cell hlt (show 6 < 9 by decide)
        have e7 := HR4.out.row.cell hlt (show 7 < 9 by decide)
        have e8 := HR4.out.row.cell hlt (show 8 < 9 by decide)
        rw [hdk] at e0 e1 e2 e3 e4 e5 e6 e7 e8
        simp only [Win.cl, Nat.add_zero, List.getElem?_cons_zero, List.getElem?_cons_succ] at e0 e1 e2 e3 e4 e5 e6 e7 e8
        clear hdk
        go_upto_region 9 with (fail)
        refine wp_at (fun Z => Rm Z w.heap.size gA n c (fun t => if t = k then y else d t) u13 P ∧ Blk Z h 37 (Pa.mk key x.s x.e 2 x.pa x.c x.su x.mi x.ma).cells.toArray ∧ Below w.heap.size w Z ∧ wd.heap.size ≤ Z.heap.size) ?_ ?_
        · have hT := Rm.turned y HR4.out HP4.out HB4.out neA HA.out hlt
          exact hT
        clear fA lA e0 e1 e2 e3 e4 e5 e6 e7 e8 HR4 HP4 HB4
        intro we ⟨hR, hP, hB, hz⟩
        have HR5 := Lib.hid hR
        have HP5 := Lib.hid hP
        have HB5 := Lib.hid hB
        have cp := hP.cell
        have lp := hP.lt
        have hPl : P.length ≤ k := by rw [Ordered.same HO.out]; exact Nat.le_trans pansL_len (by simp; omega)
        clear hR hP hB hz
        apply wp_region_lit
        iterate 3 (go_step; go_step; rename_i KK hKK; (with_reducible refine hKK _ _ ?_); clear hKK KK)
        refine append_rd rfl (.tmp 49) (.tmp 51) 46 37 _ 9 80 info37 Try.underlying46 rfl (by omega) rfl (w.heap.size + 1) u13 P.length (P.flatMap Pa.cells) rfl (HR5.out.own.alloc _) (some ⟨we.heap.size, 0, none⟩) 1 1 (Pa.mk key x.s x.e 2 x.pa x.c x.su x.mi x.ma).cells rfl (fun h => by cases h) rfl ?_ (fun u hu => Pa.one (l := [Pa.mk key x.s x.e 2 x.pa x.c x.su x.mi x.ma]) u (by simpa using hu)) (by unfold maxLen; omega) (by omega) (by have := HB5.out.size; simp; omega) ?_
        · exact .inr ⟨we.heap.size, 0, rfl, by simp, fun j u hu => by
            rw [Nat.zero_add]
            have hb : Blk (we.alloc (.cells (Pa.mk key x.s x.e 2 x.pa x.c x.su x.mi x.ma).cells.toArray 37 (0, 0))) we.heap.size 37 (Pa.mk key x.s x.e 2 x.pa x.c x.su x.mi x.ma).cells.toArray := heap_at rfl
            exact (hb.cell j).trans (by simpa using hu)⟩
        intro v6 w6 ho6 hg6 hv6
        have hfac := Rm.more HR5.out HP5.out HB5.out HVL.out ho6 hg6 hv6
        clear ho6 hg6 hv6 cp lp HR5 HP5 HB5
        generalize hm : P.length = m at hfac hPl
        obtain ⟨g, pc, d1, rfl, f1, f2, f3, f4, f5, f6, f7, f8, f9, f10, f11⟩ := hfac
        have HM := Lib.hid hm
        have HR6 := Lib.hid f1
        have HRW := Lib.hid f2
        have HSG := Lib.hid f3
        have HD1 := Lib.hid f4
        have HP6 := Lib.hid f5
        have HB6 := Lib.hid f6
        have HNE := Lib.hid (And.intro f7 (And.intro f8 (And.intro f9 f10)))
        have HBK := Lib.hid f11
        clear hm f1 f2 f3 f4 f5 f6 f7 f8 f9 f10 f11
        go_wp2_with fail
        go_loopw [16] (fun vj wq => ∃ (j : Nat) (d2 : Nat → Pa), vj = .int .i64 j ∧ j ≤ m ∧ Row wq g (m + 1) d2 ∧ Rot d1 d2 j m (m + 1) ∧ (∀ q, j ≤ q → q < m → (d1 m).e < (d1 q).e) ∧ Fr (fun b => b = g) w6 wq) (fun vj _ => (intOf vj).toNat)
        case atStart => exact ⟨m, d1, by go_num, Nat.le_refl _, HRW.out, Rot.none (Nat.le_refl _) (Nat.le_succ _) (.inl rfl), fun q h1 h2 => by omega, Fr.refl _ _⟩
        case round =>
          rename World => wq
          obtain ⟨j, d2, rfl, hjm, hR2, hRot, hG, hF⟩ := hrel
          have HR2 := Lib.hid hR2
          have HRo := Lib.hid hRot
          have HG := Lib.hid hG
          have HF := Lib.hid hF
          clear hR2 hRot hG hF
          have HPq := Lib.hid (show Blk wq h 37 (Pa.mk key x.s x.e 2 x.pa x.c x.su x.mi x.ma).cells.toArray from (HF.out.block h HP6.out.lt (Ne.symm HNE.out.1)).trans HP6.out)
          have FIN := Lib.hid (show ∀ Z, Below wq.heap.size wq Z → (j = 0 ∨ (d1 (j - 1)).e ≤ (d1 m).e) → ∃ (k' : Nat) (d' : Nat → Win) (P' : List Pa), (Value.int .i64 ((k : Int) + 1) = .int .i64 k' ∧ k' ≤ n ∧ Rm Z w.heap.size gA n c d' (.slice (some ⟨g, 0, none⟩) (m + 1) pc) P' ∧ Half L fr up c.di k' d' ∧ Ordered P' (pansL key fr up (L.take k')) ∧ Below w.heap.size w Z) ∧ k' = k + 1 from fun Z hZ hlo => by
            have hOl := HO.out.put HM.out (by rw [HD1.out]; exact HSG.out) hjm HRo.out hlo HG.out
            have hFZ : Fr (fun b => b = g) w6 Z := HF.out.trans (Fr.next hZ)
            have hB6 := HB6.out
            have h6 := HR6.out
            have hlen : (seg d2 0 (m + 1)).length = m + 1 := by rw [seg_len]; omega
            refine ⟨k + 1, _, seg d2 0 (m + 1), ⟨by go_num, by omega, ⟨h6.row.keep (hFZ.block _ h6.row.lt (Ne.symm HNE.out.2.1)), (hFZ.block _ h6.cfg.lt (Ne.symm HNE.out.2.2.1)).trans h6.cfg, ?_⟩, ?_, ?_, hB6.trans (hFZ.below (fun q hq => by have := HNE.out.2.2.2; omega) hB6.size)⟩, rfl⟩
            · rw [hlen]
              exact HBK.out Z d2 (HR2.out.below hZ) (rot_high HRo.out)
            · rw [HY.out]; exact HH.out.on HX.out HON.out
            · rw [take_snoc HX.out, pansL_snoc, if_pos HON.out]
              rw [HD1.out] at hOl
              exact hOl)
          rcases Nat.eq_zero_or_pos j with hj0 | hj0
          · subst hj0
            go_wp2_with fail
            (refine region_keep (fun _ => True) 13 [(0, true), (1, true), (2, true), (3, true), (4, true), (5, true), (6, true), (7, true), (8, true), (9, true), (10, true), (11, true), (12, true)] (by kernel_rfl) (fun _ _ d _ _ h => by cases d <;> exact h) (by kernel_rfl) ?_; simp only [withOps, List.getElem?_toArray, List.getElem?_cons_zero, List.getElem?_cons_succ, List.drop_succ_cons, List.drop_zero])
            (iterate 3 (refine keep_quiet (v := ?_) rfl ?_ ?_; rotate_left; (focus (intro w' hw'; go_simp; (try with_reducible rfl); done)); try simp only [Act.put, List.setIfInBounds_toArray, List.set_cons_zero, List.set_cons_succ]))
            (iterate 10 ((with_reducible refine plan_skip ?_ ?_); (focus rfl); try simp only [Act.put, List.setIfInBounds_toArray, List.set_cons_zero, List.set_cons_succ]))
            refine plan_end ?_
            (try simp only [Act.put, List.setIfInBounds_toArray, List.set_cons_zero, List.set_cons_succ])
            go_wp2_with fail
            go_roundw
            case rel =>
              obtain ⟨k', d', P', hh, hk'⟩ := FIN.out wq.drew ((Below.refl _ _).drew) (by simp)
              exact ⟨k', d', P', hh⟩
            case measure => simp [intOf]; omega
          · obtain ⟨p, hp⟩ : ∃ p, j - 1 = p := ⟨_, rfl⟩
            have ep : (j : Int) - 1 = (p : Int) := by omega
            have HPj := Lib.hid hp
            have hxN : j < m + 1 := by omega
            have hyN : p < m + 1 := by omega
            have hxy : j ≠ p := by omega
            have xi : (j : Int) < ((m : Int) + 1) := by omega
            have yi : (p : Int) < ((m : Int) + 1) := by omega
            have j0 : (0 : Int) < (j : Int) := by omega
            clear hp
            have wx := wrap_nat (show j ≤ 4611686018427387904 by omega)
            have wy := wrap_nat (show p ≤ 4611686018427387904 by omega)
            have lg := HR2.out.lt
            have fg := HR2.out.free
            have lh := HPq.out.lt
            have q2 : wq.cell? ⟨h, 2, none⟩ = some (.int .i64 x.e) := HPq.out.cell 2
            have x0 := HR2.out.cell hxN (show 0 < 9 by decide)
            have x1 := HR2.out.cell hxN (show 1 < 9 by decide)
            have x2 := HR2.out.cell hxN (show 2 < 9 by decide)
            have x3 := HR2.out.cell hxN (show 3 < 9 by decide)
            have x4 := HR2.out.cell hxN (show 4 < 9 by decide)
            have x5 := HR2.out.cell hxN (show 5 < 9 by decide)
            have x6 := HR2.out.cell hxN (show 6 < 9 by decide)
            have x7 := HR2.out.cell hxN (show 7 < 9 by decide)
            have x8 := HR2.out.cell hxN (show 8 < 9 by decide)
            simp only [Pa.cells, Nat.add_zero, List.getElem?_cons_zero, List.getElem?_cons_succ] at x0 x1 x2 x3 x4 x5 x6 x7 x8
            have y0 := HR2.out.cell hyN (show 0 < 9 by decide)
            have y1 := HR2.out.cell hyN (show 1 < 9 by decide)
            have y2 := HR2.out.cell hyN (show 2 < 9 by decide)
            have y3 := HR2.out.cell hyN (show 3 < 9 by decide)
            have y4 := HR2.out.cell hyN (show 4 < 9 by decide)
            have y5 := HR2.out.cell hyN (show 5 < 9 by decide)
            have y6 := HR2.out.cell hyN (show 6 < 9 by decide)
            have y7 := HR2.out.cell hyN (show 7 < 9 by decide)
            have y8 := HR2.out.cell hyN (show 8 < 9 by decide)
            simp only [Pa.cells, Nat.add_zero, List.getElem?_cons_zero, List.getElem?_cons_succ] at y0 y1 y2 y3 y4 y5 y6 y7 y8
            go_wp2_with fail
            have h1n : decide (0 < j) = true := decide_eq_true hj0
            (refine region_keep (fun _ => True) 13 [(0, true), (1, true), (2, true), (3, true), (4, true), (5, true), (6, true), (7, true), (8, true), (9, true), (10, true), (11, true), (12, true)] (by kernel_rfl) (fun _ _ d _ _ h => by cases d <;> exact h) (by kernel_rfl) ?_; simp only [withOps, List.getElem?_toArray, List.getElem?_cons_zero, List.getElem?_cons_succ, List.drop_succ_cons, List.drop_zero])
            (iterate 3 (refine keep_quiet (v := ?_) rfl ?_ ?_; rotate_left; (focus (intro w' hw'; go_simp; (try with_reducible rfl); done)); try simp only [Act.put, List.setIfInBounds_toArray, List.set_cons_zero, List.set_cons_succ]))
            (try simp only [h1n])
            (iterate 10 (refine keep_quiet (v := ?_) rfl ?_ ?_; rotate_left; (focus (intro w' hw'; go_simp; (try with_reducible rfl); done)); try simp only [Act.put, List.setIfInBounds_toArray, List.set_cons_zero, List.set_cons_succ]))
            refine plan_end ?_
            (try simp only [Act.put, List.setIfInBounds_toArray, List.set_cons_zero, List.set_cons_succ])
            by_cases hc : x.e < (d2 p).e
            · go_upto_region 14 with (fail)
              refine wp_at (fun Z => Row Z g (m + 1) (fun t => if t = j then d2 p else d2 t) ∧ Blk Z h 37 (Pa.mk key x.s x.e 2 x.pa x.c x.su x.mi x.ma).cells.toArray ∧ Fr (fun b => b = g) wq Z) ?_ ?_
              · have hT := Row.puth (q := d2 p) HR2.out HPq.out HNE.out.1 hxN
                exact hT
              clear lg fg lh q2 x0 x1 x2 x3 x4 x5 x6 x7 x8 y0 y1 y2 y3 y4 y5 y6 y7 y8
              intro Z ⟨hRZ, hPZ, hFZ⟩
              have HRZ := Lib.hid hRZ
              have HPZ := Lib.hid hPZ
              have HFZ := Lib.hid hFZ
              have lz := hRZ.lt
              have fz := hRZ.free
              have lh := hPZ.lt
              have cp := hPZ.cell
              clear hRZ hPZ hFZ
              have hyp : (fun t => if t = j then d2 p else d2 t) p = d2 p := if_neg (Ne.symm hxy)
              have z0 := HRZ.out.cell hyN (show 0 < 9 by decide)
              have z1 := HRZ.out.cell hyN (show 1 < 9 by decide)
              have z2 := HRZ.out.cell hyN (show 2 < 9 by decide)
              have z3 := HRZ.out.cell hyN (show 3 < 9 by decide)
              have z4 := HRZ.out.cell hyN (show 4 < 9 by decide)
              have z5 := HRZ.out.cell hyN (show 5 < 9 by decide)
              have z6 := HRZ.out.cell hyN (show 6 < 9 by decide)
              have z7 := HRZ.out.cell hyN (show 7 < 9 by decide)
              have z8 := HRZ.out.cell hyN (show 8 < 9 by decide)
              simp only [Pa.cells, Nat.add_zero, List.getElem?_cons_zero, List.getElem?_cons_succ] at z0 z1 z2 z3 z4 z5 z6 z7 z8
              go_upto_region 12 with (fail)
              refine wp_at (fun Y => Row Y g (m + 1) (fun t => if t = p then (Pa.mk key x.s x.e 2 x.pa x.c x.su x.mi x.ma) else (fun t => if t = j then d2 p else d2 t) t) ∧ Fr (fun b => b = g) Z Y) ?_ ?_
              · have hT := Row.puts (q := (Pa.mk key x.s x.e 2 x.pa x.c x.su x.mi x.ma)) HRZ.out HPZ.out HNE.out.1 hyN
                exact hT
              clear lz fz lh cp z0 z1 z2 z3 z4 z5 z6 z7 z8
              intro Y ⟨hRY, hFY⟩
              have HRY := Lib.hid hRY
              have HFY := Lib.hid hFY
              clear hRY hFY
              have HC := Lib.hid hc
              clear hc
              go_wp2_with fail
              go_roundw
              case rel =>
                have hpj := HPj.out
                refine ⟨p, _, by go_num, by omega, HRY.out, ?_, fun q h1 h2 => ?_, HF.out.trans (HFZ.out.trans (HFY.out.trans (Fr.next (by go_grown))))⟩
                · have hs := Swp.of (d := d2) (x := j) (y := p) rfl hxy
                  rw [rot_self HRo.out hjm, HD1.out] at hs
                  have hj : j = p + 1 := by omega
                  have hr := HRo.out
                  rw [hj] at hr hs
                  rw [hj]
                  exact hr.right (by omega) hs
                · by_cases e : q = p
                  · subst e
                    have h4 := HC.out
                    rw [rot_low HRo.out (by omega)] at h4
                    rw [HD1.out]
                    exact h4
                  · exact HG.out q (by omega) h2
              case measure => simp [intOf]; omega
            · go_wp2_with fail
              go_roundw
              case rel =>
                have hpj := HPj.out
                have h4 : (d1 (j - 1)).e ≤ (d1 m).e := by
                  rw [HD1.out, hpj, ← rot_low HRo.out (show p < j by omega)]
                  exact Int.not_lt.1 hc
                obtain ⟨k', d', P', hh, hk'⟩ := FIN.out wq.drew ((Below.refl _ _).drew) (.inr h4)
                exact ⟨k', d', P', hh⟩
              case measure => simp [intOf]; omega
    · obtain rfl : k = n := by omega
      have HT := Lib.hid (show Half L fr up c.di k d from HH.out)
      have HO2 := Lib.hid (show Ordered P (pansL key fr up L) by have h := HO.out; rwa [List.take_of_length_le (by rw [HL.out]; exact Nat.le_refl _)] at h)
      have HBw := Lib.hid HB.out
      have HRw := Lib.hid HR1.out
      clear HO HH HB HR1
      have kin : ¬ (k : Int) < (k : Int) := by omega
      go_wp2_with fail
      go_loopw [17, 18] (fun vo vi wz => ∃ (i : Nat), vi = .int .i64 i ∧ i ≤ k ∧ wz.ownsRow wr.heap.size 30 9 vo (outsL c fr up (L.take i)).length ((outsL c fr up (L.take i)).flatMap Win.cl) ∧ Below wr.heap.size wr wz) (fun _ vi _ => k - (intOf vi).toNat)
      case atStart => exact ⟨0, rfl, Nat.zero_le _, World.ownsRow_nil _ _ _ _, by go_grown⟩
      case round =>
        rename World => wz
        obtain ⟨i, rfl, hik, hO3, hZ⟩ := hrel
        have HO3 := Lib.hid hO3
        have HZ := Lib.hid hZ
        have HRz := Lib.hid (HRw.out.below hZ)
        clear hO3 hZ
        have hsz2 := HZ.out.size
        have lA := HRz.out.row.lt
        have lC := HRz.out.cfg.lt
        rcases Nat.lt_or_ge i k with hlt2 | hge2
        · obtain ⟨x, hx⟩ : ∃ x, L[i]? = some x := ⟨_, List.getElem?_eq_getElem (by rw [HL.out]; exact hlt2)⟩
          have HX := Lib.hid hx
          have HXO := Lib.hid (HOK.out x (List.mem_of_getElem? hx))
          obtain ⟨y, hy⟩ : ∃ y, y = twin fr up c.di x := ⟨_, rfl⟩
          have HY := Lib.hid hy
          have hdi : d i = y := by rw [HT.out i x hx, if_pos hlt2, hy]
          have hys : y.s = x.s := by rw [hy]; unfold twin; split <;> rfl
          have hye : y.e = x.e := by rw [hy]; unfold twin; split <;> rfl
          clear hx hy
          have e0 := HRz.out.row.cell hlt2 (show 0 < 9 by decide)
          have e1 := HRz.out.row.cell hlt2 (show 1 < 9 by decide)
          have e2 := HRz.out.row.cell hlt2 (show 2 < 9 by decide)
          have e3 := HRz.out.row.cell hlt2 (show 3 < 9 by decide)
          have e4 := HRz.out.row.cell hlt2 (show 4 < 9 by decide)
          have e5 := HRz.out.row.cell hlt2 (show 5 < 9 by decide)
          have e6 := HRz.out.row.cell hlt2 (show 6 < 9 by decide)
          have e7 := HRz.out.row.cell hlt2 (show 7 < 9 by decide)
          have e8 := HRz.out.row.cell hlt2 (show 8 < 9 by decide)
          rw [hdi] at e0 e1 e2 e3 e4 e5 e6 e7 e8
          clear hdi
          simp only [Win.cl, Nat.add_zero, List.getElem?_cons_zero, List.getElem?_cons_succ] at e0 e1 e2 e3 e4 e5 e6 e7 e8
          rw [hys] at e0
          rw [hye] at e1
          have cc := HRz.out.cfg.cell
          have iin : (i : Int) < (k : Int) := by omega
          go_wp2_with fail
          (refine region_keep (fun _ => True) 8 [(0, true), (1, true), (2, true), (3, true), (4, true), (5, true), (6, true), (7, true)] (by kernel_rfl) (fun _ _ d _ _ h => by cases d <;> exact h) (by kernel_rfl) ?_; simp only [withOps, List.getElem?_toArray, List.getElem?_cons_zero, List.getElem?_cons_succ, List.drop_succ_cons, List.drop_zero])
          (iterate 8 (refine keep_quiet (v := ?_) rfl ?_ ?_; rotate_left; (focus (intro w' hw'; go_simp; (try with_reducible rfl); done)); try simp only [Act.put, List.setIfInBounds_toArray, List.set_cons_zero, List.set_cons_succ]))
          refine plan_end ?_
          (try simp only [Act.put, List.setIfInBounds_toArray, List.set_cons_zero, List.set_cons_succ])
          go_wp2_with fail
          refine (refOver_any x.s x.e c.la up _ HXO.out.2.1 HI.out.1 HI.out.2).mono ?_
          rintro en w4 ⟨rfl, hb4⟩
          have hZ4 : Below wr.heap.size wr w4 := by have hZ := HZ.out; exact bnext (by go_grown) hb4
          have HZ4 := Lib.hid hZ4
          have HR4 := Lib.hid (HRw.out.below hZ4)
          have HO4 := Lib.hid (owns_keep (w' := w4) HO3.out (fun g _ hg => by have h := hb4.block g hg; exact h))
          clear hb4 cc e0 e1 e2 e3 e4 e5 e6 e7 e8 HO3 HZ HRz hZ4 hys hye
          cases hov : ovT c.la up x
          · have hvv : decide (x.e + c.la ≤ up) = false := hov
            have HOV := Lib.hid hov
            clear hov
            rw [hvv]
            clear hvv
            have hdi : d i = y := by rw [HT.out i x HX.out, if_pos hlt2, HY.out]
            have lA4 := HR4.out.row.lt
            have e0 := HR4.out.row.cell hlt2 (show 0 < 9 by decide)
            have e1 := HR4.out.row.cell hlt2 (show 1 < 9 by decide)
            have e2 := HR4.out.row.cell hlt2 (show 2 < 9 by decide)
            have e3 := HR4.out.row.cell hlt2 (show 3 < 9 by decide)
            have e4 := HR4.out.row.cell hlt2 (show 4 < 9 by decide)
            have e5 := HR4.out.row.cell hlt2 (show 5 < 9 by decide)
            have e6 := HR4.out.row.cell hlt2 (show 6 < 9 by decide)
            have e7 := HR4.out.row.cell hlt2 (show 7 < 9 by decide)
            have e8 := HR4.out.row.cell hlt2 (show 8 < 9 by decide)
            rw [hdi] at e0 e1 e2 e3 e4 e5 e6 e7 e8
            clear hdi
            simp only [Win.cl, Nat.add_zero, List.getElem?_cons_zero, List.getElem?_cons_succ] at e0 e1 e2 e3 e4 e5 e6 e7 e8
            have hol : (outsL c fr up (L.take i)).length ≤ i := Nat.le_trans outsL_len (by simp; omega)
            go_upto_region 20 with (fail)
            apply wp_region_lit
            iterate 6 (go_step; go_step; rename_i KK hKK; (with_reducible refine hKK _ _ ?_); clear hKK KK)
            refine append_rd rfl (.tmp 102) (.tmp 107) 52 30 _ 9 72 infoW Try.underlying52 rfl (by omega) rfl wr.heap.size u17 _ _ rfl (HO4.out.alloc _) (some ⟨w4.heap.size, 0, none⟩) 1 1 y.cl rfl (fun h => by cases h) rfl ?_ (fun u hu => Win.one (l := [y]) u (by simpa using hu)) (by unfold maxLen; omega) (by omega) (by have := HZ4.out.size; simp; omega) ?_
            · exact .inr ⟨w4.heap.size, 0, rfl, by simp, fun j u hu => by
                rw [Nat.zero_add]
                have hb : Blk (w4.alloc (.cells y.cells 30 (0, 0))) w4.heap.size 30 y.cells := heap_at rfl
                exact (hb.cell j).trans (by simpa using hu)⟩
            intro v5 w5 ho5 hg5 hv5
            have HB5 := Lib.hid ((HZ4.out.trans ((show Below w4.heap.size w4 (w4.alloc (.cells y.cells 30 (0, 0))) by go_grown).mono HZ4.out.size)).grown hg5 (by have := HZ4.out.size; simp; omega) (fun q hq => by have := (own_at HO4.out hq).choose_spec.2.2.2.1; omega))
            have HO5 := Lib.hid (show w5.ownsRow wr.heap.size 30 9 v5 (outsL c fr up (L.take i) ++ [y]).length ((outsL c fr up (L.take i) ++ [y]).flatMap Win.cl) by rw [List.length_append, List.flatMap_append]; simpa using ho5)
            clear ho5 hg5 hv5 e0 e1 e2 e3 e4 e5 e6 e7 e8
            go_wp2_with fail
            go_roundw
            case rel =>
              refine ⟨i + 1, by go_num, by omega, ?_, HB5.out⟩
              rw [take_snoc HX.out, outsL_snoc, if_neg (by rw [HOV.out]; simp), ← HY.out]
              exact HO5.out
            case measure => simp [intOf]; omega
          · have hvv : decide (x.e + c.la ≤ up) = true := hov
            have HOV := Lib.hid hov
            clear hov
            rw [hvv]
            clear hvv
            go_wp2_with fail
            go_roundw
            case rel =>
              refine ⟨i + 1, by go_num, by omega, ?_, HZ4.out⟩
              rw [take_snoc HX.out, outsL_snoc, if_pos HOV.out, List.append_nil]
              exact HO4.out
            case measure => simp [intOf]; omega
        · obtain rfl : i = k := by omega
          have iin : ¬ (i : Int) < (i : Int) := by omega
          have hTk : L.take i = L := List.take_of_length_le (by rw [HL.out]; exact Nat.le_refl _)
          have HO3 := Lib.hid (show wz.ownsRow wr.heap.size 30 9 u17 (outsL c fr up L).length ((outsL c fr up L).flatMap Win.cl) by have h := HO3.out; rwa [hTk] at h)
          clear hTk
          go_wp2_with fail
          go_returns
          exact ⟨_, _, P, rfl, owns_mono HO3.out (Nat.le_trans HBw.out.size (Nat.le_refl _)), owns_mono HRz.out.own (Nat.le_succ _), HO2.out, HBw.out.trans (HZ.out.mono HBw.out.size)⟩
end Go.Proofs.Ytfpomiimloohkaa
