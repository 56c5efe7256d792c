/- FrameBack: the walk. -/
import Derived.Test.YtolbmjilcngnhaaDoorFrRowW
set_option linter.unusedSimpArgs false
set_option linter.unusedVariables false
namespace Go.Frm
open Go
/-- A frame whose last byte is cut off is too short. -/
theorem look_cut (t : UInt8) (l : List UInt8) (hn : l.length ≤ 268435456) : look ((frame t l).take ((frame t l).length - 1)) = (0, 0, 130) := by
  have hfl := frame_len t l
  have e : frame t l = t :: (numB l.length ++ (l ++ Crc.bytes4 (Crc.more 0#32 (head t l)))) := by simp [frame, head]
  have e2 : (frame t l).take ((frame t l).length - 1) = t :: (numB l.length ++ (l ++ Crc.bytes4 (Crc.more 0#32 (head t l)))).take ((frame t l).length - 2) := by
    have h1 : (frame t l).length - 1 = ((frame t l).length - 2) + 1 := by omega
    conv => lhs; rw [h1, e]
    rw [List.take_succ_cons, e]
  have e3 : (numB l.length ++ (l ++ Crc.bytes4 (Crc.more 0#32 (head t l)))).take ((frame t l).length - 2) = numB l.length ++ (l ++ Crc.bytes4 (Crc.more 0#32 (head t l))).take ((frame t l).length - 2 - (numB l.length).length) := by
    rw [List.take_append, List.take_of_length_le (by omega)]
  have hl2 : ((frame t l).take ((frame t l).length - 1)).length = (frame t l).length - 1 := by rw [List.length_take]; omega
  rw [e2, e3] at hl2 ⊢
  rw [look, lenP_numB _ _ hn]
  simp only [ne_eq, not_true_eq_false, if_false]
  rw [if_pos (by omega)]
end Go.Frm
namespace Go.Proofs.YtolbmjilcngnhaaDoor
open Go.RowKit Go.Kp

theorem readF_frame (t : UInt8) (l R : List UInt8) (hn : l.length ≤ 268435456) : readF (Frm.frame t l ++ R) = (t, l, (Frm.frame t l).length, 0) := by
  have h := Frm.look_behind t l R hn
  have hfl := Frm.frame_len t l
  have hd : ((Frm.frame t l ++ R).drop (1 + (Frm.numB l.length).length)).take (1 + (Frm.numB l.length).length + l.length - (1 + (Frm.numB l.length).length)) = l := by
    have e : Frm.frame t l ++ R = (t :: Frm.numB l.length) ++ (l ++ (Crc.bytes4 (Crc.more 0#32 (Frm.head t l)) ++ R)) := by simp [Frm.frame, Frm.head]
    have e2 : 1 + (Frm.numB l.length).length = (t :: Frm.numB l.length).length := by simp; omega
    rw [e, e2, List.drop_left, Nat.add_sub_cancel_left, List.take_left]
  have h0 : (Frm.frame t l ++ R).headD 0 = t := by simp [Frm.frame, Frm.head]
  unfold readF
  rw [h]
  simp only [if_true]
  rw [hd, h0, hfl]
theorem readF_cut (t : UInt8) (l : List UInt8) (hn : l.length ≤ 268435456) : readF ((Frm.frame t l).take ((Frm.frame t l).length - 1)) = (0, [], 0, 130) := by
  unfold readF
  rw [Frm.look_cut t l hn]
  rfl

/-- append of a whole list of blocks. -/
theorem append_blks {w : World} {ops : Array Oper} {rest : List Oper} {o : Oper} {a : Act} {Q : Exit → Act → World → Prop} (hgd : o.guard = none) (s x : Operand)
    (ho : o.op = .call { callee := .builtin .append, args := #[s, x], argTypes := #[43, 43] })
    (lo : Nat) (v : Value) (n : Nat) (xs : List Value) (hs : a.eval s = v) (hR : w.ownsRow lo 35 2 v n xs) (ad : Option Addr) (m c : Nat) (bs : List Bk) (hx : a.eval x = .slice ad m c) (hcz : ad = none → c = 0)
    (hl : bs.length = m) (hr : Rd w w.heap.size ad (bs.flatMap Bk.cells)) (hbv : ∀ x ∈ bs, ∃ a n c, x.v = .slice a n c)
    (hn : n + m ≤ 4398046511104) (hlo : lo ≤ w.heap.size)
    (h : ∀ v' w', w'.ownsRow lo 35 2 v' (n + m) (xs ++ bs.flatMap Bk.cells) → w.grownBy w' v.ownBlock → (v'.ownBlock = v.ownBlock ∨ v'.ownBlock = some w.heap.size) → wpList Tryd.prog ops Q rest (a.put o.dst v') w') :
    wpList Tryd.prog ops Q (o :: rest) a w := by
  obtain ⟨i0, hi, hz0, hz1, hz2⟩ := info_parts info35
  have key : ∀ (ad : Addr), a.eval x = .slice (some ad) m c → (∀ j u, (bs.flatMap Bk.cells)[j]? = some u → w.cell? (ad.add j) = some u) → wpList Tryd.prog ops Q (o :: rest) a w := fun ad hx hc => by
    refine wpList_append_own_at w hgd s x 43 ho lo 35 i0 _ 2 32 Tryd.underlying43 hi hz0 hz1 hz2 rfl (by omega) v n xs hs hR ad m c (bs.flatMap Bk.cells) hx (by rw [flat_length Bk.cells 2 Bk.len, hl]) hc ?_ (by unfold maxLen; omega) (by omega) hlo fun v' w' h1 h2 _ h4 => h v' w' h1 h2 h4
    intro u hu
    obtain ⟨y, hy, hu⟩ := List.mem_flatMap.1 hu
    simp only [Bk.cells, List.mem_cons, List.not_mem_nil, or_false] at hu
    rcases hu with rfl | rfl
    · rfl
    · obtain ⟨a, n, c, e⟩ := hbv y hy
      rw [e]; rfl
  cases ad with
  | none =>
    have h0 : bs = [] := by
      rcases hr with hr | ⟨b, off, h, _⟩
      · have := flat_length Bk.cells 2 Bk.len bs
        rw [hr] at this
        exact List.eq_nil_of_length_eq_zero (by rw [List.length_nil] at this; omega)
      · cases h
    subst h0
    have hcz := hcz rfl
    subst hcz
    simp at hl
    subst hl
    refine wpList_append_own_none hgd s x 43 ho lo 35 i0 2 Tryd.underlying43 hi v n xs hs hR hx ?_
    exact h v w (by simpa using hR) (World.grownBy.refl _ _) (.inl rfl)
  | some ad =>
    refine key ad hx fun j u hu => ?_
    rcases hr with hr | ⟨b, off, h, _, hc⟩
    · rw [hr] at hu; simp at hu
    · cases h
      rw [Go.WideShapes.add_plain]
      exact hc j u hu
theorem rd_form {w : World} {B : Nat} {x : Bk} (h : x.rd w B) : ∃ a n c, x.v = .slice a n c := by
  obtain ⟨a, c, h1, _⟩ := h
  exact ⟨a, _, c, h1⟩

theorem szTo_mono (cs : List Bk) {j k : Nat} (h : j ≤ k) : szTo cs j ≤ szTo cs k := by
  unfold szTo
  have e : cs.take k = cs.take j ++ (cs.drop j).take (k - j) := by
    conv => lhs; rw [show k = j + (k - j) by omega, List.take_add]
  rw [e, List.map_append, Frm.rowB, Frm.rowB, List.flatMap_append, List.length_append]
  omega
theorem own_blks_rd {w : World} {lo : Nat} {v : Value} {n : Nat} {cs : List Bk} (h : w.ownsRow lo 35 2 v n (cs.flatMap Bk.cells)) : ∃ a c, v = .slice a n c ∧ cs.length = n ∧ (a = none → c = 0) ∧ n ≤ c ∧ c ≤ maxLen ∧ Rd w w.heap.size a (cs.flatMap Bk.cells) := by
  have hl : cs.length = n := by
    have := h.1
    rw [flat_length Bk.cells 2 Bk.len] at this
    omega
  obtain ⟨a, c, hv, h1, h2, h3⟩ := own_slice h
  refine ⟨a, c, hv, hl, h3, h1, h2, ?_⟩
  rcases Nat.eq_zero_or_pos n with h0 | h0
  · obtain rfl := List.eq_nil_of_length_eq_zero (hl.trans h0)
    exact .inl rfl
  · obtain ⟨g, c', cs', e, _, hg, hB, _, _, _, hc⟩ := own_row h h0
    rw [hv] at e
    cases e
    exact .inr ⟨g, 0, rfl, hg, fun j u hu => by rw [Nat.zero_add]; exact (hB.cell j).trans (hc j u hu)⟩

set_option maxRecDepth 100000 in
set_option maxHeartbeats 8000000 in
theorem backs (a a' a2 : Option Addr) (na ca nb cb nh ch : Nat) (xs ys : List Bk) (lh : List UInt8) (w : World) (hT : Tab w) (hla : xs.length = na) (hna : na ≤ 1048576) (hra : Rd w w.heap.size a (xs.flatMap Bk.cells)) (hba : ∀ x ∈ xs, x.rd w w.heap.size ∧ x.l.length ≤ 140737488351232) (hca : a = none → ca = 0)
    (hlb : ys.length = nb) (hnb : nb ≤ 1048576) (hrb : Rd w w.heap.size a' (ys.flatMap Bk.cells)) (hbb : ∀ x ∈ ys, x.rd w w.heap.size ∧ x.l.length ≤ 140737488351232) (hcb : a' = none → cb = 0)
    (hlh : lh.length = nh) (hnh : nh ≤ 140737488351232) (hrh : Rd w w.heap.size a2 (lh.map B8)) (hch : a2 = none → ch = 0) :
    Calls Tryd.prog 9 #[.slice a na ca, .slice a' nb cb, .slice a2 nh ch] w (Ret (.bool true) w) := by
  have HT := Lib.hid hT
  have HLA := Lib.hid hla
  have HRA := Lib.hid hra
  have HLB := Lib.hid hlb
  have HRB := Lib.hid hrb
  have HLH := Lib.hid hlh
  have HRH := Lib.hid hrh
  have HCA := Lib.hid hca
  have HCB := Lib.hid hcb
  have HCH := Lib.hid hch
  obtain ⟨cs, hcs⟩ : ∃ cs, xs ++ ys = cs := ⟨_, rfl⟩
  have HCS := Lib.hid hcs
  have HCL := Lib.hid (show cs.length = na + nb by rw [← hcs, List.length_append, hla, hlb])
  have HBD := Lib.hid (show ∀ x ∈ cs, x.rd w w.heap.size ∧ x.l.length ≤ 140737488351232 from fun x hx => by
    rw [← hcs] at hx
    rcases List.mem_append.1 hx with hx | hx
    · exact hba x hx
    · exact hbb x hx)
  have HFA := Lib.hid (show ∀ x ∈ xs, ∃ a n c, x.v = .slice a n c from fun x hx => rd_form (hba x hx).1)
  have HFB := Lib.hid (show ∀ x ∈ ys, ∃ a n c, x.v = .slice a n c from fun x hx => rd_form (hbb x hx).1)
  have HBA := Lib.hid (fun x hx => (hba x hx).1)
  have HBB := Lib.hid (fun x hx => (hbb x hx).1)
  clear hT hla hra hlb hrb hlh hrh hca hcb hch hcs hba hbb
  go_enter Tryd.func9, Tryd.ntmps9
  go_wp2_with fail
  go_loopw [7, 8] (fun s i wr => ∃ (k sm : Nat), k ≤ na + nb ∧ i = .int .i64 k ∧ s = .int .i64 sm ∧ sm ≤ 100000 ∧ szTo cs k ≤ sm ∧ (0 < k → na + nb ≤ 200) ∧ Below w.heap.size w wr) (fun _ i _ => na + nb - (intOf i).toNat)
  case atStart => exact ⟨0, 0, Nat.zero_le _, rfl, rfl, by omega, by simp [szTo, Frm.rowB], (fun h => absurd h (by omega)), by go_grown⟩
  case round =>
    obtain ⟨k, sm, hk, rfl, rfl, hsm, hsz, h200, hB⟩ := hrel
    have HSZ := Lib.hid hsz
    have H200 := Lib.hid h200
    have HSM := Lib.hid hsm
    have sB := hB.size
    clear hsz h200
    rcases Nat.lt_or_ge k (na + nb) with hlt | hge
    · obtain ⟨x, hx⟩ : ∃ x, cs[k]? = some x := ⟨_, List.getElem?_eq_getElem (by rw [HCL.out]; exact hlt)⟩
      have HXS := Lib.hid (szTo_succ cs k x hx)
      obtain ⟨⟨xa, xc, hxv, hxn, hxr⟩, hxl⟩ := HBD.out x (List.mem_of_getElem? hx)
      have HX := Lib.hid hx
      have HXV := Lib.hid hxv
      have HXN := Lib.hid hxn
      have HXR := Lib.hid hxr
      clear hx hxv hxn hxr
      have hlt' : (k : Int) < (na : Int) + (nb : Int) := by omega
      go_upto_region 5 with (fail)
      apply wp_region_lit
      iterate 1 (go_step; go_step; rename_i KK hKK; (with_reducible refine hKK _ _ ?_); clear hKK KK)
      (with_reducible refine append_blks ?_ (.const (.slice none 0 0)) (.tmp 35) ?_ w.heap.size (.slice none 0 0) 0 [] ?_ (World.ownsRow_nil _ _ _ _) a na ca xs ?_ HCA.out HLA.out ((HRA.out.below hB).more sB) HFA.out ?_ sB ?_)
      · rfl
      · rfl
      · rfl
      · rfl
      · omega
      intro v1 w1 ho1 hg1 _
      rw [Nat.zero_add, List.nil_append] at ho1
      have hB1 : Below w.heap.size w w1 := hB.grown hg1 sB (fun kk hkk => by simp [Value.ownBlock] at hkk)
      have HO1 := Lib.hid ho1
      have s1 := hB1.size
      clear ho1 hg1
      iterate 1 (go_step; go_step; rename_i KK hKK; (with_reducible refine hKK _ _ ?_); clear hKK KK)
      (with_reducible refine append_blks ?_ (.tmp 36) (.tmp 37) ?_ w.heap.size v1 na (xs.flatMap Bk.cells) ?_ HO1.out a' nb cb ys ?_ HCB.out HLB.out ((HRB.out.below hB1).more s1) HFB.out ?_ s1 ?_)
      · rfl
      · rfl
      · rfl
      · rfl
      · omega
      intro v2 w2 ho2 hg2 _
      have hB2 : Below w.heap.size w w2 := hB1.grown hg2 s1 (fun kk hkk => (HO1.out.lt kk hkk).1)
      have ho2' : w2.ownsRow w.heap.size 35 2 v2 (na + nb) (cs.flatMap Bk.cells) := by rw [← HCS.out, List.flatMap_append]; exact ho2
      obtain ⟨g2, c2, cs2, rfl, _, _, A2, hc21, hc22, _, hcc⟩ := own_row ho2' (by omega)
      have e0 : w2.cell? ⟨g2, k * 2, none⟩ = some (B8 x.t) := (A2.cell _).trans (hcc _ _ ((flat_get Bk.cells 2 Bk.len cs k 0 x HX.out (by omega)).trans rfl))
      have e1 : w2.cell? ⟨g2, k * 2 + 1, none⟩ = some (.slice xa x.l.length xc) := by rw [← HXV.out]; exact (A2.cell _).trans (hcc _ _ ((flat_get Bk.cells 2 Bk.len cs k 1 x HX.out (by omega)).trans rfl))
      have s2 := hB2.size
      have hkn : k < na + nb := hlt
      clear ho2 hg2 HO1 hB1 ho2' hcc A2
      generalize hxn : x.l.length = xn at *
      have HXL := Lib.hid hxn
      clear hxn
      go_upto_region 6 with (fail)
      (refine wp_at (fun wc => Blk wc w2.heap.size 35 #[B8 x.t, .slice xa xn xc] ∧ Below w2.heap.size w2 wc) ⟨heap_at rfl, by go_grown⟩ ?_)
      rintro w3 ⟨X3, hb3⟩
      have hB3 := bnext hB2 hb3
      have x3 := X3.cell
      have s3 := hB3.size
      clear hb3 e0 e1 hB2
      rcases Nat.lt_or_ge 100000 (sm + xn + 10) with hov | hov
      · have hov' : (100000 : Int) < sm + xn + 10 := by omega
        go_wp2_with fail
        refine (known_any _ (HT.out.below hB3 HT.out.1)).mono ?_
        rintro en w4 ⟨rfl, hb4⟩
        have hB4 := bnext hB3 hb4
        go_wp2_with fail
        go_returns
        exact ⟨rfl, hB4⟩
      · have hov' : ¬ (100000 : Int) < sm + xn + 10 := by omega
        rcases Nat.lt_or_ge 200 (na + nb) with hab | hab
        · have hab' : (200 : Int) < (na : Int) + nb := by omega
          go_wp2_with fail
          refine (known_any _ (HT.out.below hB3 HT.out.1)).mono ?_
          rintro en w4 ⟨rfl, hb4⟩
          have hB4 := bnext hB3 hb4
          go_wp2_with fail
          go_returns
          exact ⟨rfl, hB4⟩
        · have hab' : ¬ (200 : Int) < (na : Int) + nb := by omega
          go_wp2_with fail
          refine (long_any a2 nh ch _ (by omega)).mono ?_
          rintro en w4 ⟨rfl, hb4⟩
          have hB4 := bnext hB3 hb4
          have X4 := X3.below hb4
          rcases Nat.lt_or_ge 200000 nh with hh | hh
          · rw [show decide (200000 < nh) = true by simp [hh]]
            go_wp2_with fail
            refine (known_any _ (HT.out.below hB4 HT.out.1)).mono ?_
            rintro en w5 ⟨rfl, hb5⟩
            have hB5 := bnext hB4 hb5
            go_wp2_with fail
            go_returns
            exact ⟨rfl, hB5⟩
          · rw [show decide (200000 < nh) = false by simp; omega]
            have x4 := X4.cell
            clear hb4 hB3 X3 x3
            go_wp2_with fail
            refine (Put_any x.t xa xn xc x.l _ (HT.out.below hB4 HT.out.1) HXL.out (by omega) HXN.out ((HXR.out.below hB4).more hB4.size)).mono ?_
            rintro en w5 ⟨v5, rfl, ho5, hb5⟩
            have hB5 := bnext hB4 hb5
            have hfl := Frm.frame_len x.t x.l
            rw [HXL.out] at hfl
            have hnb3 := numB_small xn (by omega)
            obtain ⟨gf, cf, csf, rfl, _, Af, qf, hlf, hcf1, hcf2⟩ := own_blk ho5 (by omega)
            have HQF := Lib.hid qf
            have HRF := Lib.hid (blk_rd Af Af.lt qf)
            have lAf := Af.lt
            have X5 := X4.below hb5
            generalize hfr : Frm.frame x.t x.l = fr at *
            have HFR := Lib.hid hfr
            generalize hfn : fr.length = fl at *
            have HFN := Lib.hid hfn
            have HFLE := Lib.hid hfl
            have hfl1 : 6 ≤ fl := by
              have := (numB_len xn (by omega)).1
              omega
            have hfl2 : fl ≤ 200000 := by omega
            clear ho5 hb5 qf hfr hfn hlf hB4 X4 x4 hfl
            go_upto_region 10 with (fail)
            apply wp_region_lit
            iterate 1 (go_step; go_step; rename_i KK hKK; (with_reducible refine hKK _ _ ?_); clear hKK KK)
            (with_reducible refine append_own (w0 := w5) ?_ (.const (.slice none 0 0)) (.tmp 72) ?_ w5.heap.size (.slice none 0 0) (.slice none 0 0) 0 [] ?_ (World.ownsRow_nil _ _ _ _) (some ⟨gf, 0, none⟩) fl cf fr ?_ (fun h => by cases h) HFN.out HRF.out ?_ (Nat.le_refl _) (Own.of_below (Below.refl _ _) (Nat.le_refl _)) ?_)
            · rfl
            · rfl
            · rfl
            · rfl
            · omega
            intro v6 w6 ho6 hg6
            rw [Nat.zero_add, List.nil_append] at ho6
            have hM6 := hg6.1
            have HO6 := Lib.hid ho6
            have hB6 := bnext hB5 hM6
            have s56 := hM6.size
            clear ho6 hg6
            iterate 1 (go_step; go_step; rename_i KK hKK; (with_reducible refine hKK _ _ ?_); clear hKK KK)
            (with_reducible refine append_own (w0 := w6) ?_ (.tmp 73) (.tmp 74) ?_ w5.heap.size v6 v6 fl fr ?_ HO6.out a2 nh ch lh ?_ HCH.out HLH.out ((HRH.out.below hB6).more hB6.size) ?_ s56 (Own.of_below (Below.refl _ _) s56) ?_)
            · rfl
            · rfl
            · rfl
            · rfl
            · omega
            intro v7 w7 ho7 hg7
            have hM7 := hM6.trans hg7.1
            have hB7 := bnext hB5 hM7
            have A7 := Af.below hM7
            have X7 := X5.below hM7
            obtain ⟨a7, c7, rfl, p71, hc71, hc72, hc73, p72⟩ := own_rd ho7
            have P71 := Lib.hid p71
            have P72 := Lib.hid p72
            have HC72 := Lib.hid hc72
            have s57 := hM7.size
            clear ho7 hg7 HO6 hB6 hM6 p71 p72 hc72 X5
            go_wp2_with fail
            refine (Read_any a7 (fl + nh) c7 (fr ++ lh) _ (HT.out.below hB7 HT.out.1) P71.out (by omega) hc71 HC72.out P72.out).mono ?_
            rw [← HFR.out, readF_frame x.t x.l lh (by rw [HXL.out]; omega), HFR.out]
            rintro en w8 ⟨v8, rfl, ho8, hb8⟩
            dsimp only at ho8 ⊢
            rw [HXL.out] at ho8
            rw [HFN.out]
            have hM8 := bnext hM7 hb8
            have hB8 := bnext hB5 hM8
            have A8 := A7.below hb8
            have X8 := X7.below hb8
            have HO8 := Lib.hid ho8
            obtain ⟨a8, c8, rfl, _⟩ := own_slice ho8
            have s78 := hb8.size
            clear ho8 hb8 A7 X7 hM7 hB7 P71 P72
            go_upto_region 11 with (fail)
            (refine wp_at (fun wc => Blk wc w8.heap.size 35 #[B8 x.t, .slice a8 xn c8] ∧ Below w8.heap.size w8 wc) ⟨heap_at rfl, by go_grown⟩ ?_)
            rintro w9 ⟨Y9, hb9⟩
            have hM9 := bnext hM8 hb9
            have hB9 := bnext hB5 hM9
            have A9 := A8.below hb9
            have X9 := X8.below hb9
            have HO9 := Lib.hid (owns_keep HO8.out (fun g _ hg => hb9.block g hg))
            have x9 := X9.cell
            have tn : ((x.t.toNat : Int) == (x.t.toNat : Int)) = true := by simp
            clear hb9 A8 X8 hM8 hB8 HO8
            go_wp2_with fail
            refine (size_any xn _ (by omega)).mono ?_
            rintro en w10 ⟨rfl, hb10⟩
            rw [show 1 + (Frm.numB xn).length + xn + 4 = fl from HFLE.out.symm]
            have hM10 := bnext hM9 hb10
            have hB10 := bnext hB5 hM10
            have A10 := A9.below hb10
            have X10 := X9.below hb10
            have Y10 := Y9.below hb10
            have HO10 := Lib.hid (owns_keep HO9.out (fun g _ hg => hb10.block g hg))
            have p10 := own_rd HO10.out
            obtain ⟨_, _, e10, p101, _, _, _, p102⟩ := p10
            cases e10
            have r1 := conv_rd a8 xn c8 x.l p101 w10 _ p102
            have r2 := conv_rd xa xn xc x.l HXL.out w10 _ (HXR.out.below hB10)
            have x10 := X10.cell
            have y10 := Y10.cell
            have hse : ((strOf x.l).toList == (strOf x.l).toList) = true := by simp
            generalize hstr : strOf x.l = str at *
            clear hstr hb10 x9 X9 Y9 HO9 A9 hM9 hB9 p101 p102
            go_wp2_with fail
            clear r1 r2 hse x10 y10
            have hcut : (fr.take (fl - 1)).length = fl - 1 := by rw [List.length_take, HFN.out]; omega
            have HCUT := Lib.hid hcut
            clear hcut
            refine (Read_any (some ⟨gf, 0, none⟩) (fl - 1) cf (fr.take (fl - 1)) _ (HT.out.below hB10 HT.out.1) HCUT.out (by omega) (by omega) hcf2 (Rd.take ((HRF.out.below hM10).more hM10.size) (fl - 1))).mono ?_
            rw [show readF (fr.take (fl - 1)) = (0, [], 0, 130) by
              have h := readF_cut x.t x.l (by rw [HXL.out]; omega)
              rw [HFR.out, HFN.out] at h
              exact h]
            rintro en w11 ⟨v11, rfl, ho11, hb11⟩
            dsimp only at ho11 ⊢
            have hB11 := bnext hB10 hb11
            obtain ⟨a11, c11, rfl, _⟩ := own_slice ho11
            have hszn : szTo cs (k + 1) ≤ sm + xn + 10 := by
              have h1 := HXS.out
              have h3 := HSZ.out
              omega
            have HSZN := Lib.hid hszn
            clear ho11 hb11 hszn
            go_wp2_with fail
            go_roundw
            case rel => exact ⟨k + 1, sm + xn + 10, by omega, by go_num, by go_num, hov, HSZN.out, (fun _ => hab), bnext hB11 (by go_grown)⟩
            case measure => simp [intOf]; omega
    · obtain rfl : k = na + nb := by omega
      have hrow : Frm.rowB (cs.map Bk.pair) = Frm.rowB (xs.map Bk.pair) ++ Frm.rowB (ys.map Bk.pair) := by
        rw [← HCS.out, List.map_append]; simp [Frm.rowB]
      have hlen : (Frm.rowB (xs.map Bk.pair)).length + (Frm.rowB (ys.map Bk.pair)).length ≤ 100000 := by
        have h1 := HSZ.out
        rw [← HCL.out, szTo_all, hrow, List.length_append] at h1
        omega
      have hsa : szTo xs na = (Frm.rowB (xs.map Bk.pair)).length := by rw [← HLA.out, szTo_all]
      have hsb : szTo ys nb = (Frm.rowB (ys.map Bk.pair)).length := by rw [← HLB.out, szTo_all]
      have HROW := Lib.hid hrow
      generalize hra : Frm.rowB (xs.map Bk.pair) = ra at *
      generalize hrb : Frm.rowB (ys.map Bk.pair) = rb at *
      have HRAE := Lib.hid hra
      have HRBE := Lib.hid hrb
      generalize hma : ra.length = ma at *
      generalize hmb : rb.length = mb at *
      have HMA := Lib.hid hma
      have HMB := Lib.hid hmb
      have HSA := Lib.hid hsa
      have HSB := Lib.hid hsb
      have hab : na + nb ≤ 200 := by
        rcases Nat.eq_zero_or_pos (na + nb) with h0 | h0
        · omega
        · exact H200.out h0
      have hge' : ¬ (na : Int) + nb < (na : Int) + nb := by omega
      clear hrow hsa hsb hra hrb hma hmb H200 HSZ hge hk
      go_wp2_with fail
      refine (Row_ok a na ca xs _ (HT.out.below hB HT.out.1) HLA.out ((HRA.out.below hB).more sB) (fun x hx => by
        obtain ⟨xa, xc, h1, h2, h3⟩ := HBA.out x hx
        exact ⟨xa, xc, h1, h2, (h3.below hB).more sB⟩) (by rw [HSA.out]; omega) (by omega)).mono ?_
      rintro en w1 ⟨v1, rfl, ho1, hb1⟩
      rw [HSA.out, HRAE.out] at ho1
      have hB1 := bnext hB hb1
      have s1 := hB1.size
      have HW1 := Lib.hid ho1
      obtain ⟨aA, cA, rfl, _⟩ := own_slice ho1
      clear ho1 hb1 hB sB
      go_wp2_with fail
      refine (Row_ok a' nb cb ys _ (HT.out.below hB1 HT.out.1) HLB.out ((HRB.out.below hB1).more s1) (fun x hx => by
        obtain ⟨xa, xc, h1, h2, h3⟩ := HBB.out x hx
        exact ⟨xa, xc, h1, h2, (h3.below hB1).more s1⟩) (by rw [HSB.out]; omega) (by omega)).mono ?_
      rintro en w2 ⟨v2, rfl, ho2, hb2⟩
      rw [HSB.out, HRBE.out] at ho2
      have hB2 := bnext hB1 hb2
      have s2 := hB2.size
      have HW1 := Lib.hid (owns_keep HW1.out (fun g _ hg => hb2.block g hg))
      have p1 := own_rd HW1.out
      obtain ⟨_, _, e1, p11, _, _, p12, p13⟩ := p1
      cases e1
      have p2 := own_rd ho2
      obtain ⟨aB, cB, rfl, p21, _, _, p22, p23⟩ := p2
      have P11 := Lib.hid p11
      have P12 := Lib.hid p12
      have P13 := Lib.hid p13
      have P21 := Lib.hid p21
      have P22 := Lib.hid p22
      have P23 := Lib.hid p23
      clear ho2 hb2 hB1 p11 p12 p13 p21 p22 p23 HW1
      go_upto_region 18 with (fail)
      apply wp_region_lit
      iterate 1 (go_step; go_step; rename_i KK hKK; (with_reducible refine hKK _ _ ?_); clear hKK KK)
      (with_reducible refine append_own (w0 := w2) ?_ (.const (.slice none 0 0)) (.tmp 139) ?_ w2.heap.size (.slice none 0 0) (.slice none 0 0) 0 [] ?_ (World.ownsRow_nil _ _ _ _) aA ma cA ra ?_ P12.out P11.out P13.out ?_ (Nat.le_refl _) (Own.of_below (Below.refl _ _) (Nat.le_refl _)) ?_)
      · rfl
      · rfl
      · rfl
      · rfl
      · omega
      intro v3 w3 ho3 hg3
      rw [Nat.zero_add, List.nil_append] at ho3
      have hM3 := hg3.1
      have HO3 := Lib.hid ho3
      have s3 := hM3.size
      clear ho3 hg3
      iterate 1 (go_step; go_step; rename_i KK hKK; (with_reducible refine hKK _ _ ?_); clear hKK KK)
      (with_reducible refine append_own (w0 := w3) ?_ (.tmp 140) (.tmp 141) ?_ w2.heap.size v3 v3 ma ra ?_ HO3.out aB mb cB rb ?_ P22.out P21.out ((P23.out.below hM3).more s3) ?_ s3 (Own.of_below (Below.refl _ _) s3) ?_)
      · rfl
      · rfl
      · rfl
      · rfl
      · omega
      intro v4 w4 ho4 hg4
      have hM4 := hM3.trans hg4.1
      have hB4 := bnext hB2 hM4
      have p4 := own_rd ho4
      obtain ⟨a4, c4, rfl, p41, p4c, p4m, p42, p43⟩ := p4
      have P41 := Lib.hid p41
      have P43 := Lib.hid p43
      have P4M := Lib.hid p4m
      clear ho4 hg4 HO3 p41 p43 p4m hM3
      go_wp2_with fail
      refine (All_heads a4 (ma + mb) c4 (ra ++ rb) _ (HT.out.below hB4 HT.out.1) P41.out (by omega) p4c P4M.out p42 P43.out).mono ?_
      rintro en w5 ⟨v5, c5, ps, at_, s5, rfl, hb5, hH5, hW5, hp5, hl5⟩
      have hll : (ra ++ rb).length = ma + mb := by rw [List.length_append, HMA.out, HMB.out]
      have hH0 : Frm.Heads (ra ++ rb) (cs.map Bk.pair) (ma + mb) 0 := ⟨by rw [HROW.out, ← hll, List.take_length], by rw [hll]; exact Nat.le_refl _, .inl ⟨rfl, hll.symm⟩⟩
      obtain ⟨rfl, rfl, rfl⟩ := Frm.Heads.unique (by rw [hll]; omega) hH5 hH0
      rw [if_pos rfl] at hp5
      have hc5 : c5.length = na + nb := by
        have := congrArg List.length hp5
        rw [List.length_map, List.length_map, HCL.out] at this
        exact this
      have hB5 := bnext hB4 hb5
      have s5 := hB5.size
      have HP5 := Lib.hid hp5
      have HC5 := Lib.hid hc5
      obtain ⟨a5, cp5, hv5, _⟩ := own_slice hW5.1
      subst hv5
      rw [hc5] at hW5 ⊢
      have HW5 := Lib.hid hW5
      clear hb5 hH5 hH0 hW5 hp5 hl5 hc5 hll hB4
      go_upto_region 19 with (fail)
      apply wp_region_lit
      iterate 1 (go_step; go_step; rename_i KK hKK; (with_reducible refine hKK _ _ ?_); clear hKK KK)
      (with_reducible refine append_blks ?_ (.const (.slice none 0 0)) (.tmp 147) ?_ w5.heap.size (.slice none 0 0) 0 [] ?_ (World.ownsRow_nil _ _ _ _) a na ca xs ?_ HCA.out HLA.out ((HRA.out.below hB5).more s5) HFA.out ?_ (Nat.le_refl _) ?_)
      · rfl
      · rfl
      · rfl
      · rfl
      · omega
      intro v6 w6 ho6 hg6 _
      rw [Nat.zero_add, List.nil_append] at ho6
      have hM6 : Below w5.heap.size w5 w6 := (Below.refl _ _).grown hg6 (Nat.le_refl _) (fun kk hkk => by simp [Value.ownBlock] at hkk)
      have HO6 := Lib.hid ho6
      have hB6 := bnext hB5 hM6
      have s56 := hM6.size
      clear ho6 hg6
      iterate 1 (go_step; go_step; rename_i KK hKK; (with_reducible refine hKK _ _ ?_); clear hKK KK)
      (with_reducible refine append_blks ?_ (.tmp 148) (.tmp 149) ?_ w5.heap.size v6 na (xs.flatMap Bk.cells) ?_ HO6.out a' nb cb ys ?_ HCB.out HLB.out ((HRB.out.below hB6).more hB6.size) HFB.out ?_ s56 ?_)
      · rfl
      · rfl
      · rfl
      · rfl
      · omega
      intro v7 w7 ho7 hg7 _
      have hM7 : Below w5.heap.size w5 w7 := hM6.grown hg7 s56 (fun kk hkk => (HO6.out.lt kk hkk).1)
      have hB7 := bnext hB5 hM7
      have ho7' : w7.ownsRow w5.heap.size 35 2 v7 (na + nb) (cs.flatMap Bk.cells) := by rw [← HCS.out, List.flatMap_append]; exact ho7
      obtain ⟨a7, c7, rfl, _, _, _, _, r7⟩ := own_blks_rd ho7'
      have HR7 := Lib.hid r7
      have q5 := rws_read (HW5.out.below hM7)
      obtain ⟨⟨_, _, e5, r5⟩, b5⟩ := q5
      rw [HC5.out] at e5
      cases e5
      have HR5 := Lib.hid r5
      have HB5 := Lib.hid b5
      clear ho7 hg7 ho7' HO6 hB6 r7 r5 b5
      go_wp2_with fail
      refine (SameBlocks_any a5 a7 (na + nb) (na + nb) cp5 c7 c5 cs _ HC5.out HCL.out (by omega) (by omega) HR5.out HR7.out HB5.out (fun x hx => by
        obtain ⟨xa, xc, h1, h2, h3⟩ := (HBD.out x hx).1
        exact ⟨xa, xc, h1, h2, (h3.below hB7).more hB7.size⟩)).mono ?_
      rintro en w8 ⟨rfl, hb8⟩
      rw [show decide (c5.map Bk.pair = cs.map Bk.pair) = true by rw [decide_eq_true_eq]; exact HP5.out]
      have hB8 := bnext hB7 hb8
      go_wp2_with fail
      refine (known_any _ (HT.out.below hB8 HT.out.1)).mono ?_
      rintro en w9 ⟨rfl, hb9⟩
      have hB9 := bnext hB8 hb9
      go_wp2_with fail
      go_returns
      exact ⟨rfl, hB9⟩
end Go.Proofs.YtolbmjilcngnhaaDoor
