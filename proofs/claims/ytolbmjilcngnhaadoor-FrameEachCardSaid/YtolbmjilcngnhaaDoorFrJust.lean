/- Just of both. -/
import Derived.Test.YtolbmjilcngnhaaDoorFrReadsW
set_option linter.unusedSimpArgs false
set_option linter.unusedVariables false
namespace Go.Proofs.YtolbmjilcngnhaaDoor
open Go.RowKit Go.Kp

/-- A row of bodies that a call owns, each in a block of its own. -/
def Lws (w : World) (lo : Nat) (v : Value) (bs : List Bk) : Prop :=
  w.ownsRow lo 22 1 v bs.length (bs.flatMap bodyOf) ∧ ∀ x ∈ bs, w.ownsRow lo 5 1 x.v x.l.length (x.l.map B8) ∧ (∀ g, x.v.ownBlock = some g → v.ownBlock ≠ some g)
theorem Lws.below {w w' : World} {lo : Nat} {v : Value} {bs : List Bk} (h : Lws w lo v bs) (hb : Below w.heap.size w w') : Lws w' lo v bs :=
  ⟨owns_keep h.1 (fun g _ hg => hb.block g hg), fun x hx => ⟨owns_keep (h.2 x hx).1 (fun g _ hg => hb.block g hg), (h.2 x hx).2⟩⟩
theorem Lws_nil (w : World) (lo : Nat) : Lws w lo (.slice none 0 0) [] := ⟨World.ownsRow_nil _ _ _ _, fun x hx => by cases hx⟩

theorem info22 : (Tryd.prog.info? 22).map (fun i => (i.zero, i.size, i.bytes)) = some (some (.slice none 0 0), 1, 24) := by kernel_rfl
/-- append of one body to a row of them that the call owns. -/
theorem append_list {w : World} {ops : Array Oper} {rest : List Oper} {o : Oper} {a : Act} {Q : Exit → Act → World → Prop} (hgd : o.guard = none) (s x : Operand)
    (ho : o.op = .call { callee := .builtin .append, args := #[s, x], argTypes := #[49, 49] })
    (lo : Nat) (v : Value) (n : Nat) (xs : List Value) (hs : a.eval s = v) (hR : w.ownsRow lo 22 1 v n xs) (ba : Option Addr) (bn bc : Nat) (g : Nat) (hx : a.eval x = .slice (some ⟨g, 0, none⟩) 1 1)
    (hg : Blk w g 22 #[.slice ba bn bc])
    (hn : n + 1 ≤ 4398046511104) (hlo : lo ≤ w.heap.size)
    (h : ∀ v' w', w'.ownsRow lo 22 1 v' (n + 1) (xs ++ [.slice ba bn bc]) → w.grownBy w' v.ownBlock → (v'.ownBlock = v.ownBlock ∨ v'.ownBlock = some w.heap.size) → wpList Tryd.prog ops Q rest (a.put o.dst v') w') :
    wpList Tryd.prog ops Q (o :: rest) a w := by
  obtain ⟨i0, hi, hz0, hz1, hz2⟩ := info_parts info22
  refine wpList_append_own_at w hgd s x 49 ho lo 22 i0 _ 1 24 Tryd.underlying49 hi hz0 hz1 hz2 rfl (by omega) v n _ hs hR ⟨g, 0, none⟩ 1 1 [.slice ba bn bc] hx rfl ?_ ?_ (by unfold maxLen; omega) (by omega) hlo fun v' w' h1 h2 _ h4 => h v' w' h1 h2 h4
  · intro j u hu
    rw [Go.WideShapes.add_plain, Nat.zero_add, hg.cell]
    simpa using hu
  · intro u hu
    obtain rfl := List.mem_singleton.1 hu
    rfl

/-- What Just hands back. -/
def JustS (l tags : List UInt8) (w : World) (en : Ending) (w' : World) : Prop :=
  ∃ v cs ps at_ s, en = .returned (.tuple #[v, .int .i64 (at_ : Nat), .int .i64 (s : Nat)]) ∧ Below w.heap.size w w' ∧ Frm.Just l tags ps at_ s ∧ Lws w' w.heap.size v cs ∧ cs.map Bk.l = (if s = 0 then ps.map Prod.snd else []) ∧ cs.length ≤ l.length

/-- A block of those with which bytes begin. -/
theorem heads_at {l : List UInt8} {bs : List Bk} {at_ s : Nat} (h : Frm.Heads l (bs.map Bk.pair) at_ s) {k : Nat} {x : Bk} (hx : bs[k]? = some x) :
    Frm.rowB ((bs.take k).map Bk.pair) = l.take (szTo bs k) ∧ szTo bs k < l.length ∧ x.l.length ≤ l.length ∧ ∃ R, l.drop (szTo bs k) = Frm.frame x.t x.l ++ R := by
  obtain ⟨hk, hxe⟩ := List.getElem?_eq_some_iff.1 hx
  have e : bs.map Bk.pair = (bs.take k).map Bk.pair ++ x.pair :: (bs.drop (k + 1)).map Bk.pair := by
    conv => lhs; rw [← List.take_append_drop k bs, List.drop_eq_getElem_cons hk, hxe]
    rw [List.map_append, List.map_cons]
  have h1 := h.1
  rw [e] at h1
  unfold Frm.rowB at h1
  rw [List.flatMap_append, List.flatMap_cons] at h1
  have e2 : l = Frm.rowB ((bs.take k).map Bk.pair) ++ (Frm.frame x.t x.l ++ (Frm.rowB ((bs.drop (k + 1)).map Bk.pair) ++ l.drop at_)) := by
    conv => lhs; rw [← List.take_append_drop at_ l, ← h1]
    simp only [Frm.rowB, List.append_assoc]
  have hz : szTo bs k = (Frm.rowB ((bs.take k).map Bk.pair)).length := rfl
  have hf := Frm.frame_len x.t x.l
  have hlen := congrArg List.length e2
  simp only [List.length_append] at hlen
  refine ⟨?_, by omega, by omega, Frm.rowB ((bs.drop (k + 1)).map Bk.pair) ++ l.drop at_, ?_⟩
  · rw [hz]
    conv => rhs; rw [e2]
    rw [List.take_left]
  · rw [hz]
    conv => lhs; rw [e2]
    rw [List.drop_left]

set_option maxHeartbeats 8000000 in
theorem refJust_any (a a' : Option Addr) (n c m c' : Nat) (l tg : List UInt8) (w : World) (hl : l.length = n) (hn : n ≤ 268435456) (hc : n ≤ c) (hcm : c ≤ maxLen) (ha : a = none → c = 0) (hr : Rd w w.heap.size a (l.map B8))
    (htl : tg.length = m) (hm : m ≤ 1099511627776) (hrt : Rd w w.heap.size a' (tg.map B8)) :
    Calls Tryd.prog 27 #[.slice a n c, .slice a' m c'] w (JustS l tg w) := by
  have HL := Lib.hid hl
  have HR := Lib.hid hr
  have HA := Lib.hid ha
  have HCM := Lib.hid hcm
  have HTL := Lib.hid htl
  have HRT := Lib.hid hrt
  clear hl hr ha hcm htl hrt
  go_enter Tryd.func27, Tryd.ntmps27
  go_wp2_with fail
  refine (Heads_any a n c l _ HL.out (by omega) hc HCM.out HA.out HR.out).mono ?_
  rintro en w1 ⟨v, vp, bs, at_, s, rfl, hB, hW, hbl, hH, hP⟩
  obtain ⟨ap, cp, rfl, hpl, _, _, _, hpr⟩ := own_rdv hP
  have qr := rws_read hW
  obtain ⟨⟨av, cv, rfl, hvr⟩, hvb⟩ := qr
  have HW := Lib.hid hW
  have HH := Lib.hid hH
  have HVR := Lib.hid hvr
  have HVB := Lib.hid hvb
  have hat : at_ ≤ n := by have := hH.2.1; rw [HL.out] at this; exact this
  have HS := Lib.hid (show szTo bs bs.length = at_ by rw [szTo_all, hH.1, List.length_take, HL.out]; omega)
  have hbn : bs.length ≤ n := by omega
  have s01 := hB.size
  obtain ⟨g, off, rfl, hg, hcp⟩ : ∃ g off, ap = some ⟨g, off, none⟩ ∧ g < w1.heap.size ∧ ∀ (j : Nat) u, (plc bs)[j]? = some u → w1.cell? ⟨g, off + j, none⟩ = some u := by
    rcases hpr with h | h
    · rw [h] at hpl; simp at hpl
    · exact h
  have HCP := Lib.hid (show ∀ j, j ≤ bs.length → w1.cell? ⟨g, off + j, none⟩ = some (.int .i64 (szTo bs j : Nat)) from fun j hj => hcp j _ (plc_get bs j hj))
  clear hW hH hP hpl hcp hpr hvr hvb
  generalize hbs : bs.length = bn at *
  have HBS := Lib.hid hbs
  clear hbs
  go_wp2_with fail
  go_loopw [10, 11] (fun o i wr => ∃ k : Nat, k ≤ bn ∧ k ≤ m ∧ i = .int .i64 k ∧ wr.ownsRow w1.heap.size 22 1 o k ((bs.take k).flatMap bodyOf) ∧ (bs.take k).map Bk.t = tg.take k ∧ Below w1.heap.size w1 wr) (fun _ i _ => bn - (intOf i).toNat)
  case atStart => exact ⟨0, Nat.zero_le _, Nat.zero_le _, rfl, World.ownsRow_nil _ _ _ _, rfl, by go_grown⟩
  case round =>
    obtain ⟨k, hk, hkm, rfl, ho, htk, hb1⟩ := hrel
    have HO := Lib.hid ho
    have HTK := Lib.hid htk
    have s1 := hb1.size
    have hBr := bnext hB hb1
    clear ho htk
    rcases Nat.lt_or_ge k bn with hlt | hge
    · obtain ⟨x, hx⟩ : ∃ x, bs[k]? = some x := ⟨_, List.getElem?_eq_getElem (by rw [HBS.out]; exact hlt)⟩
      have HX := Lib.hid hx
      obtain ⟨b, offv, rfl⟩ := rd_some Bk.cells 2 Bk.len (by omega) HVR.out (k := k) (by rw [HBS.out]; exact hlt)
      obtain ⟨xa, xc, hxv, hxn, hxr⟩ := HVB.out x (List.mem_of_getElem? hx)
      have g0 := rd_flat Bk.cells 2 Bk.len HVR.out hx (j := 0) rfl
      have g1 := rd_flat Bk.cells 2 Bk.len HVR.out hx (j := 1) rfl
      have HXV := Lib.hid hxv
      have e0 : wr.cell? ⟨b, offv + k * 2, none⟩ = some (B8 x.t) := (hb1.cell (p := ⟨b, _, none⟩) g0.2).trans g0.1
      have e1 : wr.cell? ⟨b, offv + k * 2 + 1, none⟩ = some (.slice xa x.l.length xc) := by rw [← hxv]; exact (hb1.cell (p := ⟨b, _, none⟩) g1.2).trans g1.1
      have ep : wr.cell? ⟨g, off + k, none⟩ = some (.int .i64 (szTo bs k : Nat)) := (hb1.cell (p := ⟨g, _, none⟩) hg).trans (HCP.out k hk)
      obtain ⟨h1, h2, h3, R, h4⟩ := heads_at HH.out hx
      have HBAD := Lib.hid (show tg[k]? ≠ some x.t → Frm.Just l tg ((bs.take k).map Bk.pair) (szTo bs k) 133 from fun hne => by
        have hlen : ((bs.take k).map Bk.pair).length = k := by rw [List.length_map, List.length_take, HBS.out]; omega
        refine ⟨h1, by omega, by rw [hlen, HTL.out]; exact hkm, by rw [hlen, ← HTK.out, List.map_map]; rfl, .inr (.inr (.inr ⟨rfl, h2, x.t, x.l, R, by rw [HL.out] at h3; omega, h4, by rw [hlen]; exact hne⟩))⟩)
      clear g0 g1 hxv hxr hx h1 h2 h3 h4
      generalize hzk : szTo bs k = zk at *
      generalize hxl : x.l.length = xn at *
      clear hzk hxl
      rcases Nat.lt_or_ge k m with hlm | hgm
      · obtain ⟨z, hz⟩ : ∃ z, tg[k]? = some z := ⟨_, List.getElem?_eq_getElem (by rw [HTL.out]; exact hlm)⟩
        have HZ := Lib.hid hz
        obtain ⟨b', offt, rfl, hbt, hct⟩ : ∃ b' offt, a' = some ⟨b', offt, none⟩ ∧ b' < w.heap.size ∧ ∀ (j : Nat) u, (tg.map B8)[j]? = some u → w.cell? ⟨b', offt + j, none⟩ = some u := by
          rcases HRT.out with h | h
          · have := HTL.out
            rw [List.map_eq_nil_iff.1 h] at this
            simp at this; omega
          · exact h
        have et : wr.cell? ⟨b', offt + k, none⟩ = some (B8 z) := (hBr.cell (p := ⟨b', offt + k, none⟩) hbt).trans (rd_byte hct hz)
        have hkm' : (m : Int) ≤ k ↔ False := by simp; omega
        have tb := neq_byte x.t z
        have tn : ((x.t.toNat : Int) != (z.toNat : Int)) = !decide (x.t = z) := by rw [bne, tb]
        clear hz hct
        rcases Decidable.em (x.t = z) with htz | htz
        · rw [decide_eq_true htz] at tb tn
          have HTZ := Lib.hid htz
          clear htz
          go_wp2_with fail
          go_quiet (fail)
          go_upto_region 8 with (fail)
          apply wp_region_lit
          iterate 7 (go_step; go_step; rename_i KK hKK; (with_reducible refine hKK _ _ ?_); clear hKK KK)
          (with_reducible refine append_list ?_ (.tmp 44) (.tmp 50) ?_ w1.heap.size u10 k ((bs.take k).flatMap bodyOf) ?_ ?_ xa xn xc wr.heap.size ?_ ?_ ?_ ?_ ?_)
          · rfl
          · rfl
          · rfl
          · exact owns_keep HO.out (fun g' _ hg' => heap_old (w := wr.drewN nq) hg')
          · rfl
          · exact heap_at rfl
          · omega
          · simp; omega
          intro v2 w2 ho2 hg2 _
          have hB2 : Below w1.heap.size w1 w2 := ((below_drewN hb1 nq).trans (show Below w1.heap.size (wr.drewN nq) ((wr.drewN nq).alloc (.cells #[.slice xa xn xc] 22)) by go_grown)).grown hg2 (by simp; omega) (fun kk hkk => (HO.out.lt kk hkk).1)
          have HO2 := Lib.hid (show w2.ownsRow w1.heap.size 22 1 v2 (k + 1) ((bs.take (k + 1)).flatMap bodyOf) by
            rw [List.take_add_one, HX.out, List.flatMap_append]
            show World.ownsRow w2 w1.heap.size _ 1 v2 (k + 1) ((bs.take k).flatMap bodyOf ++ [x.v])
            rw [HXV.out]; exact ho2)
          have HTK2 := Lib.hid (show (bs.take (k + 1)).map Bk.t = tg.take (k + 1) by
            rw [List.take_add_one, HX.out, List.map_append, HTK.out, List.take_add_one, HZ.out, ← HTZ.out]; rfl)
          clear ho2 hg2 e0 e1 ep et tb tn
          go_wp2_with fail
          go_roundw
          case rel => exact ⟨k + 1, by omega, by omega, by go_num, HO2.out, HTK2.out, hB2⟩
          case measure => simp [intOf]; omega
        · rw [decide_eq_false htz] at tb tn
          have HJ := Lib.hid (HBAD.out (by rw [HZ.out]; intro e; exact htz (Option.some.inj e).symm))
          clear htz
          go_wp2_with fail
          go_quiet (fail)
          go_wp2_with fail
          go_quiet (fail)
          go_wp2_with fail
          refine bodyPost_ret (v := .tuple #[.slice none 0 0, .int .i64 zk, .int .i64 133]) (by simp [results, Tryd.results27, go_sem]; done) rfl ⟨_, [], _, zk, 133, rfl, bnext hB (below_drewN (below_drewN hb1 _) _), HJ.out, Lws_nil _ _, rfl, Nat.zero_le _⟩
      · obtain rfl : k = m := by omega
        have hkm' : (k : Int) ≤ k := by omega
        have HJ := Lib.hid (HBAD.out (by rw [List.getElem?_eq_none (by rw [HTL.out]; exact Nat.le_refl _)]; simp))
        clear HBAD e0 e1
        go_wp2_with fail
        go_quiet (fail)
        go_wp2_with fail
        go_quiet (fail)
        go_wp2_with fail
        refine bodyPost_ret (v := .tuple #[.slice none 0 0, .int .i64 zk, .int .i64 133]) (by simp [results, Tryd.results27, go_sem]; done) rfl ⟨_, [], _, zk, 133, rfl, bnext hB (below_drewN (below_drewN hb1 _) _), HJ.out, Lws_nil _ _, rfl, Nat.zero_le _⟩
    · obtain rfl : k = bn := by omega
      have HTK2 := Lib.hid (show (bs.map Bk.pair).map Prod.fst = tg.take (bs.map Bk.pair).length by
        have h := HTK.out
        rw [List.take_of_length_le (by rw [HBS.out]; exact Nat.le_refl _)] at h
        rw [List.length_map, HBS.out, ← h, List.map_map]; rfl)
      have HJ := Lib.hid (Frm.Just.of_heads HH.out (by rw [List.length_map, HBS.out, HTL.out]; exact hkm) HTK2.out)
      rcases Decidable.em (s = 0) with hs | hs
      · subst hs
        have hat2 : at_ = n := by
          rcases HH.out.2.2 with ⟨_, h⟩ | ⟨h, _⟩
          · rw [h, HL.out]
          · exact absurd rfl h
        subst hat2
        rcases Nat.lt_or_ge k m with hlm | hgm
        · have hlm' : (k : Int) < m := by omega
          have HJ2 := Lib.hid (show Frm.Just l tg (bs.map Bk.pair) at_ 133 by
            have h := HJ.out
            rw [if_neg (by simp), if_pos (by rw [List.length_map, HBS.out, HTL.out]; exact hlm)] at h
            exact h)
          clear HJ HTK2
          go_wp2_with fail
          refine bodyPost_ret (v := .tuple #[.slice none 0 0, .int .i64 at_, .int .i64 133]) (by simp [results, Tryd.results27, go_sem]; done) rfl ⟨_, [], _, at_, 133, rfl, hBr, HJ2.out, Lws_nil _ _, rfl, Nat.zero_le _⟩
        · obtain rfl : k = m := by omega
          have hlm' : ¬ (k : Int) < k := by omega
          have HJ2 := Lib.hid (show Frm.Just l tg (bs.map Bk.pair) at_ 0 by
            have h := HJ.out
            rw [if_neg (by simp), if_neg (by rw [List.length_map, HBS.out, HTL.out]; omega)] at h
            exact h)
          have HO2 := Lib.hid (show Lws wr w.heap.size u10 bs from by
            have h := HO.out
            rw [List.take_of_length_le (by rw [HBS.out]; exact Nat.le_refl _)] at h
            refine ⟨owns_mono (by rw [HBS.out]; exact h) hB.size, fun x hx => ⟨owns_keep (HW.out.2 x hx).1 (fun g' _ hg' => hb1.block g' hg'), fun g' hg' e => ?_⟩⟩
            have h1 := (h.lt g' e).1
            have h2 := ((HW.out.2 x hx).1.lt g' hg').2
            omega)
          clear HJ HTK2
          go_wp2_with fail
          refine bodyPost_ret (v := .tuple #[u10, .int .i64 at_, .int .i64 0]) (by simp [results, Tryd.results27, go_sem]; done) rfl ⟨_, bs, _, at_, 0, rfl, hBr, HJ2.out, HO2.out, ?_, ?_⟩
          · rw [if_pos rfl, List.map_map]; rfl
          · rw [HBS.out, HL.out]; omega
      · have hs' : ((s : Int) == 0) = false := by simp; omega
        have hs2 : ((s : Int) != 0) = true := by simp; omega
        have ep : wr.cell? ⟨g, off + k, none⟩ = some (.int .i64 at_) := (hb1.cell (p := ⟨g, _, none⟩) hg).trans ((HCP.out k hk).trans (by rw [HS.out]))
        have HJ2 := Lib.hid (show Frm.Just l tg (bs.map Bk.pair) at_ s by
          have h := HJ.out
          rw [if_pos hs] at h
          exact h)
        have hkk : k < k + 1 := by omega
        have hkk2 : (k : Int) < (k : Int) + 1 := by omega
        clear HJ HTK2
        go_wp2_with fail
        go_quiet (fail)
        go_wp2_with fail
        refine bodyPost_ret (v := .tuple #[.slice none 0 0, .int .i64 at_, .int .i64 s]) (by simp [results, Tryd.results27, go_sem]; done) rfl ⟨_, [], _, at_, s, rfl, below_drewN hBr _, HJ2.out, Lws_nil _ _, by rw [if_neg hs]; rfl, Nat.zero_le _⟩
end Go.Proofs.YtolbmjilcngnhaaDoor
