/- The program's Just. -/
import Derived.Test.YtolbmjilcngnhaaDoorFrJust
set_option linter.unusedSimpArgs false
set_option linter.unusedVariables false
namespace Go.Proofs.YtolbmjilcngnhaaDoor
open Go.RowKit Go.Kp

theorem tags_snoc (cs : List Bk) (b : Bk) (tg : List UInt8) (h : cs.map Bk.t = tg.take cs.length) (hz : tg[cs.length]? = some b.t) : (cs ++ [b]).map Bk.t = tg.take (cs ++ [b]).length := by
  rw [List.map_append, h, List.length_append, List.length_singleton, List.take_add_one, hz]; rfl

set_option maxHeartbeats 8000000 in
theorem Just_any (a a' : Option Addr) (n c m c' : Nat) (l tg : List UInt8) (w : World) (hT : Tab w) (hl : l.length = n) (hn : n ≤ 268435456) (hc : n ≤ c) (hcm : c ≤ maxLen) (hr : Rd w w.heap.size a (l.map B8))
    (htl : tg.length = m) (hm : m ≤ 1099511627776) (hrt : Rd w w.heap.size a' (tg.map B8)) :
    Calls Tryd.prog 26 #[.slice a n c, .slice a' m c'] w (JustS l tg w) := by
  have HT := Lib.hid hT
  have HL := Lib.hid hl
  have HR := Lib.hid hr
  have HCM := Lib.hid hcm
  have HTL := Lib.hid htl
  have HRT := Lib.hid hrt
  have hcm2 : c ≤ 9223372036854775807 := hcm
  clear hT hl hr hcm htl hrt
  go_enter Tryd.func26, Tryd.ntmps26
  go_wp2_with fail
  go_loopw [7, 8] (fun v i wr => ∃ (k : Nat) (bs : List Bk), i = .int .i64 k ∧ k ≤ n ∧ bs.length ≤ k ∧ bs.length ≤ m ∧ Lws wr w.heap.size v bs ∧ Frm.rowB (bs.map Bk.pair) = l.take k ∧ bs.map Bk.t = tg.take bs.length ∧ Below w.heap.size w wr) (fun _ i _ => n - (intOf i).toNat)
  case atStart => exact ⟨0, [], rfl, Nat.zero_le _, Nat.le_refl _, Nat.zero_le _, Lws_nil _ _, rfl, rfl, by go_grown⟩
  case round =>
    obtain ⟨k, bs, rfl, hk, hbk, hbm, hW, hrow, htk, hB⟩ := hrel
    have HW := Lib.hid hW
    have HRow := Lib.hid hrow
    have HTK := Lib.hid htk
    have sB := hB.size
    obtain ⟨va, vc, rfl, _⟩ := own_slice hW.1
    have HPR := Lib.hid (show ∀ s, ((s = 0 ∧ k = l.length ∧ bs.length = tg.length) ∨ (s = 133 ∧ k = l.length ∧ bs.length < tg.length) ∨ (s ≠ 0 ∧ k < l.length ∧ ∃ f e, Frm.look (l.drop k) = (f, e, s)) ∨
     (s = 133 ∧ k < l.length ∧ ∃ t body R, body.length ≤ 268435456 ∧ l.drop k = Frm.frame t body ++ R ∧ tg[bs.length]? ≠ some t)) → Frm.Just l tg (bs.map Bk.pair) k s from fun s h => by
      refine ⟨hrow, by rw [HL.out]; exact hk, by rw [List.length_map, HTL.out]; exact hbm, by rw [List.length_map, ← htk, List.map_map]; rfl, ?_⟩
      rw [List.length_map]
      exact h)
    clear hW hrow htk
    generalize hbn : bs.length = bn at *
    have HBN := Lib.hid hbn
    clear hbn
    rcases Nat.lt_or_ge k n with hlt | hge
    · obtain ⟨b, off, rfl⟩ : ∃ b off, a = some ⟨b, off, none⟩ := by
        rcases HR.out with h | ⟨b, off, h, _⟩
        · have := HL.out
          rw [List.map_eq_nil_iff.1 h] at this
          simp at this; omega
        · exact ⟨b, off, h⟩
      have hdl : (l.drop k).length = n - k := by rw [List.length_drop, HL.out]
      obtain ⟨t, r, htr⟩ : ∃ t r, l.drop k = t :: r := by
        match hh : l.drop k with
        | [] => rw [hh] at hdl; simp at hdl; omega
        | t :: r => exact ⟨t, r, rfl⟩
      have HRd := Lib.hid (show Rd w w.heap.size (some ⟨b, off + k, none⟩) ((t :: r).map B8) by rw [← htr]; exact Rd.drop HR.out k)
      rw [htr] at hdl
      have HDL := Lib.hid hdl
      have HTR := Lib.hid htr
      have hck : ¬ c = k := by omega
      clear hdl htr
      obtain ⟨f, e, s, hlk⟩ : ∃ f e s, Frm.look (t :: r) = (f, e, s) := ⟨_, _, _, rfl⟩
      rcases Decidable.em (s = 0) with hs | hs
      · subst hs
        obtain ⟨body, rest, i1, i2, i3, i4, i5⟩ := Frm.look_inv t r f e hlk
        have HLK := Lib.hid hlk
        have HI1 := Lib.hid i1
        have HI2 := Lib.hid i2
        have HI3 := Lib.hid i3
        have HI4 := Lib.hid i4
        have HI5 := Lib.hid i5
        have hen : k + (e + 4) ≤ n := by
          have h1 := HDL.out
          rw [HI1.out, List.length_append, ← HI4.out] at h1
          omega
        clear hlk i1 i2 i3 i4 i5
        go_wp2_with fail
        refine (Read_ok (some ⟨b, off + k, none⟩) (n - k) (c - k) t r f e _ (HT.out.below hB HT.out.1) HDL.out (by omega) (by omega) (by have := HCM.out; omega) ((HRd.out.below hB).more sB) HLK.out).mono ?_
        rintro en w1 ⟨v1, rfl, ho1, hb1⟩
        have hB1 := bnext hB hb1
        have HW1 := Lib.hid (HW.out.below hb1)
        rw [HI3.out] at ho1
        have HOb := Lib.hid (show w1.ownsRow wr.heap.size 5 1 v1 body.length (body.map B8) by rw [HI5.out]; exact ho1)
        have HNE := Lib.hid (show ∀ g, v1.ownBlock = some g → (Value.slice va bn vc).ownBlock ≠ some g from fun g hg he => by
          have h1 := (HOb.out.lt g hg).1
          have h2 := (HW.out.1.lt g he).2
          omega)
        obtain ⟨a1, c1, rfl, _⟩ := own_slice ho1
        clear ho1 hb1 HW
        go_upto_region 7 with (fail)
        (refine wp_at (fun wc => Blk wc w1.heap.size 35 #[B8 t, .slice a1 (e - f) c1] ∧ Below w1.heap.size w1 wc) ⟨heap_at rfl, by go_grown⟩ ?_)
        rintro w2 ⟨A2, hb2⟩
        have hB2 := bnext hB1 hb2
        have HW2 := Lib.hid (HW1.out.below hb2)
        have HOb2 := Lib.hid (owns_mono (owns_keep HOb.out (fun g _ hg => hb2.block g hg)) sB)
        have cA2 := A2.cell
        have s2 := hB2.size
        have lA2 := A2.lt
        clear HW1 HOb hB1 hb2
        have HBADR := Lib.hid (show tg[bn]? ≠ some t → Frm.Just l tg (bs.map Bk.pair) k 133 from fun hne => HPR.out 133 (.inr (.inr (.inr ⟨rfl, by rw [HL.out]; exact hlt, t, body, rest, HI2.out, by rw [HTR.out]; exact HI1.out, hne⟩))))
        rcases Nat.lt_or_ge bn m with hlm | hgm
        · obtain ⟨z, hz⟩ : ∃ z, tg[bn]? = some z := ⟨_, List.getElem?_eq_getElem (by rw [HTL.out]; exact hlm)⟩
          have HZ := Lib.hid hz
          obtain ⟨b', offt, rfl, hbt, hct⟩ : ∃ b' offt, a' = some ⟨b', offt, none⟩ ∧ b' < w.heap.size ∧ ∀ (j : Nat) u, (tg.map B8)[j]? = some u → w.cell? ⟨b', offt + j, none⟩ = some u := by
            rcases HRT.out with h | h
            · have := HTL.out
              rw [List.map_eq_nil_iff.1 h] at this
              simp at this; omega
            · exact h
          have et : w2.cell? ⟨b', offt + bn, none⟩ = some (B8 z) := (hB2.cell (p := ⟨b', offt + bn, none⟩) hbt).trans (rd_byte hct hz)
          have hbm' : ((bn : Int) == (m : Int)) = false := by simp; omega
          have tb := neq_byte z t
          have tn : ((z.toNat : Int) != (t.toNat : Int)) = !decide (z = t) := by rw [bne, tb]
          clear hz hct
          rcases Decidable.em (z = t) with htz | htz
          · rw [decide_eq_true htz] at tb tn
            have HTZ := Lib.hid htz
            clear htz
            go_quiet (fail)
            go_upto_region 9 with (fail)
            apply wp_region_lit
            iterate 4 (go_step; go_step; rename_i KK hKK; (with_reducible refine hKK _ _ ?_); clear hKK KK)
            (with_reducible refine append_list ?_ (.tmp 44) (.tmp 47) ?_ w.heap.size (.slice va bn vc) bn (bs.flatMap bodyOf) ?_ ?_ a1 (e - f) c1 w2.heap.size ?_ ?_ ?_ ?_ ?_)
            · rfl
            · rfl
            · rfl
            · exact owns_keep (show (w2.drewN nq).ownsRow w.heap.size 22 1 (.slice va bn vc) bn (bs.flatMap bodyOf) by have h := HW2.out.1; rw [HBN.out] at h; exact h) (fun g' _ hg' => heap_old (w := w2.drewN nq) hg')
            · rfl
            · exact heap_at rfl
            · omega
            · simp; omega
            intro v3 w3 ho3 hg3 hv3
            have hB3 : Below w.heap.size w w3 := ((below_drewN hB2 nq).trans (show Below w.heap.size (w2.drewN nq) ((w2.drewN nq).alloc (.cells #[.slice a1 (e - f) c1] 22)) by go_grown)).grown hg3 (by simp; omega) (fun kk hkk => (HW2.out.1.lt kk hkk).1)
            have hkeep : ∀ g, g < w2.heap.size → ¬ some g = (Value.slice va bn vc).ownBlock → w3.heap[g]? = w2.heap[g]? := fun g hg hne => (hg3.block g (by simp; omega) hne).trans (heap_old (w := w2.drewN nq) hg)
            have HW3 := Lib.hid (show Lws w3 w.heap.size v3 (bs ++ [(⟨t, .slice a1 (e - f) c1, body⟩ : Bk)]) by
              have key : ∀ y : Bk, w2.ownsRow w.heap.size 5 1 y.v y.l.length (y.l.map B8) → (∀ k, y.v.ownBlock = some k → (Value.slice va bn vc).ownBlock ≠ some k) → w3.ownsRow w.heap.size 5 1 y.v y.l.length (y.l.map B8) ∧ (∀ k, y.v.ownBlock = some k → v3.ownBlock ≠ some k) := fun y hy1 hy2 => by
                refine ⟨⟨hy1.1, ?_⟩, fun k hk => ?_⟩
                · rcases hy1.2 with h' | ⟨gy, cap, cur, e1, e2, e3, e4⟩
                  · exact .inl h'
                  · exact .inr ⟨gy, cap, cur, e1, e2, (hkeep gy (hy1.lt gy (by rw [e1]; rfl)).2 (fun e => hy2 gy (by rw [e1]; rfl) e.symm)).trans e3, e4⟩
                · rcases hv3 with e | e
                  · rw [e]; exact hy2 k hk
                  · rw [e]
                    have := (hy1.lt k hk).2
                    intro e'; simp at e'; omega
              refine ⟨?_, fun y hy => ?_⟩
              · rw [List.length_append, List.flatMap_append, List.length_singleton, HBN.out]
                exact ho3
              · rcases List.mem_append.1 hy with hy | hy
                · exact key y (HW2.out.2 y hy).1 (HW2.out.2 y hy).2
                · obtain rfl := List.mem_singleton.1 hy
                  exact key _ (by rw [HI5.out] at HOb2; simpa [HI5.out] using HOb2.out) HNE.out)
            have HR3 := Lib.hid (show Frm.rowB ((bs ++ [(⟨t, .slice a1 (e - f) c1, body⟩ : Bk)]).map Bk.pair) = l.take (k + (e + 4)) by
              rw [List.map_append, HI4.out]
              exact row_next l k _ (t, body) rest HRow.out (by rw [HTR.out]; exact HI1.out))
            have HT3 := Lib.hid (tags_snoc bs ⟨t, .slice a1 (e - f) c1, body⟩ tg (by rw [HBN.out]; exact HTK.out) (by rw [HBN.out, HZ.out, HTZ.out]))
            have hln : (bs ++ [(⟨t, .slice a1 (e - f) c1, body⟩ : Bk)]).length = bn + 1 := by rw [List.length_append, HBN.out]; rfl
            have HLN := Lib.hid hln
            clear ho3 hg3 hv3 hkeep cA2 A2 et tb tn hln HW2 HOb2
            have hke : (k : Int) + ((e + 4 : Nat) : Int) = ((k + (e + 4) : Nat) : Int) := by omega
            go_wp2_with fail
            go_roundw
            case rel => exact ⟨k + (e + 4), bs ++ [⟨t, .slice a1 (e - f) c1, body⟩], by go_num, hen, by rw [HLN.out]; omega, by rw [HLN.out]; omega, HW3.out, HR3.out, HT3.out, hB3⟩
            case measure => simp [intOf]; omega
          · rw [decide_eq_false htz] at tb tn
            have HJ := Lib.hid (HBADR.out (by rw [HZ.out]; intro e; exact htz (Option.some.inj e)))
            clear htz
            go_quiet (fail)
            go_wp2_with fail
            refine bodyPost_ret (v := .tuple #[.slice none 0 0, .int .i64 k, .int .i64 133]) (by simp [results, Tryd.results26, go_sem]; done) rfl ⟨_, [], _, k, 133, rfl, below_drewN hB2 _, HJ.out, Lws_nil _ _, rfl, Nat.zero_le _⟩
        · obtain rfl : bn = m := by omega
          have hbm' : ((bn : Int) == (bn : Int)) = true := by simp
          have HJ := Lib.hid (HBADR.out (by rw [List.getElem?_eq_none (by rw [HTL.out]; exact Nat.le_refl _)]; simp))
          go_quiet (fail)
          go_wp2_with fail
          refine bodyPost_ret (v := .tuple #[.slice none 0 0, .int .i64 k, .int .i64 133]) (by simp [results, Tryd.results26, go_sem]; done) rfl ⟨_, [], _, k, 133, rfl, below_drewN hB2 _, HJ.out, Lws_nil _ _, rfl, Nat.zero_le _⟩
      · have hs' : ((s : Int) == 0) = false := by simp; omega
        have HLK := Lib.hid hlk
        have HJ := Lib.hid (HPR.out s (.inr (.inr (.inl ⟨hs, by rw [HL.out]; exact hlt, f, e, by rw [HTR.out]; exact hlk⟩))))
        clear hlk
        go_wp2_with fail
        refine (Read_err (some ⟨b, off + k, none⟩) (n - k) (c - k) (t :: r) f e s _ (HT.out.below hB HT.out.1) HDL.out (by omega) (by omega) (by have := HCM.out; omega) ((HRd.out.below hB).more sB) HLK.out hs).mono ?_
        rintro en w1 ⟨rfl, hb1⟩
        have hB1 := bnext hB hb1
        clear hb1
        go_wp2_with fail
        refine bodyPost_ret (v := .tuple #[.slice none 0 0, .int .i64 k, .int .i64 s]) (by simp [results, Tryd.results26, go_sem]; done) rfl ⟨_, [], _, k, s, rfl, bnext hB1 (by go_grown), HJ.out, Lws_nil _ _, by rw [if_neg hs]; rfl, Nat.zero_le _⟩
    · obtain rfl : k = n := by omega
      rcases Nat.lt_or_ge bn m with hlm | hgm
      · have hlm' : (bn : Int) < m := by omega
        have HJ := Lib.hid (HPR.out 133 (.inr (.inl ⟨rfl, HL.out.symm, by rw [HTL.out]; exact hlm⟩)))
        go_wp2_with fail
        refine bodyPost_ret (v := .tuple #[.slice none 0 0, .int .i64 k, .int .i64 133]) (by simp [results, Tryd.results26, go_sem]; done) rfl ⟨_, [], _, k, 133, rfl, hB, HJ.out, Lws_nil _ _, rfl, Nat.zero_le _⟩
      · obtain rfl : bn = m := by omega
        have hlm' : ¬ (bn : Int) < bn := by omega
        have HJ := Lib.hid (HPR.out 0 (.inl ⟨rfl, HL.out.symm, HTL.out.symm⟩))
        go_wp2_with fail
        refine bodyPost_ret (v := .tuple #[.slice va bn vc, .int .i64 k, .int .i64 0]) (by simp [results, Tryd.results26, go_sem]; done) rfl ⟨_, bs, _, k, 0, rfl, hB, HJ.out, HW.out, ?_, ?_⟩
        · rw [if_pos rfl, List.map_map]; rfl
        · rw [HBN.out, HL.out]; exact hbk
end Go.Proofs.YtolbmjilcngnhaaDoor
