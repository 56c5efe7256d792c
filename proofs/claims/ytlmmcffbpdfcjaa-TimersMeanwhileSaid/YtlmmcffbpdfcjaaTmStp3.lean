/- One step of the law's script: what is due. -/
import Derived.Test.YtlmmcffbpdfcjaaTmStp2
set_option linter.unusedSimpArgs false
set_option linter.unusedVariables false
namespace Go.Proofs.Ytlmmcffbpdfcjaa
open Go.RowKit Go.Kp Go.ChangeMaps

set_option maxRecDepth 100000 in
set_option maxHeartbeats 8000000 in
theorem step_due {w : World} {B gw k : Nat} {cs : Array Value} (G : Blk w gw 45 cs) (hcs : cs.size = 6) (x : Qr) (X : x.ok w B) (ck : cs[k]? = some (ptr x.q)) (dk : cs[2 + k]? = some x.lv) (hk : k < 2) (hgf : ¬ x.foot gw) (hgl : x.lv.ownBlock ≠ some gw) (hB : B ≤ w.heap.size)
    (s : Stp) (hs : s.ok) (hon : s.on % 2 = k) (hlen : x.S.length < 5000000000000) (hkd : s.kind = 5) :
    Calls Try.prog 19 #[ptr gw, s.val] w fun en w' => en = .returned (.bool true) ∧ ∃ x', StepP w w' B gw k cs x x' (x.S.drop (Tm.due x.S s.upto)) := by
  obtain ⟨kind, on, leave, t, u, upto⟩ := s
  obtain ⟨q, m, v, L, M, S, lv⟩ := x
  dsimp only at hon hkd hlen ck dk hgf hgl ⊢
  subst hkd
  have XL := X.list
  dsimp only at XL
  obtain ⟨a, c, rfl, hr, hnil⟩ := rd_row XL
  have hLS : L.length = S.length := len_of_mem X.tq.full.nodup (Tm.sorted_nodup X.sorted) X.mem
  have hlc := owns_cap XL
  have HX := Lib.hid X
  have HS := Lib.hid hs
  have HR := Lib.hid hr
  have HNI := Lib.hid hnil
  have HGF := Lib.hid hgf
  have HGL := Lib.hid hgl
  have hB' := hB
  obtain ⟨n, hn⟩ : ∃ n, S.length = n := ⟨_, rfl⟩
  have HN := Lib.hid hn
  rw [hn] at dk hlen hLS hlc
  have hm := on_mod on
  rw [hon] at hm
  have hm1 : wrap64 (on.tmod 2 + 2) = on.tmod 2 + 2 := by
    have := tmod2 on
    unfold wrap64
    omega
  have hm2 : (wrap64 (on.tmod 2 + 2)).tmod 2 = k := by rw [hm1]; exact hm
  clear X XL hs hr hnil hgf hgl hB hn hon hm hm1
  go_enter Try.func19, Try.ntmps19
  go_upto_region 2 with (fail)
  (refine wp_at (fun w1 => Blk w1 w.heap.size 50 (Stp.cells ⟨5, on, leave, t, u, upto⟩).toArray ∧ Below w.heap.size w w1) ⟨heap_at rfl, by go_grown⟩ ?_)
  rintro w1 ⟨A, hB1⟩
  have G1 := G.below hB1
  have HT1 := Lib.hid (HX.out.tq.below hB1)
  have HO1 := Lib.hid (show w1.ownsRow B 25 4 (.slice a n c) n (S.flatMap cT) by have h := owns_below HX.out.list hB1; dsimp only at h; rw [HN.out] at h; exact h)
  have HOF := Lib.hid (show ∀ b, (Value.slice a n c).ownBlock = some b → ¬ foot q m v b by have h := HX.out.off; dsimp only at h; rw [HN.out] at h; exact h)
  have HR1 := Lib.hid ((HR.out.below hB1).more hB1.size)
  have HB1 := Lib.hid hB1
  have gq := (G1.cell k).trans ck
  have gl := (G1.cell (2 + k)).trans dk
  have lA := A.lt
  have lG := G1.lt
  have sz1 := hB1.size
  clear hB1
  have s0 := A.cell 0
  have s11 := A.cell 11
  simp only [List.getElem?_toArray, List.getElem?_cons_zero, List.getElem?_cons_succ] at s0 s11
  go_wp2_with fail
  refine (Due_any HT1.out upto).mono ?_
  rintro en w2 ⟨vo, rfl, v2, L2, M2, o, hT2, hTU2, hC2, hL2, hO2, hD2⟩
  obtain ⟨hoJ, hdJ⟩ := row_beside HO1.out hTU2 HOF.out
  have G2 : Blk w2 gw 45 cs := (hTU2.fr.block gw lG HGF.out).trans G1
  have A2 : Blk w2 w.heap.size 50 (Stp.cells ⟨5, on, leave, t, u, upto⟩).toArray := (hTU2.fr.block _ lA (fun hf => by have := HX.out.tq.raw.lt _ hf; omega)).trans A
  obtain ⟨a', c', ea, hr2, _⟩ := rd_row hoJ
  cases ea
  have HT2 := Lib.hid hT2
  have HO2 := Lib.hid hoJ
  have HD2 := Lib.hid hdJ
  have HR2 := Lib.hid hr2
  have HTU := Lib.hid ((Turn.of HB1.out).trans hTU2)
  have sz2 := hTU2.fr.size
  have hdl := Tm.due_le S upto
  have ho : o = S.take (Tm.due S upto) := sorted_eq hC2.sorted (HX.out.sorted.sublist (List.take_sublist _ _)) fun y => by
    rw [((hC2.mem hL2 y).1), (Tm.mem_due HX.out.sorted upto y).1]
    have h1 := HX.out.mem y
    dsimp only at h1
    rw [h1]
  have HM2 := Lib.hid (show ∀ y, y ∈ L2 ↔ y ∈ S.drop (Tm.due S upto) from fun y => by
    rw [((hC2.mem hL2 y).2), (Tm.mem_due HX.out.sorted upto y).2]
    have h1 := HX.out.mem y
    dsimp only at h1
    rw [h1])
  subst ho
  have hol : (S.take (Tm.due S upto)).length = Tm.due S upto := by rw [List.length_take]; omega
  rw [hol] at hO2
  obtain ⟨ao, co, rfl, hro, _⟩ := rd_row hO2
  have HOO := Lib.hid hO2
  have HDD := Lib.hid hD2
  have HRO := Lib.hid hro
  have HOL := Lib.hid hol
  rw [HN.out] at hdl
  clear hT2 hTU2 hC2 hL2 hoJ hdJ hr2 hO2 hD2 hro hol gq gl s0 s11
  have s11 := A2.cell 11
  simp only [List.getElem?_toArray, List.getElem?_cons_zero, List.getElem?_cons_succ] at s11
  have lA2 := A2.lt
  generalize hd : Tm.due S upto = d at *
  have HDU := Lib.hid hd
  clear hd
  go_wp2_with fail
  refine (Due_ref a n c S upto _ HN.out (by omega) HR2.out).mono ?_
  rintro en w3 ⟨rfl, hb3⟩
  rw [HDU.out]
  have G3 := G2.below hb3
  have HB3 := Lib.hid hb3
  have sz3 := hb3.size
  clear hb3 s11
  have hcf := fun w => cut_front a n c d (by omega) w
  have hcb := fun w => cut_back a n c d hdl w
  go_wp2_with fail
  refine (Same_ref ao a d co c (S.take d) _ HOL.out (by omega) ((HRO.out.below HB3.out).more sz3) (Rd.front ((HR2.out.below HB3.out).more sz3) d)).mono ?_
  rintro en w4 ⟨rfl, hb4⟩
  have G4 := G3.below hb4
  have HB4 := Lib.hid (bnext HB3.out hb4)
  have sz4 := hb4.size
  have lG4 := G4.lt
  clear hb4
  go_upto_region 29 with (fail)
  go_wp2_with (go_in)
  (refine region_keep (fun b => b = gw) 8 [(0, true), (1, true), (2, true), (3, true), (4, true), (6, true), (7, true), (5, false)] (by kernel_rfl) (fun _ _ d _ _ h => by cases d <;> exact h) (by kernel_rfl) ?_; simp only [withOps, List.getElem?_toArray, List.getElem?_cons_zero, List.getElem?_cons_succ, List.drop_succ_cons, List.drop_zero])
  (iterate 7 (refine keep_quiet (v := ?_) rfl ?_ ?_; rotate_left; (focus (intro w' hw'; go_simp; (try with_reducible rfl); done)); try simp only [Act.put, List.setIfInBounds_toArray, List.set_cons_zero, List.set_cons_succ]))
  (with_reducible refine plan_loud (fun K hK => ?_))
  simp only [Region.wanted, if_pos]
  refine wp_append_tms (.const (.slice none 0 0)) (.tmp 194) rfl w4.heap.size (.slice none 0 0) 0 [] rfl (World.ownsRow_nil _ _ _ _) (backA a d c) (n - d) (c - d) (S.drop d) rfl ?_ (by rw [List.length_drop, HN.out]) ?_ (by omega) (Nat.le_refl _) ?_
  · intro h
    unfold backA at h
    split at h
    · omega
    · have := HNI.out (by simpa using h); omega
  · exact (Rd.backA (HR2.out.below HB4.out) d (by rw [HN.out]; exact hdl) (by rw [HN.out]; exact hlc)).more (by show w2.heap.size ≤ w4.heap.size; omega)
  intro v5 w5 ho5 hg5 hv5
  rw [Nat.zero_add, List.nil_append] at ho5
  have hb5 : Below w4.heap.size w4 w5 := below_of_grown (b := w5) (a := w4) ⟨hg5.os, hg5.tape, hg5.output, hg5.size, hg5.block⟩ (fun k hk => by cases hk)
  refine hK _ _ (fun b hb => hb5.block b (by rw [hb]; exact lG4)) ?_
  clear hK K
  obtain ⟨a5, c5, hv5', _⟩ := rd_row ho5
  have hn5 : n - d = (S.drop d).length := by rw [List.length_drop, HN.out]
  have HO5 := Lib.hid (show w5.ownsRow w4.heap.size 25 4 v5 (S.drop d).length ((S.drop d).flatMap cT) by rw [← hn5]; exact ho5)
  generalize n - d = n5 at hv5'
  subst hv5'
  have G5 : Blk w5 gw 45 cs := G4.below hb5
  have HB5 := Lib.hid (bnext HB4.out hb5)
  have lG5 := G5.lt
  have g5 := (G5.cell (2 + k)).trans dk
  have f5 := G5.free (2 + k)
  clear hb5 hg5 hv5 ho5 hn5 hcf hcb
  (with_reducible refine plan_end ?_)
  (try simp only [Act.put, List.setIfInBounds_toArray, List.set_cons_zero, List.set_cons_succ])
  go_upto_region 30 with (fail)
  have hfin := step_fin (k := k) HX.out hB' HGL.out (by have := G.lt; exact this) G5 HTU.out HT2.out HB5.out HM2.out (HX.out.sorted.sublist (List.drop_sublist _ _)) (owns_mono HO5.out (by omega)) (.inr fun g hg => Nat.le_trans (by omega) (HO5.out.lt g hg).1) (by rw [List.length_drop, HN.out]; omega) HGF.out
  (refine wp_at (fun w6 => StepP w w6 B gw k cs ⟨q, m, v, L, M, S, .slice a S.length c⟩ ⟨q, m, v2, L2, M2, S.drop d, .slice a5 n5 c5⟩ (S.drop d) ∧ w6.ownsRow w1.heap.size 25 4 (.slice ao d co) d ((S.take d).flatMap cT) ∧ w5.heap.size ≤ w6.heap.size)
    ⟨hfin, ?_, by rw [World.size_setCell]; exact Nat.le_refl _⟩ ?_)
  · refine owns_same (owns_below HOO.out HB5.out) fun b hb => heap_set_ne _ _ _ _ _ (fun e => ?_)
    have := (HOO.out.lt b hb).1
    have := G.lt
    omega
  rintro w6 ⟨hst, ho6, sz6⟩
  have HST := Lib.hid hst
  have HO6 := Lib.hid ho6
  have HVO := Lib.hid (show ∀ b, (Value.slice ao d co).ownBlock = some b → w.heap.size ≤ b ∧ ¬ foot q m v2 b ∧ (Value.slice a5 n5 c5).ownBlock ≠ some b from fun b hb => ⟨by have := (HOO.out.lt b hb).1; omega, HDD.out b hb, fun e => by
    have h1 := (HOO.out.lt b hb).2
    have h2 := (HO5.out.lt b e).1
    omega⟩)
  clear hst ho6 hfin g5 f5 lG5
  go_wp2_with fail
  go_loopw [21] (fun vi wr => ∃ (i : Nat) (ys : List Value), vi = .int .i64 i ∧ i ≤ d ∧ wr.ownsRow w1.heap.size 25 4 (.slice ao d co) d ys ∧ Fr (fun b => (Value.slice ao d co).ownBlock = some b) w6 wr) (fun vi _ => d - (intOf vi).toNat)
  case atStart => exact ⟨0, _, rfl, Nat.zero_le _, HO6.out, Fr.refl _ _⟩
  case round =>
    obtain ⟨i, ys, rfl, hi, hoi, hfi⟩ := hrel
    have HOI := Lib.hid hoi
    have HFI := Lib.hid hfi
    rcases Nat.lt_or_ge i d with hlt | hge
    · obtain ⟨g, cg, eg, _, _⟩ := hoi.form (by omega)
      cases eg
      have hyl := hoi.1
      obtain ⟨y0, e0⟩ : ∃ y, ys[i * 4]? = some y := ⟨_, List.getElem?_eq_getElem (by omega)⟩
      obtain ⟨y1, e1⟩ : ∃ y, ys[i * 4 + 1]? = some y := ⟨_, List.getElem?_eq_getElem (by omega)⟩
      obtain ⟨y2, e2⟩ : ∃ y, ys[i * 4 + 2]? = some y := ⟨_, List.getElem?_eq_getElem (by omega)⟩
      obtain ⟨y3, e3⟩ : ∃ y, ys[i * 4 + 3]? = some y := ⟨_, List.getElem?_eq_getElem (by omega)⟩
      have c0 := (hoi.cellAt (i * 4) (by omega)).trans e0
      have c1 := (hoi.cellAt (i * 4 + 1) (by omega)).trans e1
      have c2 := (hoi.cellAt (i * 4 + 2) (by omega)).trans e2
      have c3 := (hoi.cellAt (i * 4 + 3) (by omega)).trans e3
      have hg1 := (hoi.lt g rfl).2
      have hfr := hoi.frozenAt
      clear hoi hfi e0 e1 e2 e3 hyl
      go_wp2_with fail
      go_roundw
      case rel =>
        have s1 := HOI.out.stored (i * 4) (.int .i64 (-99))
        have s2 := s1.1.stored (i * 4 + 1) (.string ⟨#[]⟩)
        have s3 := s2.1.stored (i * 4 + 2) (.int .i64 0)
        have s4 := s3.1.stored (i * 4 + 3) (.int .i64 0)
        exact ⟨i + 1, _, by go_num, by omega, s4.1, (((HFI.out.set _ rfl).set _ rfl).set _ rfl).set _ rfl⟩
      case measure => simp [intOf]; omega
    · obtain rfl : i = d := by omega
      have hfin2 := HST.out.later HFI.out (fun b hb => (HVO.out b hb).1) (fun b hb => (HVO.out b hb).2.1) (fun b hb => (HVO.out b hb).2.2) (by have := G.lt; exact this)
      clear hoi hfi
      go_wp2_with fail
      go_returns
      rw [HDU.out]
      exact ⟨rfl, _, hfin2⟩

end Go.Proofs.Ytlmmcffbpdfcjaa
