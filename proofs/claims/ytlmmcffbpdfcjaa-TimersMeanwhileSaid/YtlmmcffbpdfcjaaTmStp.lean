/- One step of the law's script, kind by kind. -/
import Derived.Test.YtlmmcffbpdfcjaaTmStp0
set_option linter.unusedSimpArgs false
set_option linter.unusedVariables false
namespace Go.Proofs.Ytlmmcffbpdfcjaa
open Go.RowKit Go.Kp Go.ChangeMaps
attribute [local go_sem high] eqT neqT

set_option maxRecDepth 100000 in
set_option maxHeartbeats 8000000 in
theorem step_set {w : World} {B gw k : Nat} {cs : Array Value} (G : Blk w gw 45 cs) (hcs : cs.size = 6) (x : Qr) (X : x.ok w B) (ck : cs[k]? = some (ptr x.q)) (dk : cs[2 + k]? = some x.lv) (hk : k < 2) (hgf : ¬ x.foot gw) (hgl : x.lv.ownBlock ≠ some gw) (hB : B ≤ w.heap.size)
    (s : Stp) (hs : s.ok) (hon : s.on % 2 = k) (hlen : x.S.length < 5000000000000) (hkd : s.kind = 1) :
    Calls Try.prog 19 #[ptr gw, s.val] w fun en w' => en = .returned (.bool true) ∧ ∃ x', StepP w w' B gw k cs x x' (Tm.set x.S s.t) := by
  obtain ⟨kind, on, leave, t, u, upto⟩ := s
  obtain ⟨q, m, v, L, M, S, lv⟩ := x
  dsimp only at hon hkd hlen ck dk hgf hgl ⊢
  subst hkd
  have XL := X.list
  dsimp only at XL
  obtain ⟨a, c, rfl, hr, hnil⟩ := rd_row XL
  have hLS : L.length = S.length := len_of_mem X.tq.full.nodup (Tm.sorted_nodup X.sorted) X.mem
  have hlc := owns_cap XL
  have HX := Lib.hid X
  have HS := Lib.hid hs
  have HR := Lib.hid hr
  have HNI := Lib.hid hnil
  have HGF := Lib.hid hgf
  have HGL := Lib.hid hgl
  have hB' := hB
  obtain ⟨n, hn⟩ : ∃ n, S.length = n := ⟨_, rfl⟩
  have HN := Lib.hid hn
  rw [hn] at dk hlen hLS hlc
  have hm := on_mod on
  rw [hon] at hm
  have hm1 : wrap64 (on.tmod 2 + 2) = on.tmod 2 + 2 := by
    have := tmod2 on
    unfold wrap64
    omega
  have hm2 : (wrap64 (on.tmod 2 + 2)).tmod 2 = k := by rw [hm1]; exact hm
  clear X XL hs hr hnil hgf hgl hB hn hon hm hm1
  go_enter Try.func19, Try.ntmps19
  go_upto_region 2 with (fail)
  (refine wp_at (fun w1 => Blk w1 w.heap.size 50 (Stp.cells ⟨1, on, leave, t, u, upto⟩).toArray ∧ Below w.heap.size w w1) ⟨heap_at rfl, by go_grown⟩ ?_)
  rintro w1 ⟨A, hB1⟩
  have G1 := G.below hB1
  have HT1 := Lib.hid (HX.out.tq.below hB1)
  have HO1 := Lib.hid (show w1.ownsRow B 25 4 (.slice a n c) n (S.flatMap cT) by have h := owns_below HX.out.list hB1; dsimp only at h; rw [HN.out] at h; exact h)
  have HOF := Lib.hid (show ∀ b, (Value.slice a n c).ownBlock = some b → ¬ foot q m v b by have h := HX.out.off; dsimp only at h; rw [HN.out] at h; exact h)
  have HR1 := Lib.hid ((HR.out.below hB1).more hB1.size)
  have HB1 := Lib.hid hB1
  have gq := (G1.cell k).trans ck
  have gl := (G1.cell (2 + k)).trans dk
  have lA := A.lt
  have lG := G1.lt
  have sz1 := hB1.size
  clear hB1
  have s0 := A.cell 0
  have s3 := A.cell 3
  have s4 := A.cell 4
  have s5 := A.cell 5
  have s6 := A.cell 6
  simp only [List.getElem?_toArray, List.getElem?_cons_zero, List.getElem?_cons_succ] at s0 s3 s4 s5 s6
  go_wp2_with fail
  refine (Set_any HT1.out t HS.out.t (by omega)).mono ?_
  rintro en w2 ⟨rfl, v2, L2, M2, hT2, hp2, hTU2⟩
  have hmt : t ∈ L ↔ t ∈ S := HX.out.mem t
  have hd1 : decide (t ∉ L) = !decide (t ∈ S) := by simp [hmt]
  rw [hd1]
  obtain ⟨hoJ, hdJ⟩ := row_beside HO1.out hTU2 HOF.out
  have G2 : Blk w2 gw 45 cs := (hTU2.fr.block gw lG HGF.out).trans G1
  have A2 : Blk w2 w.heap.size 50 (Stp.cells ⟨1, on, leave, t, u, upto⟩).toArray := (hTU2.fr.block _ lA (fun hf => by have := HX.out.tq.raw.lt _ hf; omega)).trans A
  obtain ⟨a', c', ea, hr2, _⟩ := rd_row hoJ
  cases ea
  have HT2 := Lib.hid hT2
  have HO2 := Lib.hid hoJ
  have HD2 := Lib.hid hdJ
  have HR2 := Lib.hid hr2
  have HTU := Lib.hid ((Turn.of HB1.out).trans hTU2)
  have sz2 := hTU2.fr.size
  have HM2 := Lib.hid (show ∀ y, y ∈ L2 ↔ y ∈ Tm.set S t from fun y => by
    rw [hp2.mem_iff, Tm.mem_set]
    have h1 := HX.out.mem y
    dsimp only at h1
    split
    · rename_i hin
      rw [h1]
      exact ⟨.inr, fun h => h.elim (fun e => e ▸ (HX.out.mem t).1 hin) id⟩
    · rw [List.mem_cons, h1])
  clear hT2 hp2 hTU2 hoJ hdJ hr2 hd1 hmt gq gl s0 s3 s4 s5 s6
  have s3 := A2.cell 3
  have s4 := A2.cell 4
  have s5 := A2.cell 5
  have s6 := A2.cell 6
  simp only [List.getElem?_toArray, List.getElem?_cons_zero, List.getElem?_cons_succ] at s3 s4 s5 s6
  generalize hdd : decide (t ∈ S) = d
  have HDD := Lib.hid hdd
  clear hdd
  go_wp2_with fail
  refine (Has_ref a n c S t _ HN.out (by omega) HR2.out HX.out.sorted).mono ?_
  rintro en w3 ⟨rfl, hb3⟩
  rw [HDD.out]
  have G3 := G2.below hb3
  have A3 := A2.below hb3
  have HO3 := Lib.hid (owns_below HO2.out hb3)
  have HB3 := Lib.hid hb3
  have sz3 := hb3.size
  clear hb3 s3 s4 s5 s6
  have s3 := A3.cell 3
  have s4 := A3.cell 4
  have s5 := A3.cell 5
  have s6 := A3.cell 6
  simp only [List.getElem?_toArray, List.getElem?_cons_zero, List.getElem?_cons_succ] at s3 s4 s5 s6
  have lA3 := A3.lt
  have lG3 := G3.lt
  go_upto_region 8 with (fail)
  go_wp2_with (go_in)
  (refine region_keep (fun b => b = gw ∨ b = w.heap.size) 8 [(0, true), (1, true), (2, true), (3, true), (4, true), (6, true), (7, true), (5, false)] (by kernel_rfl) (fun _ _ d _ _ h => by cases d <;> exact h) (by kernel_rfl) ?_; simp only [withOps, List.getElem?_toArray, List.getElem?_cons_zero, List.getElem?_cons_succ, List.drop_succ_cons, List.drop_zero])
  (iterate 7 (refine keep_quiet (v := ?_) rfl ?_ ?_; rotate_left; (focus (intro w' hw'; go_simp; (try with_reducible rfl); done)); try simp only [Act.put, List.setIfInBounds_toArray, List.set_cons_zero, List.set_cons_succ]))
  (with_reducible refine plan_loud (fun K hK => ?_))
  go_simp
  refine (Set_ref B (.slice a n c) S t (by rw [HN.out]; exact HO3.out) (by show B ≤ w3.heap.size; omega) HX.out.sorted (by rw [HN.out]; exact hlen)).mono ?_
  rintro en w4 ⟨v', rfl, hmade⟩
  obtain ⟨a4, c4, hv4, _⟩ := rd_row hmade.1
  generalize (Tm.set S t).length = n4 at hv4
  subst hv4
  refine hK _ _ (fun b hb => hmade.2.2.block b (by rcases hb with rfl | rfl <;> assumption)) ?_
  clear hK K
  have G4 : Blk w4 gw 45 cs := (hmade.2.2.block gw lG3).trans G3
  have HMD := Lib.hid (show MadeP w3 w4 B (.slice a n c) (.slice a4 n4 c4) (Tm.set S t) from ⟨hmade.1, hmade.2.1, bnext (by go_grown) hmade.2.2⟩)
  have lG4 := G4.lt
  have g4 := (G4.cell (2 + k)).trans dk
  have f4 := G4.free (2 + k)
  clear hmade s3 s4 s5 s6
  (with_reducible refine plan_end ?_)
  (try simp only [Act.put, List.setIfInBounds_toArray, List.set_cons_zero, List.set_cons_succ])
  go_wp2_with fail
  have hfin := step_fin (k := k) HX.out hB' HGL.out (by have := G.lt; exact this) G4 HTU.out HT2.out (bnext HB3.out HMD.out.2.2) HM2.out (Tm.sorted_set HX.out.sorted t) HMD.out.1 (HMD.out.2.1.imp (fun e => by rw [e, HN.out]) fun h g hg => Nat.le_trans sz3 (h g hg)) (by have := Tm.set_length S t; have := HN.out; omega) HGF.out
  go_returns
  exact ⟨by simp, _, hfin⟩

set_option maxRecDepth 100000 in
set_option maxHeartbeats 8000000 in
theorem step_drop {w : World} {B gw k : Nat} {cs : Array Value} (G : Blk w gw 45 cs) (hcs : cs.size = 6) (x : Qr) (X : x.ok w B) (ck : cs[k]? = some (ptr x.q)) (dk : cs[2 + k]? = some x.lv) (hk : k < 2) (hgf : ¬ x.foot gw) (hgl : x.lv.ownBlock ≠ some gw) (hB : B ≤ w.heap.size)
    (s : Stp) (hs : s.ok) (hon : s.on % 2 = k) (hlen : x.S.length < 5000000000000) (hkd : s.kind = 2) :
    Calls Try.prog 19 #[ptr gw, s.val] w fun en w' => en = .returned (.bool true) ∧ ∃ x', StepP w w' B gw k cs x x' (Tm.drop x.S s.t) := by
  obtain ⟨kind, on, leave, t, u, upto⟩ := s
  obtain ⟨q, m, v, L, M, S, lv⟩ := x
  dsimp only at hon hkd hlen ck dk hgf hgl ⊢
  subst hkd
  have XL := X.list
  dsimp only at XL
  obtain ⟨a, c, rfl, hr, hnil⟩ := rd_row XL
  have hLS : L.length = S.length := len_of_mem X.tq.full.nodup (Tm.sorted_nodup X.sorted) X.mem
  have hlc := owns_cap XL
  have HX := Lib.hid X
  have HS := Lib.hid hs
  have HR := Lib.hid hr
  have HNI := Lib.hid hnil
  have HGF := Lib.hid hgf
  have HGL := Lib.hid hgl
  have hB' := hB
  obtain ⟨n, hn⟩ : ∃ n, S.length = n := ⟨_, rfl⟩
  have HN := Lib.hid hn
  rw [hn] at dk hlen hLS hlc
  have hm := on_mod on
  rw [hon] at hm
  have hm1 : wrap64 (on.tmod 2 + 2) = on.tmod 2 + 2 := by
    have := tmod2 on
    unfold wrap64
    omega
  have hm2 : (wrap64 (on.tmod 2 + 2)).tmod 2 = k := by rw [hm1]; exact hm
  clear X XL hs hr hnil hgf hgl hB hn hon hm hm1
  go_enter Try.func19, Try.ntmps19
  go_upto_region 2 with (fail)
  (refine wp_at (fun w1 => Blk w1 w.heap.size 50 (Stp.cells ⟨2, on, leave, t, u, upto⟩).toArray ∧ Below w.heap.size w w1) ⟨heap_at rfl, by go_grown⟩ ?_)
  rintro w1 ⟨A, hB1⟩
  have G1 := G.below hB1
  have HT1 := Lib.hid (HX.out.tq.below hB1)
  have HO1 := Lib.hid (show w1.ownsRow B 25 4 (.slice a n c) n (S.flatMap cT) by have h := owns_below HX.out.list hB1; dsimp only at h; rw [HN.out] at h; exact h)
  have HOF := Lib.hid (show ∀ b, (Value.slice a n c).ownBlock = some b → ¬ foot q m v b by have h := HX.out.off; dsimp only at h; rw [HN.out] at h; exact h)
  have HR1 := Lib.hid ((HR.out.below hB1).more hB1.size)
  have HB1 := Lib.hid hB1
  have gq := (G1.cell k).trans ck
  have gl := (G1.cell (2 + k)).trans dk
  have lA := A.lt
  have lG := G1.lt
  have sz1 := hB1.size
  clear hB1
  have s0 := A.cell 0
  have s3 := A.cell 3
  have s4 := A.cell 4
  have s5 := A.cell 5
  have s6 := A.cell 6
  simp only [List.getElem?_toArray, List.getElem?_cons_zero, List.getElem?_cons_succ] at s0 s3 s4 s5 s6
  go_wp2_with fail
  refine (Drop_any HT1.out t HS.out.t).mono ?_
  rintro en w2 ⟨rfl, v2, L2, M2, hT2, hp2, hTU2⟩
  have hmt : t ∈ L ↔ t ∈ S := HX.out.mem t
  have hd1 : decide (t ∈ L) = decide (t ∈ S) := by simp [hmt]
  rw [hd1]
  obtain ⟨hoJ, hdJ⟩ := row_beside HO1.out hTU2 HOF.out
  have G2 : Blk w2 gw 45 cs := (hTU2.fr.block gw lG HGF.out).trans G1
  have A2 : Blk w2 w.heap.size 50 (Stp.cells ⟨2, on, leave, t, u, upto⟩).toArray := (hTU2.fr.block _ lA (fun hf => by have := HX.out.tq.raw.lt _ hf; omega)).trans A
  obtain ⟨a', c', ea, hr2, _⟩ := rd_row hoJ
  cases ea
  have HT2 := Lib.hid hT2
  have HO2 := Lib.hid hoJ
  have HD2 := Lib.hid hdJ
  have HR2 := Lib.hid hr2
  have HTU := Lib.hid ((Turn.of HB1.out).trans hTU2)
  have sz2 := hTU2.fr.size
  have HM2 := Lib.hid (show ∀ y, y ∈ L2 ↔ y ∈ Tm.drop S t from fun y => by
    have h1 := HX.out.mem y
    dsimp only at h1
    rw [hp2.mem_iff, HT1.out.full.nodup.mem_erase_iff, Tm.mem_drop, h1])
  clear hT2 hp2 hTU2 hoJ hdJ hr2 hd1 hmt gq gl s0 s3 s4 s5 s6
  have s3 := A2.cell 3
  have s4 := A2.cell 4
  have s5 := A2.cell 5
  have s6 := A2.cell 6
  simp only [List.getElem?_toArray, List.getElem?_cons_zero, List.getElem?_cons_succ] at s3 s4 s5 s6
  generalize hdd : decide (t ∈ S) = d
  have HDD := Lib.hid hdd
  clear hdd
  go_wp2_with fail
  refine (Has_ref a n c S t _ HN.out (by omega) HR2.out HX.out.sorted).mono ?_
  rintro en w3 ⟨rfl, hb3⟩
  rw [HDD.out]
  have G3 := G2.below hb3
  have A3 := A2.below hb3
  have HO3 := Lib.hid (owns_below HO2.out hb3)
  have HB3 := Lib.hid hb3
  have sz3 := hb3.size
  clear hb3 s3 s4 s5 s6
  have s3 := A3.cell 3
  have s4 := A3.cell 4
  have s5 := A3.cell 5
  have s6 := A3.cell 6
  simp only [List.getElem?_toArray, List.getElem?_cons_zero, List.getElem?_cons_succ] at s3 s4 s5 s6
  have lA3 := A3.lt
  have lG3 := G3.lt
  go_upto_region 13 with (fail)
  go_wp2_with (go_in)
  (refine region_keep (fun b => b = gw ∨ b = w.heap.size) 8 [(0, true), (1, true), (2, true), (3, true), (4, true), (6, true), (7, true), (5, false)] (by kernel_rfl) (fun _ _ d _ _ h => by cases d <;> exact h) (by kernel_rfl) ?_; simp only [withOps, List.getElem?_toArray, List.getElem?_cons_zero, List.getElem?_cons_succ, List.drop_succ_cons, List.drop_zero])
  (iterate 7 (refine keep_quiet (v := ?_) rfl ?_ ?_; rotate_left; (focus (intro w' hw'; go_simp; (try with_reducible rfl); done)); try simp only [Act.put, List.setIfInBounds_toArray, List.set_cons_zero, List.set_cons_succ]))
  (with_reducible refine plan_loud (fun K hK => ?_))
  go_simp
  refine (Drop_ref B (.slice a n c) S t (by rw [HN.out]; exact HO3.out) (by show B ≤ w3.heap.size; omega) (by rw [HN.out]; omega)).mono ?_
  rintro en w4 ⟨v', rfl, hmade⟩
  obtain ⟨a4, c4, hv4, _⟩ := rd_row hmade.1
  generalize (Tm.drop S t).length = n4 at hv4
  subst hv4
  refine hK _ _ (fun b hb => hmade.2.2.block b (by rcases hb with rfl | rfl <;> assumption)) ?_
  clear hK K
  have G4 : Blk w4 gw 45 cs := (hmade.2.2.block gw lG3).trans G3
  have HMD := Lib.hid (show MadeP w3 w4 B (.slice a n c) (.slice a4 n4 c4) (Tm.drop S t) from ⟨hmade.1, hmade.2.1, bnext (by go_grown) hmade.2.2⟩)
  have lG4 := G4.lt
  have g4 := (G4.cell (2 + k)).trans dk
  have f4 := G4.free (2 + k)
  clear hmade s3 s4 s5 s6
  (with_reducible refine plan_end ?_)
  (try simp only [Act.put, List.setIfInBounds_toArray, List.set_cons_zero, List.set_cons_succ])
  go_wp2_with fail
  have hfin := step_fin (k := k) HX.out hB' HGL.out (by have := G.lt; exact this) G4 HTU.out HT2.out (bnext HB3.out HMD.out.2.2) HM2.out (Tm.sorted_drop HX.out.sorted t) HMD.out.1 (HMD.out.2.1.imp (fun e => by rw [e, HN.out]) fun h g hg => Nat.le_trans sz3 (h g hg)) (by have := Tm.drop_length S t; have := HN.out; omega) HGF.out
  go_returns
  exact ⟨by simp, _, hfin⟩

set_option maxRecDepth 100000 in
set_option maxHeartbeats 8000000 in
theorem step_move {w : World} {B gw k : Nat} {cs : Array Value} (G : Blk w gw 45 cs) (hcs : cs.size = 6) (x : Qr) (X : x.ok w B) (ck : cs[k]? = some (ptr x.q)) (dk : cs[2 + k]? = some x.lv) (hk : k < 2) (hgf : ¬ x.foot gw) (hgl : x.lv.ownBlock ≠ some gw) (hB : B ≤ w.heap.size)
    (s : Stp) (hs : s.ok) (hon : s.on % 2 = k) (hlen : x.S.length < 5000000000000) (hkd : s.kind = 3) :
    Calls Try.prog 19 #[ptr gw, s.val] w fun en w' => en = .returned (.bool true) ∧ ∃ x', StepP w w' B gw k cs x x' (Tm.set (Tm.drop x.S s.t) s.u) := by
  obtain ⟨kind, on, leave, t, u, upto⟩ := s
  obtain ⟨q, m, v, L, M, S, lv⟩ := x
  dsimp only at hon hkd hlen ck dk hgf hgl ⊢
  subst hkd
  have XL := X.list
  dsimp only at XL
  obtain ⟨a, c, rfl, hr, hnil⟩ := rd_row XL
  have hLS : L.length = S.length := len_of_mem X.tq.full.nodup (Tm.sorted_nodup X.sorted) X.mem
  have hlc := owns_cap XL
  have HX := Lib.hid X
  have HS := Lib.hid hs
  have HR := Lib.hid hr
  have HNI := Lib.hid hnil
  have HGF := Lib.hid hgf
  have HGL := Lib.hid hgl
  have hB' := hB
  obtain ⟨n, hn⟩ : ∃ n, S.length = n := ⟨_, rfl⟩
  have HN := Lib.hid hn
  rw [hn] at dk hlen hLS hlc
  have hm := on_mod on
  rw [hon] at hm
  have hm1 : wrap64 (on.tmod 2 + 2) = on.tmod 2 + 2 := by
    have := tmod2 on
    unfold wrap64
    omega
  have hm2 : (wrap64 (on.tmod 2 + 2)).tmod 2 = k := by rw [hm1]; exact hm
  clear X XL hs hr hnil hgf hgl hB hn hon hm hm1
  go_enter Try.func19, Try.ntmps19
  go_upto_region 2 with (fail)
  (refine wp_at (fun w1 => Blk w1 w.heap.size 50 (Stp.cells ⟨3, on, leave, t, u, upto⟩).toArray ∧ Below w.heap.size w w1) ⟨heap_at rfl, by go_grown⟩ ?_)
  rintro w1 ⟨A, hB1⟩
  have G1 := G.below hB1
  have HT1 := Lib.hid (HX.out.tq.below hB1)
  have HO1 := Lib.hid (show w1.ownsRow B 25 4 (.slice a n c) n (S.flatMap cT) by have h := owns_below HX.out.list hB1; dsimp only at h; rw [HN.out] at h; exact h)
  have HOF := Lib.hid (show ∀ b, (Value.slice a n c).ownBlock = some b → ¬ foot q m v b by have h := HX.out.off; dsimp only at h; rw [HN.out] at h; exact h)
  have HR1 := Lib.hid ((HR.out.below hB1).more hB1.size)
  have HB1 := Lib.hid hB1
  have gq := (G1.cell k).trans ck
  have gl := (G1.cell (2 + k)).trans dk
  have lA := A.lt
  have lG := G1.lt
  have sz1 := hB1.size
  clear hB1
  have s0 := A.cell 0
  have s3 := A.cell 3
  have s4 := A.cell 4
  have s5 := A.cell 5
  have s6 := A.cell 6
  have s7 := A.cell 7
  have s8 := A.cell 8
  have s9 := A.cell 9
  have s10 := A.cell 10
  simp only [List.getElem?_toArray, List.getElem?_cons_zero, List.getElem?_cons_succ] at s0 s3 s4 s5 s6 s7 s8 s9 s10
  go_wp2_with fail
  refine (Move_any HT1.out t u HS.out.t HS.out.u (by omega)).mono ?_
  rintro en w2 ⟨rfl, v2, L2, M2, hT2, hp2, hTU2⟩
  have hmt : t ∈ L ↔ t ∈ S := HX.out.mem t
  have hd1 : decide (t ∈ L) = decide (t ∈ S) := by simp [hmt]
  rw [hd1]
  obtain ⟨hoJ, hdJ⟩ := row_beside HO1.out hTU2 HOF.out
  have G2 : Blk w2 gw 45 cs := (hTU2.fr.block gw lG HGF.out).trans G1
  have A2 : Blk w2 w.heap.size 50 (Stp.cells ⟨3, on, leave, t, u, upto⟩).toArray := (hTU2.fr.block _ lA (fun hf => by have := HX.out.tq.raw.lt _ hf; omega)).trans A
  obtain ⟨a', c', ea, hr2, _⟩ := rd_row hoJ
  cases ea
  have HT2 := Lib.hid hT2
  have HO2 := Lib.hid hoJ
  have HD2 := Lib.hid hdJ
  have HR2 := Lib.hid hr2
  have HTU := Lib.hid ((Turn.of HB1.out).trans hTU2)
  have sz2 := hTU2.fr.size
  have HM2 := Lib.hid (show ∀ y, y ∈ L2 ↔ y ∈ Tm.set (Tm.drop S t) u from fun y => by
    have h1 := HX.out.mem y
    dsimp only at h1
    rw [hp2 y, Tm.mem_set, Tm.mem_drop, h1])
  clear hT2 hp2 hTU2 hoJ hdJ hr2 hd1 hmt gq gl s0 s3 s4 s5 s6 s7 s8 s9 s10
  have s3 := A2.cell 3
  have s4 := A2.cell 4
  have s5 := A2.cell 5
  have s6 := A2.cell 6
  have s7 := A2.cell 7
  have s8 := A2.cell 8
  have s9 := A2.cell 9
  have s10 := A2.cell 10
  simp only [List.getElem?_toArray, List.getElem?_cons_zero, List.getElem?_cons_succ] at s3 s4 s5 s6 s7 s8 s9 s10
  generalize hdd : decide (t ∈ S) = d
  have HDD := Lib.hid hdd
  clear hdd
  go_wp2_with fail
  refine (Has_ref a n c S t _ HN.out (by omega) HR2.out HX.out.sorted).mono ?_
  rintro en w3 ⟨rfl, hb3⟩
  rw [HDD.out]
  have G3 := G2.below hb3
  have A3 := A2.below hb3
  have HO3 := Lib.hid (owns_below HO2.out hb3)
  have HB3 := Lib.hid hb3
  have sz3 := hb3.size
  clear hb3 s3 s4 s5 s6 s7 s8 s9 s10
  have s3 := A3.cell 3
  have s4 := A3.cell 4
  have s5 := A3.cell 5
  have s6 := A3.cell 6
  have s7 := A3.cell 7
  have s8 := A3.cell 8
  have s9 := A3.cell 9
  have s10 := A3.cell 10
  simp only [List.getElem?_toArray, List.getElem?_cons_zero, List.getElem?_cons_succ] at s3 s4 s5 s6 s7 s8 s9 s10
  have lA3 := A3.lt
  have lG3 := G3.lt
  go_upto_region 18 with (fail)
  go_wp2_with (go_in)
  (refine region_keep (fun b => b = gw ∨ b = w.heap.size) 11 [(0, true), (1, true), (2, true), (3, true), (4, true), (6, true), (7, true), (9, true), (10, true), (5, false), (8, false)] (by kernel_rfl) (fun _ _ d _ _ h => by cases d <;> exact h) (by kernel_rfl) ?_; simp only [withOps, List.getElem?_toArray, List.getElem?_cons_zero, List.getElem?_cons_succ, List.drop_succ_cons, List.drop_zero])
  (iterate 9 (refine keep_quiet (v := ?_) rfl ?_ ?_; rotate_left; (focus (intro w' hw'; go_simp; (try with_reducible rfl); done)); try simp only [Act.put, List.setIfInBounds_toArray, List.set_cons_zero, List.set_cons_succ]))
  (with_reducible refine plan_loud (fun K hK => ?_))
  go_simp
  refine (Drop_ref B (.slice a n c) S t (by rw [HN.out]; exact HO3.out) (by show B ≤ w3.heap.size; omega) (by rw [HN.out]; omega)).mono ?_
  rintro en w5 ⟨v5, rfl, hmade⟩
  refine hK _ _ (fun b hb => hmade.2.2.block b (by rcases hb with rfl | rfl <;> assumption)) ?_
  clear hK K
  have G5 : Blk w5 gw 45 cs := (hmade.2.2.block gw lG3).trans G3
  have A5 : Blk w5 w.heap.size 50 _ := (hmade.2.2.block _ lA3).trans A3
  have HM5 := Lib.hid (show MadeP w3 w5 B (.slice a n c) v5 (Tm.drop S t) from ⟨hmade.1, hmade.2.1, bnext (by go_grown) hmade.2.2⟩)
  have sz5 : w3.heap.size ≤ w5.heap.size := hmade.2.2.size
  clear hmade s3 s4 s5 s6 s7 s8 s9 s10
  have lA5 := A5.lt
  have lG5 := G5.lt
  (try simp only [Act.put, List.setIfInBounds_toArray, List.set_cons_zero, List.set_cons_succ])
  (with_reducible refine plan_loud (fun K hK => ?_))
  go_simp
  refine (Set_ref B v5 (Tm.drop S t) u HM5.out.1 (by omega) (Tm.sorted_drop HX.out.sorted t) (by have := Tm.drop_length S t; rw [HN.out] at this; omega)).mono ?_
  rintro en w4 ⟨v', rfl, hmade⟩
  obtain ⟨a4, c4, hv4, _⟩ := rd_row hmade.1
  generalize (Tm.set (Tm.drop S t) u).length = n4 at hv4
  subst hv4
  refine hK _ _ (fun b hb => hmade.2.2.block b (by rcases hb with rfl | rfl <;> assumption)) ?_
  clear hK K
  have G4 : Blk w4 gw 45 cs := G5.below hmade.2.2
  have HMD := Lib.hid (show MadeP w3 w4 B (.slice a n c) (.slice a4 n4 c4) (Tm.set (Tm.drop S t) u) from ⟨hmade.1, by
    rcases hmade.2.1 with e | h
    · rw [e]; exact HM5.out.2.1
    · exact .inr fun g hg => Nat.le_trans sz5 (h g hg), bnext HM5.out.2.2 hmade.2.2⟩)
  have lG4 := G4.lt
  have g4 := (G4.cell (2 + k)).trans dk
  have f4 := G4.free (2 + k)
  clear hmade
  (with_reducible refine plan_end ?_)
  (try simp only [Act.put, List.setIfInBounds_toArray, List.set_cons_zero, List.set_cons_succ])
  go_wp2_with fail
  have hfin := step_fin (k := k) HX.out hB' HGL.out (by have := G.lt; exact this) G4 HTU.out HT2.out (bnext HB3.out HMD.out.2.2) HM2.out (Tm.sorted_set (Tm.sorted_drop HX.out.sorted t) u) HMD.out.1 (HMD.out.2.1.imp (fun e => by rw [e, HN.out]) fun h g hg => Nat.le_trans sz3 (h g hg)) (by have := Tm.set_length (Tm.drop S t) u; have := Tm.drop_length S t; have := HN.out; omega) HGF.out
  go_returns
  exact ⟨by simp, _, hfin⟩

end Go.Proofs.Ytlmmcffbpdfcjaa
