/- One step of the law's script: the kinds that turn nothing. -/
import Derived.Test.YtlmmcffbpdfcjaaTmStp
set_option linter.unusedSimpArgs false
set_option linter.unusedVariables false
namespace Go.Proofs.Ytlmmcffbpdfcjaa
open Go.RowKit Go.Kp Go.ChangeMaps
attribute [local go_sem high] eqT neqT

set_option maxRecDepth 100000 in
set_option maxHeartbeats 8000000 in
theorem step_tell {w : World} {B gw k : Nat} {cs : Array Value} (G : Blk w gw 45 cs) (hcs : cs.size = 6) (x : Qr) (X : x.ok w B) (ck : cs[k]? = some (ptr x.q)) (dk : cs[2 + k]? = some x.lv) (hk : k < 2) (hgf : ¬ x.foot gw) (hgl : x.lv.ownBlock ≠ some gw) (hB : B ≤ w.heap.size)
    (s : Stp) (hs : s.ok) (hon : s.on % 2 = k) (hlen : x.S.length < 5000000000000) (hkd : s.kind = 4) :
    Calls Try.prog 19 #[ptr gw, s.val] w fun en w' => en = .returned (.bool true) ∧ ∃ x', StepP w w' B gw k cs x x' (x.S) := by
  obtain ⟨kind, on, leave, t, u, upto⟩ := s
  obtain ⟨q, m, v, L, M, S, lv⟩ := x
  dsimp only at hon hkd hlen ck dk hgf hgl ⊢
  subst hkd
  have XL := X.list
  dsimp only at XL
  obtain ⟨a, c, rfl, hr, hnil⟩ := rd_row XL
  have hLS : L.length = S.length := len_of_mem X.tq.full.nodup (Tm.sorted_nodup X.sorted) X.mem
  have hlc := owns_cap XL
  have HX := Lib.hid X
  have HS := Lib.hid hs
  have HR := Lib.hid hr
  have HNI := Lib.hid hnil
  have HGF := Lib.hid hgf
  have HGL := Lib.hid hgl
  have hB' := hB
  have dk0 := dk
  obtain ⟨n, hn⟩ : ∃ n, S.length = n := ⟨_, rfl⟩
  have HN := Lib.hid hn
  rw [hn] at dk hlen hLS hlc
  have hm := on_mod on
  rw [hon] at hm
  have hm1 : wrap64 (on.tmod 2 + 2) = on.tmod 2 + 2 := by
    have := tmod2 on
    unfold wrap64
    omega
  have hm2 : (wrap64 (on.tmod 2 + 2)).tmod 2 = k := by rw [hm1]; exact hm
  clear X XL hs hr hnil hgf hgl hB hn hon hm hm1
  go_enter Try.func19, Try.ntmps19
  go_upto_region 2 with (fail)
  (refine wp_at (fun w1 => Blk w1 w.heap.size 50 (Stp.cells ⟨4, on, leave, t, u, upto⟩).toArray ∧ Below w.heap.size w w1) ⟨heap_at rfl, by go_grown⟩ ?_)
  rintro w1 ⟨A, hB1⟩
  have G1 := G.below hB1
  have HT1 := Lib.hid (HX.out.tq.below hB1)
  have HO1 := Lib.hid (show w1.ownsRow B 25 4 (.slice a n c) n (S.flatMap cT) by have h := owns_below HX.out.list hB1; dsimp only at h; rw [HN.out] at h; exact h)
  have HOF := Lib.hid (show ∀ b, (Value.slice a n c).ownBlock = some b → ¬ foot q m v b by have h := HX.out.off; dsimp only at h; rw [HN.out] at h; exact h)
  have HR1 := Lib.hid ((HR.out.below hB1).more hB1.size)
  have HB1 := Lib.hid hB1
  have gq := (G1.cell k).trans ck
  have gl := (G1.cell (2 + k)).trans dk
  have lA := A.lt
  have lG := G1.lt
  have sz1 := hB1.size
  clear hB1
  have s0 := A.cell 0
  have s3 := A.cell 3
  have s4 := A.cell 4
  have s5 := A.cell 5
  have s6 := A.cell 6
  simp only [List.getElem?_toArray, List.getElem?_cons_zero, List.getElem?_cons_succ] at s0 s3 s4 s5 s6
  go_wp2_with fail
  refine (Next_any HT1.out.raw).mono ?_
  rintro en w2 ⟨rfl, hb2⟩
  have HB2 := Lib.hid hb2
  have sz2 := hb2.size
  clear hb2 s3 s4 s5 s6 gq gl s0
  rcases Nat.eq_zero_or_pos n with h0 | h0
  · have hL0 : L = [] := List.eq_nil_of_length_eq_zero (by omega)
    subst hL0
    subst h0
    simp only [List.getElem?_nil, Option.getD_none, List.length_nil, Nat.lt_irrefl, decide_false]
    go_upto_region 22 with (fail)
    (refine wp_at (fun w3 => Below w1.heap.size w1 w3 ∧ Blk w3 w2.heap.size 25 (cT zT).toArray) ⟨bnext HB2.out (by go_grown), heap_at rfl⟩ ?_)
    rintro w3 ⟨hb3, A3⟩
    have x0 := A3.cell 0
    have x1 := A3.cell 1
    have x2 := A3.cell 2
    have x3 := A3.cell 3
    simp only [List.getElem?_toArray, List.getElem?_cons_zero, List.getElem?_cons_succ] at x0 x1 x2 x3
    have lx := A3.lt
    have HB3 := Lib.hid hb3
    clear hb3
    go_wp2_with (go_in)
    (refine region_keep (fun b => b = w2.heap.size) 21 [(0, true), (1, true), (2, true), (3, true), (4, true), (5, true), (6, true), (7, true), (8, true), (9, true), (10, true), (11, true), (12, true), (13, true), (14, true), (15, true), (16, true), (17, true), (18, true), (19, true), (20, true)] (by kernel_rfl) (fun _ _ d _ _ h => by cases d <;> exact h) (by kernel_rfl) ?_; simp only [withOps, List.getElem?_toArray, List.getElem?_cons_zero, List.getElem?_cons_succ, List.drop_succ_cons, List.drop_zero])
    (iterate 8 (refine keep_quiet (v := ?_) rfl ?_ ?_; rotate_left; (focus (intro w' hw'; go_simp; (try with_reducible rfl); done)); try simp only [Act.put, List.setIfInBounds_toArray, List.set_cons_zero, List.set_cons_succ]))
    (iterate 5 ((with_reducible refine plan_skip ?_ ?_); (focus rfl); try simp only [Act.put, List.setIfInBounds_toArray, List.set_cons_zero, List.set_cons_succ]))
    (iterate 8 (refine keep_quiet (v := ?_) rfl ?_ ?_; rotate_left; (focus (intro w' hw'; go_simp; (try with_reducible rfl); done)); try simp only [Act.put, List.setIfInBounds_toArray, List.set_cons_zero, List.set_cons_succ]))
    (with_reducible refine plan_end ?_)
    (try simp only [Act.put, List.setIfInBounds_toArray, List.set_cons_zero, List.set_cons_succ])
    go_upto_region 24 with (fail)
    (refine wp_at (fun w4 => Below w1.heap.size w1 w4) (below_drewN HB3.out 1) ?_)
    intro w4 hb4
    clear x0 x1 x2 x3 A3 lx HB3
    have a4 : Blk w4 w.heap.size 50 _ := A.below hb4
    have HT4 := Lib.hid (HT1.out.below hb4)
    have HR4 := Lib.hid ((HR1.out.below hb4).more hb4.size)
    have HB4 := Lib.hid hb4
    have sz4 := hb4.size
    have l4 := a4.lt
    clear hb4
    have s3 := a4.cell 3
    have s4 := a4.cell 4
    have s5 := a4.cell 5
    have s6 := a4.cell 6
    simp only [List.getElem?_toArray, List.getElem?_cons_zero, List.getElem?_cons_succ] at s3 s4 s5 s6
    have hmt : t ∈ ([] : List Tm.T) ↔ t ∈ S := HX.out.mem t
    have hd1 : decide (t ∈ ([] : List Tm.T)) = decide (t ∈ S) := by simp [hmt]
    generalize hdd : decide (t ∈ S) = d at hd1
    have HD1 := Lib.hid hd1
    have HDD := Lib.hid hdd
    have heq : (d == d) = true := by simp
    have HLS := Lib.hid hLS
    clear hmt hd1 hdd hLS
    go_wp2_with (go_in)
    (refine region_keep (fun b => b = w.heap.size) 14 [(0, true), (1, true), (2, true), (4, true), (5, true), (6, true), (3, false), (7, false), (8, true), (9, true), (10, true), (12, true), (13, true), (11, false)] (by kernel_rfl) (fun _ _ d _ _ h => by cases d <;> exact h) (by kernel_rfl) ?_; simp only [withOps, List.getElem?_toArray, List.getElem?_cons_zero, List.getElem?_cons_succ, List.drop_succ_cons, List.drop_zero])
    (iterate 6 (refine keep_quiet (v := ?_) rfl ?_ ?_; rotate_left; (focus (intro w' hw'; go_simp; (try with_reducible rfl); done)); try simp only [Act.put, List.setIfInBounds_toArray, List.set_cons_zero, List.set_cons_succ]))
    (with_reducible refine plan_loud (fun K hK => ?_))
    go_simp
    refine (Has_any (HT4.out.below (below_drewN (Below.refl _ _) 1)) t HS.out.t).mono ?_
    rintro en w5 ⟨rfl, hb5⟩
    rw [HD1.out]
    refine hK _ _ (fun b hb => hb5.block b (by rw [hb]; exact l4)) ?_
    clear hK K
    have hB5 : Below w4.heap.size w4 w5 := bnext (below_drewN (Below.refl _ _) 1) hb5
    have HB5 := Lib.hid hB5
    have sz5 := hB5.size
    clear hb5
    (try simp only [Act.put, List.setIfInBounds_toArray, List.set_cons_zero, List.set_cons_succ])
    (with_reducible refine plan_loud (fun K hK => ?_))
    go_simp
    refine (Has_ref a 0 c S t _ HN.out (by omega) ((HR4.out.below hB5).more sz5) HX.out.sorted).mono ?_
    rintro en w6 ⟨rfl, hb6⟩
    rw [HDD.out]
    refine hK _ _ (fun b hb => hb6.block b (by rw [hb]; omega)) ?_
    clear hK K
    have HB6 := Lib.hid (bnext HB5.out hb6)
    clear hb6 hB5
    (try simp only [Act.put, List.setIfInBounds_toArray, List.set_cons_zero, List.set_cons_succ])
    (iterate 5 (refine keep_quiet (v := ?_) rfl ?_ ?_; rotate_left; (focus (intro w' hw'; go_simp; (try with_reducible rfl); done)); try simp only [Act.put, List.setIfInBounds_toArray, List.set_cons_zero, List.set_cons_succ]))
    (with_reducible refine plan_loud (fun K hK => ?_))
    go_simp
    refine (Len_any (HT4.out.below HB6.out).raw).mono ?_
    rintro en w7 ⟨rfl, hb7⟩
    rw [HLS.out]
    refine hK _ _ (fun b hb => hb7.block b (by rw [hb]; have := HB6.out.size; omega)) ?_
    clear hK K
    have HB7 := Lib.hid (bnext HB1.out (bnext HB4.out (bnext HB6.out hb7)))
    clear hb7 s3 s4 s5 s6
    (with_reducible refine plan_end ?_)
    (try simp only [Act.put, List.setIfInBounds_toArray, List.set_cons_zero, List.set_cons_succ])
    go_wp2_with fail
    go_returns
    exact ⟨rfl, _, step_still HX.out G dk0 HB7.out⟩
  · obtain ⟨y, hy⟩ : ∃ y, L[0]? = some y := ⟨_, List.getElem?_eq_getElem (by omega)⟩
    have hyL : y ∈ L := List.mem_of_getElem? hy
    obtain ⟨R, hR⟩ := root_first HX.out.mem HX.out.sorted hyL (fun z hz => by
      obtain ⟨j, hj⟩ := List.mem_iff_getElem?.1 hz
      exact HT1.out.heap.root hy j z hj)
    have hS0 : S[0]? = some y := by dsimp only at hR; rw [hR]; rfl
    have hd0 : decide (0 < L.length) = true := by simp; omega
    rw [hy, Option.getD_some, hd0]
    have HS0 := Lib.hid hS0
    clear hy hyL hR hS0 hd0
    go_upto_region 22 with (fail)
    (refine wp_at (fun w3 => Below w1.heap.size w1 w3 ∧ Blk w3 w2.heap.size 25 (cT y).toArray) ⟨bnext HB2.out (by go_grown), heap_at rfl⟩ ?_)
    rintro w3 ⟨hb3, A3⟩
    have x0 := A3.cell 0
    have x1 := A3.cell 1
    have x2 := A3.cell 2
    have x3 := A3.cell 3
    simp only [List.getElem?_toArray, List.getElem?_cons_zero, List.getElem?_cons_succ] at x0 x1 x2 x3
    have lx := A3.lt
    obtain ⟨b, off, rfl, hbb, hbc⟩ := rd_tms (HR1.out.below hb3) (by rw [HN.out]; exact h0)
    obtain ⟨e0, e1, e2, e3⟩ := cells4 hbc HS0.out
    simp only [Nat.zero_mul, Nat.add_zero] at e0 e1 e2 e3
    have hbx : b < w3.heap.size := Nat.lt_of_lt_of_le hbb hb3.size
    have hd2 : decide (0 < n) = true := by simp; omega
    have hd3 : decide ((0 : Int) < (n : Int)) = true := by simp; omega
    have HB3 := Lib.hid hb3
    clear hb3 hbc
    go_wp2_with (go_in)
    (refine region_keep (fun bb => bb = w2.heap.size ∨ bb = b) 21 [(0, true), (1, true), (2, true), (3, true), (4, true), (5, true), (6, true), (7, true), (8, true), (9, true), (10, true), (11, true), (12, true), (13, true), (14, true), (15, true), (16, true), (17, true), (18, true), (19, true), (20, true)] (by kernel_rfl) (fun _ _ d _ _ h => by cases d <;> exact h) (by kernel_rfl) ?_; simp only [withOps, List.getElem?_toArray, List.getElem?_cons_zero, List.getElem?_cons_succ, List.drop_succ_cons, List.drop_zero])
    (iterate 19 (refine keep_quiet (v := ?_) rfl ?_ ?_; rotate_left; (focus (intro w' hw'; go_simp; (try with_reducible rfl); done)); try simp only [Act.put, List.setIfInBounds_toArray, List.set_cons_zero, List.set_cons_succ]))
    (iterate 2 ((with_reducible refine plan_skip ?_ ?_); (focus rfl); try simp only [Act.put, List.setIfInBounds_toArray, List.set_cons_zero, List.set_cons_succ]))
    (with_reducible refine plan_end ?_)
    (try simp only [Act.put, List.setIfInBounds_toArray, List.set_cons_zero, List.set_cons_succ])
    go_upto_region 24 with (fail)
    (refine wp_at (fun w4 => Below w1.heap.size w1 w4) (below_drewN HB3.out 1) ?_)
    intro w4 hb4
    clear x0 x1 x2 x3 A3 lx HB3 e0 e1 e2 e3
    have a4 : Blk w4 w.heap.size 50 _ := A.below hb4
    have HT4 := Lib.hid (HT1.out.below hb4)
    have HR4 := Lib.hid ((HR1.out.below hb4).more hb4.size)
    have HB4 := Lib.hid hb4
    have sz4 := hb4.size
    have l4 := a4.lt
    clear hb4
    have s3 := a4.cell 3
    have s4 := a4.cell 4
    have s5 := a4.cell 5
    have s6 := a4.cell 6
    simp only [List.getElem?_toArray, List.getElem?_cons_zero, List.getElem?_cons_succ] at s3 s4 s5 s6
    have hmt : t ∈ L ↔ t ∈ S := HX.out.mem t
    have hd1 : decide (t ∈ L) = decide (t ∈ S) := by simp [hmt]
    generalize hdd : decide (t ∈ S) = d at hd1
    have HD1 := Lib.hid hd1
    have HDD := Lib.hid hdd
    have heq : (d == d) = true := by simp
    have HLS := Lib.hid hLS
    clear hmt hd1 hdd hLS
    go_wp2_with (go_in)
    (refine region_keep (fun b => b = w.heap.size) 14 [(0, true), (1, true), (2, true), (4, true), (5, true), (6, true), (3, false), (7, false), (8, true), (9, true), (10, true), (12, true), (13, true), (11, false)] (by kernel_rfl) (fun _ _ d _ _ h => by cases d <;> exact h) (by kernel_rfl) ?_; simp only [withOps, List.getElem?_toArray, List.getElem?_cons_zero, List.getElem?_cons_succ, List.drop_succ_cons, List.drop_zero])
    (iterate 6 (refine keep_quiet (v := ?_) rfl ?_ ?_; rotate_left; (focus (intro w' hw'; go_simp; (try with_reducible rfl); done)); try simp only [Act.put, List.setIfInBounds_toArray, List.set_cons_zero, List.set_cons_succ]))
    (with_reducible refine plan_loud (fun K hK => ?_))
    go_simp
    refine (Has_any (HT4.out.below (below_drewN (Below.refl _ _) 1)) t HS.out.t).mono ?_
    rintro en w5 ⟨rfl, hb5⟩
    rw [HD1.out]
    refine hK _ _ (fun b hb => hb5.block b (by rw [hb]; exact l4)) ?_
    clear hK K
    have hB5 : Below w4.heap.size w4 w5 := bnext (below_drewN (Below.refl _ _) 1) hb5
    have HB5 := Lib.hid hB5
    have sz5 := hB5.size
    clear hb5
    (try simp only [Act.put, List.setIfInBounds_toArray, List.set_cons_zero, List.set_cons_succ])
    (with_reducible refine plan_loud (fun K hK => ?_))
    go_simp
    refine (Has_ref (some ⟨b, off, none⟩) n c S t _ HN.out (by omega) ((HR4.out.below hB5).more sz5) HX.out.sorted).mono ?_
    rintro en w6 ⟨rfl, hb6⟩
    rw [HDD.out]
    refine hK _ _ (fun b hb => hb6.block b (by rw [hb]; omega)) ?_
    clear hK K
    have HB6 := Lib.hid (bnext HB5.out hb6)
    clear hb6 hB5
    (try simp only [Act.put, List.setIfInBounds_toArray, List.set_cons_zero, List.set_cons_succ])
    (iterate 5 (refine keep_quiet (v := ?_) rfl ?_ ?_; rotate_left; (focus (intro w' hw'; go_simp; (try with_reducible rfl); done)); try simp only [Act.put, List.setIfInBounds_toArray, List.set_cons_zero, List.set_cons_succ]))
    (with_reducible refine plan_loud (fun K hK => ?_))
    go_simp
    refine (Len_any (HT4.out.below HB6.out).raw).mono ?_
    rintro en w7 ⟨rfl, hb7⟩
    rw [HLS.out]
    refine hK _ _ (fun b hb => hb7.block b (by rw [hb]; have := HB6.out.size; omega)) ?_
    clear hK K
    have HB7 := Lib.hid (bnext HB1.out (bnext HB4.out (bnext HB6.out hb7)))
    clear hb7 s3 s4 s5 s6
    (with_reducible refine plan_end ?_)
    (try simp only [Act.put, List.setIfInBounds_toArray, List.set_cons_zero, List.set_cons_succ])
    go_wp2_with fail
    go_returns
    exact ⟨rfl, _, step_still HX.out G dk0 HB7.out⟩

set_option maxRecDepth 100000 in
set_option maxHeartbeats 8000000 in
theorem step_all {w : World} {B gw k : Nat} {cs : Array Value} (G : Blk w gw 45 cs) (hcs : cs.size = 6) (x : Qr) (X : x.ok w B) (ck : cs[k]? = some (ptr x.q)) (dk : cs[2 + k]? = some x.lv) (hk : k < 2) (hgf : ¬ x.foot gw) (hgl : x.lv.ownBlock ≠ some gw) (hB : B ≤ w.heap.size)
    (s : Stp) (hs : s.ok) (hon : s.on % 2 = k) (hlen : x.S.length < 5000000000000) (hkd : s.kind = 6) :
    Calls Try.prog 19 #[ptr gw, s.val] w fun en w' => en = .returned (.bool true) ∧ ∃ x', StepP w w' B gw k cs x x' (x.S) := by
  obtain ⟨kind, on, leave, t, u, upto⟩ := s
  obtain ⟨q, m, v, L, M, S, lv⟩ := x
  dsimp only at hon hkd hlen ck dk hgf hgl ⊢
  subst hkd
  have XL := X.list
  dsimp only at XL
  obtain ⟨a, c, rfl, hr, hnil⟩ := rd_row XL
  have hLS : L.length = S.length := len_of_mem X.tq.full.nodup (Tm.sorted_nodup X.sorted) X.mem
  have hlc := owns_cap XL
  have HX := Lib.hid X
  have HS := Lib.hid hs
  have HR := Lib.hid hr
  have HNI := Lib.hid hnil
  have HGF := Lib.hid hgf
  have HGL := Lib.hid hgl
  have hB' := hB
  have dk0 := dk
  obtain ⟨n, hn⟩ : ∃ n, S.length = n := ⟨_, rfl⟩
  have HN := Lib.hid hn
  rw [hn] at dk hlen hLS hlc
  have hm := on_mod on
  rw [hon] at hm
  have hm1 : wrap64 (on.tmod 2 + 2) = on.tmod 2 + 2 := by
    have := tmod2 on
    unfold wrap64
    omega
  have hm2 : (wrap64 (on.tmod 2 + 2)).tmod 2 = k := by rw [hm1]; exact hm
  clear X XL hs hr hnil hgf hgl hB hn hon hm hm1
  go_enter Try.func19, Try.ntmps19
  go_upto_region 2 with (fail)
  (refine wp_at (fun w1 => Blk w1 w.heap.size 50 (Stp.cells ⟨6, on, leave, t, u, upto⟩).toArray ∧ Below w.heap.size w w1) ⟨heap_at rfl, by go_grown⟩ ?_)
  rintro w1 ⟨A, hB1⟩
  have G1 := G.below hB1
  have HT1 := Lib.hid (HX.out.tq.below hB1)
  have HO1 := Lib.hid (show w1.ownsRow B 25 4 (.slice a n c) n (S.flatMap cT) by have h := owns_below HX.out.list hB1; dsimp only at h; rw [HN.out] at h; exact h)
  have HOF := Lib.hid (show ∀ b, (Value.slice a n c).ownBlock = some b → ¬ foot q m v b by have h := HX.out.off; dsimp only at h; rw [HN.out] at h; exact h)
  have HR1 := Lib.hid ((HR.out.below hB1).more hB1.size)
  have HB1 := Lib.hid hB1
  have gq := (G1.cell k).trans ck
  have gl := (G1.cell (2 + k)).trans dk
  have lA := A.lt
  have lG := G1.lt
  have sz1 := hB1.size
  clear hB1
  have s0 := A.cell 0
  have s2 := A.cell 2
  simp only [List.getElem?_toArray, List.getElem?_cons_zero, List.getElem?_cons_succ] at s0 s2
  go_wp2_with fail
  refine (All_any _ _).mono ?_
  rintro en w2 ⟨rfl, hA2, hb2⟩
  have HT2 := Lib.hid (HT1.out.below hb2)
  have HR2 := Lib.hid ((HR1.out.below hb2).more hb2.size)
  have A2 := A.below hb2
  have HB2 := Lib.hid hb2
  clear hb2 s0 s2 gq gl
  have lA2 := A2.lt
  have s2 := A2.cell 2
  simp only [List.getElem?_toArray, List.getElem?_cons_zero, List.getElem?_cons_succ] at s2
  have hw1 := walks_any _ S a c leave hA2 HT2.out HX.out.sorted HX.out.mem HR2.out (by rw [HN.out]; omega)
  rw [HN.out] at hw1
  go_wp2_with fail
  refine hw1.mono ?_
  rintro en w3 ⟨rfl, hb3⟩
  have hw2 := walks_any _ S a c 0 (hA2.below hb3) (HT2.out.below hb3) HX.out.sorted HX.out.mem ((HR2.out.below hb3).more hb3.size) (by rw [HN.out]; omega)
  rw [HN.out] at hw2
  clear hw1 s2
  go_wp2_with fail
  refine hw2.mono ?_
  rintro en w4 ⟨rfl, hb4⟩
  have HB4 := Lib.hid (bnext HB1.out (bnext HB2.out (bnext hb3 hb4)))
  clear hw2 hb3 hb4
  go_wp2_with fail
  go_returns
  exact ⟨rfl, _, step_still HX.out G dk0 HB4.out⟩

set_option maxRecDepth 100000 in
set_option maxHeartbeats 8000000 in
theorem step_none {w : World} {B gw k : Nat} {cs : Array Value} (G : Blk w gw 45 cs) (hcs : cs.size = 6) (x : Qr) (X : x.ok w B) (ck : cs[k]? = some (ptr x.q)) (dk : cs[2 + k]? = some x.lv) (hk : k < 2) (hgf : ¬ x.foot gw) (hgl : x.lv.ownBlock ≠ some gw) (hB : B ≤ w.heap.size)
    (s : Stp) (hs : s.ok) (hon : s.on % 2 = k) (hlen : x.S.length < 5000000000000) (hkd : s.kind ≠ 1 ∧ s.kind ≠ 2 ∧ s.kind ≠ 3 ∧ s.kind ≠ 4 ∧ s.kind ≠ 5 ∧ s.kind ≠ 6 ∧ s.kind ≠ 7) :
    Calls Try.prog 19 #[ptr gw, s.val] w fun en w' => en = .returned (.bool true) ∧ ∃ x', StepP w w' B gw k cs x x' (x.S) := by
  obtain ⟨kind, on, leave, t, u, upto⟩ := s
  obtain ⟨q, m, v, L, M, S, lv⟩ := x
  dsimp only at hon hkd hlen ck dk hgf hgl ⊢
  obtain ⟨hk1, hk2, hk3, hk4, hk5, hk6, hk7⟩ := hkd
  have XL := X.list
  dsimp only at XL
  obtain ⟨a, c, rfl, hr, hnil⟩ := rd_row XL
  have hLS : L.length = S.length := len_of_mem X.tq.full.nodup (Tm.sorted_nodup X.sorted) X.mem
  have hlc := owns_cap XL
  have HX := Lib.hid X
  have HS := Lib.hid hs
  have HR := Lib.hid hr
  have HNI := Lib.hid hnil
  have HGF := Lib.hid hgf
  have HGL := Lib.hid hgl
  have hB' := hB
  have dk0 := dk
  obtain ⟨n, hn⟩ : ∃ n, S.length = n := ⟨_, rfl⟩
  have HN := Lib.hid hn
  rw [hn] at dk hlen hLS hlc
  have hm := on_mod on
  rw [hon] at hm
  have hm1 : wrap64 (on.tmod 2 + 2) = on.tmod 2 + 2 := by
    have := tmod2 on
    unfold wrap64
    omega
  have hm2 : (wrap64 (on.tmod 2 + 2)).tmod 2 = k := by rw [hm1]; exact hm
  clear X XL hs hr hnil hgf hgl hB hn hon hm hm1
  go_enter Try.func19, Try.ntmps19
  go_upto_region 2 with (fail)
  (refine wp_at (fun w1 => Blk w1 w.heap.size 50 (Stp.cells ⟨kind, on, leave, t, u, upto⟩).toArray ∧ Below w.heap.size w w1) ⟨heap_at rfl, by go_grown⟩ ?_)
  rintro w1 ⟨A, hB1⟩
  have G1 := G.below hB1
  have HT1 := Lib.hid (HX.out.tq.below hB1)
  have HO1 := Lib.hid (show w1.ownsRow B 25 4 (.slice a n c) n (S.flatMap cT) by have h := owns_below HX.out.list hB1; dsimp only at h; rw [HN.out] at h; exact h)
  have HOF := Lib.hid (show ∀ b, (Value.slice a n c).ownBlock = some b → ¬ foot q m v b by have h := HX.out.off; dsimp only at h; rw [HN.out] at h; exact h)
  have HR1 := Lib.hid ((HR.out.below hB1).more hB1.size)
  have HB1 := Lib.hid hB1
  have gq := (G1.cell k).trans ck
  have gl := (G1.cell (2 + k)).trans dk
  have lA := A.lt
  have lG := G1.lt
  have sz1 := hB1.size
  clear hB1
  have s0 := A.cell 0
  simp only [List.getElem?_toArray, List.getElem?_cons_zero, List.getElem?_cons_succ] at s0
  go_wp2_with fail
  go_returns
  exact ⟨rfl, _, step_still HX.out G dk0 HB1.out⟩

end Go.Proofs.Ytlmmcffbpdfcjaa
