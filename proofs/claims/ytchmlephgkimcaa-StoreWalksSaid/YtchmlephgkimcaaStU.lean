/- Store: the document's Take and Copy. -/
import Derived.Test.YtchmlephgkimcaaStT
set_option linter.unusedSimpArgs false
set_option linter.unusedVariables false
namespace Go.Proofs.Ytchmlephgkimcaa
open Go.RowKit Go.Kp Go.St

theorem getL_some {c : Int → Int → Int} {key : Int} {l : List (Int × Int)} {v : Int} (h : getL c key l = some v) : ∃ x, l[placeL c key l]? = some x ∧ x.2 = v := by
  obtain ⟨x, h1, h2, _⟩ := putL_some (val := 0) h
  exact ⟨x, h1, h2⟩

set_option maxRecDepth 100000 in
set_option maxHeartbeats 8000000 in
theorem rTake_any {w : World} {wh : Int} {r : Nat} {L : List (Int × Int)} (hR : RefAt w wh r L) (key : Int) (hn : L.length ≤ 8796093022208) :
    Calls Try.prog 47 #[.pointer (some ⟨r, 0, none⟩), .int .i64 key] w fun e w' => e = .returned (.tuple #[.int .i64 ((getL (cw wh) key L).getD 0), .bool (getL (cw wh) key L).isSome]) ∧ RefAt w' wh r (takeL (cw wh) key L) ∧ w.grownBy w' (some r) := by
  have HR := Lib.hid hR
  have HN := Lib.hid hn
  have hP : placeL (cw wh) key L ≤ L.length := placeL_len L
  have HTA := Lib.hid (takeL_at (c := cw wh) (key := key) L)
  obtain ⟨G, hGe⟩ : ∃ G, getL (cw wh) key L = G := ⟨_, rfl⟩
  obtain ⟨P, hPe⟩ : ∃ P, placeL (cw wh) key L = P := ⟨_, rfl⟩
  obtain ⟨LP, hLP⟩ : ∃ LP, takeL (cw wh) key L = LP := ⟨_, rfl⟩
  rw [hPe] at hP
  rw [hGe, hLP]
  have HGE := Lib.hid hGe
  have HPE := Lib.hid hPe
  have HLP := Lib.hid hLP
  clear hR hn hGe hPe hLP
  go_enter Try.func47, Try.ntmps47
  go_wp2_with fail
  refine (rPlace_any HR.out key HN.out).mono ?_
  rintro en w1 ⟨rfl, hb⟩
  have HB := Lib.hid hb
  have HR1 := Lib.hid (HR.out.below hb)
  have hlim := HN.out
  rw [HPE.out, HGE.out]
  cases G with
  | none =>
    simp only [Option.isSome_none, Option.getD_none]
    have HLP2 : Hid (LP = L) := Lib.hid (by rw [← HLP.out, HTA.out, HGE.out]; rfl)
    clear hb
    go_wp2_with fail
    refine bodyPost_ret (v := .tuple #[.int .i64 0, .bool false]) (by simp [results, Try.results47, go_sem]; done) rfl ⟨rfl, by rw [HLP2.out]; exact HR1.out, grown_of_below HB.out _⟩
  | some v =>
    obtain ⟨x, hx, hxv⟩ := getL_some HGE.out
    have HLP2 : Hid (LP = L.take P ++ L.drop (P + 1)) := Lib.hid (by rw [← HLP.out, HTA.out, HGE.out, HPE.out]; rfl)
    rw [HPE.out] at hx
    obtain ⟨a, cap, hr, hrow, hc1, hc2, hc3⟩ := HR1.out
    have cR := hr.cell
    have qR := hr.lt
    have HRow := Lib.hid hrow
    have HBr := Lib.hid hr
    generalize hnl : L.length = n at hr hc1 hlim hP cR HBr HN
    have HNL := Lib.hid hnl
    have hPn : P < n := by have h1 := (List.getElem?_eq_some_iff.1 hx).1; omega
    obtain ⟨b, off, rfl, hb', hcl⟩ := rd_prs HRow.out.rd (by have := HNL.out; omega)
    obtain ⟨x0, x1⟩ := hcl _ _ hx
    rw [hxv] at x1
    have hwp : IntKind.i64.wrap ((P : Int) + 1) = (P : Int) + 1 := wrap_small (by omega) (by omega)
    have hwn : ((P : Int) + 1).toNat = P + 1 := by omega
    have hw0 : (0 : Int) ≤ (P : Int) + 1 := by omega
    have hw1 : (P : Int) + 1 ≤ n := by omega
    have hw2 : (P : Int) < n := by omega
    have hw3 : (0 : Int) ≤ P := by omega
    have hw5 : (P : Int) ≤ cap := by omega
    clear hr hrow hb hc3 hnl hcl hx hxv
    simp only [Option.isSome_some, Option.getD_some]
    rcases Nat.lt_or_ge (P + 1) cap with hcp | hcp
    · have hcp1 : ¬ cap = P + 1 := by omega
      have hcp2 : ¬ P + 1 = cap := by omega
      have HS := Lib.hid (show RowAt w1 (some ((⟨b, off, none⟩ : Addr).add ((P + 1) * 2))) (L.drop (P + 1)) from by
        rw [Go.WideShapes.add_plain]
        exact HRow.out.drop (P + 1))
      go_wp2_with fail
      (refine region_keep (fun b => b < w1.heap.size) 17 [(0, true), (2, true), (3, true), (4, true), (5, true), (6, true), (7, true), (9, true), (10, true), (11, true), (12, true), (13, true), (14, true), (15, true), (1, false), (8, false), (16, false)] (by kernel_rfl) (fun _ _ d _ _ h => by cases d <;> exact h) (by kernel_rfl) ?_; simp only [withOps, List.getElem?_toArray, List.getElem?_cons_zero, List.getElem?_cons_succ, List.drop_succ_cons, List.drop_zero])
      (iterate 14 (refine keep_quiet (v := ?_) rfl ?_ ?_; rotate_left; (focus (intro w' hw'; go_simp; (try with_reducible rfl); done)); try simp only [Act.put, List.setIfInBounds_toArray, List.set_cons_zero, List.set_cons_succ]))
      (with_reducible refine plan_loud (fun K hK => ?_))
      go_simp
      refine hK _ _ ?_ ?_
      · exact (Keep.refl _ _).alloc (fun b hb => hb) _
      clear hK K
      (try simp only [Act.put, List.setIfInBounds_toArray, List.set_cons_zero, List.set_cons_succ])
      (with_reducible refine plan_loud (fun K hK => ?_))
      simp only [Region.wanted, if_pos]
      have hoe : (w1.alloc (.cells #[] 43)).drew.ownsRow w1.heap.size 43 2 (.slice (some ⟨w1.heap.size, 0, none⟩) 0 0) 0 (prs []) := own_empty w1
      have hB2 : Below w1.heap.size w1 (w1.alloc (.cells #[] 43)).drew := ((Below.refl w1.heap.size w1).alloc (Nat.le_refl _) _).drew
      have hs2 := hB2.size
      refine wp_append_prs (.tmp 26) (.tmp 32) rfl w1.heap.size (.slice (some ⟨w1.heap.size, 0, none⟩) 0 0) 0 [] rfl hoe _ _ _ (L.take P) rfl (fun h => by first | (cases h; done) | rfl) (by rw [List.length_take, HNL.out]; omega) ((HRow.out.below hB2).take P).rd (by omega) hs2 ?_
      rintro v3 w3 hO3 hg3 _
      rw [Nat.zero_add, List.nil_append] at hO3
      have hB3 : Below w1.heap.size w1 w3 := hB2.grown hg3 hs2 (fun kk hkk => by simp [Value.ownBlock] at hkk; omega)
      refine hK _ _ ?_ ?_
      · exact (Keep.refl _ _).grown hg3 (fun x hx => by omega) (fun x hx e => by simp [Value.ownBlock] at e; omega)
      clear hK K
      have HO3 := Lib.hid hO3
      have HB3 := Lib.hid hB3
      have hs3 := hB3.size
      clear hO3 hg3 hB3 hoe hB2 hs2
      (try simp only [Act.put, List.setIfInBounds_toArray, List.set_cons_zero, List.set_cons_succ])
      (with_reducible refine plan_loud (fun K hK => ?_))
      simp only [Region.wanted, if_pos]
      refine wp_append_prs (.tmp 33) (.tmp 40) rfl w1.heap.size v3 P (L.take P) rfl HO3.out _ _ _ (L.drop (P + 1)) rfl (fun h => by first | (cases h; done) | rfl) (by have h1 : (L.drop (P + 1)).length = L.length - (P + 1) := List.length_drop; have h2 := HNL.out; omega) (HS.out.below HB3.out).rd (by omega) (by omega) ?_
      rintro v4 w4 hO4 hg4 _
      have hB4 : Below w1.heap.size w1 w4 := HB3.out.grown hg4 hs3 (fun kk hkk => (HO3.out.lt kk hkk).1)
      refine hK _ _ ?_ ?_
      · exact (Keep.refl _ _).grown hg4 (fun x hx => by omega) (fun x hx e => by have := (HO3.out.lt x e.symm).1; omega)
      clear hK K
      obtain ⟨a4, e4, rfl⟩ := own_formN hO4
      have HO4 := Lib.hid hO4
      have HB4 := Lib.hid hB4
      have hr4 := HBr.out.below hB4
      have HBr4 := Lib.hid hr4
      have c4 := hr4.cell
      have f4 := hr4.free
      have q4 := hr4.lt
      clear hO4 hg4 hB4 hr4 cR
      (with_reducible refine plan_end ?_)
      (try simp only [Act.put, List.setIfInBounds_toArray, List.set_cons_zero, List.set_cons_succ])
      go_wp2_with fail
      refine bodyPost_ret (v := .tuple #[.int .i64 v, .bool true]) (by simp [results, Try.results47, go_sem]; done) rfl ⟨rfl, ?_, ?_⟩
      · rw [HLP2.out]
        exact RefAt.stored HBr4.out rfl rfl qR HO4.out
      · exact grown_set (grown_of_below (bnext HB.out HB4.out) (some r))
    · have hw4 : (P : Int) < (P : Int) + 1 := by omega
      have hw6 : (P : Int) ≤ (P : Int) + 1 := by omega
      obtain rfl : cap = P + 1 := by omega
      obtain rfl : n = P + 1 := by omega
      have HS := Lib.hid (show RowAt w1 (some (⟨b, off, none⟩ : Addr)) (L.drop (P + 1)) from .inl (List.eq_nil_of_length_eq_zero (by rw [List.length_drop, HNL.out]; omega)))
      go_wp2_with fail
      (refine region_keep (fun b => b < w1.heap.size) 17 [(0, true), (2, true), (3, true), (4, true), (5, true), (6, true), (7, true), (9, true), (10, true), (11, true), (12, true), (13, true), (14, true), (15, true), (1, false), (8, false), (16, false)] (by kernel_rfl) (fun _ _ d _ _ h => by cases d <;> exact h) (by kernel_rfl) ?_; simp only [withOps, List.getElem?_toArray, List.getElem?_cons_zero, List.getElem?_cons_succ, List.drop_succ_cons, List.drop_zero])
      (iterate 14 (refine keep_quiet (v := ?_) rfl ?_ ?_; rotate_left; (focus (intro w' hw'; go_simp; (try with_reducible rfl); done)); try simp only [Act.put, List.setIfInBounds_toArray, List.set_cons_zero, List.set_cons_succ]))
      (with_reducible refine plan_loud (fun K hK => ?_))
      go_simp
      refine hK _ _ ?_ ?_
      · exact (Keep.refl _ _).alloc (fun b hb => hb) _
      clear hK K
      (try simp only [Act.put, List.setIfInBounds_toArray, List.set_cons_zero, List.set_cons_succ])
      (with_reducible refine plan_loud (fun K hK => ?_))
      simp only [Region.wanted, if_pos]
      have hoe : (w1.alloc (.cells #[] 43)).drew.ownsRow w1.heap.size 43 2 (.slice (some ⟨w1.heap.size, 0, none⟩) 0 0) 0 (prs []) := own_empty w1
      have hB2 : Below w1.heap.size w1 (w1.alloc (.cells #[] 43)).drew := ((Below.refl w1.heap.size w1).alloc (Nat.le_refl _) _).drew
      have hs2 := hB2.size
      refine wp_append_prs (.tmp 26) (.tmp 32) rfl w1.heap.size (.slice (some ⟨w1.heap.size, 0, none⟩) 0 0) 0 [] rfl hoe _ _ _ (L.take P) rfl (fun h => by first | (cases h; done) | rfl) (by rw [List.length_take, HNL.out]; omega) ((HRow.out.below hB2).take P).rd (by omega) hs2 ?_
      rintro v3 w3 hO3 hg3 _
      rw [Nat.zero_add, List.nil_append] at hO3
      have hB3 : Below w1.heap.size w1 w3 := hB2.grown hg3 hs2 (fun kk hkk => by simp [Value.ownBlock] at hkk; omega)
      refine hK _ _ ?_ ?_
      · exact (Keep.refl _ _).grown hg3 (fun x hx => by omega) (fun x hx e => by simp [Value.ownBlock] at e; omega)
      clear hK K
      have HO3 := Lib.hid hO3
      have HB3 := Lib.hid hB3
      have hs3 := hB3.size
      clear hO3 hg3 hB3 hoe hB2 hs2
      (try simp only [Act.put, List.setIfInBounds_toArray, List.set_cons_zero, List.set_cons_succ])
      (with_reducible refine plan_loud (fun K hK => ?_))
      simp only [Region.wanted, if_pos]
      refine wp_append_prs (.tmp 33) (.tmp 40) rfl w1.heap.size v3 P (L.take P) rfl HO3.out _ _ _ (L.drop (P + 1)) rfl (fun h => by first | (cases h; done) | rfl) (by have h1 : (L.drop (P + 1)).length = L.length - (P + 1) := List.length_drop; have h2 := HNL.out; omega) (HS.out.below HB3.out).rd (by omega) (by omega) ?_
      rintro v4 w4 hO4 hg4 _
      have hB4 : Below w1.heap.size w1 w4 := HB3.out.grown hg4 hs3 (fun kk hkk => (HO3.out.lt kk hkk).1)
      refine hK _ _ ?_ ?_
      · exact (Keep.refl _ _).grown hg4 (fun x hx => by omega) (fun x hx e => by have := (HO3.out.lt x e.symm).1; omega)
      clear hK K
      obtain ⟨a4, e4, rfl⟩ := own_formN hO4
      have HO4 := Lib.hid hO4
      have HB4 := Lib.hid hB4
      have hr4 := HBr.out.below hB4
      have HBr4 := Lib.hid hr4
      have c4 := hr4.cell
      have f4 := hr4.free
      have q4 := hr4.lt
      clear hO4 hg4 hB4 hr4 cR
      (with_reducible refine plan_end ?_)
      (try simp only [Act.put, List.setIfInBounds_toArray, List.set_cons_zero, List.set_cons_succ])
      go_wp2_with fail
      refine bodyPost_ret (v := .tuple #[.int .i64 v, .bool true]) (by simp [results, Try.results47, go_sem]; done) rfl ⟨rfl, ?_, ?_⟩
      · rw [HLP2.out]
        exact RefAt.stored HBr4.out rfl rfl qR HO4.out
      · exact grown_set (grown_of_below (bnext HB.out HB4.out) (some r))

set_option maxRecDepth 100000 in
set_option maxHeartbeats 8000000 in
theorem rCopy_any {w : World} {wh : Int} {r : Nat} {L : List (Int × Int)} (hR : RefAt w wh r L) (hn : L.length ≤ 8796093022208) :
    Calls Try.prog 28 #[.pointer (some ⟨r, 0, none⟩)] w fun e w' => ∃ r', e = .returned (.pointer (some ⟨r', 0, none⟩)) ∧ w.heap.size ≤ r' ∧ RefAt w' wh r' L ∧ Below w.heap.size w w' := by
  obtain ⟨a, cap, hr, hrow, hc1, hc2, hc3⟩ := hR
  have cR := hr.cell
  have qR := hr.lt
  have HRow := Lib.hid hrow
  have HC3 := Lib.hid hc3
  have hlim := hn
  generalize hnl : L.length = n at hr hc1 hlim cR
  have HNL := Lib.hid hnl
  clear hr hrow hc3 hnl hn
  go_enter Try.func28, Try.ntmps28
  go_wp2_with fail
  (refine region_keep (fun b => b < w.heap.size) 10 [(0, true), (1, true), (2, true), (3, true), (5, true), (6, true), (7, true), (8, true), (4, false), (9, false)] (by kernel_rfl) (fun _ _ d _ _ h => by cases d <;> exact h) (by kernel_rfl) ?_; simp only [withOps, List.getElem?_toArray, List.getElem?_cons_zero, List.getElem?_cons_succ, List.drop_succ_cons, List.drop_zero])
  (iterate 8 (refine keep_quiet (v := ?_) rfl ?_ ?_; rotate_left; (focus (intro w' hw'; go_simp; (try with_reducible rfl); done)); try simp only [Act.put, List.setIfInBounds_toArray, List.set_cons_zero, List.set_cons_succ]))
  (with_reducible refine plan_loud (fun K hK => ?_))
  go_simp
  refine hK _ _ ?_ ?_
  · exact (Keep.refl _ _).alloc (fun b hb => hb) _
  clear hK K
  (try simp only [Act.put, List.setIfInBounds_toArray, List.set_cons_zero, List.set_cons_succ])
  (with_reducible refine plan_loud (fun K hK => ?_))
  simp only [Region.wanted, if_pos]
  have hoe : (w.alloc (.cells #[] 43)).drew.ownsRow w.heap.size 43 2 (.slice (some ⟨w.heap.size, 0, none⟩) 0 0) 0 (prs []) := own_empty w
  have hB2 : Below w.heap.size w (w.alloc (.cells #[] 43)).drew := ((Below.refl w.heap.size w).alloc (Nat.le_refl _) _).drew
  have hs2 := hB2.size
  refine wp_append_prs (.tmp 7) (.tmp 11) rfl w.heap.size (.slice (some ⟨w.heap.size, 0, none⟩) 0 0) 0 [] rfl hoe _ _ _ L rfl HC3.out HNL.out (HRow.out.below hB2).rd (by omega) hs2 ?_
  rintro v3 w3 hO3 hg3 _
  rw [Nat.zero_add, List.nil_append] at hO3
  have hB3 : Below w.heap.size w w3 := hB2.grown hg3 hs2 (fun kk hkk => by simp [Value.ownBlock] at hkk; omega)
  refine hK _ _ ?_ ?_
  · exact (Keep.refl _ _).grown hg3 (fun x hx => by omega) (fun x hx e => by simp [Value.ownBlock] at e; omega)
  clear hK K
  obtain ⟨a4, e4, hv, hrow4, h41, h42, h43⟩ := RowAt.of_own hO3
  rw [HNL.out] at hv h41
  subst hv
  have HR4 := Lib.hid hrow4
  have HB3 := Lib.hid hB3
  have hs3 := hB3.size
  clear hO3 hg3 hB3 hoe hB2 hs2 cR qR hrow4
  (with_reducible refine plan_end ?_)
  (try simp only [Act.put, List.setIfInBounds_toArray, List.set_cons_zero, List.set_cons_succ])
  go_wp2_with fail
  go_returns
  refine ⟨_, rfl, hs3, ⟨a4, e4, ?_, HR4.out.below (by go_grown), by rw [HNL.out]; exact h41, h42, h43⟩, HB3.out.trans ((Below.refl _ _).alloc hs3 _)⟩
  rw [HNL.out]
  exact heap_at rfl
end Go.Proofs.Ytchmlephgkimcaa
