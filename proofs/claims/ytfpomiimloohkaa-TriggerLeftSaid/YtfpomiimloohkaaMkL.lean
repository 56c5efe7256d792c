/- TriggerLeft: the walk. -/
import Derived.Test.YtfpomiimloohkaaMkC
set_option linter.unusedSimpArgs false
set_option linter.unusedVariables false
namespace Go.Proofs.Ytfpomiimloohkaa
open Go.RowKit Go.Kp Go.So

abbrev kLeft : ByteArray := ⟨#[107]⟩
theorem outs_append {c : Conf} {fr up : Int} {A B : List Win} : outsL c fr up (A ++ B) = outsL c fr up A ++ outsL c fr up B := by
  unfold outsL; rw [List.filter_append, List.map_append]
theorem take_drop {L : List Win} {k : Nat} {x : Win} (hx : L[k]? = some x) : L = L.take k ++ x :: L.drop (k + 1) := by
  obtain ⟨h, rfl⟩ := List.getElem?_eq_some_iff.1 hx
  rw [← List.drop_eq_getElem_cons h, List.take_append_drop]
theorem outs_at {c : Conf} {fr up : Int} {L : List Win} {k : Nat} {x : Win} (hx : L[k]? = some x) (ho : ovT c.la up x = false) :
    (outsL c fr up L)[(outsL c fr up (L.take k)).length]? = some (twin fr up c.di x) := by
  have e : outsL c fr up L = outsL c fr up (L.take k) ++ outsL c fr up (x :: L.drop (k + 1)) := by rw [← outs_append, ← take_drop hx]
  rw [e, List.getElem?_append_right (Nat.le_refl _), Nat.sub_self]
  unfold outsL
  rw [List.filter_cons, if_pos (by rw [ho]; rfl)]
  rfl
theorem ord_len : ∀ (n : Nat) {P Q : List Pa}, P.length ≤ n → (∀ k, P.filter (fun x => x.e == k) = Q.filter (fun x => x.e == k)) → P.length = Q.length
  | 0, P, Q, hn, h => by
    obtain rfl : P = [] := List.eq_nil_of_length_eq_zero (by omega)
    cases Q with
    | nil => rfl
    | cons y Q => have := h y.e; simp at this
  | n + 1, [], Q, hn, h => by
    cases Q with
    | nil => rfl
    | cons y Q => have := h y.e; simp at this
  | n + 1, p :: P, Q, hn, h => by
    have hp : ∀ (R : List Pa), R.length = (R.filter (fun x => x.e == p.e)).length + (R.filter (fun x => !(x.e == p.e))).length := fun R => by
      induction R with
      | nil => rfl
      | cons r R ih => cases hr : (r.e == p.e) <;> simp [hr] at * <;> omega
    have hl : ((p :: P).filter (fun x => !(x.e == p.e))).length ≤ n := by
      have := List.length_filter_le (fun x : Pa => !(x.e == p.e)) P
      simp at hn this ⊢; omega
    have h2 := ord_len n (Q := Q.filter (fun x => !(x.e == p.e))) hl fun k => by
      have e := h k
      rw [List.filter_filter, List.filter_filter]
      have e2 : ∀ R : List Pa, R.filter (fun a => (a.e == k) && (!(a.e == p.e))) = (R.filter (fun x => x.e == k)).filter (fun x => !(x.e == p.e)) := fun R => by
        rw [List.filter_filter]; congr 1; funext a; exact Bool.and_comm _ _
      rw [e2, e2, e]
    rw [hp (p :: P), hp Q, h p.e, h2]
theorem Ordered.len {P Q : List Pa} (h : Ordered P Q) : P.length = Q.length := ord_len _ (Nat.le_refl _) h.2
theorem Ordered.up {P Q : List Pa} (h : Ordered P Q) {m : Nat} {x y : Pa} (hx : P[m]? = some x) (hy : P[m + 1]? = some y) : x.e ≤ y.e := by
  obtain ⟨h1, rfl⟩ := List.getElem?_eq_some_iff.1 hx
  obtain ⟨h2, rfl⟩ := List.getElem?_eq_some_iff.1 hy
  exact List.pairwise_iff_getElem.1 h.1 _ _ h1 h2 (by omega)

set_option maxRecDepth 100000 in
set_option maxHeartbeats 16000000 in
theorem left (c : Conf) (a : Option Addr) (n cap : Nat) (L : List Win) (fr up : Int) (w : World) (hl : L.length = n) (hn : n ≤ 2000000000000) (hok : ∀ x ∈ L, x.ok) (hla : I64 c.la) (hup : I64 up)
    (hr : Rd w w.heap.size a (L.flatMap Win.cl)) :
    Calls Try.prog 7 #[c.val, .slice a n cap, .agg #[.int .i64 fr, .int .i64 up]] w (Ret (.bool true) w) := by
  have HR := Lib.hid hr
  have HL := Lib.hid hl
  have HOK := Lib.hid hok
  have HI := Lib.hid (And.intro hla hup)
  clear hr hl hok hla hup
  go_enter Try.func7, Try.ntmps7
  go_wp2_with fail
  refine (known_any _).mono ?_
  rintro en w1 ⟨rfl, hb1⟩
  have hB1 : Below w.heap.size w w1 := bnext (by go_grown) hb1
  have A0 : Blk w1 w.heap.size 24 c.cells := Blk.below (by simp (disch := (first | omega | (simp only [World.size_alloc, World.size_setCell, World.size_drew] <;> omega) | fail)) only [Blk, heap_old, heap_at, heap_set_same, heap_set_ne, heap_drew', Option.map_some, putO_cells]) hb1
  have A1 : Blk w1 (w.heap.size + 1) 53 #[.int .i64 fr, .int .i64 up] := Blk.below (by simp (disch := (first | omega | (simp only [World.size_alloc, World.size_setCell, World.size_drew] <;> omega) | fail)) only [Blk, heap_old, heap_at, heap_set_same, heap_set_ne, heap_drew', Option.map_some, putO_cells]) hb1
  clear hb1
  have c0 := A0.cell
  have c1 := A1.cell
  have l0 := A0.lt
  have l1 := A1.lt
  go_wp2_with fail
  refine (mark_any c kLeft a n cap L fr up _ HL.out hn HOK.out HI.out.1 HI.out.2 ((HR.out.below hB1).more hB1.size)).mono ?_
  rintro en w2 ⟨vo, vp, P, rfl, hM, hO, hB2⟩
  obtain ⟨g, hg⟩ := hM.bo
  obtain ⟨oc, rfl, oc1, oc2, og1, og2⟩ := own_at hM.wo hg
  obtain ⟨q, hq⟩ := hM.bp
  obtain ⟨qc, rfl, qc1, qc2, qg1, qg2⟩ := own_at hM.wp hq
  have HO := Lib.hid hO
  have HGC := Lib.hid (show ∀ i x, (outsL c fr up L)[i]? = some x → ∀ j, j < 9 → w2.cell? ⟨g, i * 9 + j, none⟩ = x.cl[j]? from fun i x hx j hj => by
    have hi := (List.getElem?_eq_some_iff.1 hx).1
    exact (hM.wo.cellAt _ (by omega)).trans (flat_get Win.cl 9 Win.len _ i j x hx hj))
  have HQC := Lib.hid (show ∀ i x, P[i]? = some x → ∀ j, j < 9 → w2.cell? ⟨q, i * 9 + j, none⟩ = x.cells[j]? from fun i x hx j hj => by
    have hi := (List.getElem?_eq_some_iff.1 hx).1
    exact (hM.wp.cellAt _ (by omega)).trans (flat_get Pa.cells 9 Pa.len _ i j x hx hj))
  have HR2 := Lib.hid (((HR.out.below hB1).more hB1.size).below hB2)
  have hB := hB1.trans (hB2.mono hB1.size)
  have D0 := Lib.hid (A0.below hB2)
  have D1 := Lib.hid (A1.below hB2)
  have HPL := Lib.hid hO.len
  generalize hN : (outsL c fr up L).length = N at *
  generalize hM' : P.length = M at *
  have HN := Lib.hid hN
  have HM' := Lib.hid hM'
  have hNb : N ≤ n := by rw [← hN, ← HL.out]; exact outsL_len
  have hMb : M ≤ n := by rw [HPL.out, ← HL.out]; exact pansL_len
  clear hM hO hN hM' A0 A1 c0 c1 hg hq oc1 oc2 qc1 qc2 og1 qg1
  have hs2 := hB.size
  have l0' := D0.out.lt
  have l1' := D1.out.lt
  go_wp2_with fail
  go_loopw [9, 10, 11, 12] (fun va vt vi _ wr => ∃ k : Nat, k ≤ n ∧ vi = .int .i64 k ∧ va = .int .i64 ((outsL c fr up (L.take k)).length : Nat) ∧ vt = .int .i64 ((pansL kLeft fr up (L.take k)).length : Nat) ∧ Below w2.heap.size w2 wr) (fun _ _ vi _ _ => n - (intOf vi).toNat)
  case atStart => exact ⟨0, Nat.zero_le _, rfl, rfl, rfl, by go_grown⟩
  case round =>
    rename World => wr
    obtain ⟨k, hk, rfl, rfl, rfl, hW⟩ := hrel
    have c0 := (D0.out.below hW).cell
    have c1 := (D1.out.below hW).cell
    have hsr := hW.size
    rcases Nat.lt_or_ge k n with hlt | hge
    · obtain ⟨x, hx⟩ : ∃ x, L[k]? = some x := ⟨_, List.getElem?_eq_getElem (by rw [HL.out]; exact hlt)⟩
      have HXO := Lib.hid (HOK.out x (List.mem_of_getElem? hx))
      have HSA := Lib.hid (take_snoc hx)
      have HSO := Lib.hid (fun ho => outs_at (c := c) (fr := fr) (up := up) hx ho)
      rcases HR2.out with hr | ⟨b, off, rfl, hbl, hcc⟩
      · have h := flat_length Win.cl 9 Win.len L
        rw [hr, HL.out] at h
        simp at h
        omega
      have HE := Lib.hid (show ∀ wz, Below w2.heap.size w2 wz → ∀ j, j < 9 → wz.cell? ⟨b, off + (k * 9 + j), none⟩ = x.cl[j]? from fun wz hz j hj => (hz.cell (p := ⟨b, off + (k * 9 + j), none⟩) (Nat.lt_of_lt_of_le hbl hB2.size)).trans (win_cells hcc k x hx j hj))
      have hbw : b < wr.heap.size := by have := hB2.size; omega
      have e := HE.out wr hW
      have e0 := e 0 (by omega)
      have e1 := e 1 (by omega)
      have e2 := e 2 (by omega)
      have e3 := e 3 (by omega)
      have e4 := e 4 (by omega)
      have e5 := e 5 (by omega)
      have e6 := e 6 (by omega)
      have e7 := e 7 (by omega)
      have e8 := e 8 (by omega)
      clear e
      simp only [← Nat.add_assoc, Nat.add_zero, List.getElem?_cons_zero, List.getElem?_cons_succ] at e0 e1 e2 e3 e4 e5 e6 e7 e8
      clear hx hcc
      have kin : (k : Int) < (n : Int) := by omega
      generalize hA : (outsL c fr up (L.take k)).length = A
      generalize hT : (pansL kLeft fr up (L.take k)).length = T
      have HA := Lib.hid hA
      have HT := Lib.hid hT
      have hAb : A ≤ k := by rw [← hA]; exact Nat.le_trans outsL_len (by simp; omega)
      have hTb : T ≤ k := by rw [← hT]; exact Nat.le_trans pansL_len (by simp; omega)
      clear hA hT
      go_wp2_with fail
      (refine region_keep (fun _ => True) 18 [(0, true), (1, true), (2, true), (3, true), (4, true), (5, true), (6, true), (7, true), (8, true), (9, true), (10, true), (11, true), (12, true), (13, true), (14, true), (15, true), (16, true), (17, true)] (by kernel_rfl) (fun _ _ d _ _ h => by cases d <;> exact h) (by kernel_rfl) ?_; simp only [withOps, List.getElem?_toArray, List.getElem?_cons_zero, List.getElem?_cons_succ, List.drop_succ_cons, List.drop_zero])
      (iterate 10 (refine keep_quiet (v := ?_) rfl ?_ ?_; rotate_left; (focus (intro w' hw'; go_simp; (try with_reducible rfl); done)); try simp only [Act.put, List.setIfInBounds_toArray, List.set_cons_zero, List.set_cons_succ]))
      cases hd1 : decide (fr < x.e)
      · have HON := Lib.hid (show onT fr up x = false by unfold onT; rw [hd1]; rfl)
        clear hd1
        (iterate 8 ((with_reducible refine plan_skip ?_ ?_); (focus rfl); try simp only [Act.put, List.setIfInBounds_toArray, List.set_cons_zero, List.set_cons_succ]))
        refine plan_end ?_
        (try simp only [Act.put, List.setIfInBounds_toArray, List.set_cons_zero, List.set_cons_succ])
        go_wp2_with fail
        (refine region_keep (fun _ => True) 9 [(0, true), (1, true), (2, true), (3, true), (4, true), (5, true), (6, true), (7, true), (8, true)] (by kernel_rfl) (fun _ _ d _ _ h => by cases d <;> exact h) (by kernel_rfl) ?_; simp only [withOps, List.getElem?_toArray, List.getElem?_cons_zero, List.getElem?_cons_succ, List.drop_succ_cons, List.drop_zero])
        (iterate 9 (refine keep_quiet (v := ?_) rfl ?_ ?_; rotate_left; (focus (intro w' hw'; go_simp; (try with_reducible rfl); done)); try simp only [Act.put, List.setIfInBounds_toArray, List.set_cons_zero, List.set_cons_succ]))
        refine plan_end ?_
        (try simp only [Act.put, List.setIfInBounds_toArray, List.set_cons_zero, List.set_cons_succ])
        go_wp2_with fail
        refine (refOver_any x.s x.e c.la up _ HXO.out.2.1 HI.out.1 HI.out.2).mono ?_
        rintro en w4 ⟨rfl, hb4⟩
        have hW4 : Below w2.heap.size w2 w4 := bnext (by go_grown) hb4
        clear hb4 c0 c1 e0 e1 e2 e3 e4 e5 e6 e7 e8 hW
        have hs4 := hW4.size
        have hbw4 : b < w4.heap.size := by have := hB2.size; omega
        cases hov : ovT c.la up x
        · have hvv : decide (x.e + c.la ≤ up) = false := hov
          have HOV := Lib.hid hov
          clear hov
          rw [hvv]
          clear hvv
          have hO1 := HSO.out HOV.out
          rw [HA.out] at hO1
          have hAN : A < N := by have := (List.getElem?_eq_some_iff.1 hO1).1; have h2 := HN.out; omega
          rw [twin_off HON.out] at hO1
          have ge := fun j hj => (hW4.cell (p := ⟨g, A * 9 + j, none⟩) og2).trans (HGC.out A _ hO1 j hj)
          clear hO1
          have g0 := ge 0 (by omega)
          have g1 := ge 1 (by omega)
          have g2 := ge 2 (by omega)
          have g3 := ge 3 (by omega)
          have g4 := ge 4 (by omega)
          have g5 := ge 5 (by omega)
          have g6 := ge 6 (by omega)
          have g7 := ge 7 (by omega)
          have g8 := ge 8 (by omega)
          clear ge
          simp only [Nat.add_zero, List.getElem?_cons_zero, List.getElem?_cons_succ] at g0 g1 g2 g3 g4 g5 g6 g7 g8
          have hgw4 : g < w4.heap.size := by omega
          have e := HE.out w4 hW4
          have e0 := e 0 (by omega)
          have e1 := e 1 (by omega)
          have e2 := e 2 (by omega)
          have e3 := e 3 (by omega)
          have e4 := e 4 (by omega)
          have e5 := e 5 (by omega)
          have e6 := e 6 (by omega)
          have e7 := e 7 (by omega)
          have e8 := e 8 (by omega)
          clear e
          simp only [← Nat.add_assoc, Nat.add_zero, List.getElem?_cons_zero, List.getElem?_cons_succ] at e0 e1 e2 e3 e4 e5 e6 e7 e8
          have AN : (A : Int) < (N : Int) := by omega
          go_wp2_with fail
          (refine region_keep (fun _ => True) 42 [(0, true), (1, true), (2, true), (3, true), (4, true), (5, true), (6, true), (7, true), (8, true), (9, true), (10, true), (11, true), (12, true), (13, true), (14, true), (15, true), (16, true), (17, true), (18, true), (19, true), (20, true), (21, true), (22, true), (23, true), (24, true), (25, true), (26, true), (27, true), (28, true), (29, true), (30, true), (31, true), (32, true), (33, true), (34, true), (35, true), (36, true), (37, true), (38, true), (39, true), (40, true), (41, true)] (by kernel_rfl) (fun _ _ d _ _ h => by cases d <;> exact h) (by kernel_rfl) ?_; simp only [withOps, List.getElem?_toArray, List.getElem?_cons_zero, List.getElem?_cons_succ, List.drop_succ_cons, List.drop_zero])
          have hNA : decide (N ≤ A) = false := decide_eq_false (by omega)
          (iterate 4 (refine keep_quiet (v := ?_) rfl ?_ ?_; rotate_left; (focus (intro w' hw'; go_simp; (try with_reducible rfl); done)); try simp only [Act.put, List.setIfInBounds_toArray, List.set_cons_zero, List.set_cons_succ]))
          (try simp only [hNA])
          (iterate 26 (refine keep_quiet (v := ?_) rfl ?_ ?_; rotate_left; (focus (intro w' hw'; go_simp; (try with_reducible rfl); done)); try simp only [Act.put, List.setIfInBounds_toArray, List.set_cons_zero, List.set_cons_succ]))
          (iterate 12 (refine keep_quiet (v := ?_) rfl ?_ ?_; rotate_left; (focus (intro w' hw'; go_simp; (try with_reducible rfl); done)); try simp only [Act.put, List.setIfInBounds_toArray, List.set_cons_zero, List.set_cons_succ]))
          refine plan_end ?_
          (try simp only [Act.put, List.setIfInBounds_toArray, List.set_cons_zero, List.set_cons_succ])
          go_wp2_with fail
          go_roundw
          case rel =>
            refine ⟨k + 1, by omega, by go_num, ?_, ?_, by go_grown⟩
            · rw [HSA.out, outsL_snoc, if_neg (by rw [HOV.out]; simp), List.length_append, HA.out]; go_num
            · rw [HSA.out, pansL_snoc, if_neg (by rw [HON.out]; simp), List.append_nil, HT.out]
          case measure => simp [intOf]; omega
        · have hvv : decide (x.e + c.la ≤ up) = true := hov
          have HOV := Lib.hid hov
          clear hov
          rw [hvv]
          clear hvv
          go_wp2_with fail
          go_roundw
          case rel =>
            refine ⟨k + 1, by omega, by go_num, ?_, ?_, hW4⟩
            · rw [HSA.out, outsL_snoc, if_pos HOV.out, List.append_nil, HA.out]
            · rw [HSA.out, pansL_snoc, if_neg (by rw [HON.out]; simp), List.append_nil, HT.out]
          case measure => simp [intOf]; omega
      · (iterate 8 (refine keep_quiet (v := ?_) rfl ?_ ?_; rotate_left; (focus (intro w' hw'; go_simp; (try with_reducible rfl); done)); try simp only [Act.put, List.setIfInBounds_toArray, List.set_cons_zero, List.set_cons_succ]))
        refine plan_end ?_
        (try simp only [Act.put, List.setIfInBounds_toArray, List.set_cons_zero, List.set_cons_succ])
        have hd1' := of_decide_eq_true hd1
        have h1 : fr < x.e := hd1'
        clear hd1 hd1'
        cases hd2 : decide (x.e ≤ up)
        · have HON := Lib.hid (show onT fr up x = false by unfold onT; rw [hd2]; simp)
          have h2 : ¬ x.e ≤ up := of_decide_eq_false hd2
          clear hd2
          go_wp2_with fail
          (refine region_keep (fun _ => True) 9 [(0, true), (1, true), (2, true), (3, true), (4, true), (5, true), (6, true), (7, true), (8, true)] (by kernel_rfl) (fun _ _ d _ _ h => by cases d <;> exact h) (by kernel_rfl) ?_; simp only [withOps, List.getElem?_toArray, List.getElem?_cons_zero, List.getElem?_cons_succ, List.drop_succ_cons, List.drop_zero])
          (iterate 9 (refine keep_quiet (v := ?_) rfl ?_ ?_; rotate_left; (focus (intro w' hw'; go_simp; (try with_reducible rfl); done)); try simp only [Act.put, List.setIfInBounds_toArray, List.set_cons_zero, List.set_cons_succ]))
          refine plan_end ?_
          (try simp only [Act.put, List.setIfInBounds_toArray, List.set_cons_zero, List.set_cons_succ])
          go_wp2_with fail
          refine (refOver_any x.s x.e c.la up _ HXO.out.2.1 HI.out.1 HI.out.2).mono ?_
          rintro en w4 ⟨rfl, hb4⟩
          have hW4 : Below w2.heap.size w2 w4 := bnext (by go_grown) hb4
          clear hb4 c0 c1 e0 e1 e2 e3 e4 e5 e6 e7 e8 hW
          have hs4 := hW4.size
          have hbw4 : b < w4.heap.size := by have := hB2.size; omega
          cases hov : ovT c.la up x
          · have hvv : decide (x.e + c.la ≤ up) = false := hov
            have HOV := Lib.hid hov
            clear hov
            rw [hvv]
            clear hvv
            have hO1 := HSO.out HOV.out
            rw [HA.out] at hO1
            have hAN : A < N := by have := (List.getElem?_eq_some_iff.1 hO1).1; have h2 := HN.out; omega
            rw [twin_off HON.out] at hO1
            have ge := fun j hj => (hW4.cell (p := ⟨g, A * 9 + j, none⟩) og2).trans (HGC.out A _ hO1 j hj)
            clear hO1
            have g0 := ge 0 (by omega)
            have g1 := ge 1 (by omega)
            have g2 := ge 2 (by omega)
            have g3 := ge 3 (by omega)
            have g4 := ge 4 (by omega)
            have g5 := ge 5 (by omega)
            have g6 := ge 6 (by omega)
            have g7 := ge 7 (by omega)
            have g8 := ge 8 (by omega)
            clear ge
            simp only [Nat.add_zero, List.getElem?_cons_zero, List.getElem?_cons_succ] at g0 g1 g2 g3 g4 g5 g6 g7 g8
            have hgw4 : g < w4.heap.size := by omega
            have e := HE.out w4 hW4
            have e0 := e 0 (by omega)
            have e1 := e 1 (by omega)
            have e2 := e 2 (by omega)
            have e3 := e 3 (by omega)
            have e4 := e 4 (by omega)
            have e5 := e 5 (by omega)
            have e6 := e 6 (by omega)
            have e7 := e 7 (by omega)
            have e8 := e 8 (by omega)
            clear e
            simp only [← Nat.add_assoc, Nat.add_zero, List.getElem?_cons_zero, List.getElem?_cons_succ] at e0 e1 e2 e3 e4 e5 e6 e7 e8
            have AN : (A : Int) < (N : Int) := by omega
            go_wp2_with fail
            (refine region_keep (fun _ => True) 42 [(0, true), (1, true), (2, true), (3, true), (4, true), (5, true), (6, true), (7, true), (8, true), (9, true), (10, true), (11, true), (12, true), (13, true), (14, true), (15, true), (16, true), (17, true), (18, true), (19, true), (20, true), (21, true), (22, true), (23, true), (24, true), (25, true), (26, true), (27, true), (28, true), (29, true), (30, true), (31, true), (32, true), (33, true), (34, true), (35, true), (36, true), (37, true), (38, true), (39, true), (40, true), (41, true)] (by kernel_rfl) (fun _ _ d _ _ h => by cases d <;> exact h) (by kernel_rfl) ?_; simp only [withOps, List.getElem?_toArray, List.getElem?_cons_zero, List.getElem?_cons_succ, List.drop_succ_cons, List.drop_zero])
            have hNA : decide (N ≤ A) = false := decide_eq_false (by omega)
            (iterate 4 (refine keep_quiet (v := ?_) rfl ?_ ?_; rotate_left; (focus (intro w' hw'; go_simp; (try with_reducible rfl); done)); try simp only [Act.put, List.setIfInBounds_toArray, List.set_cons_zero, List.set_cons_succ]))
            (try simp only [hNA])
            (iterate 26 (refine keep_quiet (v := ?_) rfl ?_ ?_; rotate_left; (focus (intro w' hw'; go_simp; (try with_reducible rfl); done)); try simp only [Act.put, List.setIfInBounds_toArray, List.set_cons_zero, List.set_cons_succ]))
            (iterate 12 (refine keep_quiet (v := ?_) rfl ?_ ?_; rotate_left; (focus (intro w' hw'; go_simp; (try with_reducible rfl); done)); try simp only [Act.put, List.setIfInBounds_toArray, List.set_cons_zero, List.set_cons_succ]))
            refine plan_end ?_
            (try simp only [Act.put, List.setIfInBounds_toArray, List.set_cons_zero, List.set_cons_succ])
            go_wp2_with fail
            go_roundw
            case rel =>
              refine ⟨k + 1, by omega, by go_num, ?_, ?_, by go_grown⟩
              · rw [HSA.out, outsL_snoc, if_neg (by rw [HOV.out]; simp), List.length_append, HA.out]; go_num
              · rw [HSA.out, pansL_snoc, if_neg (by rw [HON.out]; simp), List.append_nil, HT.out]
            case measure => simp [intOf]; omega
          · have hvv : decide (x.e + c.la ≤ up) = true := hov
            have HOV := Lib.hid hov
            clear hov
            rw [hvv]
            clear hvv
            go_wp2_with fail
            go_roundw
            case rel =>
              refine ⟨k + 1, by omega, by go_num, ?_, ?_, hW4⟩
              · rw [HSA.out, outsL_snoc, if_pos HOV.out, List.append_nil, HA.out]
              · rw [HSA.out, pansL_snoc, if_neg (by rw [HON.out]; simp), List.append_nil, HT.out]
            case measure => simp [intOf]; omega
        · have HON := Lib.hid (show onT fr up x = true by unfold onT; rw [hd2]; simp [h1])
          have h2 : x.e ≤ up := of_decide_eq_true hd2
          clear hd2
          go_wp2_with fail
          (refine region_keep (fun _ => True) 9 [(0, true), (1, true), (2, true), (3, true), (4, true), (5, true), (6, true), (7, true), (8, true)] (by kernel_rfl) (fun _ _ d _ _ h => by cases d <;> exact h) (by kernel_rfl) ?_; simp only [withOps, List.getElem?_toArray, List.getElem?_cons_zero, List.getElem?_cons_succ, List.drop_succ_cons, List.drop_zero])
          (iterate 9 (refine keep_quiet (v := ?_) rfl ?_ ?_; rotate_left; (focus (intro w' hw'; go_simp; (try with_reducible rfl); done)); try simp only [Act.put, List.setIfInBounds_toArray, List.set_cons_zero, List.set_cons_succ]))
          refine plan_end ?_
          (try simp only [Act.put, List.setIfInBounds_toArray, List.set_cons_zero, List.set_cons_succ])
          go_wp2_with fail
          refine (refOver_any x.s x.e c.la up _ HXO.out.2.1 HI.out.1 HI.out.2).mono ?_
          rintro en w4 ⟨rfl, hb4⟩
          have hW4 : Below w2.heap.size w2 w4 := bnext (by go_grown) hb4
          clear hb4 c0 c1 e0 e1 e2 e3 e4 e5 e6 e7 e8 hW
          have hs4 := hW4.size
          have hbw4 : b < w4.heap.size := by have := hB2.size; omega
          cases hov : ovT c.la up x
          · have hvv : decide (x.e + c.la ≤ up) = false := hov
            have HOV := Lib.hid hov
            clear hov
            rw [hvv]
            clear hvv
            have hO1 := HSO.out HOV.out
            rw [HA.out] at hO1
            have hAN : A < N := by have := (List.getElem?_eq_some_iff.1 hO1).1; have h2 := HN.out; omega
            rw [twin_on HON.out] at hO1
            have ge := fun j hj => (hW4.cell (p := ⟨g, A * 9 + j, none⟩) og2).trans (HGC.out A _ hO1 j hj)
            clear hO1
            have g0 := ge 0 (by omega)
            have g1 := ge 1 (by omega)
            have g2 := ge 2 (by omega)
            clear ge
            simp only [Nat.add_zero, List.getElem?_cons_zero, List.getElem?_cons_succ] at g0 g1 g2
            have g0' : w4.cell? ⟨g, A * 9, none⟩ = some (.int .i64 x.s) := g0
            have g1' : w4.cell? ⟨g, A * 9 + 1, none⟩ = some (.int .i64 x.e) := g1
            have g2' : w4.cell? ⟨g, A * 9 + 2, none⟩ = some (.int .i64 x.h) := g2
            clear g0 g1 g2
            have hgw4 : g < w4.heap.size := by omega
            have e := HE.out w4 hW4
            have e0 := e 0 (by omega)
            have e1 := e 1 (by omega)
            have e2 := e 2 (by omega)
            have e3 := e 3 (by omega)
            have e4 := e 4 (by omega)
            have e5 := e 5 (by omega)
            have e6 := e 6 (by omega)
            have e7 := e 7 (by omega)
            have e8 := e 8 (by omega)
            clear e
            simp only [← Nat.add_assoc, Nat.add_zero, List.getElem?_cons_zero, List.getElem?_cons_succ] at e0 e1 e2 e3 e4 e5 e6 e7 e8
            have AN : (A : Int) < (N : Int) := by omega
            go_wp2_with fail
            (refine region_keep (fun _ => True) 42 [(0, true), (1, true), (2, true), (3, true), (4, true), (5, true), (6, true), (7, true), (8, true), (9, true), (10, true), (11, true), (12, true), (13, true), (14, true), (15, true), (16, true), (17, true), (18, true), (19, true), (20, true), (21, true), (22, true), (23, true), (24, true), (25, true), (26, true), (27, true), (28, true), (29, true), (30, true), (31, true), (32, true), (33, true), (34, true), (35, true), (36, true), (37, true), (38, true), (39, true), (40, true), (41, true)] (by kernel_rfl) (fun _ _ d _ _ h => by cases d <;> exact h) (by kernel_rfl) ?_; simp only [withOps, List.getElem?_toArray, List.getElem?_cons_zero, List.getElem?_cons_succ, List.drop_succ_cons, List.drop_zero])
            have hNA : decide (N ≤ A) = false := decide_eq_false (by omega)
            (iterate 4 (refine keep_quiet (v := ?_) rfl ?_ ?_; rotate_left; (focus (intro w' hw'; go_simp; (try with_reducible rfl); done)); try simp only [Act.put, List.setIfInBounds_toArray, List.set_cons_zero, List.set_cons_succ]))
            (try simp only [hNA])
            (iterate 26 (refine keep_quiet (v := ?_) rfl ?_ ?_; rotate_left; (focus (intro w' hw'; go_simp; (try with_reducible rfl); done)); try simp only [Act.put, List.setIfInBounds_toArray, List.set_cons_zero, List.set_cons_succ]))
            (iterate 4 (refine keep_quiet (v := ?_) rfl ?_ ?_; rotate_left; (focus (intro w' hw'; go_simp; (try with_reducible rfl); done)); try simp only [Act.put, List.setIfInBounds_toArray, List.set_cons_zero, List.set_cons_succ]))
            (iterate 8 ((with_reducible refine plan_skip ?_ ?_); (focus rfl); try simp only [Act.put, List.setIfInBounds_toArray, List.set_cons_zero, List.set_cons_succ]))
            refine plan_end ?_
            (try simp only [Act.put, List.setIfInBounds_toArray, List.set_cons_zero, List.set_cons_succ])
            go_wp2_with fail
            go_roundw
            case rel =>
              refine ⟨k + 1, by omega, by go_num, ?_, ?_, by go_grown⟩
              · rw [HSA.out, outsL_snoc, if_neg (by rw [HOV.out]; simp), List.length_append, HA.out]; go_num
              · rw [HSA.out, pansL_snoc, if_pos HON.out, List.length_append, HT.out]; go_num
            case measure => simp [intOf]; omega
          · have hvv : decide (x.e + c.la ≤ up) = true := hov
            have HOV := Lib.hid hov
            clear hov
            rw [hvv]
            clear hvv
            go_wp2_with fail
            go_roundw
            case rel =>
              refine ⟨k + 1, by omega, by go_num, ?_, ?_, hW4⟩
              · rw [HSA.out, outsL_snoc, if_pos HOV.out, List.append_nil, HA.out]
              · rw [HSA.out, pansL_snoc, if_pos HON.out, List.length_append, HT.out]; go_num
            case measure => simp [intOf]; omega
    · obtain rfl : k = n := by omega
      have HT : L.take k = L := List.take_of_length_le (by rw [HL.out]; exact Nat.le_refl _)
      rw [HT, HN.out]
      have hT2 : (pansL kLeft fr up L).length = M := HPL.out.symm
      rw [hT2]
      clear hT2 HT
      have kin : ¬ (k : Int) < (k : Int) := by omega
      go_wp2_with fail
      go_loopw [13] (fun vi wz => ∃ m : Nat, (m + 1 ≤ M ∨ m = 0) ∧ vi = .int .i64 (m + 1 : Nat) ∧ Below w2.heap.size w2 wz) (fun vi _ => M + 1 - (intOf vi).toNat)
      case atStart => exact ⟨0, .inr rfl, rfl, by go_grown⟩
      case round =>
        rename World => wz
        obtain ⟨m, hm, rfl, hZ⟩ := hrel
        have hsz := hZ.size
        rcases Nat.lt_or_ge (m + 1) M with hlt | hge
        · obtain ⟨x, hx⟩ : ∃ x, P[m]? = some x := ⟨_, List.getElem?_eq_getElem (by rw [HM'.out]; omega)⟩
          obtain ⟨y, hy⟩ : ∃ y, P[m + 1]? = some y := ⟨_, List.getElem?_eq_getElem (by rw [HM'.out]; exact hlt)⟩
          have hxy := HO.out.up hx hy
          have e0 : wz.cell? ⟨q, m * 9 + 2, none⟩ = some (.int .i64 x.e) := (hZ.cell (p := ⟨q, m * 9 + 2, none⟩) qg2).trans (HQC.out m x hx 2 (by omega))
          have e1 : wz.cell? ⟨q, (m + 1) * 9 + 2, none⟩ = some (.int .i64 y.e) := (hZ.cell (p := ⟨q, (m + 1) * 9 + 2, none⟩) qg2).trans (HQC.out _ y hy 2 (by omega))
          clear hx hy
          have qz : q < wz.heap.size := by omega
          have kin2 : ((m + 1 : Nat) : Int) < (M : Int) := by omega
          have mlt : m < M := by omega
          have mnn : (0 : Int) ≤ (m : Int) + 1 := by omega
          have wm : IntKind.i64.wrap (m : Int) = m := by rw [IntKind.wrap_i64]; omega
          go_wp2_with fail
          (refine region_keep (fun _ => True) 13 [(0, true), (1, true), (2, true), (3, true), (4, true), (5, true), (6, true), (7, true), (8, true), (9, true), (10, true), (11, true), (12, true)] (by kernel_rfl) (fun _ _ d _ _ h => by cases d <;> exact h) (by kernel_rfl) ?_; simp only [withOps, List.getElem?_toArray, List.getElem?_cons_zero, List.getElem?_cons_succ, List.drop_succ_cons, List.drop_zero])
          (iterate 13 (refine keep_quiet (v := ?_) rfl ?_ ?_; rotate_left; (focus (intro w' hw'; go_simp; (try with_reducible rfl); done)); try simp only [Act.put, List.setIfInBounds_toArray, List.set_cons_zero, List.set_cons_succ]))
          refine plan_end ?_
          (try simp only [Act.put, List.setIfInBounds_toArray, List.set_cons_zero, List.set_cons_succ])
          go_wp2_with fail
          go_roundw
          case rel => exact ⟨m + 1, .inl (by omega), by go_num, by go_grown⟩
          case measure => simp [intOf]; omega
        · have kin2 : ¬ ((m + 1 : Nat) : Int) < (M : Int) := by omega
          have hBZ := hB.trans (hZ.mono hs2)
          go_wp2_with fail
          go_returns
          exact ⟨rfl, by go_grown⟩
end Go.Proofs.Ytfpomiimloohkaa
