/- Copy, Move, All: a going over what there was when it began. -/
import Derived.Test.YtlmmcffbpdfcjaaTmT2
set_option linter.unusedSimpArgs false
set_option linter.unusedVariables false
namespace Go.Proofs.Ytlmmcffbpdfcjaa
open Go.RowKit Go.Kp Go.ChangeMaps

theorem Raw.rd {w : World} {q m : Nat} {v : Value} {L : List Tm.T} {M : Tm.T → Option Nat} (h : Raw w q m v L M) : ∃ a c, v = .slice a L.length c ∧ Rd w w.heap.size a (L.flatMap cT) := by
  obtain ⟨a, c, h1, h2, _⟩ := rd_row h.bv
  exact ⟨a, c, h1, h2⟩

set_option maxHeartbeats 1000000 in
theorem Copy_any {w : World} {q m : Nat} {v : Value} {L : List Tm.T} {M : Tm.T → Option Nat} (h : Tq w q m v L M) :
    Calls Try.prog 37 #[ptr q] w fun en w' => ∃ q' m' v' L' M', en = .returned (ptr q') ∧ NewP w.heap.size w' q' m' v' L' M' L ∧ Below w.heap.size w w' := by
  have H := Lib.hid h
  obtain ⟨a, c, rfl, _⟩ := h.raw.rd
  clear h
  go_enter Try.func37, Try.ntmps37
  go_wp2_with fail
  refine (none_any H.out.raw).mono ?_
  rintro en w1 ⟨rfl, hb⟩
  have H1 := Lib.hid (H.out.below hb)
  have q0 := H1.out.raw.bq.cell 0
  simp only [List.getElem?_toArray, List.getElem?_cons_zero, List.getElem?_cons_succ] at q0
  have HB := Lib.hid hb
  clear hb
  go_wp2_with fail
  obtain ⟨a', c', e, hr⟩ := H1.out.raw.rd
  cases e
  refine (New_any a L.length c L rfl H1.out.raw.len hr H1.out.raw.ok).mono ?_
  rintro en w2 ⟨q2, m2, v2, L2, M2, rfl, hN, hb2⟩
  have hfin : NewP w.heap.size w2 q2 m2 v2 L2 M2 L := ⟨hN.1, hN.2.1, fun b hb => Nat.le_trans HB.out.size (hN.2.2 b hb)⟩
  have HF := Lib.hid hfin
  have HB2 := Lib.hid (bnext HB.out hb2)
  clear hr hN hb2 hfin q0
  go_wp2_with fail
  go_returns
  exact ⟨q2, m2, v2, L2, M2, rfl, HF.out, HB2.out⟩

/-- What Move leaves. -/
def MoveP (w w' : World) (q m : Nat) (v : Value) (L : List Tm.T) (t u : Tm.T) : Prop := ∃ v' L' M', Tq w' q m v' L' M' ∧ (∀ x, x ∈ L' ↔ x = u ∨ (x ≠ t ∧ x ∈ L)) ∧ Turn w w' q m v v'

set_option maxHeartbeats 1000000 in
theorem Move_any {w : World} {q m : Nat} {v : Value} {L : List Tm.T} {M : Tm.T → Option Nat} (h : Tq w q m v L M) (t u : Tm.T) (ht : Ok t) (hu : Ok u) (hlen : L.length < 5000000000000) :
    Calls Try.prog 35 #[ptr q, vT t, vT u] w fun en w' => en = .returned (.tuple #[.bool (decide (t ∈ L)), .int .i64 0]) ∧ MoveP w w' q m v L t u := by
  have H := Lib.hid h
  clear h
  go_enter Try.func35, Try.ntmps35
  go_upto_region 1 with (fail)
  (refine wp_at (fun w1 => Blk w1 w.heap.size 25 (cT t).toArray ∧ Blk w1 (w.heap.size + 1) 25 (cT u).toArray ∧ Below w.heap.size w w1) two_boxes ?_)
  rintro w1 ⟨A, B, hB1⟩
  have H1 := Lib.hid (H.out.below hB1)
  go_wp2_with fail
  refine (none_any H1.out.raw).mono ?_
  rintro en w2 ⟨rfl, hb2⟩
  have H2 := Lib.hid (H1.out.below hb2)
  have HT2 := Lib.hid (show Turn w w2 q m v v from (Turn.of hB1).next hb2)
  have A2 := A.below hb2
  have B2 := B.below hb2
  clear hB1 hb2 A B
  have lA := A2.lt
  have lB := B2.lt
  have a0 := A2.cell 0
  have a1 := A2.cell 1
  have a2 := A2.cell 2
  have a3 := A2.cell 3
  simp only [List.getElem?_toArray, List.getElem?_cons_zero, List.getElem?_cons_succ] at a0 a1 a2 a3
  go_wp2_with fail
  refine (Drop_any H2.out t ht).mono ?_
  rintro en w3 ⟨rfl, v3, L3, M3, hT3, hp3, hTU3⟩
  have hne : ∀ b, w.heap.size ≤ b → ¬ foot q m v b := fun b hb hf => by have := H.out.raw.lt b hf; omega
  have B3 : Blk w3 (w.heap.size + 1) 25 (cT u).toArray := (hTU3.fr.block _ lB (hne _ (by omega))).trans B2
  have hl3 : L3.length ≤ L.length := by
    have h1 := hp3.length_eq
    rw [List.length_erase] at h1
    split at h1 <;> omega
  have H3 := Lib.hid hT3
  have HM3 := Lib.hid (show ∀ x, x ∈ L3 ↔ x ≠ t ∧ x ∈ L from fun x => by rw [hp3.mem_iff, H2.out.full.nodup.mem_erase_iff])
  have HT3 := Lib.hid (HT2.out.trans hTU3)
  clear hT3 hp3 hTU3 a0 a1 a2 a3 lA lB A2
  have lB := B3.lt
  have b0 := B3.cell 0
  have b1 := B3.cell 1
  have b2 := B3.cell 2
  have b3 := B3.cell 3
  simp only [List.getElem?_toArray, List.getElem?_cons_zero, List.getElem?_cons_succ] at b0 b1 b2 b3
  go_wp2_with fail
  refine (Set_any H3.out u hu (by omega)).mono ?_
  rintro en w4 ⟨rfl, v4, L4, M4, hT4, hp4, hTU4⟩
  have hfin : MoveP w w4 q m v L t u := ⟨v4, L4, M4, hT4, fun x => by
    rw [hp4.mem_iff]
    split
    · rename_i hin
      rw [HM3.out]
      refine ⟨.inr, fun h => h.elim (fun e => (HM3.out x).1 (e ▸ hin)) id⟩
    · rw [List.mem_cons, HM3.out], HT3.out.trans hTU4⟩
  have HF := Lib.hid hfin
  clear hfin hT4 hp4 hTU4 b0 b1 b2 b3
  go_wp2_with fail
  go_returns
  exact ⟨rfl, HF.out⟩

theorem All_any (p : Option Addr) (w : World) :
    Calls Try.prog 21 #[.pointer p] w fun en w' => en = .returned (.func (.func 38) #[] #[.pointer (some ⟨w.heap.size, 0, none⟩)]) ∧ Blk w' w.heap.size 30 #[.pointer p] ∧ Below w.heap.size w w' := by
  go_enter Try.func21, Try.ntmps21
  go_wp2_with fail
  go_returns
  exact ⟨rfl, heap_at rfl, by go_grown⟩

/-- How many timers the queue's block says there are. -/
def qlen (w : World) (q : Nat) : Nat := match w.cell? ⟨q, 0, none⟩ with | some (.slice _ n _) => n | _ => 0
theorem Tq.qlen {w : World} {q m : Nat} {v : Value} {L : List Tm.T} {M : Tm.T → Option Nat} (h : Tq w q m v L M) : qlen w q = L.length := by
  obtain ⟨a, c, e, _⟩ := h.raw.rd
  unfold Proofs.Ytlmmcffbpdfcjaa.qlen
  have := h.raw.bq.cell 0
  simp only [List.getElem?_toArray, List.getElem?_cons_zero] at this
  rw [this, e]

/-- An element of a going over: what came ahead of it and what comes behind it. -/
def WkT (S : List Tm.T) (pre : List Tm.T) (x : Tm.T) (Pv : Nat → Prop) (W : World) : Prop := (∃ R, S = pre ++ x :: R) ∧ ∀ k, Pv k → k < W.heap.size
def wkArgs (x : Tm.T) : Array Value := #[vT x]

/-- The root of a heap whose timers are those of a sorted list: the list's first. -/
theorem root_first {C R : List Tm.T} {r : Tm.T} (hm : ∀ x, x ∈ C ↔ x ∈ R) (hs : R.Pairwise Tm.lt) (hr : r ∈ C) (hmin : ∀ x ∈ C, ¬ Tm.lt x r) : ∃ R', R = r :: R' := by
  cases R with
  | nil => have := (hm r).1 hr; cases this
  | cons y R' =>
    rcases List.mem_cons.1 ((hm r).1 hr) with e | h
    · exact ⟨R', by rw [e]⟩
    · exact absurd ((List.pairwise_cons.1 hs).1 r h) (hmin y ((hm y).2 (by simp)))

set_option maxHeartbeats 4000000 in
theorem all_seq (n : Nat) (bb : Nat) {q m : Nat} {v : Value} {L : List Tm.T} {M : Tm.T → Option Nat} (S : List Tm.T) (Ro : Nat → Prop) (W : World) (hA : Blk W bb 30 #[ptr q]) (hT : Tq W q m v L M) (hs : S.Pairwise Tm.lt) (hm : ∀ x, x ∈ L ↔ x ∈ S) :
    SeqM Fence.wide n Try.prog 38 #[.pointer (some ⟨bb, 0, none⟩)] wkArgs (WkT S) (fun xs => xs = S) (fun _ => True) (fun _ => False) Ro W := by
  intro rl J Jx hJ hJx hY hJ0
  have HY := Lib.hid hY
  have HJ := Lib.hid hJ
  have HS := Lib.hid hs
  have HM := Lib.hid hm
  have HT := Lib.hid hT
  have HJ0 := Lib.hid hJ0
  have c0 := hA.cell 0
  have l0 := hA.lt
  simp only [List.getElem?_toArray, List.getElem?_cons_zero] at c0
  clear hY hJ hs hm hT hJ0
  refine callsIn_of_wp Try.func38 rfl trivial ?_ rfl
  simp only [Try.ntmps38, List.size_toArray, List.length_cons, List.length_nil, Nat.reduceAdd, Nat.reduceSub, Array.replicate_succ, Array.replicate_zero, List.push_toArray, List.append_toArray, List.nil_append, List.cons_append]
  gi_wp2_with fail
  refine ⟨trivial, fun h => (by cases h), (callsIn_wide.2 (Copy_any HT.out)).mono ?_⟩
  rintro en w1 ⟨qc, mc, vc, C, Mc, rfl, hN, hb⟩
  have HC := Lib.hid hN.1
  have HCM := Lib.hid (show ∀ x, x ∈ C ↔ x ∈ S from fun x => (hN.2.1 x).trans (HM.out x))
  have HFT := Lib.hid hN.2.2
  have HJ1 := Lib.hid (HJ.out [] (fun _ => False) (foot qc mc vc) W w1 HJ0.out (Fr.next hb) (fun k hk => .inr (hN.2.2 k hk)))
  clear hN hb c0 l0 HJ0
  gi_wp2_with fail
  gi_loopw [5] (fun u5 wr => ∃ (pre R : List Tm.T) (vc : Value) (C : List Tm.T) (Mc : Tm.T → Option Nat), S = pre ++ R ∧ Tq wr qc mc vc C Mc ∧ (∀ x, x ∈ C ↔ x ∈ R) ∧ (∃ Pv, J pre Pv wr ∧ (∀ k, foot qc mc vc k → Pv k) ∧ ∀ k, Pv k → k < wr.heap.size)) (fun _ wr => qlen wr qc)
  case atStart => exact ⟨[], S, vc, C, Mc, rfl, HC.out, HCM.out, _, HJ1.out, fun _ h => h, HC.out.raw.lt⟩
  case round =>
    clear HC HCM HFT HJ1
    obtain ⟨pre, R, vc, C, Mc, hSR, hC, hCR, Pv, hj, hPv, hPl⟩ := hrel
    have HSR := Lib.hid hSR
    have HC := Lib.hid hC
    have HCR := Lib.hid hCR
    have HJr := Lib.hid hj
    have HPV := Lib.hid hPv
    have HPL := Lib.hid hPl
    have hRs : R.Pairwise Tm.lt := by
      have h := HS.out
      rw [hSR, List.pairwise_append] at h
      exact h.2.1
    have HRS := Lib.hid hRs
    clear hSR hC hCR hj hPv hPl hRs
    gi_wp2_with fail
    refine ⟨trivial, fun h => (by cases h), (callsIn_wide.2 (Next_any HC.out.raw)).mono ?_⟩
    rintro en w1 ⟨rfl, hb1⟩
    have HC1 := Lib.hid (HC.out.below hb1)
    have HB1 := Lib.hid hb1
    have s1 := hb1.size
    clear hb1
    rcases Nat.eq_zero_or_pos C.length with h0 | h0
    · have hC0 : C = [] := List.eq_nil_of_length_eq_zero h0
      subst hC0
      have hR0 : R = [] := by
        cases R with
        | nil => rfl
        | cons y R => have := (HCR.out y).2 (by simp); cases this
      subst hR0
      have HSE := Lib.hid (show pre = S by rw [HSR.out, List.append_nil])
      clear h0
      simp only [List.getElem?_nil, Option.getD_none, List.length_nil, Nat.lt_irrefl, decide_false]
      have HJ2 := Lib.hid (HJ.out pre Pv Pv wr (w1.alloc (.cells (cT zT).toArray 25)) HJr.out ((Fr.next HB1.out).alloc _) (fun k hk => .inl hk))
      gi_wp2_with fail
      refine ⟨fun _ h => (by cases h), ?_⟩
      go_at_K
      gi_wp2_with fail
      refine bodyPost_ret (results_none rfl _ _ _) rfl ⟨⟨_, rfl⟩, .inl ⟨pre, _, HSE.out, HJ2.out⟩⟩
    · obtain ⟨x, hx⟩ : ∃ x, C[0]? = some x := ⟨_, List.getElem?_eq_getElem h0⟩
      have hd1 : decide (0 < C.length) = true := by simpa using h0
      have hxC : x ∈ C := List.mem_of_getElem? hx
      obtain ⟨R', hR'⟩ := root_first HCR.out HRS.out hxC (fun y hy => by
        obtain ⟨j, hj⟩ := List.mem_iff_getElem?.1 hy
        exact HC.out.heap.root hx j y hj)
      subst hR'
      rw [hx, Option.getD_some, hd1]
      have HXC := Lib.hid hxC
      have HXO := Lib.hid (HC.out.raw.ok x hxC)
      have HQL := Lib.hid (show qlen wr qc = C.length from HC.out.qlen)
      have HC0 := Lib.hid h0
      obtain ⟨Pn, hPn⟩ : ∃ Pn : Nat → Prop, Pn = fun k => Pv k ∨ k = w1.heap.size := ⟨_, rfl⟩
      have hj1 : J pre Pn (w1.alloc (.cells (cT x).toArray 25)) := HJ.out pre Pv Pn wr _ HJr.out ((Fr.next HB1.out).alloc _) (fun k hk => by
        rw [hPn] at hk
        exact hk.imp id fun e => by omega)
      have hT1 : WkT S pre x Pn (w1.alloc (.cells (cT x).toArray 25)) := ⟨⟨R', HSR.out⟩, fun k hk => by
        rw [hPn] at hk
        rw [World.size_alloc]
        rcases hk with hk | rfl
        · have := HPL.out k hk; omega
        · omega⟩
      obtain ⟨fn, tmps, assign, bodyc, hy, hRd⟩ := HY.out pre x _ _ hj1 hT1
      have HRD := Lib.hid hRd
      have HPN := Lib.hid hPn
      dsimp only [wkArgs] at hy
      clear hx hd1 hxC h0 hj1 hT1 hRd hPn
      gi_wp2_with fail
      refine ⟨fun h => (by cases h), HRD.out.mono ?_⟩
      rintro en w2 (⟨rfl, hj2, hk2⟩ | ⟨rfl, hjx⟩)
      · have hbx : w2.heap[w1.heap.size]? = some (.cells (cT x).toArray 25 (0, 0)) := (hk2.2 _ (.inl (by rw [HPN.out]; exact .inr rfl))).trans (heap_at rfl)
        have A2 : Blk w2 w1.heap.size 25 (cT x).toArray := hbx
        have hC2 : Tq w2 qc mc vc C Mc := HC1.out.same fun b hb => (hk2.2 b (.inl (by rw [HPN.out]; exact .inl (HPV.out b hb)))).trans (heap_old (HC1.out.raw.lt b hb))
        have HC2 := Lib.hid hC2
        have HJ2 := Lib.hid hj2
        have s2 := hk2.1
        rw [World.size_alloc] at s2
        have lA := A2.lt
        have a0 := A2.cell 0
        have a1 := A2.cell 1
        have a2 := A2.cell 2
        have a3 := A2.cell 3
        simp only [List.getElem?_toArray, List.getElem?_cons_zero, List.getElem?_cons_succ] at a0 a1 a2 a3
        clear hj2 hk2 hy hC2 hbx
        gi_wp2_with fail
        refine ⟨trivial, fun h => (by cases h), (callsIn_wide.2 (Drop_any HC2.out x HXO.out)).mono ?_⟩
        rintro en w3 ⟨rfl, v3, C3, M3, hT3, hp3, hTU3⟩
        have HC3 := Lib.hid hT3
        have hml : C3.length + 1 = C.length := by
          have h1 := hp3.length_eq
          rw [List.length_erase_of_mem HXC.out] at h1
          have := HC0.out
          omega
        have HML := Lib.hid hml
        have HCR3 := Lib.hid (show ∀ y, y ∈ C3 ↔ y ∈ R' from fun y => by
          rw [hp3.mem_iff, HC.out.full.nodup.mem_erase_iff, HCR.out y, List.mem_cons]
          have hnd := Tm.sorted_nodup HRS.out
          rw [List.nodup_cons] at hnd
          constructor
          · rintro ⟨h1, h2 | h2⟩
            · exact absurd h2 h1
            · exact h2
          · exact fun h => ⟨fun e => hnd.1 (e ▸ h), .inr h⟩)
        have HJ3 := Lib.hid (HJ.out (pre ++ [x]) Pn (fun k => Pn k ∨ foot qc mc v3 k) w2 w3 HJ2.out (hTU3.fr.mono fun k _ hk => by rw [HPN.out]; exact .inl (HPV.out k hk)) (fun k hk => hk.elim .inl fun hf => (hTU3.foot k hf).elim (fun h => .inl (by rw [HPN.out]; exact .inl (HPV.out k h))) .inr))
        have s3 := hTU3.fr.size
        have HS3 := Lib.hid (show S = (pre ++ [x]) ++ R' by rw [HSR.out]; simp)
        have HPL3 := Lib.hid (show ∀ k, Pn k ∨ foot qc mc v3 k → k < w3.heap.size from fun k hk => by
          rcases hk with hk | hk
          · rw [HPN.out] at hk
            rcases hk with hk | rfl
            · have := HPL.out k hk; omega
            · omega
          · exact hT3.raw.lt k hk)
        clear hT3 hp3 hTU3 hml a0 a1 a2 a3
        gi_wp2_with fail
        go_roundw
        case rel => exact ⟨pre ++ [x], R', v3, C3, M3, HS3.out, HC3.out, HCR3.out, _, HJ3.out, fun k hk => .inr hk, HPL3.out⟩
        case measure =>
          rw [HQL.out, HC3.out.qlen]
          have := HML.out
          omega
      · have HJX := Lib.hid hjx
        clear hjx hy
        gi_wp2_with fail
        refine bodyPost_ret (results_none rfl _ _ _) rfl ⟨⟨_, rfl⟩, .inr ⟨_, _, trivial, HJX.out⟩⟩
end Go.Proofs.Ytlmmcffbpdfcjaa
