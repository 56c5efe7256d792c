/- Drop. -/
import Derived.Test.YtlmmcffbpdfcjaaTmS
set_option linter.unusedSimpArgs false
set_option linter.unusedVariables false
namespace Go.Proofs.Ytlmmcffbpdfcjaa
open Go.RowKit Go.Kp Go.ChangeMaps

theorem flat_take (L : List Tm.T) (n : Nat) : (L.take n).flatMap cT = (L.flatMap cT).take (n * 4) := by
  induction L generalizing n with
  | nil => simp
  | cons x L ih =>
    cases n with
    | zero => simp
    | succ n =>
      rw [List.take_succ_cons, List.flatMap_cons, List.flatMap_cons, ih n, List.take_append]
      congr 1
      · rw [List.take_of_length_le (by simp; omega)]
      · congr 1
        simp
        omega
/-- The heap is cut behind n. -/
theorem Raw.cutv {w : World} {q m g cap : Nat} {L : List Tm.T} {M : Tm.T → Option Nat} (h : Raw w q m (.slice (some ⟨g, 0, none⟩) L.length cap) L M) {n : Nat} (hn : n ≤ L.length) :
    Raw (w.setCell ⟨q, 0, none⟩ (.slice (some ⟨g, 0, none⟩) n cap)) q m (.slice (some ⟨g, 0, none⟩) n cap) (L.take n) M ∧ Turn w (w.setCell ⟨q, 0, none⟩ (.slice (some ⟨g, 0, none⟩) n cap)) q m (.slice (some ⟨g, 0, none⟩) L.length cap) (.slice (some ⟨g, 0, none⟩) n cap) := by
  have hq : (w.setCell ⟨q, 0, none⟩ (.slice (some ⟨g, 0, none⟩) n cap)).heap[q]? = some (.cells #[.slice (some ⟨g, 0, none⟩) n cap, .map (some m)] 59 (0, 0)) := by
    have := h.bq
    unfold Blk at this
    rw [heap_set_same, this]
    rfl
  have ho : ∀ b, b ≠ q → (w.setCell ⟨q, 0, none⟩ (.slice (some ⟨g, 0, none⟩) n cap)).heap[b]? = w.heap[b]? := fun b hb => heap_set_ne _ _ _ _ _ hb
  have hl : (L.take n).length = n := by simp; omega
  refine ⟨⟨hq, ?_, h.bm.same (ho m fun e => h.qm e.symm), h.qm, h.vq, h.vm, fun x hx => h.ok x (List.mem_of_mem_take hx), by rw [hl]; have := h.len; omega⟩, ⟨(Fr.refl _ w).set _ (.inl rfl), .inl rfl⟩⟩
  rw [hl, flat_take]
  refine owns_same (w := w) ?_ fun b hb => ho b fun e => h.vq (by rw [← e]; exact hb)
  rcases h.bv.2 with ⟨h1, _⟩ | ⟨g', cap', cur, h1, h2, h3, h4, h5, h6, h7⟩
  · simp at h1
  · simp only [Value.slice.injEq, Option.some.injEq, Addr.mk.injEq, and_true, true_and] at h1
    obtain ⟨rfl, rfl⟩ := h1
    refine ⟨?_, .inr ⟨g, cap, cur, rfl, h2, h3, by omega, h5, h6, ?_⟩⟩
    · rw [List.length_take, h.bv.1]; omega
    · rw [← h7, List.take_take]; congr 1; omega

def DropP (w w' : World) (q m : Nat) (v : Value) (L : List Tm.T) (t : Tm.T) : Prop := ∃ v' L' M', Tq w' q m v' L' M' ∧ L'.Perm (L.erase t) ∧ Turn w w' q m v v'

set_option maxHeartbeats 4000000 in
theorem Drop_any {w : World} {q m : Nat} {v : Value} {L : List Tm.T} {M : Tm.T → Option Nat} (h : Tq w q m v L M) (t : Tm.T) (ht : Ok t) :
    Calls Try.prog 16 #[ptr q, vT t] w fun en w' => en = .returned (.bool (decide (t ∈ L))) ∧ DropP w w' q m v L t := by
  have H := Lib.hid h
  clear h
  go_enter Try.func16, Try.ntmps16
  go_upto_region 1 with (fail)
  (refine wp_at (fun w1 => Blk w1 w.heap.size 25 (cT t).toArray ∧ Below w.heap.size w w1) ⟨heap_at rfl, by go_grown⟩ ?_)
  rintro w1 ⟨A, hB1⟩
  have H1 := Lib.hid (H.out.below hB1)
  go_wp2_with fail
  refine (none_any H1.out.raw).mono ?_
  rintro en w2 ⟨rfl, hb2⟩
  have H2 := Lib.hid (H1.out.below hb2)
  have HT2 := Lib.hid (show Turn w w2 q m v v from (Turn.of hB1).next hb2)
  have A2 : Blk w2 w.heap.size 25 (cT t).toArray := A.below hb2
  clear hB1 hb2 A
  have lA := A2.lt
  have a0 := A2.cell 0
  have a1 := A2.cell 1
  have a2 := A2.cell 2
  have a3 := A2.cell 3
  have q1 := H2.out.raw.bq.cell 1
  simp only [List.getElem?_toArray, List.getElem?_cons_zero, List.getElem?_cons_succ] at a0 a1 a2 a3 q1
  have hlook := fun n => (H2.out.raw.bm.same (w' := w2.drewN n) rfl).look ht
  rw [Full_look H2.out.full t] at hlook
  go_upto_region 3 with (fail)
  by_cases hin : t ∈ L
  · obtain ⟨i, hMi, hLi⟩ := H2.out.full.has hin
    obtain ⟨n, hn⟩ : ∃ n, L.length = n + 1 := ⟨L.length - 1, by have := (List.getElem?_eq_some_iff.1 hLi).1; omega⟩
    obtain ⟨g, cap, rfl, hcap, hcm⟩ := H2.out.raw.form (by omega)
    have hin1 : i ≤ n := by have := (List.getElem?_eq_some_iff.1 hLi).1; omega
    have hnb : n ≤ 5000000000000 := by have := H2.out.raw.len; omega
    rw [hn] at hcap
    have HN := Lib.hid hn
    clear hn
    have hd : decide (t ∈ L) = true := by simp [hin]
    simp only [hd, hMi, Option.getD_some] at hlook
    go_quiet (fail)
    have hA3 : Blk (w2.drewN nq) w.heap.size 25 (cT t).toArray := A2
    have HB3 := Lib.hid (below_drewN (Below.refl w2.heap.size w2) nq)
    have H3 := Lib.hid (H2.out.below HB3.out)
    have HT3 := Lib.hid (HT2.out.next HB3.out)
    have HIN := Lib.hid hin
    have HLI := Lib.hid hLi
    clear a0 a1 a2 a3 q1 hlook A2 lA hin hd hLi hMi
    go_upto_region 6 with (fail)
    (refine wp_at (fun w3 => Tq w3 q m (.slice (some ⟨g, 0, none⟩) L.length cap) L M ∧ Turn w w3 q m (.slice (some ⟨g, 0, none⟩) L.length cap) (.slice (some ⟨g, 0, none⟩) L.length cap) ∧ Blk w3 w.heap.size 25 (cT t).toArray) ⟨H3.out, HT3.out, hA3⟩ ?_)
    clear H3 HT3 hA3 HB3
    rintro w3 ⟨hQ3, hT3, A⟩
    have H3 := Lib.hid hQ3
    have HT3 := Lib.hid hT3
    clear hQ3 hT3
    have lA := A.lt
    have a0 := A.cell 0
    have a1 := A.cell 1
    have a2 := A.cell 2
    have a3 := A.cell 3
    have q1 := H3.out.raw.bq.cell 1
    simp only [List.getElem?_toArray, List.getElem?_cons_zero, List.getElem?_cons_succ] at a0 a1 a2 a3 q1
    go_wp2_with (go_in)
    (refine region_keep (fun b => b = q ∨ b = w.heap.size) 5 [(0, true), (1, true), (2, true), (3, true), (4, true)] (by kernel_rfl) (fun _ _ d _ _ h => by cases d <;> exact h) (by kernel_rfl) ?_; simp only [withOps, List.getElem?_toArray, List.getElem?_cons_zero, List.getElem?_cons_succ, List.drop_succ_cons, List.drop_zero])
    (iterate 5 (refine keep_quiet (v := ?_) rfl ?_ ?_; rotate_left; (focus (intro w' hw'; go_simp; (try with_reducible rfl); done)); try simp only [Act.put, List.setIfInBounds_toArray, List.set_cons_zero, List.set_cons_succ]))
    refine plan_end ?_
    (try simp only [Act.put, List.setIfInBounds_toArray, List.set_cons_zero, List.set_cons_succ])
    refine wpList_cut rfl (.tmp 25) (.tmp 26) rfl m M rfl (H3.out.raw.bm.same (w' := w3.drew) rfl) t rfl ht ?_
    intro w4 hI hF4
    have hkeep : ∀ b, b < w3.heap.size → b ≠ m → w4.heap[b]? = w3.heap[b]? := fun b h1 h2 => hF4.block b h1 h2
    have hR4 : Raw w4 q m (.slice (some ⟨g, 0, none⟩) L.length cap) L (Tm.cut M t) := by
      have hR := H3.out.raw
      exact ⟨(hkeep q hR.bq.lt hR.qm).trans hR.bq, owns_same hR.bv fun b hb2 => hkeep b (hR.bv.lt b hb2).2 (fun e => hR.vm (by rw [hb2, e])), hI, hR.qm, hR.vq, hR.vm, hR.ok, hR.len⟩
    have hT4 : Turn w w4 q m (.slice (some ⟨g, 0, none⟩) L.length cap) (.slice (some ⟨g, 0, none⟩) L.length cap) :=
      HT3.out.trans ⟨(show Fr (fun b => b = m) w3 w4 from ⟨hF4.os, hF4.tape, hF4.output, hF4.size, hF4.block⟩).mono fun k _ e => .inr (.inl e), .inl rfl⟩
    have H4 := Lib.hid hR4
    have HT4 := Lib.hid hT4
    obtain ⟨x, hx⟩ : ∃ x, L[n]? = some x := ⟨_, List.getElem?_eq_getElem (by rw [HN.out]; omega)⟩
    have hxok : Ok x := H3.out.raw.ok x (List.mem_of_getElem? hx)
    have HX := Lib.hid hx
    (try simp only [Act.put, List.setIfInBounds_toArray, List.set_cons_zero, List.set_cons_succ])
    clear a0 a1 a2 a3 q1 A lA hF4 hkeep hI hR4 hT4 hx
    go_upto_region 7 with (fail)
    (refine wp_at (fun w5 => Raw w5 q m (.slice (some ⟨g, 0, none⟩) L.length cap) L (Tm.cut M t) ∧ Turn w w5 q m (.slice (some ⟨g, 0, none⟩) L.length cap) (.slice (some ⟨g, 0, none⟩) L.length cap)) ⟨H4.out, HT4.out⟩ ?_)
    rintro w5 ⟨hR5, hT5⟩
    have H5 := Lib.hid hR5
    have HT5 := Lib.hid hT5
    have q0 := hR5.bq.cell 0
    have fq := hR5.bq.free 0
    simp only [List.getElem?_toArray, List.getElem?_cons_zero, List.getElem?_cons_succ, HN.out] at q0
    obtain ⟨c0, c1, c2, c3⟩ := hR5.cell HX.out
    have lq := hR5.bq.lt
    have lg := hR5.lt g (.inr (.inr rfl))
    have hqg : q ≠ g := fun e => hR5.vq (by rw [e]; rfl)
    clear hR5 hT5 H4 HT4
    go_upto_region 10 with (fail)
    have hcv := H5.out.cutv (n := n) (by rw [HN.out]; omega)
    (refine wp_at (fun w6 => Raw w6 q m (.slice (some ⟨g, 0, none⟩) n cap) (L.take n) (Tm.cut M t) ∧ Turn w w6 q m (.slice (some ⟨g, 0, none⟩) L.length cap) (.slice (some ⟨g, 0, none⟩) n cap) ∧ Blk w6 w5.heap.size 25 (cT x).toArray ∧ w5.heap.size < w6.heap.size ∧ ¬ foot q m (.slice (some ⟨g, 0, none⟩) n cap) w5.heap.size)
      ⟨hcv.1.below (by go_grown), (HT5.out.trans hcv.2).next (by go_grown), heap_at (by simp), by simp, fun hf => by have := hcv.1.lt _ hf; simp at this⟩ ?_)
    rintro w6 ⟨hR6, hT6, A6, l6, hf6⟩
    have H6 := Lib.hid hR6
    have HT6 := Lib.hid hT6
    have HF6 := Lib.hid hf6
    clear hcv hR6 hT6 hf6 q0 fq c0 c1 c2 c3 lq lg
    have a0 := A6.cell 0
    have a1 := A6.cell 1
    have a2 := A6.cell 2
    have a3 := A6.cell 3
    simp only [List.getElem?_toArray, List.getElem?_cons_zero, List.getElem?_cons_succ] at a0 a1 a2 a3
    have hdom : ∀ y, Tm.cut M t y ≠ none → y ∈ L := fun y hy => by
      unfold Tm.cut at hy
      split at hy
      · exact absurd rfl hy
      · exact H3.out.full.dom y hy
    have HDOM := Lib.hid hdom
    clear hdom
    rcases Nat.lt_or_ge i n with hlt | hge
    · go_wp2_with fail
      refine (lay_any H6.out i (by simp [HN.out]; omega) x hxok L HDOM.out H3.out.raw.len).mono ?_
      rintro en w7 ⟨rfl, hR7, hF7⟩
      obtain ⟨hU, hN7, hperm⟩ := Tm.drop_mid H3.out.heap H3.out.full HN.out HLI.out hlt HX.out
      rw [← List.take_set] at hR7
      have HU := Lib.hid hU
      have HN7 := Lib.hid hN7
      have HPM := Lib.hid hperm
      have H7 := Lib.hid hR7
      have HT7 := Lib.hid (HT6.out.trans ⟨hF7, .inl rfl⟩)
      have A7 : Blk w7 w5.heap.size 25 (cT x).toArray := (hF7.block _ l6 HF6.out).trans A6
      have l7 : w5.heap.size < w7.heap.size := Nat.lt_of_lt_of_le l6 hF7.size
      clear hU hN7 hperm hR7 hF7 A6 l6 a0 a1 a2 a3
      go_wp2_with fail
      refine (up_any H7.out i x HU.out.at_ HU.out.hole HU.out.place HN7.out).mono ?_
      rintro en w8 ⟨rfl, L', i', M', hup⟩
      have A8 : Blk w8 w5.heap.size 25 (cT x).toArray := (hup.fr.block _ l7 HF6.out).trans A7
      have HUP := Lib.hid hup
      clear hup A7 l7
      have a0 := A8.cell 0
      have a1 := A8.cell 1
      have a2 := A8.cell 2
      have a3 := A8.cell 3
      have q1 := HUP.out.raw.bq.cell 1
      simp only [List.getElem?_toArray, List.getElem?_cons_zero, List.getElem?_cons_succ] at a0 a1 a2 a3 q1
      have hlook := (HUP.out.raw.bm.same (w' := w8.drew) rfl).look1 hxok
      rw [HUP.out.full.at_ i' x HUP.out.at_] at hlook
      simp only [Option.getD_some] at hlook
      go_upto_region 13 with (fail)
      refine region_still_tail 7 (by kernel_rfl) (by kernel_rfl) ?_
      simp only [List.take_succ_cons, List.take_zero, List.drop_succ_cons, List.drop_zero]
      repeat still_step
      refine wpStill_nil ?_
      go_wp2_with fail
      refine (down_any (w := w8.drew) (HUP.out.raw.same fun _ _ => rfl) i' x HUP.out.at_ HUP.out.hole HUP.out.edge (HUP.out.full.place i') HUP.out.full.nodup).mono ?_
      rintro en w9 ⟨rfl, L2, M2, hdn⟩
      have hfin : DropP w w9 q m (.slice (some ⟨g, 0, none⟩) L.length cap) L t :=
        ⟨_, L2, M2, ⟨hdn.raw, hdn.full, hdn.heap⟩, (hdn.perm.trans HUP.out.perm).trans HPM.out, (HT7.out.trans ⟨HUP.out.fr.drew, .inl rfl⟩).trans ⟨hdn.fr, .inl rfl⟩⟩
      clear hdn
      go_wp2_with fail
      go_returns
      exact ⟨by simp [HIN.out], hfin⟩
    · obtain rfl : i = n := by omega
      obtain ⟨hF, hperm⟩ := Tm.drop_last H3.out.full HN.out HLI.out
      have hfin : DropP w w6 q m (.slice (some ⟨g, 0, none⟩) L.length cap) L t := ⟨_, _, _, ⟨H6.out, hF, Tm.heap_take H3.out.heap i⟩, hperm, HT6.out⟩
      clear hF hperm
      go_wp2_with fail
      go_returns
      exact ⟨by simp [HIN.out], hfin⟩
  · have hd : decide (t ∈ L) = false := by simp [hin]
    simp only [hd] at hlook
    go_quiet (fail)
    have HB3 := Lib.hid (below_drewN (Below.refl w2.heap.size w2) nq)
    have HIN := Lib.hid hin
    clear hin hd
    go_wp2_with fail
    go_returns
    exact ⟨by simp [HIN.out], v, L, M, H2.out.below HB3.out, by rw [List.erase_of_not_mem HIN.out], HT2.out.next HB3.out⟩
end Go.Proofs.Ytlmmcffbpdfcjaa
