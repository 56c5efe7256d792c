/- known: three timers come in their order. -/
import Derived.Test.YtlmmcffbpdfcjaaTmV
set_option linter.unusedSimpArgs false
set_option linter.unusedVariables false
namespace Go.Proofs.Ytlmmcffbpdfcjaa
open Go.RowKit Go.Kp Go.ChangeMaps

theorem sorted_eq : ∀ {l1 l2 : List Tm.T}, l1.Pairwise Tm.lt → l2.Pairwise Tm.lt → (∀ x, x ∈ l1 ↔ x ∈ l2) → l1 = l2
  | [], [], _, _, _ => rfl
  | [], b :: s, _, _, h => by have := (h b).2 (by simp); simp at this
  | a :: r, [], _, _, h => by have := (h a).1 (by simp); simp at this
  | a :: r, b :: s, h1, h2, h => by
    obtain ⟨a1, a2⟩ := List.pairwise_cons.1 h1
    obtain ⟨b1, b2⟩ := List.pairwise_cons.1 h2
    have hab : a = b := by
      rcases List.mem_cons.1 ((h a).1 (by simp)) with e | ha
      · exact e
      · rcases List.mem_cons.1 ((h b).2 (by simp)) with e | hb
        · exact e.symm
        · exact absurd (a1 b hb) (Tm.lt_asymm (b1 a ha))
    subst hab
    rw [sorted_eq a2 b2 (fun p => ⟨fun hp => by
      rcases List.mem_cons.1 ((h p).1 (by simp [hp])) with e | hp'
      · have := a1 p hp
        rw [e] at this
        exact absurd this (Tm.lt_irrefl _)
      · exact hp', fun hp => by
      rcases List.mem_cons.1 ((h p).2 (by simp [hp])) with e | hp'
      · have := b1 p hp
        rw [e] at this
        exact absurd this (Tm.lt_irrefl _)
      · exact hp'⟩)]

abbrev t5b : Tm.T := ⟨5, ⟨#[98]⟩, 0, 0⟩
abbrev t5a : Tm.T := ⟨5, ⟨#[97]⟩, 0, 0⟩
abbrev t3z : Tm.T := ⟨3, ⟨#[122]⟩, 0, 0⟩
theorem three_lt : [t3z, t5a, t5b].Pairwise Tm.lt := by decide +kernel
theorem ok_small (a : Int) (k : ByteArray) (s e : Int) (ha : -1000 ≤ a ∧ a ≤ 1000) (hk : k.size ≤ 1000) (hs : -1000 ≤ s ∧ s ≤ 1000) (he : -1000 ≤ e ∧ e ≤ 1000) : Ok ⟨a, k, s, e⟩ := by
  have h1 : IntKind.i64.min = -9223372036854775808 := by decide
  have h2 : IntKind.i64.max = 9223372036854775807 := by decide
  refine ⟨?_, ?_, ?_, ?_⟩
  · simp only [Lit.wf, h1, h2, Bool.and_eq_true, decide_eq_true_eq]; omega
  · unfold maxLen; show k.size ≤ _; omega
  · simp only [Lit.wf, h1, h2, Bool.and_eq_true, decide_eq_true_eq]; omega
  · simp only [Lit.wf, h1, h2, Bool.and_eq_true, decide_eq_true_eq]; omega

set_option maxHeartbeats 2000000 in
theorem known_any (w : World) : Calls Try.prog 10 #[] w (Ret (.bool true) w) := by
  go_enter Try.func10, Try.ntmps10
  go_wp2_with fail
  have hW : Below w.heap.size w (w.alloc (.cells ([t5b, t5a, t3z].flatMap cT).toArray 25 (0, 0))) := by go_grown
  have hb0 : Blk (w.alloc (.cells ([t5b, t5a, t3z].flatMap cT).toArray 25 (0, 0))) w.heap.size 25 ([t5b, t5a, t3z].flatMap cT).toArray := heap_at rfl
  refine (New_any (some ⟨w.heap.size, 0, none⟩) 3 3 [t5b, t5a, t3z] rfl (by omega) (.inr ⟨w.heap.size, 0, rfl, by simp, fun j u hu => by rw [Nat.zero_add]; exact (hb0.cell j).trans (by simpa using hu)⟩) (fun x hx => ?_)).mono ?_
  · simp only [List.mem_cons, List.not_mem_nil, or_false] at hx
    rcases hx with rfl | rfl | rfl
    · exact ok_small _ _ _ _ (by omega) (by decide) (by omega) (by omega)
    · exact ok_small _ _ _ _ (by omega) (by decide) (by omega) (by omega)
    · exact ok_small _ _ _ _ (by omega) (by decide) (by omega) (by omega)
  rintro en w1 ⟨q, m, v, L, M, rfl, hN, hb1⟩
  have HN := Lib.hid hN
  have HB1 := Lib.hid (bnext hW hb1)
  have HF1 := Lib.hid (show ∀ b, foot q m v b → w.heap.size ≤ b from fun b hb => Nat.le_trans hW.size (hN.2.2 b hb))
  clear hN hb1 hW hb0
  go_wp2_with fail
  refine (Due_any HN.out.1 5).mono ?_
  rintro en w2 ⟨vo, rfl, v2, L2, M2, o, hT2, hTU2, hC2, hL2, hO2, hD2⟩
  have hL0 : L2 = [] := by
    cases L2 with
    | nil => rfl
    | cons b s =>
      have h1 := hL2 b (by simp)
      have h2 : b ∈ L := (hC2.perm.mem_iff).1 (by simp)
      have h3 := (HN.out.2.1 b).1 h2
      simp only [List.mem_cons, List.not_mem_nil, or_false] at h3
      rcases h3 with rfl | rfl | rfl <;> simp at h1
  subst hL0
  have ho : o = [t3z, t5a, t5b] := by
    refine sorted_eq hC2.sorted three_lt fun x => ?_
    have h1 := hC2.perm.mem_iff (a := x)
    rw [List.append_nil] at h1
    rw [h1, HN.out.2.1 x]
    simp only [List.mem_cons, List.not_mem_nil, or_false]
    constructor
    · rintro (h | h | h)
      · exact .inr (.inr h)
      · exact .inr (.inl h)
      · exact .inl h
    · rintro (h | h | h)
      · exact .inr (.inr h)
      · exact .inr (.inl h)
      · exact .inl h
  subst ho
  obtain ⟨g, cap, rfl, hg1, hg2⟩ := hO2.form (by simp)
  have hB2 : Below w.heap.size w w2 := HB1.out.trans (hTU2.fr.below HF1.out HB1.out.size)
  have HT2 := Lib.hid hT2
  have c1 := hO2.cellAt 1 (by simp)
  have c5 := hO2.cellAt 5 (by simp)
  have c9 := hO2.cellAt 9 (by simp)
  have HO2 := Lib.hid hO2
  have hBH := Lib.hid hB2
  have lg := (hO2.lt g rfl).2
  clear hT2 hTU2 hC2 hL2 hD2 hO2 hB2
  simp only [List.flatMap_cons, List.flatMap_nil, cT, List.cons_append, List.nil_append, List.append_nil, List.getElem?_cons_zero, List.getElem?_cons_succ] at c1 c5 c9
  go_wp2_with fail
  refine (Len_any HT2.out.raw).mono ?_
  rintro en w3 ⟨rfl, hb3⟩
  have hB3 : Below w.heap.size w w3 := bnext hBH.out hb3
  have d1 := (hb3.cell (p := ⟨g, 1, none⟩) lg).trans c1
  have d5 := (hb3.cell (p := ⟨g, 5, none⟩) lg).trans c5
  have d9 := (hb3.cell (p := ⟨g, 9, none⟩) lg).trans c9
  clear hb3 c1 c5 c9
  simp only [List.length_nil]
  go_wp2_with fail
  go_returns
  exact ⟨rfl, hB3⟩
end Go.Proofs.Ytlmmcffbpdfcjaa
