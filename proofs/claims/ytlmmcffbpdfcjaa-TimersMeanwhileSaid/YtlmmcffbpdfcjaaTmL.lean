/- none, lay. -/
import Derived.Test.YtlmmcffbpdfcjaaTmQ
import Derived.WalkSpells
import Derived.Deep.Cut
set_option linter.unusedSimpArgs false
set_option linter.unusedVariables false
namespace Go.Proofs.Ytlmmcffbpdfcjaa
open Go.RowKit Go.Kp Go.ChangeMaps

abbrev ptr (q : Nat) : Value := .pointer (some ⟨q, 0, none⟩)

theorem none_any {w : World} {q m : Nat} {v : Value} {L : List Tm.T} {M : Tm.T → Option Nat} (h : Raw w q m v L M) :
    Calls Try.prog 28 #[ptr q] w (Ret (.bool false) w) := by
  have c1 := h.bq.cell 1
  simp only [List.getElem?_toArray, List.getElem?_cons_zero, List.getElem?_cons_succ] at c1
  have e := run_eql_map_nil (P := Try.prog) w 57 _ _ (some m) Try.underlying57
  clear h
  go_enter Try.func28, Try.ntmps28
  go_wp2
  go_returns
  exact ⟨rfl, by go_grown⟩

set_option maxHeartbeats 1000000 in
theorem lay_any {w : World} {q m : Nat} {v : Value} {L : List Tm.T} {M : Tm.T → Option Nat} (h : Raw w q m v L M) (i : Nat) (hi : i < L.length) (x : Tm.T) (hx : Ok x) (l : List Tm.T) (hl : ∀ y, M y ≠ none → y ∈ l) (hn : l.length ≤ 5000000000000) :
    Calls Try.prog 29 #[ptr q, .int .i64 i, vT x] w fun en w' => en = .returned (.tuple #[]) ∧ Raw w' q m v (L.set i x) (Tm.upd M x i) ∧ Fr (foot q m v) w w' := by
  obtain ⟨g, cap, rfl, hcap, hcm⟩ := h.form (by omega)
  have H := Lib.hid h
  have HL := Lib.hid hl
  have hlen := h.len
  have hqg : q ≠ g := fun e => h.vq (by rw [e]; rfl)
  have hmg : m ≠ g := fun e => h.vm (by rw [e]; rfl)
  clear h hl
  go_enter Try.func29, Try.ntmps29
  go_upto_region 1 with (fail)
  (refine wp_at (fun w1 => Blk w1 w.heap.size 25 (cT x).toArray ∧ Below w.heap.size w w1) ⟨heap_at rfl, by go_grown⟩ ?_)
  rintro w1 ⟨A, hB⟩
  have H1 := Lib.hid (H.out.below hB)
  have lA := A.lt
  have a0 := A.cell 0
  have a1 := A.cell 1
  have a2 := A.cell 2
  have a3 := A.cell 3
  have q0 := H1.out.bq.cell 0
  have q1 := H1.out.bq.cell 1
  simp only [List.getElem?_toArray, List.getElem?_cons_zero, List.getElem?_cons_succ] at a0 a1 a2 a3 q0 q1
  have f := H1.out.bv.frozenAt
  have hc := H1.out.cell (List.getElem?_eq_getElem hi)
  obtain ⟨c0, c1, c2, c3⟩ := hc
  go_wp2_with (go_in)
  (refine region_keep (fun _ => True) 6 [(0, true), (1, true), (2, true), (3, true), (4, true), (5, true)] (by kernel_rfl) (fun _ _ d _ _ h => by cases d <;> exact h) (by kernel_rfl) ?_; simp only [withOps, List.getElem?_toArray, List.getElem?_cons_zero, List.getElem?_cons_succ, List.drop_succ_cons, List.drop_zero])
  (iterate 6 (refine keep_quiet (v := ?_) rfl ?_ ?_; rotate_left; (focus (intro w' hw'; go_simp; (try with_reducible rfl); done)); try simp only [Act.put, List.setIfInBounds_toArray, List.set_cons_zero, List.set_cons_succ]))
  refine plan_end ?_
  (try simp only [Act.put, List.setIfInBounds_toArray, List.set_cons_zero, List.set_cons_succ])
  go_upto_region 2 with (fail)
  have H2 := Lib.hid (H1.out.stored hi hx)
  (refine wp_at (fun w2 => Raw w2 q m (.slice (some ⟨g, 0, none⟩) L.length cap) (L.set i x) M ∧ Fr (fun b => b = g) w1 w2) ⟨H2.out.1.same fun _ _ => rfl, H2.out.2.drew⟩ ?_)
  rintro w2 ⟨hR2, hF2⟩
  have hgA : w.heap.size ≠ g := by
    have := H.out.lt g (.inr (.inr rfl))
    omega
  have lA2 : w.heap.size < w2.heap.size := Nat.lt_of_lt_of_le lA hF2.size
  have A2 : Blk w2 w.heap.size 25 (cT x).toArray := (hF2.block _ lA hgA).trans A
  have H3 := Lib.hid hR2
  have HF := Lib.hid hF2
  clear a0 a1 a2 a3 q0 q1 c0 c1 c2 c3 f A H2 hR2 hF2
  have a0 := A2.cell 0
  have a1 := A2.cell 1
  have a2 := A2.cell 2
  have a3 := A2.cell 3
  have q1 := H3.out.bq.cell 1
  simp only [List.getElem?_toArray, List.getElem?_cons_zero, List.getElem?_cons_succ] at a0 a1 a2 a3 q1
  go_wp2_with (go_in)
  (refine region_keep (fun _ => True) 6 [(0, true), (1, true), (2, true), (3, true), (4, true), (5, true)] (by kernel_rfl) (fun _ _ d _ _ h => by cases d <;> exact h) (by kernel_rfl) ?_; simp only [withOps, List.getElem?_toArray, List.getElem?_cons_zero, List.getElem?_cons_succ, List.drop_succ_cons, List.drop_zero])
  (iterate 6 (refine keep_quiet (v := ?_) rfl ?_ ?_; rotate_left; (focus (intro w' hw'; go_simp; (try with_reducible rfl); done)); try simp only [Act.put, List.setIfInBounds_toArray, List.set_cons_zero, List.set_cons_succ]))
  refine plan_end ?_
  (try simp only [Act.put, List.setIfInBounds_toArray, List.set_cons_zero, List.set_cons_succ])
  refine wpList_place rfl (.tmp 16) (.tmp 17) (.tmp 18) rfl m M rfl (H3.out.bm.same (w' := w2.drew) rfl) x rfl i rfl hx l HL.out hn (by omega) ?_
  intro w3 hI hF3
  (try simp only [Act.put, List.setIfInBounds_toArray, List.set_cons_zero, List.set_cons_succ])
  go_wp2_with fail
  refine bodyPost_end (v := .tuple #[]) (by simp [results, Try.results29]) rfl ⟨rfl, ?_, ?_⟩
  · have hR := H3.out
    have hb : ∀ b, b < w2.heap.size → b ≠ m → w3.heap[b]? = w2.heap[b]? := fun b h1 h2 => hF3.block b h1 h2
    exact ⟨(hb q hR.bq.lt hR.qm).trans hR.bq, owns_same hR.bv fun b hb2 => hb b (hR.bv.lt b hb2).2 (fun e => hR.vm (by rw [hb2, e])), hI, hR.qm, hR.vq, hR.vm, hR.ok, hR.len⟩
  · have f1 : Fr (foot q m (.slice (some ⟨g, 0, none⟩) L.length cap)) w w1 := Fr.next hB
    have f2 : Fr (foot q m (.slice (some ⟨g, 0, none⟩) L.length cap)) w1 w2 := HF.out.mono fun k _ e => .inr (.inr (by rw [e]; rfl))
    have f3 : Fr (foot q m (.slice (some ⟨g, 0, none⟩) L.length cap)) w2 w3 := (show Fr (fun b => b = m) w2 w3 from ⟨hF3.os, hF3.tape, hF3.output, hF3.size, hF3.block⟩).mono fun k _ e => .inr (.inl e)
    exact (f1.trans f2).trans f3
end Go.Proofs.Ytlmmcffbpdfcjaa
