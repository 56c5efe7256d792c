/- Due. -/
import Derived.Test.YtlmmcffbpdfcjaaTmW
set_option linter.unusedSimpArgs false
set_option linter.unusedVariables false
namespace Go.Proofs.Ytlmmcffbpdfcjaa
open Go.RowKit Go.Kp Go.ChangeMaps

/-- o came out, in order; L' is left. -/
structure Cut (L o L' : List Tm.T) (upto : Int) : Prop where
  perm : (o ++ L').Perm L
  sorted : o.Pairwise Tm.lt
  ahead : ∀ a ∈ o, ∀ b ∈ L', Tm.lt a b
  due : ∀ a ∈ o, a.a ≤ upto
/-- What Due leaves. -/
def DueP (w w' : World) (q m : Nat) (v : Value) (L : List Tm.T) (upto : Int) (vo : Value) : Prop :=
  ∃ v' L' M' o, Tq w' q m v' L' M' ∧ Turn w w' q m v v' ∧ Cut L o L' upto ∧ (∀ b ∈ L', upto < b.a) ∧ w'.ownsRow w.heap.size 25 4 vo o.length (o.flatMap cT) ∧ ∀ b, vo.ownBlock = some b → ¬ foot q m v' b

theorem Cut.start (L : List Tm.T) (upto : Int) : Cut L [] L upto := ⟨by simp, List.Pairwise.nil, by simp, by simp⟩
theorem Cut.next {L o L' L'' : List Tm.T} {upto : Int} {t : Tm.T} (h : Cut L o L' upto) (hn : L'.Nodup) (ht : t ∈ L') (hmin : ∀ x ∈ L', ¬ Tm.lt x t) (hdue : t.a ≤ upto) (hp : L''.Perm (L'.erase t)) : Cut L (o ++ [t]) L'' upto := by
  have hmem : ∀ x, x ∈ L'' ↔ x ≠ t ∧ x ∈ L' := fun x => by rw [hp.mem_iff, hn.mem_erase_iff]
  refine ⟨?_, ?_, ?_, ?_⟩
  · refine List.Perm.trans ?_ h.perm
    rw [List.append_assoc]
    refine List.Perm.append_left o ?_
    exact ((List.Perm.cons t hp).trans (List.perm_cons_erase ht).symm)
  · rw [List.pairwise_append]
    exact ⟨h.sorted, by simp, fun a ha b hb => by simp at hb; rw [hb]; exact h.ahead a ha t ht⟩
  · intro a ha b hb
    obtain ⟨h1, h2⟩ := (hmem b).1 hb
    rcases List.mem_append.1 ha with h3 | h3
    · exact h.ahead a h3 b h2
    · simp at h3; rw [h3]
      exact Tm.lt_tri (hmin b h2) h1
  · intro a ha
    rcases List.mem_append.1 ha with h3 | h3
    · exact h.due a h3
    · simp at h3; rw [h3]; exact hdue

set_option maxHeartbeats 2000000 in
theorem Due_any {w : World} {q m : Nat} {v : Value} {L : List Tm.T} {M : Tm.T → Option Nat} (h : Tq w q m v L M) (upto : Int) :
    Calls Try.prog 13 #[ptr q, .int .i64 upto] w fun en w' => ∃ vo, en = .returned vo ∧ DueP w w' q m v L upto vo := by
  have H := Lib.hid h
  have hlen := h.raw.len
  clear h
  go_enter Try.func13, Try.ntmps13
  go_wp2_with fail
  go_loopw [5] (fun vo wr => ∃ (v' : Value) (L' : List Tm.T) (M' : Tm.T → Option Nat) (o : List Tm.T), Tq wr q m v' L' M' ∧ Turn w wr q m v v' ∧ Cut L o L' upto ∧ wr.ownsRow w.heap.size 25 4 vo o.length (o.flatMap cT) ∧ (∀ b, vo.ownBlock = some b → ¬ foot q m v' b) ∧ ∃ a cap, vo = .slice a o.length cap) (fun vo _ => match vo with | .slice _ n _ => L.length - n | _ => 0)
  case atStart => exact ⟨v, L, M, [], H.out, Turn.refl, Cut.start L upto, World.ownsRow_nil _ _ _ _, (fun b hb => nomatch hb), none, 0, rfl⟩
  case round =>
    obtain ⟨v', L', M', o, hT, hturn, hcut, hown, hdis, a, cap, rfl⟩ := hrel
    have HT := Lib.hid hT
    have HTU := Lib.hid hturn
    have HC := Lib.hid hcut
    have HO := Lib.hid hown
    have HD := Lib.hid hdis
    have hol : o.length + L'.length = L.length := by have := hcut.perm.length_eq; simpa using this
    have HOL := Lib.hid hol
    clear hT hturn hcut hown hdis hol
    go_wp2_with fail
    refine (Next_any HT.out.raw).mono ?_
    rintro en w1 ⟨rfl, hb1⟩
    have HT1 := Lib.hid (HT.out.below hb1)
    have HTU1 := Lib.hid (HTU.out.next hb1)
    have HO1 := Lib.hid (show w1.ownsRow w.heap.size 25 4 (.slice a o.length cap) o.length (o.flatMap cT) from owns_same HO.out fun b hb => hb1.block b (HO.out.lt b hb).2)
    clear hb1
    rcases Nat.eq_zero_or_pos L'.length with h0 | h0
    · have hd0 : decide (0 < L'.length) = false := by simp [h0]
      have hL0 : L' = [] := List.eq_nil_of_length_eq_zero h0
      have HL0 := Lib.hid hL0
      clear h0 hL0
      rw [hd0]
      go_wp2_with fail
      have hW : Below w1.heap.size w1 (w1.alloc (.cells #[.int .i64 (L'[0]?.getD zT).a, .string (L'[0]?.getD zT).k, .int .i64 (L'[0]?.getD zT).s, .int .i64 (L'[0]?.getD zT).e] 25 (0, 0))) := by go_grown
      have hfin : DueP w _ q m v L upto (.slice a o.length cap) := ⟨v', L', M', o, HT1.out.below hW, HTU1.out.next hW, HC.out, by rw [HL0.out]; simp, owns_same HO1.out fun b hb => hW.block b (HO1.out.lt b hb).2, HD.out⟩
      go_returns
      exact ⟨_, rfl, hfin⟩
    · have hd0 : decide (0 < L'.length) = true := by simp [h0]
      obtain ⟨x, hx⟩ : ∃ x, L'[0]? = some x := ⟨_, List.getElem?_eq_getElem h0⟩
      have hxok : Ok x := HT.out.raw.ok x (List.mem_of_getElem? hx)
      rw [hd0, hx, Option.getD_some]
      have HX := Lib.hid hx
      clear hx hd0
      rcases Int.lt_or_le upto x.a with hlt | hle
      · have hmin : ∀ b ∈ L', upto < b.a := fun b hb => by
          obtain ⟨j, hj⟩ := List.mem_iff_getElem?.1 hb
          have := Tm.at_le (HT.out.heap.root HX.out j b hj)
          omega
        have HM := Lib.hid hmin
        clear hmin
        go_wp2_with fail
        have hW : Below w1.heap.size w1 (w1.alloc (.cells #[.int .i64 x.a, .string x.k, .int .i64 x.s, .int .i64 x.e] 25 (0, 0))) := by go_grown
        have hfin : DueP w _ q m v L upto (.slice a o.length cap) := ⟨v', L', M', o, HT1.out.below hW, HTU1.out.next hW, HC.out, HM.out, owns_same HO1.out fun b hb => hW.block b (HO1.out.lt b hb).2, HD.out⟩
        go_returns
        exact ⟨_, rfl, hfin⟩
      · have hgt : ¬ upto < x.a := by omega
        go_upto_region 5 with (fail)
        have hW : Below w1.heap.size w1 (w1.alloc (.cells (cT x).toArray 25 (0, 0))) := by go_grown
        (refine wp_at (fun w2 => Tq w2 q m v' L' M' ∧ Turn w w2 q m v v' ∧ w2.ownsRow w.heap.size 25 4 (.slice a o.length cap) o.length (o.flatMap cT) ∧ Blk w2 w1.heap.size 25 (cT x).toArray ∧ w1.heap.size < w2.heap.size)
          ⟨HT1.out.below hW, HTU1.out.next hW, owns_same HO1.out fun b hb => hW.block b (HO1.out.lt b hb).2, heap_at rfl, by simp⟩ ?_)
        rintro w2 ⟨hT2, hTU2, hO2, A2, l2⟩
        have HT2 := Lib.hid hT2
        have HTU2 := Lib.hid hTU2
        have HO2 := Lib.hid hO2
        clear hW hT2 hTU2 hO2
        have a0 := A2.cell 0
        have a1 := A2.cell 1
        have a2 := A2.cell 2
        have a3 := A2.cell 3
        simp only [List.getElem?_toArray, List.getElem?_cons_zero, List.getElem?_cons_succ] at a0 a1 a2 a3
        go_wp2_with fail
        refine (Drop_any HT2.out x hxok).mono ?_
        rintro en w3 ⟨rfl, v3, L3, M3, hT3, hp3, hturn3⟩
        have A3 : Blk w3 w1.heap.size 25 (cT x).toArray := (hturn3.fr.block _ l2 (fun hf => by have := HT1.out.raw.lt _ hf; omega)).trans A2
        have hO3 : w3.ownsRow w.heap.size 25 4 (.slice a o.length cap) o.length (o.flatMap cT) := owns_same HO2.out fun b hb => hturn3.fr.block b (HO2.out.lt b hb).2 (HD.out b hb)
        have hD3 : ∀ b, (Value.slice a o.length cap).ownBlock = some b → ¬ foot q m v3 b := fun b hb hf => by
          rcases hturn3.foot b hf with h | h
          · exact HD.out b hb h
          · have := (HO2.out.lt b hb).2
            omega
        have hC3 := HC.out.next HT.out.full.nodup (List.mem_of_getElem? HX.out) (fun y hy => by
          obtain ⟨j, hj⟩ := List.mem_iff_getElem?.1 hy
          exact HT.out.heap.root HX.out j y hj) hle hp3
        have HT3 := Lib.hid hT3
        have HTU3 := Lib.hid (HTU2.out.trans hturn3)
        have HO3 := Lib.hid hO3
        have HD3 := Lib.hid hD3
        have HC3 := Lib.hid hC3
        have l3 : w1.heap.size < w3.heap.size := A3.lt
        have hol3 : o.length + 1 ≤ 5000000000000 := by have := HOL.out; omega
        have hle' : o.length < L.length := by have := HOL.out; omega
        clear hT3 hp3 hturn3 hO3 hD3 hC3 a0 a1 a2 a3
        have a0 := A3.cell 0
        have a1 := A3.cell 1
        have a2 := A3.cell 2
        have a3 := A3.cell 3
        simp only [List.getElem?_toArray, List.getElem?_cons_zero, List.getElem?_cons_succ] at a0 a1 a2 a3
        go_upto_region 6 with (fail)
        apply wp_region_lit
        iterate 3 (go_step; go_step; rename_i KK hKK; (with_reducible refine hKK _ _ ?_); clear hKK KK)
        have hsz := HTU3.out.fr.size
        refine append_tms rfl (.tmp 25) (.tmp 27) rfl w.heap.size (.slice a o.length cap) o.length o rfl (HO3.out.alloc _) (some ⟨w3.heap.size, 0, none⟩) 1 1 [x] rfl (fun h => by cases h) rfl ?_ hol3 (by simp; omega) ?_
        · exact .inr ⟨w3.heap.size, 0, rfl, by simp, fun j u hu => by
            rw [Nat.zero_add]
            have hb : Blk (w3.alloc (.cells (cT x).toArray 25 (0, 0))) w3.heap.size 25 (cT x).toArray := heap_at rfl
            exact (hb.cell j).trans (by simpa using hu)⟩
        intro v4 w4 ho4 hg4 hv4
        have hb3 : Below w3.heap.size w3 (w3.alloc (.cells (cT x).toArray 25 (0, 0))) := by go_grown
        have hk4 : ∀ b, b < w3.heap.size → (Value.slice a o.length cap).ownBlock ≠ some b → w4.heap[b]? = w3.heap[b]? := fun b h1 h2 => (hg4.block b (Nat.lt_of_lt_of_le h1 hb3.size) (fun e => h2 e.symm)).trans (hb3.block b h1)
        have hT4 : Tq w4 q m v3 L3 M3 := HT3.out.same fun b hb => hk4 b (HT3.out.raw.lt b hb) (fun e => HD3.out b e hb)
        have hTU4 : Turn w w4 q m v v3 := by
          refine ⟨⟨hg4.os.trans (hb3.os.trans HTU3.out.fr.os), hg4.tape.trans (hb3.tape.trans HTU3.out.fr.tape), hg4.output.trans (hb3.output.trans HTU3.out.fr.output), Nat.le_trans hsz (Nat.le_trans hb3.size hg4.size), fun b hb hn => ?_⟩, HTU3.out.own⟩
          refine (hk4 b (Nat.lt_of_lt_of_le hb hsz) (fun e => ?_)).trans (HTU3.out.fr.block b hb hn)
          have := (HO3.out.lt b e).1
          omega
        have hD4 : ∀ b, v4.ownBlock = some b → ¬ foot q m v3 b := fun b hb hf => by
          rcases hv4 with e | e
          · exact HD3.out b (e ▸ hb) hf
          · rw [e] at hb
            cases hb
            have := HT3.out.raw.lt _ hf
            simp at this
            omega
        obtain ⟨a4, cap4, rfl⟩ : ∃ a4 cap4, v4 = .slice a4 (o.length + 1) cap4 := by
          obtain ⟨g4, cap4, h4, _⟩ := ho4.form (by omega)
          exact ⟨_, _, h4⟩
        have HO4 := Lib.hid ho4
        have HT4 := Lib.hid hT4
        have HTU4 := Lib.hid hTU4
        have HD4 := Lib.hid hD4
        clear ho4 hT4 hTU4 hD4 hg4 hv4 hb3 hk4 a0 a1 a2 a3
        (try simp only [Act.put, List.setIfInBounds_toArray, List.set_cons_zero, List.set_cons_succ])
        go_wp2_with fail
        go_roundw
        case rel => exact ⟨v3, L3, M3, o ++ [x], HT4.out, HTU4.out, HC3.out, by rw [List.length_append]; exact HO4.out, HD4.out, a4, cap4, by simp⟩
        case measure => simp; omega
end Go.Proofs.Ytlmmcffbpdfcjaa
