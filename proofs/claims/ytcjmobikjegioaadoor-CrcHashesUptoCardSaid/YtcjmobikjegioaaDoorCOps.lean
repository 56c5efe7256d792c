/- CrcHashes: the script among the arguments: a list of structs of three numbers and a text. -/
import Derived.Test.YtcjmobikjegioaaDoorCHashM
import Derived.Test.YtcjmobikjegioaaDoorCTexts
import Derived.Lib.SmallJoins
set_option linter.unusedSimpArgs false
set_option linter.unusedVariables false
namespace Go.Proofs.YtcjmobikjegioaaDoor
open Go.ChangeShapes Go.WideShapes Go.ChangeAt Go.RowKit Go.Kp

theorem text_at {H : Type} {enc : TypeId × Value → H} {w : World} {base f : Nat} {spare : Nat → Bool} {held : Bool} {cs : List Value} {y : DataW H × List MemPlace} (hf : DataW.trod enc Tryd.prog w base spare held f 24 cs = some y) :
    ∃ (a : Option Addr) (cap : Nat) (l : List UInt8), cs = [.slice a l.length cap] ∧ (a = none → cap = 0) ∧ Rd w w.heap.size a (l.map B8) ∧ l.length ≤ Rows.uptoBulk y.1 := by
  have hc : Tryd.prog.cellsOf 5 = 1 := by kernel_rfl
  rcases open_ints Tryd.underlying24 Tryd.underlying5 hc hf with ⟨hcs, _⟩ | ⟨a', n, cap, zs, hcs, hnc, hl, hm, hz, hx, hcell, hwf⟩
  · subst hcs
    exact ⟨none, 0, [], rfl, fun _ => rfl, .inl rfl, Nat.zero_le _⟩
  · subst hcs
    have hn : n ≤ zs.length := by rw [hz]; split <;> omega
    obtain ⟨l, hll, hlm⟩ := to_bytes (zs.take n) fun z hz => wf_u8 (hwf z (List.mem_of_mem_take hz))
    have hl2 : l.length = n := by rw [hll]; simp [Nat.min_eq_left hn]
    refine ⟨some a', cap, l, by rw [hl2], fun h => (by cases h), ?_, ?_⟩
    · rw [← hlm]
      rcases Nat.eq_zero_or_pos n with h0 | h0
      · subst h0; exact .inl (by simp)
      · obtain ⟨b, off, rfl, hc⟩ := ints_at hcell (by omega)
        refine .inr ⟨b, off, rfl, block_lt_of_cell (hc 0 (by omega)), fun j u hu => ?_⟩
        have hj : j < n := by
          have := (List.getElem?_eq_some_iff.1 hu).1
          simp at this; omega
        rw [hc j (by omega)]
        rw [List.getElem?_map, List.getElem?_take_of_lt hj, List.getElem?_eq_getElem (show j < zs.length by omega)] at hu
        rw [← hu, List.getD_eq_getElem?_getD, List.getElem?_eq_getElem (show j < zs.length by omega)]
        rfl
    · have := bulk_len (lits (H := H) .u8 (zs.take n))
      simp only [lits, List.length_map, List.length_take, Nat.min_eq_left hn] at this
      rw [hx]
      simp only [Rows.uptoBulk, lits]; omega

theorem list4 {α : Type} {cs : List α} (h : cs.length = 4) : ∃ a b c d, cs = [a, b, c, d] := by
  match cs, h with
  | [a, b, c, d], _ => exact ⟨a, b, c, d, rfl⟩

theorem op_at {H : Type} {enc : TypeId × Value → H} {w : World} {base f : Nat} {spare : Nat → Bool} {held : Bool} {cs : List Value} {y : DataW H × List MemPlace} (hf : DataW.trod enc Tryd.prog w base spare held f 52 cs = some y) :
    ∃ x : Opd, cs = x.cells ∧ x.l.length ≤ Rows.uptoBulk y.1 ∧ (x.l.length ≤ 1048576 → Txt w w.heap.size x.v x.l) := by
  obtain ⟨y0, y1, y2, y3, n, rfl, hl, h0, h1, h2, h3⟩ := Go.Joins.trod_struct4 Tryd.underlying52 hf
  obtain ⟨a, b, c, d, rfl⟩ := list4 (hl.trans (show Tryd.prog.cellsOf 52 = 4 by kernel_rfl))
  have e1 : Tryd.prog.cellsOf 3 = 1 := by kernel_rfl
  have e2 : Tryd.prog.cellsOf 24 = 1 := by kernel_rfl
  simp only [e1, e2, List.drop_zero, List.drop_succ_cons, List.take_succ_cons, List.take_zero] at h0 h1 h2 h3
  obtain ⟨n0, k0, _, _⟩ := DataW.trod_int Tryd.underlying3 h0
  obtain ⟨n1, k1, _, _⟩ := DataW.trod_int Tryd.underlying3 h1
  obtain ⟨n2, k2, _, _⟩ := DataW.trod_int Tryd.underlying3 h2
  obtain ⟨va, vc, l, k3, hn, hr, hb⟩ := text_at h3
  simp only [List.cons.injEq, and_true] at k0 k1 k2 k3
  subst k0; subst k1; subst k2; subst k3
  refine ⟨⟨n0, n1, n2, _, l⟩, rfl, ?_, fun hle => ⟨va, vc, rfl, hn, by omega, hr⟩⟩
  simp only [Rows.uptoBulk, Rows.uptoBulkAll]
  omega

theorem open_ops {H : Type} {enc : TypeId × Value → H} {w : World} {base b0 : Nat} {spare : Nat → Bool} {held : Bool} {r : Reach} {v : Value} {d : DataW H} {p : List MemPlace} (hv : Value.okWide Tryd.prog w r b0 46 v) (h : DataW.Trod enc Tryd.prog w base spare held 46 v d p)
    (hk : Rows.uptoBulk d ≤ 1048576) :
    ∃ (a : Option Addr) (n cap : Nat) (os : List Opd), v = .slice a n cap ∧ os.length = n ∧ n ≤ 1048576 ∧ tot os os.length ≤ 1048576 ∧ Rd w w.heap.size a (os.flatMap Opd.cells) ∧ ∀ x ∈ os, Txt w w.heap.size x.v x.l := by
  obtain ⟨a, n, cap, rfl⟩ := okWide_slice Tryd.underlying46 hv
  obtain ⟨f, hf⟩ := h
  have hc4 : Tryd.prog.cellsOf 52 = 4 := by kernel_rfl
  rcases Deep.open_slice Tryd.underlying46 hf with ⟨hcs, _⟩ | ⟨a', n', cap', m, g, D, Pl, hcs, hb, hl, hm, hmm, hx, he⟩
  · simp [Value.cells] at hcs
    obtain ⟨rfl, rfl, rfl⟩ := hcs
    exact ⟨none, 0, 0, [], rfl, rfl, by omega, by simp [tot], .inl rfl, by simp⟩
  · simp [Value.cells] at hcs
    obtain ⟨rfl, rfl, rfl⟩ := hcs
    simp only [Prod.mk.injEq] at hx
    obtain ⟨rfl, _⟩ := hx
    simp only [Rows.uptoBulk] at hk
    have hnm : n ≤ m := by rw [hmm]; split <;> omega
    have each : ∀ i, i < n → ∃ t : Opd, (∀ j, j < 4 → w.cell? ((a'.add (i * 4)).add j) = t.cells[j]?) ∧ t.l.length ≤ Rows.uptoBulk (D i) ∧ (t.l.length ≤ 1048576 → Txt w w.heap.size t.v t.l) := fun i hi => by
      obtain ⟨cs, h2, h3⟩ := he i (by omega)
      rw [hc4] at h2
      obtain ⟨t, rfl, h4, h5⟩ := op_at h3
      exact ⟨t, fun j hj => (World.cells?_some h2).2.2 j hj, h4, h5⟩
    obtain ⟨tf, htf⟩ := Deep.choose_lt each
    have hsum : (((List.range n).map tf).map fun x => x.l.length).sum ≤ Rows.uptoBulkAll ((List.range n).map D) := by
      rw [List.map_map]
      exact bulk_sum D (fun i => (tf i).l.length) (List.range n) fun i hi => (htf i (by simpa using hi)).2.1
    have hlen := bulk_len ((List.range n).map D)
    simp only [List.length_map, List.length_range] at hlen
    have hlz : ((List.range n).map tf).length = n := by simp
    have htot : tot ((List.range n).map tf) n ≤ 1048576 := by
      unfold tot
      rw [List.take_of_length_le (by omega)]; omega
    refine ⟨some a', n, cap, (List.range n).map tf, rfl, hlz, by omega, by rw [hlz]; exact htot, ?_, ?_⟩
    · rcases Nat.eq_zero_or_pos n with h0 | h0
      · subst h0; exact .inl (by simp)
      · obtain ⟨b, off, sp⟩ := a'
        have c0 := (htf 0 h0).1 0 (by omega)
        obtain rfl : sp = none := by
          have := World.cell?_spot c0
          simpa [Addr.add] using this
        simp only [Go.WideShapes.add_plain] at htf c0
        refine .inr ⟨b, off, rfl, block_lt_of_cell c0, fun j u hu => ?_⟩
        have hj : j < n * 4 := by
          have h1 := (List.getElem?_eq_some_iff.1 hu).1
          rw [flat_length Opd.cells 4 Opd.len, hlz] at h1
          exact h1
        have hi : j / 4 < n := by omega
        have h1 := flat_get Opd.cells 4 Opd.len ((List.range n).map tf) (j / 4) (j % 4) (tf (j / 4)) (by simp [hi]) (by omega)
        have h2 := (htf (j / 4) hi).1 (j % 4) (by omega)
        rw [show j / 4 * 4 + j % 4 = j by omega, hu] at h1
        rw [← h1] at h2
        have h3 : off + j / 4 * 4 + j % 4 = off + j := by omega
        rw [h3] at h2
        exact h2
    · intro x hx
      obtain ⟨i, hi, rfl⟩ := List.mem_map.1 hx
      have hin : i < n := by simpa using hi
      refine (htf i hin).2.2 ?_
      have := mem_le_sum _ (List.mem_map.2 ⟨tf i, hx, rfl⟩ : (tf i).l.length ∈ ((List.range n).map tf).map fun x => x.l.length)
      omega
end Go.Proofs.YtcjmobikjegioaaDoor
