/- A block among the arguments, opened: its tag and its body. -/
import Derived.Test.YtolbmjilcngnhaaDoorFrLaw
import Derived.ChangeSame
set_option linter.unusedSimpArgs false
set_option linter.unusedVariables false
namespace Go.Proofs.YtolbmjilcngnhaaDoor
open Go.ChangeShapes Go.WideShapes Go.ChangeAt Go.RowKit Go.Kp

/-- Bytes in a struct. -/
theorem text_at {H : Type} {enc : TypeId × Value → H} {w : World} {base f : Nat} {spare : Nat → Bool} {held : Bool} {cs : List Value} {y : DataW H × List MemPlace} (hf : DataW.trod enc Tryd.prog w base spare held f 22 cs = some y) :
    ∃ (a : Option Addr) (cap : Nat) (l : List UInt8), cs = [.slice a l.length cap] ∧ (a = none → cap = 0) ∧ l.length ≤ cap ∧ l.length ≤ 9223372036854775807 ∧ Rd w w.heap.size a (l.map B8) ∧ (l.length = 0 ∨ ∃ elems sp, y.1 = .slice elems sp ∧ elems.length = l.length) := by
  have hc : Tryd.prog.cellsOf 5 = 1 := by kernel_rfl
  rcases open_ints Tryd.underlying22 Tryd.underlying5 hc hf with ⟨hcs, _⟩ | ⟨a', n, cap, zs, hcs, hnc, hl, hm, hz, hx, hcell, hwf⟩
  · subst hcs
    exact ⟨none, 0, [], rfl, fun _ => rfl, by simp, by simp, .inl rfl, .inl rfl⟩
  · subst hcs
    have hn : n ≤ zs.length := by rw [hz]; split <;> omega
    obtain ⟨l, hll, hlm⟩ := to_bytes (zs.take n) fun z hz => wf_u8 (hwf z (List.mem_of_mem_take hz))
    have hl2 : l.length = n := by rw [hll]; simp [Nat.min_eq_left hn]
    refine ⟨some a', cap, l, by rw [hl2], fun h => (by cases h), by omega, by rw [hl2]; unfold maxLen at hm; omega, ?_, .inr ⟨_, _, by rw [hx], by simp [lits]; omega⟩⟩
    rw [← hlm]
    rcases Nat.eq_zero_or_pos n with h0 | h0
    · subst h0; exact .inl (by simp)
    · obtain ⟨b, off, rfl, hc⟩ := ints_at hcell (by omega)
      refine .inr ⟨b, off, rfl, block_lt_of_cell (hc 0 (by omega)), fun j u hu => ?_⟩
      have hj : j < n := by
        have := (List.getElem?_eq_some_iff.1 hu).1
        simp at this; omega
      rw [hc j (by omega)]
      rw [List.getElem?_map, List.getElem?_take_of_lt hj, List.getElem?_eq_getElem (show j < zs.length by omega)] at hu
      rw [← hu, List.getD_eq_getElem?_getD, List.getElem?_eq_getElem (show j < zs.length by omega)]
      rfl

theorem byte_of {n : Int} (h : (Lit.int .u8 n).wf = true) : ∃ b : UInt8, n = (b.toNat : Int) :=
  ⟨UInt8.ofNat n.toNat, by have := wf_u8 h; have e : (UInt8.ofNat n.toNat).toNat = n.toNat := (by simp; omega); rw [e]; omega⟩

theorem open_block {H : Type} {enc : TypeId × Value → H} {w : World} {base b0 : Nat} {spare : Nat → Bool} {held : Bool} {r : Reach} {v : Value} {d : DataW H} {p : List MemPlace} (hv : Value.okWide Tryd.prog w r b0 35 v) (h : DataW.Trod enc Tryd.prog w base spare held 35 v d p) :
    ∃ (t : UInt8) (a : Option Addr) (cap : Nat) (l : List UInt8), v = .agg #[B8 t, .slice a l.length cap] ∧ (a = none → cap = 0) ∧ l.length ≤ cap ∧ l.length ≤ 9223372036854775807 ∧ Rd w w.heap.size a (l.map B8) := by
  obtain ⟨cs, rfl, _⟩ := okWide_struct Tryd.underlying35 hv
  obtain ⟨f, hf⟩ := h
  obtain ⟨l⟩ := cs
  obtain ⟨y0, y1, k, hy, hl, h0, h1⟩ := trod_struct2 Tryd.underlying35 hf
  obtain ⟨x0, x1, rfl⟩ : ∃ x0 x1, l = [x0, x1] := by
    have hl : l.length = 2 := hl.trans (show Tryd.prog.cellsOf 35 = 2 by kernel_rfl)
    match l, hl with
    | [a, b], _ => exact ⟨a, b, rfl⟩
  have e1 : Tryd.prog.cellsOf 5 = 1 := by kernel_rfl
  have e2 : Tryd.prog.cellsOf 22 = 1 := by kernel_rfl
  simp only [e1, e2, List.drop_zero, List.drop_succ_cons, List.take_succ_cons, List.take_zero] at h0 h1
  obtain ⟨n, q0, _, hn⟩ := DataW.trod_int Tryd.underlying5 h0
  obtain ⟨a, cap, l, q1, ha, hc, hm, hr, _⟩ := text_at h1
  have q0' : [x0] = [Value.int .u8 n] := q0
  have q1' : [x1] = [Value.slice a l.length cap] := q1
  obtain rfl := List.head_eq_of_cons_eq q0'
  obtain rfl := List.head_eq_of_cons_eq q1'
  obtain ⟨t, rfl⟩ := byte_of hn
  exact ⟨t, a, cap, l, rfl, ha, hc, hm, hr⟩
end Go.Proofs.YtolbmjilcngnhaaDoor
