/- The arguments of this seat's laws, opened. -/
import Derived.Test.YtbkofiflfcfjfaaSeQ
import Derived.Test.YtbkofiflfcfjfaaOpen
import Derived.Test.YtbkofiflfcfjfaaRows
import Derived.OpenShut
import Derived.SizedLaws
set_option linter.unusedSimpArgs false
set_option linter.unusedVariables false
namespace Go.Proofs.Ytbkofiflfcfjfaa
open Go.RowKit Go.Kp Go.ChangeShapes Go.WideShapes
variable {H : Type} {enc : TypeId × Value → H} {w : World} {base b0 : Nat} {spare : Nat → Bool} {held : Bool}

theorem own : ownKnob Try.prog.godebug = none := by kernel_rfl
theorem laidOut : laidOutB Try.prog = true := by kernel_rfl
theorem wf_u64 {n : Int} (h : (Lit.int .u64 n).wf = true) : 0 ≤ n := by
  simp only [Lit.wf, Bool.and_eq_true, decide_eq_true_eq] at h
  have e1 : IntKind.u64.min = 0 := by decide +kernel
  rw [e1] at h
  exact h.1
theorem cell_lt {b o : Nat} {v : Value} (h : w.cell? ⟨b, o, none⟩ = some v) : b < w.heap.size := by
  rcases Nat.lt_or_ge b w.heap.size with h1 | h1
  · exact h1
  · simp [World.cell?, Array.getElem?_eq_none h1] at h
theorem to_nats : ∀ (zs : List Int), (∀ z ∈ zs, 0 ≤ z) → ∃ l : List Nat, l.length = zs.length ∧ zs.map (Value.int .u64) = us l
  | [], _ => ⟨[], rfl, rfl⟩
  | z :: zs, h => by
    obtain ⟨l, h1, h2⟩ := to_nats zs fun y hy => h y (List.mem_cons_of_mem _ hy)
    have hz := h z List.mem_cons_self
    refine ⟨z.toNat :: l, by simp [h1], ?_⟩
    rw [us, List.map_cons, List.map_cons, h2, Int.toNat_of_nonneg hz]
set_option maxRecDepth 100000
/-- A slice of bits among the arguments. -/
theorem open_bits0 {t : TypeId} (ht : Try.prog.underlying t = some (.slice 27)) {r : Reach} {v : Value} {d : DataW H} {p : List MemPlace} (hv : Value.okWide Try.prog w r b0 t v) (h : DataW.Trod enc Try.prog w base spare held t v d p) :
    ∃ (a : Option Addr) (cap : Nat) (l : List Nat), v = .slice a l.length cap ∧ l.length ≤ 9223372036854775807 ∧ Rd w w.heap.size a (us l) := by
  obtain ⟨a, n, cap, hvv⟩ := okWide_slice ht hv
  subst hvv
  clear hv
  obtain ⟨f, hf⟩ := h
  have hc : Try.prog.cellsOf 27 = 1 := by kernel_rfl
  rcases open_ints ht Try.underlying27 hc hf with ⟨hcs, _⟩ | ⟨a', n', cap', zs, hcs, _, hl, hm, hz, _, hcell, hwf⟩
  · simp [Value.cells] at hcs
    obtain ⟨rfl, rfl, rfl⟩ := hcs
    exact ⟨none, 0, [], rfl, by simp, .inl rfl⟩
  · simp [Value.cells] at hcs
    obtain ⟨rfl, rfl, rfl⟩ := hcs
    have hn : n ≤ zs.length := by rw [hz]; split <;> omega
    obtain ⟨l, hll, hlm⟩ := to_nats (zs.take n) fun z hz => wf_u64 (hwf z (List.mem_of_mem_take hz))
    have hl2 : l.length = n := by rw [hll]; simp [Nat.min_eq_left hn]
    refine ⟨some a', cap, l, by rw [hl2], by rw [hl2]; unfold maxLen at hm; omega, ?_⟩
    rw [← hlm]
    rcases Nat.eq_zero_or_pos n with h0 | h0
    · subst h0; exact .inl (by simp)
    · obtain ⟨b, off, rfl, hc⟩ := ints_at hcell (by omega)
      refine .inr ⟨b, off, rfl, cell_lt (hc 0 (by omega)), fun j u hu => ?_⟩
      have hj : j < n := by
        have := (List.getElem?_eq_some_iff.1 hu).1
        simp at this; omega
      rw [hc j (by omega)]
      rw [List.getElem?_map, List.getElem?_take_of_lt hj, List.getElem?_eq_getElem (show j < zs.length by omega)] at hu
      rw [← hu, List.getD_eq_getElem?_getD, List.getElem?_eq_getElem (show j < zs.length by omega)]
      rfl
theorem open_bits {r : Reach} {v : Value} {d : DataW H} {p : List MemPlace} (hv : Value.okWide Try.prog w r b0 22 v) (h : DataW.Trod enc Try.prog w base spare held 22 v d p) :
    ∃ (a : Option Addr) (cap : Nat) (l : List Nat), v = .slice a l.length cap ∧ l.length ≤ 9223372036854775807 ∧ Rd w w.heap.size a (us l) := open_bits0 Try.underlying22 hv h
end Go.Proofs.Ytbkofiflfcfjfaa
