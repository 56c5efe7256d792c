/- A list of texts among the arguments, and what the bound of an 'Upto' statement gives. -/
import Derived.Test.YtcjmobikjegioaaDoorCLaw
import Derived.Deep.Matrix
set_option linter.unusedSimpArgs false
set_option linter.unusedVariables false
namespace Go.Proofs.YtcjmobikjegioaaDoor
open Go.ChangeShapes Go.WideShapes Go.ChangeAt Go.RowKit Go.Kp

theorem bulk_pos {H : Type} (d : DataW H) : 1 ≤ Rows.uptoBulk d := by
  cases d with
  | lit l => cases l <;> simp [Rows.uptoBulk]
  | nil => simp [Rows.uptoBulk]
  | ptr d => simp [Rows.uptoBulk]
  | slice elems spare => simp [Rows.uptoBulk]
  | agg parts => simp [Rows.uptoBulk]
  | iface t d => simp [Rows.uptoBulk]
  | map entries => simp [Rows.uptoBulk]
  | held h => simp [Rows.uptoBulk]
theorem bulk_len {H : Type} (l : List (DataW H)) : l.length ≤ Rows.uptoBulkAll l := by
  induction l with
  | nil => simp [Rows.uptoBulkAll]
  | cons x r ih => have := bulk_pos x; simp only [Rows.uptoBulkAll, List.length_cons]; omega
theorem bulk_sum {H : Type} {α : Type} (f : α → DataW H) (g : α → Nat) : ∀ l : List α, (∀ x ∈ l, g x ≤ Rows.uptoBulk (f x)) → (l.map g).sum ≤ Rows.uptoBulkAll (l.map f)
  | [], _ => by simp [Rows.uptoBulkAll]
  | x :: l, h => by
    have h1 := h x List.mem_cons_self
    have h2 := bulk_sum f g l fun y hy => h y (List.mem_cons_of_mem _ hy)
    simp only [List.map_cons, List.sum_cons, Rows.uptoBulkAll]; omega
theorem bulk_bound {H : Type} {l : List (DataW H)} (hk : Rows.uptoSmall H l = true) : Rows.uptoBulkAll l ≤ 1048576 := of_decide_eq_true hk

theorem mem_le_sum {x : Nat} : ∀ l : List Nat, x ∈ l → x ≤ l.sum
  | y :: l, h => by
    rw [List.sum_cons]
    rcases List.mem_cons.1 h with rfl | h
    · omega
    · have := mem_le_sum l h; omega

def toB (zs : List Int) : List UInt8 := zs.map fun z => UInt8.ofNat z.toNat
theorem toB_cells (zs : List Int) (h : ∀ z ∈ zs, 0 ≤ z ∧ z < 256) : zs.map (Value.int .u8) = (toB zs).map B8 := by
  unfold toB
  rw [List.map_map]
  apply List.map_congr_left
  intro z hz
  have := h z hz
  show Value.int .u8 z = Value.int .u8 ((UInt8.ofNat z.toNat).toNat : Int)
  have e : ((UInt8.ofNat z.toNat).toNat : Int) = z := by
    have : (UInt8.ofNat z.toNat).toNat = z.toNat := by simp; omega
    rw [this]; omega
  rw [e]
theorem toB_len (zs : List Int) : (toB zs).length = zs.length := by simp [toB]

theorem open_texts {H : Type} {enc : TypeId × Value → H} {w : World} {base b0 : Nat} {held : Bool} {r : Reach} {v : Value} {d : DataW H} {p : List MemPlace} (hv : Value.okWide Tryd.prog w r b0 22 v) (h : DataW.Trod enc Tryd.prog w base (fun _ => true) held 22 v d p)
    (hk : Rows.uptoBulk d ≤ 1048576) :
    ∃ (a : Option Addr) (n cap : Nat) (vs : List Value) (ls : List (List UInt8)), v = .slice a n cap ∧ ls.length = n ∧ n ≤ 1048576 ∧ ls.flatten.length ≤ 1048576 ∧ Txts w w.heap.size a vs ls := by
  obtain ⟨a, n, cap, rfl⟩ := okWide_slice Tryd.underlying22 hv
  obtain ⟨f, hf⟩ := h
  rcases Deep.open_int_rows Tryd.underlying22 Tryd.underlying24 Tryd.underlying5 (by kernel_rfl) (by kernel_rfl) hf with ⟨hcs, _⟩ | ⟨a', len, cap', A, L, C, Z, hcs, _, hlc, hcm, hx, hr⟩
  · simp [Value.cells] at hcs
    obtain ⟨rfl, rfl, rfl⟩ := hcs
    exact ⟨none, 0, 0, [], [], rfl, rfl, by omega, by simp, rfl, .inl rfl, fun k v l h => by simp at h⟩
  · simp [Value.cells] at hcs
    obtain ⟨rfl, rfl, rfl⟩ := hcs
    simp only [Prod.mk.injEq] at hx
    obtain ⟨rfl, _⟩ := hx
    simp only [Rows.uptoBulk] at hk
    have hlen : n ≤ 1048576 := by
      have := bulk_len ((List.range n).map fun r => Deep.intRow (H := H) .u8 (A r) (L r) (Z r))
      simp only [List.length_map, List.length_range] at this
      omega
    have hLL : ∀ r, r < n → L r ≤ (Z r).length := fun r hr' => by
      obtain ⟨_, h1, _, h2, _⟩ := hr r (by omega)
      omega
    have hsum : ((List.range n).map fun r => (toB ((Z r).take (L r))).length).sum ≤ 1048576 := by
      have := bulk_sum (fun r => Deep.intRow (H := H) .u8 (A r) (L r) (Z r)) (fun r => (toB ((Z r).take (L r))).length) (List.range n) fun r hr' => by
        have hrn : r < n := by simpa using hr'
        obtain ⟨_, h1, _, h2, _, h3, _⟩ := hr r (by omega)
        rw [toB_len, List.length_take, Nat.min_eq_left (hLL r hrn)]
        unfold Deep.intRow
        cases hA : A r with
        | none =>
          have := h3 hA
          simp [Rows.uptoBulk]; omega
        | some x =>
          have := bulk_len (lits (H := H) .u8 ((Z r).take (L r)))
          simp only [lits, List.length_map, List.length_take, Nat.min_eq_left (hLL r hrn)] at this
          simp only [Rows.uptoBulk, lits]; omega
      omega
    refine ⟨some a', n, cap, (List.range n).map fun r => .slice (A r) (L r) (C r), (List.range n).map fun r => toB ((Z r).take (L r)), rfl, by simp, hlen, ?_, by simp, ?_, ?_⟩
    · rw [List.length_flatten, List.map_map]; exact hsum
    · rcases Nat.eq_zero_or_pos n with h0 | h0
      · subst h0; exact .inl (by simp)
      · have hc0 := (hr 0 (by omega)).1
        obtain ⟨b, off, spot⟩ := a'
        have hspot : spot = none := by simpa [Addr.add] using World.cell?_spot hc0
        subst hspot
        refine .inr ⟨b, off, rfl, ?_, fun j u hu => ?_⟩
        · have := block_lt_of_cell hc0
          rw [Go.WideShapes.add_plain] at this
          exact this
        · have hj : j < n := by have := (List.getElem?_eq_some_iff.1 hu).1; simpa using this
          rw [← Go.WideShapes.add_plain, (hr j (by omega)).1]
          simpa [hj] using hu
    · intro k v l h1 h2
      have hkn : k < n := by have := (List.getElem?_eq_some_iff.1 h1).1; simpa using this
      simp [hkn] at h1 h2
      subst h1; subst h2
      obtain ⟨_, hLC, hCm, hZ, hwf, hnil, hcell⟩ := hr k (by omega)
      have hl : (toB ((Z k).take (L k))).length = L k := by rw [toB_len, List.length_take, Nat.min_eq_left (hLL k hkn)]
      have hbd : L k ≤ 1048576 := by
        have := mem_le_sum _ (List.mem_map.2 ⟨k, List.mem_range.2 hkn, rfl⟩ : (toB ((Z k).take (L k))).length ∈ (List.range n).map fun r => (toB ((Z r).take (L r))).length)
        omega
      refine ⟨A k, C k, by rw [hl], hnil, by omega, ?_⟩
      rw [← toB_cells _ fun z hz => wf_u8 (hwf z (List.mem_of_mem_take hz))]
      rcases Nat.eq_zero_or_pos (L k) with h0 | h0
      · rw [h0]; exact .inl (by simp)
      · cases hA : A k with
        | none => have := hnil hA; omega
        | some x =>
          have hcx := (hcell x hA).2
          obtain ⟨b, off, rfl, hc⟩ := ints_at (zs := Z k) (fun i hi => hcx i (by omega)) (by omega)
          refine .inr ⟨b, off, rfl, block_lt_of_cell (hc 0 (by omega)), fun j u hu => ?_⟩
          have hj : j < L k := by
            have := (List.getElem?_eq_some_iff.1 hu).1
            simp at this; omega
          rw [hc j (by omega)]
          rw [List.getElem?_map, List.getElem?_take_of_lt hj, List.getElem?_eq_getElem (show j < (Z k).length by omega)] at hu
          rw [← hu, List.getD_eq_getElem?_getD, List.getElem?_eq_getElem (show j < (Z k).length by omega)]
          rfl
end Go.Proofs.YtcjmobikjegioaaDoor
