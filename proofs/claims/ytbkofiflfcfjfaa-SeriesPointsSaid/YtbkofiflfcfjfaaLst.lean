/- A list of things of plain cells among the arguments, over any program. -/
import Derived.Test.YtbkofiflfcfjfaaBase
import Derived.Lib.SmallJoins
set_option linter.unusedSimpArgs false
set_option linter.unusedVariables false
namespace Go.Kp
open Go.ChangeShapes Go.WideShapes Go.ChangeAt Go.RowKit

theorem weights_in {H : Type} (P : Program) : ∀ (ts : List TypeId) (ds : List (DataW H)) (j : Nat) (t : TypeId) (d : DataW H), ts[j]? = some t → ds[j]? = some d → ∀ z ∈ d.weights P t, z ∈ DataW.weightsEach P ts ds
  | [], _, _, _, _, h, _, _, _ => by simp at h
  | _ :: _, [], _, _, _, _, h, _, _ => by simp at h
  | t :: ts, d :: ds, 0, t', d', h, k, z, hz => by
    simp at h k
    subst h; subst k
    rw [DataW.weightsEach]; exact List.mem_append_left _ hz
  | t :: ts, d :: ds, j + 1, t', d', h, k, z, hz => by
    rw [DataW.weightsEach]
    exact List.mem_append_right _ (weights_in P ts ds j t' d' (by simpa using h) (by simpa using k) z hz)
theorem spot_lt {w : World} {b o : Nat} {v : Value} (h : w.cell? ⟨b, o, none⟩ = some v) : b < w.heap.size := by
  rcases Nat.lt_or_ge b w.heap.size with h1 | h1
  · exact h1
  · simp [World.cell?, Array.getElem?_eq_none h1] at h

/-- A slice whose elements read as things of k cells: 'cells' tells a thing's cells, 'Okp' what is known of it. -/
theorem open_rows0 {α : Type} [Inhabited α] {H : Type} {enc : TypeId × Value → H} {P : Program} {w : World} {base b0 : Nat} {spare : Nat → Bool} {held : Bool} {r : Reach} {v : Value} {d : DataW H} {p : List MemPlace} (sl e : TypeId) (k : Nat) (cells : α → List Value) (Okp : α → Prop)
    (hu : P.underlying sl = some (.slice e)) (hk : P.cellsOf e = k) (hcl : ∀ x, (cells x).length = k) (h0k : 0 < k)
    (one : ∀ (f : Nat) (cs : List Value) (y : DataW H × List MemPlace), DataW.trod enc P w base spare held f e cs = some y → ∃ x, cs = cells x ∧ Okp x)
    (hv : Value.okWide P w r b0 sl v) (h : DataW.Trod enc P w base spare held sl v d p) :
    ∃ (a : Option Addr) (cap : Nat) (l : List α), v = .slice a l.length cap ∧ Rd w w.heap.size a (l.flatMap cells) ∧ (∀ x ∈ l, Okp x) ∧ (a = none → cap = 0) ∧ (l = [] ∨ ∃ elems sp, d = .slice elems sp ∧ elems.length = l.length) := by
  obtain ⟨a, n, cap, rfl⟩ := okWide_slice hu hv
  obtain ⟨f, hf⟩ := h
  rcases Deep.open_slice hu hf with ⟨hcs, _⟩ | ⟨a', n', cap', m, g, D, Pl, hcs, hb, hl, hm, hmm, hx, he⟩
  · simp [Value.cells] at hcs
    obtain ⟨rfl, rfl, rfl⟩ := hcs
    exact ⟨none, 0, [], rfl, .inl rfl, by simp, fun _ => rfl, .inl rfl⟩
  · simp [Value.cells] at hcs
    obtain ⟨rfl, rfl, rfl⟩ := hcs
    simp only [Prod.mk.injEq] at hx
    obtain ⟨rfl, _⟩ := hx
    have hnm : n ≤ m := by rw [hmm]; split <;> omega
    have each : ∀ i, i < n → ∃ t : α, (∀ j, j < k → w.cell? ((a'.add (i * k)).add j) = (cells t)[j]?) ∧ Okp t := fun i hi => by
      obtain ⟨cs, h2, h3⟩ := he i (by omega)
      rw [hk] at h2
      obtain ⟨t, rfl, h4⟩ := one _ _ _ h3
      exact ⟨t, fun j hj => (World.cells?_some h2).2.2 j hj, h4⟩
    obtain ⟨tf, htf⟩ := Deep.choose_lt each
    have hlz : ((List.range n).map tf).length = n := by simp
    refine ⟨some a', cap, (List.range n).map tf, by rw [hlz], ?_, ?_, (fun h => by cases h), .inr ⟨_, _, rfl, by simp⟩⟩
    · rcases Nat.eq_zero_or_pos n with h0 | h0
      · subst h0; exact .inl (by simp)
      · obtain ⟨b, off, sp⟩ := a'
        have c0 := (htf 0 h0).1 0 h0k
        have c1 : ∃ u, w.cell? (((⟨b, off, sp⟩ : Addr).add (0 * k)).add 0) = some u := by
          rw [c0, List.getElem?_eq_getElem (by rw [hcl]; exact h0k)]; exact ⟨_, rfl⟩
        obtain ⟨u0, c1⟩ := c1
        obtain rfl : sp = none := by
          have := World.cell?_spot c1
          simpa [Addr.add] using this
        simp only [Go.WideShapes.add_plain] at htf c1
        refine .inr ⟨b, off, rfl, spot_lt c1, fun j u hu => ?_⟩
        have hj : j < n * k := by
          have h1 := (List.getElem?_eq_some_iff.1 hu).1
          rw [flat_length cells k hcl, hlz] at h1
          exact h1
        have hi : j / k < n := (Nat.div_lt_iff_lt_mul h0k).2 hj
        have hj2 : j % k < k := Nat.mod_lt _ h0k
        have h1 := flat_get cells k hcl ((List.range n).map tf) (j / k) (j % k) (tf (j / k)) (by simp [hi]) hj2
        have h2 := (htf (j / k) hi).1 (j % k) hj2
        have e1 : j / k * k + j % k = j := by rw [Nat.mul_comm]; exact Nat.div_add_mod j k
        rw [e1, hu] at h1
        rw [← h1, Nat.add_assoc, e1] at h2
        exact h2
    · intro x hx
      obtain ⟨i, hi, rfl⟩ := List.mem_map.1 hx
      exact (htf i (by simpa using hi)).2
/-- .. and how long it may be. -/
theorem open_rows {α : Type} [Inhabited α] {H : Type} {enc : TypeId × Value → H} {P : Program} {w : World} {base b0 : Nat} {spare : Nat → Bool} {held : Bool} {r : Reach} {v : Value} {d : DataW H} {p : List MemPlace} (sl e : TypeId) (k bytes : Nat) (cells : α → List Value) (Okp : α → Prop)
    (hu : P.underlying sl = some (.slice e)) (hk : P.cellsOf e = k) (hby : P.bytesOf e = bytes) (hcl : ∀ x, (cells x).length = k) (h0k : 0 < k)
    (one : ∀ (f : Nat) (cs : List Value) (y : DataW H × List MemPlace), DataW.trod enc P w base spare held f e cs = some y → ∃ x, cs = cells x ∧ Okp x)
    (hv : Value.okWide P w r b0 sl v) (h : DataW.Trod enc P w base spare held sl v d p)
    {ts : List TypeId} {ds : List (DataW H)} (hsz : (DataW.weightsEach P ts ds).all (· ≤ reachBytes) = true) {j : Nat} (hts : ts[j]? = some sl) (hds : ds[j]? = some d) :
    ∃ (a : Option Addr) (cap : Nat) (l : List α), v = .slice a l.length cap ∧ l.length * bytes ≤ reachBytes ∧ Rd w w.heap.size a (l.flatMap cells) ∧ (∀ x ∈ l, Okp x) ∧ (a = none → cap = 0) ∧ (l = [] ∨ ∃ elems sp, d = .slice elems sp ∧ elems.length = l.length) := by
  obtain ⟨a, cap, l, h1, h2, h3, h4, h5⟩ := open_rows0 sl e k cells Okp hu hk hcl h0k one hv h
  refine ⟨a, cap, l, h1, ?_, h2, h3, h4, h5⟩
  rcases h5 with rfl | ⟨elems, sp, rfl, he⟩
  · simp
  · have h6 := List.all_eq_true.1 hsz _ (weights_in P ts ds j _ _ hts hds _ (by rw [DataW.weights, hu]; exact List.mem_cons_self))
    simp only [decide_eq_true_eq] at h6
    rw [hby, he] at h6
    exact Nat.le_trans (Nat.mul_le_mul_right _ (Nat.le_add_right _ _)) h6
end Go.Kp
