/- Series: sums and means of whole rows; when a spread is nought. No program in sight. -/
import Derived.Test.YtbkofiflfcfjfaaSeV
set_option linter.unusedSimpArgs false
set_option linter.unusedVariables false
namespace Go.Ser
open Ieee Go.Flo

/-! ### Sums and means -/
theorem sum_fi : ∀ (ns : List Int) (a : Int) (s : Nat), SumR (fi a) (ns.map fi) s → (∀ n ∈ ns, n.natAbs ≤ 1048576) → a.natAbs + ns.length * 1048576 < 9007199254740992 → s = fi (a + ns.sum) ∧ (a + ns.sum).natAbs ≤ a.natAbs + ns.length * 1048576
  | [], a, s, h, _, hb => by
    obtain rfl : s = fi a := h
    simp
  | n :: ns, a, s, ⟨t, h1, h⟩, hn, hb => by
    have h0 := hn n List.mem_cons_self
    simp only [List.length_cons, Nat.succ_mul] at hb
    obtain rfl := h1.eq (add_fi (u := a) (v := n) (by omega) (by omega) (by omega))
    have := sum_fi ns (a + n) s h (fun m hm => hn m (List.mem_cons_of_mem _ hm)) (by omega)
    rw [List.sum_cons, ← Int.add_assoc]
    refine ⟨this.1, ?_⟩
    have h2 := this.2
    simp only [List.length_cons, Nat.succ_mul]
    omega
theorem sum_between : ∀ (ns : List Int) (lo hi : Int), (∀ n ∈ ns, lo ≤ n ∧ n ≤ hi) → (ns.length : Int) * lo ≤ ns.sum ∧ ns.sum ≤ (ns.length : Int) * hi
  | [], lo, hi, _ => by simp
  | n :: ns, lo, hi, h => by
    have h1 := h n List.mem_cons_self
    have h2 := sum_between ns lo hi fun m hm => h m (List.mem_cons_of_mem _ hm)
    simp only [List.length_cons, List.sum_cons, Int.natCast_add, Int.natCast_one, Int.add_mul, Int.one_mul]
    omega
/-- The mean of a whole row. -/
theorem mean_fi {ns : List Int} {r : Nat} (h : MeanR (ns.map fi) r) (hn : ∀ n ∈ ns, n.natAbs ≤ 1048576) (hl : ns.length ≤ 500) (h0 : 0 < ns.length) :
    floatBits .quo .f64 (fi ns.sum) (fi (ns.length : Int)) = some r ∧ ns.sum.natAbs ≤ 524288000 := by
  obtain ⟨s, h1, h2⟩ := h
  have h3 := sum_fi ns 0 s h1 hn (by simp; omega)
  rw [Int.zero_add] at h3
  rw [h3.1, List.length_map] at h2
  have hb : ns.sum.natAbs ≤ 524288000 := by have := h3.2; simp at this; omega
  obtain ⟨r', hr⟩ := quo_some ns.sum (ns.length : Int) (by omega) (by omega) (by omega)
  have : fw ns.length = fi (ns.length : Int) := rfl
  rw [this] at h2
  rw [h2.eq hr]
  exact ⟨hr, hb⟩
theorem mean_order {ns : List Int} {r : Nat} (h : MeanR (ns.map fi) r) (hn : ∀ n ∈ ns, n.natAbs ≤ 1048576) (hl : ns.length ≤ 500) (h0 : 0 < ns.length) {lo hi : Int} (hb : ∀ n ∈ ns, lo ≤ n ∧ n ≤ hi) (hlo : lo.natAbs ≤ 1048576) (hhi : hi.natAbs ≤ 1048576) :
    (double.order r (fi lo) == some .gt || double.order r (fi lo) == some .eq) = true ∧ (double.order r (fi hi) == some .lt || double.order r (fi hi) == some .eq) = true := by
  obtain ⟨h1, h2⟩ := mean_fi h hn hl h0
  obtain ⟨k1, k2⟩ := sum_between ns lo hi hb
  obtain ⟨r', hr, a1, a2⟩ := mean_between ns.sum lo hi ns.length (by omega) (by omega) h0 (by omega) (by omega) k1 k2
  rw [h1] at hr
  rw [Option.some.inj hr]
  exact ⟨a1, a2⟩
theorem order_both {o : Option Ordering} (h : (o == some .gt || o == some .eq) = true) (h' : (o == some .lt || o == some .eq) = true) : o = some .eq := by
  cases o with
  | none => cases h
  | some o => cases o <;> simp_all

/-! ### Noughts -/
def Z (x : Nat) : Prop := ∃ s p, double.read x = .number s 0 p
theorem Z.word (b : Bool) : Z (double.word b 0) := ⟨b, -1074, by rw [read_word b 0 (by decide)]; rfl⟩
theorem Z.write (b : Bool) (p : Int) : Z (double.write (.number b 0 p)) := by
  show Z (double.nearest b 0 p)
  rw [nearest_zero]; exact Z.word b
theorem Z.zero : Z 0 := Z.word false
theorem sub_zero {x y : Nat} {s : Bool} {M : Nat} {i : Int} (hx : double.read x = .number s M i) (h : double.order x y = some .eq) : ∃ d, floatBits .sub .f64 x y = some d ∧ Z d := by
  unfold Format.order at h
  rw [hx] at h
  cases hy : double.read y with
  | nan t f => rw [hy] at h; cases h
  | infinity t => rw [hy] at h; cases t <;> cases h
  | number t N j =>
    rw [hy] at h
    simp only [Datum.order, Option.some.injEq] at h
    have he : signed s M (i - min i j).toNat = signed t N (j - min i j).toNat := Int.compare_eq_eq.1 h
    have ho : ∀ k, signed (!t) N k = - signed t N k := by
      intro k; cases t <;> simp [signed]
    refine ⟨double.write (.number (s && !t) 0 (min i j)), ?_, Z.write _ _⟩
    show (Datum.sum (double.read x) (double.read y).opposite).map _ = _
    rw [hx, hy]
    show (Datum.sum (.number s M i) (.number (!t) N j)).map _ = _
    simp [Datum.sum, ho, he, Int.add_right_neg]
    rfl
theorem mul_zero {a : Nat} (ha : Z a) : ∃ r, floatBits .mul .f64 a a = some r ∧ Z r := by
  obtain ⟨s, p, h⟩ := ha
  refine ⟨double.write (.number (s ^^ s) 0 (p + p)), ?_, Z.write _ _⟩
  show (Datum.product (double.read a) (double.read a)).map _ = _
  rw [h]; rfl
theorem mul_zero2 {a b : Nat} (ha : Z a) (hb : Z b) : ∃ r, floatBits .mul .f64 a b = some r ∧ Z r := by
  obtain ⟨s, p, h⟩ := ha
  obtain ⟨t, q, k⟩ := hb
  refine ⟨double.write (.number (s ^^ t) 0 (p + q)), ?_, Z.write _ _⟩
  show (Datum.product (double.read a) (double.read b)).map _ = _
  rw [h, k]; rfl
theorem add_zero {a b : Nat} (ha : Z a) (hb : Z b) : ∃ r, floatBits .add .f64 a b = some r ∧ Z r := by
  obtain ⟨s, p, h⟩ := ha
  obtain ⟨t, q, k⟩ := hb
  refine ⟨double.write (.number (s && t) 0 (min p q)), ?_, Z.write _ _⟩
  show (Datum.sum (double.read a) (double.read b)).map _ = _
  rw [h, k]
  have : ∀ b k, signed b 0 k = 0 := by intro b k; cases b <;> simp [signed]
  simp [Datum.sum, this]
  rfl
theorem fi_pos {c : Nat} (h0 : 0 < c) (hc : c ≤ 1048576) : ∃ N f : Nat, double.read (fi (c : Int)) = .number false N (-1074 + f) ∧ N * 2 ^ f = c * 2 ^ top ∧ N ≠ 0 := by
  obtain ⟨N, f, h1, h2⟩ := fi_read (c : Int) (by omega)
  rw [show decide ((c : Int) < 0) = false by simp] at h1
  refine ⟨N, f, h1, by simpa using h2, fun e => ?_⟩
  subst e
  rw [Nat.zero_mul] at h2
  rcases Nat.mul_eq_zero.1 h2.symm with h | h
  · omega
  · exact absurd h (Nat.ne_of_gt (Nat.two_pow_pos _))
theorem quo_zero {q c : Nat} (hq : Z q) (h0 : 0 < c) (hc : c ≤ 1048576) : ∃ r, floatBits .quo .f64 q (fi (c : Int)) = some r ∧ Z r := by
  obtain ⟨s, p, h⟩ := hq
  obtain ⟨N, f, h1, _, h3⟩ := fi_pos h0 hc
  show ∃ r, (Datum.quotient _ (double.read q) (double.read (fi (c : Int)))).map _ = some r ∧ Z r
  rw [h, h1]
  simp only [Datum.quotient, if_neg h3, Option.map_some, Nat.zero_shiftLeft, Nat.zero_div, Nat.zero_mod]
  exact ⟨_, rfl, Z.write _ _⟩
theorem root_zero {d r : Nat} (hd : Z d) (h : Root d r) : Z r := by
  obtain ⟨s, p, e⟩ := hd
  have : FloatKind.f64.format.sqrt d = some (double.write (.number s 0 p)) := by
    show (Datum.root _ (double.read d)).map _ = _
    rw [e]; rfl
  rcases h with h | ⟨h, _⟩
  · rw [this] at h
    rw [← Option.some.inj h]
    exact Z.write _ _
  · rw [this] at h; cases h
theorem order_zero {x : Nat} (h : Z x) : Go.FloatKind.f64.format.order x 0 = some .eq := by
  obtain ⟨s, p, e⟩ := h
  show Datum.order (double.read x) (double.read 0) = _
  have h0 : double.read 0 = .number false 0 (-1074) := by
    have := read_word false 0 (by decide)
    exact this
  rw [e, h0]
  have : ∀ b k, signed b 0 k = 0 := by intro b k; cases b <;> simp [signed]
  simp [Datum.order, this]

theorem sum_zero : ∀ (ps : List Nat) (s r : Nat), SumR s ps r → Z s → (∀ p ∈ ps, Z p) → Z r
  | [], s, r, h, hs, _ => by obtain rfl : r = s := h; exact hs
  | p :: ps, s, r, ⟨t, h1, h⟩, hs, hp => by
    obtain ⟨t', e, ht⟩ := add_zero hs (hp p List.mem_cons_self)
    obtain rfl := h1.eq e
    exact sum_zero ps t r h ht fun q hq => hp q (List.mem_cons_of_mem _ hq)
theorem prod_mem {a b ps : List Nat} {m n p : Nat} (h : ProdR a b m n ps) (hp : p ∈ ps) : ∃ x ∈ a, ∃ y ∈ b, ∃ i : Nat, a[i]? = some x ∧ b[i]? = some y ∧ OneR m n x y p := by
  obtain ⟨i, hi⟩ := List.mem_iff_getElem?.1 hp
  have h1 := (List.getElem?_eq_some_iff.1 hi).1
  have ha := List.getElem?_eq_getElem (l := a) (i := i) (by have := h.1; omega)
  have hb := List.getElem?_eq_getElem (l := b) (i := i) (by have := h.2.1; omega)
  exact ⟨_, List.mem_of_getElem? ha, _, List.mem_of_getElem? hb, i, ha, hb, h.2.2 i _ _ p ha hb hi⟩
/-- All the same: the spread is nought. -/
theorem spread_zero {ns : List Int} {v : Int} {r : Nat} (h : SpreadR (ns.map fi) r) (hv : ∀ n ∈ ns, n = v) (hb : v.natAbs ≤ 1048576) (hl : ns.length ≤ 500) (h0 : 0 < ns.length) : Go.FloatKind.f64.format.order r 0 = some .eq := by
  obtain ⟨m, q, d, h1, ⟨ps, _, hp, hs⟩, h3, h4⟩ := h
  have hn : ∀ n ∈ ns, n.natAbs ≤ 1048576 := fun n hn => by rw [hv n hn]; exact hb
  obtain ⟨o1, o2⟩ := mean_order h1 hn hl h0 (lo := v) (hi := v) (fun n hn => by rw [hv n hn]; omega) hb hb
  have ho := order_both o1 o2
  obtain ⟨M, e, hr, _⟩ := fi_read v (by omega)
  have ho' : double.order (fi v) m = some .eq := by
    unfold Format.order at ho ⊢
    rw [hr] at ho ⊢
    cases hm : double.read m with
    | nan t f => rw [hm] at ho; cases ho
    | infinity t => rw [hm] at ho; cases t <;> cases ho
    | number t N j =>
      rw [hm] at ho
      simp only [Datum.order, Option.some.injEq] at ho ⊢
      have := Int.compare_eq_eq.1 ho
      rw [Int.min_comm] at this
      exact Int.compare_eq_eq.2 this.symm
  have hz : ∀ p ∈ ps, Z p := fun p hpm => by
    obtain ⟨x, hx, y, hy, i, hxi, hyi, d1, d2, e1, e2, e3⟩ := prod_mem hp hpm
    rw [hxi] at hyi
    obtain rfl := Option.some.inj hyi
    obtain ⟨n, hn1, rfl⟩ := List.mem_map.1 hx
    rw [hv n hn1] at e1 e2
    obtain ⟨d', k1, k2⟩ := sub_zero hr ho'
    obtain rfl := e1.eq k1
    obtain rfl := e2.eq k1
    obtain ⟨p', k3, k4⟩ := mul_zero k2
    obtain rfl := e3.eq k3
    exact k4
  have hq := sum_zero ps 0 q hs Z.zero hz
  obtain ⟨d', k1, k2⟩ := quo_zero (c := ns.length) hq h0 (by omega)
  rw [List.length_map] at h3
  obtain rfl := h3.eq (show floatBits .quo .f64 q (fw ns.length) = some d' from k1)
  exact order_zero (root_zero k2 h4)
end Go.Ser
