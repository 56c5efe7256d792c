/- TimersAgree, with no program in sight. -/
import Derived.Test.YtlmmcffbpdfcjaaTmKn
set_option linter.unusedSimpArgs false
set_option linter.unusedVariables false
namespace Go.Proofs.Ytlmmcffbpdfcjaa
open Go.RowKit Go.Kp

theorem nodup_of_sorted : ∀ {l : List Tm.T}, l.Pairwise Tm.lt → l.Nodup
  | [], _ => List.nodup_nil
  | x :: l, h => by
    obtain ⟨h1, h2⟩ := List.pairwise_cons.1 h
    exact List.nodup_cons.2 ⟨fun hm => Tm.lt_irrefl x (h1 x hm), nodup_of_sorted h2⟩
/-- Two lists without repeats of the same timers are as long. -/
theorem len_of_mem {a b : List Tm.T} (ha : a.Nodup) (hb : b.Nodup) (h : ∀ x, x ∈ a ↔ x ∈ b) : a.length = b.length :=
  Nat.le_antisymm (nodup_len a b ha fun x hx => (h x).1 hx) (nodup_len b a hb fun x hx => (h x).2 hx)
/-- Who came out, who is left. -/
theorem Cut.mem {L o L' : List Tm.T} {upto : Int} (h : Cut L o L' upto) (hr : ∀ b ∈ L', upto < b.a) (x : Tm.T) : (x ∈ o ↔ x ∈ L ∧ x.a ≤ upto) ∧ (x ∈ L' ↔ x ∈ L ∧ upto < x.a) := by
  have hm := h.perm.mem_iff (a := x)
  rw [List.mem_append] at hm
  constructor
  · constructor
    · exact fun hx => ⟨hm.1 (.inl hx), h.due x hx⟩
    · rintro ⟨hx, hle⟩
      rcases hm.2 hx with h1 | h1
      · exact h1
      · have := hr x h1; omega
  · constructor
    · exact fun hx => ⟨hm.1 (.inr hx), hr x hx⟩
    · rintro ⟨hx, hlt⟩
      rcases hm.2 hx with h1 | h1
      · have := h.due x h1; omega
      · exact h1
/-- Asked twice, the second time not earlier. -/
theorem twice {L o1 L1 o2 L2 : List Tm.T} {u1 u2 : Int} (h1 : Cut L o1 L1 u1) (r1 : ∀ b ∈ L1, u1 < b.a) (h2 : Cut L1 o2 L2 u2) (r2 : ∀ b ∈ L2, u2 < b.a) (hu : u1 ≤ u2) : Cut L (o1 ++ o2) L2 u2 := by
  refine ⟨?_, ?_, ?_, ?_⟩
  · rw [List.append_assoc]
    exact (List.Perm.append_left o1 h2.perm).trans h1.perm
  · rw [List.pairwise_append]
    exact ⟨h1.sorted, h2.sorted, fun a ha b hb => h1.ahead a ha b ((h2.perm.mem_iff).1 (by simp [hb]))⟩
  · intro a ha b hb
    rcases List.mem_append.1 ha with h | h
    · exact h1.ahead a h b ((h2.perm.mem_iff).1 (by simp [hb]))
    · exact h2.ahead a h b hb
  · intro a ha
    rcases List.mem_append.1 ha with h | h
    · have := h1.due a h; omega
    · exact h2.due a h
/-- Two queues of the same timers: the same comes out, as many are left. -/
theorem same_cut {L K o p L' K' : List Tm.T} {u : Int} (h : Cut L o L' u) (r : ∀ b ∈ L', u < b.a) (k : Cut K p K' u) (s : ∀ b ∈ K', u < b.a) (hm : ∀ x, x ∈ L ↔ x ∈ K) (hL : L'.Nodup) (hK : K'.Nodup) : o = p ∧ L'.length = K'.length := by
  refine ⟨sorted_eq h.sorted k.sorted fun x => ?_, len_of_mem hL hK fun x => ?_⟩
  · rw [(h.mem r x).1, (k.mem s x).1, hm x]
  · rw [(h.mem r x).2, (k.mem s x).2, hm x]
/-- The root of what is still to come, and of the rest. -/
theorem root_is {o R C : List Tm.T} {i : Nat} {t r : Tm.T} (hp : (o.drop i ++ R).Perm C) (hs : o.Pairwise Tm.lt) (ha : ∀ a ∈ o, ∀ b ∈ R, Tm.lt a b) (ht : o[i]? = some t) (hr : r ∈ C) (hmin : ∀ x ∈ C, ¬ Tm.lt x r) : r = t := by
  have hd : o.drop i = t :: o.drop (i + 1) := by
    obtain ⟨h1, h2⟩ := List.getElem?_eq_some_iff.1 ht
    rw [← h2]; exact List.drop_eq_getElem_cons h1
  have htC : t ∈ C := hp.mem_iff.1 (by rw [hd]; simp)
  have hr2 := hp.mem_iff.2 hr
  rw [hd] at hr2
  simp only [List.cons_append, List.mem_cons, List.mem_append] at hr2
  have hs2 : (t :: o.drop (i + 1)).Pairwise Tm.lt := by rw [← hd]; exact hs.sublist (List.drop_sublist i o)
  rcases hr2 with h | h | h
  · exact h
  · exact absurd ((List.pairwise_cons.1 hs2).1 r h) (hmin t htC)
  · exact absurd (ha t (List.mem_of_getElem? ht) r h) (hmin t htC)
theorem next_is {o R C C' : List Tm.T} {i : Nat} {t : Tm.T} (hp : (o.drop i ++ R).Perm C) (ht : o[i]? = some t) (hC : C'.Perm (C.erase t)) : (o.drop (i + 1) ++ R).Perm C' := by
  have hd : o.drop i = t :: o.drop (i + 1) := by
    obtain ⟨h1, h2⟩ := List.getElem?_eq_some_iff.1 ht
    rw [← h2]; exact List.drop_eq_getElem_cons h1
  rw [hd] at hp
  have htC : t ∈ C := hp.mem_iff.1 (by simp)
  exact ((hp.trans (List.perm_cons_erase htC)).cons_inv).trans hC.symm

/-! ### Queues beside each other -/
def Apart (q m : Nat) (v : Value) (q2 m2 : Nat) (v2 : Value) : Prop := ∀ b, foot q m v b → ¬ foot q2 m2 v2 b
theorem Apart.symm {q m q2 m2 : Nat} {v v2 : Value} (h : Apart q m v q2 m2 v2) : Apart q2 m2 v2 q m v := fun b h2 h1 => h b h1 h2
/-- A queue that lies apart from one that turns. -/
theorem Tq.beside {w w' : World} {q m q2 m2 : Nat} {v v' v2 : Value} {L2 : List Tm.T} {M2 : Tm.T → Option Nat} (h : Tq w q2 m2 v2 L2 M2) (ht : Turn w w' q m v v') (ha : Apart q m v q2 m2 v2) :
    Tq w' q2 m2 v2 L2 M2 ∧ Apart q m v' q2 m2 v2 := by
  refine ⟨h.same fun b hb => ht.fr.block b (h.raw.lt b hb) fun hf => ha b hf hb, fun b hb h2 => ?_⟩
  rcases ht.foot b hb with h3 | h3
  · exact ha b h3 h2
  · have := h.raw.lt b h2; omega
/-- A row that lies apart from a queue that turns. -/
theorem row_beside {w w' : World} {q m B n : Nat} {v v' vo : Value} {xs : List Value} (h : w.ownsRow B 25 4 vo n xs) (ht : Turn w w' q m v v') (ha : ∀ b, vo.ownBlock = some b → ¬ foot q m v b) :
    w'.ownsRow B 25 4 vo n xs ∧ ∀ b, vo.ownBlock = some b → ¬ foot q m v' b := by
  refine ⟨owns_same h fun b hb => ht.fr.block b (h.lt b hb).2 (ha b hb), fun b hb hf => ?_⟩
  rcases ht.foot b hf with h3 | h3
  · exact ha b hb h3
  · have := (h.lt b hb).2; omega
theorem foot_ge {w w' : World} {q m B : Nat} {v v' : Value} (hb : ∀ b, foot q m v b → B ≤ b) (ht : Turn w w' q m v v') (hB : B ≤ w.heap.size) : ∀ b, foot q m v' b → B ≤ b := fun b hf => by
  rcases ht.foot b hf with h3 | h3
  · exact hb b h3
  · omega
/-- A row that a call owns, as a slice that is read. -/
theorem rd_row {w : World} {B n : Nat} {v : Value} {l : List Tm.T} (h : w.ownsRow B 25 4 v n (l.flatMap cT)) : ∃ a c, v = .slice a n c ∧ Rd w w.heap.size a (l.flatMap cT) ∧ (a = none → c = 0) := by
  rcases h.2 with ⟨h1, h2⟩ | ⟨g, cap, cur, h1, _, hg, _⟩
  · refine ⟨none, 0, by rw [h1, h2], .inl ?_, fun _ => rfl⟩
    have := h.1
    rw [h2] at this
    exact List.eq_nil_of_length_eq_zero (by simpa using this)
  · subst h1
    refine ⟨_, cap, rfl, .inr ⟨g, 0, rfl, (Array.getElem?_eq_some_iff.1 hg).1, fun j u hu => ?_⟩, fun h => by cases h⟩
    have hj : j < n * 4 := by have := h.1; have := (List.getElem?_eq_some_iff.1 hu).1; omega
    rw [Nat.zero_add]
    exact (h.cellAt j hj).trans hu
/-- The cells of the i-th timer of a row. -/
theorem row_cells {w : World} {B g n cap : Nat} {l : List Tm.T} (h : w.ownsRow B 25 4 (.slice (some ⟨g, 0, none⟩) n cap) n (l.flatMap cT)) (hl : l.length = n) {i : Nat} {x : Tm.T} (hx : l[i]? = some x) :
    w.cell? ⟨g, i * 4, none⟩ = some (.int .i64 x.a) ∧ w.cell? ⟨g, i * 4 + 1, none⟩ = some (.string x.k) ∧ w.cell? ⟨g, i * 4 + 2, none⟩ = some (.int .i64 x.s) ∧ w.cell? ⟨g, i * 4 + 3, none⟩ = some (.int .i64 x.e) := by
  have hi := (List.getElem?_eq_some_iff.1 hx).1
  have c := fun j (hj : j < 4) => (h.cellAt (i * 4 + j) (by omega)).trans (flat_at hx j hj)
  exact ⟨c 0 (by omega), c 1 (by omega), c 2 (by omega), c 3 (by omega)⟩
end Go.Proofs.Ytlmmcffbpdfcjaa
