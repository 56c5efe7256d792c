/- Timers: the document's sorted lists, with no program in sight. -/
import Derived.Test.YtlmmcffbpdfcjaaTmM
set_option linter.unusedSimpArgs false
set_option linter.unusedVariables false
namespace Go.Tm

theorem sorted_nodup : ∀ {l : List T}, l.Pairwise lt → l.Nodup
  | [], _ => List.nodup_nil
  | x :: l, h => by
    obtain ⟨h1, h2⟩ := List.pairwise_cons.1 h
    exact List.nodup_cons.2 ⟨fun hm => lt_irrefl x (h1 x hm), sorted_nodup h2⟩
/-- Where a timer stands, or would stand. -/
def place (l : List T) (t : T) : Nat := (l.takeWhile (fun x => decide (lt x t))).length
theorem place_le (l : List T) (t : T) : place l t ≤ l.length := by
  unfold place
  exact (List.takeWhile_sublist _).length_le
theorem place_is : ∀ {l : List T} {t : T} {i : Nat}, i ≤ l.length → (∀ x ∈ l.take i, lt x t) → (∀ x, l[i]? = some x → ¬ lt x t) → place l t = i
  | [], t, i, h, _, _ => by simp at h; subst h; rfl
  | y :: l, t, 0, _, _, h3 => by
    have := h3 y rfl
    simp [place, this]
  | y :: l, t, i + 1, h1, h2, h3 => by
    have hy : lt y t := h2 y (by simp)
    have ih := place_is (l := l) (t := t) (i := i) (by simpa using h1) (fun x hx => h2 x (by simp [hx])) (fun x hx => h3 x (by simpa using hx))
    unfold place at *
    rw [List.takeWhile_cons_of_pos (by simpa using hy), List.length_cons, ih]
theorem place_take : ∀ (l : List T) (t : T), ∀ x ∈ l.take (place l t), lt x t
  | [], t, x, hx => by simp at hx
  | y :: l, t, x, hx => by
    by_cases hy : lt y t
    · have e : place (y :: l) t = place l t + 1 := by unfold place; rw [List.takeWhile_cons_of_pos (by simpa using hy), List.length_cons]
      rw [e, List.take_succ_cons, List.mem_cons] at hx
      rcases hx with rfl | hx
      · exact hy
      · exact place_take l t x hx
    · have e : place (y :: l) t = 0 := by unfold place; rw [List.takeWhile_cons_of_neg (by simpa using hy)]; rfl
      rw [e] at hx
      simp at hx
theorem place_stop : ∀ (l : List T) (t x : T), l[place l t]? = some x → ¬ lt x t
  | [], t, x, hx => by simp at hx
  | y :: l, t, x, hx => by
    by_cases hy : lt y t
    · have e : place (y :: l) t = place l t + 1 := by unfold place; rw [List.takeWhile_cons_of_pos (by simpa using hy), List.length_cons]
      rw [e, List.getElem?_cons_succ] at hx
      exact place_stop l t x hx
    · have e : place (y :: l) t = 0 := by unfold place; rw [List.takeWhile_cons_of_neg (by simpa using hy)]; rfl
      rw [e] at hx
      simp at hx
      rw [← hx]; exact hy
/-- In a sorted list: what comes from the place on is not ahead. -/
theorem place_drop {l : List T} (hs : l.Pairwise lt) (t : T) : ∀ x ∈ l.drop (place l t), ¬ lt x t := fun x hx => by
  obtain ⟨j, hj⟩ := List.mem_iff_getElem?.1 hx
  rw [List.getElem?_drop] at hj
  have hlt : place l t < l.length := by have := (List.getElem?_eq_some_iff.1 hj).1; omega
  have h0 := place_stop l t l[place l t] (List.getElem?_eq_getElem hlt)
  cases j with
  | zero =>
    rw [Nat.add_zero, List.getElem?_eq_getElem hlt] at hj
    cases hj
    exact h0
  | succ j =>
    obtain ⟨h1, h2⟩ := List.getElem?_eq_some_iff.1 hj
    have h3 := List.pairwise_iff_getElem.1 hs (place l t) (place l t + (j + 1)) hlt h1 (by omega)
    rw [h2] at h3
    exact fun h => h0 (lt_trans h3 h)
theorem has_is {l : List T} (hs : l.Pairwise lt) (t : T) : l[place l t]? = some t ↔ t ∈ l := by
  refine ⟨fun h => List.mem_of_getElem? h, fun h => ?_⟩
  have h1 : t ∈ l.drop (place l t) := by
    have := h
    rw [← List.take_append_drop (place l t) l, List.mem_append] at this
    rcases this with h2 | h2
    · exact absurd (place_take l t t h2) (lt_irrefl t)
    · exact h2
  have hlt : place l t < l.length := by
    rcases Nat.lt_or_ge (place l t) l.length with h2 | h2
    · exact h2
    · rw [List.drop_eq_nil_of_le h2] at h1; cases h1
  rw [List.getElem?_eq_getElem hlt]
  have h2 : l.drop (place l t) = l[place l t] :: l.drop (place l t + 1) := List.drop_eq_getElem_cons hlt
  rw [h2, List.mem_cons] at h1
  rcases h1 with h1 | h1
  · rw [← h1]
  · have h3 : (l.drop (place l t)).Pairwise lt := hs.sublist (List.drop_sublist _ _)
    rw [h2] at h3
    exact absurd ((List.pairwise_cons.1 h3).1 t h1) (place_stop l t _ (List.getElem?_eq_getElem hlt))

/-- The list with a timer more. -/
def ins (l : List T) (t : T) : List T := l.take (place l t) ++ t :: l.drop (place l t)
def set (l : List T) (t : T) : List T := if t ∈ l then l else ins l t
theorem mem_ins {l : List T} {t x : T} : x ∈ ins l t ↔ x = t ∨ x ∈ l := by
  unfold ins
  rw [List.mem_append, List.mem_cons]
  have : x ∈ l ↔ x ∈ l.take (place l t) ∨ x ∈ l.drop (place l t) := by rw [← List.mem_append, List.take_append_drop]
  rw [this]
  constructor
  · rintro (h | h | h)
    · exact .inr (.inl h)
    · exact .inl h
    · exact .inr (.inr h)
  · rintro (h | h | h)
    · exact .inr (.inl h)
    · exact .inl h
    · exact .inr (.inr h)
theorem mem_set {l : List T} {t x : T} : x ∈ set l t ↔ x = t ∨ x ∈ l := by
  unfold set
  split
  · rename_i h
    exact ⟨.inr, fun h2 => h2.elim (fun e => e ▸ h) id⟩
  · exact mem_ins
theorem sorted_ins {l : List T} (hs : l.Pairwise lt) {t : T} (ht : t ∉ l) : (ins l t).Pairwise lt := by
  unfold ins
  rw [List.pairwise_append]
  refine ⟨hs.sublist (List.take_sublist _ _), List.pairwise_cons.2 ⟨fun x hx => ?_, hs.sublist (List.drop_sublist _ _)⟩, fun a ha b hb => ?_⟩
  · refine lt_tri (place_drop hs t x hx) (fun e => ht (e ▸ List.mem_of_mem_drop hx))
  · rcases List.mem_cons.1 hb with rfl | hb
    · exact place_take l b a ha
    · have h1 := place_take l t a ha
      have h2 : lt t b := lt_tri (place_drop hs t b hb) (fun e => ht (e ▸ List.mem_of_mem_drop hb))
      exact lt_trans h1 h2
theorem sorted_set {l : List T} (hs : l.Pairwise lt) (t : T) : (set l t).Pairwise lt := by
  unfold set
  split
  · exact hs
  · rename_i h; exact sorted_ins hs h
theorem ins_length (l : List T) (t : T) : (ins l t).length = l.length + 1 := by
  unfold ins
  have := place_le l t
  simp
  omega
theorem set_length (l : List T) (t : T) : (set l t).length ≤ l.length + 1 := by
  unfold set
  split
  · omega
  · rw [ins_length]; exact Nat.le_refl _
/-- The list without a timer. -/
def drop (l : List T) (t : T) : List T := l.filter fun x => !decide (x = t)
theorem mem_drop {l : List T} {t x : T} : x ∈ drop l t ↔ x ≠ t ∧ x ∈ l := by
  unfold drop
  rw [List.mem_filter]
  simp [and_comm]
theorem sorted_drop {l : List T} (hs : l.Pairwise lt) (t : T) : (drop l t).Pairwise lt := hs.sublist (List.filter_sublist)
theorem drop_length (l : List T) (t : T) : (drop l t).length ≤ l.length := List.length_filter_le _ _
/-- How many of them are due. -/
def due (l : List T) (u : Int) : Nat := (l.takeWhile (fun x => decide (x.a ≤ u))).length
theorem due_le (l : List T) (u : Int) : due l u ≤ l.length := by
  unfold due
  exact (List.takeWhile_sublist _).length_le
theorem due_is : ∀ {l : List T} {u : Int} {i : Nat}, i ≤ l.length → (∀ x ∈ l.take i, x.a ≤ u) → (∀ x, l[i]? = some x → u < x.a) → due l u = i
  | [], u, i, h, _, _ => by simp at h; subst h; rfl
  | y :: l, u, 0, _, _, h3 => by
    have := h3 y rfl
    simp [due, this]
  | y :: l, u, i + 1, h1, h2, h3 => by
    have hy : y.a ≤ u := h2 y (by simp)
    have ih := due_is (l := l) (u := u) (i := i) (by simpa using h1) (fun x hx => h2 x (by simp [hx])) (fun x hx => h3 x (by simpa using hx))
    unfold due at *
    rw [List.takeWhile_cons_of_pos (by simpa using hy), List.length_cons, ih]
theorem due_take : ∀ (l : List T) (u : Int), ∀ x ∈ l.take (due l u), x.a ≤ u
  | [], u, x, hx => by simp at hx
  | y :: l, u, x, hx => by
    by_cases hy : y.a ≤ u
    · have e : due (y :: l) u = due l u + 1 := by unfold due; rw [List.takeWhile_cons_of_pos (by simpa using hy), List.length_cons]
      rw [e, List.take_succ_cons, List.mem_cons] at hx
      rcases hx with rfl | hx
      · exact hy
      · exact due_take l u x hx
    · have e : due (y :: l) u = 0 := by unfold due; rw [List.takeWhile_cons_of_neg (by simpa using hy)]; rfl
      rw [e] at hx
      simp at hx
theorem due_drop : ∀ {l : List T} (_ : l.Pairwise lt) (u : Int), ∀ x ∈ l.drop (due l u), u < x.a
  | [], _, u, x, hx => by simp at hx
  | y :: l, hs, u, x, hx => by
    by_cases hy : y.a ≤ u
    · have e : due (y :: l) u = due l u + 1 := by unfold due; rw [List.takeWhile_cons_of_pos (by simpa using hy), List.length_cons]
      rw [e, List.drop_succ_cons] at hx
      exact due_drop (List.pairwise_cons.1 hs).2 u x hx
    · have e : due (y :: l) u = 0 := by unfold due; rw [List.takeWhile_cons_of_neg (by simpa using hy)]; rfl
      rw [e, List.drop_zero, List.mem_cons] at hx
      rcases hx with rfl | hx
      · omega
      · have h1 := at_le (lt_asymm ((List.pairwise_cons.1 hs).1 x hx))
        omega
theorem mem_due {l : List T} (hs : l.Pairwise lt) (u : Int) (x : T) : (x ∈ l.take (due l u) ↔ x ∈ l ∧ x.a ≤ u) ∧ (x ∈ l.drop (due l u) ↔ x ∈ l ∧ u < x.a) := by
  have hx : x ∈ l ↔ x ∈ l.take (due l u) ∨ x ∈ l.drop (due l u) := by rw [← List.mem_append, List.take_append_drop]
  have h1 := due_take l u x
  have h2 := due_drop hs u x
  refine ⟨⟨fun h => ⟨hx.2 (.inl h), h1 h⟩, fun ⟨h, k⟩ => (hx.1 h).elim id fun h3 => by have := h2 h3; omega⟩, ⟨fun h => ⟨hx.2 (.inr h), h2 h⟩, fun ⟨h, k⟩ => (hx.1 h).elim (fun h3 => by have := h1 h3; omega) id⟩⟩
end Go.Tm
