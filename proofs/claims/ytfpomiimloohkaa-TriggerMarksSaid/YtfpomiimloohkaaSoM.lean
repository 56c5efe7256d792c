/- A stable sort by rotations (Go's symMerge), with no program in sight. -/
import Derived.Lib.Hide
set_option linter.unusedSimpArgs false
set_option linter.unusedVariables false
namespace Go.So
variable {α : Type} {κ : α → Int} {d d1 d2 d3 d' : Nat → α}

/-- What lies from a on, below b. -/
def seg (d : Nat → α) (a b : Nat) : List α := (List.range' a (b - a)).map d
theorem seg_nil {a b : Nat} (h : b ≤ a) : seg d a b = [] := by unfold seg; rw [Nat.sub_eq_zero_of_le h]; rfl
theorem seg_append {a m b : Nat} (h1 : a ≤ m) (h2 : m ≤ b) : seg d a b = seg d a m ++ seg d m b := by
  unfold seg
  rw [← List.map_append]
  have e : b - a = (m - a) + (b - m) := by omega
  have e2 : a + (m - a) = m := by omega
  rw [e, ← List.range'_append_1, e2]
theorem seg_one {a : Nat} : seg d a (a + 1) = [d a] := by unfold seg; rw [Nat.add_sub_cancel_left]; rfl
theorem seg_shift {a c n : Nat} (h : ∀ i, i < n → d' (a + i) = d (c + i)) : seg d' a (a + n) = seg d c (c + n) := by
  unfold seg
  rw [Nat.add_sub_cancel_left, Nat.add_sub_cancel_left]
  apply List.ext_getElem
  · simp
  · intro i h1 h2
    simp at h1
    simp only [List.getElem_map, List.getElem_range', Nat.one_mul]
    exact h i h1
theorem seg_same {a b : Nat} (h : ∀ i, a ≤ i → i < b → d' i = d i) : seg d' a b = seg d a b := by
  rcases Nat.le_total b a with hb | hb
  · rw [seg_nil hb, seg_nil hb]
  · obtain ⟨n, rfl⟩ := Nat.exists_eq_add_of_le hb
    exact seg_shift fun i hi => h _ (by omega) (by omega)
theorem mem_seg {a b : Nat} {x : α} : x ∈ seg d a b ↔ ∃ i, a ≤ i ∧ i < b ∧ d i = x := by
  unfold seg
  simp only [List.mem_map, List.mem_range'_1]
  constructor
  · rintro ⟨i, ⟨h1, h2⟩, h3⟩; exact ⟨i, h1, by omega, h3⟩
  · rintro ⟨i, h1, h2, h3⟩; exact ⟨i, ⟨h1, by omega⟩, h3⟩
theorem seg_len {a b : Nat} : (seg d a b).length = b - a := by simp [seg]

/-- Rising. -/
def Up (κ : α → Int) (d : Nat → α) (a b : Nat) : Prop := ∀ i j, a ≤ i → i ≤ j → j < b → κ (d i) ≤ κ (d j)
/-- Nothing but what lies from a on below b has turned, and things of one key stand as they stood. -/
structure St (κ : α → Int) (d d' : Nat → α) (a b : Nat) : Prop where
  off : ∀ i, i < a ∨ b ≤ i → d' i = d i
  fil : ∀ k, (seg d' a b).filter (fun x => κ x == k) = (seg d a b).filter (fun x => κ x == k)
theorem St.refl (d : Nat → α) (a b : Nat) : St κ d d a b := ⟨fun _ _ => rfl, fun _ => rfl⟩
theorem St.trans {a b : Nat} (h : St κ d d1 a b) (k : St κ d1 d2 a b) : St κ d d2 a b := ⟨fun i hi => (k.off i hi).trans (h.off i hi), fun q => (k.fil q).trans (h.fil q)⟩
theorem St.wide {a b a' b' : Nat} (h : St κ d d' a b) (h1 : a' ≤ a) (h0 : a ≤ b) (h2 : b ≤ b') : St κ d d' a' b' := by
  refine ⟨fun i hi => h.off i (by omega), fun k => ?_⟩
  rw [seg_append (d := d') h1 (by omega : a ≤ b'), seg_append (d := d') h0 h2, seg_append (d := d) h1 (by omega : a ≤ b'), seg_append (d := d) h0 h2,
    seg_same (d := d) (d' := d') (a := a') (b := a) fun i _ hi => h.off i (.inl hi), seg_same (d := d) (d' := d') (a := b) (b := b') fun i hi _ => h.off i (.inr hi)]
  simp only [List.filter_append, h.fil k]
theorem St.mem {a b : Nat} (h : St κ d d' a b) {x : α} : x ∈ seg d' a b ↔ x ∈ seg d a b := by
  have e := h.fil (κ x)
  constructor
  · intro hx
    have : x ∈ (seg d' a b).filter (fun y => κ y == κ x) := List.mem_filter.2 ⟨hx, by simp⟩
    rw [e] at this
    exact (List.mem_filter.1 this).1
  · intro hx
    have : x ∈ (seg d a b).filter (fun y => κ y == κ x) := List.mem_filter.2 ⟨hx, by simp⟩
    rw [← e] at this
    exact (List.mem_filter.1 this).1
theorem St.at {a b i : Nat} (h : St κ d d' a b) (h1 : a ≤ i) (h2 : i < b) : ∃ j, a ≤ j ∧ j < b ∧ d' i = d j := by
  obtain ⟨j, e1, e2, e3⟩ := mem_seg.1 (h.mem.1 (mem_seg.2 ⟨i, h1, h2, rfl⟩))
  exact ⟨j, e1, e2, e3.symm⟩
theorem Up.same {a b : Nat} (h : Up κ d a b) (hs : ∀ i, a ≤ i → i < b → d' i = d i) : Up κ d' a b := fun i j h1 h2 h3 => by
  rw [hs i h1 (by omega), hs j (by omega) h3]; exact h i j h1 h2 h3
theorem Up.sub {a b a' b' : Nat} (h : Up κ d a b) (h1 : a ≤ a') (h2 : b' ≤ b) : Up κ d a' b' := fun i j e1 e2 e3 => h i j (by omega) e2 (by omega)

/-- Two neighbouring pieces have changed places. -/
def Rot (d d' : Nat → α) (s m e : Nat) : Prop := ∀ i, d' i = if i < s ∨ e ≤ i then d i else if i < s + (e - m) then d (i + (m - s)) else d (i - (e - m))
theorem Rot.none {s m e : Nat} (h1 : s ≤ m) (h2 : m ≤ e) (h : s = m ∨ m = e) : Rot d d s m e := by
  intro i
  split
  · rfl
  · rcases h with h | h
    · subst h
      have : i < s + (e - s) := by omega
      rw [if_pos this]; simp
    · subst h
      have : ¬ i < s + (m - m) := by omega
      rw [if_neg this]; simp
theorem Rot.seg {s m e : Nat} (h : Rot d d' s m e) (h1 : s ≤ m) (h2 : m ≤ e) : seg d' s e = seg d m e ++ seg d s m := by
  rw [seg_append (d := d') (a := s) (m := s + (e - m)) (b := e) (by omega) (by omega)]
  have e1 : So.seg d' s (s + (e - m)) = So.seg d m (m + (e - m)) := seg_shift fun i hi => by
    rw [h, if_neg (by omega), if_pos (by omega)]
    congr 1; omega
  have e2 : So.seg d' (s + (e - m)) (s + (e - m) + (m - s)) = So.seg d s (s + (m - s)) := seg_shift fun i hi => by
    rw [h, if_neg (by omega), if_neg (by omega)]
    congr 1; omega
  rw [show m + (e - m) = e by omega] at e1
  rw [show s + (e - m) + (m - s) = e by omega, show s + (m - s) = m by omega] at e2
  rw [e1, e2]
theorem Rot.st {s m e : Nat} (h : Rot d d' s m e) (h1 : s ≤ m) (h2 : m ≤ e) (hne : ∀ i j, s ≤ i → i < m → m ≤ j → j < e → κ (d i) ≠ κ (d j)) : St κ d d' s e := by
  refine ⟨fun i hi => by rw [h, if_pos hi], fun k => ?_⟩
  rw [h.seg h1 h2, seg_append (d := d) h1 h2, List.filter_append, List.filter_append]
  by_cases hk : ∃ i, s ≤ i ∧ i < m ∧ κ (d i) = k
  · obtain ⟨i, e1, e2, rfl⟩ := hk
    have : (So.seg d m e).filter (fun x => κ x == κ (d i)) = [] := by
      rw [List.filter_eq_nil_iff]
      intro x hx
      obtain ⟨j, g1, g2, rfl⟩ := mem_seg.1 hx
      simpa using fun e => hne i j e1 e2 g1 g2 e.symm
    rw [this]; simp
  · have : (So.seg d s m).filter (fun x => κ x == k) = [] := by
      rw [List.filter_eq_nil_iff]
      intro x hx
      obtain ⟨j, g1, g2, rfl⟩ := mem_seg.1 hx
      simpa using fun e => hk ⟨j, g1, g2, e⟩
    rw [this]; simp

/-- Where symMerge cuts. -/
structure Cut (κ : α → Int) (d : Nat → α) (a m b mid start : Nat) : Prop where
  am : a < m
  mb : m < b
  hmid : mid = (a + b) / 2
  lo : (if m ≤ mid then a else mid + m - b) ≤ start
  hi : start ≤ (if m ≤ mid then m else mid)
  yes : ∀ c, (if m ≤ mid then a else mid + m - b) ≤ c → c < start → κ (d c) ≤ κ (d (mid + m - 1 - c))
  no : ∀ c, start ≤ c → c < (if m ≤ mid then m else mid) → κ (d (mid + m - 1 - c)) < κ (d c)
theorem Cut.bd {a m b mid start : Nat} (h : Cut κ d a m b mid start) : a ≤ start ∧ start ≤ m ∧ start ≤ mid ∧ m ≤ mid + m - start ∧ mid ≤ mid + m - start ∧ mid + m - start ≤ b ∧ a < mid ∧ mid < b := by
  have h1 := h.am; have h2 := h.mb; have h3 := h.hmid; have h4 := h.lo; have h5 := h.hi
  split at h4 <;> rename_i hc <;> simp only [hc, if_true, if_false] at h5 <;> omega
/-- What stands behind the cut on the left is greater than what stands ahead of it on the right. -/
theorem Cut.gt {a m b mid start : Nat} (h : Cut κ d a m b mid start) (hA : Up κ d a m) (hB : Up κ d m b) : ∀ i j, start ≤ i → i < m → m ≤ j → j < mid + m - start → κ (d j) < κ (d i) := by
  intro i j h1 h2 h3 h4
  obtain ⟨b1, b2, b3, b4, b5, b6, b7, b8⟩ := h.bd
  have hn := h.no start (Nat.le_refl _) (by split <;> omega)
  have e1 := hB j (mid + m - 1 - start) h3 (by omega) (by omega)
  have e2 := hA start i (by omega) h1 h2
  omega
/-- What stands ahead of the cut on the left is no greater than what stands behind it on the right. -/
theorem Cut.le {a m b mid start : Nat} (h : Cut κ d a m b mid start) (hA : Up κ d a m) (hB : Up κ d m b) : ∀ i j, a ≤ i → i < start → mid + m - start ≤ j → j < b → κ (d i) ≤ κ (d j) := by
  intro i j h1 h2 h3 h4
  obtain ⟨b1, b2, b3, b4, b5, b6, b7, b8⟩ := h.bd
  have hy := h.yes (start - 1) (by have := h.lo; split at this <;> rename_i hc <;> simp only [hc, if_true, if_false] <;> omega) (by omega)
  have e1 := hB (mid + m - 1 - (start - 1)) j (by omega) (by omega) h4
  have e2 := hA i (start - 1) h1 (by omega) (by omega)
  omega
theorem Cut.parts {a m b mid start : Nat} (h : Cut κ d a m b mid start) (hA : Up κ d a m) (hB : Up κ d m b) (hr : Rot d d1 start m (mid + m - start)) :
    St κ d d1 a b ∧ Up κ d1 a start ∧ Up κ d1 start mid ∧ Up κ d1 mid (mid + m - start) ∧ Up κ d1 (mid + m - start) b ∧ ∀ i j, a ≤ i → i < mid → mid ≤ j → j < b → κ (d1 i) ≤ κ (d1 j) := by
  obtain ⟨b1, b2, b3, b4, b5, b6, b7, b8⟩ := h.bd
  have hgt := h.gt hA hB
  have hle := h.le hA hB
  have A1 : ∀ i, a ≤ i → i < start → d1 i = d i := fun i _ h2 => by rw [hr, if_pos (by omega)]
  have B1 : ∀ i, start ≤ i → i < mid → d1 i = d (i + (m - start)) := fun i h1 h2 => by rw [hr, if_neg (by omega), if_pos (by omega)]
  have A2 : ∀ i, mid ≤ i → i < mid + m - start → d1 i = d (i - (mid - start)) := fun i h1 h2 => by
    rw [hr, if_neg (by omega), if_neg (by omega)]; congr 1; omega
  have B2 : ∀ i, mid + m - start ≤ i → i < b → d1 i = d i := fun i h1 _ => by rw [hr, if_pos (by omega)]
  refine ⟨(hr.st b2 b4 fun i j e1 e2 e3 e4 => by have := hgt i j e1 e2 e3 e4; omega).wide b1 (by omega) b6, (hA.sub (Nat.le_refl _) b2).same A1, ?_, ?_, ?_, ?_⟩
  · intro i j e1 e2 e3
    rw [B1 i e1 (by omega), B1 j (by omega) e3]
    exact hB _ _ (by omega) (by omega) (by omega)
  · intro i j e1 e2 e3
    rw [A2 i e1 (by omega), A2 j (by omega) e3]
    exact hA _ _ (by omega) (by omega) (by omega)
  · intro i j e1 e2 e3
    rw [B2 i e1 (by omega), B2 j (by omega) e3]
    exact hB _ _ (by omega) (by omega) (by omega)
  · intro i j e1 e2 e3 e4
    by_cases hi : i < start
    · rw [A1 i e1 hi]
      by_cases hj : j < mid + m - start
      · rw [A2 j e3 hj]; exact hA _ _ e1 (by omega) (by omega)
      · rw [B2 j (by omega) e4]; exact hle _ _ e1 hi (by omega) e4
    · rw [B1 i (by omega) e2]
      by_cases hj : j < mid + m - start
      · rw [A2 j e3 hj]; exact Int.le_of_lt (hgt _ _ (by omega) (by omega) (by omega) (by omega))
      · rw [B2 j (by omega) e4]; exact hB _ _ (by omega) (by omega) e4
/-- symMerge: the pieces put in order apart are in order together. -/
theorem merged {a mid b : Nat} (h1 : a ≤ mid) (h2 : mid ≤ b) (hx : ∀ i j, a ≤ i → i < mid → mid ≤ j → j < b → κ (d1 i) ≤ κ (d1 j)) (hL : Up κ d2 a mid) (sL : St κ d1 d2 a mid) (hR : Up κ d3 mid b) (sR : St κ d2 d3 mid b) : Up κ d3 a b ∧ St κ d1 d3 a b := by
  refine ⟨fun i j e1 e2 e3 => ?_, (sL.wide (Nat.le_refl _) h1 h2).trans (sR.wide h1 h2 (Nat.le_refl _))⟩
  by_cases hj : j < mid
  · rw [sR.off i (by omega), sR.off j (by omega)]
    exact hL i j e1 e2 hj
  · by_cases hi : i < mid
    · rw [sR.off i (by omega)]
      obtain ⟨i', g1, g2, g3⟩ := sL.at e1 hi
      obtain ⟨j', g4, g5, g6⟩ := sR.at (show mid ≤ j by omega) e3
      rw [g3, g6, sL.off j' (by omega)]
      exact hx i' j' g1 g2 g4 g5
    · exact hR i j (by omega) e2 e3
/-- One thing is laid in among those on its right. -/
theorem one_left {a i b : Nat} (h0 : a + 1 ≤ i) (hib : i ≤ b) (hB : Up κ d (a + 1) b) (hlt : ∀ h, a + 1 ≤ h → h < i → κ (d h) < κ (d a)) (hge : ∀ h, i ≤ h → h < b → κ (d a) ≤ κ (d h)) (hr : Rot d d' a (a + 1) i) : Up κ d' a b ∧ St κ d d' a b := by
  refine ⟨fun x y e1 e2 e3 => ?_, (hr.st (by omega) h0 fun x y g1 g2 g3 g4 => by have e : x = a := (by omega); have h5 := hlt y g3 g4; rw [e]; omega).wide (Nat.le_refl _) (by omega) hib⟩
  have P1 : ∀ t, a ≤ t → t < i - 1 → d' t = d (t + 1) := fun t g1 g2 => by rw [hr, if_neg (by omega), if_pos (by omega)]; congr 1; omega
  have P2 : d' (i - 1) = d a := by rw [hr, if_neg (by omega), if_neg (by omega)]; congr 1; omega
  have P3 : ∀ t, i ≤ t → d' t = d t := fun t g1 => by rw [hr, if_pos (by omega)]
  by_cases hy : y < i - 1
  · rw [P1 x e1 (by omega), P1 y (by omega) hy]; exact hB _ _ (by omega) (by omega) (by omega)
  · by_cases hy2 : y = i - 1
    · subst hy2
      rw [P2]
      by_cases hx : x = i - 1
      · subst hx; rw [P2]; exact Int.le_refl _
      · rw [P1 x e1 (by omega)]; exact Int.le_of_lt (hlt _ (by omega) (by omega))
    · rw [P3 y (by omega)]
      by_cases hx : x < i - 1
      · rw [P1 x e1 hx]; exact hB _ _ (by omega) (by omega) e3
      · by_cases hx2 : x = i - 1
        · subst hx2; rw [P2]; exact hge _ (by omega) e3
        · rw [P3 x (by omega)]; exact hB _ _ (by omega) e2 e3
/-- One thing is laid in among those on its left. -/
theorem one_right {a i m : Nat} (h0 : a ≤ i) (him : i ≤ m) (hA : Up κ d a m) (hle : ∀ h, a ≤ h → h < i → κ (d h) ≤ κ (d m)) (hgt : ∀ h, i ≤ h → h < m → κ (d m) < κ (d h)) (hr : Rot d d' i m (m + 1)) : Up κ d' a (m + 1) ∧ St κ d d' a (m + 1) := by
  refine ⟨fun x y e1 e2 e3 => ?_, (hr.st him (by omega) fun x y g1 g2 g3 g4 => by have e : y = m := (by omega); have h5 := hgt x g1 g2; rw [e]; omega).wide h0 (by omega) (Nat.le_refl _)⟩
  have P1 : ∀ t, t < i → d' t = d t := fun t g1 => by rw [hr, if_pos (by omega)]
  have P2 : d' i = d m := by
    by_cases hc : i = m
    · subst hc
      rw [hr, if_neg (by omega), if_pos (by omega)]; congr 1; omega
    · rw [hr, if_neg (by omega), if_pos (by omega)]; congr 1; omega
  have P3 : ∀ t, i < t → t ≤ m → d' t = d (t - 1) := fun t g1 g2 => by rw [hr, if_neg (by omega), if_neg (by omega)]; congr 1; omega
  by_cases hy : y < i
  · rw [P1 x (by omega), P1 y hy]; exact hA _ _ e1 e2 (by omega)
  · by_cases hy2 : y = i
    · subst hy2
      rw [P2]
      by_cases hx : x = y
      · subst hx; rw [P2]; exact Int.le_refl _
      · rw [P1 x (by omega)]; exact hle _ e1 (by omega)
    · rw [P3 y (by omega) (by omega)]
      by_cases hx : x < i
      · rw [P1 x hx]; exact hA _ _ e1 (by omega) (by omega)
      · by_cases hx2 : x = i
        · subst hx2; rw [P2]; exact Int.le_of_lt (hgt _ (by omega) (by omega))
        · rw [P3 x (by omega) (by omega)]; exact hA _ _ (by omega) (by omega) (by omega)

/-- Two things have changed places. -/
def Swp (d d' : Nat → α) (x y : Nat) : Prop := ∀ t, d' t = if t = x then d y else if t = y then d x else d t
theorem Rot.left {a k : Nat} (h : Rot d d1 a (a + 1) (k + 1)) (hk : a ≤ k) (hs : Swp d1 d2 k (k + 1)) : Rot d d2 a (a + 1) (k + 2) := by
  intro t
  rw [hs t]
  by_cases h1 : t = k
  · subst h1
    rw [if_pos rfl, h, if_pos (by omega), if_neg (by omega), if_pos (by omega)]; congr 1; omega
  · rw [if_neg h1]
    by_cases h2 : t = k + 1
    · subst h2
      rw [if_pos rfl, h, if_neg (by omega), if_neg (by omega), if_neg (by omega), if_neg (by omega)]; congr 1; omega
    · rw [if_neg h2, h]
      by_cases h3 : t < a ∨ k + 1 ≤ t
      · rw [if_pos h3, if_pos (by omega)]
      · rw [if_neg h3, if_pos (by omega), if_neg (by omega), if_pos (by omega)]
theorem Rot.right {k m : Nat} (h : Rot d d1 (k + 1) m (m + 1)) (hk : k + 1 ≤ m) (hs : Swp d1 d2 (k + 1) k) : Rot d d2 k m (m + 1) := by
  intro t
  rw [hs t]
  by_cases h1 : t = k + 1
  · subst h1
    rw [if_pos rfl, h, if_pos (by omega), if_neg (by omega), if_neg (by omega)]; congr 1; omega
  · rw [if_neg h1]
    by_cases h2 : t = k
    · subst h2
      rw [if_pos rfl, h]
      by_cases hm : t + 1 = m
      · rw [if_neg (by omega), if_pos (by omega), if_neg (by omega), if_pos (by omega)]; congr 1; omega
      · rw [if_neg (by omega), if_pos (by omega), if_neg (by omega), if_pos (by omega)]; congr 1; omega
    · rw [if_neg h2, h]
      by_cases h3 : t < k + 1 ∨ m + 1 ≤ t
      · rw [if_pos h3, if_pos (by omega)]
      · rw [if_neg h3, if_neg (by omega), if_neg (by omega), if_neg (by omega)]

/-- Two rows of k things have changed places. -/
def Swr (d d' : Nat → α) (a b k : Nat) : Prop := ∀ t, d' t = if a ≤ t ∧ t < a + k then d (t - a + b) else if b ≤ t ∧ t < b + k then d (t - b + a) else d t
theorem Swr.none (d : Nat → α) (a b : Nat) : Swr d d a b 0 := fun t => by rw [if_neg (by omega), if_neg (by omega)]
theorem Swr.more {a b k n : Nat} (h : Swr d d1 a b k) (hab : a + n ≤ b) (hk : k < n) (hs : Swp d1 d2 (a + k) (b + k)) : Swr d d2 a b (k + 1) := by
  intro t
  rw [hs t]
  by_cases h1 : t = a + k
  · subst h1
    rw [if_pos rfl, h, if_neg (by omega), if_neg (by omega), if_pos (by omega)]; congr 1; omega
  · rw [if_neg h1]
    by_cases h2 : t = b + k
    · subst h2
      rw [if_pos rfl, h, if_neg (by omega), if_neg (by omega), if_neg (by omega), if_pos (by omega)]; congr 1; omega
    · rw [if_neg h2, h]
      by_cases h3 : a ≤ t ∧ t < a + k
      · rw [if_pos h3, if_pos (by omega)]
      · rw [if_neg h3]
        by_cases h4 : b ≤ t ∧ t < b + k
        · rw [if_pos h4, if_neg (by omega), if_pos (by omega)]
        · rw [if_neg h4, if_neg (by omega), if_neg (by omega)]
theorem Swr.last {m i : Nat} (h : Swr d d' (m - i) m i) (hi : i ≤ m) : Rot d d' (m - i) m (m + i) := by
  intro t
  rw [h t]
  by_cases h1 : t < m - i ∨ m + i ≤ t
  · rw [if_neg (by omega), if_neg (by omega), if_pos h1]
  · rw [if_neg h1]
    by_cases h2 : t < m - i + (m + i - m)
    · rw [if_pos (by omega), if_pos h2]; congr 1; omega
    · rw [if_neg (by omega), if_pos (by omega), if_neg h2]; congr 1; omega
theorem Swr.longer {m i j : Nat} (h : Swr d d1 (m - i) m j) (hi : i ≤ m) (hj : j < i) (hr : Rot d1 d' (m - (i - j)) m (m + j)) : Rot d d' (m - i) m (m + j) := by
  intro t
  rw [hr t]
  by_cases h1 : t < m - (i - j) ∨ m + j ≤ t
  · rw [if_pos h1, h]
    by_cases h2 : m - i ≤ t ∧ t < m - i + j
    · rw [if_pos h2, if_neg (by omega), if_pos (by omega)]; congr 1; omega
    · rw [if_neg h2, if_neg (by omega), if_pos (by omega)]
  · rw [if_neg h1]
    by_cases h2 : t < m - (i - j) + (m + j - m)
    · rw [if_pos h2, h]
      by_cases h3 : m ≤ t + (m - (m - (i - j))) ∧ t + (m - (m - (i - j))) < m + j
      · rw [if_neg (by omega), if_pos h3, if_neg (by omega), if_neg (by omega)]; congr 1; omega
      · omega
    · rw [if_neg h2, h, if_neg (by omega), if_neg (by omega), if_neg (by omega), if_neg (by omega)]
theorem Swr.shorter {m i j : Nat} (h : Swr d d1 (m - i) (m + j - i) i) (hi : i ≤ m) (hj : i < j) (hr : Rot d1 d' (m - i) m (m + (j - i))) : Rot d d' (m - i) m (m + j) := by
  intro t
  rw [hr t]
  by_cases h1 : t < m - i ∨ m + (j - i) ≤ t
  · rw [if_pos h1, h]
    by_cases h2 : m + j - i ≤ t ∧ t < m + j - i + i
    · rw [if_neg (by omega), if_pos h2, if_neg (by omega), if_neg (by omega)]; congr 1; omega
    · rw [if_neg (by omega), if_neg h2, if_pos (by omega)]
  · rw [if_neg h1]
    by_cases h2 : t < m - i + (m + (j - i) - m)
    · rw [if_pos h2, h, if_neg (by omega), if_neg (by omega), if_neg (by omega), if_pos (by omega)]
    · rw [if_neg h2, h, if_pos (by omega), if_neg (by omega), if_pos (by omega)]; congr 1; omega

/-! ### Pieces of one length -/
def Bls (κ : α → Int) (d : Nat → α) (s n : Nat) : Prop := ∀ q, Up κ d (q * s) (min ((q + 1) * s) n)
theorem Bls.all {s n : Nat} (h : Bls κ d s n) (hs : n ≤ s) : Up κ d 0 n := by
  have := h 0
  rw [Nat.zero_mul, Nat.zero_add, Nat.one_mul, Nat.min_eq_right hs] at this
  exact this
/-- While the pieces are put together, two by two: all below a are. -/
structure Pass (κ : α → Int) (d : Nat → α) (s n a : Nat) : Prop where
  al : ∃ q, a = q * (2 * s)
  lo : ∀ p, (p + 1) * (2 * s) ≤ a → Up κ d (p * (2 * s)) ((p + 1) * (2 * s))
  hi : ∀ p, a ≤ p * s → Up κ d (p * s) (min ((p + 1) * s) n)
theorem Pass.start {s n : Nat} (h : Bls κ d s n) (hs : 0 < s) : Pass κ d s n 0 := by
  refine ⟨⟨0, by rw [Nat.zero_mul]⟩, fun p hp => ?_, fun p _ => h p⟩
  have : 0 < (p + 1) * (2 * s) := Nat.mul_pos (Nat.succ_pos _) (by omega)
  omega
theorem Pass.two {s n a : Nat} (h : Pass κ d s n a) (hb : a + s ≤ n) : Up κ d a (a + s) ∧ Up κ d (a + s) (min (a + 2 * s) n) := by
  obtain ⟨q, hq⟩ := h.al
  have e1 : (2 * q) * s = a := by rw [hq, Nat.mul_comm 2 q, Nat.mul_assoc]
  have h1 := h.hi (2 * q) (by omega)
  have h2 := h.hi (2 * q + 1) (by rw [Nat.succ_mul (2 * q) s, e1]; omega)
  rw [Nat.succ_mul (2 * q) s, e1, Nat.min_eq_left hb] at h1
  rw [Nat.succ_mul (2 * q + 1) s, Nat.succ_mul (2 * q) s, e1] at h2
  refine ⟨h1, ?_⟩
  have e : a + s + s = a + 2 * s := by omega
  rw [e] at h2
  exact h2
theorem Pass.next {s n a : Nat} (h : Pass κ d s n a) (hU : Up κ d' a (a + 2 * s)) (hS : St κ d d' a (a + 2 * s)) : Pass κ d' s n (a + 2 * s) := by
  obtain ⟨q, hq⟩ := h.al
  refine ⟨⟨q + 1, by rw [Nat.succ_mul q (2 * s), hq]⟩, fun p hp => ?_, fun p hp => ?_⟩
  · by_cases hc : (p + 1) * (2 * s) ≤ a
    · exact (h.lo p hc).same fun i _ h2 => hS.off i (.inl (by omega))
    · have hpq : p = q := by
        have h1 : ¬ p + 1 ≤ q := fun h3 => hc (by rw [hq]; exact Nat.mul_le_mul_right _ h3)
        have h2 : p < q + 1 := by
          apply Nat.lt_of_not_le
          intro h3
          have h4 := Nat.mul_le_mul_right (2 * s) (Nat.succ_le_succ h3)
          rw [Nat.succ_mul (q + 1) (2 * s), Nat.succ_mul q (2 * s), ← hq] at h4
          have : (p + 1) * (2 * s) ≤ a + 2 * s := hp
          have h5 : 0 < 2 * s := by
            apply Nat.pos_of_ne_zero
            intro h0
            rw [h0, Nat.mul_zero] at hc
            omega
          have h6 : (p.succ) * (2 * s) = (p + 1) * (2 * s) := rfl
          omega
        omega
      subst hpq
      rw [Nat.succ_mul p (2 * s), ← hq]
      exact hU
  · exact (h.hi p (by omega)).same fun i h1 _ => hS.off i (.inr (by omega))
theorem Pass.last {s n a : Nat} (h : Pass κ d s n a) (hb : n < a + 2 * s) (hU : Up κ d' a n) (hS : St κ d d' a n) (han : a ≤ n) : Bls κ d' (2 * s) n := by
  obtain ⟨q, hq⟩ := h.al
  intro p
  by_cases hc : (p + 1) * (2 * s) ≤ a
  · exact ((h.lo p hc).same fun i _ h2 => hS.off i (.inl (by omega))).sub (Nat.le_refl _) (Nat.min_le_left _ _)
  · have h1 : ¬ p + 1 ≤ q := fun h3 => hc (by rw [hq]; exact Nat.mul_le_mul_right _ h3)
    by_cases hpq : p = q
    · subst hpq
      rw [← hq]
      exact hU.sub (Nat.le_refl _) (Nat.min_le_right _ _)
    · have h4 := Nat.mul_le_mul_right (2 * s) (show q + 1 ≤ p by omega)
      rw [Nat.succ_mul q (2 * s), ← hq] at h4
      intro i j e1 e2 e3
      have := Nat.min_le_right ((p + 1) * (2 * s)) n
      omega
theorem Pass.one {s n a : Nat} (h : Pass κ d s n a) (hm : n ≤ a + s) (han : a ≤ n) : Up κ d a n := by
  obtain ⟨q, hq⟩ := h.al
  have e1 : (2 * q) * s = a := by rw [hq, Nat.mul_comm 2 q, Nat.mul_assoc]
  have h1 := h.hi (2 * q) (by omega)
  rw [Nat.succ_mul (2 * q) s, e1, Nat.min_eq_right hm] at h1
  exact h1

/-! ### One order alone -/
theorem sorted_unique : ∀ {L L' : List α}, L.Pairwise (fun x y => κ x ≤ κ y) → L'.Pairwise (fun x y => κ x ≤ κ y) → (∀ k, L.filter (fun x => κ x == k) = L'.filter (fun x => κ x == k)) → L = L'
  | [], L', _, _, h => by
    cases L' with
    | nil => rfl
    | cons y L' =>
      have := h (κ y)
      simp at this
  | x :: L, L', h1, h2, h => by
    have hx : x ∈ L'.filter (fun y => κ y == κ x) := by rw [← h]; simp
    have hx' := (List.mem_filter.1 hx).1
    cases L' with
    | nil => simp at hx'
    | cons y L' =>
      have hy : y ∈ (x :: L).filter (fun z => κ z == κ y) := by rw [h]; simp
      have hy' := (List.mem_filter.1 hy).1
      obtain ⟨p1, p2⟩ := List.pairwise_cons.1 h1
      obtain ⟨q1, q2⟩ := List.pairwise_cons.1 h2
      have e1 : κ x ≤ κ y := by
        rcases List.mem_cons.1 hy' with e | e
        · rw [e]; exact Int.le_refl _
        · exact p1 y e
      have e2 : κ y ≤ κ x := by
        rcases List.mem_cons.1 hx' with e | e
        · rw [e]; exact Int.le_refl _
        · exact q1 x e
      have e3 : κ y = κ x := Int.le_antisymm e2 e1
      have hk := h (κ x)
      simp only [List.filter_cons, beq_self_eq_true, if_true, e3] at hk
      injection hk with hxy ht
      subst hxy
      refine congrArg _ (sorted_unique p2 q2 fun k => ?_)
      have hk2 := h k
      simp only [List.filter_cons] at hk2
      split at hk2
      · injection hk2
      · exact hk2
theorem Up.pair {n : Nat} (h : Up κ d 0 n) : (seg d 0 n).Pairwise (fun x y => κ x ≤ κ y) := by
  rw [List.pairwise_iff_getElem]
  intro i j hi hj hij
  simp only [seg, List.length_map, List.length_range'] at hi hj
  simp only [seg, List.getElem_map, List.getElem_range', Nat.one_mul]
  exact h _ _ (by omega) (by omega) (by omega)
end Go.So
