/- Sorted maps as balanced trees: what they tell is a plain list in order. No program in sight. -/
import Derived.Test.YtbkofiflfcfjfaaBase
set_option linter.unusedSimpArgs false
set_option linter.unusedVariables false
namespace Go.St

inductive T (κ ν : Type) where
  | nil
  | node (l : T κ ν) (k : κ) (v : ν) (r : T κ ν)

variable {κ ν : Type}
def T.toL : T κ ν → List (κ × ν)
  | .nil => []
  | .node l k v r => l.toL ++ (k, v) :: r.toL
def T.high : T κ ν → Nat
  | .nil => 0
  | .node l _ _ r => max l.high r.high + 1
def T.many : T κ ν → Nat
  | .nil => 0
  | .node l _ _ r => l.many + r.many + 1
def T.isNil : T κ ν → Bool
  | .nil => true
  | .node .. => false
theorem T.many_len : ∀ t : T κ ν, t.many = t.toL.length
  | .nil => rfl
  | .node l k v r => by simp only [T.many, T.toL, List.length_append, List.length_cons, T.many_len l, T.many_len r]; omega
theorem T.high_le : ∀ t : T κ ν, t.high ≤ t.many
  | .nil => Nat.le_refl _
  | .node l k v r => by have := T.high_le l; have := T.high_le r; simp only [T.high, T.many]; omega

def even (k : κ) (v : ν) (l r : T κ ν) : T κ ν :=
  if r.high + 1 < l.high then
    match l with
    | .nil => .node .nil k v r
    | .node ll lk lv lr =>
      if lr.high ≤ ll.high then .node ll lk lv (.node lr k v r)
      else
        match lr with
        | .nil => .node (.node ll lk lv .nil) k v r
        | .node ml mk mv mr => .node (.node ll lk lv ml) mk mv (.node mr k v r)
  else if l.high + 1 < r.high then
    match r with
    | .nil => .node l k v .nil
    | .node rl rk rv rr =>
      if rl.high ≤ rr.high then .node (.node l k v rl) rk rv rr
      else
        match rl with
        | .nil => .node l k v (.node .nil rk rv rr)
        | .node ml mk mv mr => .node (.node l k v ml) mk mv (.node mr rk rv rr)
  else .node l k v r
theorem toL_even (k : κ) (v : ν) (l r : T κ ν) : (even k v l r).toL = l.toL ++ (k, v) :: r.toL := by
  unfold even
  split
  · cases l with
    | nil => rfl
    | node ll lk lv lr =>
      simp only
      split
      · simp [T.toL]
      · cases lr <;> simp [T.toL]
  · split
    · cases r with
      | nil => rfl
      | node rl rk rv rr =>
        simp only
        split
        · simp [T.toL]
        · cases rl <;> simp [T.toL]
    · rfl
theorem many_even (k : κ) (v : ν) (l r : T κ ν) : (even k v l r).many = l.many + r.many + 1 := by
  simp only [T.many_len, toL_even, List.length_append, List.length_cons]
  omega

def put (c : κ → κ → Int) (key : κ) (val : ν) : T κ ν → T κ ν
  | .nil => .node .nil key val .nil
  | .node l k v r => if c key k < 0 then even k v (put c key val l) r else if 0 < c key k then even k v l (put c key val r) else .node l k val r
def T.first : T κ ν → Option (κ × ν)
  | .nil => none
  | .node l k v _ => if l.isNil then some (k, v) else l.first
def behind : T κ ν → T κ ν
  | .nil => .nil
  | .node l k v r => if l.isNil then r else even k v (behind l) r
def joined (l r : T κ ν) : T κ ν :=
  if l.isNil then r else if r.isNil then l else match r.first with | some (k, v) => even k v l (behind r) | none => l
def take (c : κ → κ → Int) (key : κ) : T κ ν → T κ ν
  | .nil => .nil
  | .node l k v r => if c key k < 0 then even k v (take c key l) r else if 0 < c key k then even k v l (take c key r) else joined l r

theorem isNil_eq {t : T κ ν} (h : t.isNil = true) : t = .nil := by cases t <;> first | rfl | cases h
theorem first_behind : ∀ t : T κ ν, t.isNil = false → ∃ p, t.first = some p ∧ t.toL = p :: (behind t).toL
  | .nil, h => by cases h
  | .node l k v r, _ => by
    unfold T.first behind
    cases hl : l.isNil with
    | true => rw [isNil_eq hl]; exact ⟨(k, v), rfl, rfl⟩
    | false =>
      obtain ⟨p, h1, h2⟩ := first_behind l hl
      refine ⟨p, by simpa using h1, ?_⟩
      simp only [T.toL, Bool.false_eq_true, if_false, toL_even, h2, List.cons_append]
theorem toL_joined (l r : T κ ν) : (joined l r).toL = l.toL ++ r.toL := by
  unfold joined
  split
  · rename_i h; rw [isNil_eq h]; rfl
  · split
    · rename_i h; rw [isNil_eq h]; simp [T.toL]
    · rename_i h
      obtain ⟨p, h1, h2⟩ := first_behind r (by simpa using h)
      rw [h1, h2]
      simp only [toL_even]

/-! ### The list in order -/
def putL (c : κ → κ → Int) (key : κ) (val : ν) : List (κ × ν) → List (κ × ν)
  | [] => [(key, val)]
  | p :: l => if c p.1 key < 0 then p :: putL c key val l else if c p.1 key = 0 then (p.1, val) :: l else (key, val) :: p :: l
def takeL (c : κ → κ → Int) (key : κ) : List (κ × ν) → List (κ × ν)
  | [] => []
  | p :: l => if c p.1 key < 0 then p :: takeL c key l else if c p.1 key = 0 then l else p :: l
def getL (c : κ → κ → Int) (key : κ) : List (κ × ν) → Option ν
  | [] => none
  | p :: l => if c p.1 key < 0 then getL c key l else if c p.1 key = 0 then some p.2 else none
def placeL (c : κ → κ → Int) (key : κ) : List (κ × ν) → Nat
  | [] => 0
  | p :: l => if c p.1 key < 0 then placeL c key l + 1 else 0

/-- An order. -/
structure Ord (c : κ → κ → Int) : Prop where
  turn : ∀ a b, c a b < 0 ↔ 0 < c b a
  trans : ∀ a b d, c a b ≤ 0 → c b d ≤ 0 → c a d ≤ 0
theorem Ord.zero {c : κ → κ → Int} (h : Ord c) {a b : κ} (e : c a b = 0) : c b a = 0 := by
  have h1 := h.turn a b; have h2 := h.turn b a; omega
theorem Ord.lt_le {c : κ → κ → Int} (h : Ord c) {a b d : κ} (h1 : c a b < 0) (h2 : c b d ≤ 0) : c a d < 0 := by
  have h3 := h.turn a d
  have h4 := h.turn d a
  rcases Int.lt_or_le (c a d) 0 with k | k
  · exact k
  · have k1 : c d a ≤ 0 := by omega
    have := h.trans b d a h2 k1
    have := h.turn a b
    omega
theorem Ord.le_lt {c : κ → κ → Int} (h : Ord c) {a b d : κ} (h1 : c a b ≤ 0) (h2 : c b d < 0) : c a d < 0 := by
  have h3 := h.turn a d
  have h4 := h.turn d a
  rcases Int.lt_or_le (c a d) 0 with k | k
  · exact k
  · have k1 : c d a ≤ 0 := by omega
    have := h.trans d a b k1 h1
    have := h.turn b d
    omega
def Sorted (c : κ → κ → Int) (l : List (κ × ν)) : Prop := l.Pairwise fun a b => c a.1 b.1 < 0
theorem Sorted.parts {c : κ → κ → Int} {l1 l2 : List (κ × ν)} {p : κ × ν} (h : Sorted c (l1 ++ p :: l2)) : Sorted c l1 ∧ Sorted c l2 ∧ (∀ q ∈ l1, c q.1 p.1 < 0) ∧ (∀ q ∈ l2, c p.1 q.1 < 0) := by
  obtain ⟨h1, h2, h3⟩ := List.pairwise_append.1 h
  obtain ⟨h4, h5⟩ := List.pairwise_cons.1 h2
  exact ⟨h1, h5, fun q hq => h3 q hq p List.mem_cons_self, h4⟩

section
variable {c : κ → κ → Int} {key : κ} {val : ν}
theorem putL_left {l1 l2 : List (κ × ν)} {p : κ × ν} (h : 0 < c p.1 key) : putL c key val (l1 ++ p :: l2) = putL c key val l1 ++ p :: l2 := by
  induction l1 with
  | nil => simp only [List.nil_append, putL]; rw [if_neg (by omega), if_neg (by omega)]; rfl
  | cons q l ih =>
    simp only [List.cons_append, putL, ih]
    split
    · rfl
    · split <;> rfl
theorem putL_right {l1 l2 : List (κ × ν)} (h : ∀ q ∈ l1, c q.1 key < 0) : putL c key val (l1 ++ l2) = l1 ++ putL c key val l2 := by
  induction l1 with
  | nil => rfl
  | cons q l ih =>
    simp only [List.cons_append, putL, if_pos (h q List.mem_cons_self), ih fun x hx => h x (List.mem_cons_of_mem _ hx)]
theorem takeL_left {l1 l2 : List (κ × ν)} {p : κ × ν} (h : 0 < c p.1 key) : takeL c key (l1 ++ p :: l2) = takeL c key l1 ++ p :: l2 := by
  induction l1 with
  | nil => simp only [List.nil_append, takeL]; rw [if_neg (by omega), if_neg (by omega)]
  | cons q l ih =>
    simp only [List.cons_append, takeL, ih]
    split
    · rfl
    · split <;> rfl
theorem takeL_right {l1 l2 : List (κ × ν)} (h : ∀ q ∈ l1, c q.1 key < 0) : takeL c key (l1 ++ l2) = l1 ++ takeL c key l2 := by
  induction l1 with
  | nil => rfl
  | cons q l ih =>
    simp only [List.cons_append, takeL, if_pos (h q List.mem_cons_self), ih fun x hx => h x (List.mem_cons_of_mem _ hx)]
theorem getL_left {l1 l2 : List (κ × ν)} {p : κ × ν} (h : 0 < c p.1 key) : getL c key (l1 ++ p :: l2) = getL c key l1 := by
  induction l1 with
  | nil => simp only [List.nil_append, getL]; rw [if_neg (by omega), if_neg (by omega)]
  | cons q l ih => simp only [List.cons_append, getL, ih]
theorem getL_right {l1 l2 : List (κ × ν)} (h : ∀ q ∈ l1, c q.1 key < 0) : getL c key (l1 ++ l2) = getL c key l2 := by
  induction l1 with
  | nil => rfl
  | cons q l ih =>
    simp only [List.cons_append, getL, if_pos (h q List.mem_cons_self), ih fun x hx => h x (List.mem_cons_of_mem _ hx)]
theorem placeL_left {l1 l2 : List (κ × ν)} {p : κ × ν} (h : 0 ≤ c p.1 key) : placeL c key (l1 ++ p :: l2) = placeL c key l1 := by
  induction l1 with
  | nil => simp only [List.nil_append, placeL]; rw [if_neg (by omega)]
  | cons q l ih => simp only [List.cons_append, placeL, ih]
theorem placeL_right {l1 l2 : List (κ × ν)} (h : ∀ q ∈ l1, c q.1 key < 0) : placeL c key (l1 ++ l2) = l1.length + placeL c key l2 := by
  induction l1 with
  | nil => simp
  | cons q l ih =>
    simp only [List.cons_append, placeL, if_pos (h q List.mem_cons_self), ih fun x hx => h x (List.mem_cons_of_mem _ hx), List.length_cons]
    omega
end

section
variable {c : κ → κ → Int} (hc : Ord c) {key : κ} {val : ν}
include hc
theorem left_lt {l1 l2 : List (κ × ν)} {p : κ × ν} (h : Sorted c (l1 ++ p :: l2)) (hk : c p.1 key ≤ 0) : ∀ q ∈ l1, c q.1 key < 0 := fun q hq => hc.lt_le (h.parts.2.2.1 q hq) hk
theorem toL_put : ∀ t : T κ ν, Sorted c t.toL → (put c key val t).toL = putL c key val t.toL
  | .nil, _ => rfl
  | .node l k v r, h => by
    have hp := Sorted.parts (show Sorted c (l.toL ++ (k, v) :: r.toL) from h)
    unfold put
    have t1 := hc.turn key k
    have t2 := hc.turn k key
    split
    · rw [toL_even, toL_put l hp.1]
      exact (putL_left (p := (k, v)) (by show 0 < c k key; omega)).symm
    · split
      · rw [toL_even, toL_put r hp.2.1]
        have hl := left_lt hc h (key := key) (by show c k key ≤ 0; omega)
        show _ = putL c key val (l.toL ++ (k, v) :: r.toL)
        rw [putL_right hl]
        simp only [putL]
        rw [if_pos (by omega)]
      · show l.toL ++ (k, val) :: r.toL = putL c key val (l.toL ++ (k, v) :: r.toL)
        have hl := left_lt hc h (key := key) (by show c k key ≤ 0; omega)
        rw [putL_right hl]
        simp only [putL]
        rw [if_neg (by omega), if_pos (by omega)]
theorem toL_take : ∀ t : T κ ν, Sorted c t.toL → (take c key t).toL = takeL c key t.toL
  | .nil, _ => rfl
  | .node l k v r, h => by
    have hp := Sorted.parts (show Sorted c (l.toL ++ (k, v) :: r.toL) from h)
    unfold take
    have t1 := hc.turn key k
    have t2 := hc.turn k key
    split
    · rw [toL_even, toL_take l hp.1]
      exact (takeL_left (p := (k, v)) (by show 0 < c k key; omega)).symm
    · split
      · rw [toL_even, toL_take r hp.2.1]
        have hl := left_lt hc h (key := key) (by show c k key ≤ 0; omega)
        show _ = takeL c key (l.toL ++ (k, v) :: r.toL)
        rw [takeL_right hl]
        simp only [takeL]
        rw [if_pos (by omega)]
      · show (joined l r).toL = takeL c key (l.toL ++ (k, v) :: r.toL)
        have hl := left_lt hc h (key := key) (by show c k key ≤ 0; omega)
        rw [takeL_right hl, toL_joined]
        simp only [takeL]
        rw [if_neg (by omega), if_pos (by omega)]
omit hc in
theorem mem_putL {l : List (κ × ν)} {q : κ × ν} (h : q ∈ putL c key val l) : q.1 = key ∨ ∃ p ∈ l, p.1 = q.1 := by
  induction l with
  | nil => simp only [putL, List.mem_singleton] at h; exact .inl (by rw [h])
  | cons p l ih =>
    simp only [putL] at h
    split at h
    · rcases List.mem_cons.1 h with rfl | h
      · exact .inr ⟨_, List.mem_cons_self, rfl⟩
      · rcases ih h with h | ⟨x, hx, he⟩
        · exact .inl h
        · exact .inr ⟨x, List.mem_cons_of_mem _ hx, he⟩
    · split at h
      · rcases List.mem_cons.1 h with rfl | h
        · exact .inr ⟨p, List.mem_cons_self, rfl⟩
        · exact .inr ⟨q, List.mem_cons_of_mem _ h, rfl⟩
      · rcases List.mem_cons.1 h with rfl | h
        · exact .inl rfl
        · exact .inr ⟨q, h, rfl⟩
theorem sorted_putL {l : List (κ × ν)} (h : Sorted c l) : Sorted c (putL c key val l) := by
  induction l with
  | nil => simp [putL, Sorted]
  | cons p l ih =>
    obtain ⟨h1, h2⟩ := List.pairwise_cons.1 h
    simp only [putL]
    split
    · rename_i hk
      refine List.pairwise_cons.2 ⟨fun q hq => ?_, ih h2⟩
      rcases mem_putL hq with e | ⟨x, hx, e⟩
      · rw [e]; exact hk
      · rw [← e]; exact h1 x hx
    · split
      · exact List.pairwise_cons.2 ⟨h1, h2⟩
      · rename_i a b
        have t := hc.turn key p.1
        refine List.pairwise_cons.2 ⟨fun q hq => ?_, h⟩
        have hk : c key p.1 < 0 := by omega
        rcases List.mem_cons.1 hq with rfl | hq
        · exact hk
        · exact hc.lt_le hk (Int.le_of_lt (h1 q hq))
omit hc in
theorem takeL_sub {l : List (κ × ν)} : (takeL c key l).Sublist l := by
  induction l with
  | nil => exact List.Sublist.refl _
  | cons p l ih =>
    simp only [takeL]
    split
    · exact ih.cons_cons p
    · split
      · exact List.sublist_cons_self p l
      · exact List.Sublist.refl _
omit hc in
theorem sorted_takeL {l : List (κ × ν)} (h : Sorted c l) : Sorted c (takeL c key l) := h.sublist (takeL_sub)
end
theorem putL_len {c : κ → κ → Int} {key : κ} {val : ν} (l : List (κ × ν)) : (putL c key val l).length ≤ l.length + 1 := by
  induction l with
  | nil => simp [putL]
  | cons p l ih =>
    simp only [putL]
    split
    · simp only [List.length_cons]; omega
    · split <;> simp
end Go.St
