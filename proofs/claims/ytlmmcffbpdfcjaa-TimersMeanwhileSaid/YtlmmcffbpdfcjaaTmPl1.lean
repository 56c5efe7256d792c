/- TimersPlay: the two queues and their lists are made. -/
import Derived.Test.YtlmmcffbpdfcjaaTmPlS
import Derived.Test.YtlmmcffbpdfcjaaPart
set_option linter.unusedSimpArgs false
set_option linter.unusedVariables false
namespace Go.Proofs.Ytlmmcffbpdfcjaa
open Go.RowKit Go.Kp Go.ChangeMaps

/-- The list that comes of setting one by one. -/
def sof (l : List Tm.T) : List Tm.T := l.foldl Tm.set []
theorem fold_sorted : ∀ (l acc : List Tm.T), acc.Pairwise Tm.lt → (l.foldl Tm.set acc).Pairwise Tm.lt
  | [], _, h => h
  | t :: l, acc, h => fold_sorted l (Tm.set acc t) (Tm.sorted_set h t)
theorem fold_mem : ∀ (l acc : List Tm.T) (x : Tm.T), x ∈ l.foldl Tm.set acc ↔ x ∈ acc ∨ x ∈ l
  | [], acc, x => by simp
  | t :: l, acc, x => by
    rw [List.foldl_cons, fold_mem l, Tm.mem_set, List.mem_cons]
    constructor
    · rintro ((h | h) | h)
      · exact .inr (.inl h)
      · exact .inl h
      · exact .inr (.inr h)
    · rintro (h | h | h)
      · exact .inl (.inr h)
      · exact .inl (.inl h)
      · exact .inr h
theorem fold_length : ∀ (l acc : List Tm.T), (l.foldl Tm.set acc).length ≤ acc.length + l.length
  | [], acc => by simp
  | t :: l, acc => by
    have h1 := fold_length l (Tm.set acc t)
    have h2 := Tm.set_length acc t
    rw [List.foldl_cons, List.length_cons]
    omega
theorem sof_sorted (l : List Tm.T) : (sof l).Pairwise Tm.lt := fold_sorted l [] List.Pairwise.nil
theorem sof_mem (l : List Tm.T) (x : Tm.T) : x ∈ sof l ↔ x ∈ l := by unfold sof; rw [fold_mem]; simp
theorem sof_length (l : List Tm.T) : (sof l).length ≤ l.length := by have := fold_length l []; simpa [sof] using this
theorem sof_take (l : List Tm.T) (i : Nat) (x : Tm.T) (h : l[i]? = some x) : sof (l.take (i + 1)) = Tm.set (sof (l.take i)) x := by
  unfold sof
  rw [List.take_add_one, h, Option.toList_some, List.foldl_append]
  rfl

/-- The first k of the two are there. -/
structure PreS (w : World) (B gw k : Nat) (cs : Array Value) (xs : List Qr) (F : List Tm.T) : Prop where
  G : Blk w gw 45 cs
  size : cs.size = 6
  co : cs[4]? = some (.slice none 0 0)
  cw : cs[5]? = some (.slice none 0 0)
  len : xs.length = k
  at_ : ∀ (j : Nat) (x : Qr), xs[j]? = some x → cs[j]? = some (ptr x.q) ∧ cs[2 + j]? = some x.lv
  ok : ∀ x ∈ xs, x.ok w B ∧ x.S = F
  rest : ∀ j : Nat, k ≤ j → j < 2 → cs[j]? = some (.pointer none) ∧ cs[2 + j]? = some (.slice none 0 0)
  apart : xs.Pairwise fun a b => ∀ n, a.foot n → ¬ b.foot n
  lists : ∀ a ∈ xs, ∀ b ∈ xs, ∀ n, a.lv.ownBlock = some n → ¬ b.foot n
  gf : ∀ a ∈ xs, ¬ a.foot gw ∧ a.lv.ownBlock ≠ some gw
  gB : B ≤ gw

theorem PreS.done {w : World} {B gw : Nat} {cs : Array Value} {xs : List Qr} {F : List Tm.T} (h : PreS w B gw 2 cs xs F) : ∃ x y, PlayS w B gw cs 0 x y [] (.slice none 0 0) (.slice none 0 0) ∧ x.S = F ∧ y.S = F := by
  obtain ⟨x, y, rfl⟩ : ∃ x y, xs = [x, y] := by
    match xs, h.len with
    | [x, y], _ => exact ⟨x, y, rfl⟩
  have h0 := h.at_ 0 x rfl
  have h1 := h.at_ 1 y rfl
  exact ⟨x, y, ⟨h.G, h.size, by omega, h0.1, h0.2, h1.1, h1.2, h.co, h.cw, fun z hz => (h.ok z hz).1, World.ownsRow_nil _ _ _ _, World.ownsRow_nil _ _ _ _, h.apart, h.lists, h.gf, (fun n hn => by cases hn), (fun n hn => by cases hn), h.gB, by simp⟩, (h.ok x (by simp)).2, (h.ok y (by simp)).2⟩
/-- One more. -/
theorem PreS.more {w w' : World} {B gw k : Nat} {cs : Array Value} {xs : List Qr} {F : List Tm.T} (h : PreS w B gw k cs xs F) (hk : k < 2) (x : Qr) (hx : x.ok w' B) (hS : x.S = F) (keep : ∀ n, n < w.heap.size → n ≠ gw → w'.heap[n]? = w.heap[n]?)
    (hG : Blk w' gw 45 ((cs.setIfInBounds k (ptr x.q)).setIfInBounds (2 + k) x.lv)) (hf : ∀ n, x.foot n → w.heap.size ≤ n) (hl : ∀ n, x.lv.ownBlock = some n → w.heap.size ≤ n) :
    PreS w' B gw (k + 1) ((cs.setIfInBounds k (ptr x.q)).setIfInBounds (2 + k) x.lv) (xs ++ [x]) F := by
  have hs := h.size
  have hlen := h.len
  have hgl := h.G.lt
  have cell : ∀ i, i ≠ k → i ≠ 2 + k → ((cs.setIfInBounds k (ptr x.q)).setIfInBounds (2 + k) x.lv)[i]? = cs[i]? := fun i h1 h2 => by
    rw [Array.getElem?_setIfInBounds_ne (fun e => h2 e.symm), Array.getElem?_setIfInBounds_ne (fun e => h1 e.symm)]
  have old : ∀ a ∈ xs, (∀ n, a.foot n → n < w.heap.size ∧ n ≠ gw) ∧ ∀ n, a.lv.ownBlock = some n → n < w.heap.size ∧ n ≠ gw := fun a ha =>
    ⟨fun n hn => ⟨(h.ok a ha).1.lt.1 n hn, fun e => (h.gf a ha).1 (e ▸ hn)⟩, fun n hn => ⟨(h.ok a ha).1.lt.2 n hn, fun e => (h.gf a ha).2 (e ▸ hn)⟩⟩
  refine ⟨hG, by simp only [Array.size_setIfInBounds]; exact hs, ?_, ?_, by simp [hlen], ?_, ?_, ?_, ?_, ?_, ?_, h.gB⟩
  · rw [cell _ (by omega) (by omega)]; exact h.co
  · rw [cell _ (by omega) (by omega)]; exact h.cw
  · intro j z hz
    rcases Nat.lt_or_ge j k with hj | hj
    · rw [List.getElem?_append_left (by omega)] at hz
      rw [cell _ (by omega) (by omega), cell _ (by omega) (by omega)]
      exact h.at_ j z hz
    · have hj2 : j < (xs ++ [x]).length := (List.getElem?_eq_some_iff.1 hz).1
      obtain rfl : j = k := by simp at hj2; omega
      rw [List.getElem?_append_right (by omega), hlen, Nat.sub_self] at hz
      simp at hz
      subst hz
      constructor
      · rw [Array.getElem?_setIfInBounds_ne (by omega), Array.getElem?_setIfInBounds_self_of_lt (by omega)]
      · rw [Array.getElem?_setIfInBounds_self_of_lt (by simp only [Array.size_setIfInBounds]; omega)]
  · intro z hz
    rcases List.mem_append.1 hz with hz | hz
    · exact ⟨(h.ok z hz).1.same (fun n hn => keep n ((old z hz).1 n hn).1 ((old z hz).1 n hn).2) fun n hn => keep n ((old z hz).2 n hn).1 ((old z hz).2 n hn).2, (h.ok z hz).2⟩
    · simp at hz; subst hz; exact ⟨hx, hS⟩
  · intro j h1 h2
    rw [cell _ (by omega) (by omega), cell _ (by omega) (by omega)]
    exact h.rest j (by omega) h2
  · rw [List.pairwise_append]
    refine ⟨h.apart, by simp, fun a ha b hb n hn hn2 => ?_⟩
    simp at hb; subst hb
    have := ((old a ha).1 n hn).1; have := hf n hn2; omega
  · intro a ha b hb n hn hn2
    rcases List.mem_append.1 ha with ha' | ha'
    · rcases List.mem_append.1 hb with hb' | hb'
      · exact h.lists a ha' b hb' n hn hn2
      · simp at hb'; subst hb'
        have := ((old a ha').2 n hn).1; have := hf n hn2; omega
    · simp at ha'; subst ha'
      rcases List.mem_append.1 hb with hb' | hb'
      · have := hl n hn; have := ((old b hb').1 n hn2).1; omega
      · simp at hb'; subst hb'
        exact hx.off n hn hn2
  · intro a ha
    rcases List.mem_append.1 ha with ha' | ha'
    · exact h.gf a ha'
    · simp at ha'; subst ha'
      exact ⟨fun e => by have := hf gw e; omega, fun e => by have := hl gw e; omega⟩
end Go.Proofs.Ytlmmcffbpdfcjaa
