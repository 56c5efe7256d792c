/- A heap of timers with a place that is open, and where each stands; no program in sight. -/
import Derived.Test.YtlmmcffbpdfcjaaTmM
set_option linter.unusedSimpArgs false
set_option linter.unusedVariables false
namespace Go.Tm

/-- The edge above place j is in order. -/
def Edge (L : List T) (j : Nat) : Prop := ∀ x y, L[j]? = some x → L[(j - 1) / 2]? = some y → ¬ lt x y
def Heap (L : List T) : Prop := ∀ j, 0 < j → Edge L j
/-- All is in order but at place i. -/
structure Hole (L : List T) (i : Nat) : Prop where
  far : ∀ j, 0 < j → j ≠ i → (j - 1) / 2 ≠ i → Edge L j
  over : 0 < i → ∀ j, 0 < j → (j - 1) / 2 = i → ∀ x y, L[j]? = some x → L[(i - 1) / 2]? = some y → ¬ lt x y
def Kids (L : List T) (i : Nat) : Prop := ∀ j, 0 < j → (j - 1) / 2 = i → Edge L j
/-- Each stands where the map says, but the one at place i. -/
structure Place (M : T → Option Nat) (L : List T) (i : Nat) : Prop where
  at_ : ∀ j x, j ≠ i → L[j]? = some x → M x = some j
  dom : ∀ x, M x ≠ none → x ∈ L
structure Full (M : T → Option Nat) (L : List T) : Prop where
  at_ : ∀ j x, L[j]? = some x → M x = some j
  dom : ∀ x, M x ≠ none → x ∈ L
def upd (M : T → Option Nat) (t : T) (i : Nat) : T → Option Nat := fun x => if x = t then some i else M x
def cut (M : T → Option Nat) (t : T) : T → Option Nat := fun x => if x = t then none else M x

theorem nd_iff {L : List T} : L.Nodup ↔ ∀ i j, i < j → j < L.length → L[i]? ≠ L[j]? := by
  unfold List.Nodup
  rw [List.pairwise_iff_getElem]
  constructor
  · intro h i j hij hj e
    rw [List.getElem?_eq_getElem hj, List.getElem?_eq_getElem (by omega : i < L.length)] at e
    exact h i j (by omega) hj hij (Option.some.inj e)
  · intro h i j hi hj hij e
    refine h i j hij hj ?_
    rw [List.getElem?_eq_getElem hj, List.getElem?_eq_getElem hi, e]

theorem Full.nodup {M : T → Option Nat} {L : List T} (h : Full M L) : L.Nodup := by
  rw [nd_iff]
  intro i j hij hj e
  have h1 := h.at_ j _ (List.getElem?_eq_getElem hj)
  rw [List.getElem?_eq_getElem hj] at e
  have h2 := h.at_ i _ e
  rw [h1] at h2
  have := Option.some.inj h2
  omega
theorem Full.place {M : T → Option Nat} {L : List T} (h : Full M L) (i : Nat) : Place M L i := ⟨fun j x _ hj => h.at_ j x hj, h.dom⟩
theorem Full.none {M : T → Option Nat} {L : List T} (h : Full M L) {x : T} (hx : x ∉ L) : M x = none := Decidable.byContradiction fun e => hx (h.dom x e)
theorem Full.has {M : T → Option Nat} {L : List T} (h : Full M L) {x : T} (hx : x ∈ L) : ∃ j, M x = some j ∧ L[j]? = some x := by
  obtain ⟨j, hj⟩ := List.mem_iff_getElem?.1 hx
  exact ⟨j, h.at_ j x hj, hj⟩
theorem Place.lay {M : T → Option Nat} {L : List T} {i : Nat} {t : T} (h : Place M L i) (hn : L.Nodup) (ht : L[i]? = some t) : Full (upd M t i) L := by
  refine ⟨fun j x hj => ?_, fun x hx => ?_⟩
  · unfold upd
    split
    · rename_i e
      subst e
      have hi := (List.getElem?_eq_some_iff.1 ht).1
      have := nd_iff.1 hn
      rcases Nat.lt_trichotomy i j with hlt | e | hlt
      · exact absurd (ht.trans hj.symm) (this i j hlt (List.getElem?_eq_some_iff.1 hj).1)
      · rw [e]
      · exact absurd (hj.trans ht.symm) (this j i hlt hi)
    · rename_i hne
      refine h.at_ j x (fun e => ?_) hj
      subst e
      rw [ht] at hj
      exact hne (Option.some.inj hj).symm
  · unfold upd at hx
    split at hx
    · rename_i e; rw [e]; exact List.mem_of_getElem? ht
    · exact h.dom x hx

theorem nodup_ne {L : List T} (hn : L.Nodup) {i j : Nat} {x y : T} (hx : L[i]? = some x) (hy : L[j]? = some y) (h : i ≠ j) : x ≠ y := by
  intro e
  subst e
  have := nd_iff.1 hn
  rcases Nat.lt_or_gt_of_ne h with hlt | hlt
  · exact this i j hlt (List.getElem?_eq_some_iff.1 hy).1 (hx.trans hy.symm)
  · exact this j i hlt (List.getElem?_eq_some_iff.1 hx).1 (hy.trans hx.symm)

/-! ### Two places change their timers -/
def swap (L : List T) (i j : Nat) (p t : T) : List T := (L.set i p).set j t
theorem swap_length (L : List T) (i j : Nat) (p t : T) : (swap L i j p t).length = L.length := by simp [swap]
theorem swap_j {L : List T} {i j : Nat} {p t : T} (hj : j < L.length) : (swap L i j p t)[j]? = some t := by
  unfold swap; rw [List.getElem?_set_self]; simpa using hj
theorem swap_i {L : List T} {i j : Nat} {p t : T} (hi : i < L.length) (hne : i ≠ j) : (swap L i j p t)[i]? = some p := by
  unfold swap; rw [List.getElem?_set_ne (fun e => hne e.symm), List.getElem?_set_self hi]
theorem swap_other {L : List T} {i j k : Nat} {p t : T} (h1 : k ≠ i) (h2 : k ≠ j) : (swap L i j p t)[k]? = L[k]? := by
  unfold swap; rw [List.getElem?_set_ne (fun e => h2 e.symm), List.getElem?_set_ne (fun e => h1 e.symm)]
theorem swap_perm {L : List T} {i j : Nat} {p t : T} (hi : L[i]? = some t) (hj : L[j]? = some p) : (swap L i j p t).Perm L := by
  obtain ⟨h1, e1⟩ := List.getElem?_eq_some_iff.1 hi
  obtain ⟨h2, e2⟩ := List.getElem?_eq_some_iff.1 hj
  have := Array.swap_perm (xs := L.toArray) (i := i) (j := j) (by simpa using h1) (by simpa using h2)
  rw [Array.perm_iff_toList_perm] at this
  have e3 : (L.toArray.swap i j (by simpa using h1) (by simpa using h2)).toList = swap L i j p t := by
    simp [swap, e1, e2]
  rw [e3] at this
  simpa using this

/-! ### A timer goes up -/
structure UpI (L0 : List T) (i0 : Nat) (L : List T) (i : Nat) (t : T) (M : T → Option Nat) : Prop where
  perm : L.Perm L0
  at_ : L[i]? = some t
  hole : Hole L i
  kids : Kids L0 i0 → Kids L i
  place : Place M L i

theorem UpI.step {L0 : List T} {i0 : Nat} {L : List T} {i : Nat} {t p : T} {M : T → Option Nat} (h : UpI L0 i0 L i t M) (hn : L0.Nodup) (hi : 0 < i) (hp : L[(i - 1) / 2]? = some p) (hlt : lt t p) :
    UpI L0 i0 (swap L i ((i - 1) / 2) p t) ((i - 1) / 2) t (upd M p i) := by
  have hil := (List.getElem?_eq_some_iff.1 h.at_).1
  have hpl := (List.getElem?_eq_some_iff.1 hp).1
  have hne : i ≠ (i - 1) / 2 := by omega
  have hnL : L.Nodup := h.perm.nodup_iff.2 hn
  have si : (swap L i ((i - 1) / 2) p t)[i]? = some p := swap_i hil hne
  have sp : (swap L i ((i - 1) / 2) p t)[(i - 1) / 2]? = some t := swap_j hpl
  have so : ∀ k, k ≠ i → k ≠ (i - 1) / 2 → (swap L i ((i - 1) / 2) p t)[k]? = L[k]? := fun k h1 h2 => swap_other h1 h2
  refine ⟨(swap_perm h.at_ hp).trans h.perm, sp, ⟨fun j hj hjp hpp x y hx hy => ?_, fun hpos j hj hjp x y hx hy => ?_⟩, fun hk j hj hjp x y hx hy => ?_, ⟨fun j x hj hx => ?_, fun x hx => ?_⟩⟩
  · by_cases e : j = i
    · exact absurd (by rw [e]) hpp
    · rw [so j e hjp] at hx
      by_cases e2 : (j - 1) / 2 = i
      · rw [e2, si] at hy
        cases hy
        exact h.hole.over hi j hj e2 x p hx hp
      · rw [so _ e2 hpp] at hy
        exact h.hole.far j hj e e2 x y hx hy
  · have e3 : ((i - 1) / 2 - 1) / 2 ≠ i := by omega
    have e4 : ((i - 1) / 2 - 1) / 2 ≠ (i - 1) / 2 := by omega
    rw [so _ e3 e4] at hy
    have hpy : ¬ lt p y := h.hole.far _ hpos (fun e => hne e.symm) e3 p y hp hy
    by_cases e : j = i
    · rw [e, si] at hx
      cases hx
      exact hpy
    · rw [so j e (by omega)] at hx
      have : ¬ lt x p := h.hole.far j hj e (by omega) x p hx (by rw [hjp]; exact hp)
      exact le_trans hpy this
  · rw [hjp, sp] at hy
    cases hy
    by_cases e : j = i
    · rw [e, si] at hx
      cases hx
      exact lt_asymm hlt
    · rw [so j e (by omega)] at hx
      have : ¬ lt x p := h.hole.far j hj e (by omega) x p hx (by rw [hjp]; exact hp)
      exact le_trans (lt_asymm hlt) this
  · unfold upd
    by_cases e : j = i
    · rw [e, si] at hx
      cases hx
      rw [if_pos rfl, e]
    · rw [so j e hj] at hx
      rw [if_neg (nodup_ne hnL hx hp hj)]
      exact h.place.at_ j x e hx
  · rw [(swap_perm h.at_ hp).mem_iff]
    unfold upd at hx
    split at hx
    · rename_i e; rw [e]; exact List.mem_of_getElem? hp
    · exact h.place.dom x hx

/-! ### A timer goes down -/
structure DnI (L0 : List T) (L : List T) (i : Nat) (t : T) (M : T → Option Nat) : Prop where
  perm : L.Perm L0
  at_ : L[i]? = some t
  hole : Hole L i
  up : 0 < i → Edge L i
  place : Place M L i

/-- The least of a place and the kids that were looked at, up to k. -/
structure Best (L : List T) (i k b : Nat) (t : T) : Prop where
  cases_ : b = i ∨ (0 < b ∧ (b - 1) / 2 = i ∧ b < k ∧ ∃ x, L[b]? = some x ∧ lt x t)
  least : ∀ j x y, 0 < j → (j - 1) / 2 = i → j < k → L[j]? = some x → L[b]? = some y → ¬ lt x y

theorem Best.start {L : List T} {i : Nat} {t : T} : Best L i (2 * i + 1) i t :=
  ⟨.inl rfl, fun j x y hj hp hk _ _ => by omega⟩
theorem Best.next {L : List T} {i k b : Nat} {t x y : T} (h : Best L i k b t) (hL : L[i]? = some t) (hk : 2 * i + 1 ≤ k) (hk2 : k ≤ 2 * i + 2) (hx : L[k]? = some x) (hy : L[b]? = some y) :
    (lt x y → Best L i (k + 1) k t) ∧ (¬ lt x y → Best L i (k + 1) b t) := by
  have hpar : (k - 1) / 2 = i := by omega
  constructor
  · intro hlt
    refine ⟨.inr ⟨by omega, hpar, by omega, x, hx, ?_⟩, fun j z u hj hp hjk hz hu => ?_⟩
    · rcases h.cases_ with e | ⟨_, _, _, z, hz, hzt⟩
      · subst e
        rw [hL] at hy; cases hy
        exact hlt
      · rw [hz] at hy; cases hy
        exact lt_trans hlt hzt
    · rw [hx] at hu; cases hu
      by_cases e : j = k
      · subst e
        rw [hx] at hz; cases hz
        exact lt_irrefl _
      · exact le_trans (lt_asymm hlt) (h.least j z y hj hp (by omega) hz hy)
  · intro hnl
    refine ⟨?_, fun j z u hj hp hjk hz hu => ?_⟩
    · rcases h.cases_ with e | ⟨h1, h2, h3, h4⟩
      · exact .inl e
      · exact .inr ⟨h1, h2, by omega, h4⟩
    · by_cases e : j = k
      · subst e
        rw [hx] at hz; cases hz
        rw [hy] at hu; cases hu
        exact hnl
      · exact h.least j z u hj hp (by omega) hz hu

theorem Best.all {L : List T} {i k b : Nat} {t : T} (h : Best L i k b t) (hk : 2 * i + 3 ≤ k ∨ L.length ≤ k) {j : Nat} {x y : T} (hj : 0 < j) (hp : (j - 1) / 2 = i) (hx : L[j]? = some x) (hy : L[b]? = some y) : ¬ lt x y := by
  refine h.least j x y hj hp ?_ hx hy
  have := (List.getElem?_eq_some_iff.1 hx).1
  omega

theorem DnI.stop {L0 L : List T} {i k : Nat} {t : T} {M : T → Option Nat} (h : DnI L0 L i t M) (hb : Best L i k i t) (hk : 2 * i + 3 ≤ k ∨ L.length ≤ k) : Heap L := by
  intro j hj x y hx hy
  by_cases e : j = i
  · subst e; exact h.up hj x y hx hy
  · by_cases e2 : (j - 1) / 2 = i
    · rw [e2] at hy
      exact hb.all hk hj e2 hx hy
    · exact h.hole.far j hj e e2 x y hx hy

theorem DnI.step {L0 L : List T} {i b k : Nat} {t p : T} {M : T → Option Nat} (h : DnI L0 L i t M) (hn : L0.Nodup) (hb : Best L i k b t) (hk : 2 * i + 3 ≤ k ∨ L.length ≤ k) (hbi : b ≠ i) (hp : L[b]? = some p) :
    DnI L0 (swap L i b p t) b t (upd M p i) ∧ i < b := by
  obtain ⟨h1, h2, h3, x0, hx0, hlt⟩ := hb.cases_.resolve_left hbi
  rw [hp] at hx0; cases hx0
  have hil := (List.getElem?_eq_some_iff.1 h.at_).1
  have hbl := (List.getElem?_eq_some_iff.1 hp).1
  have hnL : L.Nodup := h.perm.nodup_iff.2 hn
  have si : (swap L i b p t)[i]? = some p := swap_i hil (fun e => hbi e.symm)
  have sb : (swap L i b p t)[b]? = some t := swap_j hbl
  have so : ∀ k, k ≠ i → k ≠ b → (swap L i b p t)[k]? = L[k]? := fun k h1 h2 => swap_other h1 h2
  refine ⟨⟨(swap_perm h.at_ hp).trans h.perm, sb, ⟨fun j hj hjb hpb x y hx hy => ?_, fun hpos j hj hjp x y hx hy => ?_⟩, fun hpos x y hx hy => ?_, ⟨fun j x hj hx => ?_, fun x hx => ?_⟩⟩, by omega⟩
  · by_cases e : j = i
    · subst e
      rw [si] at hx; cases hx
      rw [so _ (by omega) hpb] at hy
      exact h.hole.over hj b h1 h2 p y hp hy
    · rw [so j e hjb] at hx
      by_cases e2 : (j - 1) / 2 = i
      · rw [e2, si] at hy; cases hy
        exact hb.all hk hj e2 hx hp
      · rw [so _ e2 hpb] at hy
        exact h.hole.far j hj e e2 x y hx hy
  · rw [h2, si] at hy; cases hy
    rw [so j (by omega) (by omega)] at hx
    exact h.hole.far j hj (by omega) (by omega) x p hx (by rw [hjp]; exact hp)
  · rw [sb] at hx; cases hx
    rw [h2, si] at hy; cases hy
    exact lt_asymm hlt
  · unfold upd
    by_cases e : j = i
    · rw [e, si] at hx; cases hx
      rw [if_pos rfl, e]
    · rw [so j e hj] at hx
      rw [if_neg (nodup_ne hnL hx hp hj)]
      exact h.place.at_ j x e hx
  · rw [(swap_perm h.at_ hp).mem_iff]
    unfold upd at hx
    split at hx
    · rename_i e; rw [e]; exact List.mem_of_getElem? hp
    · exact h.place.dom x hx

/-! ### The root -/
theorem Heap.root {L : List T} (h : Heap L) {r : T} (hr : L[0]? = some r) : ∀ (j : Nat) (x : T), L[j]? = some x → ¬ lt x r := by
  intro j
  induction j using Nat.strongRecOn with
  | _ j ih =>
    intro x hx
    rcases Nat.eq_zero_or_pos j with e | hj
    · subst e
      rw [hr] at hx; cases hx
      exact lt_irrefl _
    · have hl := (List.getElem?_eq_some_iff.1 hx).1
      have hp : (j - 1) / 2 < L.length := by omega
      have hy := List.getElem?_eq_getElem hp
      exact le_trans (ih _ (by omega) _ hy) (h j hj x _ hx hy)

/-! ### One more; one less -/
theorem Heap.snoc {L : List T} {M : T → Option Nat} (h : Heap L) (hF : Full M L) (t : T) (ht : t ∉ L) :
    UpI (L ++ [t]) L.length (L ++ [t]) L.length t M ∧ Kids (L ++ [t]) L.length ∧ (L ++ [t]).Nodup := by
  have old : ∀ j, j < L.length → (L ++ [t])[j]? = L[j]? := fun j hj => List.getElem?_append_left hj
  have no : ∀ j x, (L ++ [t])[j]? = some x → j ≤ L.length := fun j x hx => by
    have := (List.getElem?_eq_some_iff.1 hx).1; simp at this; omega
  refine ⟨⟨List.Perm.refl _, by simp, ⟨fun j hj hne _ x y hx hy => ?_, fun hpos j hj hp x y hx hy => ?_⟩, fun h => h, ⟨fun j x hj hx => ?_, fun x hx => by simp [hF.dom x hx]⟩⟩, fun j hj hp x y hx hy => ?_, ?_⟩
  · have := no j x hx
    rw [old j (by omega)] at hx
    rw [old _ (by omega)] at hy
    exact h j hj x y hx hy
  · have := no j x hx; omega
  · have := no j x hx
    rw [old j (by omega)] at hx
    exact hF.at_ j x hx
  · have := no j x hx; omega
  · rw [List.nodup_append]
    exact ⟨hF.nodup, by simp, fun a ha b hb => by simp at hb; rw [hb]; exact fun e => ht (e ▸ ha)⟩

/-- The last is taken off, the timer that stood last is laid where the dropped one stood. -/
theorem drop_last {L : List T} {M : T → Option Nat} (hF : Full M L) {n : Nat} (hl : L.length = n + 1) {t : T} (ht : L[n]? = some t) : Full (cut M t) (L.take n) ∧ (L.take n).Perm (L.erase t) := by
  have hn := hF.nodup
  have e : L = L.take n ++ [t] := by
    rw [List.getElem?_eq_some_iff] at ht
    obtain ⟨h1, h2⟩ := ht
    rw [← h2, List.take_append_getElem, List.take_of_length_le (by omega)]
  have hnt : t ∉ L.take n := by
    intro hm
    rw [e, List.nodup_append] at hn
    exact hn.2.2 t hm t (by simp) rfl
  refine ⟨⟨fun j x hj => ?_, fun x hx => ?_⟩, ?_⟩
  · have hjn : j < n := by have := (List.getElem?_eq_some_iff.1 hj).1; simp at this; omega
    have hx : x ≠ t := fun e2 => hnt (e2 ▸ List.mem_of_getElem? hj)
    rw [List.getElem?_take_of_lt hjn] at hj
    unfold cut
    rw [if_neg hx]
    exact hF.at_ j x hj
  · unfold cut at hx
    split at hx
    · exact absurd rfl hx
    · rename_i hne
      have := hF.dom x hx
      rw [e] at this
      simp at this
      exact this.resolve_right hne
  · conv => rhs; rw [e]
    rw [List.erase_append_right _ hnt]
    simp
theorem heap_take {L : List T} (h : Heap L) (n : Nat) : Heap (L.take n) := by
  intro j hj x y hx hy
  have h1 := (List.getElem?_eq_some_iff.1 hx).1
  simp at h1
  rw [List.getElem?_take_of_lt (by omega)] at hx
  rw [List.getElem?_take_of_lt (by omega)] at hy
  exact h j hj x y hx hy

theorem drop_mid {L : List T} {M : T → Option Nat} (h : Heap L) (hF : Full M L) {n i : Nat} (hl : L.length = n + 1) {t x : T} (ht : L[i]? = some t) (hi : i < n) (hx : L[n]? = some x) :
    UpI ((L.set i x).take n) i ((L.set i x).take n) i x (upd (cut M t) x i) ∧ ((L.set i x).take n).Nodup ∧ ((L.set i x).take n).Perm (L.erase t) := by
  have hn := hF.nodup
  have hne : x ≠ t := nodup_ne hn hx ht (by omega)
  have hgi : ((L.set i x).take n)[i]? = some x := by rw [List.getElem?_take_of_lt hi, List.getElem?_set_self (by omega)]
  have hgo : ∀ j, j ≠ i → j < n → ((L.set i x).take n)[j]? = L[j]? := fun j hj hjn => by rw [List.getElem?_take_of_lt hjn, List.getElem?_set_ne (fun e => hj e.symm)]
  have hlt : ∀ j z, ((L.set i x).take n)[j]? = some z → j < n := fun j z hz => by
    have := (List.getElem?_eq_some_iff.1 hz).1; simp at this; omega
  have hperm : ((L.set i x).take n).Perm (L.erase t) := by
    have h1 := swap_perm hx ht
    have e1 : swap L n i t x = ((L.set i x).take n) ++ [t] := by
      apply List.ext_getElem?
      intro k
      by_cases e : k = i
      · subst e; rw [swap_j (by omega), List.getElem?_append_left (by simp; omega), hgi]
      · by_cases e2 : k = n
        · subst e2
          rw [swap_i (by omega) (by omega), List.getElem?_append_right (by simp; omega)]
          simp [hl]
        · rw [swap_other e2 e]
          by_cases hk : k < n
          · rw [List.getElem?_append_left (by simp; omega), hgo k e hk]
          · rw [List.getElem?_eq_none (by omega), List.getElem?_eq_none (by simp; omega)]
    rw [e1] at h1
    have h2 : (((L.set i x).take n) ++ [t]).Perm (t :: L.erase t) := h1.trans (List.perm_cons_erase (List.mem_of_getElem? ht))
    exact (List.perm_append_singleton t _).symm.trans h2 |>.cons_inv
  have hnod : ((L.set i x).take n).Nodup := hperm.nodup_iff.2 (hn.erase t)
  refine ⟨⟨List.Perm.refl _, hgi, ⟨fun j hj hji hpi y z hy hz => ?_, fun hpos j hj hp y z hy hz => ?_⟩, fun h => h, ⟨fun j y hj hy => ?_, fun y hy => ?_⟩⟩, hnod, hperm⟩
  · have := hlt j y hy
    rw [hgo j hji this] at hy
    rw [hgo _ hpi (by omega)] at hz
    exact h j hj y z hy hz
  · have := hlt j y hy
    rw [hgo j (by omega) this] at hy
    rw [hgo _ (by omega) (by omega)] at hz
    have hit := ht
    have h1 : ¬ lt y t := h j hj y t hy (by rw [hp]; exact ht)
    have h2 : ¬ lt t z := h i hpos t z ht hz
    exact le_trans h2 h1
  · have hjn := hlt j y hy
    rw [hgo j hj hjn] at hy
    unfold upd cut
    rw [if_neg (nodup_ne hn hy hx (by omega)), if_neg (nodup_ne hn hy ht hj)]
    exact hF.at_ j y hy
  · rw [hperm.mem_iff, hn.mem_erase_iff]
    unfold upd cut at hy
    split at hy
    · rename_i e; rw [e]; exact ⟨hne, List.mem_of_getElem? hx⟩
    · split at hy
      · exact absurd rfl hy
      · rename_i h2; exact ⟨h2, hF.dom y hy⟩

end Go.Tm
