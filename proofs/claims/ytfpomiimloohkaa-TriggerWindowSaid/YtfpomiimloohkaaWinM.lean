/- TriggerWindow: what the windows and the panes are, value by value (no program). -/
import Derived.Test.YtfpomiimloohkaaEvents
set_option linter.unusedSimpArgs false
set_option linter.unusedVariables false
namespace Go.Proofs.Ytfpomiimloohkaa
open Go.RowKit Go.Kp

theorem hit_c {y : Win} {v t m : Int} (h0 : 0 ≤ y.c) (h1 : y.c ≤ 5000) : (hit y v t m).c = y.c + 1 := by
  unfold hit add
  simp only
  split
  · simp only; omega
  · simp only [more]; split <;> omega
theorem hit_si {y : Win} {v t m : Int} (h0 : 0 ≤ y.si) : 1 ≤ (hit y v t m).si := by
  simp only [hit, more]; split <;> omega
theorem told_ok {y : Win} {di : Bool} (h : y.ok) : (told y di).ok := by
  obtain ⟨a, b, c, d, e, f, g, i, j⟩ := h
  have := more_bd y.pa j.1
  cases di <;> (unfold told Win.ok; simp; omega)
theorem eventW_ok {c : Conf} {y : Win} {v t m : Int} (h : y.ok) (h1 : I64 v) (h2 : I64 t) (h3 : I64 m) : (eventW c y v t m).ok := by
  unfold eventW
  split
  · exact told_ok (hit_ok y v t m h h1 h2 h3)
  · exact hit_ok y v t m h h1 h2 h3

/-- The sum of the panes' counts. -/
def cnt (l : List Pn) : Int := (l.map (·.c)).sum
theorem cnt_append (l r : List Pn) : cnt (l ++ r) = cnt l + cnt r := by simp [cnt]
theorem cnt_one (p : Pn) : cnt [p] = p.c := by simp [cnt]

/-- Behind k values. -/
structure Went (c : Conf) (key : ByteArray) (s e : Int) (k : Nat) (y : Win) (l : List Pn) : Prop where
  ys : y.s = s
  ye : y.e = e
  ok : y.ok
  si : 0 ≤ y.si
  pa : y.pa = l.length
  len : l.length ≤ k
  y0 : 0 ≤ y.c
  yk : y.c ≤ k
  each : ∀ (j : Nat) p, l[j]? = some p → p.pa = j ∧ 0 ≤ p.c ∧ p.c ≤ k
  all : if c.di = true then cnt l + y.c = k else y.c = k ∧ ∀ (j : Nat) p q, l[j]? = some p → l[j + 1]? = some q → p.c < q.c

theorem went0 (c : Conf) (key : ByteArray) (s e : Int) (h1 : I64 s) (h2 : I64 e) : Went c key s e 0 ⟨s, e, 4611686018427387904, 0, 0, 0, 0, 0, 0⟩ [] where
  ys := rfl
  ye := rfl
  ok := by unfold I64 at h1 h2; unfold Win.ok; simp; omega
  si := by simp
  pa := rfl
  len := by simp
  y0 := by simp
  yk := by simp
  each := by simp
  all := by split <;> simp [cnt]

theorem went_next {c : Conf} {key : ByteArray} {s e : Int} {k : Nat} {y : Win} {l : List Pn} (h : Went c key s e k y l) (hk : k < 5000) {v t m : Int} (h1 : I64 v) (h2 : I64 t) (h3 : I64 m) :
    Went c key s e (k + 1) (eventW c y v t m) (l ++ eventL c key y v t m) := by
  have hc := hit_c (v := v) (t := t) (m := m) h.y0 (by have := h.yk; omega)
  have hs := hit_si (v := v) (t := t) (m := m) h.si
  have y0 := h.y0
  have yk := h.yk
  have hok := eventW_ok (c := c) h.ok h1 h2 h3
  have hpa : (hit y v t m).pa = l.length := h.pa
  by_cases hb : (behind c (hit y v t m) m).2 = true
  · have eW : eventW c y v t m = told (hit y v t m) c.di := if_pos hb
    have eL : eventL c key y v t m = [⟨key, (hit y v t m).s, (hit y v t m).e, (behind c (hit y v t m) m).1, (hit y v t m).pa, (hit y v t m).c, (hit y v t m).su, (hit y v t m).mi, (hit y v t m).ma⟩] := if_pos hb
    rw [eW] at hok ⊢
    rw [eL]
    have hmore : more (hit y v t m).pa = l.length + 1 := by
      have := h.len
      rw [hpa]; unfold more; split <;> omega
    refine ⟨h.ys, h.ye, hok, by simp [told], by simp only [told, hmore]; simp, by have := h.len; simp; omega, ?_, ?_, ?_, ?_⟩
    · simp only [told]; split <;> omega
    · simp only [told]; split <;> omega
    · intro j p hp
      rcases Nat.lt_or_ge j l.length with hj | hj
      · rw [List.getElem?_append_left hj] at hp
        obtain ⟨q1, q2, q3⟩ := h.each j p hp
        exact ⟨q1, q2, by omega⟩
      · rw [List.getElem?_append_right hj] at hp
        have hj0 : j - l.length = 0 := by
          rcases Nat.eq_zero_or_pos (j - l.length) with h | h
          · exact h
          · rw [List.getElem?_eq_none (by simp; omega)] at hp; cases hp
        rw [hj0] at hp
        cases hp
        refine ⟨?_, ?_, ?_⟩
        · simp only [hpa]; omega
        · simp only [hc]; omega
        · simp only [hc]; omega
    · have hall := h.all
      by_cases hd : c.di = true
      · rw [if_pos hd] at hall ⊢
        rw [cnt_append, cnt_one]
        simp only [told, hd, if_true, hc]
        omega
      · rw [if_neg hd] at hall ⊢
        refine ⟨?_, ?_⟩
        · simp only [told, hd]
          simp only [hc]
          simp
          omega
        · intro j p q hp hq
          have hj : j + 1 < l.length + 1 := by
            have := (List.getElem?_eq_some_iff.1 hq).1
            simpa using this
          rw [List.getElem?_append_left (by omega)] at hp
          rcases Nat.lt_or_ge (j + 1) l.length with hj2 | hj2
          · rw [List.getElem?_append_left hj2] at hq
            exact hall.2 j p q hp hq
          · rw [List.getElem?_append_right hj2] at hq
            have hj0 : j + 1 - l.length = 0 := by omega
            rw [hj0] at hq
            cases hq
            have := (h.each j p hp).2.2
            simp only [hc]
            omega
  · have eW : eventW c y v t m = hit y v t m := if_neg hb
    have eL : eventL c key y v t m = [] := if_neg hb
    rw [eW] at hok ⊢
    rw [eL, List.append_nil]
    refine ⟨h.ys, h.ye, hok, by omega, hpa, by have := h.len; omega, by omega, by omega, ?_, ?_⟩
    · intro j p hp
      obtain ⟨q1, q2, q3⟩ := h.each j p hp
      exact ⟨q1, q2, by omega⟩
    · have hall := h.all
      by_cases hd : c.di = true
      · rw [if_pos hd] at hall ⊢
        omega
      · rw [if_neg hd] at hall ⊢
        exact ⟨by omega, hall.2⟩

/-- What the law asks of each answer. -/
theorem eventL_each {c : Conf} {key : ByteArray} {y : Win} {v t m : Int} {j : Nat} {p : Pn} (h : (eventL c key y v t m)[j]? = some p) : p.key = key ∧ p.s = y.s ∧ p.e = y.e := by
  unfold eventL at h
  split at h
  · match j, h with
    | 0, h => cases h; exact ⟨rfl, rfl, rfl⟩
    | n + 1, h => simp at h
  · simp at h
theorem eventW_s (c : Conf) (y : Win) (v t m : Int) : (eventW c y v t m).s = y.s := by unfold eventW; split <;> rfl
theorem eventW_e (c : Conf) (y : Win) (v t m : Int) : (eventW c y v t m).e = y.e := by unfold eventW; split <;> rfl
theorem again {c : Conf} {y : Win} {v t m : Int} (h : 0 ≤ c.ea) : (behind c (eventW c y v t m) m).2 = decide (y.e ≤ m) := by
  have hx : ∀ z : Win, z.e = y.e → z.si = 0 → (behind c z m).2 = decide (y.e ≤ m) := fun z hz hsi => by
    unfold behind
    rw [hz, hsi]
    by_cases h1 : y.e ≤ m
    · simp [h1]
    · rw [if_neg h1, if_neg (by simp; omega)]
      simp; omega
  by_cases hb : (behind c (hit y v t m) m).2 = true
  · rw [show eventW c y v t m = told (hit y v t m) c.di from if_pos hb]
    exact hx _ rfl rfl
  · rw [show eventW c y v t m = hit y v t m from if_neg hb]
    have h1 : ¬ y.e ≤ m := fun h1 => hb (by unfold behind; rw [if_pos (show (hit y v t m).e ≤ m from h1)])
    rw [show (behind c (hit y v t m) m).2 = false by simpa using hb]
    simp; omega

/-- The counts, summed up to one of them. -/
theorem cnt_bound {l : List Pn} {k : Nat} (h : ∀ (j : Nat) p, l[j]? = some p → 0 ≤ p.c ∧ p.c ≤ (k : Int)) : ∀ n : Nat, n ≤ l.length → 0 ≤ cnt (l.take n) ∧ cnt (l.take n) ≤ (n : Int) * k := by
  intro n
  induction n with
  | zero => intro _; simp [cnt]
  | succ n ih =>
    intro hn
    obtain ⟨i1, i2⟩ := ih (by omega)
    obtain ⟨p, hp⟩ : ∃ p, l[n]? = some p := ⟨_, List.getElem?_eq_getElem (by omega)⟩
    rw [List.take_add_one, hp, cnt_append]
    simp only [Option.toList_some, cnt_one]
    obtain ⟨p1, p2⟩ := h n p hp
    refine ⟨by omega, ?_⟩
    have : ((n + 1 : Nat) : Int) * k = (n : Int) * k + k := by rw [Int.natCast_succ, Int.add_mul]; simp
    omega
theorem cnt_step {l : List Pn} {n : Nat} {p : Pn} (hp : l[n]? = some p) : cnt (l.take (n + 1)) = cnt (l.take n) + p.c := by
  rw [List.take_add_one, hp, cnt_append]; simp [cnt_one]
end Go.Proofs.Ytfpomiimloohkaa
