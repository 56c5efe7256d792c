/- Rows of frames: what a row begins with, its blocks begin with. -/
import Derived.Test.YtolbmjilcngnhaaDoorFrAllM
set_option linter.unusedSimpArgs false
set_option linter.unusedVariables false
namespace Go.Frm
open Go

/-- A frame read back, whatever stands behind it. -/
theorem look_behind (t : UInt8) (l rest : List UInt8) (hn : l.length ≤ 268435456) : look (frame t l ++ rest) = (1 + (numB l.length).length, 1 + (numB l.length).length + l.length, 0) := by
  have h1 : lenP 0 0 (numB l.length ++ l ++ Crc.bytes4 (Crc.more 0#32 (head t l)) ++ rest) = (l.length, (numB l.length).length, 0) := by
    rw [List.append_assoc, List.append_assoc]; exact lenP_numB _ _ hn
  have hl : (head t l).length = 1 + (numB l.length).length + l.length := by simp [head]; omega
  have e : frame t l ++ rest = t :: (numB l.length ++ l ++ Crc.bytes4 (Crc.more 0#32 (head t l)) ++ rest) := by simp [frame, head]
  have e2 : frame t l ++ rest = head t l ++ (Crc.bytes4 (Crc.more 0#32 (head t l)) ++ rest) := by simp [frame]
  have hL : (frame t l ++ rest).length = 1 + (numB l.length).length + l.length + 4 + rest.length := by rw [List.length_append, frame_len]
  have hd : (frame t l ++ rest).drop (1 + (numB l.length).length + l.length) = Crc.bytes4 (Crc.more 0#32 (head t l)) ++ rest := by rw [e2, ← hl, List.drop_left]
  have ht : (frame t l ++ rest).take (1 + (numB l.length).length + l.length) = head t l := by rw [e2, ← hl, List.take_left]
  rw [e] at hL hd ht ⊢
  rw [look, h1]
  simp only [ne_eq, not_true_eq_false, if_false]
  rw [if_neg (by omega), hd, ht, if_neg]
  intro h
  exact h (List.take_left' (by simp [Crc.bytes4]))

theorem frame_inj {t u : UInt8} {l m r s : List UInt8} (hl : l.length ≤ 268435456) (hm : m.length ≤ 268435456) (h : frame t l ++ r = frame u m ++ s) : t = u ∧ l = m ∧ r = s := by
  have h1 := look_behind t l r hl
  have h2 := look_behind u m s hm
  rw [h, h2] at h1
  simp only [Prod.mk.injEq, and_true] at h1
  have ht : t = u := by
    have : (frame t l ++ r).head? = (frame u m ++ s).head? := by rw [h]
    simpa [frame, head] using this
  subst ht
  have hlen : m.length = l.length := by omega
  have hfl : (frame t l).length = (frame t m).length := by rw [frame_len, frame_len, hlen]
  obtain ⟨e1, e2⟩ := List.append_inj h hfl
  refine ⟨rfl, ?_, e2⟩
  unfold frame head at e1
  rw [hlen] at e1
  simp only [List.cons_append, List.cons.injEq, true_and, List.append_assoc, List.append_cancel_left_eq] at e1
  exact (List.append_inj e1 hlen.symm).1

theorem rowB_body (bs : List (UInt8 × List UInt8)) (x : UInt8 × List UInt8) (h : x ∈ bs) : x.2.length ≤ (rowB bs).length := by
  induction bs with
  | nil => cases h
  | cons y bs ih =>
    have e : rowB (y :: bs) = frame y.1 y.2 ++ rowB bs := by simp [rowB]
    rw [e, List.length_append, frame_len]
    rcases List.mem_cons.1 h with rfl | h
    · omega
    · have := ih h; omega

/-- What a row of blocks begins with. -/
theorem rowB_prefix : ∀ (bs cs : List (UInt8 × List UInt8)) (R : List UInt8), (∀ x ∈ bs, x.2.length ≤ 268435456) → (∀ x ∈ cs, x.2.length ≤ 268435456) → rowB cs = rowB bs ++ R → ∃ ds, cs = bs ++ ds ∧ R = rowB ds
  | [], cs, R, _, _, h => ⟨cs, rfl, by rw [h]; simp [rowB]⟩
  | x :: bs, cs, R, h1, h2, h => by
    have e : rowB (x :: bs) = frame x.1 x.2 ++ rowB bs := by simp [rowB]
    rw [e, List.append_assoc] at h
    cases cs with
    | nil =>
      exfalso
      have := congrArg List.length h
      rw [List.length_append, frame_len] at this
      simp [rowB] at this
      omega
    | cons y cs =>
      have e2 : rowB (y :: cs) = frame y.1 y.2 ++ rowB cs := by simp [rowB]
      rw [e2] at h
      obtain ⟨a1, a2, a3⟩ := frame_inj (h2 y List.mem_cons_self) (h1 x List.mem_cons_self) h
      obtain ⟨ds, hd1, hd2⟩ := rowB_prefix bs cs R (fun z hz => h1 z (List.mem_cons_of_mem _ hz)) (fun z hz => h2 z (List.mem_cons_of_mem _ hz)) a3
      refine ⟨ds, ?_, hd2⟩
      rw [hd1]
      have : y = x := Prod.ext a1 a2
      rw [this]; rfl
/-- A row is read whole. -/
theorem rowB_same {bs cs : List (UInt8 × List UInt8)} (hn : (rowB cs).length ≤ 268435456) (h : rowB bs = rowB cs) : bs = cs := by
  obtain ⟨ds, h1, h2⟩ := rowB_prefix bs cs [] (fun x hx => by have := rowB_body bs x hx; rw [h] at this; omega) (fun x hx => by have := rowB_body cs x hx; omega) (by rw [h]; simp)
  cases ds with
  | nil => rw [h1]; simp
  | cons y ds =>
    exfalso
    have := congrArg List.length h2
    simp only [rowB, List.flatMap_cons, List.length_append, List.length_nil] at this
    rw [frame_len] at this
    omega
/-- No frame of a row is wrong. -/
theorem rowB_no_err {bs cs : List (UInt8 × List UInt8)} {at_ f e s : Nat} (hn : (rowB cs).length ≤ 268435456) (h : rowB bs = (rowB cs).take at_) (hat : at_ < (rowB cs).length) (hlk : look ((rowB cs).drop at_) = (f, e, s)) : s = 0 := by
  have hl : (rowB bs).length = at_ := by rw [h, List.length_take]; omega
  obtain ⟨ds, h1, h2⟩ := rowB_prefix bs cs ((rowB cs).drop at_) (fun x hx => by have := rowB_body bs x hx; omega) (fun x hx => by have := rowB_body cs x hx; omega) (by rw [h, List.take_append_drop])
  cases ds with
  | nil =>
    exfalso
    have := congrArg List.length h2
    rw [List.length_drop] at this
    have h0 : (rowB []).length = 0 := rfl
    omega
  | cons y ds =>
    have hy : y.2.length ≤ 268435456 := by have := rowB_body cs y (by rw [h1]; simp); omega
    rw [h2, show rowB (y :: ds) = frame y.1 y.2 ++ rowB ds by simp [rowB], look_behind y.1 y.2 _ hy] at hlk
    simp only [Prod.mk.injEq] at hlk
    exact hlk.2.2.symm
end Go.Frm
