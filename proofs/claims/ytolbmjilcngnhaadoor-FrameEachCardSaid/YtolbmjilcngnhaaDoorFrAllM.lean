/- Frames one behind the other: what is read is what was put. -/
import Derived.Test.YtolbmjilcngnhaaDoorFrSpM
set_option linter.unusedSimpArgs false
set_option linter.unusedVariables false
namespace Go.Frm
open Go

theorem lenP_inv : ∀ (r : List UInt8) (i acc N S : Nat), lenP i acc r = (N, S, 0) → ∃ n, N = acc + n * 128 ^ i ∧ (0 < i → 0 < n) ∧ N ≤ 268435456 ∧ ∀ f, 1 ≤ f → n < 128 ^ f → ∃ rest, r = numF f n ++ rest ∧ S = i + (numF f n).length
  | [], i, acc, N, S, h => by unfold lenP at h; simp at h
  | c :: r, i, acc, N, S, h => by
    unfold lenP at h
    have hc := c.toNat_lt
    split at h
    · rename_i h1
      split at h
      · simp at h
      · obtain ⟨n, e, hp, hN, hr⟩ := lenP_inv r (i + 1) _ N S h
        have hn := hp (by omega)
        refine ⟨c.toNat % 128 + 128 * n, ?_, fun _ => by omega, hN, fun f hf hlt => ?_⟩
        · rw [e, Nat.add_mul, Nat.pow_succ, Nat.mul_comm (128 ^ i) 128, ← Nat.mul_assoc, Nat.mul_comm n 128]
          omega
        · obtain ⟨f, rfl⟩ : ∃ k, f = k + 1 := ⟨f - 1, by omega⟩
          have hf2 : 1 ≤ f := by
            rcases Nat.eq_zero_or_pos f with h0 | h0
            · subst h0; simp at hlt; omega
            · exact h0
          obtain ⟨rest, hr1, hr2⟩ := hr f hf2 (by rw [Nat.pow_succ] at hlt; omega)
          rw [numF_next f _ (by omega)]
          have e1 : (c.toNat % 128 + 128 * n) % 128 + 128 = c.toNat := by omega
          have e2 : (c.toNat % 128 + 128 * n) / 128 = n := by omega
          rw [e1, e2]
          refine ⟨rest, ?_, ?_⟩
          · rw [hr1]; simp
          · rw [hr2]; simp; omega
    · rename_i h1
      split at h
      · simp at h
      · rename_i h2
        simp only [Prod.mk.injEq, and_true] at h
        refine ⟨c.toNat, ?_, fun hi => ?_, by omega, fun f hf hlt => ?_⟩
        · rw [← h.1, Nat.mod_eq_of_lt (by omega)]
        · omega
        · obtain ⟨f, rfl⟩ : ∃ k, f = k + 1 := ⟨f - 1, by omega⟩
          rw [numF_last f _ (by omega)]
          refine ⟨r, by simp, by simp; omega⟩

/-- What is read as a frame is a frame. -/
theorem look_inv (t : UInt8) (r : List UInt8) (f e : Nat) (h : look (t :: r) = (f, e, 0)) :
    ∃ body rest, t :: r = frame t body ++ rest ∧ body.length ≤ 268435456 ∧ ((t :: r).drop f).take (e - f) = body ∧ e + 4 = (frame t body).length ∧ body.length = e - f := by
  unfold look at h
  simp only at h
  obtain ⟨N, S, E, hP⟩ : ∃ N S E, lenP 0 0 r = (N, S, E) := ⟨_, _, _, rfl⟩
  rw [hP] at h
  simp only at h
  split at h
  · rename_i hE
    simp only [Prod.mk.injEq] at h
    exact absurd h.2.2 hE
  rename_i hE
  split at h
  · simp at h
  rename_i hlen
  split at h
  · simp at h
  rename_i hsum
  simp only [Prod.mk.injEq, and_true] at h
  obtain ⟨rfl, rfl⟩ := h
  have hE : E = 0 := Classical.byContradiction hE
  subst hE
  obtain ⟨n, e1, _, hN, hr⟩ := lenP_inv r 0 0 N S hP
  simp only [Nat.pow_zero, Nat.mul_one, Nat.zero_add] at e1
  subst e1
  obtain ⟨rest, hr1, hr2⟩ := hr 10 (by omega) (by omega)
  rw [Nat.zero_add] at hr2
  change r = numB N ++ rest at hr1
  change S = (numB N).length at hr2
  subst hr2
  have hsum := Classical.byContradiction hsum
  simp only [List.length_cons, hr1, List.length_append] at hlen
  have hrl : N + 4 ≤ rest.length := by omega
  have hd : (t :: r).drop (1 + (numB N).length) = rest := by
    rw [hr1, Nat.add_comm, List.drop_succ_cons, List.drop_left]
  have hd2 : (t :: r).drop (1 + (numB N).length + N) = rest.drop N := by rw [← List.drop_drop, hd]
  have ht2 : (t :: r).take (1 + (numB N).length + N) = t :: (numB N ++ rest.take N) := by
    rw [hr1, show 1 + (numB N).length + N = (numB N).length + N + 1 by omega, List.take_succ_cons, List.take_length_add_append]
  have hbl : (rest.take N).length = N := by rw [List.length_take]; omega
  refine ⟨rest.take N, rest.drop (N + 4), ?_, by omega, ?_, ?_, by omega⟩
  · rw [hd2, ht2] at hsum
    rw [frame, head, hbl, ← hsum, hr1]
    simp only [List.cons_append, List.append_assoc, List.cons.injEq, true_and, List.append_cancel_left_eq]
    rw [← List.drop_drop, List.take_append_drop, List.take_append_drop]
  · rw [hd]
    congr 1; omega
  · rw [frame_len, hbl]

/-- The bytes of a row of blocks. -/
def rowB (bs : List (UInt8 × List UInt8)) : List UInt8 := bs.flatMap fun x => frame x.1 x.2
theorem rowB_snoc (bs : List (UInt8 × List UInt8)) (x : UInt8 × List UInt8) : rowB (bs ++ [x]) = rowB bs ++ frame x.1 x.2 := by simp [rowB]
end Go.Frm
