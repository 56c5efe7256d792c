/- Panes by windows: the last pane of each window. -/
import Derived.Test.YtbkofiflfcfjfaaSqP
import Derived.Test.YtbkofiflfcfjfaaAppR
import Derived.Deep.Cut
set_option linter.unusedSimpArgs false
set_option linter.unusedVariables false
namespace Go.Proofs.Ytbkofiflfcfjfaa.Px
open Go.RowKit Go.Kp Go.St Go.Shelf
attribute [local go_sem] Oper.semAt_some

abbrev Pn.cl (v : Pn) : List Value := [.string v.key, .int .i64 v.s, .int .i64 v.e, .int .i64 v.kind, .int .i64 v.nth, .int .i64 v.count, .int .i64 v.sum, .int .i64 v.min, .int .i64 v.max]
theorem Pn.cl_len (v : Pn) : v.cl.length = 9 := rfl
theorem pn_at {w : World} {b off : Nat} {l : List Pn} (hc : ∀ (j : Nat) u, (l.flatMap Pn.cl)[j]? = some u → w.cell? ⟨b, off + j, none⟩ = some u) : ∀ k x, l[k]? = some x → ∀ j, j < 9 → w.cell? ⟨b, off + (k * 9 + j), none⟩ = x.cl[j]? := fun k x hx j hj => by
  have h1 := flat_get Pn.cl 9 Pn.cl_len l k j x hx hj
  have h2 : x.cl[j]? = some (x.cl[j]'(by simpa using hj)) := List.getElem?_eq_getElem _
  rw [h2] at h1 ⊢
  exact hc _ _ h1
theorem Pn.one {l : List Pn} : ∀ u ∈ l.flatMap Pn.cl, u.oneCell' = true := fun u hu => by
  obtain ⟨z, _, hz⟩ := List.mem_flatMap.1 hu
  simp [Pn.cl] at hz
  rcases hz with h | h | h | h | h | h | h | h | h <;> subst h <;> rfl
/-- The window of a pane. -/
abbrev Pn.at (v : Pn) : At := ⟨v.key, v.s, v.e⟩
/-- The last pane of each window, by windows. -/
def putsL (L : List Pn) : List (At × Pn) := L.foldl (fun m p => putL cA p.at p m) []
def putsT (L : List Pn) : Tr := L.foldl (fun m p => put cA p.at p m) .nil
theorem putsT_snoc (L : List Pn) (p : Pn) : putsT (L ++ [p]) = put cA p.at p (putsT L) := by unfold putsT; rw [List.foldl_append]; rfl
theorem putsL_snoc (L : List Pn) (p : Pn) : putsL (L ++ [p]) = putL cA p.at p (putsL L) := by unfold putsL; rw [List.foldl_append]; rfl
theorem snoc_ind {α : Type} {P : List α → Prop} (h0 : P []) (h1 : ∀ l x, P l → P (l ++ [x])) (l : List α) : P l := by
  have h : ∀ r : List α, P r.reverse := fun r => by
    induction r with
    | nil => exact h0
    | cons x r ih => rw [List.reverse_cons]; exact h1 _ _ ih
  have := h l.reverse
  rwa [List.reverse_reverse] at this
theorem puts_both (L : List Pn) : Sorted cA (putsT L).toL ∧ (putsT L).toL = putsL L ∧ (putsT L).many ≤ L.length := by
  refine snoc_ind (P := fun L => Sorted cA (putsT L).toL ∧ (putsT L).toL = putsL L ∧ (putsT L).many ≤ L.length) ⟨List.Pairwise.nil, rfl, Nat.le_refl _⟩ (fun l x h => ?_) L
  obtain ⟨h1, h2, h3⟩ := h
  have h4 := toL_put (key := x.at) (val := x) cA_ord (putsT l) h1
  rw [putsT_snoc, putsL_snoc]
  refine ⟨?_, by rw [h4, h2], ?_⟩
  · rw [h4]; exact sorted_putL cA_ord h1
  · have := many_put cA x.at x (putsT l)
    simp only [List.length_append, List.length_cons, List.length_nil]
    omega
theorem infoP : (Try.prog.info? 92).map (fun i => (i.zero, i.size, i.bytes)) = some (some (.agg #[.string .empty, .int .i64 0, .int .i64 0, .int .i64 0, .int .i64 0, .int .i64 0, .int .i64 0, .int .i64 0, .int .i64 0]), 9, 80) := by kernel_rfl
/-- append of one pane, in the body of a loop over a walk. -/
theorem push_pane {m l : Nat} {w : World} {ops : Array Oper} {rest : List Oper} {o : Oper} {a : Act} {Q : Exit → Act → World → Prop} (hgd : o.guard = none) (s x : Operand)
    (ho : o.op = .call { callee := .builtin .append, args := #[s, x], argTypes := #[85, 85] })
    (base : Nat) (v : Value) (n : Nat) (xs : List Value) (hs : a.eval s = v) (hown : w.ownsRow base 92 9 v n xs)
    (g c : Nat) (p : Pn) (hx : a.eval x = .slice (some ⟨g, 0, none⟩) 1 c) (hb : Blk w g 92 (valC p)) (hn : n + 1 ≤ 1000) (hbase : base ≤ w.heap.size)
    (h : ∀ v' w', w'.ownsRow base 92 9 v' (n + 1) (xs ++ p.cl) → w.grownBy w' v.ownBlock → (v'.ownBlock = v.ownBlock ∨ v'.ownBlock = some w.heap.size) → wpListIn (Fence.wide.inRound l) m Try.prog ops Q rest (a.put o.dst v') w') :
    wpListIn (Fence.wide.inRound l) m Try.prog ops Q (o :: rest) a w := by
  refine wpListIn_plain hgd fun K hK => ?_
  obtain ⟨i0, hi, hz0, hz1, hz2⟩ := info_parts infoP
  obtain ⟨v', w', hr, h2, h3, h4, h5⟩ := run_append_own_at (P := Try.prog) w base 85 o.type 92 i0 _ 9 80 Try.underlying85 hi hz0 hz1 hz2 rfl (by omega) v n xs hown ⟨g, 0, none⟩ 1 c p.cl rfl
    (fun j u hu => by
      rw [Go.WideShapes.add_plain, Nat.zero_add]
      exact (hb.cell j).trans (by simpa using hu)) (fun u hu => Pn.one (l := [p]) u (by simpa using hu)) (by unfold maxLen; omega) (by omega) hbase
  refine oper_round l m (fun c h => by rw [ho] at h; cases h) ?_
  unfold Oper.wp execOp
  simp only [ho, resolve, invoke, builtin, Sem.run_bind, Sem.run_pure, Result.andThen_ok, List.map_toArray, List.map_cons, List.map_nil, hs, hx, hr]
  exact hK _ _ (h v' w' h2 h3 h5)
theorem wk_nil (lb : Array Value) (w : World) : (binOp .eql 120 (.func (.func 68) #[] lb) .nilFunc).run Try.prog w = .ok (.bool false) w := by kernel_rfl
end Go.Proofs.Ytbkofiflfcfjfaa.Px
