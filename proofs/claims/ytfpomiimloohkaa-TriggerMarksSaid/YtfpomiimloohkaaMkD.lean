/- A mark: the document's; rows of windows that are written over. -/
import Derived.Test.YtfpomiimloohkaaMkC
set_option linter.unusedSimpArgs false
set_option linter.unusedVariables false
namespace Go.Proofs.Ytfpomiimloohkaa
open Go.RowKit Go.Kp Go.So

/-- A row of windows in a block. -/
def RowW (w : World) (g N : Nat) (d : Nat → Win) : Prop := ∃ cs, Blk w g 30 cs ∧ (∀ i, i < N → ∀ j, j < 9 → cs[i * 9 + j]? = (d i).cl[j]?) ∧ True
theorem RowW.cell {w : World} {g N : Nat} {d : Nat → Win} (h : RowW w g N d) {i : Nat} (hi : i < N) {j : Nat} (hj : j < 9) : w.cell? ⟨g, i * 9 + j, none⟩ = (d i).cl[j]? := by
  obtain ⟨cs, h1, h2, _⟩ := h
  exact (h1.cell _).trans (h2 i hi j hj)
theorem RowW.free {w : World} {g N : Nat} {d : Nat → Win} (h : RowW w g N d) (j : Nat) : w.frozen? ⟨g, j, none⟩ = false := by
  obtain ⟨cs, h1, _⟩ := h
  exact h1.free j
theorem RowW.lt {w : World} {g N : Nat} {d : Nat → Win} (h : RowW w g N d) : g < w.heap.size := by
  obtain ⟨cs, h1, _⟩ := h
  exact h1.lt
theorem RowW.below {w w' : World} {g N : Nat} {d : Nat → Win} (h : RowW w g N d) (hb : Below w.heap.size w w') : RowW w' g N d := by
  obtain ⟨cs, h1, h2⟩ := h
  exact ⟨cs, h1.below hb, h2⟩
theorem RowW.drew {w : World} {g N : Nat} {d : Nat → Win} (h : RowW w g N d) : RowW w.drew g N d := h
/-- One window is written over. -/
abbrev putWi (w : World) (g x : Nat) (p : Win) : World := ((((((((w.setCell ⟨g, x * 9, none⟩ (.int .i64 p.s)).setCell ⟨g, x * 9 + 1, none⟩ (.int .i64 p.e)).setCell ⟨g, x * 9 + 2, none⟩ (.int .i64 p.h)).setCell ⟨g, x * 9 + 3, none⟩ (.int .i64 p.c)).setCell ⟨g, x * 9 + 4, none⟩ (.int .i64 p.su)).setCell ⟨g, x * 9 + 5, none⟩ (.int .i64 p.mi)).setCell ⟨g, x * 9 + 6, none⟩ (.int .i64 p.ma)).setCell ⟨g, x * 9 + 7, none⟩ (.int .i64 p.si)).setCell ⟨g, x * 9 + 8, none⟩ (.int .i64 p.pa)
theorem RowW.put {w : World} {g N : Nat} {d : Nat → Win} (h : RowW w g N d) {x : Nat} (hx : x < N) (p : Win) : RowW (putWi w g x p) g N (fun t => if t = x then p else d t) := by
  obtain ⟨cs, h1, h2, h3⟩ := h
  refine ⟨((((((((cs.setIfInBounds (x * 9) (.int .i64 p.s)).setIfInBounds (x * 9 + 1) (.int .i64 p.e)).setIfInBounds (x * 9 + 2) (.int .i64 p.h)).setIfInBounds (x * 9 + 3) (.int .i64 p.c)).setIfInBounds (x * 9 + 4) (.int .i64 p.su)).setIfInBounds (x * 9 + 5) (.int .i64 p.mi)).setIfInBounds (x * 9 + 6) (.int .i64 p.ma)).setIfInBounds (x * 9 + 7) (.int .i64 p.si)).setIfInBounds (x * 9 + 8) (.int .i64 p.pa), ?_, fun i hi j hj => ?_, trivial⟩
  · unfold Blk at h1 ⊢
    simp only [putWi, heap_set_same, h1, Option.map_some, putO_cells]
  · have hb : ∀ j, j < 9 → x * 9 + j < cs.size := fun j hj => by
      have h3 := h2 x hx j hj
      have h4 : (d x).cl[j]? ≠ none := by
        rw [List.getElem?_eq_getElem (show j < (d x).cl.length from hj)]; exact fun h => by cases h
      rw [← h3] at h4
      exact Nat.lt_of_not_le fun h5 => h4 (Array.getElem?_eq_none h5)
    have b8 := hb 8 (by omega)
    dsimp only
    by_cases e : i = x
    · subst e
      rw [if_pos rfl]
      have h9 : j = 0 ∨ j = 1 ∨ j = 2 ∨ j = 3 ∨ j = 4 ∨ j = 5 ∨ j = 6 ∨ j = 7 ∨ j = 8 := by omega
      rcases h9 with rfl | rfl | rfl | rfl | rfl | rfl | rfl | rfl | rfl <;>
        simp (disch := (first | omega | (simp only [Array.size_setIfInBounds] <;> omega))) [Array.getElem?_setIfInBounds, Win.cl] <;> omega
    · rw [if_neg e, ← h2 i hi j hj]
      have ne : ∀ q, q < 9 → i * 9 + j ≠ x * 9 + q := fun q hq => by omega
      rw [Array.getElem?_setIfInBounds_ne (ne 8 (by omega)).symm, Array.getElem?_setIfInBounds_ne (ne 7 (by omega)).symm, Array.getElem?_setIfInBounds_ne (ne 6 (by omega)).symm, Array.getElem?_setIfInBounds_ne (ne 5 (by omega)).symm, Array.getElem?_setIfInBounds_ne (ne 4 (by omega)).symm, Array.getElem?_setIfInBounds_ne (ne 3 (by omega)).symm, Array.getElem?_setIfInBounds_ne (ne 2 (by omega)).symm, Array.getElem?_setIfInBounds_ne (ne 1 (by omega)).symm, Array.getElem?_setIfInBounds_ne (show x * 9 ≠ i * 9 + j by omega)]
theorem putWi_keep {w : World} {g x : Nat} {p : Win} : Keep (fun b => b ≠ g) w (putWi w g x p) := by
  unfold putWi
  repeat (refine Keep.setCell ?_ (fun h => h rfl) _)
  exact Keep.refl _ _
theorem putWi_fr {w : World} {g x : Nat} {p : Win} : Fr (fun b => b = g) w (putWi w g x p) := by
  unfold putWi
  repeat (refine Fr.set ?_ _ rfl)
  exact Fr.refl _ _

theorem roww_of_own {w : World} {B g n cap : Nat} {L : List Win} (h : w.ownsRow B 30 9 (.slice (some ⟨g, 0, none⟩) n cap) n (L.flatMap Win.cl)) (hl : L.length = n) :
    ∃ d, RowW w g n d ∧ ∀ (i : Nat) x, L[i]? = some x → d i = x := by
  have hcell := h.cellAt
  rcases h.2 with ⟨h1, _⟩ | ⟨g', cap', cur, h1, h2, h3, h4, h5, h6, h7⟩
  · cases h1
  cases h1
  refine ⟨fun i => (L[i]?).getD Win.zero, ⟨cur, h3, fun i hi j hj => ?_, trivial⟩, fun i x hx => by dsimp only; rw [hx]; rfl⟩
  have hb : Blk w g 30 cur := h3
  have hx : L[i]? = some (L[i]'(by omega)) := List.getElem?_eq_getElem _
  rw [← hb.cell, hcell _ (by omega)]
  dsimp only
  rw [hx]
  exact flat_get Win.cl 9 Win.len L i j _ hx hj
theorem own_apart2 {w : World} {B B' : Nat} {e e' : TypeId} {size size' : Nat} {v v' : Value} {n n' : Nat} {xs xs' : List Value} (h : w.ownsRow B e size v n xs) (h' : w.ownsRow B' e' size' v' n' xs') (ht : e' ≠ e) : v.ownBlock = none ∨ v.ownBlock ≠ v'.ownBlock := by
  rcases h'.2 with ⟨h1, _⟩ | ⟨g1, c1, cur1, h1, _, h2, _⟩
  · subst h1
    cases hv : v.ownBlock with
    | none => exact .inl rfl
    | some g => exact .inr (by simp [Value.ownBlock])
  · subst h1
    exact .inr (own_apart h (show Blk w g1 e' cur1 from h2) ht)
/-- What is told, one pane more. -/
theorem Ordered.snoc {P Q : List Pa} {d1 d2 : Nat → Pa} {m j : Nat} (h : Ordered P Q) (hm : P.length = m) (hs : seg d1 0 (m + 1) = P ++ [d1 m]) (hjm : j ≤ m) (hr : Rot d1 d2 j m (m + 1)) (hlo : ∀ h, h < j → (d1 h).e ≤ (d1 m).e) (hhi : ∀ h, j ≤ h → h < m → (d1 m).e < (d1 h).e) :
    Ordered (seg d2 0 (m + 1)) (Q ++ [d1 m]) := by
  have hP : seg d1 0 m = P := by
    have e := seg_append (d := d1) (Nat.zero_le m) (Nat.le_succ m)
    rw [show m.succ = m + 1 from rfl, hs, seg_one] at e
    exact (List.append_inj_left' e rfl).symm
  have hU : Up Pa.e d1 0 m := by
    intro a b _ hab hb
    have hp := h.1
    rw [← hP, List.pairwise_iff_getElem] at hp
    rcases Nat.eq_or_lt_of_le hab with e | hlt
    · rw [e]; exact Int.le_refl _
    · have := hp a b (by rw [seg_len]; omega) (by rw [seg_len]; omega) hlt
      simpa [seg] using this
  obtain ⟨k1, k2⟩ := one_right (Nat.zero_le j) hjm hU (fun q _ hq => hlo q hq) hhi hr
  refine ⟨k1.pair, fun q => ?_⟩
  rw [k2.fil q, hs, List.filter_append, List.filter_append, h.2 q]
end Go.Proofs.Ytfpomiimloohkaa
