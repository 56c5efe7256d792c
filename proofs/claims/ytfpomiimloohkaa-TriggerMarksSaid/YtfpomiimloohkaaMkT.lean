/- TriggerMarks: windows in new memory; what stays while two rows are spoilt. -/
import Derived.Test.YtfpomiimloohkaaMkS
import Derived.Test.YtfpomiimloohkaaPanes
set_option linter.unusedSimpArgs false
set_option linter.unusedVariables false
namespace Go.Proofs.Ytfpomiimloohkaa
open Go.RowKit Go.Kp Go.So

/-- The window behind the lent ones. -/
abbrev Win.mark : Win := ⟨0, 0, -771, 0, 0, 0, 0, 0, 0⟩
abbrev Win.bad : Win := ⟨0, 0, -9, 0, 0, 0, 0, 0, 0⟩
abbrev Pa.bad : Pa := ⟨⟨#[115, 112, 111, 105, 108, 116]⟩, 0, 0, 0, 0, 0, 0, 0, 0⟩
/-- What 'lent' makes. -/
def LentP (L : List Win) (n : Nat) (w : World) (en : Ending) (w' : World) : Prop :=
  ∃ g cm, en = .returned (.slice (some ⟨g, 0, none⟩) n cm) ∧ n + 1 ≤ cm ∧ cm ≤ maxLen ∧ Rd w' w'.heap.size (some ⟨g, 0, none⟩) ((L ++ [Win.mark]).flatMap Win.cl) ∧ Below w.heap.size w w'

set_option maxHeartbeats 1000000 in
theorem lent_any (a : Option Addr) (n cap : Nat) (L : List Win) (w : World) (hl : L.length = n) (hn : n ≤ 2000000000000) (hnil : a = none → cap = 0) (hr : Rd w w.heap.size a (L.flatMap Win.cl)) :
    Calls Try.prog 19 #[.slice a n cap] w (LentP L n w) := by
  have HL := Lib.hid hl
  have HA := Lib.hid hnil
  have HR := Lib.hid hr
  clear hl hnil hr
  go_enter Try.func19, Try.ntmps19
  go_upto_region 1 with (fail)
  apply wp_region_lit
  iterate 1 (go_step; go_step; rename_i KK hKK; (with_reducible refine hKK _ _ ?_); clear hKK KK)
  refine append_rd rfl (.const (.slice none 0 0)) (.tmp 4) 52 30 _ 9 72 infoW Try.underlying52 rfl (by omega) rfl w.heap.size (.slice none 0 0) 0 [] rfl (World.ownsRow_nil _ _ _ _) a n cap (L.flatMap Win.cl) rfl HA.out (by rw [flat_length Win.cl 9 Win.len, HL.out]) HR.out Win.one (by unfold maxLen; omega) (by omega) (Nat.le_refl _) ?_
  intro v1 w1 ho1 hg1 hv1
  rw [Nat.zero_add, List.nil_append] at ho1
  have HO1 := Lib.hid ho1
  have HB1 := Lib.hid (show Below w.heap.size w w1 from (Below.refl _ _).grown hg1 (Nat.le_refl _) (fun q hq => by cases hq))
  have s1 := HB1.out.size
  clear ho1 hg1 hv1
  iterate 2 (go_step; go_step; rename_i KK hKK; (with_reducible refine hKK _ _ ?_); clear hKK KK)
  refine append_rd rfl (.tmp 5) (.tmp 7) 52 30 _ 9 72 infoW Try.underlying52 rfl (by omega) rfl w.heap.size v1 n (L.flatMap Win.cl) rfl (HO1.out.alloc _) (some ⟨w1.heap.size, 0, none⟩) 1 1 Win.mark.cl rfl (fun h => by cases h) rfl ?_ (fun u hu => Win.one (l := [Win.mark]) u (by simpa using hu)) (by unfold maxLen; omega) (by omega) (by simp; omega) ?_
  · exact .inr ⟨w1.heap.size, 0, rfl, by simp, fun j u hu => by
      rw [Nat.zero_add]
      have hb : Blk (w1.alloc (.cells Win.mark.cells 30 (0, 0))) w1.heap.size 30 Win.mark.cells := heap_at rfl
      exact (hb.cell j).trans (by simpa using hu)⟩
  intro v2 w2 ho2 hg2 hv2
  have HB2 := Lib.hid ((HB1.out.trans ((show Below w1.heap.size w1 (w1.alloc (.cells Win.mark.cells 30 (0, 0))) by go_grown).mono s1)).grown hg2 (by simp; omega) (fun q hq => (own_at HO1.out hq).choose_spec.2.2.2.1))
  have ho : w2.ownsRow w.heap.size 30 9 v2 (n + 1) ((L ++ [Win.mark]).flatMap Win.cl) := by rw [List.flatMap_append]; simpa using ho2
  obtain ⟨g, cp, rfl⟩ : ∃ g c1, v2 = .slice (some ⟨g, 0, none⟩) (n + 1) c1 := by
    rcases ho.2 with ⟨h1, h0⟩ | ⟨g1, c1, cur1, h1, _⟩
    · exact absurd h0 (by omega)
    · exact ⟨_, _, h1⟩
  obtain ⟨c1, e1, k1, k2, k3, k4⟩ := own_at ho rfl
  obtain rfl : cp = c1 := by injection e1
  obtain ⟨a9, c9, e9, r9⟩ := rd_of_owns ho
  obtain rfl : some ⟨g, 0, none⟩ = a9 := by injection e9
  have HR9 := Lib.hid r9
  have HK := Lib.hid (And.intro k1 k2)
  clear ho2 hg2 hv2 HO1 HB1 ho e1 k2 e9 r9 k3
  go_wp2_with fail
  go_returns
  exact ⟨g, cp, rfl, HK.out.1, HK.out.2, HR9.out, HB2.out⟩

theorem Rd.front9 {w : World} {B : Nat} {a : Option Addr} {L M : List Win} (h : Rd w B a ((L ++ M).flatMap Win.cl)) : Rd w B a (L.flatMap Win.cl) := by
  rw [List.flatMap_append] at h
  rcases h with h | ⟨b, off, h1, h2, h3⟩
  · exact .inl (List.append_eq_nil_iff.1 h).1
  · exact .inr ⟨b, off, h1, h2, fun j u hu => h3 j u (by rw [List.getElem?_append_left (List.getElem?_eq_some_iff.1 hu).1]; exact hu)⟩
/-- A row that is owned stays one when a cell of it is written. -/
theorem own_set {w : World} {B : Nat} {e : TypeId} {size : Nat} {v : Value} {n : Nat} {xs : List Value} (h : w.ownsRow B e size v n xs) (g i : Nat) (u : Value) : ∃ xs', (w.setCell ⟨g, i, none⟩ u).ownsRow B e size v n xs' := by
  rcases h.2 with ⟨h1, h2⟩ | ⟨g1, c1, cur, h1, h2, h3, h4, h5, h6, h7⟩
  · exact ⟨xs, h.1, .inl ⟨h1, h2⟩⟩
  · subst h1
    by_cases hg : g1 = g
    · subst hg
      have hb : Blk w g1 e cur := h3
      have hl : n * size ≤ cur.size := by rw [h6]; exact Nat.mul_le_mul_right _ h4
      refine ⟨((cur.setIfInBounds i u).toList.take (n * size)), ?_, .inr ⟨g1, c1, cur.setIfInBounds i u, rfl, h2, ?_, h4, h5, by simp [h6], rfl⟩⟩
      · rw [List.length_take]; simp; omega
      · unfold Blk at hb
        rw [heap_set_same, hb]
        rfl
    · exact ⟨xs, h.1, .inr ⟨g1, c1, cur, rfl, h2, (heap_set_ne w g g1 i u hg).trans h3, h4, h5, h6, h7⟩⟩
theorem own_setE {w : World} {B : Nat} {e : TypeId} {size : Nat} {v : Value} {n : Nat} (g i : Nat) (u : Value) (h : ∃ xs, w.ownsRow B e size v n xs) : ∃ xs', (w.setCell ⟨g, i, none⟩ u).ownsRow B e size v n xs' := by
  obtain ⟨_, h⟩ := h
  exact own_set h g i u
theorem own_putWi {w : World} {B : Nat} {e : TypeId} {size : Nat} {v : Value} {n : Nat} (g x : Nat) (p : Win) (h : ∃ xs, w.ownsRow B e size v n xs) : ∃ xs, (putWi w g x p).ownsRow B e size v n xs := by
  unfold putWi
  exact own_setE _ _ _ (own_setE _ _ _ (own_setE _ _ _ (own_setE _ _ _ (own_setE _ _ _ (own_setE _ _ _ (own_setE _ _ _ (own_setE _ _ _ (own_setE _ _ _ (h)))))))))
theorem own_putPa {w : World} {B : Nat} {e : TypeId} {size : Nat} {v : Value} {n : Nat} (g x : Nat) (p : Pa) (h : ∃ xs, w.ownsRow B e size v n xs) : ∃ xs, (putPa w g x p).ownsRow B e size v n xs := by
  unfold putPa
  exact own_setE _ _ _ (own_setE _ _ _ (own_setE _ _ _ (own_setE _ _ _ (own_setE _ _ _ (own_setE _ _ _ (own_setE _ _ _ (own_setE _ _ _ (own_setE _ _ _ (h)))))))))
/-- A pane, in the words of the kit's 'Panes'. -/
abbrev Pa.pn (x : Pa) : Pn := ⟨x.key, x.s, x.e, x.ki, x.pa, x.c, x.su, x.mi, x.ma⟩
theorem pn_flat (P : List Pa) : (P.map Pa.pn).flatMap Pn.cells = P.flatMap Pa.cells := by rw [List.flatMap_map]
theorem panes_pa (a a' : Option Addr) (n cap cap' : Nat) (P : List Pa) (w : World) (hl : P.length = n) (hn : n ≤ 4611686018427387904) (hr : Rd w w.heap.size a (P.flatMap Pa.cells)) (hr' : Rd w w.heap.size a' (P.flatMap Pa.cells)) :
    Calls Try.prog 18 #[.slice a n cap, .slice a' n cap'] w (Ret (.bool true) w) :=
  panes_any a a' n cap cap' (P.map Pa.pn) w (by rw [List.length_map]; exact hl) hn (by rw [pn_flat]; exact hr) (by rw [pn_flat]; exact hr')
theorem Ordered.one {P P' Q : List Pa} (h : Ordered P Q) (h' : Ordered P' Q) : P = P' := sorted_unique (κ := Pa.e) h.1 h'.1 (fun k => (h.2 k).trans (h'.2 k).symm)

/-- What lies between two worlds' ends may turn; all else stays. -/
abbrev Mid (lo hi : Nat) : Nat → Prop := fun q => lo ≤ q ∧ q < hi
theorem Rd.low {w w' : World} {lo hi : Nat} {a : Option Addr} {ys : List Value} (h : Rd w lo a ys) (hF : Fr (Mid lo hi) w w') (hlo : lo ≤ w.heap.size) : Rd w' lo a ys :=
  h.keep fun b o hb => World.cell?_of_block (a := ⟨b, o, none⟩) (hF.block b (by omega) (fun e => by have := e.1; omega))
theorem own_high {w w' : World} {lo hi : Nat} {e : TypeId} {size : Nat} {v : Value} {n : Nat} {xs : List Value} (h : w.ownsRow hi e size v n xs) (hF : Fr (Mid lo hi) w w') : w'.ownsRow hi e size v n xs :=
  owns_keep h fun g h1 h2 => hF.block g h2 (fun e => by have := e.2; omega)
/-- Two rows that a call owns, apart, and what stays. -/
structure Pair (w7 wy : World) (lo hi : Nat) (e e' : TypeId) (va vp : Value) (na np : Nat) (xa xp : List Value) : Prop where
  oa : wy.ownsRow lo e 9 va na xa
  op : wy.ownsRow lo e' 9 vp np xp
  qa : ∀ q, va.ownBlock = some q → q < hi ∨ w7.heap.size ≤ q
  qp : ∀ q, vp.ownBlock = some q → q < hi ∨ w7.heap.size ≤ q
  qq : ∀ q, va.ownBlock = some q → vp.ownBlock ≠ some q
  fr : Fr (Mid lo hi) w7 wy
theorem Pair.swap {w7 wy : World} {lo hi : Nat} {e e' : TypeId} {va vp : Value} {na np : Nat} {xa xp : List Value} (h : Pair w7 wy lo hi e e' va vp na np xa xp) : Pair w7 wy lo hi e' e vp va np na xp xa :=
  ⟨h.op, h.oa, h.qp, h.qa, fun q h1 h2 => h.qq q h2 h1, h.fr⟩
theorem Pair.left {w7 wy w5 : World} {lo hi : Nat} {e e' : TypeId} {va vp v5 : Value} {na np n' : Nat} {xa xp xs' : List Value} {o : Obj} (h : Pair w7 wy lo hi e e' va vp na np xa xp)
    (ho : w5.ownsRow lo e 9 v5 n' xs') (hg : (wy.alloc o).grownBy w5 va.ownBlock) (hv : v5.ownBlock = va.ownBlock ∨ v5.ownBlock = some (wy.alloc o).heap.size) : Pair w7 w5 lo hi e e' v5 vp n' np xs' xp := by
  have hs : (wy.alloc o).heap.size = wy.heap.size + 1 := by simp
  have hf := h.fr.size
  have kp : ∀ q, q < wy.heap.size → va.ownBlock ≠ some q → w5.heap[q]? = wy.heap[q]? := fun q hq hne => (hg.block q (by omega) (Ne.symm hne)).trans (Below.heap_alloc wy o q hq)
  refine ⟨ho, own_same h.op (fun q hq => kp q (own_at h.op hq).choose_spec.2.2.2.2 (fun e => h.qq q e hq)), fun q hq => ?_, h.qp, fun q h1 h2 => ?_, ⟨hg.os.trans (h.fr.alloc o).os, hg.tape.trans (h.fr.alloc o).tape, hg.output.trans (h.fr.alloc o).output, Nat.le_trans (h.fr.alloc o).size hg.size, fun q hq hm => (kp q (by omega) (fun e => ?_)).trans (h.fr.block q hq hm)⟩⟩
  · rcases hv with hv | hv
    · exact h.qa q (by rw [← hv]; exact hq)
    · rw [hv] at hq
      have : (wy.alloc o).heap.size = q := by injection hq
      omega
  · rcases hv with hv | hv
    · exact h.qq q (by rw [← hv]; exact h1) h2
    · rw [hv] at h1
      have h3 : (wy.alloc o).heap.size = q := by injection h1
      have h4 := (own_at h.op h2).choose_spec.2.2.2.2
      omega
  · have h1 := (own_at h.oa e).choose_spec.2.2.2.1
    rcases h.qa q e with h2 | h2
    · exact hm ⟨h1, h2⟩
    · omega
end Go.Proofs.Ytfpomiimloohkaa
