/- A mark: the document's, walked. -/
import Derived.Test.YtfpomiimloohkaaMkD
set_option linter.unusedSimpArgs false
set_option linter.unusedVariables false
namespace Go.Proofs.Ytfpomiimloohkaa
open Go.RowKit Go.Kp Go.So

/-- What stands between two windows: a row of windows, the job, the panes so far. -/
structure Rm (w : World) (B gA n : Nat) (c : Conf) (d : Nat → Win) (vp : Value) (P : List Pa) : Prop where
  row : RowW w gA n d
  cfg : Blk w B 24 c.cells
  own : w.ownsRow (B + 1) 37 9 vp P.length (P.flatMap Pa.cells)
theorem RowW.keep {w w' : World} {g N : Nat} {d : Nat → Win} (h : RowW w g N d) (hk : w'.heap[g]? = w.heap[g]?) : RowW w' g N d := by
  obtain ⟨cs, h1, h2⟩ := h
  exact ⟨cs, hk.trans h1, h2⟩
theorem own_same {w w' : World} {B : Nat} {e : TypeId} {size : Nat} {v : Value} {n : Nat} {xs : List Value} (h : w.ownsRow B e size v n xs) (hk : ∀ g, v.ownBlock = some g → w'.heap[g]? = w.heap[g]?) : w'.ownsRow B e size v n xs := by
  rcases h.2 with ⟨h1, h2⟩ | ⟨g, cap, cur, h1, h2, h3, h4⟩
  · exact ⟨h.1, .inl ⟨h1, h2⟩⟩
  · subst h1
    exact ⟨h.1, .inr ⟨g, cap, cur, rfl, h2, (hk g rfl).trans h3, h4⟩⟩
theorem Rm.keep {w w' : World} {B gA n : Nat} {c : Conf} {d : Nat → Win} {vp : Value} {P : List Pa} (h : Rm w B gA n c d vp P) (h1 : w'.heap[gA]? = w.heap[gA]?) (h2 : w'.heap[B]? = w.heap[B]?) (h3 : ∀ g, vp.ownBlock = some g → w'.heap[g]? = w.heap[g]?) : Rm w' B gA n c d vp P :=
  ⟨h.row.keep h1, h2.trans h.cfg, own_same h.own h3⟩
theorem Rm.all {w w' : World} {B gA n : Nat} {c : Conf} {d : Nat → Win} {vp : Value} {P : List Pa} (h : Rm w B gA n c d vp P) (hk : ∀ q, q < w.heap.size → w'.heap[q]? = w.heap[q]?) : Rm w' B gA n c d vp P :=
  h.keep (hk _ h.row.lt) (hk _ h.cfg.lt) (fun g hg => hk g (own_at h.own hg).choose_spec.2.2.2.2)
theorem Rm.below {w w' : World} {B gA n : Nat} {c : Conf} {d : Nat → Win} {vp : Value} {P : List Pa} (h : Rm w B gA n c d vp P) (hb : Below w.heap.size w w') : Rm w' B gA n c d vp P := h.all fun q hq => hb.block q hq
theorem Rm.alloc {w : World} {B gA n : Nat} {c : Conf} {d : Nat → Win} {vp : Value} {P : List Pa} (h : Rm w B gA n c d vp P) (o : Obj) : Rm (w.alloc o) B gA n c d vp P := h.all fun q hq => Below.heap_alloc w o q hq
/-- The row of windows is no block of the panes. -/
theorem Rm.apart {w : World} {B gA n : Nat} {c : Conf} {d : Nat → Win} {vp : Value} {P : List Pa} (h : Rm w B gA n c d vp P) : vp.ownBlock ≠ some gA := by
  obtain ⟨cs, h1, _⟩ := h.row
  exact own_apart h.own h1 (by decide)
theorem Rm.apartB {w : World} {B gA n : Nat} {c : Conf} {d : Nat → Win} {vp : Value} {P : List Pa} (h : Rm w B gA n c d vp P) : vp.ownBlock ≠ some B := own_apart h.own h.cfg (by decide)
theorem RowW.ne {w : World} {g N q : Nat} {d : Nat → Win} {t : TypeId} {cs : Array Value} (h : RowW w g N d) (hb : Blk w q t cs) (ht : t ≠ 30) : q ≠ g := by
  intro e
  subst e
  obtain ⟨cs', h1, _⟩ := h
  unfold Blk at h1 hb
  rw [h1] at hb
  injection hb with h4
  injection h4 with _ h5
  exact ht h5.symm
/-- The document's: two rows, each nil or its own. -/
def RefP (B : Nat) (c : Conf) (key : ByteArray) (L : List Win) (fr up : Int) (w : World) (en : Ending) (w' : World) : Prop :=
  ∃ vo vp P, en = .returned (.tuple #[vo, vp]) ∧ w'.ownsRow B 30 9 vo (outsL c fr up L).length ((outsL c fr up L).flatMap Win.cl) ∧ w'.ownsRow B 37 9 vp P.length (P.flatMap Pa.cells) ∧ Ordered P (pansL key fr up L) ∧ Below B w w'
/-- The d-th window is told, if it should be. -/
def Half (L : List Win) (fr up : Int) (di : Bool) (k : Nat) (d : Nat → Win) : Prop := ∀ (i : Nat) x, L[i]? = some x → d i = if i < k then twin fr up di x else x
theorem Half.off {L : List Win} {fr up : Int} {di : Bool} {k : Nat} {d : Nat → Win} {x : Win} (h : Half L fr up di k d) (hx : L[k]? = some x) (ho : onT fr up x = false) : Half L fr up di (k + 1) d := fun i y hy => by
  rw [h i y hy]
  by_cases e : i = k
  · subst e
    rw [hx] at hy
    injection hy with hy
    subst hy
    rw [if_neg (Nat.lt_irrefl _), if_pos (Nat.lt_succ_self _), twin_off ho]
  · by_cases e2 : i < k
    · rw [if_pos e2, if_pos (by omega)]
    · rw [if_neg e2, if_neg (by omega)]
theorem Half.on {L : List Win} {fr up : Int} {di : Bool} {k : Nat} {d : Nat → Win} {x : Win} (h : Half L fr up di k d) (hx : L[k]? = some x) (ho : onT fr up x = true) : Half L fr up di (k + 1) (fun t => if t = k then told x di else d t) := fun i y hy => by
  dsimp only
  by_cases e : i = k
  · subst e
    rw [hx] at hy
    injection hy with hy
    subst hy
    rw [if_pos rfl, if_pos (Nat.lt_succ_self _), twin_on ho]
  · rw [if_neg e, h i y hy]
    by_cases e2 : i < k
    · rw [if_pos e2, if_pos (by omega)]
    · rw [if_neg e2, if_neg (by omega)]
theorem Ordered.put {P Q : List Pa} {d1 d2 : Nat → Pa} {m j : Nat} (h : Ordered P Q) (hm : P.length = m) (hs : seg d1 0 (m + 1) = P ++ [d1 m]) (hjm : j ≤ m) (hr : Rot d1 d2 j m (m + 1)) (hlo : j = 0 ∨ (d1 (j - 1)).e ≤ (d1 m).e) (hhi : ∀ h, j ≤ h → h < m → (d1 m).e < (d1 h).e) :
    Ordered (seg d2 0 (m + 1)) (Q ++ [d1 m]) := by
  refine h.snoc hm hs hjm hr (fun q hq => ?_) hhi
  rcases hlo with e | hlo
  · omega
  · refine Int.le_trans ?_ hlo
    have hP : seg d1 0 m = P := by
      have e := seg_append (d := d1) (Nat.zero_le m) (Nat.le_succ m)
      rw [show m.succ = m + 1 from rfl, hs, seg_one] at e
      exact (List.append_inj_left' e rfl).symm
    have hp := h.1
    rw [← hP, List.pairwise_iff_getElem] at hp
    rcases Nat.eq_or_lt_of_le (show q ≤ j - 1 by omega) with e | hlt
    · rw [e]; exact Int.le_refl _
    · have := hp q (j - 1) (by rw [seg_len]; omega) (by rw [seg_len]; omega) hlt
      simpa [seg] using this
theorem rot_self {d1 d2 : Nat → Pa} {j m : Nat} (h : Rot d1 d2 j m (m + 1)) (hj : j ≤ m) : d2 j = d1 m := by
  have e := h j
  rw [if_neg (by omega), if_pos (by omega)] at e
  rw [e]; congr 1; omega
theorem rot_low {d1 d2 : Nat → Pa} {j m q : Nat} (h : Rot d1 d2 j m (m + 1)) (hq : q < j) : d2 q = d1 q := by
  have e := h q
  rwa [if_pos (.inl hq)] at e
theorem rot_high {d1 d2 : Nat → Pa} {j m : Nat} (h : Rot d1 d2 j m (m + 1)) : d2 (m + 1) = d1 (m + 1) := by
  have e := h (m + 1)
  rwa [if_pos (.inr (Nat.le_refl _))] at e
theorem refTell_y (key : ByteArray) (x y : Win) (di : Bool) (w : World) (hx : x.ok) (hy : y = told x di) :
    Calls Try.prog 15 #[.string key, x.val, .int .i64 2, .bool di] w (Ret (.tuple #[.agg #[.string key, .int .i64 x.s, .int .i64 x.e, .int .i64 2, .int .i64 x.pa, .int .i64 x.c, .int .i64 x.su, .int .i64 x.mi, .int .i64 x.ma], .agg #[.int .i64 y.s, .int .i64 y.e, .int .i64 y.h, .int .i64 y.c, .int .i64 y.su, .int .i64 y.mi, .int .i64 y.ma, .int .i64 y.si, .int .i64 y.pa]]) w) := by
  subst hy
  exact refTell_any key x 2 di w hx
theorem ordL_len : ∀ (n : Nat) {P Q : List Pa}, P.length ≤ n → (∀ k, P.filter (fun x => x.e == k) = Q.filter (fun x => x.e == k)) → P.length = Q.length
  | 0, P, Q, hn, h => by
    obtain rfl : P = [] := List.eq_nil_of_length_eq_zero (by omega)
    cases Q with
    | nil => rfl
    | cons y Q => have := h y.e; simp at this
  | n + 1, [], Q, hn, h => by
    cases Q with
    | nil => rfl
    | cons y Q => have := h y.e; simp at this
  | n + 1, p :: P, Q, hn, h => by
    have hp : ∀ (R : List Pa), R.length = (R.filter (fun x => x.e == p.e)).length + (R.filter (fun x => !(x.e == p.e))).length := fun R => by
      induction R with
      | nil => rfl
      | cons r R ih => cases hr : (r.e == p.e) <;> simp [hr] at * <;> omega
    have hl : ((p :: P).filter (fun x => !(x.e == p.e))).length ≤ n := by
      have := List.length_filter_le (fun x : Pa => !(x.e == p.e)) P
      simp at hn this ⊢; omega
    have h2 := ordL_len n (Q := Q.filter (fun x => !(x.e == p.e))) hl fun k => by
      have e := h k
      rw [List.filter_filter, List.filter_filter]
      have e2 : ∀ R : List Pa, R.filter (fun a => (a.e == k) && (!(a.e == p.e))) = (R.filter (fun x => x.e == k)).filter (fun x => !(x.e == p.e)) := fun R => by
        rw [List.filter_filter]; congr 1; funext a; exact Bool.and_comm _ _
      rw [e2, e2, e]
    rw [hp (p :: P), hp Q, h p.e, h2]
theorem Ordered.same {P Q : List Pa} (h : Ordered P Q) : P.length = Q.length := ordL_len _ (Nat.le_refl _) h.2
theorem mk_list_at {P : Program} {ops : Array Oper} {Q : Exit → Act → World → Prop} {l : List Oper} {a : Act} {w : World} (S : World → Prop) (hS : S w) (h : ∀ w', S w' → wpList P ops Q l a w') : wpList P ops Q l a w := h w hS
/-- A boxed pane is written over. -/
abbrev setPa (w : World) (h : Nat) (p : Pa) : World := ((((((((w.setCell ⟨h, 0, none⟩ (.string p.key)).setCell ⟨h, 1, none⟩ (.int .i64 p.s)).setCell ⟨h, 2, none⟩ (.int .i64 p.e)).setCell ⟨h, 3, none⟩ (.int .i64 p.ki)).setCell ⟨h, 4, none⟩ (.int .i64 p.pa)).setCell ⟨h, 5, none⟩ (.int .i64 p.c)).setCell ⟨h, 6, none⟩ (.int .i64 p.su)).setCell ⟨h, 7, none⟩ (.int .i64 p.mi)).setCell ⟨h, 8, none⟩ (.int .i64 p.ma)
theorem setPa_blk {w : World} {h : Nat} {p : Pa} (hb : Blk w h 37 noPane.toArray) : Blk (setPa w h p) h 37 p.cells.toArray := by
  unfold Blk at hb ⊢
  simp only [setPa, heap_set_same, hb, Option.map_some, putO_cells, noPane, paneOf, List.setIfInBounds_toArray, List.set_cons_zero, List.set_cons_succ]
theorem setPa_keep {w : World} {h : Nat} {p : Pa} : Keep (fun b => b ≠ h) w (setPa w h p) := by
  unfold setPa
  repeat (refine Keep.setCell ?_ (fun h => h rfl) _)
  exact Keep.refl _ _
theorem setPa_lt (w : World) (h : Nat) (p : Pa) : Keep (fun b => b < h) w (setPa w h p) := fun q hq => setPa_keep q (Nat.ne_of_lt hq)
theorem setPa_fr {w : World} {h : Nat} {p : Pa} : Fr (fun b => b = h) w (setPa w h p) := by
  unfold setPa
  repeat (refine Fr.set ?_ _ rfl)
  exact Fr.refl _ _
theorem Rm.boxed {w w4 : World} {gA n h : Nat} {c : Conf} {d : Nat → Win} {vp : Value} {P : List Pa} (p : Pa) (hR : Rm w4 w.heap.size gA n c d vp P) (hP : Blk w4 h 37 noPane.toArray) (hB : Below w.heap.size w w4) (neA : gA ≠ h) (hgB : w.heap.size < h) (neP : vp.ownBlock ≠ some h) :
    Rm (setPa w4 h p) w.heap.size gA n c d vp P ∧ Blk (setPa w4 h p) h 37 p.cells.toArray ∧ Below w.heap.size w (setPa w4 h p) ∧ w4.heap.size ≤ (setPa w4 h p).heap.size :=
  ⟨hR.keep (setPa_keep gA neA) (setPa_keep _ (Nat.ne_of_lt hgB)) (fun g hg => setPa_keep g (fun e => neP (by rw [← e]; exact hg))), setPa_blk hP,
    hB.trans ((setPa_fr (w := w4) (h := h) (p := p)).below (fun q hq => by omega) hB.size), (setPa_fr (w := w4) (h := h) (p := p)).size⟩
theorem Rm.turned {w wd : World} {gA n h k : Nat} {c : Conf} {d : Nat → Win} {vp : Value} {P : List Pa} {p : Pa} (y : Win) (hR : Rm wd w.heap.size gA n c d vp P) (hP : Blk wd h 37 p.cells.toArray) (hB : Below w.heap.size w wd) (neA : gA ≠ h) (hA : w.heap.size + 1 ≤ gA) (hk : k < n) :
    Rm (putWi wd gA k y) w.heap.size gA n c (fun t => if t = k then y else d t) vp P ∧ Blk (putWi wd gA k y) h 37 p.cells.toArray ∧ Below w.heap.size w (putWi wd gA k y) ∧ wd.heap.size ≤ (putWi wd gA k y).heap.size := by
  have hF := putWi_fr (w := wd) (g := gA) (x := k) (p := y)
  have hA2 := hR.row.lt
  refine ⟨⟨hR.row.put hk y, ?_, own_same hR.own (fun g hg => ?_)⟩, (hF.block h hP.lt (Ne.symm neA)).trans hP, hB.trans (hF.below (fun q hq => by omega) hB.size), hF.size⟩
  · exact (hF.block _ hR.cfg.lt (by omega)).trans hR.cfg
  · exact hF.block g (own_at hR.own hg).choose_spec.2.2.2.2 (fun e => hR.apart (by rw [← e]; exact hg))
/-- One pane more. -/
theorem Rm.more {w we w6 : World} {gA n h : Nat} {c : Conf} {d : Nat → Win} {vp v6 : Value} {P : List Pa} {p : Pa} {o : Obj} (hR : Rm we w.heap.size gA n c d vp P) (hP : Blk we h 37 p.cells.toArray) (hB : Below w.heap.size w we) (hvl : ∀ g, vp.ownBlock = some g → g < h)
    (ho : w6.ownsRow (w.heap.size + 1) 37 9 v6 (P.length + 1) (P.flatMap Pa.cells ++ p.cells)) (hg : (we.alloc o).grownBy w6 vp.ownBlock) (hv : v6.ownBlock = vp.ownBlock ∨ v6.ownBlock = some (we.alloc o).heap.size) :
    ∃ g pc d1, v6 = .slice (some ⟨g, 0, none⟩) (P.length + 1) pc ∧ Rm w6 w.heap.size gA n c d v6 (P ++ [p]) ∧ Row w6 g (P.length + 1) d1 ∧ seg d1 0 (P.length + 1) = P ++ [p] ∧ d1 P.length = p ∧ Blk w6 h 37 p.cells.toArray ∧ Below w.heap.size w w6 ∧ g ≠ h ∧ g ≠ gA ∧ g ≠ w.heap.size ∧ w.heap.size < g ∧
      (∀ (w' : World) (d' : Nat → Pa), Row w' g (P.length + 1) d' → d' (P.length + 1) = d1 (P.length + 1) → w'.ownsRow (w.heap.size + 1) 37 9 (.slice (some ⟨g, 0, none⟩) (P.length + 1) pc) (P.length + 1) ((seg d' 0 (P.length + 1)).flatMap Pa.cells)) := by
  have ho' : w6.ownsRow (w.heap.size + 1) 37 9 v6 (P ++ [p]).length ((P ++ [p]).flatMap Pa.cells) := by rw [List.length_append, List.flatMap_append]; simpa using ho
  have kp : ∀ q, q < we.heap.size → vp.ownBlock ≠ some q → w6.heap[q]? = we.heap[q]? := fun q hq hne => (hg.block q (by simp; omega) (Ne.symm hne)).trans (Below.heap_alloc we o q hq)
  obtain ⟨g, pc, rfl⟩ : ∃ g c1, v6 = .slice (some ⟨g, 0, none⟩) (P.length + 1) c1 := by
    rcases ho.2 with ⟨h1, h0⟩ | ⟨g1, c1, cur1, h1, _⟩
    · exact absurd h0 (by omega)
    · exact ⟨_, _, h1⟩
  have hlen : (P ++ [p]).length = P.length + 1 := by simp
  rw [hlen] at ho'
  obtain ⟨d1, r1, r2, r3⟩ := row_of_own ho' hlen
  have hRm : Rm w6 w.heap.size gA n c d (.slice (some ⟨g, 0, none⟩) (P.length + 1) pc) (P ++ [p]) := ⟨hR.row.keep (kp _ hR.row.lt hR.apart), (kp _ hR.cfg.lt hR.apartB).trans hR.cfg, by rw [hlen]; exact ho'⟩
  have hgh : g ≠ h := by
    intro e
    subst e
    rcases hv with hv | hv
    · exact Nat.lt_irrefl _ (hvl g (by rw [← hv]; rfl))
    · have h1 := hP.lt
      have h2 : g = (we.alloc o).heap.size := by injection hv
      simp at h2; omega
  refine ⟨g, pc, d1, rfl, hRm, r1, r2, ?_, (kp h hP.lt (fun e => Nat.lt_irrefl _ (hvl h e))).trans hP, ?_, hgh, fun e => hRm.apart (by rw [← e]; rfl), fun e => hRm.apartB (by rw [← e]; rfl), ?_, r3⟩
  · have e := congrArg (fun l => l[P.length]?) r2
    rw [List.getElem?_append_right (Nat.le_refl _), Nat.sub_self] at e
    unfold seg at e
    rw [List.getElem?_map, List.getElem?_range' (by omega)] at e
    simpa using e
  · exact (hB.trans ((show Below we.heap.size we (we.alloc o) by go_grown).mono hB.size)).grown hg (by have := hB.size; simp; omega) (fun q hq => by have := (own_at hR.own hq).choose_spec.2.2.2.1; omega)
  · exact (own_at ho' rfl).choose_spec.2.2.2.1
/-- A pane of the row is written over, the boxed one stays. -/
theorem Row.puth {wq : World} {g N h j : Nat} {d2 : Nat → Pa} {p q : Pa} (hR : Row wq g N d2) (hP : Blk wq h 37 p.cells.toArray) (hne : g ≠ h) (hj : j < N) :
    Row (putPa wq g j q).drew g N (fun t => if t = j then q else d2 t) ∧ Blk (putPa wq g j q).drew h 37 p.cells.toArray ∧ Fr (fun b => b = g) wq (putPa wq g j q).drew :=
  have hB : Blk (putPa wq g j q) h 37 p.cells.toArray := ((putPa_fr (w := wq) (g := g) (x := j) (p := q)).block h hP.lt (Ne.symm hne)).trans hP
  have hR2 := Row.put hR hj q
  have hF := putPa_fr (w := wq) (g := g) (x := j) (p := q)
  have all : ∀ Z : World, Row Z g N (fun t => if t = j then q else d2 t) → Blk Z h 37 p.cells.toArray → Fr (fun b => b = g) wq Z → Row Z.drew g N (fun t => if t = j then q else d2 t) ∧ Blk Z.drew h 37 p.cells.toArray ∧ Fr (fun b => b = g) wq Z.drew := fun Z h1 h2 h3 => ⟨h1.drew, h2, h3.drew⟩
  all _ hR2 hB hF
theorem Row.puts {wq : World} {g N h j : Nat} {d2 : Nat → Pa} {p q : Pa} (hR : Row wq g N d2) (hP : Blk wq h 37 p.cells.toArray) (hne : g ≠ h) (hj : j < N) :
    Row (putPa wq g j q) g N (fun t => if t = j then q else d2 t) ∧ Fr (fun b => b = g) wq (putPa wq g j q) :=
  ⟨Row.put hR hj q, putPa_fr⟩
end Go.Proofs.Ytfpomiimloohkaa
