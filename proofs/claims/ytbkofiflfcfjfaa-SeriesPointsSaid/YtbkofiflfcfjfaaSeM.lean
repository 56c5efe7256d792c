/- Series: what each reckoning may give, and that two reckonings of the same kind agree. No program in sight. -/
import Derived.Test.YtbkofiflfcfjfaaSer
set_option linter.unusedSimpArgs false
set_option linter.unusedVariables false
namespace Go.Ser
open Ieee

/-- Sum from s on, in order. -/
def SumR : Nat → List Nat → Nat → Prop
  | s, [], r => r = s
  | s, x :: l, r => ∃ t, Res .add s x t ∧ SumR t l r
theorem SumR.snoc : ∀ {l : List Nat} {s r x t : Nat}, SumR s l r → Res .add r x t → SumR s (l ++ [x]) t
  | [], s, r, x, t, h, h2 => by
    obtain rfl : r = s := h
    exact ⟨t, h2, rfl⟩
  | y :: l, s, r, x, t, ⟨u, h1, h⟩, h2 => ⟨u, h1, SumR.snoc h h2⟩

/-- Two rows, place by place the same or both a NaN. -/
def Fqs (l m : List Nat) : Prop := l.length = m.length ∧ ∀ (i : Nat) x y, l[i]? = some x → m[i]? = some y → Fq x y
theorem Fqs.refl (l : List Nat) : Fqs l l := ⟨rfl, fun i x y h h' => by rw [h] at h'; cases h'; exact Fq.refl x⟩
theorem Fqs.tail {x y : Nat} {l m : List Nat} (h : Fqs (x :: l) (y :: m)) : Fq x y ∧ Fqs l m :=
  ⟨h.2 0 x y rfl rfl, by simpa using h.1, fun i a b ha hb => h.2 (i + 1) a b (by simpa using ha) (by simpa using hb)⟩
theorem Fqs.cons {x y : Nat} {l m : List Nat} (h : Fq x y) (h' : Fqs l m) : Fqs (x :: l) (y :: m) :=
  ⟨by simp [h'.1], fun i a b ha hb => by
    cases i with
    | zero => simp at ha hb; subst ha; subst hb; exact h
    | succ i => exact h'.2 i a b (by simpa using ha) (by simpa using hb)⟩

theorem SumR.congr : ∀ {l m : List Nat} {s s' r r' : Nat}, SumR s l r → SumR s' m r' → Fq s s' → Fqs l m → Fq r r'
  | [], [], s, s', r, r', h, h', hs, _ => by
    obtain rfl : r = s := h
    obtain rfl : r' = s' := h'
    exact hs
  | [], _ :: _, _, _, _, _, _, _, _, hl => by simpa using hl.1
  | _ :: _, [], _, _, _, _, _, _, _, hl => by simpa using hl.1
  | x :: l, y :: m, s, s', r, r', ⟨t, h1, h⟩, ⟨t', h1', h'⟩, hs, hl =>
    SumR.congr h h' (Res.congr h1 h1' hs hl.tail.1) hl.tail.2

/-- The word of a whole number. -/
def fw (n : Nat) : Nat := floatOfInt .f64 n

def MeanR (l : List Nat) (r : Nat) : Prop := ∃ s, SumR 0 l s ∧ Res .quo s (fw l.length) r
theorem MeanR.congr {l m : List Nat} {r r' : Nat} (h : MeanR l r) (h' : MeanR m r') (hl : Fqs l m) : Fq r r' := by
  obtain ⟨s, h1, h2⟩ := h
  obtain ⟨s', h1', h2'⟩ := h'
  rw [hl.1] at h2
  exact Res.congr h2 h2' (SumR.congr h1 h1' (Fq.refl 0) hl) (Fq.refl _)

/-- One product. -/
def OneR (m n x y p : Nat) : Prop := ∃ d e, Res .sub x m d ∧ Res .sub y n e ∧ Res .mul d e p
theorem OneR.congr {m n m' n' x y p p' : Nat} (h : OneR m n x y p) (h' : OneR m' n' x y p') (hm : Fq m m') (hn : Fq n n') : Fq p p' := by
  obtain ⟨d, e, h1, h2, h3⟩ := h
  obtain ⟨d', e', h1', h2', h3'⟩ := h'
  exact Res.congr h3 h3' (Res.congr h1 h1' (Fq.refl x) hm) (Res.congr h2 h2' (Fq.refl y) hn)
/-- The products of two rows less two numbers. -/
def ProdR (a b : List Nat) (m n : Nat) (ps : List Nat) : Prop := ps.length ≤ a.length ∧ ps.length ≤ b.length ∧ ∀ (i : Nat) x y p, a[i]? = some x → b[i]? = some y → ps[i]? = some p → OneR m n x y p
theorem ProdR.nil {a b : List Nat} {m n : Nat} : ProdR a b m n [] := ⟨Nat.zero_le _, Nat.zero_le _, fun i x y p _ _ h => by simp at h⟩
theorem ProdR.snoc {a b ps : List Nat} {m n x y p : Nat} (h : ProdR a b m n ps) (hx : a[ps.length]? = some x) (hy : b[ps.length]? = some y) (hp : OneR m n x y p) : ProdR a b m n (ps ++ [p]) := by
  have l1 := (List.getElem?_eq_some_iff.1 hx).1
  have l2 := (List.getElem?_eq_some_iff.1 hy).1
  refine ⟨by simp; omega, by simp; omega, fun i x' y' p' hx' hy' hp' => ?_⟩
  rcases Nat.lt_trichotomy i ps.length with hi | rfl | hi
  · rw [List.getElem?_append_left hi] at hp'
    exact h.2.2 i x' y' p' hx' hy' hp'
  · rw [hx] at hx'; rw [hy] at hy'
    simp at hp'
    cases hx'; cases hy'; subst hp'
    exact hp
  · rw [List.getElem?_eq_none (by simp; omega)] at hp'; cases hp'
theorem ProdR.congr {a b ps ps' : List Nat} {m n m' n' : Nat} (h : ProdR a b m n ps) (h' : ProdR a b m' n' ps') (hl : ps.length = ps'.length) (hm : Fq m m') (hn : Fq n n') : Fqs ps ps' :=
  ⟨hl, fun i p p' hp hp' => by
    have hi := (List.getElem?_eq_some_iff.1 hp).1
    have ha := List.getElem?_eq_getElem (l := a) (i := i) (by have := h.1; omega)
    have hb := List.getElem?_eq_getElem (l := b) (i := i) (by have := h.2.1; omega)
    exact (h.2.2 i _ _ p ha hb hp).congr (h'.2.2 i _ _ p' ha hb hp') hm hn⟩
/-- The sum of the products. -/
def AroundR (a b : List Nat) (m n r : Nat) : Prop := ∃ ps, ps.length = a.length ∧ ProdR a b m n ps ∧ SumR 0 ps r
theorem AroundR.congr {a b : List Nat} {m n m' n' r r' : Nat} (h : AroundR a b m n r) (h' : AroundR a b m' n' r') (hm : Fq m m') (hn : Fq n n') : Fq r r' := by
  obtain ⟨ps, l1, p1, s1⟩ := h
  obtain ⟨ps', l2, p2, s2⟩ := h'
  exact SumR.congr s1 s2 (Fq.refl 0) (ProdR.congr p1 p2 (l1.trans l2.symm) hm hn)
def SpreadR (l : List Nat) (r : Nat) : Prop := ∃ m q d, MeanR l m ∧ AroundR l l m m q ∧ Res .quo q (fw l.length) d ∧ Root d r
theorem SpreadR.congr {l : List Nat} {r r' : Nat} (h : SpreadR l r) (h' : SpreadR l r') : Fq r r' := by
  obtain ⟨m, q, d, h1, h2, h3, h4⟩ := h
  obtain ⟨m', q', d', h1', h2', h3', h4'⟩ := h'
  have hm := h1.congr h1' (Fqs.refl l)
  exact h4.congr h4' (Res.congr h3 h3' (h2.congr h2' hm hm) (Fq.refl _))

/-- Means that move along: 'o' of them. -/
def MovR (l : List Nat) (w : Nat) (o : List Nat) : Prop := ∀ (i : Nat) r, o[i]? = some r → MeanR ((l.drop i).take w) r
theorem MovR.nil {l : List Nat} {w : Nat} : MovR l w [] := fun i r h => by simp at h
theorem MovR.snoc {l o : List Nat} {w r : Nat} (h : MovR l w o) (hr : MeanR ((l.drop o.length).take w) r) : MovR l w (o ++ [r]) := fun i r' hr' => by
  rcases Nat.lt_trichotomy i o.length with hi | rfl | hi
  · rw [List.getElem?_append_left hi] at hr'; exact h i r' hr'
  · simp at hr'; subst hr'; exact hr
  · rw [List.getElem?_eq_none (by simp; omega)] at hr'; cases hr'
theorem MovR.congr {l o o' : List Nat} {w : Nat} (h : MovR l w o) (h' : MovR l w o') (hl : o.length = o'.length) : Fqs o o' :=
  ⟨hl, fun i x y hx hy => (h i x hx).congr (h' i y hy) (Fqs.refl _)⟩

/-- One number smoothed: part p, the row's x behind the last one z. -/
def SmR (p x z r : Nat) : Prop := ∃ q a b, Res .sub 4607182418800017408 p q ∧ Res .mul p x a ∧ Res .mul q z b ∧ Res .add a b r
theorem SmR.congr {p x z z' r r' : Nat} (h : SmR p x z r) (h' : SmR p x z' r') (hz : Fq z z') : Fq r r' := by
  obtain ⟨q, a, b, h1, h2, h3, h4⟩ := h
  obtain ⟨q', a', b', h1', h2', h3', h4'⟩ := h'
  exact Res.congr h4 h4' (Res.congr h2 h2' (Fq.refl _) (Fq.refl _)) (Res.congr h3 h3' (Res.congr h1 h1' (Fq.refl _) (Fq.refl _)) hz)
def SmoR (p : Nat) (l o : List Nat) : Prop := o.length ≤ l.length ∧ (∀ r, o[0]? = some r → l[0]? = some r) ∧ ∀ (i : Nat) x z r, l[i + 1]? = some x → o[i]? = some z → o[i + 1]? = some r → SmR p x z r
theorem SmoR.nil {p : Nat} {l : List Nat} : SmoR p l [] := ⟨Nat.zero_le _, fun r h => by simp at h, fun i x z r _ h => by simp at h⟩
theorem SmoR.first {p x : Nat} {l : List Nat} (h : l[0]? = some x) : SmoR p l [x] :=
  ⟨by have := (List.getElem?_eq_some_iff.1 h).1; simp; omega, fun r hr => by simp at hr; subst hr; exact h, fun i x z r _ _ hr => by simp at hr⟩
theorem SmoR.snoc {p x z r k : Nat} {l o : List Nat} (h : SmoR p l o) (hk : o.length = k + 1) (hx : l[k + 1]? = some x) (hz : o[k]? = some z) (hr : SmR p x z r) : SmoR p l (o ++ [r]) := by
  have l1 := (List.getElem?_eq_some_iff.1 hx).1
  refine ⟨by simp; omega, fun r' h0 => ?_, fun i x' z' r' hx' hz' hr' => ?_⟩
  · rw [List.getElem?_append_left (by omega)] at h0; exact h.2.1 r' h0
  · rcases Nat.lt_trichotomy (i + 1) o.length with hi | hi | hi
    · rw [List.getElem?_append_left hi] at hr'
      rw [List.getElem?_append_left (by omega)] at hz'
      exact h.2.2 i x' z' r' hx' hz' hr'
    · obtain rfl : i = k := by omega
      rw [List.getElem?_append_left (by omega)] at hz'
      rw [hi] at hr'
      simp at hr'
      rw [hx] at hx'; rw [hz] at hz'
      cases hx'; cases hz'; subst hr'
      exact hr
    · rw [List.getElem?_eq_none (by simp; omega)] at hr'; cases hr'
theorem SmoR.congr {p : Nat} {l o o' : List Nat} (h : SmoR p l o) (h' : SmoR p l o') (hl : o.length = o'.length) : Fqs o o' := by
  refine ⟨hl, fun i => ?_⟩
  induction i with
  | zero => intro x y hx hy; have := h.2.1 x hx; have h2 := h'.2.1 y hy; rw [this] at h2; cases h2; exact Fq.refl _
  | succ i ih =>
    intro x y hx hy
    have hi := (List.getElem?_eq_some_iff.1 hx).1
    have hi' := (List.getElem?_eq_some_iff.1 hy).1
    have hlx := List.getElem?_eq_getElem (l := l) (i := i + 1) (by have := h.1; omega)
    have ha := List.getElem?_eq_getElem (l := o) (i := i) (by omega)
    have hb := List.getElem?_eq_getElem (l := o') (i := i) (by omega)
    exact (h.2.2 i _ _ x hlx ha hx).congr (h'.2.2 i _ _ y hlx hb hy) (ih _ _ ha hb)

/-- A tone's round. -/
def TnR (x y u v z u' v' : Nat) : Prop := ∃ a b c d re, Res .mul u x a ∧ Res .mul v y b ∧ Res .mul u y c ∧ Res .mul v x d ∧ Res .sub a b re ∧ Res .add re z u' ∧ Res .add c d v'
theorem TnR.congr {x y u v z u' v' u1 v1 u1' v1' : Nat} (h : TnR x y u v z u' v') (h' : TnR x y u1 v1 z u1' v1') (hu : Fq u u1) (hv : Fq v v1) : Fq u' u1' ∧ Fq v' v1' := by
  obtain ⟨a, b, c, d, re, h1, h2, h3, h4, h5, h6, h7⟩ := h
  obtain ⟨a', b', c', d', re', k1, k2, k3, k4, k5, k6, k7⟩ := h'
  have r := Fq.refl
  exact ⟨Res.congr h6 k6 (Res.congr h5 k5 (Res.congr h1 k1 hu (r _)) (Res.congr h2 k2 hv (r _))) (r _), Res.congr h7 k7 (Res.congr h3 k3 hu (r _)) (Res.congr h4 k4 hv (r _))⟩
/-- The tone of a row, from its end. -/
def ToneR (x y : Nat) : List Nat → Nat → Nat → Prop
  | [], u, v => u = 0 ∧ v = 0
  | z :: l, u', v' => ∃ u v, ToneR x y l u v ∧ TnR x y u v z u' v'
theorem ToneR.congr {x y : Nat} : ∀ {l : List Nat} {u v u' v' : Nat}, ToneR x y l u v → ToneR x y l u' v' → Fq u u' ∧ Fq v v'
  | [], _, _, _, _, ⟨rfl, rfl⟩, ⟨rfl, rfl⟩ => ⟨Fq.refl _, Fq.refl _⟩
  | z :: l, _, _, _, _, ⟨u, v, h, k⟩, ⟨u', v', h', k'⟩ => by
    have := ToneR.congr h h'
    exact TnR.congr k k' this.1 this.2
theorem ToneR.step {x y u v u' v' z k : Nat} {l : List Nat} (hz : l[k]? = some z) (h : ToneR x y (l.drop (k + 1)) u v) (ht : TnR x y u v z u' v') : ToneR x y (l.drop k) u' v' := by
  have hk := (List.getElem?_eq_some_iff.1 hz).1
  have e : l.drop k = z :: l.drop (k + 1) := by
    rw [List.drop_eq_getElem_cons hk]
    rw [List.getElem?_eq_getElem hk] at hz
    cases hz
    rfl
  rw [e]
  exact ⟨u, v, h, ht⟩
end Go.Ser
