/- Panes by windows: the document's list is the program's. No program in sight. -/
import Derived.Test.YtbkofiflfcfjfaaSqU
set_option linter.unusedSimpArgs false
set_option linter.unusedVariables false
namespace Go.Proofs.Ytbkofiflfcfjfaa.Px
open Go.RowKit Go.Kp Go.St

abbrev R (p q : Pn) : Prop := cA p.at q.at < 0
theorem R.irr (p : Pn) : ¬ R p p := by show ¬ cA p.at p.at < 0; rw [cA_self]; omega
theorem R.trans {p q r : Pn} (h : R p q) (k : R q r) : R p r := cA_ord.lt_le h (Int.le_of_lt k)
theorem R.asymm {p q : Pn} (h : R p q) : ¬ R q p := fun k => R.irr p (h.trans k)
theorem R.tri {p q : Pn} (h : ¬ R p q) (ne : p.at ≠ q.at) : R q p := by
  have h1 := cA_ord.turn q.at p.at
  have h2 : cA p.at q.at ≠ 0 := fun e => ne (cA_zero e)
  show cA q.at p.at < 0
  have h3 : ¬ cA p.at q.at < 0 := h
  omega
/-- Two strictly rising lists of the same things are one. -/
theorem rise_unique : ∀ {l m : List Pn}, l.Pairwise R → m.Pairwise R → (∀ v, v ∈ l ↔ v ∈ m) → l = m
  | [], [], _, _, _ => rfl
  | [], y :: m, _, _, h => by have := (h y).2 List.mem_cons_self; cases this
  | x :: l, [], _, _, h => by have := (h x).1 List.mem_cons_self; cases this
  | x :: l, y :: m, h1, h2, h => by
    have p1 := List.pairwise_cons.1 h1
    have p2 := List.pairwise_cons.1 h2
    have hxy : x = y := by
      rcases List.mem_cons.1 ((h x).1 List.mem_cons_self) with e | e
      · exact e
      · rcases List.mem_cons.1 ((h y).2 List.mem_cons_self) with e2 | e2
        · exact e2.symm
        · exact absurd (p1.1 y e2) (p2.1 x e).asymm
    subst hxy
    refine congrArg _ (rise_unique p1.2 p2.2 fun v => ?_)
    have hv := h v
    rw [List.mem_cons, List.mem_cons] at hv
    constructor
    · intro hm
      rcases hv.1 (.inr hm) with e | e
      · subst e; exact absurd (p1.1 _ hm) (R.irr _)
      · exact e
    · intro hm
      rcases hv.2 (.inr hm) with e | e
      · subst e; exact absurd (p2.1 _ hm) (R.irr _)
      · exact e
/-- The last of its window. -/
def IsLast (L : List Pn) (v : Pn) : Prop := ∃ l1 l2, L = l1 ++ v :: l2 ∧ ∀ p ∈ l2, p.at ≠ v.at
theorem isLast_snoc {L : List Pn} {x v : Pn} : IsLast (L ++ [x]) v ↔ v = x ∨ (IsLast L v ∧ v.at ≠ x.at) := by
  constructor
  · rintro ⟨l1, l2, h, hn⟩
    rcases List.eq_nil_or_concat l2 with e | ⟨l3, y, e⟩
    · subst e
      have := List.append_inj' h rfl
      exact .inl (by injection this.2 with h; exact h.symm)
    · subst e
      rw [List.concat_eq_append] at h hn
      have h' : L ++ [x] = (l1 ++ v :: l3) ++ [y] := by rw [h]; simp
      have h2 := List.append_inj' h' rfl
      have hx : x = y := by injection h2.2
      subst hx
      exact .inr ⟨⟨l1, l3, h2.1, fun p hp => hn p (List.mem_append_left _ hp)⟩, fun e => hn x (by simp) e.symm⟩
  · rintro (rfl | ⟨⟨l1, l2, h, hn⟩, hne⟩)
    · exact ⟨L, [], rfl, fun p hp => by cases hp⟩
    · refine ⟨l1, l2 ++ [x], by rw [h]; simp, fun p hp => ?_⟩
      rcases List.mem_append.1 hp with hp | hp
      · exact hn p hp
      · rw [List.mem_singleton] at hp
        subst hp
        exact fun e => hne e.symm
theorem mem_putL_iff {m : List (At × Pn)} (hs : Sorted cA m) (hk : ∀ q ∈ m, q.1 = q.2.at) (x : Pn) (q : At × Pn) : q ∈ putL cA x.at x m ↔ q = (x.at, x) ∨ (q ∈ m ∧ q.1 ≠ x.at) := by
  induction m with
  | nil => simp [putL]
  | cons p m ih =>
    have hp := List.pairwise_cons.1 (show List.Pairwise _ (p :: m) from hs)
    have hk' : ∀ q ∈ m, q.1 = q.2.at := fun q hq => hk q (List.mem_cons_of_mem _ hq)
    have ih' := ih hp.2 hk'
    simp only [putL]
    split
    · rename_i h
      rw [List.mem_cons, ih', List.mem_cons]
      constructor
      · rintro (e | e | ⟨e1, e2⟩)
        · subst e
          exact .inr ⟨.inl rfl, fun e => by rw [e, cA_self] at h; omega⟩
        · exact .inl e
        · exact .inr ⟨.inr e1, e2⟩
      · rintro (e | ⟨e1 | e1, e2⟩)
        · exact .inr (.inl e)
        · exact .inl e1
        · exact .inr (.inr ⟨e1, e2⟩)
    · rename_i h
      split
      · rename_i h2
        have hpx := cA_zero h2
        have hout : ∀ q ∈ m, q.1 ≠ x.at := fun q hq e => by
          have := hp.1 q hq
          rw [hpx, e, cA_self] at this
          omega
        rw [List.mem_cons, List.mem_cons, hpx]
        constructor
        · rintro (e | e)
          · exact .inl e
          · exact .inr ⟨.inr e, hout q e⟩
        · rintro (e | ⟨e1 | e1, e2⟩)
          · exact .inl e
          · subst e1; exact absurd hpx e2
          · exact .inr e1
      · rename_i h2
        have h3 := cA_ord.turn x.at p.1
        have hout : ∀ q ∈ p :: m, q.1 ≠ x.at := fun q hq e => by
          rcases List.mem_cons.1 hq with e1 | e1
          · subst e1
            rw [e, cA_self] at h2
            exact h2 rfl
          · have := hp.1 q e1
            rw [e] at this
            omega
        rw [List.mem_cons]
        constructor
        · rintro (e | e)
          · exact .inl e
          · exact .inr ⟨e, hout q e⟩
        · rintro (e | ⟨e1, e2⟩)
          · exact .inl e
          · exact .inr e1
theorem puts_mem (L : List Pn) : (∀ q ∈ putsL L, q.1 = q.2.at) ∧ ∀ v, (v.at, v) ∈ putsL L ↔ IsLast L v := by
  refine snoc_ind (P := fun L => (∀ q ∈ putsL L, q.1 = q.2.at) ∧ ∀ v, (v.at, v) ∈ putsL L ↔ IsLast L v) ⟨fun q hq => (by cases hq), fun v => ⟨fun h => (by cases h), fun ⟨l1, l2, h, _⟩ => (by simp at h)⟩⟩ (fun l x ih => ?_) L
  obtain ⟨ih1, ih2⟩ := ih
  have hs : Sorted cA (putsL l) := by have h := puts_both l; rw [← h.2.1]; exact h.1
  rw [putsL_snoc]
  have hm := fun q => mem_putL_iff hs ih1 x q
  refine ⟨fun q hq => ?_, fun v => ?_⟩
  · rcases (hm q).1 hq with e | ⟨e, _⟩
    · subst e; rfl
    · exact ih1 q e
  · rw [hm, isLast_snoc, ih2]
    constructor
    · rintro (e | e)
      · injection e with _ e; exact .inl e
      · exact .inr e
    · rintro (e | e)
      · subst e; exact .inl rfl
      · exact .inr e
/-- The panes alone. -/
def lastsL (L : List Pn) : List Pn := (putsL L).map Prod.snd
theorem lasts_mem (L : List Pn) (v : Pn) : v ∈ lastsL L ↔ IsLast L v := by
  have h := puts_mem L
  rw [← h.2 v]
  unfold lastsL
  rw [List.mem_map]
  constructor
  · rintro ⟨q, hq, rfl⟩
    have := h.1 q hq
    rw [← this]
    exact hq
  · intro hv
    exact ⟨_, hv, rfl⟩
theorem lasts_rise (L : List Pn) : (lastsL L).Pairwise R := by
  have h := puts_both L
  have h2 := (puts_mem L).1
  have hs : Sorted cA (putsL L) := by rw [← h.2.1]; exact h.1
  unfold lastsL
  rw [List.pairwise_map]
  refine List.Pairwise.imp_of_mem ?_ (show List.Pairwise _ (putsL L) from hs)
  intro a b ha hb hab
  show cA a.2.at b.2.at < 0
  rw [← h2 a ha, ← h2 b hb]
  exact hab
/-! ### The document's list -/
def insL (x : Pn) : List Pn → List Pn
  | [] => [x]
  | p :: l => if cA p.at x.at < 0 then p :: insL x l else x :: p :: l
theorem insL_at (x : Pn) : ∀ (l : List Pn) (k : Nat), k ≤ l.length → (∀ m (hm : m < l.length), m < k → cA (l[m]).at x.at < 0) → (∀ h : k < l.length, ¬ cA (l[k]).at x.at < 0) → insL x l = l.take k ++ x :: l.drop k
  | [], k, h, _, _ => by
    have : k = 0 := by simpa using h
    subst this; rfl
  | p :: l, 0, _, _, h => by
    have := h (by simp)
    simp only [insL]
    rw [if_neg (by simpa using this)]; rfl
  | p :: l, k + 1, hk, h1, h2 => by
    have h3 := h1 0 (by simp) (by omega)
    simp only [insL]
    rw [if_pos (by simpa using h3), insL_at x l k (by simpa using hk) (fun m hm hmk => h1 (m + 1) (Nat.succ_lt_succ hm) (by omega)) (fun h => h2 (Nat.succ_lt_succ h))]
    rfl
theorem mem_insL (x : Pn) : ∀ (l : List Pn) (v : Pn), v ∈ insL x l ↔ v = x ∨ v ∈ l
  | [], v => by simp [insL]
  | p :: l, v => by
    simp only [insL]
    split
    · rw [List.mem_cons, mem_insL x l v, List.mem_cons]
      constructor
      · rintro (e | e | e)
        · exact .inr (.inl e)
        · exact .inl e
        · exact .inr (.inr e)
      · rintro (e | e | e)
        · exact .inr (.inl e)
        · exact .inl e
        · exact .inr (.inr e)
    · rw [List.mem_cons]
theorem insL_rise (x : Pn) : ∀ (l : List Pn), l.Pairwise R → (∀ v ∈ l, v.at ≠ x.at) → (insL x l).Pairwise R
  | [], _, _ => by simp [insL]
  | p :: l, h, hn => by
    have hp := List.pairwise_cons.1 h
    simp only [insL]
    split
    · rename_i hlt
      refine List.pairwise_cons.2 ⟨fun v hv => ?_, insL_rise x l hp.2 fun v hv => hn v (List.mem_cons_of_mem _ hv)⟩
      rcases (mem_insL x l v).1 hv with e | e
      · subst e; exact hlt
      · exact hp.1 v e
    · rename_i hge
      have hxp : R x p := R.tri hge (hn p List.mem_cons_self)
      refine List.pairwise_cons.2 ⟨fun v hv => ?_, h⟩
      rcases List.mem_cons.1 hv with e | e
      · subst e; exact hxp
      · exact hxp.trans (hp.1 v e)
theorem insL_len (x : Pn) : ∀ l : List Pn, (insL x l).length = l.length + 1
  | [] => rfl
  | p :: l => by
    simp only [insL]
    split
    · simp [insL_len x l]
    · rfl
/-- Is there a later one of this window? -/
def sameAt (p x : Pn) : Bool := decide (p.key = x.key) && (decide (p.s = x.s) && decide (p.e = x.e))
theorem sameAt_iff {p x : Pn} : sameAt p x = true ↔ p.at = x.at := by
  unfold sameAt
  simp only [Bool.and_eq_true, decide_eq_true_eq, Pn.at, At.mk.injEq]
def laterB (x : Pn) (l : List Pn) : Bool := l.any fun p => sameAt p x
def refGo (out : List Pn) : List Pn → List Pn
  | [] => out
  | x :: l => refGo (if laterB x l then out else insL x out) l
theorem later_iff {x : Pn} {l : List Pn} : laterB x l = false ↔ ∀ p ∈ l, p.at ≠ x.at := by
  unfold laterB
  rw [List.any_eq_false]
  constructor
  · intro h p hp e; exact h p hp (sameAt_iff.2 e)
  · intro h p hp e; exact h p hp (sameAt_iff.1 e)
theorem refGo_all : ∀ (l out : List Pn), out.Pairwise R → (∀ v ∈ out, ∀ p ∈ l, p.at ≠ v.at) → (refGo out l).Pairwise R ∧ ∀ v, v ∈ refGo out l ↔ v ∈ out ∨ IsLast l v
  | [], out, h, _ => ⟨h, fun v => ⟨.inl, fun h => h.elim id fun ⟨l1, l2, e, _⟩ => by simp at e⟩⟩
  | x :: l, out, h, hn => by
    unfold refGo
    have hlast : ∀ v, IsLast (x :: l) v ↔ (v = x ∧ laterB x l = false) ∨ IsLast l v := fun v => by
      constructor
      · rintro ⟨l1, l2, e, hv⟩
        cases l1 with
        | nil =>
          injection e with e1 e2
          subst e1 e2
          exact .inl ⟨rfl, later_iff.2 hv⟩
        | cons y l1 =>
          injection e with e1 e2
          exact .inr ⟨l1, l2, e2, hv⟩
      · rintro (⟨rfl, hv⟩ | ⟨l1, l2, e, hv⟩)
        · exact ⟨[], l, rfl, later_iff.1 hv⟩
        · exact ⟨x :: l1, l2, by rw [e]; rfl, hv⟩
    cases hb : laterB x l with
    | true =>
      rw [if_pos rfl]
      obtain ⟨k1, k2⟩ := refGo_all l out h (fun v hv p hp => hn v hv p (List.mem_cons_of_mem _ hp))
      refine ⟨k1, fun v => ?_⟩
      rw [k2, hlast]
      constructor
      · rintro (e | e)
        · exact .inl e
        · exact .inr (.inr e)
      · rintro (e | ⟨_, e⟩ | e)
        · exact .inl e
        · rw [hb] at e; cases e
        · exact .inr e
    | false =>
      rw [if_neg (by simp)]
      have hx : ∀ v ∈ out, v.at ≠ x.at := fun v hv e => hn v hv x List.mem_cons_self e.symm
      obtain ⟨k1, k2⟩ := refGo_all l (insL x out) (insL_rise x out h hx) (fun v hv p hp => by
        rcases (mem_insL x out v).1 hv with e | e
        · subst e; exact later_iff.1 hb p hp
        · exact hn v e p (List.mem_cons_of_mem _ hp))
      refine ⟨k1, fun v => ?_⟩
      rw [k2, hlast, mem_insL]
      constructor
      · rintro ((e | e) | e)
        · exact .inr (.inl ⟨e, hb⟩)
        · exact .inl e
        · exact .inr (.inr e)
      · rintro (e | ⟨e, _⟩ | e)
        · exact .inl (.inr e)
        · exact .inl (.inl e)
        · exact .inr e
/-- THE LAW: the document's list, of one key, is the program's. -/
theorem last_law (key : ByteArray) (L : List Pn) : ofL key (refGo [] L) = lastL key L := by
  have h := refGo_all L [] List.Pairwise.nil (fun v hv => by cases hv)
  show ofL key (refGo [] L) = lastsL (ofL key L)
  refine rise_unique (h.1.filter _) (lasts_rise (ofL key L)) fun v => ?_
  rw [lasts_mem]
  unfold ofL
  rw [List.mem_filter, h.2]
  simp only [List.not_mem_nil, false_or, decide_eq_true_eq]
  constructor
  · rintro ⟨⟨l1, l2, e, hv⟩, hk⟩
    refine ⟨l1.filter (fun p => decide (p.key = key)), l2.filter (fun p => decide (p.key = key)), ?_, fun p hp => hv p (List.mem_filter.1 hp).1⟩
    rw [e, List.filter_append, List.filter_cons, if_pos (by simpa using hk)]
  · rintro ⟨l1, l2, e, hv⟩
    have hvm : v ∈ L.filter (fun p => decide (p.key = key)) := by rw [e]; simp
    have hk : v.key = key := by simpa using (List.mem_filter.1 hvm).2
    refine ⟨?_, hk⟩
    obtain ⟨m1, m2, e1, e2, e3⟩ := List.filter_eq_append_iff.1 e
    obtain ⟨n1, n2, f1, f2, f3, f4⟩ := List.filter_eq_cons_iff.1 e3
    refine ⟨m1 ++ n1, n2, by rw [e1, f1]; simp, fun p hp ep => ?_⟩
    by_cases hpk : p.key = key
    · exact hv p (by rw [← f4]; exact List.mem_filter.2 ⟨hp, by simpa using hpk⟩) ep
    · exact hpk (by have : p.key = v.key := congrArg At.k ep; rw [this, hk])
end Go.Proofs.Ytbkofiflfcfjfaa.Px
