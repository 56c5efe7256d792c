/- Series: the line through points, of the program: the mathematics of both; two rows that grow beside each other. -/
import Derived.Test.YtbkofiflfcfjfaaSeJ
set_option linter.unusedSimpArgs false
set_option linter.unusedVariables false
namespace Go.Ser
def SlopeR (p q s : Nat) : Prop := if Go.FloatKind.f64.format.order p 0 = some .eq then s = 0 else Res .quo q p s
theorem SlopeR.congr {p q s p' q' s' : Nat} (h : SlopeR p q s) (h' : SlopeR p' q' s') (hp : Fq p p') (hq : Fq q q') : Fq s s' := by
  unfold SlopeR at h h'
  rcases hp with rfl | ⟨n1, n2⟩
  · split at h
    · rename_i e; rw [if_pos e] at h'; rw [h, h']; exact Fq.refl _
    · rename_i e; rw [if_neg e] at h'; exact Res.congr h h' hq (Fq.refl _)
  · rw [order_nan_left n1, if_neg (by simp)] at h
    rw [order_nan_left n2, if_neg (by simp)] at h'
    exact Res.congr h h' hq (.inr ⟨n1, n2⟩)
/-- The line through points: slope, start, mean, spread. -/
def LineR (xs ys : List Nat) (sl st mn sp : Nat) : Prop :=
  ∃ a p q x, MeanR xs a ∧ MeanR ys mn ∧ AroundR xs xs a a p ∧ AroundR xs ys a mn q ∧ SlopeR p q sl ∧ Res .mul sl a x ∧ Res .sub mn x st ∧ SpreadR ys sp
theorem LineR.congr {xs ys : List Nat} {sl st mn sp sl' st' mn' sp' : Nat} (h : LineR xs ys sl st mn sp) (h' : LineR xs ys sl' st' mn' sp') : Fq sl sl' ∧ Fq st st' ∧ Fq mn mn' ∧ Fq sp sp' := by
  obtain ⟨a, p, q, x, h1, h2, h3, h4, h5, h6, h7, h8⟩ := h
  obtain ⟨a', p', q', x', k1, k2, k3, k4, k5, k6, k7, k8⟩ := h'
  have ha := h1.congr k1 (Fqs.refl _)
  have hm := h2.congr k2 (Fqs.refl _)
  have hp := h3.congr k3 ha ha
  have hq := h4.congr k4 ha hm
  have hs := h5.congr k5 hp hq
  exact ⟨hs, Res.congr h7 k7 hm (Res.congr h6 k6 hs ha), hm, h8.congr k8⟩
end Go.Ser
namespace Go.Proofs.Ytbkofiflfcfjfaa
open Go.RowKit Go.Kp Go.Ser

theorem owns_same {w w' : World} {base : Nat} {e : TypeId} {size : Nat} {v : Value} {n : Nat} {xs : List Value} (h : w.ownsRow base e size v n xs) (hk : ∀ g, v.ownBlock = some g → g < w.heap.size → w'.heap[g]? = w.heap[g]?) : w'.ownsRow base e size v n xs := by
  refine ⟨h.1, ?_⟩
  rcases h.2 with h' | ⟨g, cap, cur, h1, h2, h3, h4⟩
  · exact .inl h'
  · refine .inr ⟨g, cap, cur, h1, h2, ?_, h4⟩
    have hlt : g < w.heap.size := by
      rcases Nat.lt_or_ge g w.heap.size with hh | hh
      · exact hh
      · rw [Array.getElem?_eq_none hh] at h3; cases h3
    rw [hk g (by subst h1; rfl) hlt, h3]

/-- Two rows of a call's own, beside each other. -/
def Two (B : Nat) (w Z : World) (v1 v2 : Value) (n1 n2 : Nat) (xs ys : List Nat) : Prop :=
  Z.ownsRow B 25 1 v1 n1 (fl xs) ∧ Z.ownsRow B 25 1 v2 n2 (fl ys) ∧ (∀ g, v1.ownBlock = some g → v2.ownBlock ≠ some g) ∧ Below B w Z ∧ B ≤ Z.heap.size
section
variable {B : Nat} {w Z : World} {v1 v2 : Value} {n1 n2 : Nat} {xs ys : List Nat}
theorem Two.o1 (h : Two B w Z v1 v2 n1 n2 xs ys) : Z.ownsRow B 25 1 v1 n1 (fl xs) := h.1
theorem Two.o2 (h : Two B w Z v1 v2 n1 n2 xs ys) : Z.ownsRow B 25 1 v2 n2 (fl ys) := h.2.1
theorem Two.le (h : Two B w Z v1 v2 n1 n2 xs ys) : B ≤ Z.heap.size := h.2.2.2.2
theorem Two.alloc (h : Two B w Z v1 v2 n1 n2 xs ys) (o : Obj) : Two B w (Z.alloc o) v1 v2 n1 n2 xs ys :=
  ⟨h.1.alloc _, h.2.1.alloc _, h.2.2.1, h.2.2.2.1.alloc h.2.2.2.2 _, by have := h.2.2.2.2; simp; omega⟩
theorem Two.drew (h : Two B w Z v1 v2 n1 n2 xs ys) : Two B w Z.drew v1 v2 n1 n2 xs ys := ⟨h.1, h.2.1, h.2.2.1, h.2.2.2.1.drew, h.2.2.2.2⟩
theorem Two.app1 (h : Two B w Z v1 v2 n1 n2 xs ys) {Z' : World} {v' : Value} {m : Nat} {xs' : List Nat} (ho : Z'.ownsRow B 25 1 v' m (fl xs')) (hg : Z.grownBy Z' v1.ownBlock) (hv : v'.ownBlock = v1.ownBlock ∨ v'.ownBlock = some Z.heap.size) : Two B w Z' v' v2 m n2 xs' ys := by
  obtain ⟨o1, o2, hd, hb, hs⟩ := h
  refine ⟨ho, owns_same o2 fun g hg2 hlt => hg.block g hlt (fun e => hd g e.symm hg2), fun g hg1 hg2 => ?_, (hb.grown hg hs fun k hk => (o1.lt k hk).1), Nat.le_trans hs hg.size⟩
  rcases hv with e | e
  · exact hd g (e ▸ hg1) hg2
  · rw [e] at hg1; cases hg1
    have := (o2.lt _ hg2).2
    omega
theorem Two.app2 (h : Two B w Z v1 v2 n1 n2 xs ys) {Z' : World} {v' : Value} {m : Nat} {ys' : List Nat} (ho : Z'.ownsRow B 25 1 v' m (fl ys')) (hg : Z.grownBy Z' v2.ownBlock) (hv : v'.ownBlock = v2.ownBlock ∨ v'.ownBlock = some Z.heap.size) : Two B w Z' v1 v' n1 m xs ys' := by
  obtain ⟨o1, o2, hd, hb, hs⟩ := h
  refine ⟨owns_same o1 fun g hg1 hlt => hg.block g hlt (fun e => hd g hg1 e.symm), ho, fun g hg1 hg2 => ?_, (hb.grown hg hs fun k hk => (o2.lt k hk).1), Nat.le_trans hs hg.size⟩
  rcases hv with e | e
  · exact hd g hg1 (e ▸ hg2)
  · rw [e] at hg2; cases hg2
    have := (o1.lt _ hg1).2
    omega
end

/-- append of one number, as one operation. -/
theorem append_fl_op {w : World} {o : Oper} {a : Act} {K : Act → World → Prop} {Q : Exit → Act → World → Prop} (s x : Operand)
    (ho : o.op = .call { callee := .builtin .append, args := #[s, x], argTypes := #[45, 45] })
    (base : Nat) (v : Value) (n : Nat) (xs : List Nat) (hs : a.eval s = v) (hown : w.ownsRow base 25 1 v n (fl xs))
    (g y c : Nat) (hx : a.eval x = .slice (some ⟨g, 0, none⟩) 1 c) (hcell : w.cell? ⟨g, 0, none⟩ = some (.float .f64 y)) (hn : n + 1 ≤ 17592186044416) (hbase : base ≤ w.heap.size)
    (h : ∀ v' w', Hid (w'.ownsRow base 25 1 v' (n + 1) (fl (xs ++ [y]))) → Hid (w.grownBy w' v.ownBlock) → Hid (v'.ownBlock = v.ownBlock ∨ v'.ownBlock = some w.heap.size) → K (a.put o.dst v') w') :
    o.wp Try.prog a w K Q := by
  obtain ⟨i0, hi, hz0, hz1, hz2⟩ := info_parts infoF
  obtain ⟨v', w', hr, h2, h3, _, h5⟩ := run_append_own_at (P := Try.prog) w base 45 o.type 25 i0 (.float .f64 0) 1 8 Try.underlying45 hi hz0 hz1 hz2 rfl (by omega) v n (fl xs) hown ⟨g, 0, none⟩ 1 c [.float .f64 y] rfl (fun j u hu => by
    rw [Go.WideShapes.add_plain]
    match j, hu with
    | 0, hu => simp at hu; subst hu; simpa using hcell) (fun u hu => by simp at hu; subst hu; rfl) (by unfold maxLen; omega) (by omega) hbase
  unfold Oper.wp execOp
  simp only [ho, resolve, invoke, builtin, Sem.run_bind, Sem.run_pure, Result.andThen_ok, List.map_toArray, List.map_cons, List.map_nil, hs, hx, hr]
  exact h v' w' (by rw [fl, List.map_append]; exact h2) h3 h5
theorem plan_loud_op {P : Program} {ops : Array Oper} {Q : Exit → Act → World → Prop} {R : World → World → Prop} {T : Act → World → Prop} {i : Nat} {o : Oper} {rest : List (Nat × Oper × Bool)} {a : Act} {w : World} (hw : Region.wanted o (yielded ops a.tmps) = true)
    (h : ∀ K : Act → World → Prop, (∀ a' w', R w w' → wpPlan P ops Q R T rest a' w' → K a' w') → o.wp P a w K Q) : wpPlan P ops Q R T ((i, o, false) :: rest) a w :=
  plan_loud fun K hK => by rw [if_pos hw]; exact h K hK
theorem plan_at {P : Program} {ops : Array Oper} {Q : Exit → Act → World → Prop} {R : World → World → Prop} {T : Act → World → Prop} {l : List (Nat × Oper × Bool)} {a : Act} {w : World} (S : World → Prop) (hS : S w) (h : ∀ w', S w' → wpPlan P ops Q R T l a w') : wpPlan P ops Q R T l a w := h w hS
theorem tree_at {P : Program} {ops : Array Oper} {Q : Exit → Act → World → Prop} {R : World → World → Prop} {T : Act → World → Prop} {t : Tree} {a : Act} {w : World} (S : World → Prop) (hS : S w) (h : ∀ w', S w' → wpTree P ops Q R T t a w') : wpTree P ops Q R T t a w := h w hS
theorem list_at {P : Program} {ops : Array Oper} {Q : Exit → Act → World → Prop} {l : List Oper} {a : Act} {w : World} (S : World → Prop) (hS : S w) (h : ∀ w', S w' → wpList P ops Q l a w') : wpList P ops Q l a w := h w hS
/-- The points of a list. -/
abbrev pts (l : List (Nat × Nat)) : List Value := l.flatMap fun p => [Value.float .f64 p.1, .float .f64 p.2]
theorem pts_at {w wr : World} {b off k : Nat} {p : Nat × Nat} {l : List (Nat × Nat)} (hb : b < w.heap.size) (hB : Below w.heap.size w wr) (hc : ∀ (j : Nat) u, (pts l)[j]? = some u → w.cell? ⟨b, off + j, none⟩ = some u) (hx : l[k]? = some p) :
    wr.cell? ⟨b, off + k * 2, none⟩ = some (.float .f64 p.1) ∧ wr.cell? ⟨b, off + k * 2 + 1, none⟩ = some (.float .f64 p.2) := by
  have f := flat_get (fun p : Nat × Nat => [Value.float .f64 p.1, .float .f64 p.2]) 2 (fun _ => rfl) l k
  have f0 := f 0 p hx (by omega)
  have f1 := f 1 p hx (by omega)
  exact ⟨(hB.cell (p := ⟨b, off + k * 2, none⟩) hb).trans (hc (k * 2) _ f0), (hB.cell (p := ⟨b, off + k * 2 + 1, none⟩) hb).trans (by rw [Nat.add_assoc]; exact hc (k * 2 + 1) _ f1)⟩
theorem pts_ne {l : List (Nat × Nat)} {n : Nat} (hl : l.length = n) (hn : 0 < n) : pts l ≠ [] := by
  intro h
  have h2 := flat_length (fun p : Nat × Nat => [Value.float .f64 p.1, .float .f64 p.2]) 2 (fun _ => rfl) l
  have h3 := congrArg List.length h
  rw [show (pts l).length = l.length * 2 from h2] at h3; simp at h3; omega
theorem take_pts {l : List (Nat × Nat)} {k : Nat} {p : Nat × Nat} (hx : l[k]? = some p) : (l.take (k + 1)).map Prod.fst = (l.take k).map Prod.fst ++ [p.1] ∧ (l.take (k + 1)).map Prod.snd = (l.take k).map Prod.snd ++ [p.2] := by
  rw [List.take_add_one, hx]; simp

/-- What Line tells: n, slope, start, mean, spread, and the error's number. -/
def trend (n sl st mn sp : Nat) (k : Int) : Value := .tuple #[.agg #[.int .i64 n, .float .f64 sl, .float .f64 st, .float .f64 mn, .float .f64 sp], .int .i64 k]
def LinE (l : List (Nat × Nat)) (n sl st mn sp : Nat) : Prop := if n = 0 then sl = 0 ∧ st = 0 ∧ mn = 0 ∧ sp = 0 else LineR (l.map Prod.fst) (l.map Prod.snd) sl st mn sp
theorem LinE.congr {l : List (Nat × Nat)} {n sl st mn sp sl' st' mn' sp' : Nat} (h : LinE l n sl st mn sp) (h' : LinE l n sl' st' mn' sp') : Fq sl sl' ∧ Fq st st' ∧ Fq mn mn' ∧ Fq sp sp' := by
  unfold LinE at h h'
  split at h
  · rename_i e
    rw [if_pos e] at h'
    obtain ⟨rfl, rfl, rfl, rfl⟩ := h
    obtain ⟨rfl, rfl, rfl, rfl⟩ := h'
    exact ⟨Fq.refl _, Fq.refl _, Fq.refl _, Fq.refl _⟩
  · rename_i e
    rw [if_neg e] at h'
    exact h.congr h'
def TrendR (l : List (Nat × Nat)) (n : Nat) (w : World) (e : Ending) (w' : World) : Prop := ∃ sl st mn sp, LinE l n sl st mn sp ∧ e = .returned (trend n sl st mn sp (errE n)) ∧ Below w.heap.size w w'
end Go.Proofs.Ytbkofiflfcfjfaa
