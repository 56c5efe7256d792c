/- Series: two lists of points the same; points appended. -/
import Derived.Test.YtbkofiflfcfjfaaSeN
set_option linter.unusedSimpArgs false
set_option linter.unusedVariables false
namespace Go.Proofs.Ytbkofiflfcfjfaa
open Go.RowKit Go.Kp Go.Ser

theorem line_any (a : Option Addr) (n cap : Nat) (l : List (Nat × Nat)) (w : World) (hl : l.length = n) (hn : n ≤ 1048576) (hr : Rd w w.heap.size a (pts l)) : Calls Try.prog 11 #[.slice a n cap] w (TrendR l n w) := by
  rcases Nat.eq_zero_or_pos n with h | h
  · subst h
    rw [List.eq_nil_of_length_eq_zero hl]
    exact line_none a cap w
  · exact line_some a n cap l w hl h hn hr
theorem refLine_any (a : Option Addr) (n cap : Nat) (l : List (Nat × Nat)) (w : World) (hl : l.length = n) (hn : n ≤ 1048576) (hr : Rd w w.heap.size a (pts l)) : Calls Try.prog 12 #[.slice a n cap] w (TrendR l n w) := by
  rcases Nat.eq_zero_or_pos n with h | h
  · subst h
    rw [List.eq_nil_of_length_eq_zero hl]
    exact refLine_none a cap w
  · exact refLine_some a n cap l w hl h hn hr

/-- Two lists of points, each part the same or both a NaN. -/
def PtsQ (l m : List (Nat × Nat)) : Prop := l.length = m.length ∧ ∀ (i : Nat) p q, l[i]? = some p → m[i]? = some q → Fq p.1 q.1 ∧ Fq p.2 q.2
theorem PtsQ.refl (l : List (Nat × Nat)) : PtsQ l l := ⟨rfl, fun i p q h h' => by rw [h] at h'; cases h'; exact ⟨Fq.refl _, Fq.refl _⟩⟩

set_option maxHeartbeats 1000000 in
theorem samePoints_any (a a' : Option Addr) (n cap cap' : Nat) (l l' : List (Nat × Nat)) (w : World) (hl : l.length = n) (hq : PtsQ l l') (hn : n ≤ 1048576) (hr : Rd w w.heap.size a (pts l)) (hr' : Rd w w.heap.size a' (pts l')) :
    Calls Try.prog 14 #[.slice a n cap, .slice a' n cap'] w (Ret (.bool true) w) := by
  obtain ⟨hnp⟩ : Nonempty (n ≤ 4611686018427387904) := ⟨by omega⟩
  have hl' : l'.length = n := hq.1.symm.trans hl
  have HQ := Lib.hid hq
  clear hq
  rcases Nat.eq_zero_or_pos n with hn0 | hn0
  · subst hn0
    clear hl hl' hr hr'
    go_enter Try.func14, Try.ntmps14
    go_wp2
    go_rounds 1
    go_returns
    exact ⟨rfl, by go_grown⟩
  · rcases hr with hr | ⟨b, off, rfl, hb, hc⟩
    · exact absurd hr (pts_ne hl hn0)
    rcases hr' with hr' | ⟨b', off', rfl, hb', hc'⟩
    · exact absurd hr' (pts_ne hl' hn0)
    have HC := Lib.hid hc
    have HL := Lib.hid hl
    have HC' := Lib.hid hc'
    have HL' := Lib.hid hl'
    clear hc hl hc' hl'
    go_enter Try.func14, Try.ntmps14
    go_wp2
    go_loopw [5] (fun i wr => ∃ k : Nat, k ≤ n ∧ i = .int .i64 k ∧ Below w.heap.size w wr) (fun i _ => n - (intOf i).toNat)
    case atStart => exact ⟨0, Nat.zero_le _, rfl, by go_grown⟩
    case round =>
      obtain ⟨k, hk, rfl, hB⟩ := hrel
      rcases Nat.lt_or_ge k n with hlt | hge
      · obtain ⟨x, hx⟩ : ∃ p, l[k]? = some p := ⟨_, List.getElem?_eq_getElem (by rw [HL.out]; exact hlt)⟩
        obtain ⟨y, hy⟩ : ∃ p, l'[k]? = some p := ⟨_, List.getElem?_eq_getElem (by rw [HL'.out]; exact hlt)⟩
        have HF := Lib.hid (HQ.out.2 k x y hx hy)
        obtain ⟨e1, e2⟩ := pts_at hb hB HC.out hx
        obtain ⟨e1', e2'⟩ := pts_at hb' hB HC'.out hy
        have HX := Lib.hid hx
        have HY := Lib.hid hy
        clear hx hy
        go_wp2_with fail
        go_quiet ((go_at_call 13; exact Calls.quiet_of_same (alike_any _ _ HF.out.1 _)))
        go_upto_region 7 with (fail)
        refine wp_at (fun Z => Below w.heap.size w Z) (below_drewN hB _) ?_
        rintro w2 hB2
        clear e1 e2 e1' e2' hB
        obtain ⟨e1, e2⟩ := pts_at hb hB2 HC.out HX.out
        obtain ⟨e1', e2'⟩ := pts_at hb' hB2 HC'.out HY.out
        go_quiet ((go_at_call 13; exact Calls.quiet_of_same (alike_any _ _ HF.out.2 _)))
        go_wp2
        go_roundw
        case rel => exact ⟨k + 1, by omega, by go_num, below_drewN hB2 _⟩
        case measure => simp [intOf]; omega
      · go_wp2
        go_returns
        exact ⟨rfl, hB⟩

theorem infoP : (Try.prog.info? 29).map (fun i => (i.zero, i.size, i.bytes)) = some (some (.agg #[.float .f64 0, .float .f64 0]), 2, 16) := by kernel_rfl
/-- append of one point. -/
theorem append_pt {w : World} {ops : Array Oper} {rest : List Oper} {o : Oper} {a : Act} {Q : Exit → Act → World → Prop} (hgd : o.guard = none) (s x : Operand)
    (ho : o.op = .call { callee := .builtin .append, args := #[s, x], argTypes := #[24, 24] })
    (base : Nat) (v : Value) (n : Nat) (xs : List (Nat × Nat)) (hs : a.eval s = v) (hown : w.ownsRow base 29 2 v n (pts xs))
    (g c : Nat) (y : Nat × Nat) (hx : a.eval x = .slice (some ⟨g, 0, none⟩) 1 c) (h0 : w.cell? ⟨g, 0, none⟩ = some (.float .f64 y.1)) (h1 : w.cell? ⟨g, 1, none⟩ = some (.float .f64 y.2)) (hn : n + 1 ≤ 1048576) (hbase : base ≤ w.heap.size)
    (h : ∀ v' w', Hid (w'.ownsRow base 29 2 v' (n + 1) (pts (xs ++ [y]))) → Below base w w' → wpList Try.prog ops Q rest (a.put o.dst v') w') :
    wpList Try.prog ops Q (o :: rest) a w :=
  append_thing hgd s x 24 29 (.agg #[.float .f64 0, .float .f64 0]) 2 16 ho Try.underlying24 infoP rfl (by omega) base v n (pts xs) hs hown g c hx [.float .f64 y.1, .float .f64 y.2] rfl
    (fun j u hu => by
      match j, hu with
      | 0, hu => simp at hu; subst hu; exact h0
      | 1, hu => simp at hu; subst hu; exact h1)
    (fun u hu => by simp at hu; rcases hu with rfl | rfl <;> rfl) (by omega) (by omega) hbase
    (fun v' w' k1 k2 => h v' w' (by rw [pts, List.flatMap_append]; exact k1) k2)
/-- A copy of points behind nothing. -/
theorem append_pts {w : World} {ops : Array Oper} {rest : List Oper} {o : Oper} {a : Act} {Q : Exit → Act → World → Prop} (hgd : o.guard = none) (s x : Operand)
    (ho : o.op = .call { callee := .builtin .append, args := #[s, x], argTypes := #[24, 24] })
    (hs : a.eval s = .slice none 0 0) (ad : Option Addr) (m c : Nat) (l : List (Nat × Nat)) (hx : a.eval x = .slice ad m c) (hl : l.length = m) (hn : ad = none → c = 0) (hr : Rd w w.heap.size ad (pts l)) (hm : m ≤ 1048576)
    (h : ∀ v' w', Hid (w'.ownsRow w.heap.size 29 2 v' m (pts l)) → Below w.heap.size w w' → wpList Try.prog ops Q rest (a.put o.dst v') w') :
    wpList Try.prog ops Q (o :: rest) a w := by
  obtain ⟨i0, hi, hz0, hz1, hz2⟩ := info_parts infoP
  have hlen : (pts l).length = m * 2 := by rw [show (pts l).length = l.length * 2 from flat_length (fun p : Nat × Nat => [Value.float .f64 p.1, .float .f64 p.2]) 2 (fun _ => rfl) l, hl]
  cases ad with
  | none =>
    have h0 : pts l = [] := by
      rcases hr with hr | ⟨b, off, h, _⟩
      · exact hr
      · cases h
    have hm0 : m = 0 := by rw [h0] at hlen; simp at hlen; omega
    have hc := hn rfl
    subst hc; subst hm0
    refine wpList_append_own_none hgd s x 24 ho w.heap.size 29 i0 2 Try.underlying24 hi (.slice none 0 0) 0 [] hs (World.ownsRow_nil _ _ _ _) hx ?_
    exact h _ w (by rw [h0]; exact World.ownsRow_nil _ _ _ _) (Below.refl _ _)
  | some ad =>
    refine wpList_append_own_at w hgd s x 24 ho w.heap.size 29 i0 (.agg #[.float .f64 0, .float .f64 0]) 2 16 Try.underlying24 hi hz0 hz1 hz2 rfl (by omega) (.slice none 0 0) 0 [] hs (World.ownsRow_nil _ _ _ _) ad m c (pts l) hx hlen ?_ ?_ (by unfold maxLen; omega) (by omega) (Nat.le_refl _) ?_
    · intro j u hu
      rcases hr with hr | ⟨b, off, h, _, hc⟩
      · rw [hr] at hu; simp at hu
      · cases h
        rw [Go.WideShapes.add_plain]
        exact hc j u hu
    · intro u hu
      obtain ⟨p, _, hp⟩ := List.mem_flatMap.1 hu
      simp at hp
      rcases hp with rfl | rfl <;> rfl
    · intro v' w' k1 k2 _ _
      rw [Nat.zero_add, List.nil_append] at k1
      exact h v' w' k1 (Below.grown (Below.refl _ _) k2 (Nat.le_refl _) (fun kk hkk => by simp [Value.ownBlock] at hkk))
end Go.Proofs.Ytbkofiflfcfjfaa
