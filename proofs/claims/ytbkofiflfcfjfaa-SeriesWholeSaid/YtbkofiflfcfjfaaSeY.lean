/- Series: smoothed whole rows, tones of them; alike by order. -/
import Derived.Test.YtbkofiflfcfjfaaSeX
import Derived.Test.YtbkofiflfcfjfaaSeR
set_option linter.unusedSimpArgs false
set_option linter.unusedVariables false
namespace Go.Ser
open Ieee Go.Flo

theorem one_fi : (4607182418800017408 : Nat) = fi 1 := by decide +kernel
theorem zero_fi : (0 : Nat) = fi 0 := by decide +kernel
theorem W.one : W 4607182418800017408 1 := .inl one_fi
theorem W.zero : W 0 0 := .inl zero_fi

theorem smr_one {n v : Int} {z r : Nat} (h : SmR 4607182418800017408 (fi n) z r) (hz : W z v) (hn : n.natAbs ≤ 1048576) (hv : v.natAbs ≤ 1048576) : W r n := by
  obtain ⟨q, a, b, h1, h2, h3, h4⟩ := h
  obtain ⟨q', k1, kq⟩ := sub_W W.one W.one (by omega) (by omega) (by omega)
  obtain rfl := h1.eq k1
  obtain ⟨a', k2, ka⟩ := mul_W W.one (W.fi n) (by omega) (by omega) (by omega)
  obtain rfl := h2.eq k2
  obtain ⟨b', k3, kb⟩ := mul_W kq hz (by omega) (by omega) (by simp)
  obtain rfl := h3.eq k3
  obtain ⟨r', k4, kr⟩ := add_W ka kb (by omega) (by simp) (by simp; omega)
  rw [h4.eq k4]
  simpa using kr
theorem smr_zero {n v : Int} {z r : Nat} (h : SmR 0 (fi n) z r) (hz : W z v) (hn : n.natAbs ≤ 1048576) (hv : v.natAbs ≤ 1048576) : W r v := by
  obtain ⟨q, a, b, h1, h2, h3, h4⟩ := h
  obtain ⟨q', k1, kq⟩ := sub_W W.one W.zero (by omega) (by omega) (by omega)
  obtain rfl := h1.eq k1
  obtain ⟨a', k2, ka⟩ := mul_W W.zero (W.fi n) (by omega) (by omega) (by simp)
  obtain rfl := h2.eq k2
  obtain ⟨b', k3, kb⟩ := mul_W kq hz (by omega) (by omega) (by simp; omega)
  obtain rfl := h3.eq k3
  obtain ⟨r', k4, kr⟩ := add_W ka kb (by simp) (by simp; omega) (by simp; omega)
  rw [h4.eq k4]
  simpa using kr
theorem smo_one {ns : List Int} {o : List Nat} (h : SmoR 4607182418800017408 (ns.map fi) o) (hn : ∀ n ∈ ns, n.natAbs ≤ 1048576) : ∀ (i : Nat) r n, o[i]? = some r → ns[i]? = some n → W r n := by
  intro i
  induction i with
  | zero =>
    intro r n hr hi
    have := h.2.1 r hr
    rw [List.getElem?_map, hi] at this
    exact .inl (Option.some.inj this).symm
  | succ i ih =>
    intro r n hr hi
    have l1 := (List.getElem?_eq_some_iff.1 hr).1
    have l2 := (List.getElem?_eq_some_iff.1 hi).1
    have hz := List.getElem?_eq_getElem (l := o) (i := i) (by omega)
    have hv := List.getElem?_eq_getElem (l := ns) (i := i) (by omega)
    exact smr_one (h.2.2 i (fi n) _ r (by rw [List.getElem?_map, hi]; rfl) hz hr) (ih _ _ hz hv) (hn n (List.mem_of_getElem? hi)) (hn _ (List.mem_of_getElem? hv))
theorem smo_zero {ns : List Int} {o : List Nat} {v : Int} (h : SmoR 0 (ns.map fi) o) (hn : ∀ n ∈ ns, n.natAbs ≤ 1048576) (h0 : ns[0]? = some v) : ∀ (i : Nat) r, o[i]? = some r → W r v := by
  intro i
  induction i with
  | zero =>
    intro r hr
    have := h.2.1 r hr
    rw [List.getElem?_map, h0] at this
    exact .inl (Option.some.inj this).symm
  | succ i ih =>
    intro r hr
    have l1 := (List.getElem?_eq_some_iff.1 hr).1
    have l2 := h.1
    rw [List.length_map] at l2
    have hz := List.getElem?_eq_getElem (l := o) (i := i) (by omega)
    have hi := List.getElem?_eq_getElem (l := ns) (i := i + 1) (by omega)
    exact smr_zero (h.2.2 i _ _ r (by rw [List.getElem?_map, hi]; rfl) hz hr) (ih _ hz) (hn _ (List.mem_of_getElem? hi)) (hn v (List.mem_of_getElem? h0))

theorem tn_one {u v u' v' : Nat} {a n : Int} (h : TnR 4607182418800017408 0 u v (fi n) u' v') (hu : W u a) (hv : W v 0) (ha : a.natAbs ≤ 1048576000) (hn : n.natAbs ≤ 1048576) : W u' (a + n) ∧ W v' 0 := by
  obtain ⟨p1, p2, p3, p4, p5, h1, h2, h3, h4, h5, h6, h7⟩ := h
  obtain ⟨_, k, w1⟩ := mul_W hu W.one (by omega) (by omega) (by omega)
  obtain rfl := h1.eq k
  obtain ⟨_, k, w2⟩ := mul_W hv W.zero (by omega) (by omega) (by omega)
  obtain rfl := h2.eq k
  obtain ⟨_, k, w3⟩ := mul_W hu W.zero (by omega) (by omega) (by omega)
  obtain rfl := h3.eq k
  obtain ⟨_, k, w4⟩ := mul_W hv W.one (by omega) (by omega) (by omega)
  obtain rfl := h4.eq k
  simp only [Int.mul_one, Int.mul_zero, Int.zero_mul] at w1 w2 w3 w4
  obtain ⟨_, k, w5⟩ := sub_W w1 w2 (by omega) (by omega) (by omega)
  obtain rfl := h5.eq k
  rw [Int.sub_zero] at w5
  obtain ⟨_, k, w6⟩ := add_W w5 (W.fi n) (by omega) (by omega) (by omega)
  rw [h6.eq k]
  obtain ⟨_, k, w7⟩ := add_W w3 w4 (by omega) (by omega) (by omega)
  rw [h7.eq k]
  exact ⟨w6, by simpa using w7⟩
theorem tone_one : ∀ {ns : List Int} {u v : Nat}, ToneR 4607182418800017408 0 (ns.map fi) u v → (∀ n ∈ ns, n.natAbs ≤ 1048576) → ns.length ≤ 500 → W u ns.sum ∧ W v 0 ∧ ns.sum.natAbs ≤ ns.length * 1048576
  | [], u, v, ⟨hu, hv⟩, _, _ => by subst hu; subst hv; exact ⟨W.zero, W.zero, by simp⟩
  | n :: ns, u', v', ⟨u, v, h, k⟩, hn, hl => by
    simp only [List.length_cons] at hl
    obtain ⟨h1, h2, h3⟩ := tone_one h (fun m hm => hn m (List.mem_cons_of_mem _ hm)) (by omega)
    have h0 := hn n List.mem_cons_self
    obtain ⟨k1, k2⟩ := tn_one k h1 h2 (by omega) h0
    rw [List.sum_cons, Int.add_comm]
    refine ⟨k1, k2, ?_⟩
    simp only [List.length_cons, Nat.succ_mul]
    omega
theorem tn_zero {u v u' v' : Nat} {a n : Int} (h : TnR 0 0 u v (fi n) u' v') (hu : W u a) (hv : W v 0) (ha : a.natAbs ≤ 1048576) (hn : n.natAbs ≤ 1048576) : W u' n ∧ W v' 0 := by
  obtain ⟨p1, p2, p3, p4, p5, h1, h2, h3, h4, h5, h6, h7⟩ := h
  obtain ⟨_, k, w1⟩ := mul_W hu W.zero (by omega) (by omega) (by omega)
  obtain rfl := h1.eq k
  obtain ⟨_, k, w2⟩ := mul_W hv W.zero (by omega) (by omega) (by omega)
  obtain rfl := h2.eq k
  obtain ⟨_, k, w3⟩ := mul_W hu W.zero (by omega) (by omega) (by omega)
  obtain rfl := h3.eq k
  obtain ⟨_, k, w4⟩ := mul_W hv W.zero (by omega) (by omega) (by omega)
  obtain rfl := h4.eq k
  simp only [Int.mul_zero, Int.zero_mul] at w1 w2 w3 w4
  obtain ⟨_, k, w5⟩ := sub_W w1 w2 (by omega) (by omega) (by omega)
  obtain rfl := h5.eq k
  obtain ⟨_, k, w6⟩ := add_W w5 (W.fi n) (by omega) (by omega) (by omega)
  rw [h6.eq k]
  obtain ⟨_, k, w7⟩ := add_W w3 w4 (by omega) (by omega) (by omega)
  rw [h7.eq k]
  exact ⟨by simpa using w6, by simpa using w7⟩
theorem tone_zero : ∀ {ns : List Int} {u v : Nat}, ToneR 0 0 (ns.map fi) u v → (∀ n ∈ ns, n.natAbs ≤ 1048576) → W u (ns.headD 0) ∧ W v 0
  | [], u, v, ⟨hu, hv⟩, _ => by subst hu; subst hv; exact ⟨W.zero, W.zero⟩
  | n :: ns, u', v', ⟨u, v, h, k⟩, hn => by
    obtain ⟨h1, h2⟩ := tone_zero h (fun m hm => hn m (List.mem_cons_of_mem _ hm))
    have h0 := hn n List.mem_cons_self
    have hh : (ns.headD 0).natAbs ≤ 1048576 := by
      cases ns with
      | nil => simp
      | cons m ms => exact hn m (by simp)
    exact tn_zero k h1 h2 hh h0
theorem order_eq {x y : Nat} {v : Int} (hx : W x v) (hy : W y v) (hv : v.natAbs ≤ 1048576000) : Go.FloatKind.f64.format.order x y = some .eq := by
  show double.order x y = _
  rw [order_W hx hy (by omega) (by omega)]
  simp
theorem moving_one {ns : List Int} {o : List Nat} (h : MovR (ns.map fi) 1 o) (hn : ∀ n ∈ ns, n.natAbs ≤ 1048576) : ∀ (i : Nat) r n, o[i]? = some r → ns[i]? = some n → Go.FloatKind.f64.format.order r (fi n) = some .eq := by
  intro i r n hr hi
  have h1 := h i r hr
  have e : ((ns.map fi).drop i).take 1 = [n].map fi := by
    have l2 := (List.getElem?_eq_some_iff.1 hi).1
    rw [List.drop_eq_getElem_cons (by simpa using l2)]
    have : (ns.map fi)[i]'(by simpa using l2) = fi n := by
      have := (List.getElem?_eq_some_iff.1 hi).2
      simp [this]
    rw [this]; simp
  rw [e] at h1
  have hb := hn n (List.mem_of_getElem? hi)
  obtain ⟨o1, o2⟩ := mean_order h1 (by simpa using hb) (by simp) (by simp) (lo := n) (hi := n) (by simp) hb hb
  exact order_both o1 o2
/-- Two rows whose numbers are equal. -/
def Eqs (l m : List Nat) : Prop := l.length = m.length ∧ ∀ (i : Nat) x y, l[i]? = some x → m[i]? = some y → Go.FloatKind.f64.format.order x y = some .eq
end Go.Ser
namespace Go.Proofs.Ytbkofiflfcfjfaa
open Go.RowKit Go.Kp Go.Ser

theorem alike_eq (x y : Nat) (h : FloatKind.f64.format.order x y = some .eq) (w : World) : Calls Try.prog 13 #[.float .f64 x, .float .f64 y] w fun e w' => e = .returned (.bool true) ∧ w' = w := by
  go_enter Try.func13, Try.ntmps13
  go_wp2
  go_returns
  exact ⟨rfl, rfl⟩
set_option maxHeartbeats 1000000 in
theorem same_eq (a a' : Option Addr) (n cap cap' : Nat) (l l' : List Nat) (w : World) (hl : l.length = n) (hq : Eqs l l') (hn : n ≤ 1048576) (hr : Rd w w.heap.size a (fl l)) (hr' : Rd w w.heap.size a' (fl l')) :
    Calls Try.prog 34 #[.slice a n cap, .slice a' n cap'] w (Ret (.bool true) w) := by
  obtain ⟨hnp⟩ : Nonempty (n ≤ 4611686018427387904) := ⟨by omega⟩
  have hl' : l'.length = n := hq.1.symm.trans hl
  have HQ := Lib.hid hq
  clear hq
  rcases Nat.eq_zero_or_pos n with hn0 | hn0
  · subst hn0
    clear hl hl' hr hr'
    go_enter Try.func34, Try.ntmps34
    go_wp2
    go_rounds 1
    go_returns
    exact ⟨rfl, by go_grown⟩
  · rcases hr with hr | ⟨b, off, rfl, hb, hc⟩
    · exact absurd hr (fl_ne hl hn0)
    rcases hr' with hr' | ⟨b', off', rfl, hb', hc'⟩
    · exact absurd hr' (fl_ne hl' hn0)
    have HC := Lib.hid hc
    have HL := Lib.hid hl
    have HC' := Lib.hid hc'
    have HL' := Lib.hid hl'
    clear hc hl hc' hl'
    go_enter Try.func34, Try.ntmps34
    go_wp2
    go_loopw [5] (fun i wr => ∃ k : Nat, k ≤ n ∧ i = .int .i64 k ∧ Below w.heap.size w wr) (fun i _ => n - (intOf i).toNat)
    case atStart => exact ⟨0, Nat.zero_le _, rfl, by go_grown⟩
    case round =>
      obtain ⟨k, hk, rfl, hB⟩ := hrel
      rcases Nat.lt_or_ge k n with hlt | hge
      · obtain ⟨x, hx⟩ := some_at HL.out hlt
        obtain ⟨y, hy⟩ := some_at HL'.out hlt
        have HF := Lib.hid (HQ.out.2 k x y hx hy)
        have e := fl_at hb hB HC.out hx
        have e' := fl_at hb' hB HC'.out hy
        clear hx hy
        go_wp2_with fail
        go_quiet ((go_at_call 13; exact Calls.quiet_of_same (alike_eq _ _ HF.out _)))
        go_wp2
        go_roundw
        case rel => exact ⟨k + 1, by omega, by go_num, below_drewN hB _⟩
        case measure => simp [intOf]; omega
      · go_wp2
        go_returns
        exact ⟨rfl, hB⟩
end Go.Proofs.Ytbkofiflfcfjfaa
