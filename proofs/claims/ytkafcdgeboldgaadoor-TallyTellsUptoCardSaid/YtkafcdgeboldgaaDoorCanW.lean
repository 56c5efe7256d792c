/- Can of both: canB. -/
import Derived.Test.YtkafcdgeboldgaaDoorCan
import Derived.Test.YtkafcdgeboldgaaDoorTCmpW
set_option linter.unusedSimpArgs false
set_option linter.unusedVariables false
namespace Go.Proofs.YtkafcdgeboldgaaDoor
open Go.RowKit Go.Kp

theorem eqZero (c su mi ma : Int) (w : World) : (Op.equalIn 10000 24 (.agg #[.int .i64 c, .int .i64 su, .int .i64 mi, .int .i64 ma]) (.agg #[.int .i64 0, .int .i64 0, .int .i64 0, .int .i64 0])).run Tryd.prog w = .ok ((Tally.mk c su mi ma).same Tally.zero) w := eqTally ⟨c, su, mi, ma⟩ Tally.zero w
attribute [local go_sem high] eqZero
theorem canB_low (t : Tally) (h : t.c < 1) : canB t = t.same Tally.zero := by
  obtain ⟨c, su, mi, ma⟩ := t
  unfold canB
  rw [if_pos h]
  unfold Tally.same
  rw [Bool.eq_iff_iff]
  simp
theorem canB_out (t : Tally) (h : ¬ t.c < 1) (h2 : 9007199254740992 < t.c ∨ t.ma < t.mi) : canB t = false := by
  unfold canB
  rw [if_neg h, if_pos h2]
theorem canB_one (su mi ma : Int) (h2 : mi ≤ ma) : canB ⟨1, su, mi, ma⟩ = decide (mi = su ∧ ma = su) := by
  unfold canB
  rw [if_neg (by simp), if_neg (by simp; omega), if_pos rfl]
theorem canB_most (su mi ma : Int) (h2 : mi ≤ ma) : canB ⟨9007199254740992, su, mi, ma⟩ = decide (mi < ma ∨ Lib.ctz 64 (nat64 mi) ≤ Lib.ctz 64 (nat64 su)) := by
  unfold canB
  rw [if_neg (by simp), if_neg (by simp; omega), if_neg (by simp), if_pos rfl]
theorem canB_mid (c su mi ma : Int) (h : 1 < c) (h1 : c < 9007199254740992) (h2 : mi ≤ ma) :
    canB ⟨c, su, mi, ma⟩ = decide (nat64 (su - (mi * (c - 1) + ma)) ≤ (c - 2).toNat * (ma - mi).toNat) := by
  unfold canB
  rw [if_neg (by simp; omega), if_neg (by simp; omega), if_neg (by simp; omega), if_neg (by simp; omega)]

theorem mul64_int (a b : Int) (ha : 0 ≤ a ∧ a < 18446744073709551616) (hb : 0 ≤ b ∧ b < 18446744073709551616) (w : World) :
    Calls Tryd.prog 29 #[.int .u64 a, .int .u64 b] w (Ret (.tuple #[.int .u64 (a * b / 18446744073709551616), .int .u64 (a * b % 18446744073709551616)]) w) := by
  obtain ⟨x, rfl⟩ := Int.eq_ofNat_of_zero_le ha.1
  obtain ⟨y, rfl⟩ := Int.eq_ofNat_of_zero_le hb.1
  have h := mul64_any x y (by omega) (by omega) w
  simpa using h
theorem times_int (a b : Int) (ha : 0 ≤ a ∧ a < 18446744073709551616) (hb : 0 ≤ b ∧ b < 18446744073709551616) (w : World) :
    Calls Tryd.prog 31 #[.int .u64 a, .int .u64 b] w (Ret (.tuple #[.int .u64 (a * b / 18446744073709551616), .int .u64 (a * b % 18446744073709551616)]) w) := by
  obtain ⟨x, rfl⟩ := Int.eq_ofNat_of_zero_le ha.1
  obtain ⟨y, rfl⟩ := Int.eq_ofNat_of_zero_le hb.1
  have h := times_any x y (by omega) (by omega) w
  simpa using h
theorem canB_far (c su mi ma hi lo d : Int) (h : 1 < c) (h1 : c < 9007199254740992) (h2 : mi ≤ ma) (hh : hi = (c - 2) * (ma - mi) / 18446744073709551616) (hl : lo = (c - 2) * (ma - mi) % 18446744073709551616)
    (hd : d = nat64 (su - (mi * (c - 1) + ma))) : canB ⟨c, su, mi, ma⟩ = (decide (0 < hi) || decide (d ≤ lo)) := by
  rw [canB_mid c su mi ma h h1 h2]
  have hn := nat64_lt (su - (mi * (c - 1) + ma))
  have e : ((c - 2).toNat * (ma - mi).toNat : Nat) = (c - 2) * (ma - mi) := by rw [Int.natCast_mul, Int.toNat_of_nonneg (by omega), Int.toNat_of_nonneg (by omega)]
  have h0 : 0 ≤ (c - 2) * (ma - mi) := Int.mul_nonneg (by omega) (by omega)
  generalize (c - 2) * (ma - mi) = p at *
  generalize (c - 2).toNat * (ma - mi).toNat = q at *
  subst hd
  generalize nat64 (su - (mi * (c - 1) + ma)) = n at *
  rw [Bool.eq_iff_iff]
  simp
  omega

set_option maxHeartbeats 2000000 in
theorem can_any (t : Tally) (w : World) (ht : t.ok) (hT : Tab w) : Calls Tryd.prog 19 #[t.val] w (Ret (.bool (canB t)) w) := by
  obtain ⟨c, su, mi, ma⟩ := t
  have HT := Lib.hid hT
  have HO := Lib.hid ht
  clear hT ht
  go_enter Tryd.func19, Tryd.ntmps19
  go_wp2_with fail
  refine (width_any ⟨c, su, mi, ma⟩ _).mono ?_
  rintro en w1 ⟨rfl, hb⟩
  have hB : Below w.heap.size w w1 := bnext (by go_grown) hb
  have A : Blk w1 w.heap.size 24 (Tally.mk c su mi ma).cells.toArray := Blk.below (by simp (disch := (first | omega | (simp only [World.size_alloc, World.size_setCell, World.size_drew] <;> omega) | fail)) only [Blk, heap_old, heap_at, heap_set_same, heap_set_ne, heap_drew', Option.map_some, putO_cells]) hb
  have T1 := Lib.hid (tab_below HT.out hB)
  clear hb HT
  have cA := A.cell
  have lA := A.lt
  have HW := Lib.hid (show mi ≤ ma → (nat64 (ma - mi) : Int) = ma - mi by
    intro h
    have := HO.out
    unfold Tally.ok at this
    simp only at this
    unfold nat64; omega)
  have HN := Lib.hid (nat64_lt (ma - mi))
  generalize nat64 (ma - mi) = wn at *
  obtain ⟨wd, hwd⟩ : ∃ wd : Int, (wn : Int) = wd := ⟨_, rfl⟩
  rw [hwd]
  rw [hwd] at HW
  have HD := Lib.hid hwd
  clear hwd
  rcases Int.lt_or_le c 1 with h1 | h1
  · have HC := Lib.hid (canB_low ⟨c, su, mi, ma⟩ h1)
    go_wp2_with fail
    go_returns
    exact ⟨by rw [HC.out]; rfl, bnext hB (by go_grown)⟩
  have h1' : ¬ c < 1 := by omega
  rcases Int.lt_or_le 9007199254740992 c with h2 | h2
  · have HC := Lib.hid (canB_out ⟨c, su, mi, ma⟩ h1' (.inl h2))
    go_wp2_with fail
    go_returns
    exact ⟨by rw [HC.out]; rfl, bnext hB (by go_grown)⟩
  have h2' : ¬ 9007199254740992 < c := by omega
  rcases Int.lt_or_le ma mi with h3 | h3
  · have HC := Lib.hid (canB_out ⟨c, su, mi, ma⟩ h1' (.inr h3))
    go_wp2_with fail
    go_returns
    exact ⟨by rw [HC.out]; rfl, bnext hB (by go_grown)⟩
  have h3' : ¬ ma < mi := by omega
  have hw := HW.out h3
  have HWD := Lib.hid hw
  clear hw HW
  rcases Decidable.em (c = 1) with h4 | h4
  · subst h4
    have HC := Lib.hid (canB_one su mi ma h3)
    clear h1 h1' h2 h2' 
    rcases Decidable.em (mi = su) with h5 | h5
    · subst h5
      rcases Decidable.em (wd = 0) with h6 | h6
      · subst h6
        have E := Lib.hid (show canB ⟨1, mi, mi, ma⟩ = true by rw [HC.out]; simp; have := HWD.out; omega)
        clear HC
        go_wp2_with fail
        go_returns
        exact ⟨by rw [E.out]; rfl, bnext hB (by go_grown)⟩
      · have E := Lib.hid (show canB ⟨1, mi, mi, ma⟩ = false by rw [HC.out]; simp; have := HWD.out; omega)
        have h6' : (wd == 0) = false := by simp; exact h6
        go_wp2_with fail
        go_returns
        exact ⟨by rw [E.out]; rfl, bnext hB (by go_grown)⟩
    · have E := Lib.hid (show canB ⟨1, su, mi, ma⟩ = false by rw [HC.out]; simp; intro h; exact absurd h h5)
      have h5' : (mi == su) = false := by simp; exact h5
      go_wp2_with fail
      go_returns
      exact ⟨by rw [E.out]; rfl, bnext hB (by go_grown)⟩
  rcases Decidable.em (c = 9007199254740992) with h5 | h5
  · subst h5
    have HC := Lib.hid (canB_most su mi ma h3)
    clear h1 h1' h2 h2' h4
    rcases Decidable.em (wd = 0) with h6 | h6
    · subst h6
      have e1 := wrap_nat64 su
      have e2 := wrap_nat64 mi
      have E := Lib.hid (show canB ⟨9007199254740992, su, mi, ma⟩ = decide (Lib.ctz 64 (nat64 mi) ≤ Lib.ctz 64 (nat64 su)) by
        rw [HC.out]
        have hh : ¬ mi < ma := by have := HWD.out; omega
        simp [hh])
      clear HC
      have ls := nat64_lt su
      have lm := nat64_lt mi
      generalize nat64 su = ns at *
      generalize nat64 mi = nm at *
      go_wp2_with (go_in)
      (refine region_keep (fun b => b < w1.heap.size) 10 [(0, true), (1, true), (2, true), (3, true), (4, true), (5, true), (7, true), (8, true), (9, true), (6, false)] (by kernel_rfl) (fun _ _ d _ _ h => by cases d <;> exact h) (by kernel_rfl) ?_; simp only [withOps, List.getElem?_toArray, List.getElem?_cons_zero, List.getElem?_cons_succ, List.drop_succ_cons, List.drop_zero])
      (repeat (refine keep_quiet (v := ?_) rfl ?_ ?_; rotate_left; (focus (intro w' hw'; go_simp; (try with_reducible rfl); done)); try simp only [Act.put, List.setIfInBounds_toArray, List.set_cons_zero, List.set_cons_succ]))
      (with_reducible refine plan_loud (fun K hK => ?_))
      go_simp
      refine (tz_any ns ls _ (tab_below T1.out (by go_grown))).mono ?_
      rintro en w2 ⟨rfl, hb2⟩
      refine hK _ _ ((Keep.refl _ _).below hb2 (by intro x h; simpa using h)) ?_
      clear hK K
      (with_reducible refine plan_end ?_)
      (try simp only [Act.put, List.setIfInBounds_toArray, List.set_cons_zero, List.set_cons_succ])
      have hB2 : Below w1.heap.size w1 w2 := bnext (by go_grown) hb2
      clear hb2 cA
      go_wp2_with fail
      refine (tz_any nm lm _ (tab_below T1.out hB2)).mono ?_
      rintro en w3 ⟨rfl, hb3⟩
      have hB3 : Below w1.heap.size w1 w3 := bnext hB2 hb3
      go_wp2
      go_returns
      exact ⟨by rw [E.out]; simp, bnext hB hB3⟩
    · have E := Lib.hid (show canB ⟨9007199254740992, su, mi, ma⟩ = true by rw [HC.out]; simp; have := HWD.out; omega)
      have h6' : (0 : Int) < wd := by have := HD.out; omega
      go_wp2_with (go_in)
      (refine region_keep (fun _ => True) 10 [(0, true), (1, true), (2, true), (3, true), (4, true), (5, true), (7, true), (8, true), (9, true), (6, false)] (by kernel_rfl) (fun _ _ d _ _ h => by cases d <;> exact h) (by kernel_rfl) ?_; simp only [withOps, List.getElem?_toArray, List.getElem?_cons_zero, List.getElem?_cons_succ, List.drop_succ_cons, List.drop_zero])
      (iterate 3 (refine keep_quiet (v := ?_) rfl ?_ ?_; rotate_left; (focus (intro w' hw'; go_simp; (try with_reducible rfl); done)); try simp only [Act.put, List.setIfInBounds_toArray, List.set_cons_zero, List.set_cons_succ]))
      (iterate 6 ((with_reducible refine plan_skip ?_ ?_); (focus rfl); try simp only [Act.put, List.setIfInBounds_toArray, List.set_cons_zero, List.set_cons_succ]))
      (with_reducible refine plan_loud (fun K hK => ?_))
      go_simp
      (with_reducible refine hK _ _ (Keep.refl _ _) ?_)
      clear hK K
      (with_reducible refine plan_end ?_)
      (try simp only [Act.put, List.setIfInBounds_toArray, List.set_cons_zero, List.set_cons_succ])
      go_wp2
      go_returns
      exact ⟨by rw [E.out]; rfl, bnext hB (by go_grown)⟩
  · have k1 : 1 < c := by omega
    have k2 : c < 9007199254740992 := by omega
    have HC := Lib.hid (canB_mid c su mi ma k1 k2 h3)
    have h4' : (c == 1) = false := by simp; exact h4
    have h5' : (c == 9007199254740992) = false := by simp; exact h5
    clear h4 h5
    go_wp2_with fail
    refine (mul64_int (c - 2) wd ⟨by omega, by omega⟩ ⟨by have := HD.out; omega, by have := HD.out; have := HN.out; omega⟩ _).mono ?_
    rintro en w2 ⟨rfl, hb2⟩
    have hB2 : Below w1.heap.size w1 w2 := hb2
    have cc : w2.cell? ⟨w.heap.size, 0, none⟩ = some (.int .i64 c) := (hB2.cell (p := ⟨w.heap.size, 0, none⟩) lA).trans (cA 0)
    have cs : w2.cell? ⟨w.heap.size, 1, none⟩ = some (.int .i64 su) := (hB2.cell (p := ⟨w.heap.size, 1, none⟩) lA).trans (cA 1)
    have ci : w2.cell? ⟨w.heap.size, 2, none⟩ = some (.int .i64 mi) := (hB2.cell (p := ⟨w.heap.size, 2, none⟩) lA).trans (cA 2)
    have ca : w2.cell? ⟨w.heap.size, 3, none⟩ = some (.int .i64 ma) := (hB2.cell (p := ⟨w.heap.size, 3, none⟩) lA).trans (cA 3)
    clear hb2 cA
    obtain ⟨hi, hhi⟩ : ∃ hi : Int, (c - 2) * wd / 18446744073709551616 = hi := ⟨_, rfl⟩
    obtain ⟨lo, hlo⟩ : ∃ lo : Int, (c - 2) * wd % 18446744073709551616 = lo := ⟨_, rfl⟩
    rw [hhi, hlo]
    have H1 := Lib.hid hhi
    have H2 := Lib.hid hlo
    clear hhi hlo
    obtain ⟨d, hd⟩ : ∃ d : Int, IntKind.u64.wrap (wrap64 (su - wrap64 (wrap64 (mi * (c - 1)) + ma))) = d := ⟨_, rfl⟩
    have E := Lib.hid (show canB ⟨c, su, mi, ma⟩ = (decide (0 < hi) || decide (d ≤ lo)) by
      refine canB_far c su mi ma hi lo d k1 k2 h3 ?_ ?_ ?_
      · rw [← HWD.out]; exact H1.out.symm
      · rw [← HWD.out]; exact H2.out.symm
      · rw [← hd, IntKind.wrap_u64]
        unfold nat64 wrap64
        generalize mi * (c - 1) = p
        omega)
    clear HC H1 H2 HN HD HWD
    rcases Int.lt_or_le 0 hi with h7 | h7
    · have E2 := Lib.hid (E.out.trans (show _ = true by simp [h7]))
      go_wp2_with fail
      go_returns
      exact ⟨by rw [E2.out]; rfl, bnext hB hB2⟩
    · have h7' : ¬ 0 < hi := by omega
      go_wp2_with fail
      go_returns
      exact ⟨by rw [E.out]; rfl, bnext hB hB2⟩

set_option maxHeartbeats 2000000 in
theorem refcan_any (t : Tally) (w : World) (ht : t.ok) : Calls Tryd.prog 20 #[t.val] w (Ret (.bool (canB t)) w) := by
  obtain ⟨c, su, mi, ma⟩ := t
  have HO := Lib.hid ht
  clear ht
  go_enter Tryd.func20, Tryd.ntmps20
  go_upto_region 1 with (fail)
  (refine wp_at (fun w1 => Blk w1 w.heap.size 24 (Tally.mk c su mi ma).cells.toArray ∧ Below w.heap.size w w1) ⟨heap_at rfl, by go_grown⟩ ?_)
  rintro w1 ⟨A, hB⟩
  have cc : w1.cell? ⟨w.heap.size, 0, none⟩ = some (.int .i64 c) := A.cell 0
  have cs : w1.cell? ⟨w.heap.size, 1, none⟩ = some (.int .i64 su) := A.cell 1
  have ci : w1.cell? ⟨w.heap.size, 2, none⟩ = some (.int .i64 mi) := A.cell 2
  have ca : w1.cell? ⟨w.heap.size, 3, none⟩ = some (.int .i64 ma) := A.cell 3
  have lA := A.lt
  rcases Int.lt_or_le c 0 with h1 | h1
  · have HC := Lib.hid (show canB ⟨c, su, mi, ma⟩ = false by unfold canB; rw [if_pos (by simp; omega)]; simp; omega)
    go_wp2_with fail
    go_returns
    exact ⟨by rw [HC.out]; rfl, bnext hB (by go_grown)⟩
  have h1' : ¬ c < 0 := by omega
  rcases Int.lt_or_le 9007199254740992 c with h2 | h2
  · have HC := Lib.hid (canB_out ⟨c, su, mi, ma⟩ (by simp; omega) (.inl h2))
    go_wp2_with fail
    go_returns
    exact ⟨by rw [HC.out]; rfl, bnext hB (by go_grown)⟩
  have h2' : ¬ 9007199254740992 < c := by omega
  rcases Decidable.em (c = 0) with h0 | h0
  · subst h0
    have HC := Lib.hid (canB_low ⟨0, su, mi, ma⟩ (by simp))
    go_wp2_with fail
    go_returns
    exact ⟨by rw [HC.out]; rfl, bnext hB (by go_grown)⟩
  have h0' : (c == 0) = false := by simp; exact h0
  have h0'' : ¬ c < 1 := by omega
  have HN := Lib.hid h0''
  clear h0 h0''
  rcases Int.lt_or_le ma mi with h3 | h3
  · have HC := Lib.hid (canB_out ⟨c, su, mi, ma⟩ HN.out (.inr h3))
    go_wp2_with fail
    go_returns
    exact ⟨by rw [HC.out]; rfl, bnext hB (by go_grown)⟩
  have h3' : ¬ ma < mi := by omega
  rcases Decidable.em (c = 1) with h4 | h4
  · subst h4
    have HC := Lib.hid (canB_one su mi ma h3)
    rcases Decidable.em (mi = su) with h5 | h5
    · subst h5
      have E := Lib.hid (show canB ⟨1, mi, mi, ma⟩ = (ma == mi) by rw [HC.out]; rw [Bool.eq_iff_iff]; simp)
      clear HC
      go_wp2_with fail
      go_returns
      exact ⟨by rw [E.out]; rfl, bnext hB (by go_grown)⟩
    · have E := Lib.hid (show canB ⟨1, su, mi, ma⟩ = false by rw [HC.out]; simp; intro h; exact absurd h h5)
      have h5' : (mi == su) = false := by simp; exact h5
      go_wp2_with fail
      go_returns
      exact ⟨by rw [E.out]; rfl, bnext hB (by go_grown)⟩
  have h4' : (c == 1) = false := by simp; exact h4
  obtain ⟨wd, hwd⟩ : ∃ wd : Int, IntKind.u64.wrap (IntKind.u64.wrap ma - IntKind.u64.wrap mi) = wd := ⟨_, rfl⟩
  have HWD := Lib.hid (show wd = ma - mi ∧ 0 ≤ wd ∧ wd < 18446744073709551616 by
    rw [← hwd]
    have := HO.out
    unfold Tally.ok at this
    simp only at this
    rw [IntKind.wrap_u64, IntKind.wrap_u64, IntKind.wrap_u64]; omega)
  rcases Decidable.em (c = 9007199254740992) with h5 | h5
  · subst h5
    have HC := Lib.hid (canB_most su mi ma h3)
    clear h1 h1' h2 h2' h4
    rcases Decidable.em (wd = 0) with h6 | h6
    · subst h6
      have e1 := wrap_nat64 su
      have e2 := wrap_nat64 mi
      have E := Lib.hid (show canB ⟨9007199254740992, su, mi, ma⟩ = decide (Lib.ctz 64 (nat64 mi) ≤ Lib.ctz 64 (nat64 su)) by
        rw [HC.out]
        have hh : ¬ mi < ma := by have := HWD.out; omega
        simp [hh])
      clear HC
      rw [e2] at hwd
      have ls := nat64_lt su
      have lm := nat64_lt mi
      generalize hns : nat64 su = ns at *
      generalize hnm : nat64 mi = nm at *
      clear hns hnm
      go_wp2_with (go_in)
      (refine region_keep (fun b => b < w1.heap.size) 10 [(0, true), (1, true), (2, true), (3, true), (4, true), (5, true), (7, true), (8, true), (9, true), (6, false)] (by kernel_rfl) (fun _ _ d _ _ h => by cases d <;> exact h) (by kernel_rfl) ?_; simp only [withOps, List.getElem?_toArray, List.getElem?_cons_zero, List.getElem?_cons_succ, List.drop_succ_cons, List.drop_zero])
      (repeat (refine keep_quiet (v := ?_) rfl ?_ ?_; rotate_left; (focus (intro w' hw'; go_simp; (try with_reducible rfl); done)); try simp only [Act.put, List.setIfInBounds_toArray, List.set_cons_zero, List.set_cons_succ]))
      (with_reducible refine plan_loud (fun K hK => ?_))
      go_simp
      refine (twos_any ns ls _).mono ?_
      rintro en w2 ⟨rfl, hb2⟩
      refine hK _ _ ((Keep.refl _ _).below hb2 (by intro x h; simpa using h)) ?_
      clear hK K
      (with_reducible refine plan_end ?_)
      (try simp only [Act.put, List.setIfInBounds_toArray, List.set_cons_zero, List.set_cons_succ])
      have hB2 : Below w1.heap.size w1 w2 := bnext (by go_grown) hb2
      clear hb2 cc cs ci ca
      go_wp2_with fail
      refine (twos_any nm lm _).mono ?_
      rintro en w3 ⟨rfl, hb3⟩
      have hB3 : Below w1.heap.size w1 w3 := bnext hB2 hb3
      go_wp2
      go_returns
      exact ⟨by rw [E.out]; simp, bnext hB hB3⟩
    · have E := Lib.hid (show canB ⟨9007199254740992, su, mi, ma⟩ = true by rw [HC.out]; simp; have := HWD.out; omega)
      have h6' : (0 : Int) < wd := by have := HWD.out; omega
      go_wp2_with (go_in)
      (refine region_keep (fun _ => True) 10 [(0, true), (1, true), (2, true), (3, true), (4, true), (5, true), (7, true), (8, true), (9, true), (6, false)] (by kernel_rfl) (fun _ _ d _ _ h => by cases d <;> exact h) (by kernel_rfl) ?_; simp only [withOps, List.getElem?_toArray, List.getElem?_cons_zero, List.getElem?_cons_succ, List.drop_succ_cons, List.drop_zero])
      (iterate 3 (refine keep_quiet (v := ?_) rfl ?_ ?_; rotate_left; (focus (intro w' hw'; go_simp; (try with_reducible rfl); done)); try simp only [Act.put, List.setIfInBounds_toArray, List.set_cons_zero, List.set_cons_succ]))
      (iterate 6 ((with_reducible refine plan_skip ?_ ?_); (focus rfl); try simp only [Act.put, List.setIfInBounds_toArray, List.set_cons_zero, List.set_cons_succ]))
      (with_reducible refine plan_loud (fun K hK => ?_))
      go_simp
      (with_reducible refine hK _ _ (Keep.refl _ _) ?_)
      clear hK K
      (with_reducible refine plan_end ?_)
      (try simp only [Act.put, List.setIfInBounds_toArray, List.set_cons_zero, List.set_cons_succ])
      go_wp2
      go_returns
      exact ⟨by rw [E.out]; rfl, bnext hB (by go_grown)⟩
  · have k1 : 1 < c := by have := HN.out; omega
    have k2 : c < 9007199254740992 := by omega
    have h5' : (c == 9007199254740992) = false := by simp; exact h5
    clear h4 h5
    obtain ⟨lw, hlw⟩ : ∃ lw : Int, IntKind.u64.wrap (IntKind.u64.wrap (IntKind.u64.wrap mi + IntKind.u64.wrap ma) + IntKind.u64.wrap ((c - 2) * IntKind.u64.wrap mi)) = lw := ⟨_, rfl⟩
    go_wp2_with fail
    refine (times_int (c - 2) wd ⟨by omega, by omega⟩ ⟨HWD.out.2.1, HWD.out.2.2⟩ _).mono ?_
    rintro en w2 ⟨rfl, hb2⟩
    have hB2 : Below w1.heap.size w1 w2 := hb2
    have cc2 : w2.cell? ⟨w.heap.size, 0, none⟩ = some (.int .i64 c) := (hB2.cell (p := ⟨w.heap.size, 0, none⟩) lA).trans cc
    have cs2 : w2.cell? ⟨w.heap.size, 1, none⟩ = some (.int .i64 su) := (hB2.cell (p := ⟨w.heap.size, 1, none⟩) lA).trans cs
    clear hb2 cc cs ci ca
    obtain ⟨hi, hhi⟩ : ∃ hi : Int, (c - 2) * wd / 18446744073709551616 = hi := ⟨_, rfl⟩
    obtain ⟨lo, hlo⟩ : ∃ lo : Int, (c - 2) * wd % 18446744073709551616 = lo := ⟨_, rfl⟩
    rw [hhi, hlo]
    obtain ⟨d, hd⟩ : ∃ d : Int, IntKind.u64.wrap (IntKind.u64.wrap su - lw) = d := ⟨_, rfl⟩
    have E := Lib.hid (show canB ⟨c, su, mi, ma⟩ = (decide (0 < hi) || decide (d ≤ lo)) by
      refine canB_far c su mi ma hi lo d k1 k2 h3 ?_ ?_ ?_
      · rw [← HWD.out.1]; exact hhi.symm
      · rw [← HWD.out.1]; exact hlo.symm
      · rw [← hd, ← hlw]
        simp only [IntKind.wrap_u64]
        unfold nat64
        have e1 : (c - 2) * (mi % 18446744073709551616) = (c - 2) * mi - 18446744073709551616 * ((c - 2) * (mi / 18446744073709551616)) := by
          have h : mi % 18446744073709551616 = mi - 18446744073709551616 * (mi / 18446744073709551616) := by omega
          rw [h, Int.mul_sub, Int.mul_left_comm]
        have e2 : mi * (c - 1) = (c - 2) * mi + mi := by
          rw [show c - 1 = (c - 2) + 1 by omega, Int.mul_add, Int.mul_one, Int.mul_comm]
        rw [e1, e2]
        generalize (c - 2) * mi = p
        generalize (c - 2) * (mi / 18446744073709551616) = q
        omega)
    clear hhi hlo HWD hlw hwd
    rcases Int.lt_or_le 0 hi with h7 | h7
    · have E2 := Lib.hid (E.out.trans (show _ = true by simp [h7]))
      go_wp2_with fail
      go_returns
      exact ⟨by rw [E2.out]; rfl, bnext hB hB2⟩
    · have h7' : ¬ 0 < hi := by omega
      go_wp2_with fail
      go_returns
      exact ⟨by rw [E.out]; rfl, bnext hB hB2⟩
end Go.Proofs.YtkafcdgeboldgaaDoor
