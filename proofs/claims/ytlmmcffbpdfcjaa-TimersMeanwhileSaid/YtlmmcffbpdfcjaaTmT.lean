/- The document's place, Has, Drop, Due, Same: what they compute. -/
import Derived.Test.YtlmmcffbpdfcjaaTmKn
import Derived.Test.YtlmmcffbpdfcjaaTmTM
import Derived.Laws.StructEq
import Derived.WalkMore
set_option linter.unusedSimpArgs false
set_option linter.unusedVariables false
namespace Go.Proofs.Ytlmmcffbpdfcjaa
open Go.RowKit Go.Kp Go.ChangeMaps

/-- Are two timers the same? -/
theorem eqT_val (x y : Tm.T) (w : World) : (Op.equalIn 10000 25 (vT x) (vT y)).run Try.prog w = .ok (decide (x = y)) w := by
  have e : decide (x = y) = ((x.a == y.a) && ((x.k.toList == y.k.toList) && ((x.s == y.s) && (x.e == y.e)))) := by
    by_cases h : x = y
    · subst h; simp
    · have h2 : ¬ (x.a = y.a ∧ x.k.toList = y.k.toList ∧ x.s = y.s ∧ x.e = y.e) := fun ⟨h1, h2, h3, h4⟩ => h (Tm.T.ext' h1 (Tm.toList_inj h2) h3 h4)
      simp only [h, decide_false]
      symm
      simpa using h2
  rw [e]
  go_simp
  by_cases h1 : x.a = y.a
  · by_cases h2 : x.k.toList = y.k.toList
    · by_cases h3 : x.s = y.s
      · by_cases h4 : x.e = y.e <;> simp [h1, h2, h3, h4, Sem.run_pure]
      · simp [h1, h2, h3, Sem.run_pure]
    · simp [h1, h2, Sem.run_pure]
  · simp [h1, Sem.run_pure]
theorem eqT (x y : Tm.T) (w : World) : (binOp .eql 25 (vT x) (vT y)).run Try.prog w = .ok (.bool (decide (x = y))) w := by
  rw [run_eql_struct, eqT_val]; rfl
theorem neqT (x y : Tm.T) (w : World) : (binOp .neq 25 (vT x) (vT y)).run Try.prog w = .ok (.bool (!decide (x = y))) w := by
  rw [run_neq_struct, eqT_val]; rfl

set_option maxHeartbeats 1000000 in
theorem place_any (a : Option Addr) (n cap : Nat) (l : List Tm.T) (t : Tm.T) (w : World) (hl : l.length = n) (hn : n ≤ 5000000000000) (hr : Rd w w.heap.size a (l.flatMap cT)) :
    Calls Try.prog 33 #[.slice a n cap, vT t] w (Ret (.int .i64 (Tm.place l t)) w) := by
  have HL := Lib.hid hl
  have HR := Lib.hid hr
  clear hl hr
  go_enter Try.func33, Try.ntmps33
  go_wp2_with fail
  go_loopw [5] (fun vi wr => ∃ k : Nat, vi = .int .i64 k ∧ k ≤ n ∧ (∀ x ∈ l.take k, Tm.lt x t) ∧ Blk wr w.heap.size 25 (cT t).toArray ∧ Below w.heap.size w wr) (fun vi _ => n - (intOf vi).toNat)
  case atStart => exact ⟨0, rfl, Nat.zero_le _, by simp, heap_at rfl, by go_grown⟩
  case round =>
    obtain ⟨k, rfl, hk, hall, A, hB⟩ := hrel
    have HA := Lib.hid hall
    have HB := Lib.hid hB
    have HR1 := Lib.hid (HR.out.below hB)
    have lA := A.lt
    have a0 := A.cell 0
    have a1 := A.cell 1
    have a2 := A.cell 2
    have a3 := A.cell 3
    simp only [List.getElem?_toArray, List.getElem?_cons_zero, List.getElem?_cons_succ] at a0 a1 a2 a3
    rcases Nat.lt_or_ge k n with hlt | hge
    · obtain ⟨b, off, rfl, hb, hc⟩ := rd_tms HR1.out (by rw [HL.out]; omega)
      obtain ⟨x, hx⟩ : ∃ x, l[k]? = some x := ⟨_, List.getElem?_eq_getElem (by rw [HL.out]; exact hlt)⟩
      obtain ⟨c0, c1, c2, c3⟩ := cells4 hc hx
      have HX := Lib.hid hx
      have hb' : b < wr.heap.size := Nat.lt_of_lt_of_le hb HB.out.size
      clear hc hx hall hB
      go_wp2_with (go_in)
      (refine region_keep (fun k => k < wr.heap.size) 10 [(0, true), (1, true), (2, true), (3, true), (4, true), (5, true), (6, true), (7, true), (8, true), (9, true)] (by kernel_rfl) (fun _ _ d _ _ h => by cases d <;> exact h) (by kernel_rfl) ?_; simp only [withOps, List.getElem?_toArray, List.getElem?_cons_zero, List.getElem?_cons_succ, List.drop_succ_cons, List.drop_zero])
      (iterate 10 (refine keep_quiet (v := ?_) rfl ?_ ?_; rotate_left; (focus (intro w' hw'; go_simp; (try with_reducible rfl); done)); try simp only [Act.put, List.setIfInBounds_toArray, List.set_cons_zero, List.set_cons_succ]))
      (with_reducible refine plan_end ?_)
      (try simp only [Act.put, List.setIfInBounds_toArray, List.set_cons_zero, List.set_cons_succ])
      go_wp2_with fail
      refine (refCompare_any x t _).mono ?_
      rintro en w2 ⟨rfl, hb2⟩
      have hB2 : Below w.heap.size w w2 := bnext HB.out (bnext (by go_grown) hb2)
      have A2 : Blk w2 w.heap.size 25 (cT t).toArray := A.below (bnext (by go_grown) hb2)
      have HB2 := Lib.hid hB2
      clear hb2 hB2 c0 c1 c2 c3 a0 a1 a2 a3
      by_cases hlx : Tm.cmp x t < 0
      · have hall2 : ∀ y ∈ l.take (k + 1), Tm.lt y t := fun y hy => by
          rw [List.take_add_one, HX.out] at hy
          simp only [Option.toList_some, List.mem_append, List.mem_singleton] at hy
          rcases hy with h | rfl
          · exact HA.out y h
          · exact hlx
        have HA2 := Lib.hid hall2
        clear hall2
        go_wp2_with fail
        go_roundw
        case rel => exact ⟨k + 1, by go_num, by omega, HA2.out, A2, HB2.out⟩
        case measure => simp [intOf]; omega
      · have hfin : Tm.place l t = k := Tm.place_is (by rw [HL.out]; omega) HA.out (fun y hy => by rw [HX.out] at hy; cases hy; exact hlx)
        have HP := Lib.hid hfin
        clear hfin
        go_wp2_with fail
        go_returns
        rw [HP.out]
        exact ⟨rfl, HB2.out⟩
    · obtain rfl : k = n := by omega
      have hfin : Tm.place l t = k := Tm.place_is (by rw [HL.out]; omega) HA.out (fun y hy => by rw [List.getElem?_eq_none (by rw [HL.out]; omega)] at hy; cases hy)
      have HP := Lib.hid hfin
      clear hfin hall hB
      go_wp2_with (go_in)
      (refine region_keep (fun k => k < wr.heap.size) 10 [(0, true), (1, true), (2, true), (3, true), (4, true), (5, true), (6, true), (7, true), (8, true), (9, true)] (by kernel_rfl) (fun _ _ d _ _ h => by cases d <;> exact h) (by kernel_rfl) ?_; simp only [withOps, List.getElem?_toArray, List.getElem?_cons_zero, List.getElem?_cons_succ, List.drop_succ_cons, List.drop_zero])
      (iterate 5 (refine keep_quiet (v := ?_) rfl ?_ ?_; rotate_left; (focus (intro w' hw'; go_simp; (try with_reducible rfl); done)); try simp only [Act.put, List.setIfInBounds_toArray, List.set_cons_zero, List.set_cons_succ]))
      (iterate 5 ((with_reducible refine plan_skip ?_ ?_); (focus rfl); try simp only [Act.put, List.setIfInBounds_toArray, List.set_cons_zero, List.set_cons_succ]))
      (with_reducible refine plan_end ?_)
      (try simp only [Act.put, List.setIfInBounds_toArray, List.set_cons_zero, List.set_cons_succ])
      go_wp2_with fail
      go_returns
      rw [HP.out]
      exact ⟨rfl, below_drewN HB.out 1⟩

attribute [local go_sem high] eqT neqT

set_option maxHeartbeats 1000000 in
theorem Has_ref (a : Option Addr) (n cap : Nat) (l : List Tm.T) (t : Tm.T) (w : World) (hl : l.length = n) (hn : n ≤ 5000000000000) (hr : Rd w w.heap.size a (l.flatMap cT)) (hs : l.Pairwise Tm.lt) :
    Calls Try.prog 32 #[.slice a n cap, vT t] w (Ret (.bool (decide (t ∈ l))) w) := by
  have HL := Lib.hid hl
  have HR := Lib.hid hr
  have HS := Lib.hid hs
  have hp := Tm.place_le l t
  rw [hl] at hp
  clear hl hr hs
  go_enter Try.func32, Try.ntmps32
  go_upto_region 1 with (fail)
  (refine wp_at (fun w1 => Blk w1 w.heap.size 25 (cT t).toArray ∧ Below w.heap.size w w1) ⟨heap_at rfl, by go_grown⟩ ?_)
  rintro w1 ⟨A, hB1⟩
  have lA := A.lt
  have a0 := A.cell 0
  have a1 := A.cell 1
  have a2 := A.cell 2
  have a3 := A.cell 3
  simp only [List.getElem?_toArray, List.getElem?_cons_zero, List.getElem?_cons_succ] at a0 a1 a2 a3
  go_wp2_with fail
  refine (place_any a n cap l t _ HL.out hn ((HR.out.below hB1).more hB1.size)).mono ?_
  rintro en w2 ⟨rfl, hb2⟩
  have hB2 := bnext hB1 hb2
  have A2 := A.below hb2
  have HR2 := Lib.hid (HR.out.below hB2)
  have HB2 := Lib.hid hB2
  have hsz := hB2.size
  clear hb2 hB1 hB2 a0 a1 a2 a3 A lA
  have lA := A2.lt
  have a0 := A2.cell 0
  have a1 := A2.cell 1
  have a2 := A2.cell 2
  have a3 := A2.cell 3
  simp only [List.getElem?_toArray, List.getElem?_cons_zero, List.getElem?_cons_succ] at a0 a1 a2 a3
  have HI := Lib.hid (Tm.has_is HS.out t)
  generalize hk : Tm.place l t = k at *
  rcases Nat.lt_or_ge k n with hlt | hge
  · obtain ⟨b, off, rfl, hb, hc⟩ := rd_tms HR2.out (by rw [HL.out]; omega)
    obtain ⟨x, hx⟩ : ∃ x, l[k]? = some x := ⟨_, List.getElem?_eq_getElem (by rw [HL.out]; exact hlt)⟩
    obtain ⟨c0, c1, c2, c3⟩ := cells4 hc hx
    have hb' : b < w2.heap.size := Nat.lt_of_lt_of_le hb hsz
    have hd : decide (x = t) = decide (t ∈ l) := by
      have := HI.out
      rw [hx] at this
      simp only [Option.some.injEq] at this
      exact decide_eq_decide.2 this
    clear hc hx hk
    go_wp2_with (go_in)
    (refine region_keep (fun k => k < w2.heap.size) 10 [(0, true), (1, true), (2, true), (3, true), (4, true), (5, true), (6, true), (7, true), (8, true), (9, true)] (by kernel_rfl) (fun _ _ d _ _ h => by cases d <;> exact h) (by kernel_rfl) ?_; simp only [withOps, List.getElem?_toArray, List.getElem?_cons_zero, List.getElem?_cons_succ, List.drop_succ_cons, List.drop_zero])
    (iterate 10 (refine keep_quiet (v := ?_) rfl ?_ ?_; rotate_left; (focus (intro w' hw'; go_simp; (try with_reducible rfl); done)); try simp only [Act.put, List.setIfInBounds_toArray, List.set_cons_zero, List.set_cons_succ]))
    (with_reducible refine plan_end ?_)
    (try simp only [Act.put, List.setIfInBounds_toArray, List.set_cons_zero, List.set_cons_succ])
    go_wp2_with fail
    go_returns
    exact ⟨rfl, below_drewN HB2.out 1⟩
  · obtain rfl : k = n := by omega
    have hd : decide (t ∈ l) = false := by
      have := HI.out
      rw [List.getElem?_eq_none (by rw [HL.out]; omega)] at this
      simpa using this
    clear hk
    go_wp2_with (go_in)
    (refine region_keep (fun k => k < w2.heap.size) 10 [(0, true), (1, true), (2, true), (3, true), (4, true), (5, true), (6, true), (7, true), (8, true), (9, true)] (by kernel_rfl) (fun _ _ d _ _ h => by cases d <;> exact h) (by kernel_rfl) ?_; simp only [withOps, List.getElem?_toArray, List.getElem?_cons_zero, List.getElem?_cons_succ, List.drop_succ_cons, List.drop_zero])
    (iterate 5 (refine keep_quiet (v := ?_) rfl ?_ ?_; rotate_left; (focus (intro w' hw'; go_simp; (try with_reducible rfl); done)); try simp only [Act.put, List.setIfInBounds_toArray, List.set_cons_zero, List.set_cons_succ]))
    (iterate 5 ((with_reducible refine plan_skip ?_ ?_); (focus rfl); try simp only [Act.put, List.setIfInBounds_toArray, List.set_cons_zero, List.set_cons_succ]))
    (with_reducible refine plan_end ?_)
    (try simp only [Act.put, List.setIfInBounds_toArray, List.set_cons_zero, List.set_cons_succ])
    go_wp2_with fail
    go_returns
    rw [hd]
    exact ⟨rfl, below_drewN HB2.out 1⟩

set_option maxHeartbeats 1000000 in
theorem Due_ref (a : Option Addr) (n cap : Nat) (l : List Tm.T) (u : Int) (w : World) (hl : l.length = n) (hn : n ≤ 5000000000000) (hr : Rd w w.heap.size a (l.flatMap cT)) :
    Calls Try.prog 36 #[.slice a n cap, .int .i64 u] w (Ret (.int .i64 (Tm.due l u)) w) := by
  have HL := Lib.hid hl
  have HR := Lib.hid hr
  clear hl hr
  go_enter Try.func36, Try.ntmps36
  go_wp2_with fail
  go_loopw [5] (fun vi wr => ∃ k : Nat, vi = .int .i64 k ∧ k ≤ n ∧ (∀ x ∈ l.take k, x.a ≤ u) ∧ Below w.heap.size w wr) (fun vi _ => n - (intOf vi).toNat)
  case atStart => exact ⟨0, rfl, Nat.zero_le _, by simp, by go_grown⟩
  case round =>
    obtain ⟨k, rfl, hk, hall, hB⟩ := hrel
    have HA := Lib.hid hall
    have HB := Lib.hid hB
    have HR1 := Lib.hid (HR.out.below hB)
    rcases Nat.lt_or_ge k n with hlt | hge
    · obtain ⟨b, off, rfl, hb, hc⟩ := rd_tms HR1.out (by rw [HL.out]; omega)
      obtain ⟨x, hx⟩ : ∃ x, l[k]? = some x := ⟨_, List.getElem?_eq_getElem (by rw [HL.out]; exact hlt)⟩
      obtain ⟨c0, c1, c2, c3⟩ := cells4 hc hx
      have HX := Lib.hid hx
      have hb' : b < wr.heap.size := Nat.lt_of_lt_of_le hb HB.out.size
      clear hc hx hall hB
      rcases Int.lt_or_le u x.a with hgt | hle
      · have hfin : Tm.due l u = k := Tm.due_is (by rw [HL.out]; omega) HA.out (fun y hy => by rw [HX.out] at hy; cases hy; exact hgt)
        have HP := Lib.hid hfin
        clear hfin
        go_wp2_with fail
        go_returns
        rw [HP.out]
        exact ⟨rfl, HB.out⟩
      · have hall2 : ∀ y ∈ l.take (k + 1), y.a ≤ u := fun y hy => by
          rw [List.take_add_one, HX.out] at hy
          simp only [Option.toList_some, List.mem_append, List.mem_singleton] at hy
          rcases hy with h | rfl
          · exact HA.out y h
          · exact hle
        have HA2 := Lib.hid hall2
        clear hall2
        go_wp2_with fail
        go_roundw
        case rel => exact ⟨k + 1, by go_num, by omega, HA2.out, HB.out⟩
        case measure => simp [intOf]; omega
    · obtain rfl : k = n := by omega
      have hfin : Tm.due l u = k := Tm.due_is (by rw [HL.out]; omega) HA.out (fun y hy => by rw [List.getElem?_eq_none (by rw [HL.out]; omega)] at hy; cases hy)
      have HP := Lib.hid hfin
      clear hfin hall hB
      go_wp2_with fail
      go_returns
      rw [HP.out]
      exact ⟨rfl, HB.out⟩

set_option maxHeartbeats 1000000 in
theorem Same_ref (a a2 : Option Addr) (n cap cap2 : Nat) (l : List Tm.T) (w : World) (hl : l.length = n) (hn : n ≤ 5000000000000) (hr : Rd w w.heap.size a (l.flatMap cT)) (hr2 : Rd w w.heap.size a2 (l.flatMap cT)) :
    Calls Try.prog 17 #[.slice a n cap, .slice a2 n cap2] w (Ret (.bool true) w) := by
  have HL := Lib.hid hl
  have HR := Lib.hid hr
  have HR2 := Lib.hid hr2
  clear hl hr hr2
  go_enter Try.func17, Try.ntmps17
  go_wp2_with fail
  go_loopw [5] (fun vi wr => ∃ k : Nat, vi = .int .i64 k ∧ k ≤ n ∧ Below w.heap.size w wr) (fun vi _ => n - (intOf vi).toNat)
  case atStart => exact ⟨0, rfl, Nat.zero_le _, by go_grown⟩
  case round =>
    obtain ⟨k, rfl, hk, hB⟩ := hrel
    have HB := Lib.hid hB
    rcases Nat.lt_or_ge k n with hlt | hge
    · obtain ⟨b, off, rfl, hb, hc⟩ := rd_tms (HR.out.below hB) (by rw [HL.out]; omega)
      obtain ⟨b2, off2, rfl, hb2, hc2⟩ := rd_tms (HR2.out.below hB) (by rw [HL.out]; omega)
      obtain ⟨x, hx⟩ : ∃ x, l[k]? = some x := ⟨_, List.getElem?_eq_getElem (by rw [HL.out]; exact hlt)⟩
      obtain ⟨c0, c1, c2, c3⟩ := cells4 hc hx
      obtain ⟨d0, d1, d2, d3⟩ := cells4 hc2 hx
      have hb' : b < wr.heap.size := Nat.lt_of_lt_of_le hb HB.out.size
      have hb2' : b2 < wr.heap.size := Nat.lt_of_lt_of_le hb2 HB.out.size
      clear hc hc2 hx hB
      go_wp2_with (go_in)
      (refine region_keep (fun k => k < wr.heap.size) 8 [(0, true), (1, true), (2, true), (3, true), (4, true), (5, true), (6, true), (7, true)] (by kernel_rfl) (fun _ _ d _ _ h => by cases d <;> exact h) (by kernel_rfl) ?_; simp only [withOps, List.getElem?_toArray, List.getElem?_cons_zero, List.getElem?_cons_succ, List.drop_succ_cons, List.drop_zero])
      (iterate 8 (refine keep_quiet (v := ?_) rfl ?_ ?_; rotate_left; (focus (intro w' hw'; go_simp; (try with_reducible rfl); done)); try simp only [Act.put, List.setIfInBounds_toArray, List.set_cons_zero, List.set_cons_succ]))
      (with_reducible refine plan_end ?_)
      (try simp only [Act.put, List.setIfInBounds_toArray, List.set_cons_zero, List.set_cons_succ])
      go_wp2_with fail
      go_roundw
      case rel => exact ⟨k + 1, by go_num, by omega, below_drewN HB.out 1⟩
      case measure => simp [intOf]; omega
    · obtain rfl : k = n := by omega
      clear hB
      go_wp2_with fail
      go_returns
      exact ⟨rfl, HB.out⟩
end Go.Proofs.Ytlmmcffbpdfcjaa
