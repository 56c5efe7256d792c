/- Len, Next, Has. -/
import Derived.Test.YtlmmcffbpdfcjaaTmE
set_option linter.unusedSimpArgs false
set_option linter.unusedVariables false
namespace Go.Proofs.Ytlmmcffbpdfcjaa
open Go.RowKit Go.Kp Go.ChangeMaps

abbrev zT : Tm.T := ⟨0, ⟨#[]⟩, 0, 0⟩

theorem Len_any {w : World} {q m : Nat} {v : Value} {L : List Tm.T} {M : Tm.T → Option Nat} (h : Raw w q m v L M) :
    Calls Try.prog 12 #[ptr q] w (Ret (.int .i64 L.length) w) := by
  have H := Lib.hid h
  obtain ⟨a, cap, rfl⟩ : ∃ a cap, v = .slice a L.length cap := by
    rcases h.bv.2 with ⟨h1, h2⟩ | ⟨g, cap, cur, h1, _⟩
    · exact ⟨none, 0, by rw [h1, h2]⟩
    · exact ⟨_, _, h1⟩
  clear h
  go_enter Try.func12, Try.ntmps12
  go_wp2_with fail
  refine (none_any H.out).mono ?_
  rintro en w1 ⟨rfl, hb⟩
  have q0 := (H.out.below hb).bq.cell 0
  simp only [List.getElem?_toArray, List.getElem?_cons_zero, List.getElem?_cons_succ] at q0
  go_wp2_with fail
  go_returns
  exact ⟨rfl, hb⟩

theorem Has_any {w : World} {q m : Nat} {v : Value} {L : List Tm.T} {M : Tm.T → Option Nat} (h : Tq w q m v L M) (t : Tm.T) (ht : Ok t) :
    Calls Try.prog 15 #[ptr q, vT t] w (Ret (.bool (decide (t ∈ L))) w) := by
  have H := Lib.hid h
  clear h
  go_enter Try.func15, Try.ntmps15
  go_upto_region 1 with (fail)
  (refine wp_at (fun w1 => Blk w1 w.heap.size 25 (cT t).toArray ∧ Below w.heap.size w w1) ⟨heap_at rfl, by go_grown⟩ ?_)
  rintro w1 ⟨A, hB1⟩
  have H1 := Lib.hid (H.out.below hB1)
  go_wp2_with fail
  refine (none_any H1.out.raw).mono ?_
  rintro en w2 ⟨rfl, hb2⟩
  have H2 := Lib.hid (H1.out.below hb2)
  have hB2 : Below w.heap.size w w2 := bnext hB1 hb2
  have A2 : Blk w2 w.heap.size 25 (cT t).toArray := A.below hb2
  clear hB1 hb2 A
  have lA := A2.lt
  have a0 := A2.cell 0
  have a1 := A2.cell 1
  have a2 := A2.cell 2
  have a3 := A2.cell 3
  have q1 := H2.out.raw.bq.cell 1
  simp only [List.getElem?_toArray, List.getElem?_cons_zero, List.getElem?_cons_succ] at a0 a1 a2 a3 q1
  have hlook := fun n => (H2.out.raw.bm.same (w' := w2.drewN n) rfl).look ht
  rw [Full_look H2.out.full t] at hlook
  go_upto_region 3 with (fail)
  go_quiet (fail)
  go_wp2_with fail
  go_returns
  exact ⟨rfl, below_drewN hB2 nq⟩

abbrev put4 (w : World) (g : Nat) (x : Tm.T) : World := (((w.setCell ⟨g, 0, none⟩ (.int .i64 x.a)).setCell ⟨g, 1, none⟩ (.string x.k)).setCell ⟨g, 2, none⟩ (.int .i64 x.s)).setCell ⟨g, 3, none⟩ (.int .i64 x.e)
theorem put4_blk {w : World} {g : Nat} {x y : Tm.T} (h : Blk w g 25 (cT y).toArray) : Blk (put4 w g x) g 25 (cT x).toArray := by
  unfold Blk at *
  simp only [put4, heap_set_same, h, Option.map_some, putO_cells]
  rfl
theorem put4_below {w w2 : World} {g : Nat} {x : Tm.T} (h : Below w.heap.size w w2) (hg : w.heap.size ≤ g) : Below w.heap.size w (put4 w2 g x) := by
  refine ⟨h.os, h.tape, h.output, by simp only [put4, World.size_setCell]; exact h.size, fun k hk => ?_⟩
  simp only [put4]
  rw [heap_set_ne _ _ _ _ _ (by omega), heap_set_ne _ _ _ _ _ (by omega), heap_set_ne _ _ _ _ _ (by omega), heap_set_ne _ _ _ _ _ (by omega)]
  exact h.block k hk

set_option maxHeartbeats 1000000 in
theorem Next_any {w : World} {q m : Nat} {v : Value} {L : List Tm.T} {M : Tm.T → Option Nat} (h : Raw w q m v L M) :
    Calls Try.prog 14 #[ptr q] w (Ret (.tuple #[vT (L[0]?.getD zT), .bool (decide (0 < L.length))]) w) := by
  have H := Lib.hid h
  clear h
  go_enter Try.func14, Try.ntmps14
  go_upto_region 1 with (fail)
  (refine wp_at (fun w1 => Blk w1 w.heap.size 25 (cT zT).toArray ∧ Below w.heap.size w w1) ⟨heap_at rfl, by go_grown⟩ ?_)
  rintro w1 ⟨A, hB1⟩
  have H1 := Lib.hid (H.out.below hB1)
  go_wp2_with fail
  refine (Len_any H1.out).mono ?_
  rintro en w2 ⟨rfl, hb2⟩
  have H2 := Lib.hid (H1.out.below hb2)
  have hB2 : Below w.heap.size w w2 := bnext hB1 hb2
  have A2 : Blk w2 w.heap.size 25 (cT zT).toArray := A.below hb2
  clear hB1 hb2 A
  have lA := A2.lt
  have cA := A2.cell
  have fA := A2.free
  rcases Nat.eq_zero_or_pos L.length with h0 | h0
  · have hL : L = [] := List.eq_nil_of_length_eq_zero h0
    subst hL
    simp only [List.length_nil]
    go_wp2_with fail
    have HP := Lib.hid (put4_blk (x := zT) A2)
    have p0 := HP.out.cell 0
    have p1 := HP.out.cell 1
    have p2 := HP.out.cell 2
    have p3 := HP.out.cell 3
    simp only [List.getElem?_toArray, List.getElem?_cons_zero, List.getElem?_cons_succ, put4] at p0 p1 p2 p3
    have hbb := put4_below (x := zT) hB2 (Nat.le_refl _)
    clear cA fA
    refine bodyPost_ret (v := .tuple #[vT zT, .bool false]) (by simp [results, Try.results14, go_sem, p0, p1, p2, p3]; done) rfl ⟨rfl, hbb⟩
  · obtain ⟨g, cap, rfl, hcap, hcm⟩ := H2.out.form h0
    obtain ⟨x, hx⟩ : ∃ x, L[0]? = some x := ⟨_, List.getElem?_eq_getElem h0⟩
    obtain ⟨c0, c1, c2, c3⟩ := H2.out.cell hx
    simp only [Nat.zero_mul, Nat.zero_add] at c0 c1 c2 c3
    have q0 := H2.out.bq.cell 0
    simp only [List.getElem?_toArray, List.getElem?_cons_zero, List.getElem?_cons_succ] at q0
    have hne : ¬ (L.length : Int) = 0 := by omega
    have HX := Lib.hid hx
    clear hx
    go_wp2_with fail
    have HP := Lib.hid (put4_blk (x := x) A2)
    have p0 := HP.out.cell 0
    have p1 := HP.out.cell 1
    have p2 := HP.out.cell 2
    have p3 := HP.out.cell 3
    simp only [List.getElem?_toArray, List.getElem?_cons_zero, List.getElem?_cons_succ, put4] at p0 p1 p2 p3
    have hbb := put4_below (x := x) hB2 (Nat.le_refl _)
    clear cA fA
    refine bodyPost_ret (v := .tuple #[vT x, .bool true]) (by simp [results, Try.results14, go_sem, p0, p1, p2, p3]; done) rfl ⟨?_, hbb⟩
    rw [HX.out]
    simp [h0]
end Go.Proofs.Ytlmmcffbpdfcjaa
