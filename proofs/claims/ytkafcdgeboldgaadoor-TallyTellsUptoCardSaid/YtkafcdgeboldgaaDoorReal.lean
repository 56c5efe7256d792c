/- Mean of any tally; its bits; TallyReals: the walk. -/
import Derived.Test.YtkafcdgeboldgaaDoorFlo
import Derived.Test.YtkafcdgeboldgaaDoorCan
import Derived.Test.YtkafcdgeboldgaaDoorTWorks
import Derived.Laws.Externs
import Derived.Deep.Cut
set_option linter.unusedSimpArgs false
set_option linter.unusedVariables false
namespace Go.Proofs.YtkafcdgeboldgaaDoor
open Go.RowKit Go.Kp

theorem bits_of (b : Nat) (w : World) : (callFunc 24 #[.float .f64 b]).run Tryd.prog w = .ok (.value (.int .u64 b)) w := by
  rw [run_callFunc_extern (e := Extern.MathFloatBits.float64bits) Tryd.func24 (by kernel_rfl) (by kernel_rfl) (by kernel_rfl) (by kernel_rfl)]
  rfl

set_option maxHeartbeats 2000000 in
theorem mean_none (t : Tally) (h : t.c < 1) (w : World) : Calls Tryd.prog 21 #[t.val] w (Ret (.tuple #[.float .f64 0, .bool false]) w) := by
  go_enter Tryd.func21, Tryd.ntmps21
  go_wp2
  refine bodyPost_ret (v := .tuple #[.float .f64 0, .bool false]) (by simp [results, Tryd.results21, go_sem]; done) rfl ⟨rfl, ?_⟩
  go_grown
set_option maxHeartbeats 2000000 in
theorem mean_some (t : Tally) (h : ¬ t.c < 1) (r : Nat) (hr : floatBits .quo .f64 (floatOfInt .f64 t.su) (floatOfInt .f64 t.c) = some r) (w : World) :
    Calls Tryd.prog 21 #[t.val] w (Ret (.tuple #[.float .f64 r, .bool true]) w) := by
  have hq := fun (W : World) => run_float_arith (P := Tryd.prog) (w := W) .quo 39 .f64 _ _ _ hr
  clear hr
  go_enter Tryd.func21, Tryd.ntmps21
  go_wp2
  refine bodyPost_ret (v := .tuple #[.float .f64 r, .bool true]) (by simp [results, Tryd.results21, go_sem]; done) rfl ⟨rfl, ?_⟩
  go_grown

theorem signbit_zero (w : World) : Calls Tryd.prog 23 #[.float .f64 0] w (Ret (.bool false) w) := by
  have hd := bits_of 0
  go_enter Tryd.func23, Tryd.ntmps23
  go_wp2
  go_returns
  exact ⟨rfl, by go_grown⟩

set_option maxHeartbeats 4000000 in
theorem reals (t : Tally) (w : World) (ht : t.ok) : Calls Tryd.prog 8 #[t.val] w (Ret (.bool true) w) := by
  have hd := bits_of
  have hz : ∀ W : World, (binOp .eql 39 (.float .f64 0) (.float .f64 0)).run Tryd.prog W = .ok (.bool true) W := fun W => by kernel_rfl
  have hw : IntKind.u64.wrap (IntKind.u64.wrap t.ma - IntKind.u64.wrap t.mi) = (nat64 (t.ma - t.mi) : Nat) := by
    rw [IntKind.wrap_u64, IntKind.wrap_u64, IntKind.wrap_u64]; unfold nat64; omega
  have HO := Lib.hid ht
  clear ht
  go_enter Tryd.func8, Tryd.ntmps8
  go_upto_region 1 with (fail)
  (refine wp_at (fun w1 => Blk w1 w.heap.size 24 t.cells.toArray ∧ Below w.heap.size w w1) ⟨heap_at rfl, by go_grown⟩ ?_)
  rintro w1 ⟨A, hB⟩
  have cA : ∀ j, w1.cell? ⟨w.heap.size, j, none⟩ = t.cells.toArray[j]? := fun j => A.cell j
  have lA := A.lt
  rcases Int.lt_or_le t.c 1 with h | h
  · have h0 : ¬ 0 < t.c := by omega
    go_wp2_with fail
    refine (mean_none t h _).mono ?_
    rintro en X ⟨rfl, hb2⟩
    have hB2 : Below w.heap.size w X := bnext hB (bnext (by go_grown) hb2)
    have A2 : Blk X w.heap.size 24 t.cells.toArray := Blk.below A hb2
    clear hb2 A cA lA hB
    have cA := A2.cell
    have lA := A2.lt
    go_wp2_with (go_in)
    (refine region_keep (fun b => b < X.heap.size) 15 [(0, true), (2, true), (3, true), (4, true), (5, true), (6, true), (7, true), (8, true), (1, false), (9, true), (10, true), (11, true), (12, true), (13, true), (14, true)] (by kernel_rfl) (fun _ _ d _ _ h => by cases d <;> exact h) (by kernel_rfl) ?_; simp only [withOps, List.getElem?_toArray, List.getElem?_cons_zero, List.getElem?_cons_succ, List.drop_succ_cons, List.drop_zero])
    (iterate 8 (refine keep_quiet (v := ?_) rfl ?_ ?_; rotate_left; (focus (intro w' hw'; go_simp; (try with_reducible rfl); done)); try simp only [Act.put, List.setIfInBounds_toArray, List.set_cons_zero, List.set_cons_succ]))
    (with_reducible refine plan_loud (fun K hK => ?_))
    go_simp
    refine (width_any t _).mono ?_
    rintro en w3 ⟨rfl, hb3⟩
    refine hK _ _ ((Keep.refl _ _).below hb3 (by intro x h; simpa using h)) ?_
    clear hK K
    have hB3 : Below X.heap.size X w3 := bnext (by go_grown) hb3
    have A3 : Blk w3 w.heap.size 24 t.cells.toArray := Blk.below (w := X.drew) A2 hb3
    have c3 := A3.cell
    have l3 := A3.lt

    (iterate 6 (refine keep_quiet (v := ?_) rfl ?_ ?_; rotate_left; (focus (intro w' hw'; go_simp; (try with_reducible rfl); done)); try simp only [Act.put, List.setIfInBounds_toArray, List.set_cons_zero, List.set_cons_succ]))
    (with_reducible refine plan_end ?_)
    (try simp only [Act.put, List.setIfInBounds_toArray, List.set_cons_zero, List.set_cons_succ])
    clear hb3 A2 cA lA
    go_wp2_with fail
    refine (signbit_zero _).mono ?_
    rintro en w4 ⟨rfl, hb4⟩
    have hB4 : Below X.heap.size X w4 := bnext hB3 (bnext (by go_grown) hb4)
    clear hb4 c3 l3 A3
    go_wp2_with fail
    refine (works_any _).mono ?_
    rintro en w5 ⟨rfl, hb5⟩
    have hB5 : Below X.heap.size X w5 := bnext hB4 (bnext (by go_grown) hb5)
    go_wp2_with fail
    go_returns
    exact ⟨rfl, bnext hB2 hB5⟩
  · have h0 : 0 < t.c := by omega
    obtain ⟨r, hr⟩ := Flo.quo_some t.su t.c HO.out.2.1 HO.out.1 (by omega)
    go_wp2_with fail
    refine (mean_some t (by omega) r hr _).mono ?_
    rintro en X ⟨rfl, hb2⟩
    have hB2 : Below w.heap.size w X := bnext hB (bnext (by go_grown) hb2)
    have A2 : Blk X w.heap.size 24 t.cells.toArray := Blk.below A hb2
    clear hb2 A cA lA hB
    have cA := A2.cell
    have lA := A2.lt
    go_wp2_with (go_in)
    (refine region_keep (fun b => b < X.heap.size) 15 [(0, true), (2, true), (3, true), (4, true), (5, true), (6, true), (7, true), (8, true), (1, false), (9, true), (10, true), (11, true), (12, true), (13, true), (14, true)] (by kernel_rfl) (fun _ _ d _ _ h => by cases d <;> exact h) (by kernel_rfl) ?_; simp only [withOps, List.getElem?_toArray, List.getElem?_cons_zero, List.getElem?_cons_succ, List.drop_succ_cons, List.drop_zero])
    (iterate 8 (refine keep_quiet (v := ?_) rfl ?_ ?_; rotate_left; (focus (intro w' hw'; go_simp; (try with_reducible rfl); done)); try simp only [Act.put, List.setIfInBounds_toArray, List.set_cons_zero, List.set_cons_succ]))
    (with_reducible refine plan_loud (fun K hK => ?_))
    go_simp
    refine (width_any t _).mono ?_
    rintro en w3 ⟨rfl, hb3⟩
    refine hK _ _ ((Keep.refl _ _).below hb3 (by intro x h; simpa using h)) ?_
    clear hK K
    have hB3 : Below X.heap.size X w3 := bnext (by go_grown) hb3
    have A3 : Blk w3 w.heap.size 24 t.cells.toArray := Blk.below (w := X.drew) A2 hb3
    have c3 := A3.cell
    have l3 := A3.lt

    have hq := fun (W : World) => run_float_arith (P := Tryd.prog) (w := W) .quo 39 .f64 _ _ _ hr
    (iterate 6 (refine keep_quiet (v := ?_) rfl ?_ ?_; rotate_left; (focus (intro w' hw'; go_simp; (try with_reducible rfl); done)); try simp only [Act.put, List.setIfInBounds_toArray, List.set_cons_zero, List.set_cons_succ]))
    (with_reducible refine plan_end ?_)
    (try simp only [Act.put, List.setIfInBounds_toArray, List.set_cons_zero, List.set_cons_succ])
    clear hb3 A2 cA lA
    go_wp2_with (go_in)
    (refine region_keep (fun b => b < w3.heap.size) 9 [(0, true), (2, true), (3, true), (4, true), (5, true), (6, true), (7, true), (8, true), (1, false)] (by kernel_rfl) (fun _ _ d _ _ h => by cases d <;> exact h) (by kernel_rfl) ?_; simp only [withOps, List.getElem?_toArray, List.getElem?_cons_zero, List.getElem?_cons_succ, List.drop_succ_cons, List.drop_zero])
    (iterate 8 (refine keep_quiet (v := ?_) rfl ?_ ?_; rotate_left; (focus (intro w' hw'; go_simp; (try with_reducible rfl); done)); try simp only [Act.put, List.setIfInBounds_toArray, List.set_cons_zero, List.set_cons_succ]))
    (with_reducible refine plan_loud (fun K hK => ?_))
    go_simp
    (with_reducible refine hK _ _ (Keep.refl _ _) ?_)
    clear hK K
    (with_reducible refine plan_end ?_)
    (try simp only [Act.put, List.setIfInBounds_toArray, List.set_cons_zero, List.set_cons_succ])
    go_wp2_with fail
    refine (works_any _).mono ?_
    rintro en w5 ⟨rfl, hb5⟩
    have hB5 : Below X.heap.size X w5 := bnext hB3 (bnext (by go_grown) hb5)
    go_wp2_with fail
    go_returns
    exact ⟨rfl, bnext hB2 hB5⟩
end Go.Proofs.YtkafcdgeboldgaaDoor
