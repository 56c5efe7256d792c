/- Timers that are not there, or zero ones: what each function does. -/
import Derived.Test.YtlmmcffbpdfcjaaTmAll
set_option linter.unusedSimpArgs false
set_option linter.unusedVariables false
namespace Go.Proofs.Ytlmmcffbpdfcjaa
open Go.RowKit Go.Kp Go.ChangeMaps

/-- Not there, or a zero one. -/
def NoQ (w : World) (p : Option Addr) : Prop := p = none ∨ ∃ b, p = some ⟨b, 0, none⟩ ∧ Blk w b 59 #[.slice none 0 0, .map none]
theorem NoQ.below {w w' : World} {p : Option Addr} (h : NoQ w p) (hb : Below w.heap.size w w') : NoQ w' p := h.imp id fun ⟨b, e, h⟩ => ⟨b, e, h.below hb⟩

theorem none_no {w : World} {p : Option Addr} (h : NoQ w p) : Calls Try.prog 28 #[.pointer p] w (Ret (.bool true) w) := by
  rcases h with rfl | ⟨b, rfl, A⟩
  · go_enter Try.func28, Try.ntmps28
    go_wp2_with fail
    go_returns
    exact ⟨rfl, by go_grown⟩
  · have c1 := A.cell 1
    simp only [List.getElem?_toArray, List.getElem?_cons_zero, List.getElem?_cons_succ] at c1
    have e := fun w => run_eql_map_nil (P := Try.prog) w 57 _ _ none Try.underlying57
    go_enter Try.func28, Try.ntmps28
    go_wp2_with fail
    go_returns
    exact ⟨rfl, by go_grown⟩
theorem Len_no {w : World} {p : Option Addr} (h : NoQ w p) : Calls Try.prog 12 #[.pointer p] w (Ret (.int .i64 0) w) := by
  go_enter Try.func12, Try.ntmps12
  go_wp2_with fail
  refine (none_no h).mono ?_
  rintro en w1 ⟨rfl, hb⟩
  go_wp2_with fail
  go_returns
  exact ⟨rfl, hb⟩
theorem Copy_no {w : World} {p : Option Addr} (h : NoQ w p) : Calls Try.prog 37 #[.pointer p] w (Ret (.pointer none) w) := by
  go_enter Try.func37, Try.ntmps37
  go_wp2_with fail
  refine (none_no h).mono ?_
  rintro en w1 ⟨rfl, hb⟩
  go_wp2_with fail
  go_returns
  exact ⟨rfl, hb⟩
theorem Set_no {w : World} {p : Option Addr} (h : NoQ w p) (t : Tm.T) : Calls Try.prog 27 #[.pointer p, vT t] w (Ret (.tuple #[.bool false, .int .i64 1]) w) := by
  go_enter Try.func27, Try.ntmps27
  go_upto_region 1 with (fail)
  (refine wp_at (fun w1 => Below w.heap.size w w1) (by go_grown) ?_)
  intro w1 hB1
  go_wp2_with fail
  refine (none_no (h.below hB1)).mono ?_
  rintro en w2 ⟨rfl, hb2⟩
  go_wp2_with fail
  go_returns
  exact ⟨rfl, bnext hB1 hb2⟩
theorem Drop_no {w : World} {p : Option Addr} (h : NoQ w p) (t : Tm.T) : Calls Try.prog 16 #[.pointer p, vT t] w (Ret (.bool false) w) := by
  go_enter Try.func16, Try.ntmps16
  go_upto_region 1 with (fail)
  (refine wp_at (fun w1 => Below w.heap.size w w1) (by go_grown) ?_)
  intro w1 hB1
  go_wp2_with fail
  refine (none_no (h.below hB1)).mono ?_
  rintro en w2 ⟨rfl, hb2⟩
  go_wp2_with fail
  go_returns
  exact ⟨rfl, bnext hB1 hb2⟩
theorem Has_no {w : World} {p : Option Addr} (h : NoQ w p) (t : Tm.T) : Calls Try.prog 15 #[.pointer p, vT t] w (Ret (.bool false) w) := by
  go_enter Try.func15, Try.ntmps15
  go_upto_region 1 with (fail)
  (refine wp_at (fun w1 => Below w.heap.size w w1) (by go_grown) ?_)
  intro w1 hB1
  go_wp2_with fail
  refine (none_no (h.below hB1)).mono ?_
  rintro en w2 ⟨rfl, hb2⟩
  go_wp2_with fail
  go_returns
  exact ⟨rfl, bnext hB1 hb2⟩
theorem Move_no {w : World} {p : Option Addr} (h : NoQ w p) (t u : Tm.T) : Calls Try.prog 35 #[.pointer p, vT t, vT u] w (Ret (.tuple #[.bool false, .int .i64 1]) w) := by
  go_enter Try.func35, Try.ntmps35
  go_upto_region 1 with (fail)
  (refine wp_at (fun w1 => Below w.heap.size w w1) (by go_grown) ?_)
  intro w1 hB1
  go_wp2_with fail
  refine (none_no (h.below hB1)).mono ?_
  rintro en w2 ⟨rfl, hb2⟩
  go_wp2_with fail
  go_returns
  exact ⟨rfl, bnext hB1 hb2⟩
theorem Next_no {w : World} {p : Option Addr} (h : NoQ w p) : Calls Try.prog 14 #[.pointer p] w (Ret (.tuple #[vT zT, .bool false]) w) := by
  go_enter Try.func14, Try.ntmps14
  go_upto_region 1 with (fail)
  (refine wp_at (fun w1 => Blk w1 w.heap.size 25 (cT zT).toArray ∧ Below w.heap.size w w1) ⟨heap_at rfl, by go_grown⟩ ?_)
  rintro w1 ⟨A, hB1⟩
  go_wp2_with fail
  refine (Len_no (h.below hB1)).mono ?_
  rintro en w2 ⟨rfl, hb2⟩
  have hB2 : Below w.heap.size w w2 := bnext hB1 hb2
  have A2 : Blk w2 w.heap.size 25 (cT zT).toArray := A.below hb2
  clear hB1 hb2 A
  have lA := A2.lt
  have cA := A2.cell
  have fA := A2.free
  go_wp2_with fail
  have HP := Lib.hid (put4_blk (x := zT) A2)
  have p0 := HP.out.cell 0
  have p1 := HP.out.cell 1
  have p2 := HP.out.cell 2
  have p3 := HP.out.cell 3
  simp only [List.getElem?_toArray, List.getElem?_cons_zero, List.getElem?_cons_succ, put4] at p0 p1 p2 p3
  have hbb := put4_below (x := zT) hB2 (Nat.le_refl _)
  clear cA fA
  refine bodyPost_ret (v := .tuple #[vT zT, .bool false]) (by simp [results, Try.results14, go_sem, p0, p1, p2, p3]; done) rfl ⟨rfl, hbb⟩
theorem Due_no {w : World} {p : Option Addr} (h : NoQ w p) (u : Int) : Calls Try.prog 13 #[.pointer p, .int .i64 u] w (Ret (.slice none 0 0) w) := by
  go_enter Try.func13, Try.ntmps13
  go_wp2_with fail
  go_loopw [5] (fun vo wr => vo = .slice none 0 0 ∧ wr = w) (fun _ _ => 1)
  case atStart => exact ⟨rfl, rfl⟩
  case round =>
    obtain ⟨rfl, rfl⟩ := hrel
    go_wp2_with fail
    refine (Next_no h).mono ?_
    rintro en w1 ⟨rfl, hb1⟩
    go_wp2_with fail
    have hfin : Below wr.heap.size wr (w1.alloc (.cells (cT zT).toArray 25 (0, 0))) := bnext hb1 (by go_grown)
    go_returns
    exact ⟨rfl, hfin⟩

/-- A going over nothing. -/
theorem all_none (n : Nat) (bb : Nat) {p : Option Addr} (Ro : Nat → Prop) (W : World) (hA : Blk W bb 30 #[.pointer p]) (h : NoQ W p) :
    SeqM Fence.wide n Try.prog 38 #[.pointer (some ⟨bb, 0, none⟩)] wkArgs (fun _ _ _ _ => False) (fun xs => xs = []) (fun _ => False) (fun _ => False) Ro W := by
  intro rl J Jx hJ hJx hY hJ0
  have HJ := Lib.hid hJ
  have HJ0 := Lib.hid hJ0
  have H := Lib.hid h
  have c0 := hA.cell 0
  have l0 := hA.lt
  simp only [List.getElem?_toArray, List.getElem?_cons_zero] at c0
  clear hY hJ h hJ0
  refine callsIn_of_wp Try.func38 rfl trivial ?_ rfl
  simp only [Try.ntmps38, List.size_toArray, List.length_cons, List.length_nil, Nat.reduceAdd, Nat.reduceSub, Array.replicate_succ, Array.replicate_zero, List.push_toArray, List.append_toArray, List.nil_append, List.cons_append]
  gi_wp2_with fail
  refine ⟨trivial, fun h => (by cases h), (callsIn_wide.2 (Copy_no H.out)).mono ?_⟩
  rintro en w1 ⟨rfl, hb⟩
  have HB := Lib.hid hb
  have HJ1 := Lib.hid (HJ.out [] (fun _ => False) (fun _ => False) W w1 HJ0.out (Fr.next hb) (fun k hk => .inl hk))
  clear hb c0 l0 HJ0
  gi_wp2_with fail
  gi_loopw [5] (fun u5 wr => wr = w1) (fun _ _ => 1)
  case atStart => rfl
  case round =>
    subst hrel
    gi_wp2_with fail
    refine ⟨trivial, fun h => (by cases h), (callsIn_wide.2 (Next_no (.inl rfl))).mono ?_⟩
    rintro en w2 ⟨rfl, hb2⟩
    have HJ2 := Lib.hid (HJ.out [] (fun _ => False) (fun _ => False) _ (w2.alloc (.cells (cT zT).toArray 25)) HJ1.out ((Fr.next hb2).alloc _) (fun k hk => .inl hk))
    gi_wp2_with fail
    refine ⟨fun _ h => (by cases h), ?_⟩
    go_at_K
    gi_wp2_with fail
    refine bodyPost_ret (results_none rfl _ _ _) rfl ⟨⟨_, rfl⟩, .inl ⟨[], _, rfl, HJ2.out⟩⟩
end Go.Proofs.Ytlmmcffbpdfcjaa
