/- TimersNil: the walk. -/
import Derived.Test.YtlmmcffbpdfcjaaTmNo
import Derived.Test.YtlmmcffbpdfcjaaTmWk
set_option linter.unusedSimpArgs false
set_option linter.unusedVariables false
namespace Go.Proofs.Ytlmmcffbpdfcjaa
open Go.RowKit Go.Kp Go.ChangeMaps Go.Shelf
attribute [local go_sem] Oper.semAt_some
attribute [local go_sem high] eqT neqT

theorem eqZ (w : World) : (binOp .eql 25 (vT zT) (vT zT)).run Try.prog w = .ok (.bool true) w := by rw [eqT]; simp

set_option maxRecDepth 20000 in
set_option maxHeartbeats 8000000 in
theorem nothing_any {w : World} (p : Option Addr) (h : NoQ w p) (t : Tm.T) (u : Int) (ht : Ok t) :
    Calls Try.prog 22 #[.pointer p, vT t, .int .i64 u] w (Ret (.bool true) w) := by
  have H := Lib.hid h
  clear h
  refine (callsIn_wide (n := 6)).1 ?_
  refine callsIn_of_wp_marks Try.func22 rfl trivial ?_ rfl
  simp only [Try.ntmps22, List.size_toArray, List.length_cons, List.length_nil, Nat.reduceAdd, Nat.reduceSub, Array.replicate_succ, Array.replicate_zero, List.push_toArray, List.append_toArray, List.nil_append, List.cons_append]
  gi_wp2_with fail
  refine ⟨trivial, (callsIn_wide.2 (Set_no (H.out.below (by go_grown)) t)).mono ?_⟩
  rintro en w1 ⟨rfl, hb1⟩
  have A1 : Blk w1 w.heap.size 25 (cT t).toArray := Blk.below (show Blk ((w.alloc (.cells (cT t).toArray 25)).alloc (.cells #[.bool false] 4)) w.heap.size 25 (cT t).toArray by simp (disch := (first | omega | (simp only [World.size_alloc, World.size_setCell, World.size_drew] <;> omega) | fail)) only [Blk, heap_old, heap_at, heap_set_same, heap_set_ne, heap_drew', Option.map_some, putO_cells]) hb1
  have R1 : Blk w1 (w.heap.size + 1) 4 #[.bool false] := Blk.below (show Blk ((w.alloc (.cells (cT t).toArray 25)).alloc (.cells #[.bool false] 4)) (w.heap.size + 1) 4 #[.bool false] by simp (disch := (first | omega | (simp only [World.size_alloc, World.size_setCell, World.size_drew] <;> omega) | fail)) only [Blk, heap_old, heap_at, heap_set_same, heap_set_ne, heap_drew', Option.map_some, putO_cells]) hb1
  have HB1 := Lib.hid (show Below w.heap.size w w1 from bnext (by go_grown) hb1)
  clear hb1
  have lA := A1.lt
  have s0 := A1.cell 0
  have s1 := A1.cell 1
  have s2 := A1.cell 2
  have s3 := A1.cell 3
  simp only [List.getElem?_toArray, List.getElem?_cons_zero, List.getElem?_cons_succ] at s0 s1 s2 s3
  gi_wp2_with fail
  refine ⟨trivial, (callsIn_wide.2 (Move_no (H.out.below HB1.out) t t)).mono ?_⟩
  rintro en w2 ⟨rfl, hb2⟩
  have A2 := A1.below hb2
  have R2 := R1.below hb2
  have HB2 := Lib.hid (bnext HB1.out hb2)
  clear hb2 A1 R1 HB1 lA s0 s1 s2 s3
  gi_wp2_with fail
  refine ⟨trivial, (callsIn_wide.2 (Next_no (H.out.below HB2.out))).mono ?_⟩
  rintro en w3 ⟨rfl, hb3⟩
  have A3 := A2.below hb3
  have R3 := R2.below hb3
  have HB3 := Lib.hid (bnext HB2.out hb3)
  clear hb3 A2 R2 HB2
  gi_wp2_with fail
  refine ⟨trivial, (callsIn_wide.2 (All_any p _)).mono ?_⟩
  rintro en w4 ⟨rfl, hA4, hb4⟩
  have A4 : Blk w4 w.heap.size 25 (cT t).toArray := (hb4.block _ (by rw [World.size_alloc]; have := A3.lt; omega)).trans ((heap_old A3.lt).trans A3)
  have R4 : Blk w4 (w.heap.size + 1) 4 #[.bool false] := (hb4.block _ (by rw [World.size_alloc]; have := R3.lt; omega)).trans ((heap_old R3.lt).trans R3)
  have Z4 : Blk w4 w3.heap.size 25 (cT zT).toArray := (hb4.block _ (by simp)).trans (heap_at rfl)
  have HB4 := Lib.hid (show Below w.heap.size w w4 from bnext HB3.out (bnext (by go_grown) hb4))
  have hzz := Lib.hid (show w3.heap.size < w4.heap.size from Z4.lt)
  have hr0 : w.heap.size + 1 < w3.heap.size := R3.lt
  clear hb4 A3 R3 HB3
  rw [World.size_alloc] at hA4
  have hfn := func_nil #[.pointer (some ⟨w3.heap.size + 1, 0, none⟩)]
  rw [World.size_alloc]
  gi_wp2_with fail
  have hlw := A4.lt
  refine wpIn_rangeFunc_M rfl (by decide) (gf := 38) (lb := #[.pointer (some ⟨w3.heap.size + 1, 0, none⟩)]) rfl trivial (enters_of Try.func38 (by kernel_rfl) rfl)
    (encs := wkArgs) (T := fun _ _ _ _ => False) (S := fun xs => xs = []) (Sp := fun _ => False) (Pf := fun _ => False) (Ro := fun _ => False)
    (fun W' hW' => all_none _ _ _ W' (hA4.below hW') ((H.out.below HB4.out).below hW'))
    (fun _ h => h.elim) (fun _ h => h.elim) (fun _ => rfl)
    (fun pre Pv W => (∀ k, Pv k → w4.heap.size ≤ k) ∧ Below w4.heap.size w4 W)
    (fun c pre Pv W => False)
    ?stab ?stabx ?start ?round ?done ?stop
  case stab =>
    rintro pre Pv Pv' W W' ⟨h1, h2⟩ hf hP
    have hs := h2.size
    refine ⟨fun k hk => (hP k hk).elim (h1 k) (fun h => by omega), h2.trans ⟨hf.os, hf.tape, hf.output, hf.size, fun k hk => hf.block k (by omega) (fun h => h.elim (fun h => by have := h1 k h; omega) (fun h => by omega))⟩⟩
  case stabx => exact fun _ _ _ _ _ _ h => h.elim
  case start => exact ⟨fun _ h => h.elim, Below.refl _ _⟩
  case round => exact fun _ _ _ _ _ _ _ _ _ _ _ _ h => h.elim
  case stop => exact fun _ _ _ _ _ _ h => h.elim
  case done =>
    rintro D xs Pv W hD rfl ⟨_, hW⟩ hK
    subst hD
    have hNW := H.out.below HB4.out |>.below hW
    have A5 := A4.below hW
    have R5 := R4.below hW
    have Z5 := Z4.below hW
    have HN5 := Lib.hid hNW
    have HB5 := Lib.hid (bnext HB4.out hW)
    have hDl := (Array.getElem?_eq_some_iff.1 hK).1
    have HD5 := Lib.hid hK
    have hz := eqZ
    clear hNW hW hK A4 R4 Z4
    have s0 := A5.cell 0
    have s1 := A5.cell 1
    have s2 := A5.cell 2
    have s3 := A5.cell 3
    have z0 := Z5.cell 0
    have z1 := Z5.cell 1
    have z2 := Z5.cell 2
    have z3 := Z5.cell 3
    have lA := A5.lt
    have lZ := Z5.lt
    simp only [List.getElem?_toArray, List.getElem?_cons_zero, List.getElem?_cons_succ] at s0 s1 s2 s3 z0 z1 z2 z3
    gi_wp2_with fail
    refine ⟨trivial, (callsIn_wide.2 (Drop_no HN5.out t)).mono ?_⟩
    rintro en w6 ⟨rfl, hb⟩
    have HN6 := Lib.hid (HN5.out.below hb)
    have HB6 := Lib.hid (bnext HB5.out hb)
    have HD6 := Lib.hid ((hb.block _ (Array.getElem?_eq_some_iff.1 HD5.out).1).trans HD5.out)
    have A6 := A5.below hb
    have R6 := R5.below hb
    clear hb s0 s1 s2 s3
    have s0 := A6.cell 0
    have s1 := A6.cell 1
    have s2 := A6.cell 2
    have s3 := A6.cell 3
    have lA := A6.lt
    simp only [List.getElem?_toArray, List.getElem?_cons_zero, List.getElem?_cons_succ] at s0 s1 s2 s3
    gi_wp2_with fail
    refine ⟨trivial, (callsIn_wide.2 (Has_no HN6.out t)).mono ?_⟩
    rintro en w7 ⟨rfl, hb⟩
    have HN7 := Lib.hid (HN6.out.below hb)
    have HB7 := Lib.hid (bnext HB6.out hb)
    have HD7 := Lib.hid ((hb.block _ (Array.getElem?_eq_some_iff.1 HD6.out).1).trans HD6.out)
    have A7 := A6.below hb
    have R7 := R6.below hb
    clear hb s0 s1 s2 s3
    have s0 := A7.cell 0
    have s1 := A7.cell 1
    have s2 := A7.cell 2
    have s3 := A7.cell 3
    have lA := A7.lt
    simp only [List.getElem?_toArray, List.getElem?_cons_zero, List.getElem?_cons_succ] at s0 s1 s2 s3
    gi_wp2_with fail
    refine ⟨trivial, (callsIn_wide.2 (Len_no HN7.out)).mono ?_⟩
    rintro en w8 ⟨rfl, hb⟩
    have HN8 := Lib.hid (HN7.out.below hb)
    have HB8 := Lib.hid (bnext HB7.out hb)
    have HD8 := Lib.hid ((hb.block _ (Array.getElem?_eq_some_iff.1 HD7.out).1).trans HD7.out)
    have A8 := A7.below hb
    have R8 := R7.below hb
    clear hb s0 s1 s2 s3
    have s0 := A8.cell 0
    have s1 := A8.cell 1
    have s2 := A8.cell 2
    have s3 := A8.cell 3
    have lA := A8.lt
    simp only [List.getElem?_toArray, List.getElem?_cons_zero, List.getElem?_cons_succ] at s0 s1 s2 s3
    gi_wp2_with fail
    refine ⟨trivial, (callsIn_wide.2 (Due_no HN8.out u)).mono ?_⟩
    rintro en w9 ⟨rfl, hb⟩
    have HN9 := Lib.hid (HN8.out.below hb)
    have HB9 := Lib.hid (bnext HB8.out hb)
    have HD9 := Lib.hid ((hb.block _ (Array.getElem?_eq_some_iff.1 HD8.out).1).trans HD8.out)
    have A9 := A8.below hb
    have R9 := R8.below hb
    clear hb s0 s1 s2 s3
    have s0 := A9.cell 0
    have s1 := A9.cell 1
    have s2 := A9.cell 2
    have s3 := A9.cell 3
    have lA := A9.lt
    simp only [List.getElem?_toArray, List.getElem?_cons_zero, List.getElem?_cons_succ] at s0 s1 s2 s3
    gi_wp2_with fail
    refine ⟨trivial, (callsIn_wide.2 (Copy_no HN9.out)).mono ?_⟩
    rintro en w10 ⟨rfl, hb⟩
    have HB10 := Lib.hid (bnext HB9.out hb)
    have hD10 := (hb.block _ (Array.getElem?_eq_some_iff.1 HD9.out).1).trans HD9.out
    have R10 := R9.below hb
    have r0 := R10.cell 0
    have r1 := R10.free 0
    have lR := R10.lt
    simp only [List.getElem?_toArray, List.getElem?_cons_zero] at r0
    clear hb s0 s1 s2 s3 z0 z1 z2 z3
    gi_wp2_with fail
    have hne : w4.heap.size ≠ w.heap.size + 1 := by have := hzz.out; omega
    have hK' : (w10.setCell ⟨w.heap.size + 1, 0, none⟩ (.bool true)).heap[w4.heap.size]? = some (.deferred (some [])) := (heap_set_ne _ _ _ _ _ hne).trans hD10
    refine ⟨by simp, .inl ⟨_, _, rfl, run_takeDeferred hK', ?_⟩⟩
    have D8 : Blk ((w10.setCell ⟨w.heap.size + 1, 0, none⟩ (.bool true)).putObj w4.heap.size (.deferred none)) (w.heap.size + 1) 4 #[.bool true] := (World.putObj_heap_other (fun e => hne e.symm)).trans (by unfold Blk at R10; simp (disch := (first | omega | (simp only [World.size_alloc, World.size_setCell, World.size_drew] <;> omega) | fail)) only [Blk, heap_old, heap_at, heap_set_same, heap_set_ne, heap_drew', Option.map_some, putO_cells, R10]; rfl)
    have hc8 := D8.cell 0
    have hfin : Fr (fun k => w.heap.size ≤ k) w10 ((w10.setCell ⟨w.heap.size + 1, 0, none⟩ (.bool true)).putObj w4.heap.size (.deferred none)) :=
      ((Fr.refl _ _).set _ (by omega)).trans ((OnlyB.put _ w4.heap.size _).1.mono fun q _ h => by omega)
    refine ⟨.bool true, ?_, rfl, HB10.out.trans (hfin.below (fun _ h => h) HB10.out.size)⟩
    simp [results, Try.f22, go_sem, hc8]

set_option maxHeartbeats 4000000 in
theorem nil_walk (t : Tm.T) (u : Int) (w : World) (ht : Ok t) : Calls Try.prog 7 #[vT t, .int .i64 u] w (Ret (.bool true) w) := by
  go_enter Try.func7, Try.ntmps7
  go_upto_region 1 with (fail)
  (refine wp_at (fun w1 => Blk w1 w.heap.size 25 (cT t).toArray ∧ Below w.heap.size w w1) ⟨heap_at rfl, by go_grown⟩ ?_)
  rintro w1 ⟨A, hB1⟩
  go_wp2_with fail
  refine (New_any none 0 0 [] rfl (by omega) (.inl rfl) (by simp)).mono ?_
  rintro en w2 ⟨q, m, v, L, M, rfl, hN, hb2⟩
  have hL0 : L = [] := by
    cases L with
    | nil => rfl
    | cons y L => have := (hN.2.1 y).1 (by simp); cases this
  subst hL0
  have HT := Lib.hid hN.1
  have HF := Lib.hid hN.2.2
  have A2 := A.below hb2
  have HB2 := Lib.hid (bnext hB1 hb2)
  have sz1 := hB1.size
  have A2lt := A.lt
  clear hN hb2 A hB1
  go_wp2_with fail
  refine (Len_any HT.out.raw).mono ?_
  rintro en w3 ⟨rfl, hb3⟩
  have A3 := A2.below hb3
  have HT3 := Lib.hid (HT.out.below hb3)
  have HB3 := Lib.hid (bnext HB2.out hb3)
  clear hb3 A2 HT
  simp only [List.length_nil]
  go_wp2_with fail
  refine (Due_any HT3.out u).mono ?_
  rintro en w4 ⟨vo, rfl, v4, L4, M4, o, hT4, hTU4, hC4, hL4, hO4, hD4⟩
  have ho : o = [] := by
    have := hC4.perm.length_eq
    simp at this
    exact this.1
  subst ho
  obtain ⟨ao, co, rfl, _⟩ := rd_row hO4
  have A4 : Blk w4 w.heap.size 25 (cT t).toArray := (hTU4.fr.block _ A3.lt (fun hf => by have := HF.out _ hf; have := A3.lt; have := A2lt; omega)).trans A3
  have HB4 := Lib.hid (HB3.out.trans (hTU4.fr.below (fun b hb => Nat.le_trans sz1 (HF.out b hb)) HB3.out.size))
  clear hT4 hTU4 hC4 hL4 hO4 hD4 A3
  have lA := A4.lt
  have s0 := A4.cell 0
  have s1 := A4.cell 1
  have s2 := A4.cell 2
  have s3 := A4.cell 3
  simp only [List.length_nil, List.getElem?_toArray, List.getElem?_cons_zero, List.getElem?_cons_succ] at s0 s1 s2 s3 ⊢
  go_wp2_with fail
  refine (nothing_any none (.inl rfl) t u ht).mono ?_
  rintro en w5 ⟨rfl, hb5⟩
  have A5 := A4.below hb5
  have HB5 := Lib.hid (bnext HB4.out hb5)
  clear hb5 s0 s1 s2 s3 A4 lA
  have lA := A5.lt
  have s0 := A5.cell 0
  have s1 := A5.cell 1
  have s2 := A5.cell 2
  have s3 := A5.cell 3
  simp only [List.getElem?_toArray, List.getElem?_cons_zero, List.getElem?_cons_succ] at s0 s1 s2 s3
  go_wp2_with fail
  refine (nothing_any (some ⟨w5.heap.size, 0, none⟩) (.inr ⟨w5.heap.size, rfl, heap_at rfl⟩) t u ht).mono ?_
  rintro en w6 ⟨rfl, hb6⟩
  have HB6 := Lib.hid (bnext HB5.out (bnext (by go_grown) hb6))
  clear hb6 s0 s1 s2 s3
  go_wp2_with fail
  refine (known_any _).mono ?_
  rintro en w7 ⟨rfl, hb7⟩
  have HB7 := Lib.hid (bnext HB6.out hb7)
  clear hb7
  go_wp2_with fail
  go_returns
  exact ⟨rfl, HB7.out⟩
end Go.Proofs.Ytlmmcffbpdfcjaa
