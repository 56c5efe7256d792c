/- The law's walks: a going over tells what there was when it began. -/
import Derived.Test.YtlmmcffbpdfcjaaTmAll
set_option linter.unusedSimpArgs false
set_option linter.unusedVariables false
namespace Go.Proofs.Ytlmmcffbpdfcjaa
open Go.RowKit Go.Kp Go.ChangeMaps Go.Shelf
attribute [local go_sem] Oper.semAt_some
attribute [local go_sem high] eqT neqT

theorem func_nil (lb : Array Value) (w : World) : (binOp .eql 53 (.func (.func 38) #[] lb) .nilFunc).run Try.prog w = .ok (.bool false) w := by kernel_rfl

set_option maxRecDepth 20000 in
set_option maxHeartbeats 8000000 in
theorem walks_any {w : World} (bb : Nat) {q m : Nat} {v : Value} {L : List Tm.T} {M : Tm.T → Option Nat} (S : List Tm.T) (av : Option Addr) (cv : Nat) (lv : Int) (hA : Blk w bb 30 #[ptr q]) (hT : Tq w q m v L M) (hs : S.Pairwise Tm.lt) (hm : ∀ x, x ∈ L ↔ x ∈ S)
    (hv : Rd w w.heap.size av (S.flatMap cT)) (hn : S.length ≤ 5000000000000) :
    Calls Try.prog 20 #[.func (.func 38) #[] #[.pointer (some ⟨bb, 0, none⟩)], .slice av S.length cv, .int .i64 lv] w (Ret (.bool true) w) := by
  have HA := Lib.hid hA
  have HT := Lib.hid hT
  have HS := Lib.hid hs
  have HM := Lib.hid hm
  have HV := Lib.hid hv
  clear hA hT hs hm hv
  obtain ⟨n, hnl⟩ : ∃ n, S.length = n := ⟨_, rfl⟩
  have HN := Lib.hid hnl
  rw [hnl] at hn ⊢
  clear hnl
  refine (callsIn_wide (n := 6)).1 ?_
  refine callsIn_of_wp_marks Try.func20 rfl trivial ?_ rfl
  simp only [Try.ntmps20, List.size_toArray, List.length_cons, List.length_nil, Nat.reduceAdd, Nat.reduceSub, Array.replicate_succ, Array.replicate_zero, List.push_toArray, List.append_toArray, List.nil_append, List.cons_append]
  have hfn := func_nil #[.pointer (some ⟨bb, 0, none⟩)]
  gi_wp2_with fail
  obtain ⟨wL, hwL⟩ : ∃ wL, ((((w.alloc (.cells #[.slice av n cv] 29)).alloc (.cells #[.int .i64 lv] 3)).alloc (.cells #[.bool false] 4)).alloc (.cells #[.int .i64 0] 3)) = wL := ⟨_, rfl⟩
  have hzL : wL.heap.size = w.heap.size + 4 := by rw [← hwL]; simp
  have hBL : Below w.heap.size w wL := by rw [← hwL]; go_grown
  have B4 : Blk wL w.heap.size 29 #[.slice av n cv] := by rw [← hwL]; simp (disch := (first | omega | (simp only [World.size_alloc, World.size_setCell, World.size_drew] <;> omega) | fail)) only [Blk, heap_old, heap_at, heap_set_same, heap_set_ne, heap_drew', Option.map_some, putO_cells]
  have B5 : Blk wL (w.heap.size + 1) 3 #[.int .i64 lv] := by rw [← hwL]; simp (disch := (first | omega | (simp only [World.size_alloc, World.size_setCell, World.size_drew] <;> omega) | fail)) only [Blk, heap_old, heap_at, heap_set_same, heap_set_ne, heap_drew', Option.map_some, putO_cells]
  have B6 : Blk wL (w.heap.size + 1 + 1) 4 #[.bool false] := by rw [← hwL]; simp (disch := (first | omega | (simp only [World.size_alloc, World.size_setCell, World.size_drew] <;> omega) | fail)) only [Blk, heap_old, heap_at, heap_set_same, heap_set_ne, heap_drew', Option.map_some, putO_cells]
  have B7 : Blk wL (w.heap.size + 1 + 1 + 1) 3 #[.int .i64 0] := by rw [← hwL]; simp (disch := (first | omega | (simp only [World.size_alloc, World.size_setCell, World.size_drew] <;> omega) | fail)) only [Blk, heap_old, heap_at, heap_set_same, heap_set_ne, heap_drew', Option.map_some, putO_cells]
  rw [hwL]
  clear hwL
  refine wpIn_rangeFunc_M rfl (by decide) (gf := 38) (lb := #[.pointer (some ⟨bb, 0, none⟩)]) rfl trivial (enters_of Try.func38 (by kernel_rfl) rfl)
    (encs := wkArgs) (T := WkT S) (S := fun xs => xs = S) (Sp := fun _ => True) (Pf := fun _ => False) (Ro := fun _ => False)
    (fun W' hW' => all_seq _ bb S _ W' ((HA.out.below hBL).below hW') ((HT.out.below hBL).below hW') HS.out HM.out)
    (fun _ h => h.elim) (fun _ h => h.elim) (fun _ => rfl)
    (fun pre Pv W => (∀ k, Pv k → wL.heap.size ≤ k) ∧ Fr (fun k => k = w.heap.size + 1 + 1 + 1 ∨ wL.heap.size ≤ k) wL W ∧ Blk W (w.heap.size + 1 + 1 + 1) 3 #[.int .i64 pre.length])
    (fun c pre Pv W => c = .ret ∧ (∀ k, Pv k → wL.heap.size ≤ k) ∧ Fr (fun k => k = w.heap.size + 1 + 1 ∨ k = w.heap.size + 1 + 1 + 1 ∨ wL.heap.size ≤ k) wL W ∧ Blk W (w.heap.size + 1 + 1) 4 #[.bool true])
    ?stab ?stabx ?start ?round ?done ?stop
  case stab =>
    rintro pre Pv Pv' W W' ⟨h1, h2, h3⟩ hf hP
    have hs := h2.size
    refine ⟨fun k hk => (hP k hk).elim (h1 k) (fun h => by omega), h2.trans (hf.mono fun k _ h => h.elim (fun h => .inr (h1 k h)) (fun h => .inr (by omega))), ?_⟩
    exact (hf.block _ h3.lt (fun h => h.elim (fun h => by have := h1 _ h; omega) (fun h => by omega))).trans h3
  case stabx =>
    rintro c pre Pv Pv' W W' ⟨rfl, h1, h2, h3⟩ hf hP
    have hs := h2.size
    refine ⟨rfl, fun k hk => (hP k hk).elim (h1 k) (fun h => by omega), h2.trans (hf.mono fun k _ h => h.elim (fun h => .inr (.inr (h1 k h))) (fun h => .inr (.inr (by omega)))), ?_⟩
    exact (hf.block _ h3.lt (fun h => h.elim (fun h => by have := h1 _ h; omega) (fun h => by omega))).trans h3
  case start => exact ⟨fun _ h => h.elim, Fr.refl _ _, B7⟩
  case round =>
    rintro rl pre x Pv W hrl hrs hp1 hp2 ⟨rr, hrec⟩ hdef ⟨hPv, hF, hN⟩ ⟨⟨R, hSR⟩, hPl⟩
    have HPL := Lib.hid hPl
    have hFs := hF.size
    have HSR := Lib.hid hSR
    clear hrec hdef hPl hSR
    dsimp only [wkArgs]
    gi_wp2_with fail
    refine ⟨heap_old hrs, heap_old (by omega), fun W2 hO => ?_⟩
    obtain ⟨k, hk⟩ : ∃ k, pre.length = k := ⟨_, rfl⟩
    have hx : S[k]? = some x := by rw [HSR.out, ← hk]; simp
    have hkn : k < n := by rw [← HN.out]; exact (List.getElem?_eq_some_iff.1 hx).1
    have old : ∀ b, b < wL.heap.size → b ≠ w.heap.size + 1 + 1 + 1 → W2.heap[b]? = wL.heap[b]? := fun b hb hne => (hO.at (by omega)).trans ((heap_old (by omega)).trans (hF.block b hb (fun h => h.elim hne (fun h => by omega))))
    have C4 : Blk W2 w.heap.size 29 #[.slice av n cv] := (old _ (by omega) (by omega)).trans B4
    have C5 : Blk W2 (w.heap.size + 1) 3 #[.int .i64 lv] := (old _ (by omega) (by omega)).trans B5
    have C6 : Blk W2 (w.heap.size + 1 + 1) 4 #[.bool false] := (old _ (by omega) (by omega)).trans B6
    have C7 : Blk W2 (w.heap.size + 1 + 1 + 1) 3 #[.int .i64 k] := (hO.at (by omega)).trans ((heap_old hN.lt).trans (by rw [← hk]; exact hN))
    have CX : Blk W2 W.heap.size 25 (cT x).toArray := (hO.at (by omega)).trans (heap_at rfl)
    have oldc : ∀ b o, b < w.heap.size → W2.cell? ⟨b, o, none⟩ = w.cell? ⟨b, o, none⟩ := fun b o hb => (World.cell?_of_block (a := ⟨b, o, none⟩) (old b (by omega) (by omega))).trans (hBL.cell (p := ⟨b, o, none⟩) hb)
    obtain ⟨vb, vo, rfl, hvb, hvc⟩ := rd_tms HV.out (by rw [HN.out]; omega)
    obtain ⟨e0', e1', e2', e3'⟩ := cells4 hvc hx
    have e0 := (oldc _ _ hvb).trans e0'
    have e1 := (oldc _ _ hvb).trans e1'
    have e2 := (oldc _ _ hvb).trans e2'
    have e3 := (oldc _ _ hvb).trans e3'
    have o2 : W2.heap.size = W.heap.size + 1 := by rw [hO.2, World.size_alloc]
    have c4 := C4.cell 0
    have c5 := C5.cell 0
    have c7 := C7.cell 0
    have f7 := C7.free 0
    have c6 := C6.cell 0
    have f6 := C6.free 0
    have x0 := CX.cell 0
    have x1 := CX.cell 1
    have x2 := CX.cell 2
    have x3 := CX.cell 3
    simp only [List.getElem?_toArray, List.getElem?_cons_zero, List.getElem?_cons_succ] at c4 c5 c6 c7 x0 x1 x2 x3
    have hd : decide (n ≤ k) = false := by simp; omega
    have hk' : ¬ (n : Int) ≤ k := by omega
    have HFR := Lib.hid (show Fr (fun k => k = w.heap.size + 1 + 1 + 1 ∨ wL.heap.size ≤ k) wL W2 from ((hF.alloc (.cells (cT x).toArray 25)).trans (hO.1.mono fun k _ h => .inr (by omega))))
    have HKE := Lib.hid (show Kept (fun k => Pv k ∨ False) W W2 from ⟨by omega, fun b hb => by
      have hbl : b < W.heap.size := hb.elim (fun h => HPL.out b h) (fun h => h.elim)
      exact (hO.at (fun e => hb.elim (fun h => hp1 (e ▸ h)) (fun h => h.elim))).trans (heap_old hbl)⟩)
    have l7 := C7.lt
    have l6 := C6.lt
    clear old oldc hvc e0' e1' e2' e3' hx hO hF hN
    gi_wp2_with fail
    (refine region_keep_round _ _ (fun _ => True) 10 [(0, true), (1, true), (2, true), (3, true), (4, true), (5, true), (6, true), (7, true), (8, true), (9, true)] (by kernel_rfl) (by kernel_rfl) (fun _ _ d _ _ h => by cases d <;> exact h) (by kernel_rfl) ?_; simp only [withOps, List.getElem?_toArray, List.getElem?_cons_zero, List.getElem?_cons_succ, List.drop_succ_cons, List.drop_zero])
    (iterate 10 (refine keep_quiet (v := ?_) rfl ?_ ?_; rotate_left; (focus (intro w' hw'; go_simp; (try with_reducible rfl); done)); try simp only [Act.put, List.setIfInBounds_toArray, List.set_cons_zero, List.set_cons_succ]))
    (with_reducible refine plan_end ?_)
    (try simp only [Act.put, List.setIfInBounds_toArray, List.set_cons_zero, List.set_cons_succ])
    go_wp2_with fail
    simp only [noOut_normal, Exit.then]
    go_at_K
    clear e0 e1 e2 e3 x0 x1 x2 x3 c4 hd hk'
    rcases Decidable.em (lv = (k : Int) + 1) with hlv | hlv
    · subst hlv
      gi_wp2_with fail
      refine ⟨?_, ?_, rfl, hPv, ?_, ?_⟩
      · rw [heap_drew', heap_set_ne _ _ _ _ _ (by omega), heap_set_ne _ _ _ _ _ (by omega)]
      · rw [heap_drew', heap_set_ne _ _ _ _ _ (by omega), heap_set_ne _ _ _ _ _ (by omega)]
      · exact (((HFR.out.mono fun q _ h => h.elim (fun h => .inr (.inl h)) (fun h => .inr (.inr h))).set _ (.inr (.inl rfl))).set _ (.inl rfl)).drew
      · unfold Blk at C6; simp (disch := (first | omega | (simp only [World.size_alloc, World.size_setCell, World.size_drew] <;> omega) | fail)) only [Blk, heap_old, heap_at, heap_set_same, heap_set_ne, heap_drew', Option.map_some, putO_cells, C6]; rfl
    · have hlv' : ((k : Int) + 1 == lv) = false := by simp; omega
      gi_wp2_with fail
      refine ⟨?_, ?_, ⟨?_, fun b hb => ?_⟩, hPv, (HFR.out.set _ (.inl rfl)).drew, ?_⟩
      · rw [heap_drew', heap_set_ne _ _ _ _ _ (by omega)]
      · rw [heap_drew', heap_set_ne _ _ _ _ _ (by omega)]
      · rw [World.size_drew, World.size_setCell]; exact HKE.out.1
      · rw [heap_drew', heap_set_ne _ _ _ _ _ (hb.elim (fun h => by have := hPv b h; omega) (fun h => h.elim))]
        exact HKE.out.2 b hb
      · rw [List.length_append, hk]
        unfold Blk at C7; simp (disch := (first | omega | (simp only [World.size_alloc, World.size_setCell, World.size_drew] <;> omega) | fail)) only [Blk, heap_old, heap_at, heap_set_same, heap_set_ne, heap_drew', Option.map_some, putO_cells, C7]; rfl
  case done =>
    rintro D xs Pv W hD rfl ⟨hPv, hF, hN⟩ hK
    have hFs := hF.size
    rw [HN.out] at hN
    have C4 : Blk W w.heap.size 29 #[.slice av n cv] := (hF.block _ (by omega) (by omega)).trans B4
    have C6 : Blk W (w.heap.size + 1 + 1) 4 #[.bool false] := (hF.block _ (by omega) (by omega)).trans B6
    have c4 := C4.cell 0
    have c6 := C6.cell 0
    have f6 := C6.free 0
    have c7 := hN.cell 0
    have l6 := C6.lt
    simp only [List.getElem?_toArray, List.getElem?_cons_zero] at c4 c6 c7
    have hnn : ((n : Int) == (n : Int)) = true := by simp
    gi_wp2_with fail
    have hK' : (W.setCell ⟨w.heap.size + 1 + 1, 0, none⟩ (.bool true)).heap[D]? = some (.deferred (some [])) := (heap_set_ne _ _ _ _ _ (by omega)).trans hK
    refine ⟨by simp, .inl ⟨_, _, rfl, run_takeDeferred hK', ?_⟩⟩
    have D8 : Blk ((W.setCell ⟨w.heap.size + 1 + 1, 0, none⟩ (.bool true)).putObj D (.deferred none)) (w.heap.size + 1 + 1) 4 #[.bool true] := (World.putObj_heap_other (by omega)).trans (by unfold Blk at C6; simp (disch := (first | omega | (simp only [World.size_alloc, World.size_setCell, World.size_drew] <;> omega) | fail)) only [Blk, heap_old, heap_at, heap_set_same, heap_set_ne, heap_drew', Option.map_some, putO_cells, C6]; rfl)
    have hc8 := D8.cell 0
    have hfin : Fr (fun k => w.heap.size ≤ k) wL ((W.setCell ⟨w.heap.size + 1 + 1, 0, none⟩ (.bool true)).putObj D (.deferred none)) :=
      ((hF.mono fun q _ h => show w.heap.size ≤ q by omega).set _ (by omega)).trans ((OnlyB.put _ D _).1.mono fun q _ h => by omega)
    refine ⟨.bool true, ?_, rfl, hBL.trans (hfin.below (fun _ h => h) (by omega))⟩
    simp [results, Try.f20, go_sem, hc8]
  case stop =>
    rintro D c pre Pv W hD _ ⟨rfl, hPv, hF, C8⟩ hK
    gi_wp2_with fail
    refine ⟨by simp, .inl ⟨_, _, rfl, run_takeDeferred hK, ?_⟩⟩
    have D8 : Blk (W.putObj D (.deferred none)) (w.heap.size + 1 + 1) 4 #[.bool true] := (World.putObj_heap_other (by omega)).trans C8
    have hc8 := D8.cell 0
    have hfin : Fr (fun k => w.heap.size ≤ k) wL (W.putObj D (.deferred none)) :=
      (hF.mono fun q _ h => show w.heap.size ≤ q by omega).trans ((OnlyB.put _ D _).1.mono fun q _ h => by omega)
    refine ⟨.bool true, ?_, rfl, hBL.trans (hfin.below (fun _ h => h) (by omega))⟩
    simp [results, Try.f20, go_sem, hc8]
end Go.Proofs.Ytlmmcffbpdfcjaa
