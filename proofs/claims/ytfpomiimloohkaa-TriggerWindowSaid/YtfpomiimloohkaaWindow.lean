/- TriggerWindow: the walk. -/
import Derived.Test.YtfpomiimloohkaaWinA
import Derived.Test.YtfpomiimloohkaaFork
import Derived.Deep.Cut
set_option linter.unusedSimpArgs false
set_option linter.unusedVariables false
namespace Go.Proofs.Ytfpomiimloohkaa
open Go.RowKit Go.Kp

abbrev k107 : ByteArray := ⟨#[107]⟩

theorem Evt.owns {w w' : World} {en : Ending} {c : Conf} {key : ByteArray} {x : Win} {v t m : Int} (h : Evt w (eventW c x v t m) (eventP c key x v t m) en w') :
    ∃ a cap, en = .returned (.tuple #[(eventW c x v t m).val, .slice a (eventL c key x v t m).length cap]) ∧ w'.ownsRow w.heap.size 37 9 (.slice a (eventL c key x v t m).length cap) (eventL c key x v t m).length ((eventL c key x v t m).flatMap Pn.cells) ∧ Below w.heap.size w w' := by
  obtain ⟨sv, rfl, hown, hb⟩ := h
  rw [eventL_eq, List.length_map, ← List.flatMap_def] at hown
  rcases hown.2 with ⟨h1, h2⟩ | ⟨g, cap, _, h1, _⟩
  · subst h1; exact ⟨none, 0, by rw [h2], by rw [h2] at hown ⊢; exact hown, hb⟩
  · subst h1; exact ⟨_, _, rfl, hown, hb⟩

set_option maxRecDepth 100000 in
set_option maxHeartbeats 8000000 in
theorem window (c : Conf) (s e m : Int) (a : Option Addr) (cap : Nat) (zs : List Int) (w : World) (hs : I64 s) (he : I64 e) (hm : I64 m) (hl : zs.length ≤ 9223372036854775807) (hz : ∀ z ∈ zs, I64 z) (hr : Rd w w.heap.size a (zs.map (Value.int .i64))) :
    Calls Try.prog 5 #[c.val, .agg #[.int .i64 s, .int .i64 e], .slice a zs.length cap, .int .i64 m] w (Ret (.bool true) w) := by
  have hx := Lib.hid (And.intro hs (And.intro he (And.intro hm hz)))
  have hr' := Lib.hid hr
  clear hs he hm hz hr
  generalize hn : zs.length = n at hl ⊢
  have HN := Lib.hid hn
  clear hn
  go_enter Try.func5, Try.ntmps5
  go_wp2_with fail
  refine (known_any _).mono ?_
  rintro en w1 ⟨rfl, hb1⟩
  have hB1 : Below w.heap.size w w1 := bnext (by go_grown) hb1
  have A0 : Blk w1 w.heap.size 24 c.cells := Blk.below (by simp (disch := (first | omega | (simp only [World.size_alloc, World.size_setCell, World.size_drew] <;> omega) | fail)) only [Blk, heap_old, heap_at, heap_set_same, heap_set_ne, heap_drew', Option.map_some, putO_cells]) hb1
  have A1 : Blk w1 (w.heap.size + 1) 26 #[.int .i64 s, .int .i64 e] := Blk.below (by simp (disch := (first | omega | (simp only [World.size_alloc, World.size_setCell, World.size_drew] <;> omega) | fail)) only [Blk, heap_old, heap_at, heap_set_same, heap_set_ne, heap_drew', Option.map_some, putO_cells]) hb1
  clear hb1
  have c0 := A0.cell
  have c1 := A1.cell
  have l0 := A0.lt
  have l1 := A1.lt
  by_cases h1 : c.ea < 0
  · go_wp2_with fail
    go_returns
    exact ⟨rfl, by go_grown⟩
  by_cases h2 : 2147483647 < c.ea
  · go_wp2_with fail
    go_returns
    exact ⟨rfl, by go_grown⟩
  by_cases h3 : 5000 < n
  · go_wp2_with fail
    go_returns
    exact ⟨rfl, by go_grown⟩
  go_wp2_with fail
  generalize hg : w1.heap.size = g
  have G := Lib.hid hg
  have w0 := Lib.hid (went0 c k107 s e hx.out.1 hx.out.2.1)
  have gL : w.heap.size + 1 < g := by omega
  go_loopw [10, 11, 12, 13, 14, 15] (fun pv i _ _ _ _ wr => ∃ (k : Nat) (y : Win) (l : List Pn), k ≤ n ∧ i = .int .i64 k ∧ Went c k107 s e k y l ∧ Blk wr w.heap.size 24 c.cells ∧ Blk wr (w.heap.size + 1) 26 #[.int .i64 s, .int .i64 e] ∧
      Blk wr g 30 y.cells ∧ wr.ownsRow (g + 1) 37 9 pv l.length (l.flatMap Pn.cells) ∧ Below w.heap.size w wr) (fun _ i _ _ _ _ _ => n - (intOf i).toNat)
  case atStart =>
    refine ⟨0, _, [], Nat.zero_le _, rfl, w0.out, ?_, ?_, ?_, World.ownsRow_nil _ _ _ _, by go_grown⟩
    · unfold Blk at A0; simp (disch := (first | omega | (simp only [World.size_alloc, World.size_setCell, World.size_drew] <;> omega) | fail)) only [Blk, heap_old, heap_at, heap_set_same, heap_set_ne, heap_drew', Option.map_some, putO_cells, A0]
    · unfold Blk at A1; simp (disch := (first | omega | (simp only [World.size_alloc, World.size_setCell, World.size_drew] <;> omega) | fail)) only [Blk, heap_old, heap_at, heap_set_same, heap_set_ne, heap_drew', Option.map_some, putO_cells, A1]
    · subst hg; exact Blk_new _ _ _
  case round =>
    obtain ⟨k, y, l, hk, rfl, hw, D0, D1, D2, hown, hB⟩ := hrel
    have HW := Lib.hid hw
    have HO := Lib.hid hown
    clear hw hown c0 c1 l0 l1 A0 A1 w0
    rcases Nat.lt_or_ge k n with hlt | hge
    · obtain ⟨z, hzk⟩ : ∃ z, zs[k]? = some z := ⟨_, List.getElem?_eq_getElem (by rw [HN.out]; exact hlt)⟩
      have hzI := Lib.hid (hx.out.2.2.2 z (List.mem_of_getElem? hzk))
      rcases hr'.out with hr | ⟨b, off, rfl, hbl, hc⟩
      · have := HN.out
        rw [List.map_eq_nil_iff.1 hr] at this
        simp at this; omega
      have e0 : wr.cell? ⟨b, off + k, none⟩ = some (.int .i64 z) := (hB.cell (p := ⟨b, off + k, none⟩) hbl).trans (hc k _ (by rw [List.getElem?_map, hzk]; rfl))
      clear hzk hbl hc
      have d0 := D0.cell
      have d1 := D1.cell
      have d2 := D2.cell
      have q0 := D0.lt
      have q1 := D1.lt
      have q2 := D2.lt
      have qb := cell_lt e0
      have hBL := hB.size
      go_wp2_with fail
      (refine region_tree (Keep (fun x => x < wr.heap.size)) (Keep.refl _) Keep.trans 16 (.seq [(0, true), (1, true), (2, true), (3, true), (4, true), (5, true), (6, true), (7, true), (8, true)] (.fork 9 13 (.seq [(10, true), (11, true), (12, true), (13, false), (14, false), (15, true)] .fin) (.seq [(9, false), (10, true), (11, true), (12, true), (14, false), (15, true)] .fin))) (by kernel_rfl) (fun _ _ d _ _ h => by cases d <;> exact h) (by kernel_rfl) ?_)
      (refine tree_seq ?_; simp only [withOps, List.getElem?_toArray, List.getElem?_cons_zero, List.getElem?_cons_succ])
      (repeat (refine keep_quiet (v := ?_) rfl ?_ ?_; rotate_left; (focus (intro w' hw'; go_simp; (try with_reducible rfl); done)); try simp only [Act.put, List.setIfInBounds_toArray, List.set_cons_zero, List.set_cons_succ]))
      with_reducible refine plan_end ?_
      refine tree_fork ?_ ?_
      -- the call first
      (simp only [withOps, List.getElem?_toArray, List.getElem?_cons_zero, List.getElem?_cons_succ])
      refine plan_loud (fun K hK => ?_)
      go_simp
      refine (event_any c k107 y z s m _ HW.out.ok hzI.out hx.out.1 hx.out.2.2.1).mono ?_
      rintro en w8 hE
      obtain ⟨a8, k8, rfl, O8, hb8⟩ := hE.owns
      clear hE
      refine hK _ _ ((Keep.refl _ _).below hb8 (fun _ h => h)) ?_
      clear hK K
      have z8 : wr.heap.size ≤ w8.heap.size := hb8.size
      with_reducible refine plan_end ?_
      (refine tree_seq ?_; simp only [withOps, List.getElem?_toArray, List.getElem?_cons_zero, List.getElem?_cons_succ])
      (try simp only [Act.put, List.setIfInBounds_toArray, List.set_cons_zero, List.set_cons_succ])
      (repeat (refine keep_quiet (v := ?_) rfl ?_ ?_; rotate_left; (focus (intro w' hw'; go_simp; (try with_reducible rfl); done)); try simp only [Act.put, List.setIfInBounds_toArray, List.set_cons_zero, List.set_cons_succ]))
      refine plan_loud (fun K hK => ?_)
      go_simp
      refine hK _ _ ((Keep.refl _ _).alloc (fun x hx => Nat.lt_of_lt_of_le hx z8) _) ?_
      clear hK K
      (try simp only [Act.put, List.setIfInBounds_toArray, List.set_cons_zero, List.set_cons_succ])
      refine plan_loud (fun K hK => ?_)
      go_simp
      refine hK _ _ (Keep.alloc2 (fun x hx => Nat.lt_of_lt_of_le hx z8) _ _) ?_
      clear hK K
      (try simp only [Act.put, List.setIfInBounds_toArray, List.set_cons_zero, List.set_cons_succ])
      (repeat (refine keep_quiet (v := ?_) rfl ?_ ?_; rotate_left; (focus (intro w' hw'; go_simp; (try with_reducible rfl); done)); try simp only [Act.put, List.setIfInBounds_toArray, List.set_cons_zero, List.set_cons_succ]))
      ((with_reducible refine plan_end ?_); (with_reducible refine tree_fin ?_); simp only [List.drop_succ_cons, List.drop_zero]; (try simp only [Act.put, List.setIfInBounds_toArray, List.set_cons_zero, List.set_cons_succ]))
      go_wp2_with fail
      generalize hX : w8.heap.size = X
      have gX : g < X := by omega
      refine wp_at (fun wc => Blk wc w.heap.size 24 c.cells ∧ Blk wc (w.heap.size + 1) 26 #[.int .i64 s, .int .i64 e] ∧ Blk wc g 30 y.cells ∧ Blk wc X 30 (eventW c y z s m).cells ∧ wc.ownsRow (g + 1) 37 9 u10 l.length (l.flatMap Pn.cells) ∧
          wc.ownsRow (g + 1) 37 9 (.slice a8 (eventL c k107 y z s m).length k8) (eventL c k107 y z s m).length ((eventL c k107 y z s m).flatMap Pn.cells) ∧ Below w.heap.size w wc) ⟨?_, ?_, ?_, ?_, ?_, ?_, ?_⟩ ?_
      · exact Blk_alloc (Blk.below (w := wr.drew) D0 hb8) _
      · exact Blk_alloc (Blk.below (w := wr.drew) D1 hb8) _
      · exact Blk_alloc (Blk.below (w := wr.drew) D2 hb8) _
      · subst hX; exact Blk_new _ _ _
      · exact (owns_keep HO.out (fun i _ hi => hb8.block i hi)).alloc _
      · exact owns_mono (O8.alloc _) (by simp; omega)
      · have hB8 : Below w.heap.size w w8 := bnext (by go_grown) hb8
        go_grown
      rotate_left
      -- the block first
      (simp only [withOps, List.getElem?_toArray, List.getElem?_cons_zero, List.getElem?_cons_succ])
      refine plan_loud (fun K hK => ?_)
      go_simp
      refine hK _ _ ((Keep.refl _ _).alloc (fun x hx => hx) _) ?_
      clear hK K
      with_reducible refine plan_end ?_
      (refine tree_seq ?_; simp only [withOps, List.getElem?_toArray, List.getElem?_cons_zero, List.getElem?_cons_succ])
      (try simp only [Act.put, List.setIfInBounds_toArray, List.set_cons_zero, List.set_cons_succ])
      refine plan_loud (fun K hK => ?_)
      go_simp
      refine (event_any c k107 y z s m _ HW.out.ok hzI.out hx.out.1 hx.out.2.2.1).mono ?_
      rintro en w8 hE
      obtain ⟨a8, k8, rfl, O8, hb8⟩ := hE.owns
      clear hE
      refine hK _ _ ((Keep.refl _ _).below hb8 (fun _ h => by simp; omega)) ?_
      clear hK K
      have z8 : wr.heap.size < w8.heap.size := by have := hb8.size; simp at this; omega
      have D8 : Blk w8 wr.heap.size 30 Win.zero.cells := Blk.below (by simp (disch := (first | omega | (simp only [World.size_alloc, World.size_setCell, World.size_drew] <;> omega) | fail)) only [Blk, heap_old, heap_at, heap_set_same, heap_set_ne, heap_drew', Option.map_some, putO_cells]) hb8
      have d8 := D8.cell
      have f8 := D8.free
      (try simp only [Act.put, List.setIfInBounds_toArray, List.set_cons_zero, List.set_cons_succ])
      (repeat (refine keep_quiet (v := ?_) rfl ?_ ?_; rotate_left; (focus (intro w' hw'; go_simp; (try with_reducible rfl); done)); try simp only [Act.put, List.setIfInBounds_toArray, List.set_cons_zero, List.set_cons_succ]))
      refine plan_loud (fun K hK => ?_)
      go_simp
      refine hK _ _ ?_ ?_
      · (repeat' (first | (with_reducible exact Keep.refl _ _) | (with_reducible refine Keep.drew ?_) | (with_reducible refine Keep.of_drew ?_) | (with_reducible refine Keep.alloc ?_ ?_ _) | (with_reducible refine Keep.setCell ?_ ?_ _) | (simp; omega) | (simp; done) | omega))
      clear hK K
      (try simp only [Act.put, List.setIfInBounds_toArray, List.set_cons_zero, List.set_cons_succ])
      (repeat (refine keep_quiet (v := ?_) rfl ?_ ?_; rotate_left; (focus (intro w' hw'; go_simp; (try with_reducible rfl); done)); try simp only [Act.put, List.setIfInBounds_toArray, List.set_cons_zero, List.set_cons_succ]))
      ((with_reducible refine plan_end ?_); (with_reducible refine tree_fin ?_); simp only [List.drop_succ_cons, List.drop_zero]; (try simp only [Act.put, List.setIfInBounds_toArray, List.set_cons_zero, List.set_cons_succ]))
      go_wp2_with fail
      have D0' : Blk w8 w.heap.size 24 c.cells := Blk.below (by unfold Blk at D0; simp (disch := (first | omega | (simp only [World.size_alloc, World.size_setCell, World.size_drew] <;> omega) | fail)) only [Blk, heap_old, heap_at, heap_set_same, heap_set_ne, heap_drew', Option.map_some, putO_cells, D0]) hb8
      have D1' : Blk w8 (w.heap.size + 1) 26 #[.int .i64 s, .int .i64 e] := Blk.below (by unfold Blk at D1; simp (disch := (first | omega | (simp only [World.size_alloc, World.size_setCell, World.size_drew] <;> omega) | fail)) only [Blk, heap_old, heap_at, heap_set_same, heap_set_ne, heap_drew', Option.map_some, putO_cells, D1]) hb8
      have D2' : Blk w8 g 30 y.cells := Blk.below (by unfold Blk at D2; simp (disch := (first | omega | (simp only [World.size_alloc, World.size_setCell, World.size_drew] <;> omega) | fail)) only [Blk, heap_old, heap_at, heap_set_same, heap_set_ne, heap_drew', Option.map_some, putO_cells, D2]) hb8
      generalize hX : wr.heap.size = X
      have gX : g < X := by omega
      refine wp_at (fun wc => Blk wc w.heap.size 24 c.cells ∧ Blk wc (w.heap.size + 1) 26 #[.int .i64 s, .int .i64 e] ∧ Blk wc g 30 y.cells ∧ Blk wc X 30 (eventW c y z s m).cells ∧ wc.ownsRow (g + 1) 37 9 u10 l.length (l.flatMap Pn.cells) ∧
          wc.ownsRow (g + 1) 37 9 (.slice a8 (eventL c k107 y z s m).length k8) (eventL c k107 y z s m).length ((eventL c k107 y z s m).flatMap Pn.cells) ∧ Below w.heap.size w wc) ⟨?_, ?_, ?_, ?_, ?_, ?_, ?_⟩ ?_
      · unfold Blk at D0'; simp (disch := (first | omega | (simp only [World.size_alloc, World.size_setCell, World.size_drew] <;> omega) | fail)) only [Blk, heap_old, heap_at, heap_set_same, heap_set_ne, heap_drew', Option.map_some, putO_cells, D0']
      · unfold Blk at D1'; simp (disch := (first | omega | (simp only [World.size_alloc, World.size_setCell, World.size_drew] <;> omega) | fail)) only [Blk, heap_old, heap_at, heap_set_same, heap_set_ne, heap_drew', Option.map_some, putO_cells, D1']
      · unfold Blk at D2'; simp (disch := (first | omega | (simp only [World.size_alloc, World.size_setCell, World.size_drew] <;> omega) | fail)) only [Blk, heap_old, heap_at, heap_set_same, heap_set_ne, heap_drew', Option.map_some, putO_cells, D2']
      · subst hX; unfold Blk at D8; simp (disch := (first | omega | (simp only [World.size_alloc, World.size_setCell, World.size_drew] <;> omega) | fail)) only [Blk, heap_old, heap_at, heap_set_same, heap_set_ne, heap_drew', Option.map_some, putO_cells, D8]; simp [Win.cells]; done
      · refine owns_keep HO.out (fun i hi hlt => ?_)
        have hk : w8.heap[i]? = wr.heap[i]? := (hb8.block i (by simp; omega)).trans (heap_old (w := wr.drew) hlt)
        simp (disch := (first | omega | (simp only [World.size_alloc, World.size_setCell, World.size_drew] <;> omega) | fail)) only [Blk, heap_old, heap_at, heap_set_same, heap_set_ne, heap_drew', Option.map_some, putO_cells, hk]
      · refine owns_mono (owns_keep O8 (fun i hi hlt => ?_)) (by simp; omega)
        simp at hi
        simp (disch := (first | omega | (simp only [World.size_alloc, World.size_setCell, World.size_drew] <;> omega) | fail)) only [Blk, heap_old, heap_at, heap_set_same, heap_set_ne, heap_drew', Option.map_some, putO_cells]
      · have hB8 : Below w.heap.size w w8 := bnext (by go_grown) hb8
        have hXw : w.heap.size ≤ X := by omega
        go_grown
      rotate_left
      all_goals
        rintro wc ⟨E0, E1, E2, E3, O1, O2, hBc⟩
        have HW' := Lib.hid (went_next HW.out (by omega) (v := z) (t := s) (m := m) hzI.out hx.out.1 hx.out.2.2.1)
        have hag := Lib.hid (again (c := c) (y := y) (v := z) (t := s) (m := m) h1)
        have hsp := Lib.hid (And.intro ((eventW_s c y z s m).trans HW.out.ys) ((eventW_e c y z s m).trans HW.out.ye))
        have hpn := Lib.hid (fun (j : Nat) p (h : (eventL c k107 y z s m)[j]? = some p) => And.intro (eventL_each h).1 (And.intro ((eventL_each h).2.1.trans HW.out.ys) ((eventL_each h).2.2.trans HW.out.ye)))
        have hln := Lib.hid (eventL_len c k107 y z s m)
        have hye := Lib.hid HW.out.ye
        generalize eventW c y z s m = y' at *
        generalize eventL c k107 y z s m = r at *
        (try clear hX O8)
        (try clear D8 d8 f8 D0' D1' D2')
        clear D0 D1 D2 d0 d1 d2 q0 q1 q2 e0 qb HO hB hb8 z8 w8 hBL
        obtain ⟨y1, y2, y3, y4, y5, y6, y7, y8, y9⟩ := y'
        have p1 := hsp.out.1.symm
        have p2 := hsp.out.2.symm
        simp only at p1 p2
        subst p1
        subst p2
        clear hsp
        have f0 := E0.cell
        have f1 := E1.cell
        have f3 := E3.cell
        generalize hq : r.length = q at O2 hln ⊢
        have HQ := Lib.hid hq
        clear hq
        have hq01 : q = 0 ∨ q = 1 := by have := hln.out; omega
        clear hln
        rcases hq01 with rfl | rfl
        -- no pane
        (refine region_keep (fun _ => True) 19 [(0, true), (1, true), (2, true), (3, true), (4, true), (5, true), (6, true), (7, true), (8, true), (9, true), (10, true), (11, true), (12, true), (13, true), (14, true), (15, true), (16, true), (17, true), (18, true)] (by kernel_rfl) (fun _ _ d _ _ h => by cases d <;> exact h) (by kernel_rfl) ?_; simp only [withOps, List.getElem?_toArray, List.getElem?_cons_zero, List.getElem?_cons_succ, List.drop_succ_cons, List.drop_zero])
        (iterate 14 (refine keep_quiet (v := ?_) rfl ?_ ?_; rotate_left; (focus (intro w' hw'; go_simp; (try with_reducible rfl); done)); try simp only [Act.put, List.setIfInBounds_toArray, List.set_cons_zero, List.set_cons_succ]))
        (iterate 5 ((with_reducible refine plan_skip ?_ ?_); (focus rfl); try simp only [Act.put, List.setIfInBounds_toArray, List.set_cons_zero, List.set_cons_succ]))
        with_reducible refine plan_end ?_
        (try simp only [Act.put, List.setIfInBounds_toArray, List.set_cons_zero, List.set_cons_succ])
        go_wp2_with fail
        rotate_left
        -- one pane
        obtain ⟨p, rfl⟩ := List.length_eq_one_iff.1 HQ.out
        obtain ⟨pk, ps, pe, ki, pa, pc, psu, pmi, pma⟩ := p
        obtain ⟨q1, q2, q3⟩ := hpn.out 0 _ rfl
        simp only at q1 q2 q3
        have q2' := q2.symm
        have q3' := q3.symm
        have q1' := q1.symm
        clear q1 q2 q3
        subst q1'
        subst q2'
        subst q3'
        obtain ⟨p8, k8', hv8, hp8, hp8'⟩ := O2.form (by simp)
        obtain ⟨rfl, _, rfl⟩ := hv8
        have hcl := fun j hj => O2.cellAt j hj
        have t0 := hcl 0 (by simp)
        have t1 := hcl 1 (by simp)
        have t2 := hcl 2 (by simp)
        clear hcl
        (refine region_keep (fun _ => True) 19 [(0, true), (1, true), (2, true), (3, true), (4, true), (5, true), (6, true), (7, true), (8, true), (9, true), (10, true), (11, true), (12, true), (13, true), (14, true), (15, true), (16, true), (17, true), (18, true)] (by kernel_rfl) (fun _ _ d _ _ h => by cases d <;> exact h) (by kernel_rfl) ?_; simp only [withOps, List.getElem?_toArray, List.getElem?_cons_zero, List.getElem?_cons_succ, List.drop_succ_cons, List.drop_zero])
        (repeat (refine keep_quiet (v := ?_) rfl ?_ ?_; rotate_left; (focus (intro w' hw'; go_simp; (try with_reducible rfl); done)); try simp only [Act.put, List.setIfInBounds_toArray, List.set_cons_zero, List.set_cons_succ]))
        with_reducible refine plan_end ?_
        (try simp only [Act.put, List.setIfInBounds_toArray, List.set_cons_zero, List.set_cons_succ])
        go_wp2_with fail
        clear t0 t1 t2
        all_goals
          with_reducible refine (behind_any ⟨s, e, y3, y4, y5, y6, y7, y8, y9⟩ c m _).mono ?_
          rintro en w9 ⟨rfl, hb9⟩
          rw [hag.out, hye.out]
          have z9 : wc.heap.size ≤ w9.heap.size := by have := hb9.size; simp at this; omega
          have hB9 : Below w.heap.size w w9 := bnext (by go_grown) hb9
          have G0 : Blk w9 w.heap.size 24 c.cells := Blk.below (by unfold Blk at E0; simp (disch := (first | omega | (simp only [World.size_alloc, World.size_setCell, World.size_drew] <;> omega) | fail)) only [Blk, heap_old, heap_at, heap_set_same, heap_set_ne, heap_drew', Option.map_some, putO_cells, E0]) hb9
          have G1 : Blk w9 (w.heap.size + 1) 26 #[.int .i64 s, .int .i64 e] := Blk.below (by unfold Blk at E1; simp (disch := (first | omega | (simp only [World.size_alloc, World.size_setCell, World.size_drew] <;> omega) | fail)) only [Blk, heap_old, heap_at, heap_set_same, heap_set_ne, heap_drew', Option.map_some, putO_cells, E1]) hb9
          have G2 : Blk w9 g 30 y.cells := Blk.below (by unfold Blk at E2; simp (disch := (first | omega | (simp only [World.size_alloc, World.size_setCell, World.size_drew] <;> omega) | fail)) only [Blk, heap_old, heap_at, heap_set_same, heap_set_ne, heap_drew', Option.map_some, putO_cells, E2]) hb9
          have G3 : Blk w9 X 30 (Win.mk s e y3 y4 y5 y6 y7 y8 y9).cells := Blk.below (by unfold Blk at E3; simp (disch := (first | omega | (simp only [World.size_alloc, World.size_setCell, World.size_drew] <;> omega) | fail)) only [Blk, heap_old, heap_at, heap_set_same, heap_set_ne, heap_drew', Option.map_some, putO_cells, E3]) hb9
          have O1' := owns_keep O1 (fun i _ hi => hb9.block i hi)
          have O2' := owns_keep O2 (fun i _ hi => hb9.block i hi)
          have l0 := E0.lt
          have l2 := E2.lt
          clear E0 E1 E2 E3 O1 O2 f0 f1 f3 hb9 hBc
          have f1 := G1.cell
          have f3 := G3.cell
          have f2 := G2.cell
          have ff2 := G2.free
          have l2' := G2.lt
          obtain ⟨bm, hbm⟩ : ∃ bm, decide (e ≤ m) = bm := ⟨_, rfl⟩
          rw [hbm]
          cases bm
          all_goals
            (first | (have hem : m < e := (by simpa using hbm); clear hbm) | (have hem : e ≤ m := (by simpa using hbm); clear hbm))
            go_upto_region 17 with (fail)
            apply wp_region_lit
            iterate 2 (go_step; go_step; rename_i KK hKK; (with_reducible refine hKK _ _ ?_); clear hKK KK)
            (with_reducible refine append_panes ?_ (.tmp 97) (.tmp 98) ?_ (g + 1) u10 l ?_ (owns_keep O1' (fun i hi _ => ?_)) (g + 1) _ _ _ HQ.out ?_ (owns_keep O2' (fun i hi _ => ?_)) ?_ ?_ ?_)
            · rfl
            · rfl
            · rfl
            · simp (disch := (first | omega | (simp only [World.size_alloc, World.size_setCell, World.size_drew] <;> omega) | fail)) only [Blk, heap_old, heap_at, heap_set_same, heap_set_ne, heap_drew', Option.map_some, putO_cells]
            · rfl
            · simp (disch := (first | omega | (simp only [World.size_alloc, World.size_setCell, World.size_drew] <;> omega) | fail)) only [Blk, heap_old, heap_at, heap_set_same, heap_set_ne, heap_drew', Option.map_some, putO_cells]
            · have := HQ.out
              have := HW.out.len
              omega
            · simp only [World.size_setCell]; omega
            rintro v' w2 ho' hg' ⟨ag, cg, rfl⟩
            have hoh := Lib.hid ho'
            clear ho'
            have J0 : Blk w2 w.heap.size 24 c.cells := Blk.grown (by unfold Blk at G0; simp (disch := (first | omega | (simp only [World.size_alloc, World.size_setCell, World.size_drew] <;> omega) | fail)) only [Blk, heap_old, heap_at, heap_set_same, heap_set_ne, heap_drew', Option.map_some, putO_cells, G0]) hg' (owns_far O1' (by omega))
            have J1 : Blk w2 (w.heap.size + 1) 26 #[.int .i64 s, .int .i64 e] := Blk.grown (by unfold Blk at G1; simp (disch := (first | omega | (simp only [World.size_alloc, World.size_setCell, World.size_drew] <;> omega) | fail)) only [Blk, heap_old, heap_at, heap_set_same, heap_set_ne, heap_drew', Option.map_some, putO_cells, G1]) hg' (owns_far O1' (by omega))
            have J2 : Blk w2 g 30 (Win.mk s e y3 y4 y5 y6 y7 y8 y9).cells := Blk.grown (by unfold Blk at G2; simp (disch := (first | omega | (simp only [World.size_alloc, World.size_setCell, World.size_drew] <;> omega) | fail)) only [Blk, heap_old, heap_at, heap_set_same, heap_set_ne, heap_drew', Option.map_some, putO_cells, G2]; simp [Win.cells]; done) hg' (owns_far O1' (by omega))
            have hBJ : Below w.heap.size w w2 := by
              refine Below.grown ?_ hg' ?_ ?_
              · go_grown
              · simp only [World.size_setCell]; omega
              · intro kk hkk
                rcases Nat.lt_or_ge kk w.heap.size with h | h
                · exact absurd hkk.symm (owns_far O1' (by omega))
                · exact h
            clear G0 G1 G2 G3 f1 f2 f3 ff2 hg' O1' O2' l0 l2 l2' z9 hB9
            go_wp2_with fail
            refine ⟨⟨k + 1, _, _, by omega, by go_num, HW'.out, J0, J1, J2, ?_, hBJ⟩, by simp [intOf]; omega⟩
            simpa only [List.length_append, List.length_cons, List.length_nil, Nat.zero_add] using hoh.out
    · obtain rfl : k = n := by omega
      have hb := Lib.hid (cnt_bound (k := k) (fun j p hp => (HW.out.each j p hp).2))
      rcases Nat.eq_zero_or_pos l.length with hl0 | hl0
      · obtain ⟨ga, gc, rfl⟩ : ∃ a c, u10 = .slice a l.length c := by
          rcases HO.out.2 with ⟨h1, h2⟩ | ⟨g', cap', _, h1, _⟩
          · exact ⟨none, 0, by rw [h1, h2]⟩
          · exact ⟨_, _, h1⟩
        rw [hl0]
        have hall := HW.out.all
        have hck := HW.out.yk
        have hcy := HW.out.y0
        rw [List.eq_nil_of_length_eq_zero hl0, show cnt [] = 0 from rfl, Int.zero_add] at hall
        have hall' : y.c = (k : Int) := by
          by_cases hdi : c.di = true
          · rw [if_pos hdi] at hall; exact hall
          · rw [if_neg hdi] at hall; exact hall.1
        clear hall
        have d0 := D0.cell
        have d2 := D2.cell
        cases hdi : c.di
        all_goals
          go_wp2_with fail
          go_rounds 1
          go_returns
          exact ⟨rfl, by go_grown⟩
      obtain ⟨gp, cp, rfl, hgp1, hgp2⟩ := HO.out.form hl0
      have hcl := Lib.hid (fun j u (hu : (l.flatMap Pn.cells)[j]? = some u) => (HO.out.cellAt j (by have h1 := (List.getElem?_eq_some_iff.1 hu).1; rw [flat_length Pn.cells 9 Pn.len] at h1; exact h1)).trans hu)
      have hB0 := hB
      clear hB
      generalize hwr : wr = wx at D0 D1 D2 HO hcl hB0 hgp2
      clear hwr
      go_wp2_with fail
      go_loopw [16, 17] (fun sm i wr => ∃ j : Nat, j ≤ l.length ∧ i = .int .i64 j ∧ sm = .int .i64 (cnt (l.take j)) ∧ Below wx.heap.size wx wr) (fun _ i _ => l.length - (intOf i).toNat)
      case atStart => exact ⟨0, Nat.zero_le _, rfl, rfl, Below.refl _ _⟩
      case round =>
        obtain ⟨j, hj, rfl, rfl, hB⟩ := hrel
        rcases Nat.lt_or_ge j l.length with hlt | hge
        · obtain ⟨p, hp⟩ : ∃ p, l[j]? = some p := ⟨_, List.getElem?_eq_getElem hlt⟩
          have hpe := HW.out.each j p hp
          obtain ⟨s1, s2⟩ := hb.out j hj
          obtain ⟨p1, p2, p3⟩ := hpe
          have hk5 : k ≤ 5000 := by omega
          have hj5 : j ≤ 5000 := by have := HW.out.len; omega
          have s3 : (j : Int) * k ≤ 5000 * 5000 := by
            have := Nat.mul_le_mul hj5 hk5
            exact_mod_cast this
          have s4 : cnt (l.take j) ≤ 25000000 := by omega
          clear s2 s3
          have hp' := Lib.hid hp
          have hst := Lib.hid (cnt_step hp)
          have ce := fun i hi => (hB.cell (p := ⟨gp, 0 + (j * 9 + i), none⟩) hgp2).trans (pn_cells (off := 0) (fun jj u hu => by rw [Nat.zero_add]; exact hcl.out jj u hu) j p hp i hi)
          have c3 := ce 4 (by omega)
          have c5 := ce 5 (by omega)
          clear ce
          simp only [Nat.zero_add, List.getElem?_cons_zero, List.getElem?_cons_succ, p1] at c3 c5
          have d0 := (Blk.below D0 hB).cell
          clear hp
          go_wp2_with fail
          by_cases hdi : c.di = true
          · (refine region_keep (fun _ => True) 29 [(0, true), (1, true), (2, true), (3, true), (4, true), (5, true), (6, true), (7, true), (8, true), (9, true), (10, true), (11, true), (12, true), (13, true), (14, true), (15, true), (16, true), (17, true), (18, true), (19, true), (20, true), (21, true), (22, true), (23, true), (24, true), (25, true), (26, true), (27, true), (28, true)] (by kernel_rfl) (fun _ _ d _ _ h => by cases d <;> exact h) (by kernel_rfl) ?_; simp only [withOps, List.getElem?_toArray, List.getElem?_cons_zero, List.getElem?_cons_succ, List.drop_succ_cons, List.drop_zero])
            (iterate 12 (refine keep_quiet (v := ?_) rfl ?_ ?_; rotate_left; (focus (intro w' hw'; go_simp; (try with_reducible rfl); done)); try simp only [Act.put, List.setIfInBounds_toArray, List.set_cons_zero, List.set_cons_succ]))
            (iterate 2 ((with_reducible refine plan_skip ?_ ?_); (focus rfl); try simp only [Act.put, List.setIfInBounds_toArray, List.set_cons_zero, List.set_cons_succ]))
            (iterate 2 (refine keep_quiet (v := ?_) rfl ?_ ?_; rotate_left; (focus (intro w' hw'; go_simp; (try with_reducible rfl); done)); try simp only [Act.put, List.setIfInBounds_toArray, List.set_cons_zero, List.set_cons_succ]))
            (iterate 13 ((with_reducible refine plan_skip ?_ ?_); (focus rfl); try simp only [Act.put, List.setIfInBounds_toArray, List.set_cons_zero, List.set_cons_succ]))
            (with_reducible refine plan_end ?_)
            (try simp only [Act.put, List.setIfInBounds_toArray, List.set_cons_zero, List.set_cons_succ])
            go_wp2_with fail
            refine ⟨⟨j + 1, by omega, by go_num, ?_, by go_grown⟩, by simp [intOf]; omega⟩
            rw [hst.out]
          have hdi' : c.di = false := by simpa using hdi
          clear hdi
          rcases Nat.eq_zero_or_pos j with rfl | hj0
          · (refine region_keep (fun _ => True) 29 [(0, true), (1, true), (2, true), (3, true), (4, true), (5, true), (6, true), (7, true), (8, true), (9, true), (10, true), (11, true), (12, true), (13, true), (14, true), (15, true), (16, true), (17, true), (18, true), (19, true), (20, true), (21, true), (22, true), (23, true), (24, true), (25, true), (26, true), (27, true), (28, true)] (by kernel_rfl) (fun _ _ d _ _ h => by cases d <;> exact h) (by kernel_rfl) ?_; simp only [withOps, List.getElem?_toArray, List.getElem?_cons_zero, List.getElem?_cons_succ, List.drop_succ_cons, List.drop_zero])
            (iterate 16 (refine keep_quiet (v := ?_) rfl ?_ ?_; rotate_left; (focus (intro w' hw'; go_simp; (try with_reducible rfl); done)); try simp only [Act.put, List.setIfInBounds_toArray, List.set_cons_zero, List.set_cons_succ]))
            (iterate 13 ((with_reducible refine plan_skip ?_ ?_); (focus rfl); try simp only [Act.put, List.setIfInBounds_toArray, List.set_cons_zero, List.set_cons_succ]))
            (with_reducible refine plan_end ?_)
            (try simp only [Act.put, List.setIfInBounds_toArray, List.set_cons_zero, List.set_cons_succ])
            go_wp2_with fail
            refine ⟨⟨0 + 1, by omega, by go_num, ?_, by go_grown⟩, by simp [intOf]; omega⟩
            rw [hst.out]
          · obtain ⟨i, rfl⟩ : ∃ i, j = i + 1 := ⟨j - 1, by omega⟩
            obtain ⟨q, hq⟩ : ∃ q, l[i]? = some q := ⟨_, List.getElem?_eq_getElem (by omega)⟩
            have hrise : q.c < p.c := by
              have := HW.out.all
              rw [hdi', if_neg (by decide)] at this
              exact this.2 i q p hq hp'.out
            have cq := (hB.cell (p := ⟨gp, 0 + (i * 9 + 5), none⟩) hgp2).trans (pn_cells (off := 0) (fun jj u hu => by rw [Nat.zero_add]; exact hcl.out jj u hu) i q hq 5 (by omega))
            simp only [Nat.zero_add, List.getElem?_cons_zero, List.getElem?_cons_succ] at cq
            have hi1 : (i : Int) + 1 < (l.length : Int) := by omega
            have hi2 : (0 : Int) ≤ (i : Int) + 1 := by omega
            have hi3 : (i : Int) < (l.length : Int) := by omega
            have hi4 : (0 : Int) ≤ (i : Int) := by omega
            have hi5 : IntKind.i64.wrap (i : Int) = (i : Int) := IntWalk.i64_in _ (by omega)
            clear hq hj0
            (refine region_keep (fun _ => True) 29 [(0, true), (1, true), (2, true), (3, true), (4, true), (5, true), (6, true), (7, true), (8, true), (9, true), (10, true), (11, true), (12, true), (13, true), (14, true), (15, true), (16, true), (17, true), (18, true), (19, true), (20, true), (21, true), (22, true), (23, true), (24, true), (25, true), (26, true), (27, true), (28, true)] (by kernel_rfl) (fun _ _ d _ _ h => by cases d <;> exact h) (by kernel_rfl) ?_; simp only [withOps, List.getElem?_toArray, List.getElem?_cons_zero, List.getElem?_cons_succ, List.drop_succ_cons, List.drop_zero])
            (iterate 29 (refine keep_quiet (v := ?_) rfl ?_ ?_; rotate_left; (focus (intro w' hw'; go_simp; (try with_reducible rfl); done)); try simp only [Act.put, List.setIfInBounds_toArray, List.set_cons_zero, List.set_cons_succ]))
            (with_reducible refine plan_end ?_)
            (try simp only [Act.put, List.setIfInBounds_toArray, List.set_cons_zero, List.set_cons_succ])
            go_wp2_with fail
            refine ⟨⟨i + 1 + 1, by omega, by go_num, ?_, by go_grown⟩, by simp [intOf]; omega⟩
            rw [hst.out]
        · obtain rfl : j = l.length := by omega
          rw [List.take_length]
          have hall := HW.out.all
          have hck := HW.out.yk
          have hcy := HW.out.y0
          have d0 := (Blk.below D0 hB).cell
          have d2 := (Blk.below D2 hB).cell
          have hlen := hb.out l.length (Nat.le_refl _)
          rw [List.take_length] at hlen
          have hBB : Below w.heap.size w wr := hB0.trans (hB.mono hB0.size)
          by_cases hdi : c.di = true
          · rw [if_pos hdi] at hall
            go_wp2_with fail
            go_returns
            exact ⟨rfl, by go_grown⟩
          · rw [if_neg hdi] at hall
            have hdi' : c.di = false := by simpa using hdi
            clear hdi
            obtain ⟨hall, _⟩ := hall
            go_wp2_with fail
            go_returns
            exact ⟨rfl, by go_grown⟩
end Go.Proofs.Ytfpomiimloohkaa
