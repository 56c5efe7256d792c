/- Store: StoreWalks: the walk. -/
import Derived.Test.YtchmlephgkimcaaSvD
import Derived.WalkMore
import Derived.LoopN
import Derived.Deep.CutBlock
import Derived.Test.YtchmlephgkimcaaFork
set_option linter.unusedSimpArgs false
set_option linter.unusedVariables false
namespace Go.Proofs.Ytchmlephgkimcaa
open Go.RowKit Go.Kp Go.St Go.Shelf

def is (zs : List Int) : List Value := zs.map (Value.int .i64)
theorem is_at {w : World} {B : Nat} {a : Option Addr} {l : List Int} (h : Rd w B a (is l)) {i : Nat} {x : Int} (hx : l[i]? = some x) : ∃ b off, a = some ⟨b, off, none⟩ ∧ b < B ∧ w.cell? ⟨b, off + i, none⟩ = some (.int .i64 x) := by
  rcases h with h | ⟨b, off, h1, h2, h3⟩
  · have := (List.getElem?_eq_some_iff.1 hx).1
    have h' : (is l).length = l.length := by simp [is]
    rw [h] at h'
    simp at h'
    omega
  · exact ⟨b, off, h1, h2, h3 _ _ (by simp [is, hx])⟩
theorem keep_below {X Y Z : World} (h : Below X.heap.size Y Z) : Keep (fun x => x < X.heap.size) Y Z := fun x hx => h.block x hx
theorem at_world {G : World → Prop} {R : World → Prop} {w : World} (hR : R w) (h : ∀ w', R w' → G w') : G w := h w hR
/-- What is to be called at the end stands. -/
def DefW (w : World) (g r b12 B D : Nat) : Prop := w.heap[D]? = some (.deferred (some [])) ∧ D ≠ g ∧ D ≠ r ∧ D ≠ b12 ∧ D < w.heap.size ∧ B ≤ D
theorem DefW.next {w w' : World} {g r b12 B D : Nat} (h : DefW w g r b12 B D) (hF : Fr (fun b => b = g ∨ b = r ∨ b = b12) w w') : DefW w' g r b12 B D :=
  ⟨(hF.block D h.2.2.2.2.1 fun e => by rcases e with e | e | e; exact h.2.1 e; exact h.2.2.1 e; exact h.2.2.2.1 e).trans h.1, h.2.1, h.2.2.1, h.2.2.2.1, Nat.lt_of_lt_of_le h.2.2.2.2.1 hF.size, h.2.2.2.2.2⟩
section
variable {wh fm : Int} {q g r b5 b7 b8 b11 b12 : Nat} {y : Ws} {sv : Value} {w w' : World} {t t' : Tr}
theorem StS.turned {v : Value} (h : StS wh fm q g r b5 b7 b8 b11 b12 y sv w) (hB : Bm wh w q g r t) (hc : Blk w b12 3 #[v]) (hB' : Bm wh w' q g r t') (hF : Fr (fun b => b = g ∨ b = r ∨ b = b12) w w') : StS wh fm q g r b5 b7 b8 b11 b12 y sv w' := by
  obtain ⟨⟨cg, hg⟩, ⟨cr, hr⟩, hq⟩ := hB.gblk
  refine h.next hB' (fun b ty cs hb n1 n2 n3 => hF.block b hb.lt fun hh => ?_) fun ty cs h1 => by
    unfold Blk at h1 hc
    rw [hc] at h1
    cases h1; rfl
  rcases hh with hh | hh | hh
  · exact blk_types hb hg n1 hh
  · exact blk_types hb hr n2 hh
  · exact n3 hh
theorem b6_ne {b6 : Nat} {v v' : Value} (hB : Bm wh w q g r t) (hc : Blk w b12 3 #[v]) (h : Blk w b6 4 #[v']) : ¬ (b6 = g ∨ b6 = r ∨ b6 = b12) := by
  obtain ⟨⟨cg, hg⟩, ⟨cr, hr⟩, hq⟩ := hB.gblk
  rintro (hh | hh | hh)
  · exact blk_types h hg (by decide) hh
  · exact blk_types h hr (by decide) hh
  · exact blk_types h hc (by decide) hh
theorem b6_ne2 {b6 : Nat} {v' : Value} (hB : Bm wh w q g r t) (h : Blk w b6 4 #[v']) : ¬ (b6 = g ∨ b6 = r) := by
  obtain ⟨⟨cg, hg⟩, ⟨cr, hr⟩, hq⟩ := hB.gblk
  rintro (hh | hh)
  · exact blk_types h hg (by decide) hh
  · exact blk_types h hr (by decide) hh
theorem b5_ne {v' : Value} (hB : Bm wh w q g r t) (h : Blk w b5 23 #[v']) : ¬ (b5 = g ∨ b5 = r) := by
  obtain ⟨⟨cg, hg⟩, ⟨cr, hr⟩, hq⟩ := hB.gblk
  rintro (hh | hh)
  · exact blk_types h hg (by decide) hh
  · exact blk_types h hr (by decide) hh
/-- Ahead of the first turn. -/
theorem W3.start (h : W3 wh fm q g b11 y #[wkV y.bm0 y.bb0 y.bo0, wkV y.bm1 y.bb1 y.bo1, wkV y.bm2 y.bb2 y.bo2] w) (c5 : Blk w b5 23 #[sv]) (c7 : Blk w b7 24 #[ptr g]) (c8 : Blk w b8 26 #[ptr r]) (h12 : w.heap.size ≤ b12)
    (hB : Bm wh w q g r t) (hb : Below w.heap.size w w') : StS wh fm q g r b5 b7 b8 b11 b12 y sv w' := by
  have h0 : StS wh fm q g r b5 b7 b8 b11 b12 y sv w := ⟨c5, c7, c8, h.1, h.2.1, h.2.2.1, h.2.2.2, by have := hB.gblk.2.2.lt; omega, by have := h.2.2.1.so.2.2.1.lt; omega, by have := h.2.2.2.so.2.2.1.lt; omega⟩
  exact h0.next (hB.below hb) (fun b ty cs h1 _ _ _ => hb.block b h1.lt) fun ty cs h1 => by have := h1.lt; omega
end
/-- A statement that ends well alone. -/
theorem wp_only {P : Program} {s : Code} {K : Act → World → Prop} {Q' : Exit → Act → World → Prop} {a : Act} {w : World} (h : s.wp P (Exit.then K (fun _ _ _ => False)) a w) : s.wp P (Exit.then K Q') a w := by
  refine wp_mono h ?_
  intro e a' w' hq
  cases e with
  | normal => exact hq
  | exit id => exact hq.elim
  | goto l => exact hq.elim
  | ret => exact hq.elim
  | panic ch => exact hq.elim
  | outgrown => exact hq.elim

set_option maxRecDepth 100000 in
set_option maxHeartbeats 16000000 in
theorem walks_any {w : World} (which : Int) (ka : Option Addr) (n cap : Nat) (ks : List Int) (sa : Option Addr) (ns caps : Nat) (sc : List Opr) (hwr : IntKind.i64.wrap which = which)
    (hkl : ks.length = n) (hkr : Rd w w.heap.size ka (is ks)) (hsl : sc.length = ns) (hns : ns ≤ 3000000000000) (hsr : Rd w w.heap.size sa (sc.flatMap Opr.cells)) :
    Calls Try.prog 3 #[.int .i64 which, .slice ka n cap, .slice sa ns caps] w (Ret (.bool true) w) := by
  have HKL := Lib.hid hkl
  have HKR := Lib.hid hkr
  have HSL := Lib.hid hsl
  have HSR := Lib.hid hsr
  have hb : -5 < which.tmod 5 ∧ which.tmod 5 < 5 := by
    have h := Int.natAbs_tmod which 5
    have h2 := Nat.mod_lt which.natAbs (show 0 < 5 by decide)
    rw [show (5 : Int).natAbs = 5 from rfl] at h
    omega
  clear hkl hkr hsl hsr
  refine (callsIn_wide (n := 6)).1 ?_
  refine callsIn_of_wp_marks Try.func3 rfl trivial ?_ rfl
  simp only [Try.ntmps3, List.size_toArray, List.length_cons, List.length_nil, Nat.reduceAdd, Nat.reduceSub, Array.replicate_succ, Array.replicate_zero, List.push_toArray, List.append_toArray, List.nil_append, List.cons_append]
  refine wpIn_wide.2 ?_
  go_upto_region 2 with (fail)
  generalize hWH : (which.tmod 5 + 5) % 5 = wh
  clear hWH hb
  (refine wp_at (fun w1 => Blk w1 w.heap.size 23 #[.slice sa ns caps] ∧ Blk w1 (w.heap.size + 1) 4 #[.bool false] ∧ Below w.heap.size w w1) ⟨by simp (disch := (first | omega | (simp only [World.size_alloc, World.size_setCell, World.size_drew] <;> omega) | fail)) only [Blk, heap_old, heap_at, heap_set_same, heap_set_ne, heap_drew', Option.map_some, putO_cells], by simp (disch := (first | omega | (simp only [World.size_alloc, World.size_setCell, World.size_drew] <;> omega) | fail)) only [Blk, heap_old, heap_at, heap_set_same, heap_set_ne, heap_drew', Option.map_some, putO_cells], by go_grown⟩ ?_)
  rintro w1 ⟨B5, B6, hB1⟩
  have HB1 := Lib.hid hB1
  have H5 := Lib.hid B5
  have H6 := Lib.hid B6
  have sz1 := hB1.size
  have l6 := B6.lt
  clear hB1 B5 B6
  go_wp2_with fail
  refine (made_any wh w1).mono ?_
  rintro en w2 ⟨g, q, rfl, hg, hM, hb2⟩
  have HG := Lib.hid hg
  have HM := Lib.hid hM
  have HB2 := Lib.hid hb2
  have sz2 := hb2.size
  clear hg hM hb2
  go_upto_region 4 with (fail)
  (refine wp_at (fun w3 => Blk w3 w2.heap.size 24 #[ptr g] ∧ Blk w3 (w2.heap.size + 1) 29 #[.int .i64 wh, .slice none 0 0] ∧ Blk w3 (w2.heap.size + 1 + 1) 26 #[ptr (w2.heap.size + 1)] ∧ Below w2.heap.size w2 w3) ⟨by simp (disch := (first | omega | (simp only [World.size_alloc, World.size_setCell, World.size_drew] <;> omega) | fail)) only [Blk, heap_old, heap_at, heap_set_same, heap_set_ne, heap_drew', Option.map_some, putO_cells], by simp (disch := (first | omega | (simp only [World.size_alloc, World.size_setCell, World.size_drew] <;> omega) | fail)) only [Blk, heap_old, heap_at, heap_set_same, heap_set_ne, heap_drew', Option.map_some, putO_cells], by simp (disch := (first | omega | (simp only [World.size_alloc, World.size_setCell, World.size_drew] <;> omega) | fail)) only [Blk, heap_old, heap_at, heap_set_same, heap_set_ne, heap_drew', Option.map_some, putO_cells], by go_grown⟩ ?_)
  obtain ⟨b7, h7⟩ : ∃ b7, b7 = w2.heap.size := ⟨_, rfl⟩
  obtain ⟨r, hr⟩ : ∃ r, r = w2.heap.size + 1 := ⟨_, rfl⟩
  obtain ⟨b8, h8⟩ : ∃ b8, b8 = w2.heap.size + 1 + 1 := ⟨_, rfl⟩
  rw [← h8, ← hr, ← h7]
  rintro w3 ⟨B7, BR, B8, hB3⟩
  have HNE := Lib.hid (show w2.heap.size ≤ b7 ∧ w2.heap.size ≤ r ∧ w2.heap.size ≤ b8 ∧ b7 ≠ r ∧ b7 ≠ b8 ∧ b8 ≠ r by omega)
  rw [h7] at hB3
  have HB3 := Lib.hid hB3
  clear h7 hr h8
  have HBm := Lib.hid (show Bm wh w3 q g r .nil from ⟨HM.out.below hB3, ⟨none, 0, BR, .inl rfl, Nat.le_refl _, by decide, fun _ => rfl⟩, bm_lastR wh q⟩)
  have H7 := Lib.hid B7
  have H8 := Lib.hid B8
  have sz3 := hB3.size
  have c7 := B7.cell 0
  have l7 := B7.lt
  simp only [List.getElem?_toArray, List.getElem?_cons_zero] at c7
  have HBW := Lib.hid (HB1.out.trans ((HB2.out.mono sz1).trans (hB3.mono (Nat.le_trans sz1 sz2))))
  have H5' := Lib.hid ((H5.out.below HB2.out).below hB3)
  have H6' := Lib.hid ((H6.out.below HB2.out).below hB3)
  clear hB3 B7 BR B8 H5 H6
  rcases Nat.lt_or_ge 500 n with hbig | hsmall
  · have hbd : (500 : Int) < n := by omega
    have hbd' : decide ((500 : Int) < n) = true := decide_eq_true hbd
    go_wp2_with fail
    refine (works_any w3).mono ?_
    rintro en w4 ⟨rfl, hb4⟩
    have G6 := H6'.out.below hb4
    have c6 := G6.cell 0
    have f6 := G6.free 0
    have l6' := G6.lt
    have HB4 := Lib.hid (HBW.out.trans (hb4.mono HBW.out.size))
    clear hb4
    go_wp2_with fail
    have hc8 := (blk_set (n := 0) (v := .bool true) G6).cell 0
    simp only [Array.setIfInBounds, List.size_toArray, List.length_cons, List.length_nil, Nat.zero_add, Nat.zero_lt_one, dite_true, List.set_toArray, List.set_cons_zero, List.getElem?_toArray, List.getElem?_cons_zero] at hc8
    refine ⟨.bool true, ?_, rfl, HB4.out.setCell (p := ⟨w.heap.size + 1, 0, none⟩) (Nat.le_succ _) _⟩
    simp [results, Try.f3, go_sem, hc8]
  · have hbd : ¬ (500 : Int) < n := by omega
    have hbd' : decide ((500 : Int) < n) = false := decide_eq_false hbd
    go_upto_block 0 with (fail)
    refine wp_only ?_
    go_wp2_with fail
    go_loopw [9] (fun vi wr => ∃ (k : Nat) (t : Tr), vi = .int .i64 k ∧ k ≤ n ∧ Bm wh wr q g r t ∧ t.many ≤ k ∧ Fr (fun b => b = g ∨ b = r) w3 wr) (fun vi _ => n - (intOf vi).toNat)
    case atStart => exact ⟨0, .nil, rfl, Nat.zero_le _, HBm.out, Nat.le_refl _, Fr.refl _ _⟩
    case round =>
      rename World => wr
      obtain ⟨k, t, rfl, hk, hB, hm, hfr⟩ := hrel
      obtain ⟨⟨cg3, hg3⟩, ⟨cr3, hr3⟩, hq3⟩ := HBm.out.gblk
      have same : ∀ b ty cs, Blk w3 b ty cs → ty ≠ 75 → ty ≠ 29 → Blk wr b ty cs := fun b ty cs hb n1 n2 => (hfr.block b hb.lt fun hh => hh.elim (blk_types hb hg3 n1) (blk_types hb hr3 n2)).trans hb
      have HSA := Lib.hid same
      have D7 := same _ _ _ H7.out (by decide) (by decide)
      have D8 := same _ _ _ H8.out (by decide) (by decide)
      have HBr := Lib.hid hB
      have HF := Lib.hid hfr
      have sz4 := hfr.size
      have gge := HG.out
      have nes := HNE.out
      have HBW4 := Lib.hid (show Below w.heap.size w wr from HBW.out.trans (hfr.below (fun b hh => by rcases hh with rfl | rfl <;> omega) (by omega)))
      clear same hg3 hr3 hq3 hB hfr c7 l7 nes gge
      rcases Nat.lt_or_ge k n with hkl | hkg
      · obtain ⟨x, hx⟩ : ∃ x, ks[k]? = some x := ⟨_, List.getElem?_eq_getElem (by rw [HKL.out]; exact hkl)⟩
        obtain ⟨kb, ko, rfl, hkb, hkc⟩ := is_at (HKR.out.below HBW4.out) hx
        have d7 := D7.cell 0
        have d8 := D8.cell 0
        have l7 := D7.lt
        have l8 := D8.lt
        simp only [List.getElem?_toArray, List.getElem?_cons_zero] at d7 d8
        have hkbr : kb < wr.heap.size := Nat.lt_of_lt_of_le hkb HBW4.out.size
        have HD8 := Lib.hid D8
        clear hx D7 D8
        go_wp2_with fail
        (refine region_keep (fun _ => True) 6 [(0, true), (1, true), (2, true), (3, true), (4, true), (5, true)] (by kernel_rfl) (fun _ _ d _ _ h => by cases d <;> exact h) (by kernel_rfl) ?_; simp only [withOps, List.getElem?_toArray, List.getElem?_cons_zero, List.getElem?_cons_succ, List.drop_succ_cons, List.drop_zero])
        (iterate 6 (refine keep_quiet (v := ?_) rfl ?_ ?_; rotate_left; (focus (intro w' hw'; go_simp; (try with_reducible rfl); done)); try simp only [Act.put, List.setIfInBounds_toArray, List.set_cons_zero, List.set_cons_succ]))
        (with_reducible refine plan_end ?_)
        (try simp only [Act.put, List.setIfInBounds_toArray, List.set_cons_zero, List.set_cons_succ])
        go_wp2_with fail
        have HBd := Lib.hid (HBr.out.below (show Below wr.heap.size wr wr.drew from (Below.refl _ _).drew))
        refine (Put_any HBd.out.own x (k : Int) (by omega)).mono ?_
        rintro en w5 ⟨rfl, hM5, hg5⟩
        obtain ⟨ca, hcg, _⟩ := HBd.out.own.cells
        have gge := HG.out
        have D8 : Blk w5 b8 26 #[ptr r] := Blk.grown (w := wr.drew) HD8.out hg5 (fun e => blk_types (w := wr.drew) HD8.out hcg (by decide) (by injection e))
        have hkc5 : w5.cell? ⟨kb, ko + k, none⟩ = some (.int .i64 x) := (World.cell?_of_block (a := ⟨kb, ko + k, none⟩) (hg5.block kb hkbr (fun e => by injection e with e; omega))).trans hkc
        have HR5 := Lib.hid (HBd.out.ref.grown hcg hg5)
        have HM5 := Lib.hid hM5
        have HG5 := Lib.hid hg5
        have l8 := D8.lt
        have hkb5 : kb < w5.heap.size := Nat.lt_of_lt_of_le hkbr hg5.size
        have d8 := D8.cell 0
        simp only [List.getElem?_toArray, List.getElem?_cons_zero] at d8
        clear hM5 hg5 hcg D8 hkc gge d7 l7
        go_wp2_with fail
        (refine region_keep (fun _ => True) 6 [(0, true), (1, true), (2, true), (3, true), (4, true), (5, true)] (by kernel_rfl) (fun _ _ d _ _ h => by cases d <;> exact h) (by kernel_rfl) ?_; simp only [withOps, List.getElem?_toArray, List.getElem?_cons_zero, List.getElem?_cons_succ, List.drop_succ_cons, List.drop_zero])
        (iterate 6 (refine keep_quiet (v := ?_) rfl ?_ ?_; rotate_left; (focus (intro w' hw'; go_simp; (try with_reducible rfl); done)); try simp only [Act.put, List.setIfInBounds_toArray, List.set_cons_zero, List.set_cons_succ]))
        (with_reducible refine plan_end ?_)
        (try simp only [Act.put, List.setIfInBounds_toArray, List.set_cons_zero, List.set_cons_succ])
        go_wp2_with fail
        refine (rPut_any (HR5.out.below (show Below w5.heap.size w5 w5.drew from (Below.refl _ _).drew)) x (k : Int) (by rw [← T.many_len]; omega)).mono ?_
        rintro en w6 ⟨rfl, hR6, hg6⟩
        obtain ⟨cr, hcr⟩ := (HR5.out.below (show Below w5.heap.size w5 w5.drew from (Below.refl _ _).drew)).blk
        have HM6 := Lib.hid ((HM5.out.below (show Below w5.heap.size w5 w5.drew from (Below.refl _ _).drew)).grownR (bm_lastR wh q) hcr hg6)
        have HR6 := Lib.hid hR6
        have HG6 := Lib.hid hg6
        clear hR6 hg6 hcr d8 hkc5
        go_wp2_with fail
        go_roundw
        case rel =>
          refine ⟨k + 1, put (cw wh) x (k : Int) t, by go_num, by omega, ⟨HM6.out, ?_, bm_lastR wh q⟩, ?_, ?_⟩
          · rw [toL_put HBr.out.own.ord t HBr.out.own.srt]
            exact HR6.out
          · have := many_put (cw wh) x (k : Int) t; omega
          · exact ((HF.out.drew.trans (Two.of_grown HG5.out (.inl rfl))).drew).trans (Two.of_grown HG6.out (.inr rfl))
        case measure => simp [intOf]; omega
      · obtain rfl : k = n := by omega
        go_upto_region 11 with (fail)
        clear HSA
        go_upto_if 62 with (fail)
        go_cut [10] from 60 to 68 (fun s10 wc => wc = wr ∧ ∃ fm : Int, s10 = .int .i64 fm)
        case first =>
          clear D7 D8
          rcases Nat.eq_zero_or_pos k with h0 | h0
          · have h1 : ¬ (0 : Int) < k := by omega
            have h1' : decide ((0 : Int) < k) = false := decide_eq_false h1
            clear h0
            go_wp2_with fail
            go_meet
            exact ⟨rfl, _, rfl⟩
          · have h1 : (0 : Int) < k := by omega
            have h1' : decide ((0 : Int) < k) = true := decide_eq_true h1
            obtain ⟨m, hmk⟩ : ∃ m, k / 2 = m := ⟨_, rfl⟩
            have hmlt : m < k := by omega
            obtain ⟨x, hx⟩ : ∃ x, ks[m]? = some x := ⟨_, List.getElem?_eq_getElem (by rw [HKL.out]; exact hmlt)⟩
            obtain ⟨kb, ko, rfl, hkb, hkc⟩ := is_at (HKR.out.below HBW4.out) hx
            have hdiv : (k : Int).tdiv 2 = (m : Int) := by rw [Int.tdiv_eq_ediv_of_nonneg (by omega)]; omega
            have hm1 : (m : Int) < k := by omega
            have hkbr : kb < wr.heap.size := Nat.lt_of_lt_of_le hkb HBW4.out.size
            clear hx hmk h0
            go_wp2_with fail
            go_meet
            exact ⟨rfl, _, rfl⟩
        case rest =>
          obtain ⟨hwc, fm, rfl⟩ := hcut
          rw [hwc]
          clear hwc
          have d7 := D7.cell 0
          have l7 := D7.lt
          simp only [List.getElem?_toArray, List.getElem?_cons_zero] at d7
          have HBq := HBr
          have HD7 := Lib.hid D7
          have HD8 := Lib.hid D8
          have HMK := Lib.hid hm
          clear D7 D8 hm
          go_upto_region 14 with (fail)
          go_cut [11] from 69 to 77 (fun s11 wc => ∃ (b11 : Nat) (y : Ws), s11 = ptr b11 ∧ Below wr.heap.size wr wc ∧ wr.heap.size ≤ b11 ∧ W3 wh fm q g b11 y #[wkV y.bm0 y.bb0 y.bo0, wkV y.bm1 y.bb1 y.bo1, wkV y.bm2 y.bb2 y.bo2] wc)
          case first =>
            refine wp_only ?_
            (refine region_tree (Keep (fun x => x < wr.heap.size)) (Keep.refl _) Keep.trans 11 (.seq [(0, true), (2, true), (3, true), (5, true), (6, true)] (.fork 1 9 (.fork 4 9 (.fork 7 9 (.seq [(8, true), (9, false), (10, false)] .fin) (.seq [(7, false), (8, true), (10, false)] .fin)) (.seq [(4, false), (7, false), (8, true), (10, false)] .fin)) (.seq [(1, false), (4, false), (7, false), (8, true), (10, false)] .fin))) (by kernel_rfl) (fun _ _ d _ _ h => by cases d <;> exact h) (by kernel_rfl) ?_)
            ((with_reducible refine tree_seq ?_); simp only [withOps, List.getElem?_toArray, List.getElem?_cons_zero, List.getElem?_cons_succ])
            (iterate 5 (refine keep_quiet (v := ?_) rfl ?_ ?_; rotate_left; (focus (intro w' hw'; go_simp; (try with_reducible rfl); done)); try simp only [Act.put, List.setIfInBounds_toArray, List.set_cons_zero, List.set_cons_succ]))
            have hbd0 : Below wr.heap.size wr wr.drew := (Below.refl _ _).drew
            have HBd0 := Lib.hid hbd0
            clear hbd0
            obtain ⟨y_0, hy0⟩ : ∃ y, wr.drew = y := ⟨_, rfl⟩
            rw [hy0] at HBd0 ⊢
            clear hy0
            (with_reducible refine plan_end ?_)
            (try simp only [Act.put, List.setIfInBounds_toArray, List.set_cons_zero, List.set_cons_succ])
            refine tree_fork ?_ ?_
            · (simp only [withOps, List.getElem?_toArray, List.getElem?_cons_zero, List.getElem?_cons_succ])
              (try simp only [Act.put, List.setIfInBounds_toArray, List.set_cons_zero, List.set_cons_succ])
              (with_reducible refine plan_loud (fun K hK => ?_))
              go_simp
              refine (All_any g _).mono ?_
              rintro en_4 y_1 ⟨bm0, bb0, bo0, rfl, hw_3, hb_2⟩
              refine hK _ _ (fun b hb => hb_2.block b (Nat.lt_of_lt_of_le hb HBd0.out.size)) ?_
              clear hK K
              have HB_5 := Lib.hid (bnext HBd0.out hb_2)
              have HW_6 := Lib.hid hw_3
              clear hb_2 hw_3
              (try simp only [Act.put, List.setIfInBounds_toArray, List.set_cons_zero, List.set_cons_succ])
              (with_reducible refine plan_end ?_)
              (try simp only [Act.put, List.setIfInBounds_toArray, List.set_cons_zero, List.set_cons_succ])
              refine tree_fork ?_ ?_
              · (simp only [withOps, List.getElem?_toArray, List.getElem?_cons_zero, List.getElem?_cons_succ])
                (try simp only [Act.put, List.setIfInBounds_toArray, List.set_cons_zero, List.set_cons_succ])
                (with_reducible refine plan_loud (fun K hK => ?_))
                go_simp
                refine (From_any (HBq.out.below HB_5.out).own fm).mono ?_
                rintro en_10 y_7 ⟨bm1, bb1, bo1, xm1, xk1, rfl, hw_9, hb_8⟩
                refine hK _ _ (fun b hb => hb_8.block b (Nat.lt_of_lt_of_le hb HB_5.out.size)) ?_
                clear hK K
                have HB_11 := Lib.hid (bnext HB_5.out hb_8)
                have HW_12 := Lib.hid (HW_6.out.below (fun _ _ _ _ => trivial) hb_8)
                have HW_13 := Lib.hid hw_9
                clear hb_8 hw_9
                (try simp only [Act.put, List.setIfInBounds_toArray, List.set_cons_zero, List.set_cons_succ])
                (with_reducible refine plan_end ?_)
                (try simp only [Act.put, List.setIfInBounds_toArray, List.set_cons_zero, List.set_cons_succ])
                refine tree_fork ?_ ?_
                · (simp only [withOps, List.getElem?_toArray, List.getElem?_cons_zero, List.getElem?_cons_succ])
                  (try simp only [Act.put, List.setIfInBounds_toArray, List.set_cons_zero, List.set_cons_succ])
                  (with_reducible refine plan_loud (fun K hK => ?_))
                  go_simp
                  refine (Back_any (HBq.out.below HB_11.out).own fm).mono ?_
                  rintro en_17 y_14 ⟨bm2, bb2, bo2, xm2, xk2, rfl, hw_16, hb_15⟩
                  refine hK _ _ (fun b hb => hb_15.block b (Nat.lt_of_lt_of_le hb HB_11.out.size)) ?_
                  clear hK K
                  have HB_18 := Lib.hid (bnext HB_11.out hb_15)
                  have HW_19 := Lib.hid (HW_12.out.below (fun _ _ _ _ => trivial) hb_15)
                  have HW_20 := Lib.hid (HW_13.out.below (SO.lasting (lasting_blk _ _ _) _ _ g xm1 xk1 fm) hb_15)
                  have HW_21 := Lib.hid hw_16
                  clear hb_15 hw_16
                  (try simp only [Act.put, List.setIfInBounds_toArray, List.set_cons_zero, List.set_cons_succ])
                  (with_reducible refine plan_end ?_)
                  (try simp only [Act.put, List.setIfInBounds_toArray, List.set_cons_zero, List.set_cons_succ])
                  ((with_reducible refine tree_seq ?_); simp only [withOps, List.getElem?_toArray, List.getElem?_cons_zero, List.getElem?_cons_succ])
                  (iterate 1 (refine keep_quiet (v := ?_) rfl ?_ ?_; rotate_left; (focus (intro w' hw'; go_simp; (try with_reducible rfl); done)); try simp only [Act.put, List.setIfInBounds_toArray, List.set_cons_zero, List.set_cons_succ]))
                  (with_reducible refine plan_loud (fun K hK => ?_))
                  go_simp
                  refine hK _ _ ?_ ?_
                  · have hz_ := HB_18.out.size
                    exact keep_below (by go_grown)
                  clear hK K
                  (try simp only [Act.put, List.setIfInBounds_toArray, List.set_cons_zero, List.set_cons_succ])
                  refine at_world (R := fun Z => Below y_14.heap.size y_14 Z ∧ Blk Z y_14.heap.size 40 #[.nilFunc, .nilFunc, .nilFunc]) ⟨by go_grown, heap_at rfl⟩ ?_
                  rintro y_22 ⟨hb_23, ha_24⟩
                  obtain ⟨bq25, hq_26⟩ : ∃ b, y_14.heap.size = b := ⟨_, rfl⟩
                  have HL_27 := Lib.hid (show wr.heap.size ≤ bq25 by rw [← hq_26]; exact HB_18.out.size)
                  have HB_28 := Lib.hid (bnext HB_18.out hb_23)
                  have HW_29 := Lib.hid (HW_19.out.below (fun _ _ _ _ => trivial) hb_23)
                  have HW_30 := Lib.hid (HW_20.out.below (SO.lasting (lasting_blk _ _ _) _ _ g xm1 xk1 fm) hb_23)
                  have HW_31 := Lib.hid (HW_21.out.below (SO.lasting (lasting_blk _ _ _) _ _ g xm2 xk2 fm) hb_23)
                  rw [hq_26] at ha_24
                  rw [hq_26]
                  have HA_32 := Lib.hid ha_24
                  clear hb_23 ha_24 hq_26
                  have f14 := Blk.free HA_32.out
                  have c14 := Blk.cell HA_32.out
                  have l14 := Blk.lt HA_32.out
                  (with_reducible refine plan_loud (fun K hK => ?_))
                  go_simp
                  refine hK _ _ ?_ ?_
                  · exact (((Keep.refl _ _).setCell (p := ⟨bq25, 0, none⟩) (show ¬ (bq25 < wr.heap.size) from Nat.not_lt.2 HL_27.out) _).setCell (p := ⟨bq25, 1, none⟩) (show ¬ (bq25 < wr.heap.size) from Nat.not_lt.2 HL_27.out) _).setCell (p := ⟨bq25, 2, none⟩) (show ¬ (bq25 < wr.heap.size) from Nat.not_lt.2 HL_27.out) _
                  clear hK K
                  (try simp only [Act.put, List.setIfInBounds_toArray, List.set_cons_zero, List.set_cons_succ])
                  ((with_reducible refine plan_end ?_); (with_reducible refine tree_fin ?_); simp only [List.drop_succ_cons, List.drop_zero]; (try simp only [Act.put, List.setIfInBounds_toArray, List.set_cons_zero, List.set_cons_succ]))
                  go_wp2_with fail
                  go_meet
                  case rel =>
                    have h3 := W3.set (W3.set (W3.set (show W3 wh fm q g bq25 ⟨bm0, bb0, bo0, bm1, bb1, bo1, xm1, xk1, bm2, bb2, bo2, xm2, xk2⟩ #[.nilFunc, .nilFunc, .nilFunc] y_22 from ⟨HA_32.out, HW_29.out, HW_30.out, HW_31.out⟩) 0 (wkV bm0 bb0 bo0)) 1 (wkV bm1 bb1 bo1)) 2 (wkV bm2 bb2 bo2)
                    exact ⟨bq25, _, rfl, ((HB_28.out.setCell (p := ⟨bq25, 0, none⟩) HL_27.out _).setCell (p := ⟨bq25, 1, none⟩) HL_27.out _).setCell (p := ⟨bq25, 2, none⟩) HL_27.out _, HL_27.out, h3⟩
                · (simp only [withOps, List.getElem?_toArray, List.getElem?_cons_zero, List.getElem?_cons_succ])
                  (try simp only [Act.put, List.setIfInBounds_toArray, List.set_cons_zero, List.set_cons_succ])
                  (with_reducible refine plan_loud (fun K hK => ?_))
                  go_simp
                  refine hK _ _ ?_ ?_
                  · have hz_ := HB_11.out.size
                    exact keep_below (by go_grown)
                  clear hK K
                  (try simp only [Act.put, List.setIfInBounds_toArray, List.set_cons_zero, List.set_cons_succ])
                  refine at_world (R := fun Z => Below y_7.heap.size y_7 Z ∧ Blk Z y_7.heap.size 40 #[.nilFunc, .nilFunc, .nilFunc]) ⟨by go_grown, heap_at rfl⟩ ?_
                  rintro y_33 ⟨hb_34, ha_35⟩
                  obtain ⟨bq36, hq_37⟩ : ∃ b, y_7.heap.size = b := ⟨_, rfl⟩
                  have HL_38 := Lib.hid (show wr.heap.size ≤ bq36 by rw [← hq_37]; exact HB_11.out.size)
                  have HB_39 := Lib.hid (bnext HB_11.out hb_34)
                  have HW_40 := Lib.hid (HW_12.out.below (fun _ _ _ _ => trivial) hb_34)
                  have HW_41 := Lib.hid (HW_13.out.below (SO.lasting (lasting_blk _ _ _) _ _ g xm1 xk1 fm) hb_34)
                  rw [hq_37] at ha_35
                  rw [hq_37]
                  have HA_42 := Lib.hid ha_35
                  clear hb_34 ha_35 hq_37
                  (with_reducible refine plan_end ?_)
                  (try simp only [Act.put, List.setIfInBounds_toArray, List.set_cons_zero, List.set_cons_succ])
                  ((with_reducible refine tree_seq ?_); simp only [withOps, List.getElem?_toArray, List.getElem?_cons_zero, List.getElem?_cons_succ])
                  (with_reducible refine plan_loud (fun K hK => ?_))
                  go_simp
                  refine (Back_any (HBq.out.below HB_39.out).own fm).mono ?_
                  rintro en_46 y_43 ⟨bm2, bb2, bo2, xm2, xk2, rfl, hw_45, hb_44⟩
                  refine hK _ _ (fun b hb => hb_44.block b (Nat.lt_of_lt_of_le hb HB_39.out.size)) ?_
                  clear hK K
                  have HB_47 := Lib.hid (bnext HB_39.out hb_44)
                  have HW_48 := Lib.hid (HW_40.out.below (fun _ _ _ _ => trivial) hb_44)
                  have HW_49 := Lib.hid (HW_41.out.below (SO.lasting (lasting_blk _ _ _) _ _ g xm1 xk1 fm) hb_44)
                  have HA_50 := Lib.hid (Blk.below HA_42.out hb_44)
                  have HW_51 := Lib.hid hw_45
                  clear hb_44 hw_45
                  (try simp only [Act.put, List.setIfInBounds_toArray, List.set_cons_zero, List.set_cons_succ])
                  (iterate 1 (refine keep_quiet (v := ?_) rfl ?_ ?_; rotate_left; (focus (intro w' hw'; go_simp; (try with_reducible rfl); done)); try simp only [Act.put, List.setIfInBounds_toArray, List.set_cons_zero, List.set_cons_succ]))
                  have f14 := Blk.free HA_50.out
                  have c14 := Blk.cell HA_50.out
                  have l14 := Blk.lt HA_50.out
                  (with_reducible refine plan_loud (fun K hK => ?_))
                  go_simp
                  refine hK _ _ ?_ ?_
                  · exact (((Keep.refl _ _).setCell (p := ⟨bq36, 0, none⟩) (show ¬ (bq36 < wr.heap.size) from Nat.not_lt.2 HL_38.out) _).setCell (p := ⟨bq36, 1, none⟩) (show ¬ (bq36 < wr.heap.size) from Nat.not_lt.2 HL_38.out) _).setCell (p := ⟨bq36, 2, none⟩) (show ¬ (bq36 < wr.heap.size) from Nat.not_lt.2 HL_38.out) _
                  clear hK K
                  (try simp only [Act.put, List.setIfInBounds_toArray, List.set_cons_zero, List.set_cons_succ])
                  ((with_reducible refine plan_end ?_); (with_reducible refine tree_fin ?_); simp only [List.drop_succ_cons, List.drop_zero]; (try simp only [Act.put, List.setIfInBounds_toArray, List.set_cons_zero, List.set_cons_succ]))
                  go_wp2_with fail
                  go_meet
                  case rel =>
                    have h3 := W3.set (W3.set (W3.set (show W3 wh fm q g bq36 ⟨bm0, bb0, bo0, bm1, bb1, bo1, xm1, xk1, bm2, bb2, bo2, xm2, xk2⟩ #[.nilFunc, .nilFunc, .nilFunc] y_43 from ⟨HA_50.out, HW_48.out, HW_49.out, HW_51.out⟩) 0 (wkV bm0 bb0 bo0)) 1 (wkV bm1 bb1 bo1)) 2 (wkV bm2 bb2 bo2)
                    exact ⟨bq36, _, rfl, ((HB_47.out.setCell (p := ⟨bq36, 0, none⟩) HL_38.out _).setCell (p := ⟨bq36, 1, none⟩) HL_38.out _).setCell (p := ⟨bq36, 2, none⟩) HL_38.out _, HL_38.out, h3⟩
              · (simp only [withOps, List.getElem?_toArray, List.getElem?_cons_zero, List.getElem?_cons_succ])
                (try simp only [Act.put, List.setIfInBounds_toArray, List.set_cons_zero, List.set_cons_succ])
                (with_reducible refine plan_loud (fun K hK => ?_))
                go_simp
                refine hK _ _ ?_ ?_
                · have hz_ := HB_5.out.size
                  exact keep_below (by go_grown)
                clear hK K
                (try simp only [Act.put, List.setIfInBounds_toArray, List.set_cons_zero, List.set_cons_succ])
                refine at_world (R := fun Z => Below y_1.heap.size y_1 Z ∧ Blk Z y_1.heap.size 40 #[.nilFunc, .nilFunc, .nilFunc]) ⟨by go_grown, heap_at rfl⟩ ?_
                rintro y_52 ⟨hb_53, ha_54⟩
                obtain ⟨bq55, hq_56⟩ : ∃ b, y_1.heap.size = b := ⟨_, rfl⟩
                have HL_57 := Lib.hid (show wr.heap.size ≤ bq55 by rw [← hq_56]; exact HB_5.out.size)
                have HB_58 := Lib.hid (bnext HB_5.out hb_53)
                have HW_59 := Lib.hid (HW_6.out.below (fun _ _ _ _ => trivial) hb_53)
                rw [hq_56] at ha_54
                rw [hq_56]
                have HA_60 := Lib.hid ha_54
                clear hb_53 ha_54 hq_56
                (with_reducible refine plan_end ?_)
                (try simp only [Act.put, List.setIfInBounds_toArray, List.set_cons_zero, List.set_cons_succ])
                ((with_reducible refine tree_seq ?_); simp only [withOps, List.getElem?_toArray, List.getElem?_cons_zero, List.getElem?_cons_succ])
                (with_reducible refine plan_loud (fun K hK => ?_))
                go_simp
                refine (From_any (HBq.out.below HB_58.out).own fm).mono ?_
                rintro en_64 y_61 ⟨bm1, bb1, bo1, xm1, xk1, rfl, hw_63, hb_62⟩
                refine hK _ _ (fun b hb => hb_62.block b (Nat.lt_of_lt_of_le hb HB_58.out.size)) ?_
                clear hK K
                have HB_65 := Lib.hid (bnext HB_58.out hb_62)
                have HW_66 := Lib.hid (HW_59.out.below (fun _ _ _ _ => trivial) hb_62)
                have HA_67 := Lib.hid (Blk.below HA_60.out hb_62)
                have HW_68 := Lib.hid hw_63
                clear hb_62 hw_63
                (try simp only [Act.put, List.setIfInBounds_toArray, List.set_cons_zero, List.set_cons_succ])
                (with_reducible refine plan_loud (fun K hK => ?_))
                go_simp
                refine (Back_any (HBq.out.below HB_65.out).own fm).mono ?_
                rintro en_72 y_69 ⟨bm2, bb2, bo2, xm2, xk2, rfl, hw_71, hb_70⟩
                refine hK _ _ (fun b hb => hb_70.block b (Nat.lt_of_lt_of_le hb HB_65.out.size)) ?_
                clear hK K
                have HB_73 := Lib.hid (bnext HB_65.out hb_70)
                have HW_74 := Lib.hid (HW_66.out.below (fun _ _ _ _ => trivial) hb_70)
                have HW_75 := Lib.hid (HW_68.out.below (SO.lasting (lasting_blk _ _ _) _ _ g xm1 xk1 fm) hb_70)
                have HA_76 := Lib.hid (Blk.below HA_67.out hb_70)
                have HW_77 := Lib.hid hw_71
                clear hb_70 hw_71
                (try simp only [Act.put, List.setIfInBounds_toArray, List.set_cons_zero, List.set_cons_succ])
                (iterate 1 (refine keep_quiet (v := ?_) rfl ?_ ?_; rotate_left; (focus (intro w' hw'; go_simp; (try with_reducible rfl); done)); try simp only [Act.put, List.setIfInBounds_toArray, List.set_cons_zero, List.set_cons_succ]))
                have f14 := Blk.free HA_76.out
                have c14 := Blk.cell HA_76.out
                have l14 := Blk.lt HA_76.out
                (with_reducible refine plan_loud (fun K hK => ?_))
                go_simp
                refine hK _ _ ?_ ?_
                · exact (((Keep.refl _ _).setCell (p := ⟨bq55, 0, none⟩) (show ¬ (bq55 < wr.heap.size) from Nat.not_lt.2 HL_57.out) _).setCell (p := ⟨bq55, 1, none⟩) (show ¬ (bq55 < wr.heap.size) from Nat.not_lt.2 HL_57.out) _).setCell (p := ⟨bq55, 2, none⟩) (show ¬ (bq55 < wr.heap.size) from Nat.not_lt.2 HL_57.out) _
                clear hK K
                (try simp only [Act.put, List.setIfInBounds_toArray, List.set_cons_zero, List.set_cons_succ])
                ((with_reducible refine plan_end ?_); (with_reducible refine tree_fin ?_); simp only [List.drop_succ_cons, List.drop_zero]; (try simp only [Act.put, List.setIfInBounds_toArray, List.set_cons_zero, List.set_cons_succ]))
                go_wp2_with fail
                go_meet
                case rel =>
                  have h3 := W3.set (W3.set (W3.set (show W3 wh fm q g bq55 ⟨bm0, bb0, bo0, bm1, bb1, bo1, xm1, xk1, bm2, bb2, bo2, xm2, xk2⟩ #[.nilFunc, .nilFunc, .nilFunc] y_69 from ⟨HA_76.out, HW_74.out, HW_75.out, HW_77.out⟩) 0 (wkV bm0 bb0 bo0)) 1 (wkV bm1 bb1 bo1)) 2 (wkV bm2 bb2 bo2)
                  exact ⟨bq55, _, rfl, ((HB_73.out.setCell (p := ⟨bq55, 0, none⟩) HL_57.out _).setCell (p := ⟨bq55, 1, none⟩) HL_57.out _).setCell (p := ⟨bq55, 2, none⟩) HL_57.out _, HL_57.out, h3⟩
            · (simp only [withOps, List.getElem?_toArray, List.getElem?_cons_zero, List.getElem?_cons_succ])
              (try simp only [Act.put, List.setIfInBounds_toArray, List.set_cons_zero, List.set_cons_succ])
              (with_reducible refine plan_loud (fun K hK => ?_))
              go_simp
              refine hK _ _ ?_ ?_
              · have hz_ := HBd0.out.size
                exact keep_below (by go_grown)
              clear hK K
              (try simp only [Act.put, List.setIfInBounds_toArray, List.set_cons_zero, List.set_cons_succ])
              refine at_world (R := fun Z => Below y_0.heap.size y_0 Z ∧ Blk Z y_0.heap.size 40 #[.nilFunc, .nilFunc, .nilFunc]) ⟨by go_grown, heap_at rfl⟩ ?_
              rintro y_78 ⟨hb_79, ha_80⟩
              obtain ⟨bq81, hq_82⟩ : ∃ b, y_0.heap.size = b := ⟨_, rfl⟩
              have HL_83 := Lib.hid (show wr.heap.size ≤ bq81 by rw [← hq_82]; exact HBd0.out.size)
              have HB_84 := Lib.hid (bnext HBd0.out hb_79)
              rw [hq_82] at ha_80
              rw [hq_82]
              have HA_85 := Lib.hid ha_80
              clear hb_79 ha_80 hq_82
              (with_reducible refine plan_end ?_)
              (try simp only [Act.put, List.setIfInBounds_toArray, List.set_cons_zero, List.set_cons_succ])
              ((with_reducible refine tree_seq ?_); simp only [withOps, List.getElem?_toArray, List.getElem?_cons_zero, List.getElem?_cons_succ])
              (with_reducible refine plan_loud (fun K hK => ?_))
              go_simp
              refine (All_any g _).mono ?_
              rintro en_89 y_86 ⟨bm0, bb0, bo0, rfl, hw_88, hb_87⟩
              refine hK _ _ (fun b hb => hb_87.block b (Nat.lt_of_lt_of_le hb HB_84.out.size)) ?_
              clear hK K
              have HB_90 := Lib.hid (bnext HB_84.out hb_87)
              have HA_91 := Lib.hid (Blk.below HA_85.out hb_87)
              have HW_92 := Lib.hid hw_88
              clear hb_87 hw_88
              (try simp only [Act.put, List.setIfInBounds_toArray, List.set_cons_zero, List.set_cons_succ])
              (with_reducible refine plan_loud (fun K hK => ?_))
              go_simp
              refine (From_any (HBq.out.below HB_90.out).own fm).mono ?_
              rintro en_96 y_93 ⟨bm1, bb1, bo1, xm1, xk1, rfl, hw_95, hb_94⟩
              refine hK _ _ (fun b hb => hb_94.block b (Nat.lt_of_lt_of_le hb HB_90.out.size)) ?_
              clear hK K
              have HB_97 := Lib.hid (bnext HB_90.out hb_94)
              have HW_98 := Lib.hid (HW_92.out.below (fun _ _ _ _ => trivial) hb_94)
              have HA_99 := Lib.hid (Blk.below HA_91.out hb_94)
              have HW_100 := Lib.hid hw_95
              clear hb_94 hw_95
              (try simp only [Act.put, List.setIfInBounds_toArray, List.set_cons_zero, List.set_cons_succ])
              (with_reducible refine plan_loud (fun K hK => ?_))
              go_simp
              refine (Back_any (HBq.out.below HB_97.out).own fm).mono ?_
              rintro en_104 y_101 ⟨bm2, bb2, bo2, xm2, xk2, rfl, hw_103, hb_102⟩
              refine hK _ _ (fun b hb => hb_102.block b (Nat.lt_of_lt_of_le hb HB_97.out.size)) ?_
              clear hK K
              have HB_105 := Lib.hid (bnext HB_97.out hb_102)
              have HW_106 := Lib.hid (HW_98.out.below (fun _ _ _ _ => trivial) hb_102)
              have HW_107 := Lib.hid (HW_100.out.below (SO.lasting (lasting_blk _ _ _) _ _ g xm1 xk1 fm) hb_102)
              have HA_108 := Lib.hid (Blk.below HA_99.out hb_102)
              have HW_109 := Lib.hid hw_103
              clear hb_102 hw_103
              (try simp only [Act.put, List.setIfInBounds_toArray, List.set_cons_zero, List.set_cons_succ])
              (iterate 1 (refine keep_quiet (v := ?_) rfl ?_ ?_; rotate_left; (focus (intro w' hw'; go_simp; (try with_reducible rfl); done)); try simp only [Act.put, List.setIfInBounds_toArray, List.set_cons_zero, List.set_cons_succ]))
              have f14 := Blk.free HA_108.out
              have c14 := Blk.cell HA_108.out
              have l14 := Blk.lt HA_108.out
              (with_reducible refine plan_loud (fun K hK => ?_))
              go_simp
              refine hK _ _ ?_ ?_
              · exact (((Keep.refl _ _).setCell (p := ⟨bq81, 0, none⟩) (show ¬ (bq81 < wr.heap.size) from Nat.not_lt.2 HL_83.out) _).setCell (p := ⟨bq81, 1, none⟩) (show ¬ (bq81 < wr.heap.size) from Nat.not_lt.2 HL_83.out) _).setCell (p := ⟨bq81, 2, none⟩) (show ¬ (bq81 < wr.heap.size) from Nat.not_lt.2 HL_83.out) _
              clear hK K
              (try simp only [Act.put, List.setIfInBounds_toArray, List.set_cons_zero, List.set_cons_succ])
              ((with_reducible refine plan_end ?_); (with_reducible refine tree_fin ?_); simp only [List.drop_succ_cons, List.drop_zero]; (try simp only [Act.put, List.setIfInBounds_toArray, List.set_cons_zero, List.set_cons_succ]))
              go_wp2_with fail
              go_meet
              case rel =>
                have h3 := W3.set (W3.set (W3.set (show W3 wh fm q g bq81 ⟨bm0, bb0, bo0, bm1, bb1, bo1, xm1, xk1, bm2, bb2, bo2, xm2, xk2⟩ #[.nilFunc, .nilFunc, .nilFunc] y_101 from ⟨HA_108.out, HW_106.out, HW_107.out, HW_109.out⟩) 0 (wkV bm0 bb0 bo0)) 1 (wkV bm1 bb1 bo1)) 2 (wkV bm2 bb2 bo2)
                exact ⟨bq81, _, rfl, ((HB_105.out.setCell (p := ⟨bq81, 0, none⟩) HL_83.out _).setCell (p := ⟨bq81, 1, none⟩) HL_83.out _).setCell (p := ⟨bq81, 2, none⟩) HL_83.out _, HL_83.out, h3⟩
          case rest =>
            obtain ⟨b11, y, rfl, hbc, hge, h3⟩ := hcut
            have HBC := Lib.hid hbc
            have H3 := Lib.hid h3
            have szc := hbc.size
            clear hbc hge h3 d7 l7
            go_upto_block 2 with (fail)
            (refine wp_at (fun w5 => Blk w5 wc.heap.size 3 #[.int .i64 0] ∧ Below wc.heap.size wc w5) ⟨by simp (disch := (first | omega | (simp only [World.size_alloc, World.size_setCell, World.size_drew] <;> omega) | fail)) only [Blk, heap_old, heap_at, heap_set_same, heap_set_ne, heap_drew', Option.map_some, putO_cells], by go_grown⟩ ?_)
            rintro w5 ⟨C12, hb5⟩
            obtain ⟨b12, h12⟩ : ∃ b12, wc.heap.size = b12 := ⟨_, rfl⟩
            rw [h12] at C12
            rw [h12]
            have HBM := Lib.hid (HBq.out.below HBC.out)
            have HBM1 := Lib.hid (HBM.out.below hb5)
            have HC1 := Lib.hid C12
            have HBW1 := Lib.hid (HBW4.out.trans ((HBC.out.mono HBW4.out.size).trans (hb5.mono (Nat.le_trans HBW4.out.size szc))))
            have HGE := Lib.hid (show w.heap.size ≤ g ∧ w.heap.size ≤ r ∧ w.heap.size ≤ b12 by have := HG.out; have := HNE.out; omega)
            have H5w := HF.out.block w.heap.size H5'.out.lt (b5_ne HBm.out H5'.out)
            have H6w := HF.out.block (w.heap.size + 1) H6'.out.lt (b6_ne2 HBm.out H6'.out)
            have HB61 := Lib.hid (show Blk w5 (w.heap.size + 1) 4 #[.bool false] from ((show Blk wr (w.heap.size + 1) 4 #[.bool false] from H6w.trans H6'.out).below HBC.out).below hb5)
            have HST1 := Lib.hid (show StS wh fm q g r w.heap.size b7 b8 b11 b12 y (.slice sa ns caps) w5 from
              (W3.start H3.out (((show Blk wr w.heap.size 23 #[.slice sa ns caps] from H5w.trans H5'.out)).below HBC.out) (HD7.out.below HBC.out) (HD8.out.below HBC.out) (Nat.le_of_eq h12) HBM.out hb5))
            have HMM1 := Lib.hid (show t.many ≤ k + min 0 ns by have := HMK.out; omega)
            have HLT1 := Lib.hid (show g < w5.heap.size ∧ r < w5.heap.size ∧ b12 < w5.heap.size ∧ w.heap.size + 1 < w5.heap.size from by
              obtain ⟨⟨_, hg⟩, ⟨_, hr⟩, _⟩ := Bm.gblk HBM1.out
              exact ⟨hg.lt, hr.lt, C12.lt, Blk.lt HB61.out⟩)
            clear C12 hb5 h12 H5w H6w
            go_wp2_with fail
            refine wp_loop_rounds 7 ?_
            rw [rounds_succ]
            go_upto_block 3 with (fail)
            (with_reducible refine wp_of_eq (c' := theBlock Try.f3 3) (by kernel_rfl) ?_)
            have hsz := HBW1.out.size
            have hlt := HLT1.out
            refine turn0_any _ (w := w5) (B := w.heap.size) (N0 := k) (at_ := 0) 0 (by decide) sa caps sc _ HBM1.out HMM1.out (by omega) (by omega) HST1.out HC1.out HSL.out (HSR.out.below HBW1.out) ⟨HGE.out.1, HGE.out.2.1, HGE.out.2.2, hsz⟩ ?_
            intro y1_0 y1_1 y1_2 y1_3 y1_4 y1_5 y1_6 y1_7 y1_8 y1_9 y1_10 y1_11 y1_12 y1_13 y1_14 y1_15 y1_16 y1_17 y1_18 y1_19 y1_20 y1_21 y1_22 y1_23 y1_24 y1_25 y1_26 y1_27 y1_28 y1_29 y1_30 y1_31 y1_32 y1_33 v1 D1 hT
            clear hsz hlt
            dsimp only
            obtain ⟨⟨t1, at1, hB, hm, hat1, hc⟩, hF, hD, hnew⟩ := hT
            have HBM2 := Lib.hid hB
            have HMM2 := Lib.hid hm
            have HC2 := Lib.hid hc
            have HST2 := Lib.hid (HST1.out.turned HBM1.out HC1.out hB hF)
            have HBW2 := Lib.hid (HBW1.out.trans (hF.below (fun b hh => by have := HGE.out; rcases hh with rfl | rfl | rfl <;> omega) HBW1.out.size))
            have HB62 := Lib.hid (show Blk v1 (w.heap.size + 1) 4 #[.bool false] from (hF.block _ (Blk.lt HB61.out) (b6_ne HBM1.out HC1.out HB61.out)).trans HB61.out)
            have HLT2 := Lib.hid (show g < v1.heap.size ∧ r < v1.heap.size ∧ b12 < v1.heap.size ∧ w.heap.size + 1 < v1.heap.size from by have h := HLT1.out; have h2 := hF.size; exact ⟨by omega, by omega, by omega, by omega⟩)
            have HD1 := Lib.hid (show DefW v1 g r b12 w.heap.size D1 from ⟨hD, by have := HLT1.out; omega, by have := HLT1.out; omega, by have := HLT1.out; omega, (Array.getElem?_eq_some_iff.1 hD).1, Nat.le_trans HBW1.out.size hnew⟩)
            have h61 : D1 ≠ w.heap.size + 1 := fun e => by have := HLT1.out.2.2.2; omega
            have HL1_1 := Lib.hid (show D1 < v1.heap.size from HD1.out.2.2.2.2.1)
            clear hB hm hc hF hD hnew
            go_wp2_with fail
            rw [rounds_succ]
            go_upto_block 3 with (fail)
            (with_reducible refine wp_of_eq (c' := theBlock Try.f3 3) (by kernel_rfl) ?_)
            have hsz := HBW2.out.size
            have hlt := HLT2.out
            refine turn1_any _ (w := v1) (B := w.heap.size) (N0 := k) (at_ := at1) 1 (by decide) sa caps sc _ HBM2.out HMM2.out (by omega) (by omega) HST2.out HC2.out HSL.out (HSR.out.below HBW2.out) ⟨HGE.out.1, HGE.out.2.1, HGE.out.2.2, hsz⟩ ?_
            intro y2_0 y2_1 y2_2 y2_3 y2_4 y2_5 y2_6 y2_7 y2_8 y2_9 y2_10 y2_11 y2_12 y2_13 y2_14 y2_15 y2_16 y2_17 y2_18 y2_19 y2_20 y2_21 y2_22 y2_23 y2_24 y2_25 y2_26 y2_27 y2_28 y2_29 y2_30 y2_31 y2_32 y2_33 v2 D2 hT
            clear hsz hlt
            dsimp only
            obtain ⟨⟨t2, at2, hB, hm, hat2, hc⟩, hF, hD, hnew⟩ := hT
            have HBM3 := Lib.hid hB
            have HMM3 := Lib.hid hm
            have HC3 := Lib.hid hc
            have HST3 := Lib.hid (HST2.out.turned HBM2.out HC2.out hB hF)
            have HBW3 := Lib.hid (HBW2.out.trans (hF.below (fun b hh => by have := HGE.out; rcases hh with rfl | rfl | rfl <;> omega) HBW2.out.size))
            have HB63 := Lib.hid (show Blk v2 (w.heap.size + 1) 4 #[.bool false] from (hF.block _ (Blk.lt HB62.out) (b6_ne HBM2.out HC2.out HB62.out)).trans HB62.out)
            have HLT3 := Lib.hid (show g < v2.heap.size ∧ r < v2.heap.size ∧ b12 < v2.heap.size ∧ w.heap.size + 1 < v2.heap.size from by have h := HLT2.out; have h2 := hF.size; exact ⟨by omega, by omega, by omega, by omega⟩)
            have HD1 := Lib.hid (HD1.out.next hF)
            have n1_2 : D1 ≠ D2 := fun e => by have := HL1_1.out; omega
            have HD2 := Lib.hid (show DefW v2 g r b12 w.heap.size D2 from ⟨hD, by have := HLT2.out; omega, by have := HLT2.out; omega, by have := HLT2.out; omega, (Array.getElem?_eq_some_iff.1 hD).1, Nat.le_trans HBW2.out.size hnew⟩)
            have h62 : D2 ≠ w.heap.size + 1 := fun e => by have := HLT2.out.2.2.2; omega
            have HL1_2 := Lib.hid (show D1 < v2.heap.size from HD1.out.2.2.2.2.1)
            have HL2_2 := Lib.hid (show D2 < v2.heap.size from HD2.out.2.2.2.2.1)
            clear hB hm hc hF hD hnew
            go_wp2_with fail
            rw [rounds_succ]
            go_upto_block 3 with (fail)
            (with_reducible refine wp_of_eq (c' := theBlock Try.f3 3) (by kernel_rfl) ?_)
            have hsz := HBW3.out.size
            have hlt := HLT3.out
            refine turn2_any _ (w := v2) (B := w.heap.size) (N0 := k) (at_ := at2) 2 (by decide) sa caps sc _ HBM3.out HMM3.out (by omega) (by omega) HST3.out HC3.out HSL.out (HSR.out.below HBW3.out) ⟨HGE.out.1, HGE.out.2.1, HGE.out.2.2, hsz⟩ ?_
            intro y3_0 y3_1 y3_2 y3_3 y3_4 y3_5 y3_6 y3_7 y3_8 y3_9 y3_10 y3_11 y3_12 y3_13 y3_14 y3_15 y3_16 y3_17 y3_18 y3_19 y3_20 y3_21 y3_22 y3_23 y3_24 y3_25 y3_26 y3_27 y3_28 y3_29 y3_30 y3_31 y3_32 y3_33 v3 D3 hT
            clear hsz hlt
            dsimp only
            obtain ⟨⟨t3, at3, hB, hm, hat3, hc⟩, hF, hD, hnew⟩ := hT
            have HBM4 := Lib.hid hB
            have HMM4 := Lib.hid hm
            have HC4 := Lib.hid hc
            have HST4 := Lib.hid (HST3.out.turned HBM3.out HC3.out hB hF)
            have HBW4 := Lib.hid (HBW3.out.trans (hF.below (fun b hh => by have := HGE.out; rcases hh with rfl | rfl | rfl <;> omega) HBW3.out.size))
            have HB64 := Lib.hid (show Blk v3 (w.heap.size + 1) 4 #[.bool false] from (hF.block _ (Blk.lt HB63.out) (b6_ne HBM3.out HC3.out HB63.out)).trans HB63.out)
            have HLT4 := Lib.hid (show g < v3.heap.size ∧ r < v3.heap.size ∧ b12 < v3.heap.size ∧ w.heap.size + 1 < v3.heap.size from by have h := HLT3.out; have h2 := hF.size; exact ⟨by omega, by omega, by omega, by omega⟩)
            have HD1 := Lib.hid (HD1.out.next hF)
            have n1_3 : D1 ≠ D3 := fun e => by have := HL1_2.out; omega
            have HD2 := Lib.hid (HD2.out.next hF)
            have n2_3 : D2 ≠ D3 := fun e => by have := HL2_2.out; omega
            have HD3 := Lib.hid (show DefW v3 g r b12 w.heap.size D3 from ⟨hD, by have := HLT3.out; omega, by have := HLT3.out; omega, by have := HLT3.out; omega, (Array.getElem?_eq_some_iff.1 hD).1, Nat.le_trans HBW3.out.size hnew⟩)
            have h63 : D3 ≠ w.heap.size + 1 := fun e => by have := HLT3.out.2.2.2; omega
            have HL1_3 := Lib.hid (show D1 < v3.heap.size from HD1.out.2.2.2.2.1)
            have HL2_3 := Lib.hid (show D2 < v3.heap.size from HD2.out.2.2.2.2.1)
            have HL3_3 := Lib.hid (show D3 < v3.heap.size from HD3.out.2.2.2.2.1)
            clear hB hm hc hF hD hnew
            go_wp2_with fail
            rw [rounds_succ]
            go_upto_block 3 with (fail)
            (with_reducible refine wp_of_eq (c' := theBlock Try.f3 3) (by kernel_rfl) ?_)
            have hsz := HBW4.out.size
            have hlt := HLT4.out
            refine turn0_any _ (w := v3) (B := w.heap.size) (N0 := k) (at_ := at3) 3 (by decide) sa caps sc _ HBM4.out HMM4.out (by omega) (by omega) HST4.out HC4.out HSL.out (HSR.out.below HBW4.out) ⟨HGE.out.1, HGE.out.2.1, HGE.out.2.2, hsz⟩ ?_
            intro y4_0 y4_1 y4_2 y4_3 y4_4 y4_5 y4_6 y4_7 y4_8 y4_9 y4_10 y4_11 y4_12 y4_13 y4_14 y4_15 y4_16 y4_17 y4_18 y4_19 y4_20 y4_21 y4_22 y4_23 y4_24 y4_25 y4_26 y4_27 y4_28 y4_29 y4_30 y4_31 y4_32 y4_33 v4 D4 hT
            clear hsz hlt
            dsimp only
            obtain ⟨⟨t4, at4, hB, hm, hat4, hc⟩, hF, hD, hnew⟩ := hT
            have HBM5 := Lib.hid hB
            have HMM5 := Lib.hid hm
            have HC5 := Lib.hid hc
            have HST5 := Lib.hid (HST4.out.turned HBM4.out HC4.out hB hF)
            have HBW5 := Lib.hid (HBW4.out.trans (hF.below (fun b hh => by have := HGE.out; rcases hh with rfl | rfl | rfl <;> omega) HBW4.out.size))
            have HB65 := Lib.hid (show Blk v4 (w.heap.size + 1) 4 #[.bool false] from (hF.block _ (Blk.lt HB64.out) (b6_ne HBM4.out HC4.out HB64.out)).trans HB64.out)
            have HLT5 := Lib.hid (show g < v4.heap.size ∧ r < v4.heap.size ∧ b12 < v4.heap.size ∧ w.heap.size + 1 < v4.heap.size from by have h := HLT4.out; have h2 := hF.size; exact ⟨by omega, by omega, by omega, by omega⟩)
            have HD1 := Lib.hid (HD1.out.next hF)
            have n1_4 : D1 ≠ D4 := fun e => by have := HL1_3.out; omega
            have HD2 := Lib.hid (HD2.out.next hF)
            have n2_4 : D2 ≠ D4 := fun e => by have := HL2_3.out; omega
            have HD3 := Lib.hid (HD3.out.next hF)
            have n3_4 : D3 ≠ D4 := fun e => by have := HL3_3.out; omega
            have HD4 := Lib.hid (show DefW v4 g r b12 w.heap.size D4 from ⟨hD, by have := HLT4.out; omega, by have := HLT4.out; omega, by have := HLT4.out; omega, (Array.getElem?_eq_some_iff.1 hD).1, Nat.le_trans HBW4.out.size hnew⟩)
            have h64 : D4 ≠ w.heap.size + 1 := fun e => by have := HLT4.out.2.2.2; omega
            have HL1_4 := Lib.hid (show D1 < v4.heap.size from HD1.out.2.2.2.2.1)
            have HL2_4 := Lib.hid (show D2 < v4.heap.size from HD2.out.2.2.2.2.1)
            have HL3_4 := Lib.hid (show D3 < v4.heap.size from HD3.out.2.2.2.2.1)
            have HL4_4 := Lib.hid (show D4 < v4.heap.size from HD4.out.2.2.2.2.1)
            clear hB hm hc hF hD hnew
            go_wp2_with fail
            rw [rounds_succ]
            go_upto_block 3 with (fail)
            (with_reducible refine wp_of_eq (c' := theBlock Try.f3 3) (by kernel_rfl) ?_)
            have hsz := HBW5.out.size
            have hlt := HLT5.out
            refine turn1_any _ (w := v4) (B := w.heap.size) (N0 := k) (at_ := at4) 4 (by decide) sa caps sc _ HBM5.out HMM5.out (by omega) (by omega) HST5.out HC5.out HSL.out (HSR.out.below HBW5.out) ⟨HGE.out.1, HGE.out.2.1, HGE.out.2.2, hsz⟩ ?_
            intro y5_0 y5_1 y5_2 y5_3 y5_4 y5_5 y5_6 y5_7 y5_8 y5_9 y5_10 y5_11 y5_12 y5_13 y5_14 y5_15 y5_16 y5_17 y5_18 y5_19 y5_20 y5_21 y5_22 y5_23 y5_24 y5_25 y5_26 y5_27 y5_28 y5_29 y5_30 y5_31 y5_32 y5_33 v5 D5 hT
            clear hsz hlt
            dsimp only
            obtain ⟨⟨t5, at5, hB, hm, hat5, hc⟩, hF, hD, hnew⟩ := hT
            have HBM6 := Lib.hid hB
            have HMM6 := Lib.hid hm
            have HC6 := Lib.hid hc
            have HST6 := Lib.hid (HST5.out.turned HBM5.out HC5.out hB hF)
            have HBW6 := Lib.hid (HBW5.out.trans (hF.below (fun b hh => by have := HGE.out; rcases hh with rfl | rfl | rfl <;> omega) HBW5.out.size))
            have HB66 := Lib.hid (show Blk v5 (w.heap.size + 1) 4 #[.bool false] from (hF.block _ (Blk.lt HB65.out) (b6_ne HBM5.out HC5.out HB65.out)).trans HB65.out)
            have HLT6 := Lib.hid (show g < v5.heap.size ∧ r < v5.heap.size ∧ b12 < v5.heap.size ∧ w.heap.size + 1 < v5.heap.size from by have h := HLT5.out; have h2 := hF.size; exact ⟨by omega, by omega, by omega, by omega⟩)
            have HD1 := Lib.hid (HD1.out.next hF)
            have n1_5 : D1 ≠ D5 := fun e => by have := HL1_4.out; omega
            have HD2 := Lib.hid (HD2.out.next hF)
            have n2_5 : D2 ≠ D5 := fun e => by have := HL2_4.out; omega
            have HD3 := Lib.hid (HD3.out.next hF)
            have n3_5 : D3 ≠ D5 := fun e => by have := HL3_4.out; omega
            have HD4 := Lib.hid (HD4.out.next hF)
            have n4_5 : D4 ≠ D5 := fun e => by have := HL4_4.out; omega
            have HD5 := Lib.hid (show DefW v5 g r b12 w.heap.size D5 from ⟨hD, by have := HLT5.out; omega, by have := HLT5.out; omega, by have := HLT5.out; omega, (Array.getElem?_eq_some_iff.1 hD).1, Nat.le_trans HBW5.out.size hnew⟩)
            have h65 : D5 ≠ w.heap.size + 1 := fun e => by have := HLT5.out.2.2.2; omega
            have HL1_5 := Lib.hid (show D1 < v5.heap.size from HD1.out.2.2.2.2.1)
            have HL2_5 := Lib.hid (show D2 < v5.heap.size from HD2.out.2.2.2.2.1)
            have HL3_5 := Lib.hid (show D3 < v5.heap.size from HD3.out.2.2.2.2.1)
            have HL4_5 := Lib.hid (show D4 < v5.heap.size from HD4.out.2.2.2.2.1)
            have HL5_5 := Lib.hid (show D5 < v5.heap.size from HD5.out.2.2.2.2.1)
            clear hB hm hc hF hD hnew
            go_wp2_with fail
            rw [rounds_succ]
            go_upto_block 3 with (fail)
            (with_reducible refine wp_of_eq (c' := theBlock Try.f3 3) (by kernel_rfl) ?_)
            have hsz := HBW6.out.size
            have hlt := HLT6.out
            refine turn2_any _ (w := v5) (B := w.heap.size) (N0 := k) (at_ := at5) 5 (by decide) sa caps sc _ HBM6.out HMM6.out (by omega) (by omega) HST6.out HC6.out HSL.out (HSR.out.below HBW6.out) ⟨HGE.out.1, HGE.out.2.1, HGE.out.2.2, hsz⟩ ?_
            intro y6_0 y6_1 y6_2 y6_3 y6_4 y6_5 y6_6 y6_7 y6_8 y6_9 y6_10 y6_11 y6_12 y6_13 y6_14 y6_15 y6_16 y6_17 y6_18 y6_19 y6_20 y6_21 y6_22 y6_23 y6_24 y6_25 y6_26 y6_27 y6_28 y6_29 y6_30 y6_31 y6_32 y6_33 v6 D6 hT
            clear hsz hlt
            dsimp only
            obtain ⟨⟨t6, at6, hB, hm, hat6, hc⟩, hF, hD, hnew⟩ := hT
            have HBM7 := Lib.hid hB
            have HMM7 := Lib.hid hm
            have HC7 := Lib.hid hc
            have HST7 := Lib.hid (HST6.out.turned HBM6.out HC6.out hB hF)
            have HBW7 := Lib.hid (HBW6.out.trans (hF.below (fun b hh => by have := HGE.out; rcases hh with rfl | rfl | rfl <;> omega) HBW6.out.size))
            have HB67 := Lib.hid (show Blk v6 (w.heap.size + 1) 4 #[.bool false] from (hF.block _ (Blk.lt HB66.out) (b6_ne HBM6.out HC6.out HB66.out)).trans HB66.out)
            have HLT7 := Lib.hid (show g < v6.heap.size ∧ r < v6.heap.size ∧ b12 < v6.heap.size ∧ w.heap.size + 1 < v6.heap.size from by have h := HLT6.out; have h2 := hF.size; exact ⟨by omega, by omega, by omega, by omega⟩)
            have HD1 := Lib.hid (HD1.out.next hF)
            have n1_6 : D1 ≠ D6 := fun e => by have := HL1_5.out; omega
            have HD2 := Lib.hid (HD2.out.next hF)
            have n2_6 : D2 ≠ D6 := fun e => by have := HL2_5.out; omega
            have HD3 := Lib.hid (HD3.out.next hF)
            have n3_6 : D3 ≠ D6 := fun e => by have := HL3_5.out; omega
            have HD4 := Lib.hid (HD4.out.next hF)
            have n4_6 : D4 ≠ D6 := fun e => by have := HL4_5.out; omega
            have HD5 := Lib.hid (HD5.out.next hF)
            have n5_6 : D5 ≠ D6 := fun e => by have := HL5_5.out; omega
            have HD6 := Lib.hid (show DefW v6 g r b12 w.heap.size D6 from ⟨hD, by have := HLT6.out; omega, by have := HLT6.out; omega, by have := HLT6.out; omega, (Array.getElem?_eq_some_iff.1 hD).1, Nat.le_trans HBW6.out.size hnew⟩)
            have h66 : D6 ≠ w.heap.size + 1 := fun e => by have := HLT6.out.2.2.2; omega
            have HL1_6 := Lib.hid (show D1 < v6.heap.size from HD1.out.2.2.2.2.1)
            have HL2_6 := Lib.hid (show D2 < v6.heap.size from HD2.out.2.2.2.2.1)
            have HL3_6 := Lib.hid (show D3 < v6.heap.size from HD3.out.2.2.2.2.1)
            have HL4_6 := Lib.hid (show D4 < v6.heap.size from HD4.out.2.2.2.2.1)
            have HL5_6 := Lib.hid (show D5 < v6.heap.size from HD5.out.2.2.2.2.1)
            have HL6_6 := Lib.hid (show D6 < v6.heap.size from HD6.out.2.2.2.2.1)
            clear hB hm hc hF hD hnew
            go_wp2_with fail
            rw [rounds_succ]
            have e7 := HST7.out.c7.cell 0
            have e8 := HST7.out.c8.cell 0
            have j7 := HST7.out.c7.lt
            have j8 := HST7.out.c8.lt
            simp only [List.getElem?_toArray, List.getElem?_cons_zero] at e7 e8
            go_wp2_with fail
            refine (whole_any HBM7.out.own HBM7.out.ref rfl (by have := HMM7.out; omega)).mono ?_
            rintro en w8 ⟨rfl, hb8⟩
            have HB8 := Lib.hid hb8
            clear hb8 e7 e8 j7 j8
            go_wp2_with fail
            refine (works_any w8).mono ?_
            rintro en w9 ⟨rfl, hb9⟩
            have HB9' := Lib.hid (HB8.out.trans (hb9.mono HB8.out.size))
            have HB9 := Lib.hid (HBW7.out.trans (HB9'.out.mono HBW7.out.size))
            have B9 := Blk.below HB67.out HB9'.out
            have l9 := B9.lt
            have q9 := B9.cell 0
            have f9 := B9.free 0
            clear hb9
            go_wp2_with fail
            have k6 : (w9.setCell ⟨w.heap.size + 1, 0, none⟩ (.bool true)).heap[D6]? = some (.deferred (some [])) := (heap_set_ne _ _ _ _ _ h66).trans ((HB9'.out.block _ HD6.out.2.2.2.2.1).trans HD6.out.1)
            have k5 : ((w9.setCell ⟨w.heap.size + 1, 0, none⟩ (.bool true)).putObj D6 (.deferred none)).heap[D5]? = some (.deferred (some [])) := (World.putObj_heap_other n5_6).trans ((heap_set_ne _ _ _ _ _ h65).trans ((HB9'.out.block _ HD5.out.2.2.2.2.1).trans HD5.out.1))
            have k4 : (((w9.setCell ⟨w.heap.size + 1, 0, none⟩ (.bool true)).putObj D6 (.deferred none)).putObj D5 (.deferred none)).heap[D4]? = some (.deferred (some [])) := (World.putObj_heap_other n4_5).trans ((World.putObj_heap_other n4_6).trans ((heap_set_ne _ _ _ _ _ h64).trans ((HB9'.out.block _ HD4.out.2.2.2.2.1).trans HD4.out.1)))
            have k3 : ((((w9.setCell ⟨w.heap.size + 1, 0, none⟩ (.bool true)).putObj D6 (.deferred none)).putObj D5 (.deferred none)).putObj D4 (.deferred none)).heap[D3]? = some (.deferred (some [])) := (World.putObj_heap_other n3_4).trans ((World.putObj_heap_other n3_5).trans ((World.putObj_heap_other n3_6).trans ((heap_set_ne _ _ _ _ _ h63).trans ((HB9'.out.block _ HD3.out.2.2.2.2.1).trans HD3.out.1))))
            have k2 : (((((w9.setCell ⟨w.heap.size + 1, 0, none⟩ (.bool true)).putObj D6 (.deferred none)).putObj D5 (.deferred none)).putObj D4 (.deferred none)).putObj D3 (.deferred none)).heap[D2]? = some (.deferred (some [])) := (World.putObj_heap_other n2_3).trans ((World.putObj_heap_other n2_4).trans ((World.putObj_heap_other n2_5).trans ((World.putObj_heap_other n2_6).trans ((heap_set_ne _ _ _ _ _ h62).trans ((HB9'.out.block _ HD2.out.2.2.2.2.1).trans HD2.out.1)))))
            have k1 : ((((((w9.setCell ⟨w.heap.size + 1, 0, none⟩ (.bool true)).putObj D6 (.deferred none)).putObj D5 (.deferred none)).putObj D4 (.deferred none)).putObj D3 (.deferred none)).putObj D2 (.deferred none)).heap[D1]? = some (.deferred (some [])) := (World.putObj_heap_other n1_2).trans ((World.putObj_heap_other n1_3).trans ((World.putObj_heap_other n1_4).trans ((World.putObj_heap_other n1_5).trans ((World.putObj_heap_other n1_6).trans ((heap_set_ne _ _ _ _ _ h61).trans ((HB9'.out.block _ HD1.out.2.2.2.2.1).trans HD1.out.1))))))
            refine ⟨by simp, .inl ⟨_, _, rfl, run_takeDeferred k6, ?_⟩⟩
            refine ⟨by simp, .inl ⟨_, _, rfl, run_takeDeferred k5, ?_⟩⟩
            refine ⟨by simp, .inl ⟨_, _, rfl, run_takeDeferred k4, ?_⟩⟩
            refine ⟨by simp, .inl ⟨_, _, rfl, run_takeDeferred k3, ?_⟩⟩
            refine ⟨by simp, .inl ⟨_, _, rfl, run_takeDeferred k2, ?_⟩⟩
            refine ⟨by simp, .inl ⟨_, _, rfl, run_takeDeferred k1, ?_⟩⟩
            have D8 : Blk (((((((w9.setCell ⟨w.heap.size + 1, 0, none⟩ (.bool true)).putObj D6 (.deferred none)).putObj D5 (.deferred none)).putObj D4 (.deferred none)).putObj D3 (.deferred none)).putObj D2 (.deferred none)).putObj D1 (.deferred none)) (w.heap.size + 1) 4 #[.bool true] := (World.putObj_heap_other (fun e => h61 e.symm)).trans ((World.putObj_heap_other (fun e => h62 e.symm)).trans ((World.putObj_heap_other (fun e => h63 e.symm)).trans ((World.putObj_heap_other (fun e => h64 e.symm)).trans ((World.putObj_heap_other (fun e => h65 e.symm)).trans ((World.putObj_heap_other (fun e => h66 e.symm)).trans (blk_set (n := 0) (v := .bool true) B9))))))
            have hc8 := D8.cell 0
            have hfin : Fr (fun k => w.heap.size ≤ k) w9 (((((((w9.setCell ⟨w.heap.size + 1, 0, none⟩ (.bool true)).putObj D6 (.deferred none)).putObj D5 (.deferred none)).putObj D4 (.deferred none)).putObj D3 (.deferred none)).putObj D2 (.deferred none)).putObj D1 (.deferred none)) := ((((((((Fr.refl _ _).set _ (Nat.le_succ _)).trans ((OnlyB.put _ D6 _).1.mono fun q _ h => by have := HD6.out.2.2.2.2.2; omega)).trans ((OnlyB.put _ D5 _).1.mono fun q _ h => by have := HD5.out.2.2.2.2.2; omega)).trans ((OnlyB.put _ D4 _).1.mono fun q _ h => by have := HD4.out.2.2.2.2.2; omega)).trans ((OnlyB.put _ D3 _).1.mono fun q _ h => by have := HD3.out.2.2.2.2.2; omega)).trans ((OnlyB.put _ D2 _).1.mono fun q _ h => by have := HD2.out.2.2.2.2.2; omega)).trans ((OnlyB.put _ D1 _).1.mono fun q _ h => by have := HD1.out.2.2.2.2.2; omega))
            refine ⟨.bool true, ?_, rfl, HB9.out.trans (hfin.below (fun _ h => h) HB9.out.size)⟩
            simp [results, Try.f3, go_sem, hc8]
end Go.Proofs.Ytchmlephgkimcaa
