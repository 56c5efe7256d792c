/- Panes by windows: Put; a new map. -/
import Derived.Test.YtbkofiflfcfjfaaSqD
set_option linter.unusedSimpArgs false
set_option linter.unusedVariables false
namespace Go.Proofs.Ytbkofiflfcfjfaa.Px
open Go.RowKit Go.Kp Go.St

theorem blk_types {w : World} {b g : Nat} {ty ty' : TypeId} {cs cs' : Array Value} (h : Blk w b ty cs) (h' : Blk w g ty' cs') (hn : ty ≠ ty') : b ≠ g := by
  intro e
  subst e
  have := h.symm.trans h'
  injection this with this
  injection this with _ h2
  exact hn h2
/-- What a tree is, it stays, whatever a map's block turns into. -/
theorem TreeAt.grown {w w' : World} {t : Tr} {g : Nat} {a : Option Addr} {cs : Array Value} (h : TreeAt w t a) (hg : Blk w g 126 cs) (hb : w.grownBy w' (some g)) : TreeAt w' t a :=
  h.same fun b cs' hB => hb.block b hB.lt fun e => blk_types hB hg (by decide) (by injection e)
/-- Of what is read off the result's block. -/
theorem body_at3 {P : Program} {f : Func} {Q : Ending → World → Prop} {e : Exit} {a : Act} {w : World} (S : World → Prop) (hS : S w) (h : ∀ Z, S Z → bodyPost P f Q e a Z) : bodyPost P f Q e a w := h w hS

set_option maxRecDepth 100000 in
set_option maxHeartbeats 8000000 in
theorem Put_any {g : Nat} {t : Tr} {wA : World} (hM : MapAt wA g t) (key : Kx) (val : Vx) (hN : t.many + 1 ≤ 4611686018427386000) : Calls Try.prog 55 #[.pointer (some ⟨g, 0, none⟩), .agg #[.string key.k, .int .i64 key.s, .int .i64 key.e], .agg #[.string val.key, .int .i64 val.s, .int .i64 val.e, .int .i64 val.kind, .int .i64 val.nth, .int .i64 val.count, .int .i64 val.sum, .int .i64 val.min, .int .i64 val.max]] wA fun e w' =>
    (∃ (v : Vx) (b : Bool), e = .returned (.tuple #[.agg (valC v), .bool b, .int .i64 0])) ∧ MapAt w' g (put cA key val t) ∧ wA.grownBy w' (some g) := by
  have HMA := Lib.hid hM
  clear hM
  go_enter Try.func55, Try.ntmps55
  go_upto_region 1 with (fail)
  refine wp_at (fun Z => Blk Z wA.heap.size 112 (keyC key) ∧ Blk Z (wA.heap.size + 1) 92 (valC val) ∧ Blk Z (wA.heap.size + 1 + 1) 92 (valC Pn.zero) ∧ Below wA.heap.size wA Z) ⟨by simp (disch := (first | omega | (simp only [World.size_alloc, World.size_setCell, World.size_drew] <;> omega) | fail)) only [Blk, heap_old, heap_at, heap_set_same, heap_set_ne, heap_drew', Option.map_some, putO_cells], by simp (disch := (first | omega | (simp only [World.size_alloc, World.size_setCell, World.size_drew] <;> omega) | fail)) only [Blk, heap_old, heap_at, heap_set_same, heap_set_ne, heap_drew', Option.map_some, putO_cells], by simp (disch := (first | omega | (simp only [World.size_alloc, World.size_setCell, World.size_drew] <;> omega) | fail)) only [Blk, heap_old, heap_at, heap_set_same, heap_set_ne, heap_drew', Option.map_some, putO_cells], by go_grown⟩ ?_
  rintro w ⟨hKb, hVb, hNb, hBA⟩
  have HKb := Lib.hid hKb
  have HVb := Lib.hid hVb
  have HNb := Lib.hid hNb
  have HBA := Lib.hid hBA
  have HM := Lib.hid (HMA.out.below hBA)
  have kc := hKb.cell
  have kl := hKb.lt
  clear hKb hVb hNb hBA HMA
  go_wp2_with fail
  refine (Get_any HM.out key).mono ?_
  rintro en w1 ⟨v1, b1, rfl, hb1⟩
  have HM1 := Lib.hid (HM.out.below hb1)
  have HK1 := Lib.hid (HKb.out.below hb1)
  have HV1 := Lib.hid (HVb.out.below hb1)
  have HN1 := Lib.hid (HNb.out.below hb1)
  have HB1 := Lib.hid (HBA.out.trans (hb1.mono HBA.out.size))
  have s1 := hb1.size
  have lN1 := HN1.out.lt
  have sA := HBA.out.size
  clear hb1 kc kl HKb HVb HNb HM HBA
  go_upto_region 2 with (fail)
  refine wp_at (fun Z => Blk Z w1.heap.size 92 (valC v1) ∧ Below w1.heap.size w1 Z) ⟨by simp (disch := (first | omega | (simp only [World.size_alloc, World.size_setCell, World.size_drew] <;> omega) | fail)) only [Blk, heap_old, heap_at, heap_set_same, heap_set_ne, heap_drew', Option.map_some, putO_cells], by go_grown⟩ ?_
  rintro w2 ⟨hW2, hb2⟩
  have HW2 := Lib.hid hW2
  have HM2 := Lib.hid (HM1.out.below hb2)
  have HK2 := Lib.hid (HK1.out.below hb2)
  have HV2 := Lib.hid (HV1.out.below hb2)
  have HN2 := Lib.hid (HN1.out.below hb2)
  have HB2 := Lib.hid (HB1.out.trans (hb2.mono HB1.out.size))
  clear hb2 hW2 HM1 HK1 HV1 HN1 HB1
  obtain ⟨a, hg, ht⟩ := HM2.out.cells
  have HG := Lib.hid hg
  have HT := Lib.hid ht
  have cG := hg.cell
  have qG := hg.lt
  have kc := HK2.out.cell
  have kl := HK2.out.lt
  have vc := HV2.out.cell
  have vl := HV2.out.lt
  have s2 := HB2.out.size
  clear hg ht
  go_wp2_with fail
  refine (none_any a _ HG.out).mono ?_
  rintro en w_ ⟨rfl, hw_⟩
  obtain rfl : w2 = w_ := hw_.symm
  go_wp2_with fail
  (refine region_keep (fun x => x < w2.heap.size) 9 [(0, true), (1, true), (2, true), (3, true), (4, true), (5, true), (6, true), (7, true), (8, false)] (by kernel_rfl) (fun _ _ d _ _ h => by cases d <;> exact h) (by kernel_rfl) ?_; simp only [withOps, List.getElem?_toArray, List.getElem?_cons_zero, List.getElem?_cons_succ, List.drop_succ_cons, List.drop_zero])
  (iterate 8 (refine keep_quiet (v := ?_) rfl ?_ ?_; rotate_left; (focus (intro w' hw'; go_simp; (try with_reducible rfl); done)); try simp only [Act.put, List.setIfInBounds_toArray, List.set_cons_zero, List.set_cons_succ]))
  (with_reducible refine plan_loud (fun K hK => ?_))
  go_simp
  refine (put_any g a key val t a w2.drew HG.out HT.out.drew (by omega)).mono ?_
  rintro en w3 ⟨p3, rfl, hT3, hb3⟩
  refine hK _ _ ((Keep.refl _ _).below hb3 (by intro x h; simpa using h)) ?_
  clear hK K
  have hb3' : Below w2.heap.size w2 w3 := bnext (by go_grown) hb3
  have HT3 := Lib.hid hT3
  have HG3 := Lib.hid (HG.out.below hb3')
  have HW3 := Lib.hid (HW2.out.below hb3')
  have HN3 := Lib.hid (HN2.out.below hb3')
  have HB3 := Lib.hid (HB2.out.trans (hb3'.mono s2))
  have s3 := hb3'.size
  clear hT3 hb3 hb3' cG qG kc kl vc vl HG HT HK2 HV2
  have c3 := HG3.out.cell
  have f3 := HG3.out.free
  have q3 := HG3.out.lt
  (with_reducible refine plan_end ?_)
  (try simp only [Act.put, List.setIfInBounds_toArray, List.set_cons_zero, List.set_cons_succ])
  go_upto_region 5 with (fail)
  have gw : g ≠ w1.heap.size := blk_types HG3.out HW3.out (by decide)
  have gn : g ≠ wA.heap.size + 1 + 1 := blk_types HG3.out HN3.out (by decide)
  refine wp_at (fun Z => Z = w3.setCell ⟨g, 1, none⟩ (.pointer p3)) rfl ?_
  rintro w4 hw4
  have hgr : w3.grownBy w4 (some g) := by subst hw4; exact grown_set (World.grownBy.refl _ _)
  have HW4 := Lib.hid (show Blk w4 w1.heap.size 92 (valC v1) from HW3.out.grown hgr (fun e => gw (by injection e with e; exact e.symm)))
  have HN4 := Lib.hid (show Blk w4 (wA.heap.size + 1 + 1) 92 (valC Pn.zero) from HN3.out.grown hgr (fun e => gn (by injection e with e; exact e.symm)))
  have HM4 := Lib.hid (show MapAt w4 g (put cA key val t) from by
    refine ⟨?_, ?_, p3, ?_, HT3.out.grown HG3.out hgr⟩
    · rw [toL_put cA_ord t HM2.out.srt]; exact sorted_putL cA_ord HM2.out.srt
    · have := many_put cA key val t; omega
    · have hB := HG3.out
      subst hw4
      unfold Blk at hB ⊢
      simp (disch := (first | omega | (simp only [World.size_alloc, World.size_setCell, World.size_drew] <;> omega) | fail)) only [Blk, heap_old, heap_at, heap_set_same, heap_set_ne, heap_drew', Option.map_some, putO_cells, hB]
      simp)
  have HG4 := Lib.hid (show wA.grownBy w4 (some g) from grown_trans (grown_of_below HB3.out (some g)) hgr (fun k hk _ => hk))
  clear hw4 hgr c3 f3 q3 HG3 HW3 HN3 HB3 HT3
  have c4 := HW4.out.cell
  have q4 := HW4.out.lt
  have n4 := HN4.out.cell
  have l4 := HN4.out.lt
  have e4 := HN4.out.free
  have ne4 : w1.heap.size ≠ wA.heap.size + 1 + 1 := by omega
  go_wp2_with fail
  refine body_at3 (fun Z => Blk Z (wA.heap.size + 1 + 1) 92 (valC v1) ∧ w4.grownBy Z (some (wA.heap.size + 1 + 1))) ?_ ?_
  · have hT := set_val v1 HN4.out rfl
    refine ⟨hT, ?_⟩
    exact (grown_set (grown_set (grown_set (grown_set (grown_set (grown_set (grown_set (grown_set (grown_set (World.grownBy.refl _ _))))))))))
  rintro Z ⟨hZ, hgZ⟩
  have cZ := hZ.cell
  have HM5 : MapAt Z g (put cA key val t) := by
    obtain ⟨a5, h1, h2⟩ := HM4.out.cells
    exact ⟨HM4.out.srt, HM4.out.few, a5, h1.grown hgZ (fun e => gn (by injection e)), h2.same fun b cs' hB => hgZ.block b hB.lt fun e => blk_types hB HN4.out (by decide) (by injection e)⟩
  have HG5 : wA.grownBy Z (some g) := grown_trans HG4.out hgZ (fun k hk h => by injection hk with hk; omega)
  clear hZ hgZ
  refine bodyPost_ret (v := .tuple #[.agg (valC v1), .bool b1, .int .i64 0]) (by simp [results, Try.results55, go_sem, cZ]; done) rfl ⟨⟨v1, b1, rfl⟩, HM5, HG5⟩

set_option maxHeartbeats 1000000 in
theorem New_any (w : World) : Calls Try.prog 50 #[cmpV] w fun e w' => ∃ g, e = .returned (.tuple #[.pointer (some ⟨g, 0, none⟩), .int .i64 0]) ∧ w.heap.size ≤ g ∧ MapAt w' g .nil ∧ Below w.heap.size w w' := by
  have hf := func_nil
  go_enter Try.func50, Try.ntmps50
  go_wp2
  go_returns
  exact ⟨w.heap.size, rfl, Nat.le_refl _, ⟨List.Pairwise.nil, Nat.zero_le _, none, heap_at rfl, rfl⟩, by go_grown⟩
end Go.Proofs.Ytbkofiflfcfjfaa.Px
