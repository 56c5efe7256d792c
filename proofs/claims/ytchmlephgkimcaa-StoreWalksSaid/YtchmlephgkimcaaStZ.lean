/- Store: one step of the law's script: From, Back, All. -/
import Derived.Test.YtchmlephgkimcaaStY
set_option linter.unusedSimpArgs false
set_option linter.unusedVariables false
namespace Go.Proofs.Ytchmlephgkimcaa
open Go.RowKit Go.Kp Go.St
section
variable {S : World → Prop} {id : Nat} {caps : Array Value} {wh : Int} {w w' : World} {g r : Nat} {t : Tr} {L : List (Int × Int)}
theorem told_len (p : Int → Bool) (back : Bool) (t : Tr) : (told p back t).length ≤ t.many := by
  unfold told
  have h1 := List.length_filter_le (fun q : Int × Int => !p q.1) (ord back t)
  have h2 : (ord back t).length = t.many := by rw [T.many_len]; unfold ord; split <;> simp
  omega
theorem walk_of {S' : World → Prop} {id' : Nat} {caps' : Array Value} {p : Int → Bool} {back : Bool} {bm bb bo : Nat} (h : Both S id caps wh w g r t) (hmany : t.many + 1 ≤ 8796093022208) (hW : Wk S' id' caps' p back g bm bb bo w) (hS : Lasting S') (hm : Mono p back t) {LF : List (Int × Int)} (hL : LF = told p back t)
    {av : Option Addr} (cv : Nat) (hrow : RowAt w av LF) (lv : Int) : Calls Try.prog 49 #[wkV bm bb bo, .slice av LF.length cv, .int .i64 lv] w (Ret (.bool true) w) := by
  obtain ⟨ra, hg, ht⟩ := h.own.cells
  have := told_len p back t
  exact lwalk_any hW hS _ ⟨_, _, rfl⟩ t ra hg ht hm (by omega) av cv lv LF hL hrow.rd (by rw [hL]; omega)

set_option maxRecDepth 100000 in
set_option maxHeartbeats 8000000 in
theorem step_from (h : Both S id caps wh w g r t) (on to key val n : Int) (hmany : t.many + 1 ≤ 8796093022208) :
    Calls Try.prog 15 #[.pointer (some ⟨g, 0, none⟩), .pointer (some ⟨r, 0, none⟩), opV 7 on to key val n] w (StepR S id caps wh w g r t) := by
  have H := Lib.hid h
  have HMY := Lib.hid hmany
  obtain ⟨LF, hLF⟩ : ∃ LF, t.toL.drop (placeL (cw wh) key t.toL) = LF := ⟨_, rfl⟩
  have HLF := Lib.hid hLF
  have HTO := Lib.hid (show LF = told (fun k => decide (cw wh k key < 0)) false t by rw [told_from h.own.ord h.own.srt]; exact hLF.symm)
  clear h hmany hLF
  unfold opV
  go_enter Try.func15, Try.ntmps15
  go_wp2_with fail
  have hb0 : Below w.heap.size w (w.alloc (.cells #[.int .i64 7, .int .i64 on, .int .i64 to, .int .i64 key, .int .i64 val, .int .i64 n] 45)) := by go_grown
  have HB0 := Lib.hid hb0
  have H0 := Lib.hid (H.out.below hb0)
  have HC := Lib.hid (show Blk (w.alloc (.cells #[.int .i64 7, .int .i64 on, .int .i64 to, .int .i64 key, .int .i64 val, .int .i64 n] 45)) w.heap.size 45 #[.int .i64 7, .int .i64 on, .int .i64 to, .int .i64 key, .int .i64 val, .int .i64 n] from heap_at rfl)
  clear hb0
  generalize w.alloc (.cells #[.int .i64 7, .int .i64 on, .int .i64 to, .int .i64 key, .int .i64 val, .int .i64 n] 45) = W0 at *
  refine (From_any H0.out.own key).mono ?_
  rintro en w1 ⟨bm, bb, bo, xm, xk, rfl, hW, hb1⟩
  have hC1 := HC.out.below hb1
  have c1 := hC1.cell
  have q1 := hC1.lt
  have HC1 := Lib.hid hC1
  have H1 := Lib.hid (H0.out.below hb1)
  have HW1 := Lib.hid hW
  have HB1 := Lib.hid (HB0.out.trans (hb1.mono HB0.out.size))
  have HLa := Lib.hid (SO.lasting H.out.own.last id caps g xm xk key)
  have HMo := Lib.hid (mono_from H.out.own.ord (key := key) H.out.own.srt)
  clear hb1 hC1 hW
  go_wp2_with fail
  (refine region_keep (fun b => b < w1.heap.size) 14 [(0, true), (1, true), (2, true), (3, true), (5, true), (6, true), (4, false), (7, false), (8, true), (9, true), (10, true), (11, true), (12, true), (13, false)] (by kernel_rfl) (fun _ _ d _ _ h => by cases d <;> exact h) (by kernel_rfl) ?_; simp only [withOps, List.getElem?_toArray, List.getElem?_cons_zero, List.getElem?_cons_succ, List.drop_succ_cons, List.drop_zero])
  (iterate 6 (refine keep_quiet (v := ?_) rfl ?_ ?_; rotate_left; (focus (intro w' hw'; go_simp; (try with_reducible rfl); done)); try simp only [Act.put, List.setIfInBounds_toArray, List.set_cons_zero, List.set_cons_succ]))
  (with_reducible refine plan_loud (fun K hK => ?_))
  go_simp
  have hd : Below w1.heap.size w1 w1.drew := (Below.refl _ _).drew
  refine (rFrom_any (H1.out.below hd).ref key (by have := HMY.out; rw [← T.many_len]; omega)).mono ?_
  rintro en w2 ⟨a2, e2, rfl, hrow2, _, _, _, hb2⟩
  rw [HLF.out] at hrow2 ⊢
  have hB2 : Below w1.heap.size w1 w2 := bnext hd hb2
  refine hK _ _ (fun x hx => hb2.block x hx) ?_
  clear hK K
  have HR2 := Lib.hid hrow2
  have HB2 := Lib.hid hB2
  clear hrow2 hb2 hB2
  (try simp only [Act.put, List.setIfInBounds_toArray, List.set_cons_zero, List.set_cons_succ])
  (with_reducible refine plan_loud (fun K hK => ?_))
  go_simp
  refine (walk_of (H1.out.below HB2.out) HMY.out (HW1.out.below HLa.out HB2.out) HLa.out HMo.out HTO.out e2 HR2.out n).mono ?_
  rintro en w3 ⟨rfl, hb3⟩
  have hB3 : Below w1.heap.size w1 w3 := bnext HB2.out hb3
  refine hK _ _ (fun x hx => hb3.block x (Nat.lt_of_lt_of_le hx HB2.out.size)) ?_
  clear hK K
  have HB3 := Lib.hid hB3
  clear hb3 hB3
  (try simp only [Act.put, List.setIfInBounds_toArray, List.set_cons_zero, List.set_cons_succ])
  have c3 := (HC1.out.below HB3.out).cell
  (iterate 5 (refine keep_quiet (v := ?_) rfl ?_ ?_; rotate_left; (focus (intro w' hw'; go_simp; (try with_reducible rfl); done)); try simp only [Act.put, List.setIfInBounds_toArray, List.set_cons_zero, List.set_cons_succ]))
  (with_reducible refine plan_loud (fun K hK => ?_))
  go_simp
  refine (rFrom_any (H1.out.below HB3.out).ref key (by have := HMY.out; rw [← T.many_len]; omega)).mono ?_
  rintro en w4 ⟨a4, e4, rfl, hrow4, _, _, _, hb4⟩
  rw [HLF.out] at hrow4 ⊢
  have hB4 : Below w1.heap.size w1 w4 := bnext HB3.out hb4
  refine hK _ _ (fun x hx => hb4.block x (Nat.lt_of_lt_of_le hx HB3.out.size)) ?_
  clear hK K
  have HR4 := Lib.hid hrow4
  have HB4 := Lib.hid hB4
  clear hrow4 hb4 hB4 c3 c1 q1 hd
  (try simp only [Act.put, List.setIfInBounds_toArray, List.set_cons_zero, List.set_cons_succ])
  (with_reducible refine plan_end ?_)
  (try simp only [Act.put, List.setIfInBounds_toArray, List.set_cons_zero, List.set_cons_succ])
  go_wp2_with fail
  refine (walk_of (H1.out.below HB4.out) HMY.out (HW1.out.below HLa.out HB4.out) HLa.out HMo.out HTO.out e4 HR4.out 0).mono ?_
  rintro en w5 ⟨rfl, hb5⟩
  have HB5 := Lib.hid (HB1.out.trans ((bnext HB4.out hb5).mono HB1.out.size))
  clear hb5
  go_wp2_with fail
  refine bodyPost_ret (v := .bool true) (by simp [results, Try.results15, go_sem]; done) rfl (StepR.same H.out rfl HB5.out)

set_option maxRecDepth 100000 in
set_option maxHeartbeats 8000000 in
theorem step_back (h : Both S id caps wh w g r t) (on to key val n : Int) (hmany : t.many + 1 ≤ 8796093022208) :
    Calls Try.prog 15 #[.pointer (some ⟨g, 0, none⟩), .pointer (some ⟨r, 0, none⟩), opV 8 on to key val n] w (StepR S id caps wh w g r t) := by
  have H := Lib.hid h
  have HMY := Lib.hid hmany
  obtain ⟨LF, hLF⟩ : ∃ LF, (t.toL.take (placeL (cw wh) key t.toL + if (getL (cw wh) key t.toL).isSome then 1 else 0)).reverse = LF := ⟨_, rfl⟩
  have HLF := Lib.hid hLF
  have HTO := Lib.hid (show LF = told (fun k => decide (0 < cw wh k key)) true t by rw [told_back h.own.ord h.own.srt]; exact hLF.symm)
  clear h hmany hLF
  unfold opV
  go_enter Try.func15, Try.ntmps15
  go_wp2_with fail
  have hb0 : Below w.heap.size w (w.alloc (.cells #[.int .i64 8, .int .i64 on, .int .i64 to, .int .i64 key, .int .i64 val, .int .i64 n] 45)) := by go_grown
  have HB0 := Lib.hid hb0
  have H0 := Lib.hid (H.out.below hb0)
  have HC := Lib.hid (show Blk (w.alloc (.cells #[.int .i64 8, .int .i64 on, .int .i64 to, .int .i64 key, .int .i64 val, .int .i64 n] 45)) w.heap.size 45 #[.int .i64 8, .int .i64 on, .int .i64 to, .int .i64 key, .int .i64 val, .int .i64 n] from heap_at rfl)
  clear hb0
  generalize w.alloc (.cells #[.int .i64 8, .int .i64 on, .int .i64 to, .int .i64 key, .int .i64 val, .int .i64 n] 45) = W0 at *
  refine (Back_any H0.out.own key).mono ?_
  rintro en w1 ⟨bm, bb, bo, xm, xk, rfl, hW, hb1⟩
  have hC1 := HC.out.below hb1
  have c1 := hC1.cell
  have q1 := hC1.lt
  have HC1 := Lib.hid hC1
  have H1 := Lib.hid (H0.out.below hb1)
  have HW1 := Lib.hid hW
  have HB1 := Lib.hid (HB0.out.trans (hb1.mono HB0.out.size))
  have HLa := Lib.hid (SO.lasting H.out.own.last id caps g xm xk key)
  have HMo := Lib.hid (mono_back H.out.own.ord (key := key) H.out.own.srt)
  clear hb1 hC1 hW
  go_wp2_with fail
  (refine region_keep (fun b => b < w1.heap.size) 14 [(0, true), (1, true), (2, true), (3, true), (5, true), (6, true), (4, false), (7, false), (8, true), (9, true), (10, true), (11, true), (12, true), (13, false)] (by kernel_rfl) (fun _ _ d _ _ h => by cases d <;> exact h) (by kernel_rfl) ?_; simp only [withOps, List.getElem?_toArray, List.getElem?_cons_zero, List.getElem?_cons_succ, List.drop_succ_cons, List.drop_zero])
  (iterate 6 (refine keep_quiet (v := ?_) rfl ?_ ?_; rotate_left; (focus (intro w' hw'; go_simp; (try with_reducible rfl); done)); try simp only [Act.put, List.setIfInBounds_toArray, List.set_cons_zero, List.set_cons_succ]))
  (with_reducible refine plan_loud (fun K hK => ?_))
  go_simp
  have hd : Below w1.heap.size w1 w1.drew := (Below.refl _ _).drew
  refine (rBack_any (H1.out.below hd).ref key (by have := HMY.out; rw [← T.many_len]; omega)).mono ?_
  rintro en w2 ⟨a2, e2, rfl, hrow2, _, _, _, hb2⟩
  rw [HLF.out] at hrow2 ⊢
  have hB2 : Below w1.heap.size w1 w2 := bnext hd hb2
  refine hK _ _ (fun x hx => hb2.block x hx) ?_
  clear hK K
  have HR2 := Lib.hid hrow2
  have HB2 := Lib.hid hB2
  clear hrow2 hb2 hB2
  (try simp only [Act.put, List.setIfInBounds_toArray, List.set_cons_zero, List.set_cons_succ])
  (with_reducible refine plan_loud (fun K hK => ?_))
  go_simp
  refine (walk_of (H1.out.below HB2.out) HMY.out (HW1.out.below HLa.out HB2.out) HLa.out HMo.out HTO.out e2 HR2.out n).mono ?_
  rintro en w3 ⟨rfl, hb3⟩
  have hB3 : Below w1.heap.size w1 w3 := bnext HB2.out hb3
  refine hK _ _ (fun x hx => hb3.block x (Nat.lt_of_lt_of_le hx HB2.out.size)) ?_
  clear hK K
  have HB3 := Lib.hid hB3
  clear hb3 hB3
  (try simp only [Act.put, List.setIfInBounds_toArray, List.set_cons_zero, List.set_cons_succ])
  have c3 := (HC1.out.below HB3.out).cell
  (iterate 5 (refine keep_quiet (v := ?_) rfl ?_ ?_; rotate_left; (focus (intro w' hw'; go_simp; (try with_reducible rfl); done)); try simp only [Act.put, List.setIfInBounds_toArray, List.set_cons_zero, List.set_cons_succ]))
  (with_reducible refine plan_loud (fun K hK => ?_))
  go_simp
  refine (rBack_any (H1.out.below HB3.out).ref key (by have := HMY.out; rw [← T.many_len]; omega)).mono ?_
  rintro en w4 ⟨a4, e4, rfl, hrow4, _, _, _, hb4⟩
  rw [HLF.out] at hrow4 ⊢
  have hB4 : Below w1.heap.size w1 w4 := bnext HB3.out hb4
  refine hK _ _ (fun x hx => hb4.block x (Nat.lt_of_lt_of_le hx HB3.out.size)) ?_
  clear hK K
  have HR4 := Lib.hid hrow4
  have HB4 := Lib.hid hB4
  clear hrow4 hb4 hB4 c3 c1 q1 hd
  (try simp only [Act.put, List.setIfInBounds_toArray, List.set_cons_zero, List.set_cons_succ])
  (with_reducible refine plan_end ?_)
  (try simp only [Act.put, List.setIfInBounds_toArray, List.set_cons_zero, List.set_cons_succ])
  go_wp2_with fail
  refine (walk_of (H1.out.below HB4.out) HMY.out (HW1.out.below HLa.out HB4.out) HLa.out HMo.out HTO.out e4 HR4.out 0).mono ?_
  rintro en w5 ⟨rfl, hb5⟩
  have HB5 := Lib.hid (HB1.out.trans ((bnext HB4.out hb5).mono HB1.out.size))
  clear hb5
  go_wp2_with fail
  refine bodyPost_ret (v := .bool true) (by simp [results, Try.results15, go_sem]; done) rfl (StepR.same H.out rfl HB5.out)
end
end Go.Proofs.Ytchmlephgkimcaa
