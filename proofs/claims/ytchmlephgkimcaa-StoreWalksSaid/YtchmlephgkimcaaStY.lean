/- Store: one step of the law's script: Take, Get, Place. -/
import Derived.Test.YtchmlephgkimcaaStX
set_option linter.unusedSimpArgs false
set_option linter.unusedVariables false
namespace Go.Proofs.Ytchmlephgkimcaa
open Go.RowKit Go.Kp Go.St
section
variable {S : World → Prop} {id : Nat} {caps : Array Value} {wh : Int} {w w' : World} {g r : Nat} {t : Tr} {L : List (Int × Int)}
theorem takeT_many {c : Int → Int → Int} (ho : Ord c) (hs : Sorted c t.toL) (key : Int) : (takeT c key t).many ≤ t.many + 1 := by
  rw [T.many_len, T.many_len, toL_takeT ho key hs]
  have := (takeL_sub (c := c) (key := key) (l := t.toL)).length_le
  omega

set_option maxRecDepth 100000 in
set_option maxHeartbeats 8000000 in
theorem step_take (h : Both S id caps wh w g r t) (on to key val n : Int) (hmany : t.many + 1 ≤ 8796093022208) :
    Calls Try.prog 15 #[.pointer (some ⟨g, 0, none⟩), .pointer (some ⟨r, 0, none⟩), opV 3 on to key val n] w (StepR S id caps wh w g r t) := by
  have H := Lib.hid h
  have HMY := Lib.hid hmany
  obtain ⟨v, hv⟩ : ∃ v, (getL (cw wh) key t.toL).getD 0 = v := ⟨_, rfl⟩
  obtain ⟨b, hb⟩ : ∃ b, (getL (cw wh) key t.toL).isSome = b := ⟨_, rfl⟩
  have HV := Lib.hid hv
  have HBo := Lib.hid hb
  clear h hmany hv hb
  unfold opV
  go_enter Try.func15, Try.ntmps15
  go_wp2_with fail
  have hb0 : Below w.heap.size w (w.alloc (.cells #[.int .i64 3, .int .i64 on, .int .i64 to, .int .i64 key, .int .i64 val, .int .i64 n] 45)) := by go_grown
  have HB0 := Lib.hid hb0
  have H0 := Lib.hid (H.out.below hb0)
  have hC : Blk (w.alloc (.cells #[.int .i64 3, .int .i64 on, .int .i64 to, .int .i64 key, .int .i64 val, .int .i64 n] 45)) w.heap.size 45 #[.int .i64 3, .int .i64 on, .int .i64 to, .int .i64 key, .int .i64 val, .int .i64 n] := heap_at rfl
  have HC := Lib.hid hC
  clear hb0 hC
  generalize w.alloc (.cells #[.int .i64 3, .int .i64 on, .int .i64 to, .int .i64 key, .int .i64 val, .int .i64 n] 45) = W0 at *
  refine (Take_any H0.out.own key).mono ?_
  rintro en w1 ⟨rfl, hM1, hg1⟩
  obtain ⟨ca, hcg, _⟩ := H0.out.own.cells
  have hC1 := HC.out.grown hg1 (fun e => blk_types HC.out hcg (by decide) (by injection e))
  have c1 := hC1.cell
  have q1 := hC1.lt
  have HC1 := Lib.hid hC1
  have HM1 := Lib.hid hM1
  have HR1 := Lib.hid (H0.out.ref.grown hcg hg1)
  have HG1 := Lib.hid hg1
  rw [HV.out, HBo.out]
  clear hM1 hg1 hcg hC1
  go_wp2_with fail
  refine (rTake_any HR1.out key (by have := HMY.out; rw [← T.many_len]; omega)).mono ?_
  rintro en w2 ⟨rfl, hR2, hg2⟩
  obtain ⟨cr, hcr⟩ := HR1.out.blk
  have HM2 := Lib.hid (HM1.out.grownR H.out.lastR hcr hg2)
  have HR2 := Lib.hid hR2
  have HG2 := Lib.hid hg2
  rw [HV.out, HBo.out]
  clear hR2 hg2 hcr c1 q1
  have hbb : (b == b) = true := by simp
  have hvv : (v == v) = true := by simp
  go_wp2_with fail
  refine bodyPost_ret (v := .bool true) (by simp [results, Try.results15, go_sem]; done) rfl ⟨rfl, takeT (cw wh) key t, ⟨HM2.out, ?_, H.out.lastR⟩, takeT_many H.out.own.ord H.out.own.srt key, (Fr.next HB0.out).trans ((Two.of_grown HG1.out (.inl rfl)).trans (Two.of_grown HG2.out (.inr rfl)))⟩
  rw [toL_takeT H.out.own.ord key H.out.own.srt]
  exact HR2.out

set_option maxRecDepth 100000 in
set_option maxHeartbeats 8000000 in
theorem step_get (h : Both S id caps wh w g r t) (on to key val n : Int) (hmany : t.many + 1 ≤ 8796093022208) :
    Calls Try.prog 15 #[.pointer (some ⟨g, 0, none⟩), .pointer (some ⟨r, 0, none⟩), opV 4 on to key val n] w (StepR S id caps wh w g r t) := by
  have H := Lib.hid h
  have HMY := Lib.hid hmany
  obtain ⟨v, hv⟩ : ∃ v : Int, (getL (cw wh) key t.toL).getD 0 = v := ⟨_, rfl⟩
  obtain ⟨b, hb⟩ : ∃ b, (getL (cw wh) key t.toL).isSome = b := ⟨_, rfl⟩
  have HV := Lib.hid hv
  have HBo := Lib.hid hb
  clear h hmany hv hb
  unfold opV
  go_enter Try.func15, Try.ntmps15
  go_wp2_with fail
  have hb0 : Below w.heap.size w (w.alloc (.cells #[.int .i64 4, .int .i64 on, .int .i64 to, .int .i64 key, .int .i64 val, .int .i64 n] 45)) := by go_grown
  have HB0 := Lib.hid hb0
  have H0 := Lib.hid (H.out.below hb0)
  have HC := Lib.hid (show Blk (w.alloc (.cells #[.int .i64 4, .int .i64 on, .int .i64 to, .int .i64 key, .int .i64 val, .int .i64 n] 45)) w.heap.size 45 #[.int .i64 4, .int .i64 on, .int .i64 to, .int .i64 key, .int .i64 val, .int .i64 n] from heap_at rfl)
  clear hb0
  generalize w.alloc (.cells #[.int .i64 4, .int .i64 on, .int .i64 to, .int .i64 key, .int .i64 val, .int .i64 n] 45) = W0 at *
  refine (Get_any H0.out.own key).mono ?_
  rintro en w1 ⟨rfl, hb1⟩
  have hC1 := HC.out.below hb1
  have c1 := hC1.cell
  have q1 := hC1.lt
  have H1 := Lib.hid (H0.out.below hb1)
  have HB1 := Lib.hid (HB0.out.trans (hb1.mono HB0.out.size))
  rw [HV.out, HBo.out]
  clear hb1 hC1
  go_wp2_with fail
  refine (rGet_any H1.out.ref key (by have := HMY.out; rw [← T.many_len]; omega)).mono ?_
  rintro en w2 ⟨rfl, hb2⟩
  have HB2 := Lib.hid (HB1.out.trans (hb2.mono HB1.out.size))
  rw [HV.out, HBo.out]
  clear hb2 c1 q1
  have hbb : (b == b) = true := by simp
  have hvv : (v == v) = true := by simp
  go_wp2_with fail
  refine bodyPost_ret (v := .bool true) (by simp [results, Try.results15, go_sem]; done) rfl (StepR.same H.out rfl HB2.out)

set_option maxRecDepth 100000 in
set_option maxHeartbeats 8000000 in
theorem step_place (h : Both S id caps wh w g r t) (on to key val n : Int) (hmany : t.many + 1 ≤ 8796093022208) :
    Calls Try.prog 15 #[.pointer (some ⟨g, 0, none⟩), .pointer (some ⟨r, 0, none⟩), opV 5 on to key val n] w (StepR S id caps wh w g r t) := by
  have H := Lib.hid h
  have HMY := Lib.hid hmany
  obtain ⟨v, hv⟩ : ∃ v : Int, ((placeL (cw wh) key t.toL : Nat) : Int) = v := ⟨_, rfl⟩
  obtain ⟨b, hb⟩ : ∃ b, (getL (cw wh) key t.toL).isSome = b := ⟨_, rfl⟩
  have HV := Lib.hid hv
  have HBo := Lib.hid hb
  clear h hmany hv hb
  unfold opV
  go_enter Try.func15, Try.ntmps15
  go_wp2_with fail
  have hb0 : Below w.heap.size w (w.alloc (.cells #[.int .i64 5, .int .i64 on, .int .i64 to, .int .i64 key, .int .i64 val, .int .i64 n] 45)) := by go_grown
  have HB0 := Lib.hid hb0
  have H0 := Lib.hid (H.out.below hb0)
  have HC := Lib.hid (show Blk (w.alloc (.cells #[.int .i64 5, .int .i64 on, .int .i64 to, .int .i64 key, .int .i64 val, .int .i64 n] 45)) w.heap.size 45 #[.int .i64 5, .int .i64 on, .int .i64 to, .int .i64 key, .int .i64 val, .int .i64 n] from heap_at rfl)
  clear hb0
  generalize w.alloc (.cells #[.int .i64 5, .int .i64 on, .int .i64 to, .int .i64 key, .int .i64 val, .int .i64 n] 45) = W0 at *
  refine (Place_any H0.out.own key).mono ?_
  rintro en w1 ⟨rfl, hb1⟩
  have hC1 := HC.out.below hb1
  have c1 := hC1.cell
  have q1 := hC1.lt
  have H1 := Lib.hid (H0.out.below hb1)
  have HB1 := Lib.hid (HB0.out.trans (hb1.mono HB0.out.size))
  rw [HV.out, HBo.out]
  clear hb1 hC1
  go_wp2_with fail
  refine (rPlace_any H1.out.ref key (by have := HMY.out; rw [← T.many_len]; omega)).mono ?_
  rintro en w2 ⟨rfl, hb2⟩
  have HB2 := Lib.hid (HB1.out.trans (hb2.mono HB1.out.size))
  rw [HV.out, HBo.out]
  clear hb2 c1 q1
  have hbb : (b == b) = true := by simp
  have hvv : (v == v) = true := by simp
  go_wp2_with fail
  refine bodyPost_ret (v := .bool true) (by simp [results, Try.results15, go_sem]; done) rfl (StepR.same H.out rfl HB2.out)
end
end Go.Proofs.Ytchmlephgkimcaa
