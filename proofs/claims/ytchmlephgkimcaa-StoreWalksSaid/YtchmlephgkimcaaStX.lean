/- Store: one step of the law's script: Put, Take, Get, Place. -/
import Derived.Test.YtchmlephgkimcaaStW
set_option linter.unusedSimpArgs false
set_option linter.unusedVariables false
namespace Go.Proofs.Ytchmlephgkimcaa
open Go.RowKit Go.Kp Go.St

/-- Both maps, side by side. -/
structure Both (S : World → Prop) (id : Nat) (caps : Array Value) (wh : Int) (w : World) (g r : Nat) (t : Tr) : Prop where
  own : MapAt S id caps (cw wh) w g t
  ref : RefAt w wh r t.toL
  lastR : ∀ w w' r cs, S w → Blk w r 29 cs → w.grownBy w' (some r) → S w'
theorem blk_type {w : World} {b g : Nat} {ty ty' : TypeId} {cs cs' : Array Value} (h : Blk w b ty cs) (h' : Blk w g ty' cs') (hn : ty ≠ ty') : b ≠ g := blk_types h h' hn
section
variable {S : World → Prop} {id : Nat} {caps : Array Value} {wh : Int} {w w' : World} {g r : Nat} {t : Tr} {L : List (Int × Int)}
theorem RefAt.grown (h : RefAt w wh r L) {cs : Array Value} (hg : Blk w g 75 cs) (hb : w.grownBy w' (some g)) : RefAt w' wh r L := by
  obtain ⟨a, cap, h1, h2, h3⟩ := h
  exact ⟨a, cap, h1.grown hb (fun e => blk_types h1 hg (by decide) (by injection e)), h2.same fun b cs' hB => hb.block b hB.lt fun e => blk_types hB hg (by decide) (by injection e), h3⟩
theorem MapAt.grownR {c : Int → Int → Int} (h : MapAt S id caps c w g t) (hl : ∀ w w' r cs, S w → Blk w r 29 cs → w.grownBy w' (some r) → S w') {cs : Array Value} (hr : Blk w r 29 cs) (hb : w.grownBy w' (some r)) : MapAt S id caps c w' g t := by
  obtain ⟨a, h1, h2⟩ := h.cells
  exact ⟨h.last, h.lastM, h.cmp, h.ord, hl _ _ _ _ h.holds hr hb, h.srt, h.few, a, h1.grown hb (fun e => blk_types h1 hr (by decide) (by injection e)), h2.same fun b cs' hB => hb.block b hB.lt fun e => blk_types hB hr (by decide) (by injection e)⟩
theorem RefAt.blk (h : RefAt w wh r L) : ∃ cs, Blk w r 29 cs := by obtain ⟨a, cap, h1, _⟩ := h; exact ⟨_, h1⟩
theorem Both.below (h : Both S id caps wh w g r t) (hb : Below w.heap.size w w') : Both S id caps wh w' g r t := ⟨h.own.below hb, h.ref.below hb, h.lastR⟩
/-- The two maps' own blocks alone have turned. -/
def Two (g r : Nat) (w w' : World) : Prop := Fr (fun k => k = g ∨ k = r) w w'
theorem Two.of_grown {a : Nat} (h : w.grownBy w' (some a)) (ha : a = g ∨ a = r) : Two g r w w' := ⟨h.os, h.tape, h.output, h.size, fun k hk hn => h.block k hk fun e => hn ((show k = a from by injection e) ▸ ha)⟩
/-- What a step leaves. -/
def StepR (S : World → Prop) (id : Nat) (caps : Array Value) (wh : Int) (w : World) (g r : Nat) (t : Tr) (e : Ending) (w' : World) : Prop := e = .returned (.bool true) ∧ ∃ t', Both S id caps wh w' g r t' ∧ t'.many ≤ t.many + 1 ∧ Two g r w w'
theorem StepR.same {e : Ending} (h : Both S id caps wh w g r t) (he : e = .returned (.bool true)) (hb : Below w.heap.size w w') : StepR S id caps wh w g r t e w' := ⟨he, t, h.below hb, by omega, Fr.next hb⟩

/-- An Op as a value. -/
def opV (k on to key val n : Int) : Value := .agg #[.int .i64 k, .int .i64 on, .int .i64 to, .int .i64 key, .int .i64 val, .int .i64 n]

theorem num_any (n : Int) (w : World) : Calls Try.prog 37 #[.int .i64 n] w fun e w' => e = .returned (.int .i64 n) ∧ w' = w := by
  go_enter Try.func37, Try.ntmps37
  go_wp2
  go_returns
  exact ⟨rfl, rfl⟩

set_option maxRecDepth 100000 in
set_option maxHeartbeats 8000000 in
theorem step_put (h : Both S id caps wh w g r t) (k on to key val n : Int) (h0 : 0 ≤ k) (h2 : k ≤ 2) (hmany : t.many + 1 ≤ 8796093022208) :
    Calls Try.prog 15 #[.pointer (some ⟨g, 0, none⟩), .pointer (some ⟨r, 0, none⟩), opV k on to key val n] w (StepR S id caps wh w g r t) := by
  have H := Lib.hid h
  have HMY := Lib.hid hmany
  obtain ⟨v, hv⟩ : ∃ v, (getL (cw wh) key t.toL).getD 0 = v := ⟨_, rfl⟩
  obtain ⟨b, hb⟩ : ∃ b, (getL (cw wh) key t.toL).isSome = b := ⟨_, rfl⟩
  have HV := Lib.hid hv
  have HBo := Lib.hid hb
  clear h hmany hv hb
  unfold opV
  go_enter Try.func15, Try.ntmps15
  go_wp2_with fail
  have hb0 : Below w.heap.size w (w.alloc (.cells #[.int .i64 k, .int .i64 on, .int .i64 to, .int .i64 key, .int .i64 val, .int .i64 n] 45)) := by go_grown
  have HB0 := Lib.hid hb0
  have H0 := Lib.hid (H.out.below hb0)
  have hC : Blk (w.alloc (.cells #[.int .i64 k, .int .i64 on, .int .i64 to, .int .i64 key, .int .i64 val, .int .i64 n] 45)) w.heap.size 45 #[.int .i64 k, .int .i64 on, .int .i64 to, .int .i64 key, .int .i64 val, .int .i64 n] := heap_at rfl
  have HC := Lib.hid hC
  clear hb0 hC
  generalize w.alloc (.cells #[.int .i64 k, .int .i64 on, .int .i64 to, .int .i64 key, .int .i64 val, .int .i64 n] 45) = W0 at *
  refine (Put_any H0.out.own key val (by have := HMY.out; omega)).mono ?_
  rintro en w1 ⟨rfl, hM1, hg1⟩
  obtain ⟨ca, hcg, _⟩ := H0.out.own.cells
  have hC1 := HC.out.grown hg1 (fun e => blk_types HC.out hcg (by decide) (by injection e))
  have c1 := hC1.cell
  have q1 := hC1.lt
  have HC1 := Lib.hid hC1
  have HM1 := Lib.hid hM1
  have HR1 := Lib.hid (H0.out.ref.grown hcg hg1)
  have HG1 := Lib.hid hg1
  rw [HV.out, HBo.out]
  clear hM1 hg1 hcg hC1
  go_wp2_with fail
  refine (rPut_any HR1.out key val (by have := HMY.out; rw [← T.many_len]; omega)).mono ?_
  rintro en w2 ⟨rfl, hR2, hg2⟩
  obtain ⟨cr, hcr⟩ := HR1.out.blk
  have HM2 := Lib.hid (HM1.out.grownR H.out.lastR hcr hg2)
  have HR2 := Lib.hid hR2
  have HG2 := Lib.hid hg2
  rw [HV.out, HBo.out]
  clear hR2 hg2 hcr c1 q1
  have hbb : (b == b) = true := by simp
  have hvv : (v == v) = true := by simp
  go_wp2_with fail
  refine (num_any 0 w2).mono ?_
  rintro en w_ ⟨rfl, hw_⟩
  obtain rfl : w2 = w_ := hw_.symm
  go_wp2_with fail
  refine bodyPost_ret (v := .bool true) (by simp [results, Try.results15, go_sem]; done) rfl ⟨rfl, put (cw wh) key val t, ⟨HM2.out, ?_, H.out.lastR⟩, many_put _ _ _ _, (Fr.next HB0.out).trans ((Two.of_grown HG1.out (.inl rfl)).trans (Two.of_grown HG2.out (.inr rfl)))⟩
  rw [toL_put H.out.own.ord t H.out.own.srt]
  exact HR2.out
end
end Go.Proofs.Ytchmlephgkimcaa
