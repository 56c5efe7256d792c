/- SeriesRows: the walk. -/
import Derived.Test.YtbkofiflfcfjfaaSeQ
set_option linter.unusedSimpArgs false
set_option linter.unusedVariables false
namespace Go.Proofs.Ytbkofiflfcfjfaa
open Go.RowKit Go.Kp Go.Ser
attribute [local go_sem] store_float

def movN (n : Nat) (W : Int) : Nat := if W < 1 then 0 else n + 1 - W.toNat
def movK (W : Int) : Int := if W < 1 then 2 else 0
theorem movN_le (n : Nat) (W : Int) : movN n W ≤ n := by unfold movN; split <;> omega
theorem moving_any (a : Option Addr) (n cap : Nat) (W : Int) (l : List Nat) (w : World) (hl : l.length = n) (hn : n ≤ 1048576) (hcap : n ≤ cap) (hW2 : W ≤ 9223372036854775807) (hr : Rd w w.heap.size a (fl l)) :
    Calls Try.prog 30 #[.slice a n cap, .int .i64 W] w (RowE (MovR l W.toNat) (movN n W) (movK W) w) := by
  unfold movN movK
  split
  · rename_i h; exact moving_bad a n cap W l w h
  · have := moving_ok a n cap W.toNat l w hl hn hcap (by omega) (by omega) hr
    rwa [Int.toNat_of_nonneg (by omega)] at this
theorem refMoving_any (a : Option Addr) (n cap : Nat) (W : Int) (l : List Nat) (w : World) (hl : l.length = n) (hn : n ≤ 1048576) (hcap : n ≤ cap) (hW2 : W ≤ 9223372036854775807) (hr : Rd w w.heap.size a (fl l)) :
    Calls Try.prog 31 #[.slice a n cap, .int .i64 W] w (RowE (MovR l W.toNat) (movN n W) (movK W) w) := by
  unfold movN movK
  split
  · rename_i h; exact refMoving_bad a n cap W l w h
  · have := refMoving_ok a n cap W.toNat l w hl hn hcap (by omega) (by omega) hr
    rwa [Int.toNat_of_nonneg (by omega)] at this
open Classical in
noncomputable def smN (n p : Nat) : Nat := if BadP p then 0 else n
open Classical in
noncomputable def smK (p : Nat) : Int := if BadP p then 2 else 0
theorem smN_le (n p : Nat) : smN n p ≤ n := by unfold smN; split <;> omega
theorem smooth_any (a : Option Addr) (n cap p : Nat) (l : List Nat) (w : World) (hl : l.length = n) (hn : n ≤ 1048576) (hr : Rd w w.heap.size a (fl l)) :
    Calls Try.prog 32 #[.slice a n cap, .float .f64 p] w (RowE (SmoR p l) (smN n p) (smK p) w) := by
  unfold smN smK
  split
  · rename_i h; exact smooth_bad a n cap p l w h
  · rename_i h; exact smooth_ok a n cap p l w hl hn ((p_cases p).resolve_right h).1 hr
theorem refSmooth_any (a : Option Addr) (n cap p : Nat) (l : List Nat) (w : World) (hl : l.length = n) (hn : n ≤ 1048576) (hr : Rd w w.heap.size a (fl l)) :
    Calls Try.prog 33 #[.slice a n cap, .float .f64 p] w (RowE (SmoR p l) (smN n p) (smK p) w) := by
  unfold smN smK
  split
  · rename_i h; exact refSmooth_bad a n cap p l w h
  · rename_i h; have := (p_cases p).resolve_right h; exact refSmooth_ok a n cap p l w hl hn this.1 this.2 hr

/-- A row in a block from lo on, below hi. -/
def RdF (w : World) (lo hi : Nat) (a : Option Addr) (ys : List Value) : Prop :=
  hi ≤ w.heap.size ∧ (ys = [] ∨ ∃ b, a = some ⟨b, 0, none⟩ ∧ lo ≤ b ∧ b < hi ∧ ∀ (j : Nat) u, ys[j]? = some u → w.cell? ⟨b, j, none⟩ = some u)
theorem own_rdF {w : World} {base n : Nat} {v : Value} {xs : List Nat} (h : w.ownsRow base 25 1 v n (fl xs)) : ∃ a cap, v = .slice a n cap ∧ RdF w base w.heap.size a (fl xs) := by
  rcases h.2 with ⟨h', rfl⟩ | ⟨g, cap, cur, h1, h2, h3, h4⟩
  · exact ⟨none, 0, h', Nat.le_refl _, .inl (List.eq_nil_of_length_eq_zero (by have := h.1; simpa using this))⟩
  · have hg : g < w.heap.size := Blk.lt (t := 25) (cs := cur) h3
    refine ⟨some ⟨g, 0, none⟩, cap, h1, Nat.le_refl _, .inr ⟨g, rfl, h2, hg, fun j u hu => ?_⟩⟩
    subst h1
    exact (World.ownsRow.cellAt h j (by have := (List.getElem?_eq_some_iff.1 hu).1; have h0 := h.1; simp at this h0; omega)).trans hu
theorem RdF.rd {w : World} {lo hi : Nat} {a : Option Addr} {ys : List Value} (h : RdF w lo hi a ys) : Rd w w.heap.size a ys := by
  rcases h.2 with h1 | ⟨b, h1, _, h3, h4⟩
  · exact .inl h1
  · exact .inr ⟨b, 0, h1, Nat.lt_of_lt_of_le h3 h.1, fun j u hu => by rw [Nat.zero_add]; exact h4 j u hu⟩
theorem RdF.below {w w' : World} {lo hi : Nat} {a : Option Addr} {ys : List Value} (h : RdF w lo hi a ys) (hb : Below w.heap.size w w') : RdF w' lo hi a ys := by
  refine ⟨Nat.le_trans h.1 hb.size, ?_⟩
  rcases h.2 with h1 | ⟨b, h1, h2, h3, h4⟩
  · exact .inl h1
  · exact .inr ⟨b, h1, h2, h3, fun j u hu => (hb.cell (p := ⟨b, j, none⟩) (Nat.lt_of_lt_of_le h3 h.1)).trans (h4 j u hu)⟩
theorem RdF.grown {w w' : World} {lo hi : Nat} {a : Option Addr} {ys : List Value} {row : Option Nat} (h : RdF w lo hi a ys) (hb : w.grownBy w' row) (hr : ∀ g, row = some g → g < lo ∨ hi ≤ g) : RdF w' lo hi a ys := by
  refine ⟨Nat.le_trans h.1 hb.size, ?_⟩
  rcases h.2 with h1 | ⟨b, h1, h2, h3, h4⟩
  · exact .inl h1
  · refine .inr ⟨b, h1, h2, h3, fun j u hu => (World.cell?_of_block (a := ⟨b, j, none⟩) (hb.block b (Nat.lt_of_lt_of_le h3 h.1) fun e => ?_)).trans (h4 j u hu)⟩
    rcases hr b e.symm with h5 | h5 <;> omega

set_option maxRecDepth 100000 in
set_option maxHeartbeats 8000000 in
theorem rows_any (a : Option Addr) (n cap : Nat) (W : Int) (p : Nat) (l : List Nat) (w : World) (hl : l.length = n) (hW : W ≤ 9223372036854775807) (hn : n ≤ 9223372036854775807) (hr : Rd w w.heap.size a (us l)) :
    Calls Try.prog 6 #[.slice a n cap, .int .i64 W, .int .u64 p] w (Ret (.bool true) w) := by
  have hF := frombits p
  have HL := Lib.hid hl
  have HR := Lib.hid hr
  have HWb := Lib.hid hW
  clear hl hr hW
  rcases Nat.lt_or_ge 500 n with h500 | h500
  · go_enter Try.func6, Try.ntmps6
    go_wp2_with fail
    refine (known_any _).mono ?_
    rintro en w1 ⟨rfl, hb1⟩
    go_wp2_with fail
    go_returns
    exact ⟨rfl, hb1⟩
  go_enter Try.func6, Try.ntmps6
  go_wp2_with fail
  refine (row_any _ n _ l _ HL.out (by omega) HR.out).mono ?_
  rintro en w1 ⟨g, c, rfl, hg, hM, hb⟩
  have HM := Lib.hid hM
  have HB1 := Lib.hid hb
  have HG := Lib.hid hg
  clear hM hb hg
  go_wp2_with fail
  refine (Mean_any _ n _ l _ HL.out (by omega) HM.out.rd).mono ?_
  rintro en w2 ⟨m1, hR, rfl, hb⟩
  have R1 := Lib.hid hR
  have HM2 := Lib.hid (HM.out.keep hb.size (hb.block _ HM.out.2.2.1))
  have HB2 := Lib.hid (bnext HB1.out hb)
  clear hR hb
  go_wp2_with fail
  refine (Spread_any _ n _ l _ HL.out (by omega) HM2.out.rd).mono ?_
  rintro en w3 ⟨s1, hR, rfl, hb⟩
  have R2 := Lib.hid hR
  have HM3 := Lib.hid (HM2.out.keep hb.size (hb.block _ HM2.out.2.2.1))
  have HB3 := Lib.hid (bnext HB2.out hb)
  have SZ3 := Lib.hid hb.size
  clear hR hb
  go_wp2_with fail
  refine (refMean_any _ n _ l _ HL.out (by omega) HM3.out.rd).mono ?_
  rintro en w4 ⟨m2, hR, rfl, hb⟩
  have R3 := Lib.hid hR
  have HM4 := Lib.hid (HM3.out.keep hb.size (hb.block _ HM3.out.2.2.1))
  have HB4 := Lib.hid (bnext HB3.out hb)
  have SZ4 := Lib.hid hb.size
  clear hR hb
  go_wp2_with fail
  refine (refSpread_any _ n _ l _ HL.out (by omega) HM4.out.rd).mono ?_
  rintro en w5 ⟨s2, hR, rfl, hb⟩
  have R4 := Lib.hid hR
  have HM5 := Lib.hid (HM4.out.keep hb.size (hb.block _ HM4.out.2.2.1))
  have HB5 := Lib.hid (bnext HB4.out hb)
  have SZ5 := Lib.hid hb.size
  clear hR hb
  go_wp2_with fail
  refine (alike_any _ _ (R1.out.congr R3.out) _).mono ?_
  rintro en w_ ⟨rfl, hw_⟩
  obtain rfl : w5 = w_ := hw_.symm
  go_wp2_with fail
  refine (alike_any _ _ (R2.out.congr R4.out) _).mono ?_
  rintro en w_ ⟨rfl, hw_⟩
  obtain rfl : w5 = w_ := hw_.symm
  go_wp2_with fail
  refine (moving_any _ n _ W l _ HL.out (by omega) (by have := HM5.out.2.1; omega) HWb.out HM5.out.rd).mono ?_
  rintro en w6 ⟨vx, ox, rfl, hlen, hR, hO, hb⟩
  obtain ⟨ax, cx, rfl, hFx⟩ := own_rdF hO
  have LNx := Lib.hid hlen
  have RRx := Lib.hid hR
  have NEWx := Lib.hid hFx
  have NOWx := Lib.hid hO
  have HM6 := Lib.hid (HM5.out.keep hb.size (hb.block _ HM5.out.2.2.1))
  have HB6 := Lib.hid (bnext HB5.out hb)
  have SZ6 := Lib.hid hb.size
  clear hR hb hlen hO hFx
  have OWx := NOWx
  have RFx := NEWx
  go_wp2_with fail
  refine (moving_any _ n _ W l _ HL.out (by omega) (by have := HM6.out.2.1; omega) HWb.out HM6.out.rd).mono ?_
  rintro en w7 ⟨vy, oy, rfl, hlen, hR, hO, hb⟩
  obtain ⟨ay, cy, rfl, hFy⟩ := own_rdF hO
  have LNy := Lib.hid hlen
  have RRy := Lib.hid hR
  have NEWy := Lib.hid hFy
  have NOWy := Lib.hid hO
  have HM7 := Lib.hid (HM6.out.keep hb.size (hb.block _ HM6.out.2.2.1))
  have HB7 := Lib.hid (bnext HB6.out hb)
  have RFx := Lib.hid (RFx.out.below hb)
  have OWx := Lib.hid (owns_same OWx.out fun g _ hg => hb.block g hg)
  have SZ7 := Lib.hid hb.size
  clear hR hb hlen hO hFy
  have RFy := NEWy
  go_wp2_with fail
  refine (refMoving_any _ n _ W l _ HL.out (by omega) (by have := HM7.out.2.1; omega) HWb.out HM7.out.rd).mono ?_
  rintro en w8 ⟨vj, oj, rfl, hlen, hR, hO, hb⟩
  obtain ⟨aj, cj, rfl, hFj⟩ := own_rdF hO
  have LNj := Lib.hid hlen
  have RRj := Lib.hid hR
  have NEWj := Lib.hid hFj
  have NOWj := Lib.hid hO
  have HM8 := Lib.hid (HM7.out.keep hb.size (hb.block _ HM7.out.2.2.1))
  have HB8 := Lib.hid (bnext HB7.out hb)
  have RFx := Lib.hid (RFx.out.below hb)
  have RFy := Lib.hid (RFy.out.below hb)
  have OWx := Lib.hid (owns_same OWx.out fun g _ hg => hb.block g hg)
  have SZ8 := Lib.hid hb.size
  clear hR hb hlen hO hFj
  have RFj := NEWj
  go_wp2_with fail
  refine (smooth_any _ n _ p l _ HL.out (by omega) HM8.out.rd).mono ?_
  rintro en w9 ⟨vu, ou, rfl, hlen, hR, hO, hb⟩
  obtain ⟨au, cu, rfl, hFu⟩ := own_rdF hO
  have LNu := Lib.hid hlen
  have RRu := Lib.hid hR
  have NEWu := Lib.hid hFu
  have NOWu := Lib.hid hO
  have HM9 := Lib.hid (HM8.out.keep hb.size (hb.block _ HM8.out.2.2.1))
  have HB9 := Lib.hid (bnext HB8.out hb)
  have RFx := Lib.hid (RFx.out.below hb)
  have RFy := Lib.hid (RFy.out.below hb)
  have RFj := Lib.hid (RFj.out.below hb)
  have OWx := Lib.hid (owns_same OWx.out fun g _ hg => hb.block g hg)
  have SZ9 := Lib.hid hb.size
  clear hR hb hlen hO hFu
  have OWu := NOWu
  have RFu := NEWu
  go_wp2_with fail
  refine (smooth_any _ n _ p l _ HL.out (by omega) HM9.out.rd).mono ?_
  rintro en w10 ⟨vv, ov, rfl, hlen, hR, hO, hb⟩
  obtain ⟨av, cv, rfl, hFv⟩ := own_rdF hO
  have LNv := Lib.hid hlen
  have RRv := Lib.hid hR
  have NEWv := Lib.hid hFv
  have NOWv := Lib.hid hO
  have HM10 := Lib.hid (HM9.out.keep hb.size (hb.block _ HM9.out.2.2.1))
  have HB10 := Lib.hid (bnext HB9.out hb)
  have RFx := Lib.hid (RFx.out.below hb)
  have RFy := Lib.hid (RFy.out.below hb)
  have RFj := Lib.hid (RFj.out.below hb)
  have RFu := Lib.hid (RFu.out.below hb)
  have OWx := Lib.hid (owns_same OWx.out fun g _ hg => hb.block g hg)
  have OWu := Lib.hid (owns_same OWu.out fun g _ hg => hb.block g hg)
  have SZ10 := Lib.hid hb.size
  clear hR hb hlen hO hFv
  have RFv := NEWv
  go_wp2_with fail
  refine (refSmooth_any _ n _ p l _ HL.out (by omega) HM10.out.rd).mono ?_
  rintro en w11 ⟨vz, oz, rfl, hlen, hR, hO, hb⟩
  obtain ⟨az, cz, rfl, hFz⟩ := own_rdF hO
  have LNz := Lib.hid hlen
  have RRz := Lib.hid hR
  have NEWz := Lib.hid hFz
  have NOWz := Lib.hid hO
  have HM11 := Lib.hid (HM10.out.keep hb.size (hb.block _ HM10.out.2.2.1))
  have HB11 := Lib.hid (bnext HB10.out hb)
  have RFx := Lib.hid (RFx.out.below hb)
  have RFy := Lib.hid (RFy.out.below hb)
  have RFj := Lib.hid (RFj.out.below hb)
  have RFu := Lib.hid (RFu.out.below hb)
  have RFv := Lib.hid (RFv.out.below hb)
  have OWx := Lib.hid (owns_same OWx.out fun g _ hg => hb.block g hg)
  have OWu := Lib.hid (owns_same OWu.out fun g _ hg => hb.block g hg)
  have SZ11 := Lib.hid hb.size
  clear hR hb hlen hO hFz
  have RFz := NEWz
  go_wp2_with fail
  refine (same_any _ _ (movN n W) _ _ ox oj _ LNx.out (RRx.out.congr RRj.out (LNx.out.trans LNj.out.symm)) (by have := movN_le n W; omega) RFx.out.rd RFj.out.rd).mono ?_
  rintro en w12 ⟨rfl, hb⟩
  have HM12 := Lib.hid (HM11.out.keep hb.size (hb.block _ HM11.out.2.2.1))
  have HB12 := Lib.hid (bnext HB11.out hb)
  have RFx := Lib.hid (RFx.out.below hb)
  have RFy := Lib.hid (RFy.out.below hb)
  have RFj := Lib.hid (RFj.out.below hb)
  have RFu := Lib.hid (RFu.out.below hb)
  have RFv := Lib.hid (RFv.out.below hb)
  have RFz := Lib.hid (RFz.out.below hb)
  have OWx := Lib.hid (owns_same OWx.out fun g _ hg => hb.block g hg)
  have OWu := Lib.hid (owns_same OWu.out fun g _ hg => hb.block g hg)
  have SZ12 := Lib.hid hb.size
  clear hb
  go_wp2_with fail
  refine (same_any _ _ (smN n p) _ _ ou oz _ LNu.out (RRu.out.congr RRz.out (LNu.out.trans LNz.out.symm)) (by have := smN_le n p; omega) RFu.out.rd RFz.out.rd).mono ?_
  rintro en w13 ⟨rfl, hb⟩
  have HM13 := Lib.hid (HM12.out.keep hb.size (hb.block _ HM12.out.2.2.1))
  have HB13 := Lib.hid (bnext HB12.out hb)
  have RFx := Lib.hid (RFx.out.below hb)
  have RFy := Lib.hid (RFy.out.below hb)
  have RFj := Lib.hid (RFj.out.below hb)
  have RFu := Lib.hid (RFu.out.below hb)
  have RFv := Lib.hid (RFv.out.below hb)
  have RFz := Lib.hid (RFz.out.below hb)
  have OWx := Lib.hid (owns_same OWx.out fun g _ hg => hb.block g hg)
  have OWu := Lib.hid (owns_same OWu.out fun g _ hg => hb.block g hg)
  have SZ13 := Lib.hid hb.size
  clear hb
  have HBSx := Lib.hid ((Nat.le_trans (Nat.le_trans (Nat.le_trans (Nat.le_trans (Nat.le_trans (Nat.le_trans (Nat.le_trans SZ6.out SZ7.out) SZ8.out) SZ9.out) SZ10.out) SZ11.out) SZ12.out) SZ13.out))
  have HBSu := Lib.hid ((Nat.le_trans (Nat.le_trans (Nat.le_trans (Nat.le_trans SZ9.out SZ10.out) SZ11.out) SZ12.out) SZ13.out))
  have LExy := Lib.hid (show w6.heap.size ≤ w6.heap.size from Nat.le_refl _)
  have LExj := Lib.hid (show w6.heap.size ≤ w7.heap.size from SZ7.out)
  have LExu := Lib.hid (show w6.heap.size ≤ w8.heap.size from (Nat.le_trans SZ7.out SZ8.out))
  have LExv := Lib.hid (show w6.heap.size ≤ w9.heap.size from (Nat.le_trans (Nat.le_trans SZ7.out SZ8.out) SZ9.out))
  have LExz := Lib.hid (show w6.heap.size ≤ w10.heap.size from (Nat.le_trans (Nat.le_trans (Nat.le_trans SZ7.out SZ8.out) SZ9.out) SZ10.out))
  have LEuv := Lib.hid (show w9.heap.size ≤ w9.heap.size from Nat.le_refl _)
  have LEuz := Lib.hid (show w9.heap.size ≤ w10.heap.size from SZ10.out)
  have LEyu := Lib.hid (show w7.heap.size ≤ w8.heap.size from SZ8.out)
  have LEju := Lib.hid (show w8.heap.size ≤ w8.heap.size from Nat.le_refl _)
  go_wp2_with fail
  refine (spoilt_any _ w5.heap.size (movN n W) ox _ (by have := movN_le n W; omega) OWx.out HBSx.out).mono ?_
  rintro en w14 ⟨rfl, hg⟩
  have hown : ∀ g, Value.ownBlock (.slice ax (movN n W) cx) = some g → w5.heap.size ≤ g ∧ g < w6.heap.size := fun g hg => ⟨(OWx.out.lt g hg).1, (NOWx.out.lt g hg).2⟩
  have HM14 := Lib.hid (HM13.out.keep hg.size (hg.block _ HM13.out.2.2.1 fun e => by have h1 := (hown _ e.symm).1; have h2 := HM5.out.2.2.1; omega))
  have HB14 := Lib.hid (HB13.out.grown hg HB13.out.size fun g e => by have h1 := (hown g e).1; have h2 := HB5.out.size; omega)
  have RFy := Lib.hid (RFy.out.grown hg fun g e => .inl (by have h1 := (hown g e).2; have h2 := LExy.out; omega))
  have RFj := Lib.hid (RFj.out.grown hg fun g e => .inl (by have h1 := (hown g e).2; have h2 := LExj.out; omega))
  have RFv := Lib.hid (RFv.out.grown hg fun g e => .inl (by have h1 := (hown g e).2; have h2 := LExv.out; omega))
  have RFz := Lib.hid (RFz.out.grown hg fun g e => .inl (by have h1 := (hown g e).2; have h2 := LExz.out; omega))
  have OWu := Lib.hid (owns_same OWu.out fun g hg2 hlt => hg.block g hlt fun e => by have h1 := (hown g e.symm).2; have h3 := (OWu.out.lt g hg2).1; have h2 := LExu.out; omega)
  have SPx := Lib.hid hg.size
  clear hg hown
  have HBSu := Lib.hid (Nat.le_trans HBSu.out (show w13.heap.size ≤ w14.heap.size from SPx.out))
  go_wp2_with fail
  refine (spoilt_any _ w8.heap.size (smN n p) ou _ (by have := smN_le n p; omega) OWu.out HBSu.out).mono ?_
  rintro en w15 ⟨rfl, hg⟩
  have hown : ∀ g, Value.ownBlock (.slice au (smN n p) cu) = some g → w8.heap.size ≤ g ∧ g < w9.heap.size := fun g hg => ⟨(OWu.out.lt g hg).1, (NOWu.out.lt g hg).2⟩
  have HM15 := Lib.hid (HM14.out.keep hg.size (hg.block _ HM14.out.2.2.1 fun e => by have h1 := (hown _ e.symm).1; have h2 := HM8.out.2.2.1; omega))
  have HB15 := Lib.hid (HB14.out.grown hg HB14.out.size fun g e => by have h1 := (hown g e).1; have h2 := HB8.out.size; omega)
  have RFy := Lib.hid (RFy.out.grown hg fun g e => .inr (by have h1 := (hown g e).1; have h2 := LEyu.out; omega))
  have RFj := Lib.hid (RFj.out.grown hg fun g e => .inr (by have h1 := (hown g e).1; have h2 := LEju.out; omega))
  have RFv := Lib.hid (RFv.out.grown hg fun g e => .inl (by have h1 := (hown g e).2; have h2 := LEuv.out; omega))
  have RFz := Lib.hid (RFz.out.grown hg fun g e => .inl (by have h1 := (hown g e).2; have h2 := LEuz.out; omega))
  clear hg hown
  go_wp2_with fail
  refine (same_any _ _ (movN n W) _ _ oy oj _ LNy.out (RRy.out.congr RRj.out (LNy.out.trans LNj.out.symm)) (by have := movN_le n W; omega) RFy.out.rd RFj.out.rd).mono ?_
  rintro en w16 ⟨rfl, hb⟩
  have HM16 := Lib.hid (HM15.out.keep hb.size (hb.block _ HM15.out.2.2.1))
  have HB16 := Lib.hid (bnext HB15.out hb)
  have RFy := Lib.hid (RFy.out.below hb)
  have RFj := Lib.hid (RFj.out.below hb)
  have RFv := Lib.hid (RFv.out.below hb)
  have RFz := Lib.hid (RFz.out.below hb)
  have SZ16 := Lib.hid hb.size
  clear hb
  go_wp2_with fail
  refine (same_any _ _ (smN n p) _ _ ov oz _ LNv.out (RRv.out.congr RRz.out (LNv.out.trans LNz.out.symm)) (by have := smN_le n p; omega) RFv.out.rd RFz.out.rd).mono ?_
  rintro en w17 ⟨rfl, hb⟩
  have HM17 := Lib.hid (HM16.out.keep hb.size (hb.block _ HM16.out.2.2.1))
  have HB17 := Lib.hid (bnext HB16.out hb)
  have RFy := Lib.hid (RFy.out.below hb)
  have RFj := Lib.hid (RFj.out.below hb)
  have RFv := Lib.hid (RFv.out.below hb)
  have RFz := Lib.hid (RFz.out.below hb)
  have SZ17 := Lib.hid hb.size
  clear hb
  go_wp2_with fail
  refine (kept_any g n c _ _ l _ (by omega) HM17.out ((HR.out.below HB17.out).more HB17.out.size)).mono ?_
  rintro en w18 ⟨rfl, hb⟩
  have HB18 := Lib.hid (bnext HB17.out hb)
  clear hb
  go_wp2_with fail
  refine (known_any _).mono ?_
  rintro en w19 ⟨rfl, hb⟩
  have HB19 := Lib.hid (bnext HB18.out hb)
  clear hb
  go_wp2_with fail
  go_returns
  exact ⟨rfl, HB19.out⟩
end Go.Proofs.Ytbkofiflfcfjfaa
