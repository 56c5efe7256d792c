/- Series: the sums and means of the program and of the document, each as what it may give. -/
import Derived.Test.YtbkofiflfcfjfaaSeM
import Derived.Test.YtbkofiflfcfjfaaBase
import Derived.Test.YtbkofiflfcfjfaaOpen
import Derived.Test.YtbkofiflfcfjfaaProg
import Derived.Deep.Cut
import Derived.Laws.Externs
set_option linter.unusedSimpArgs false
set_option linter.unusedVariables false
namespace Go.Proofs.Ytbkofiflfcfjfaa
open Go.RowKit Go.Kp Go.Ser

/-- Nothing but a draw. -/
def Still (w w' : World) : Prop := w' = w ∨ w' = w.drew
theorem Still.below {w w' : World} (h : Still w w') (B : Nat) : Below B w w' := by
  rcases h with rfl | rfl
  · exact Below.refl _ _
  · exact (Below.refl _ _).drew
theorem Still.heap {w w' : World} (h : Still w w') : w'.heap = w.heap := by rcases h with rfl | rfl <;> rfl
theorem Still.cell {w w' : World} (h : Still w w') {p : Addr} {v : Value} (e : w.cell? p = some v) : w'.cell? p = some v := by rcases h with rfl | rfl <;> exact e

/-- An operation on floats, whatever they are. -/
def OpAt (op : BinOp) (w : World) (x y : Nat) : Prop := ∃ r w', (binOp op 25 (.float .f64 x) (.float .f64 y)).run Try.prog w = .ok (.float .f64 r) w' ∧ Hid (Res op x y r) ∧ Hid (Still w w')
theorem op_any (op : BinOp) (ho : op = .add ∨ op = .sub ∨ op = .mul ∨ op = .quo) (w : World) (x y : Nat) : OpAt op w x y := by
  obtain ⟨r, w', h1, h2, h3⟩ := run_any (P := Try.prog) w op ho 25 x y
  exact ⟨r, w', h1, Lib.hid h2, Lib.hid h3⟩
theorem add_any (w : World) (x y : Nat) : OpAt .add w x y := op_any .add (.inl rfl) w x y
theorem sub_any (w : World) (x y : Nat) : OpAt .sub w x y := op_any .sub (.inr (.inl rfl)) w x y
theorem mul_any (w : World) (x y : Nat) : OpAt .mul w x y := op_any .mul (.inr (.inr (.inl rfl))) w x y
theorem quo_any (w : World) (x y : Nat) : OpAt .quo w x y := op_any .quo (.inr (.inr (.inr rfl))) w x y

/-- Returned: some number of which R holds; nothing that was there has changed. -/
def FlR (R : Nat → Prop) (w : World) (e : Ending) (w' : World) : Prop := ∃ r, R r ∧ e = .returned (.float .f64 r) ∧ Below w.heap.size w w'

/-- The words of a row. -/
abbrev fl (l : List Nat) : List Value := l.map (Value.float .f64)
theorem fl_at {w wr : World} {b off k x : Nat} {l : List Nat} (hb : b < w.heap.size) (hB : Below w.heap.size w wr) (hc : ∀ (j : Nat) u, (fl l)[j]? = some u → w.cell? ⟨b, off + j, none⟩ = some u) (hx : l[k]? = some x) :
    wr.cell? ⟨b, off + k, none⟩ = some (.float .f64 x) :=
  (hB.cell (p := ⟨b, off + k, none⟩) hb).trans (hc k _ (by rw [List.getElem?_map, hx]; rfl))
theorem some_at {l : List Nat} {n k : Nat} (hl : l.length = n) (h : k < n) : ∃ x, l[k]? = some x := ⟨_, List.getElem?_eq_getElem (by omega)⟩
theorem take_next {l : List Nat} {k x : Nat} (hx : l[k]? = some x) : l.take (k + 1) = l.take k ++ [x] := by rw [List.take_add_one, hx]; rfl
theorem fl_ne {l : List Nat} {n : Nat} (hl : l.length = n) (hn : 0 < n) : fl l ≠ [] := by
  intro h
  rw [List.map_eq_nil_iff.1 h] at hl; simp at hl; omega

set_option maxHeartbeats 1000000 in
theorem mean_any (a : Option Addr) (n cap : Nat) (l : List Nat) (w : World) (hl : l.length = n) (hn : n ≤ 4611686018427387904) (hr : Rd w w.heap.size a (fl l)) :
    Calls Try.prog 38 #[.slice a n cap] w (FlR (MeanR l) w) := by
  obtain ⟨hnp⟩ : Nonempty (n ≤ 4611686018427387904) := ⟨hn⟩
  rcases Nat.eq_zero_or_pos n with hn0 | hn0
  · subst hn0
    obtain rfl : l = [] := List.eq_nil_of_length_eq_zero hl
    obtain ⟨t, w2, hrun, hres, hw⟩ := quo_any w 0 (floatOfInt .f64 (0 : Int))
    go_enter Try.func38, Try.ntmps38
    go_wp2
    go_rounds 1
    go_returns
    exact ⟨t, ⟨0, rfl, hres.out⟩, rfl, hw.out.below _⟩
  · rcases hr with hr | ⟨b, off, rfl, hb, hc⟩
    · exact absurd hr (fl_ne hl hn0)
    have HC := Lib.hid hc
    have HL := Lib.hid hl
    clear hc hl
    go_enter Try.func38, Try.ntmps38
    go_wp2
    go_loopw [3, 8] (fun s i wr => ∃ k r : Nat, k ≤ n ∧ i = .int .i64 k ∧ s = .float .f64 r ∧ SumR 0 (l.take k) r ∧ Below w.heap.size w wr) (fun _ i _ => n - (intOf i).toNat)
    case atStart => exact ⟨0, 0, Nat.zero_le _, rfl, rfl, rfl, by go_grown⟩
    case round =>
      obtain ⟨k, r, hk, rfl, rfl, hR, hB⟩ := hrel
      have HR := Lib.hid hR
      clear hR
      rcases Nat.lt_or_ge k n with hlt | hge
      · obtain ⟨x, hx⟩ := some_at HL.out hlt
        have e := fl_at hb hB HC.out hx
        have HT := Lib.hid (take_next hx)
        clear hx
        obtain ⟨t, w2, hrun, hres, hw⟩ := add_any wr r x
        go_wp2
        go_roundw
        case rel => exact ⟨k + 1, t, by omega, by go_num, rfl, by rw [HT.out]; exact HR.out.snoc hres.out, hB.trans (hw.out.below _)⟩
        case measure => simp [intOf]; omega
      · obtain rfl : k = n := by omega
        obtain ⟨t, w2, hrun, hres, hw⟩ := quo_any wr r (floatOfInt .f64 (k : Int))
        go_wp2
        go_returns
        exact ⟨t, ⟨r, by have := HR.out; rwa [List.take_of_length_le (by rw [HL.out]; omega)] at this, by rw [HL.out]; exact hres.out⟩, rfl, hB.trans (hw.out.below _)⟩

set_option maxHeartbeats 1000000 in
theorem refSum_any (a : Option Addr) (n cap : Nat) (l : List Nat) (w : World) (hl : l.length = n) (hn : n ≤ 4611686018427387904) (hr : Rd w w.heap.size a (fl l)) :
    Calls Try.prog 40 #[.slice a n cap] w (FlR (SumR 0 l) w) := by
  obtain ⟨hnp⟩ : Nonempty (n ≤ 4611686018427387904) := ⟨hn⟩
  rcases Nat.eq_zero_or_pos n with hn0 | hn0
  · subst hn0
    obtain rfl : l = [] := List.eq_nil_of_length_eq_zero hl
    go_enter Try.func40, Try.ntmps40
    go_wp2
    go_rounds 1
    go_returns
    exact ⟨0, rfl, rfl, by go_grown⟩
  · rcases hr with hr | ⟨b, off, rfl, hb, hc⟩
    · exact absurd hr (fl_ne hl hn0)
    have HC := Lib.hid hc
    have HL := Lib.hid hl
    clear hc hl
    go_enter Try.func40, Try.ntmps40
    go_wp2
    go_loopw [3, 4] (fun s i wr => ∃ k r : Nat, k ≤ n ∧ i = .int .i64 k ∧ s = .float .f64 r ∧ SumR 0 (l.take k) r ∧ Below w.heap.size w wr) (fun _ i _ => n - (intOf i).toNat)
    case atStart => exact ⟨0, 0, Nat.zero_le _, rfl, rfl, rfl, by go_grown⟩
    case round =>
      obtain ⟨k, r, hk, rfl, rfl, hR, hB⟩ := hrel
      have HR := Lib.hid hR
      clear hR
      rcases Nat.lt_or_ge k n with hlt | hge
      · obtain ⟨x, hx⟩ := some_at HL.out hlt
        have e := fl_at hb hB HC.out hx
        have HT := Lib.hid (take_next hx)
        clear hx
        obtain ⟨t, w2, hrun, hres, hw⟩ := add_any wr r x
        go_wp2
        go_roundw
        case rel => exact ⟨k + 1, t, by omega, by go_num, rfl, by rw [HT.out]; exact HR.out.snoc hres.out, hB.trans (hw.out.below _)⟩
        case measure => simp [intOf]; omega
      · go_wp2
        go_returns
        exact ⟨r, by have := HR.out; rwa [List.take_of_length_le (by rw [HL.out]; omega)] at this, rfl, hB⟩

set_option maxHeartbeats 1000000 in
theorem around_any (a a' : Option Addr) (n cap cap' m m' : Nat) (l l' : List Nat) (w : World) (hl : l.length = n) (hl' : l'.length = n) (hn : n ≤ 4611686018427387904) (hr : Rd w w.heap.size a (fl l)) (hr' : Rd w w.heap.size a' (fl l')) :
    Calls Try.prog 39 #[.slice a n cap, .slice a' n cap', .float .f64 m, .float .f64 m'] w (FlR (AroundR l l' m m') w) := by
  obtain ⟨hnp⟩ : Nonempty (n ≤ 4611686018427387904) := ⟨hn⟩
  rcases Nat.eq_zero_or_pos n with hn0 | hn0
  · subst hn0
    obtain rfl : l = [] := List.eq_nil_of_length_eq_zero hl
    go_enter Try.func39, Try.ntmps39
    go_wp2
    go_rounds 1
    go_returns
    exact ⟨0, ⟨[], rfl, ProdR.nil, rfl⟩, rfl, by go_grown⟩
  · rcases hr with hr | ⟨b, off, rfl, hb, hc⟩
    · exact absurd hr (fl_ne hl hn0)
    rcases hr' with hr' | ⟨b', off', rfl, hb', hc'⟩
    · exact absurd hr' (fl_ne hl' hn0)
    have HC := Lib.hid hc
    have HL := Lib.hid hl
    have HC' := Lib.hid hc'
    have HL' := Lib.hid hl'
    clear hc hl hc' hl'
    go_enter Try.func39, Try.ntmps39
    go_wp2
    go_loopw [9, 15] (fun s i wr => ∃ k r : Nat, ∃ ps : List Nat, k ≤ n ∧ i = .int .i64 k ∧ s = .float .f64 r ∧ ps.length = k ∧ ProdR l l' m m' ps ∧ SumR 0 ps r ∧ Below w.heap.size w wr) (fun _ i _ => n - (intOf i).toNat)
    case atStart => exact ⟨0, 0, [], Nat.zero_le _, rfl, rfl, rfl, ProdR.nil, rfl, by go_grown⟩
    case round =>
      obtain ⟨k, r, ps, hk, rfl, rfl, hpl, hP, hR, hB⟩ := hrel
      have HR := Lib.hid hR
      have HP := Lib.hid hP
      have HPL := Lib.hid hpl
      clear hR hP hpl
      rcases Nat.lt_or_ge k n with hlt | hge
      · obtain ⟨x, hx⟩ := some_at HL.out hlt
        obtain ⟨y, hy⟩ := some_at HL'.out hlt
        have e := fl_at hb hB HC.out hx
        have HX := Lib.hid hx
        have HY := Lib.hid hy
        clear hx
        obtain ⟨d, w2, hrun, hres, hw⟩ := sub_any wr x m
        have HB2 := hB.trans (hw.out.below _)
        have e' := fl_at hb' HB2 HC'.out hy
        clear hy
        obtain ⟨d', w3, hrun', hres', hw'⟩ := sub_any w2 y m'
        obtain ⟨p, w4, hrun2, hres2, hw2⟩ := mul_any w3 d d'
        obtain ⟨t, w5, hrun3, hres3, hw3⟩ := add_any w4 r p
        go_wp2
        go_roundw
        case rel => exact ⟨k + 1, t, ps ++ [p], by omega, by go_num, rfl, by simp [HPL.out], HP.out.snoc (by rw [HPL.out]; exact HX.out) (by rw [HPL.out]; exact HY.out) ⟨d, d', hres.out, hres'.out, hres2.out⟩, HR.out.snoc hres3.out, ((HB2.trans (hw'.out.below _)).trans (hw2.out.below _)).trans (hw3.out.below _)⟩
        case measure => simp [intOf]; omega
      · go_wp2
        go_returns
        exact ⟨r, ⟨ps, by rw [HPL.out, HL.out]; omega, HP.out, HR.out⟩, rfl, hB⟩
end Go.Proofs.Ytbkofiflfcfjfaa
