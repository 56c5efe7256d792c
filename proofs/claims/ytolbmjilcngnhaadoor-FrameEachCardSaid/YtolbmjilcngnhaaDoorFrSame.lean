/- The document's SameBlocks, SameLists. -/
import Derived.Test.YtolbmjilcngnhaaDoorFrHd
import Derived.Test.YtolbmjilcngnhaaDoorFrSpA
set_option linter.unusedSimpArgs false
set_option linter.unusedVariables false
namespace Go.Proofs.YtolbmjilcngnhaaDoor
open Go.RowKit Go.Kp

theorem rd_drewN {w : World} {B : Nat} {a : Option Addr} {ys : List Value} (h : Rd w B a ys) (n : Nat) : Rd (w.drewN n) B a ys := h.keep fun _ _ _ => rfl
theorem below_drewN {a b : World} {B : Nat} (h : Below B a b) (n : Nat) : Below B a (b.drewN n) := ⟨h.os, h.tape, h.output, h.size, h.block⟩
theorem neq_byte (x y : UInt8) : ((x.toNat : Int) == (y.toNat : Int)) = decide (x = y) := by
  rw [Bool.eq_iff_iff]
  simp only [beq_iff_eq, decide_eq_true_eq]
  constructor
  · intro h; exact UInt8.toNat_inj.1 (by omega)
  · rintro rfl; rfl
/-- Cell j of thing k of a row. -/
theorem rd_flat {α : Type} {w : World} {B b off : Nat} (f : α → List Value) (sz : Nat) (hsz : ∀ x, (f x).length = sz) {l : List α} (hr : Rd w B (some ⟨b, off, none⟩) (l.flatMap f)) {k : Nat} {x : α} (hx : l[k]? = some x) {j : Nat} {u : Value} (hj : (f x)[j]? = some u) :
    w.cell? ⟨b, off + (k * sz + j), none⟩ = some u ∧ b < B := by
  have hjs : j < sz := by have := (List.getElem?_eq_some_iff.1 hj).1; rw [hsz] at this; exact this
  have e := flat_get f sz hsz l k j x hx hjs
  rcases hr with hr | ⟨b', off', h, hb, hc⟩
  · rw [hr] at e; rw [hj] at e; simp at e
  · cases h
    exact ⟨hc _ _ (e.trans hj), hb⟩
theorem rd_some {α : Type} {w : World} {B : Nat} {a : Option Addr} (f : α → List Value) (sz : Nat) (hsz : ∀ x, (f x).length = sz) (h0 : 0 < sz) {l : List α} (hr : Rd w B a (l.flatMap f)) {k : Nat} (hk : k < l.length) : ∃ b off, a = some ⟨b, off, none⟩ := by
  rcases hr with hr | ⟨b, off, h, _⟩
  · have e := flat_get f sz hsz l k 0 _ (List.getElem?_eq_getElem hk) h0
    have e2 := List.getElem?_eq_getElem (l := f l[k]) (i := 0) (by rw [hsz]; exact h0)
    rw [e2, hr] at e
    simp at e
  · exact ⟨b, off, h⟩
theorem take_snoc_map {α β : Type} (f : α → β) (l : List α) (k : Nat) (x : α) (h : l[k]? = some x) : (l.take (k + 1)).map f = (l.take k).map f ++ [f x] := by
  rw [List.take_add_one, h, List.map_append]; rfl
theorem map_ne_of_get {α β : Type} (f : α → β) (l m : List α) (k : Nat) (x y : α) (hx : l[k]? = some x) (hy : m[k]? = some y) (h : f x ≠ f y) : l.map f ≠ m.map f := by
  intro e
  have := congrArg (fun l => l[k]?) e
  simp only [List.getElem?_map, hx, hy, Option.map_some, Option.some.injEq] at this
  exact h this

set_option maxHeartbeats 2000000 in
theorem SameBlocks_any (a a' : Option Addr) (m n c c' : Nat) (xs ys : List Bk) (w : World) (hx : xs.length = m) (hy : ys.length = n) (hm : m ≤ 1099511627776) (hn : n ≤ 1099511627776) (hrx : Rd w w.heap.size a (xs.flatMap Bk.cells)) (hry : Rd w w.heap.size a' (ys.flatMap Bk.cells))
    (hbx : ∀ x ∈ xs, x.rd w w.heap.size) (hby : ∀ x ∈ ys, x.rd w w.heap.size) :
    Calls Tryd.prog 25 #[.slice a m c, .slice a' n c'] w (Ret (.bool (decide (xs.map Bk.pair = ys.map Bk.pair))) w) := by
  have HRX := Lib.hid hrx
  have HRY := Lib.hid hry
  have HBX := Lib.hid hbx
  have HBY := Lib.hid hby
  have HX := Lib.hid hx
  have HY := Lib.hid hy
  clear hrx hry hbx hby hx hy
  obtain ⟨res, hres⟩ : ∃ r, decide (xs.map Bk.pair = ys.map Bk.pair) = r := ⟨_, rfl⟩
  rw [hres]
  have HRES := Lib.hid hres
  clear hres
  rcases Decidable.em (m = n) with hmn | hmn
  · subst hmn
    have hbe : ((m : Int) == (m : Int)) = true := by simp
    go_enter Tryd.func25, Tryd.ntmps25
    go_wp2_with fail
    go_loopw [5] (fun i wr => ∃ k : Nat, k ≤ m ∧ i = .int .i64 k ∧ (xs.take k).map Bk.pair = (ys.take k).map Bk.pair ∧ Below w.heap.size w wr) (fun i _ => m - (intOf i).toNat)
    case atStart => exact ⟨0, Nat.zero_le _, rfl, rfl, by go_grown⟩
    case round =>
      obtain ⟨k, hk, rfl, hpre, hB⟩ := hrel
      have HPRE := Lib.hid hpre
      clear hpre
      rcases Nat.lt_or_ge k m with hlt | hge
      · obtain ⟨x, hx⟩ : ∃ x, xs[k]? = some x := ⟨_, List.getElem?_eq_getElem (by rw [HX.out]; exact hlt)⟩
        obtain ⟨y, hy⟩ : ∃ y, ys[k]? = some y := ⟨_, List.getElem?_eq_getElem (by rw [HY.out]; exact hlt)⟩
        obtain ⟨b, off, rfl⟩ := rd_some Bk.cells 2 Bk.len (by omega) HRX.out (k := k) (by rw [HX.out]; exact hlt)
        obtain ⟨b', off', rfl⟩ := rd_some Bk.cells 2 Bk.len (by omega) HRY.out (k := k) (by rw [HY.out]; exact hlt)
        obtain ⟨xa, xc, hxv, hxn, hxr⟩ := HBX.out x (List.mem_of_getElem? hx)
        obtain ⟨ya, yc, hyv, hyn, hyr⟩ := HBY.out y (List.mem_of_getElem? hy)
        have g0 := rd_flat Bk.cells 2 Bk.len HRX.out hx (j := 0) rfl
        have g1 := rd_flat Bk.cells 2 Bk.len HRX.out hx (j := 1) rfl
        have g2 := rd_flat Bk.cells 2 Bk.len HRY.out hy (j := 0) rfl
        have g3 := rd_flat Bk.cells 2 Bk.len HRY.out hy (j := 1) rfl
        have e0 : wr.cell? ⟨b, off + k * 2, none⟩ = some (B8 x.t) := (hB.cell (p := ⟨b, _, none⟩) g0.2).trans g0.1
        have e1 : wr.cell? ⟨b, off + k * 2 + 1, none⟩ = some (.slice xa x.l.length xc) := by rw [← hxv]; exact (hB.cell (p := ⟨b, _, none⟩) g1.2).trans g1.1
        have e2 : wr.cell? ⟨b', off' + k * 2, none⟩ = some (B8 y.t) := (hB.cell (p := ⟨b', _, none⟩) g2.2).trans g2.1
        have e3 : wr.cell? ⟨b', off' + k * 2 + 1, none⟩ = some (.slice ya y.l.length yc) := by rw [← hyv]; exact (hB.cell (p := ⟨b', _, none⟩) g3.2).trans g3.1
        have r1 := fun q => conv_rd xa x.l.length xc x.l rfl (wr.drewN q) w.heap.size (rd_drewN (hxr.below hB) q)
        have r2 := fun q => conv_rd ya y.l.length yc y.l rfl (wr.drewN q) w.heap.size (rd_drewN (hyr.below hB) q)
        have tb := neq_byte x.t y.t
        have tn : ((x.t.toNat : Int) != (y.t.toNat : Int)) = !decide (x.t = y.t) := by rw [bne, tb]
        have sb := str_beq x.l y.l
        have sn : ((strOf x.l).toList != (strOf y.l).toList) = !decide (x.l = y.l) := by rw [bne, sb]
        have HXK := Lib.hid hx
        have HYK := Lib.hid hy
        generalize hxl : x.l.length = xn at *
        generalize hyl : y.l.length = yn at *
        clear g0 g1 g2 g3 hxv hyv hxr hyr hx hy hxl hyl
        rcases Decidable.em (x.t = y.t) with h1 | h1
        · rw [decide_eq_true h1] at tb tn
          rcases Decidable.em (x.l = y.l) with h2 | h2
          · rw [decide_eq_true h2] at sb sn
            have HE := Lib.hid (show x.pair = y.pair from Prod.ext h1 h2)
            clear h1 h2
            go_wp2_with fail
            go_quiet (fail)
            go_wp2_with fail
            go_roundw
            case rel =>
              refine ⟨k + 1, by omega, by go_num, ?_, below_drewN hB _⟩
              rw [take_snoc_map Bk.pair xs k x HXK.out, take_snoc_map Bk.pair ys k y HYK.out, HPRE.out, HE.out]
            case measure => simp [intOf]; omega
          · rw [decide_eq_false h2] at sb sn
            obtain rfl : res = false := by
              rw [← HRES.out, decide_eq_false_iff_not]
              exact map_ne_of_get Bk.pair xs ys k x y HXK.out HYK.out (fun e => h2 (congrArg Prod.snd e))
            clear h1 h2
            go_wp2_with fail
            go_quiet (fail)
            go_wp2_with fail
            go_returns
            exact ⟨rfl, below_drewN hB _⟩
        · rw [decide_eq_false h1] at tb tn
          obtain rfl : res = false := by
            rw [← HRES.out, decide_eq_false_iff_not]
            exact map_ne_of_get Bk.pair xs ys k x y HXK.out HYK.out (fun e => h1 (congrArg Prod.fst e))
          clear h1
          go_wp2_with fail
          go_quiet (fail)
          go_wp2_with fail
          go_returns
          exact ⟨rfl, below_drewN hB _⟩
      · obtain rfl : k = m := by omega
        obtain rfl : res = true := by
          rw [← HRES.out, decide_eq_true_eq]
          have h := HPRE.out
          rw [List.take_of_length_le (by rw [HX.out]; exact Nat.le_refl _), List.take_of_length_le (by rw [HY.out]; exact Nat.le_refl _)] at h
          exact h
        go_wp2_with fail
        go_returns
        exact ⟨rfl, hB⟩
  · have hbe : ((m : Int) == (n : Int)) = false := by simp; omega
    obtain rfl : res = false := by
      rw [← HRES.out, decide_eq_false_iff_not]
      intro h
      have := congrArg List.length h
      simp [HX.out, HY.out] at this; omega
    go_enter Tryd.func25, Tryd.ntmps25
    go_wp2_with fail
    go_returns
    exact ⟨rfl, by go_grown⟩

/-- A list of bytes in a row of such lists. -/
abbrev bodyOf (x : Bk) : List Value := [x.v]

set_option maxHeartbeats 2000000 in
theorem SameLists_any (a a' : Option Addr) (m n c c' : Nat) (xs ys : List Bk) (w : World) (hx : xs.length = m) (hy : ys.length = n) (hm : m ≤ 1099511627776) (hn : n ≤ 1099511627776) (hrx : Rd w w.heap.size a (xs.flatMap bodyOf)) (hry : Rd w w.heap.size a' (ys.flatMap bodyOf))
    (hbx : ∀ x ∈ xs, x.rd w w.heap.size) (hby : ∀ x ∈ ys, x.rd w w.heap.size) :
    Calls Tryd.prog 28 #[.slice a m c, .slice a' n c'] w (Ret (.bool (decide (xs.map Bk.l = ys.map Bk.l))) w) := by
  have HRX := Lib.hid hrx
  have HRY := Lib.hid hry
  have HBX := Lib.hid hbx
  have HBY := Lib.hid hby
  have HX := Lib.hid hx
  have HY := Lib.hid hy
  clear hrx hry hbx hby hx hy
  obtain ⟨res, hres⟩ : ∃ r, decide (xs.map Bk.l = ys.map Bk.l) = r := ⟨_, rfl⟩
  rw [hres]
  have HRES := Lib.hid hres
  clear hres
  rcases Decidable.em (m = n) with hmn | hmn
  · subst hmn
    have hbe : ((m : Int) == (m : Int)) = true := by simp
    go_enter Tryd.func28, Tryd.ntmps28
    go_wp2_with fail
    go_loopw [5] (fun i wr => ∃ k : Nat, k ≤ m ∧ i = .int .i64 k ∧ (xs.take k).map Bk.l = (ys.take k).map Bk.l ∧ Below w.heap.size w wr) (fun i _ => m - (intOf i).toNat)
    case atStart => exact ⟨0, Nat.zero_le _, rfl, rfl, by go_grown⟩
    case round =>
      obtain ⟨k, hk, rfl, hpre, hB⟩ := hrel
      have HPRE := Lib.hid hpre
      clear hpre
      rcases Nat.lt_or_ge k m with hlt | hge
      · obtain ⟨x, hx⟩ : ∃ x, xs[k]? = some x := ⟨_, List.getElem?_eq_getElem (by rw [HX.out]; exact hlt)⟩
        obtain ⟨y, hy⟩ : ∃ y, ys[k]? = some y := ⟨_, List.getElem?_eq_getElem (by rw [HY.out]; exact hlt)⟩
        obtain ⟨b, off, rfl⟩ := rd_some bodyOf 1 (fun _ => rfl) (by omega) HRX.out (k := k) (by rw [HX.out]; exact hlt)
        obtain ⟨b', off', rfl⟩ := rd_some bodyOf 1 (fun _ => rfl) (by omega) HRY.out (k := k) (by rw [HY.out]; exact hlt)
        obtain ⟨xa, xc, hxv, hxn, hxr⟩ := HBX.out x (List.mem_of_getElem? hx)
        obtain ⟨ya, yc, hyv, hyn, hyr⟩ := HBY.out y (List.mem_of_getElem? hy)
        have g0 := rd_flat bodyOf 1 (fun _ => rfl) HRX.out hx (j := 0) rfl
        have g2 := rd_flat bodyOf 1 (fun _ => rfl) HRY.out hy (j := 0) rfl
        have e1 : wr.cell? ⟨b, off + k, none⟩ = some (.slice xa x.l.length xc) := by rw [← hxv]; simpa using (hB.cell (p := ⟨b, _, none⟩) g0.2).trans g0.1
        have e3 : wr.cell? ⟨b', off' + k, none⟩ = some (.slice ya y.l.length yc) := by rw [← hyv]; simpa using (hB.cell (p := ⟨b', _, none⟩) g2.2).trans g2.1
        have r1 := fun q => conv_rd xa x.l.length xc x.l rfl (wr.drewN q) w.heap.size (rd_drewN (hxr.below hB) q)
        have r2 := fun q => conv_rd ya y.l.length yc y.l rfl (wr.drewN q) w.heap.size (rd_drewN (hyr.below hB) q)
        have sb := str_beq x.l y.l
        have sn : ((strOf x.l).toList != (strOf y.l).toList) = !decide (x.l = y.l) := by rw [bne, sb]
        have HXK := Lib.hid hx
        have HYK := Lib.hid hy
        generalize hxl : x.l.length = xn at *
        generalize hyl : y.l.length = yn at *
        clear g0 g2 hxv hyv hxr hyr hx hy hxl hyl
        rcases Decidable.em (x.l = y.l) with h2 | h2
        · rw [decide_eq_true h2] at sb sn
          have HE := Lib.hid h2
          clear h2
          go_wp2_with fail
          go_quiet (fail)
          go_wp2_with fail
          go_roundw
          case rel =>
            refine ⟨k + 1, by omega, by go_num, ?_, below_drewN hB _⟩
            rw [take_snoc_map Bk.l xs k x HXK.out, take_snoc_map Bk.l ys k y HYK.out, HPRE.out, HE.out]
          case measure => simp [intOf]; omega
        · rw [decide_eq_false h2] at sb sn
          obtain rfl : res = false := by
            rw [← HRES.out, decide_eq_false_iff_not]
            exact map_ne_of_get Bk.l xs ys k x y HXK.out HYK.out h2
          clear h2
          go_wp2_with fail
          go_quiet (fail)
          go_wp2_with fail
          go_returns
          exact ⟨rfl, below_drewN hB _⟩
      · obtain rfl : k = m := by omega
        obtain rfl : res = true := by
          rw [← HRES.out, decide_eq_true_eq]
          have h := HPRE.out
          rw [List.take_of_length_le (by rw [HX.out]; exact Nat.le_refl _), List.take_of_length_le (by rw [HY.out]; exact Nat.le_refl _)] at h
          exact h
        go_wp2_with fail
        go_returns
        exact ⟨rfl, hB⟩
  · have hbe : ((m : Int) == (n : Int)) = false := by simp; omega
    obtain rfl : res = false := by
      rw [← HRES.out, decide_eq_false_iff_not]
      intro h
      have := congrArg List.length h
      simp [HX.out, HY.out] at this; omega
    go_enter Tryd.func28, Tryd.ntmps28
    go_wp2_with fail
    go_returns
    exact ⟨rfl, by go_grown⟩
end Go.Proofs.YtolbmjilcngnhaaDoor
