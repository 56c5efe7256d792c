/- SeriesTones: the walk. -/
import Derived.Test.YtbkofiflfcfjfaaSeR
set_option linter.unusedSimpArgs false
set_option linter.unusedVariables false
namespace Go.Proofs.Ytbkofiflfcfjfaa
open Go.RowKit Go.Kp Go.Ser

/-- The turns, two and two. -/
def prs (ts : List Nat) (k : Nat) : List (Nat × Nat) := (List.range k).map fun j => (ts.getD (2 * j) 0, ts.getD (2 * j + 1) 0)
theorem prs_len (ts : List Nat) (k : Nat) : (prs ts k).length = k := by simp [prs]
theorem prs_next {ts : List Nat} {k x y : Nat} (hx : ts[2 * k]? = some x) (hy : ts[2 * k + 1]? = some y) : prs ts (k + 1) = prs ts k ++ [(x, y)] := by
  simp only [prs, List.range_succ, List.map_append, List.map_cons, List.map_nil, List.getD_eq_getElem?_getD, hx, hy, Option.getD_some]
theorem own_rdc {w : World} {base n : Nat} {v : Value} {xs : List (Nat × Nat)} (h : w.ownsRow base 64 1 v n (cxs xs)) : ∃ a cap, v = .slice a n cap ∧ xs.length = n ∧ Rd w w.heap.size a (cxs xs) := by
  have hl : xs.length = n := by have := h.1; simpa using this
  rcases h.2 with ⟨h', rfl⟩ | ⟨g, cap, cur, h1, h2, h3, h4⟩
  · exact ⟨none, 0, h', hl, .inl (by rw [List.eq_nil_of_length_eq_zero hl]; rfl)⟩
  · refine ⟨some ⟨g, 0, none⟩, cap, h1, hl, ?_⟩
    have hg : g < w.heap.size := Blk.lt (t := 64) (cs := cur) h3
    refine .inr ⟨g, 0, rfl, hg, fun j u hu => ?_⟩
    rw [Nat.zero_add]
    subst h1
    exact (World.ownsRow.cellAt h j (by have := (List.getElem?_eq_some_iff.1 hu).1; simp at this; omega)).trans hu
theorem cx_at {w wr : World} {b off k : Nat} {p : Nat × Nat} {l : List (Nat × Nat)} (hb : b < w.heap.size) (hB : Below w.heap.size w wr) (hc : ∀ (j : Nat) u, (cxs l)[j]? = some u → w.cell? ⟨b, off + j, none⟩ = some u) (hx : l[k]? = some p) :
    wr.cell? ⟨b, off + k, none⟩ = some (.complex .f64 p.1 p.2) := (hB.cell (p := ⟨b, off + k, none⟩) hb).trans (hc k _ (by rw [List.getElem?_map, hx]; rfl))
theorem cx_ne {l : List (Nat × Nat)} {n : Nat} (hl : l.length = n) (hn : 0 < n) : cxs l ≠ [] := by
  intro h
  rw [List.map_eq_nil_iff.1 h] at hl; simp at hl; omega

set_option maxRecDepth 100000 in
set_option maxHeartbeats 8000000 in
theorem tonesL_any (a a' : Option Addr) (n m cap cap' : Nat) (l ts : List Nat) (w : World) (hl : l.length = n) (hl' : ts.length = m) (hn : n ≤ 9223372036854775807) (hm : m ≤ 9223372036854775807) (hr : Rd w w.heap.size a (us l)) (hr' : Rd w w.heap.size a' (us ts)) :
    Calls Try.prog 5 #[.slice a n cap, .slice a' m cap'] w (Ret (.bool true) w) := by
  have hF := frombits
  have HL := Lib.hid hl
  have HR := Lib.hid hr
  have HL' := Lib.hid hl'
  have HR' := Lib.hid hr'
  clear hl hr hl' hr'
  rcases Nat.lt_or_ge 500 n with h500 | h500
  · go_enter Try.func5, Try.ntmps5
    go_wp2_with fail
    refine (known_any _).mono ?_
    rintro en w1 ⟨rfl, hb1⟩
    go_wp2_with fail
    go_returns
    exact ⟨rfl, hb1⟩
  rcases Nat.lt_or_ge 40 m with h501 | h501
  · go_enter Try.func5, Try.ntmps5
    go_wp2_with fail
    refine (known_any _).mono ?_
    rintro en w1 ⟨rfl, hb1⟩
    go_wp2_with fail
    go_returns
    exact ⟨rfl, hb1⟩
  clear hn hm
  go_enter Try.func5, Try.ntmps5
  go_wp2_with fail
  refine (row_any _ n _ l _ HL.out (by omega) HR.out).mono ?_
  rintro en w1 ⟨g, c, rfl, hg, hM, hb⟩
  have HM := Lib.hid hM
  have HB1 := Lib.hid hb
  have hs1 := hb.size
  clear hM hb hg
  go_wp2_with fail
  go_loopw [6, 7] (fun v i wr => ∃ k : Nat, 2 * k ≤ m ∧ i = .int .i64 ((2 * k : Nat) : Int) ∧ wr.ownsRow w1.heap.size 64 1 v k (cxs (prs ts k)) ∧ Below w1.heap.size w1 wr) (fun _ i _ => m - (intOf i).toNat)
  case atStart => exact ⟨0, by omega, rfl, World.ownsRow_nil _ _ _ _, by go_grown⟩
  case round =>
    obtain ⟨k, hk, rfl, hO, hB⟩ := hrel
    have HO := Lib.hid hO
    clear hO
    have hsz := hB.size
    have HBk := Lib.hid (HB1.out.trans (hB.mono hs1))
    have HPR := Lib.hid (prs_len ts k)
    rcases Nat.lt_or_ge (2 * k + 1) m with hlt | hge
    · rcases HR'.out with hr | ⟨b, off, rfl, hb, hc⟩
      · exact absurd hr (us_ne HL'.out (by omega))
      obtain ⟨x, hx⟩ := some_at HL'.out (show 2 * k < m by omega)
      obtain ⟨y, hy⟩ := some_at HL'.out hlt
      have e := us_at hb HBk.out hc hx
      have e' := us_at hb HBk.out hc hy
      have HT := Lib.hid (prs_next hx hy)
      have qb : b < wr.heap.size := Nat.lt_of_lt_of_le hb HBk.out.size
      have HJ : Hid (∀ j : Nat, j = 2 * k → j + 2 = 2 * (k + 1)) := Lib.hid fun j h => by omega
      clear hx hy hc
      obtain ⟨j, hj⟩ : ∃ j : Nat, j = 2 * k := ⟨_, rfl⟩
      rw [← hj] at hlt e e' ⊢
      have HJ2 := Lib.hid hj
      clear hj
      have hj0 : j < m := by omega
      have hj1 : ((j : Int) + 1) < m := by omega
      have hj5 : (0 ≤ (j : Int) + 1) = True := eq_true (by omega)
      have hj4 : (0 ≤ (j : Int) + 1 ∧ (j : Int) + 1 < m) = True := eq_true ⟨by omega, by omega⟩
      have hj2 : IntKind.i64.wrap ((j : Int) + 1) = (j : Int) + 1 := by rw [IntKind.wrap_i64]; omega
      have hj3 : ((j : Int) + 1).toNat = j + 1 := by omega
      go_wp2_with fail
      (refine region_keep (fun b => b < wr.heap.size) 14 [(0, true), (1, true), (2, true), (3, true), (4, true), (5, true), (6, true), (7, true), (8, true), (9, true), (10, true), (11, true), (12, true), (13, false)] (by kernel_rfl) (fun _ _ d _ _ h => by cases d <;> exact h) (by kernel_rfl) ?_; simp only [withOps, List.getElem?_toArray, List.getElem?_cons_zero, List.getElem?_cons_succ, List.drop_succ_cons, List.drop_zero])
      (iterate 13 (refine keep_quiet (v := ?_) rfl ?_ ?_; rotate_left; (focus (intro w' hw'; go_simp; (try with_reducible rfl); done)); try simp only [Act.put, List.setIfInBounds_toArray, List.set_cons_zero, List.set_cons_succ]))
      (with_reducible refine plan_loud (fun K hK => ?_))
      go_simp
      refine hK _ _ ?_ ?_
      · intro x hx; exact heap_old hx
      clear hK K
      (with_reducible refine plan_end ?_)
      (try simp only [Act.put, List.setIfInBounds_toArray, List.set_cons_zero, List.set_cons_succ])
      clear hj1 hj2 hj3 hj4 hj5
      (with_reducible refine append_cx ?_ (.tmp 31) (.tmp 44) ?_ w1.heap.size u6 k (prs ts k) ?_ ?_ wr.heap.size 1 (x, y) ?_ ?_ ?_ ?_ ?_)
      · rfl
      · rfl
      · rfl
      · first | exact (HO.out.alloc _) | exact (World.ownsRow.alloc (w := wr.drew) HO.out _)
      · rfl
      · exact (show Blk (wr.alloc (Obj.cells #[.complex .f64 x y] 64)).drew wr.heap.size 64 #[.complex .f64 x y] from (heap_at rfl : (wr.alloc _).heap[wr.heap.size]? = some _)).cell 0
      · omega
      · simp; omega
      intro v1 w5 ho hb5
      have HB5 : Below w1.heap.size w1 w5 := (show Below w1.heap.size w1 (wr.alloc (Obj.cells #[.complex .f64 x y] 64)).drew by go_grown).trans hb5
      clear hb5
      go_wp2_with fail
      go_roundw
      case rel => exact ⟨k + 1, by have := HJ.out j HJ2.out; omega, by rw [← HJ.out j HJ2.out]; go_num, by rw [HT.out]; exact ho.out, HB5⟩
      case measure => simp [intOf]; omega
    · obtain ⟨a0, c0, rfl, hzl, hrd⟩ := own_rdc HO.out
      have HZL := Lib.hid hzl
      have HRD := Lib.hid hrd
      have HMr := Lib.hid (HM.out.keep hB.size (hB.block _ HM.out.2.2.1))
      have hk40 : k ≤ 20 := by omega
      have hge1 : ¬ (2 * (k : Int) + 1 < m) := by omega
      have hw2 : IntKind.i64.wrap (2 * (k : Int) + 1) = 2 * (k : Int) + 1 := by rw [IntKind.wrap_i64]; omega
      clear hzl hrd HO HPR HM
      generalize prs ts k = zs at *
      go_wp2_with fail
      clear hw2
      refine (tones_any _ _ n _ k _ l zs _ HL.out (by omega) HZL.out (by omega) HMr.out.rd HRD.out).mono ?_
      rintro en w2 ⟨v, os, rfl, hol, hT, hO, hb⟩
      obtain ⟨a2, c2, rfl, _, hrd2⟩ := own_rdc hO
      have HOL := Lib.hid hol
      have HT := Lib.hid hT
      have HRD2 := Lib.hid hrd2
      have HRDz := Lib.hid ((HRD.out.below hb).more hb.size)
      have HM2 := Lib.hid (HMr.out.keep hb.size (hb.block _ HMr.out.2.2.1))
      have HB2 := Lib.hid (bnext HBk.out hb)
      clear hol hT hO hrd2 hb HRD HMr hB HBk hge hge1
      obtain ⟨wo, hwo⟩ : ∃ x : World, x = wr := ⟨_, rfl⟩
      subst hwo
      go_wp2_with fail
      go_loopw [9] (fun i wr => ∃ j : Nat, j ≤ k ∧ i = .int .i64 j ∧ Below w2.heap.size w2 wr) (fun i _ => k - (intOf i).toNat)
      case atStart => exact ⟨0, Nat.zero_le _, rfl, by go_grown⟩
      case round =>
        obtain ⟨j, hj, rfl, hB⟩ := hrel
        have hszr := hB.size
        rcases Nat.lt_or_ge j k with hlt | hge
        · rcases HRDz.out with hz | ⟨b, off, rfl, hb, hc⟩
          · exact absurd hz (cx_ne HZL.out (by omega))
          rcases HRD2.out with ht | ⟨b2, off2, rfl, hb2, hc2⟩
          · exact absurd ht (cx_ne HOL.out (by omega))
          obtain ⟨z, hz⟩ : ∃ z, zs[j]? = some z := ⟨_, List.getElem?_eq_getElem (by rw [HZL.out]; exact hlt)⟩
          obtain ⟨o, ho⟩ : ∃ z, os[j]? = some z := ⟨_, List.getElem?_eq_getElem (by rw [HOL.out]; exact hlt)⟩
          have HTj := Lib.hid (HT.out j z o hz ho)
          have HZj := Lib.hid hz
          have HOj := Lib.hid ho
          have HC := Lib.hid hc
          have HC2 := Lib.hid hc2
          have ez := cx_at hb hB hc hz
          have qb : b < wr.heap.size := Nat.lt_of_lt_of_le hb hszr
          have HMw := Lib.hid (HM2.out.keep hB.size (hB.block _ HM2.out.2.2.1))
          clear hz ho hc hc2
          go_wp2_with fail
          (refine region_keep (fun b => b < wr.heap.size) 16 [(0, true), (1, true), (2, true), (3, true), (4, true), (5, true), (6, true), (7, true), (8, true), (9, true), (10, true), (11, false), (12, true), (13, true), (14, true), (15, true)] (by kernel_rfl) (fun _ _ d _ _ h => by cases d <;> exact h) (by kernel_rfl) ?_; simp only [withOps, List.getElem?_toArray, List.getElem?_cons_zero, List.getElem?_cons_succ, List.drop_succ_cons, List.drop_zero])
          (iterate 11 (refine keep_quiet (v := ?_) rfl ?_ ?_; rotate_left; (focus (intro w' hw'; go_simp; (try with_reducible rfl); done)); try simp only [Act.put, List.setIfInBounds_toArray, List.set_cons_zero, List.set_cons_succ]))
          (with_reducible refine plan_loud (fun K hK => ?_))
          go_simp
          refine (refTone_any _ n _ _ _ l wr.drew HL.out (by omega) (show Rd wr.drew wr.drew.heap.size _ _ from HMw.out.rd)).mono ?_
          rintro en w3 ⟨u, v, hT1, rfl, hb3⟩
          refine hK _ _ ((Keep.refl _ _).below hb3 (by intro x h; simpa using h)) ?_
          clear hK K
          have HT1 := Lib.hid hT1
          have hB3 : Below w2.heap.size w2 w3 := (hB.drew).trans (Below.mono hb3 hszr)
          clear hT1 hb3 ez
          (repeat (refine keep_quiet (v := ?_) rfl ?_ ?_; rotate_left; (focus (intro w' hw'; go_simp; (try with_reducible rfl); done)); try simp only [Act.put, List.setIfInBounds_toArray, List.set_cons_zero, List.set_cons_succ]))
          (with_reducible refine plan_end ?_)
          (try simp only [Act.put, List.setIfInBounds_toArray, List.set_cons_zero, List.set_cons_succ])
          have ez := cx_at hb hB3 HC.out HZj.out
          have HMw := Lib.hid (HM2.out.keep hB3.size (hB3.block _ HM2.out.2.2.1))
          have hsz3 := hB3.size
          go_wp2_with fail
          refine (tone_any _ n _ _ _ l _ HL.out (by omega) HMw.out.rd).mono ?_
          rintro en w4 ⟨u', v', hT2, rfl, hb4⟩
          have HT2 := Lib.hid hT2
          have hB4 : Below w2.heap.size w2 w4 := hB3.trans (Below.mono hb4 hsz3)
          have HQ1 := Lib.hid (HTj.out.congr HT1.out)
          have HQ2 := Lib.hid (HT2.out.congr HT1.out)
          clear hT2 hb4 ez
          have eo := cx_at hb2 hB4 HC2.out HOj.out
          have HB4 := Lib.hid hB4
          go_wp2_with fail
          refine (alike_any _ _ HQ1.out.1 _).mono ?_
          rintro en w_ ⟨rfl, hw_⟩
          obtain rfl : w4 = w_ := hw_.symm
          go_wp2_with fail
          refine (alike_any _ _ HQ1.out.2 _).mono ?_
          rintro en w_ ⟨rfl, hw_⟩
          obtain rfl : w4 = w_ := hw_.symm
          go_wp2_with fail
          refine (alike_any _ _ HQ2.out.1 _).mono ?_
          rintro en w_ ⟨rfl, hw_⟩
          obtain rfl : w4 = w_ := hw_.symm
          go_wp2_with fail
          refine (alike_any _ _ HQ2.out.2 _).mono ?_
          rintro en w_ ⟨rfl, hw_⟩
          obtain rfl : w4 = w_ := hw_.symm
          go_wp2_with fail
          go_roundw
          case rel => exact ⟨j + 1, by omega, by go_num, HB4.out⟩
          case measure => simp [intOf]; omega
        · have HMw := Lib.hid (HM2.out.keep hB.size (hB.block _ HM2.out.2.2.1))
          have HBw := Lib.hid (bnext HB2.out hB)
          go_wp2_with fail
          refine (kept_any g n c _ _ l _ (by omega) HMw.out ((HR.out.below HBw.out).more HBw.out.size)).mono ?_
          rintro en w3 ⟨rfl, hb⟩
          have HB3 := Lib.hid (bnext HBw.out hb)
          clear hb
          go_wp2_with fail
          refine (known_any _).mono ?_
          rintro en w4 ⟨rfl, hb⟩
          have HB4 := bnext HB3.out hb
          clear hb
          go_wp2_with fail
          go_returns
          exact ⟨rfl, HB4⟩
end Go.Proofs.Ytbkofiflfcfjfaa
