/- SeriesLine: the walk. -/
import Derived.Test.YtbkofiflfcfjfaaSeS
import Derived.Test.YtbkofiflfcfjfaaSeQ
set_option linter.unusedSimpArgs false
set_option linter.unusedVariables false
namespace Go.Proofs.Ytbkofiflfcfjfaa
open Go.RowKit Go.Kp Go.Ser
attribute [local go_sem] store_float

theorem own_rdp {w : World} {base n : Nat} {v : Value} {xs : List (Nat × Nat)} (h : w.ownsRow base 29 2 v n (pts xs)) : ∃ a cap, v = .slice a n cap ∧ xs.length = n ∧ (a = none → cap = 0) ∧ Rd w w.heap.size a (pts xs) := by
  have h2 : (pts xs).length = xs.length * 2 := flat_length (fun p : Nat × Nat => [Value.float .f64 p.1, .float .f64 p.2]) 2 (fun _ => rfl) xs
  have hl : xs.length = n := by have := h.1; omega
  rcases h.2 with ⟨h', rfl⟩ | ⟨g, cap, cur, h1, h2, h3, h4⟩
  · exact ⟨none, 0, h', hl, fun _ => rfl, .inl (by rw [List.eq_nil_of_length_eq_zero hl]; rfl)⟩
  · refine ⟨some ⟨g, 0, none⟩, cap, h1, hl, fun h => (by cases h), ?_⟩
    have hg : g < w.heap.size := Blk.lt (t := 29) (cs := cur) h3
    refine .inr ⟨g, 0, rfl, hg, fun j u hu => ?_⟩
    rw [Nat.zero_add]
    subst h1
    exact (World.ownsRow.cellAt h j (by have := (List.getElem?_eq_some_iff.1 hu).1; omega)).trans hu

/-- Both rows of bits, as points. -/
def zips (xs ys : List Nat) (k : Nat) : List (Nat × Nat) := (xs.zip ys).take k
theorem zips_next {xs ys : List Nat} {k x y : Nat} (hx : xs[k]? = some x) (hy : ys[k]? = some y) : zips xs ys (k + 1) = zips xs ys k ++ [(x, y)] := by
  unfold zips
  rw [List.take_add_one, (List.getElem?_zip_eq_some (z := (x, y))).2 ⟨hx, hy⟩]
  rfl

set_option maxRecDepth 100000 in
set_option maxHeartbeats 8000000 in
theorem lineL_any (a a' : Option Addr) (n n' cap cap' : Nat) (xs ys : List Nat) (w : World) (hl : xs.length = n) (hl' : ys.length = n') (hn : n ≤ 9223372036854775807) (hn' : n' ≤ 9223372036854775807) (hr : Rd w w.heap.size a (us xs)) (hr' : Rd w w.heap.size a' (us ys)) :
    Calls Try.prog 3 #[.slice a n cap, .slice a' n' cap'] w (Ret (.bool true) w) := by
  have hF := frombits
  have HL := Lib.hid hl
  have HR := Lib.hid hr
  have HL' := Lib.hid hl'
  have HR' := Lib.hid hr'
  clear hl hr hl' hr'
  rcases Nat.lt_or_ge 500 n with h500 | h500
  · go_enter Try.func3, Try.ntmps3
    go_wp2_with fail
    refine (known_any _).mono ?_
    rintro en w1 ⟨rfl, hb1⟩
    go_wp2_with fail
    go_returns
    exact ⟨rfl, hb1⟩
  rcases Nat.lt_or_ge 500 n' with h501 | h501
  · go_enter Try.func3, Try.ntmps3
    go_wp2_with fail
    refine (known_any _).mono ?_
    rintro en w1 ⟨rfl, hb1⟩
    go_wp2_with fail
    go_returns
    exact ⟨rfl, hb1⟩
  clear hn hn'
  go_enter Try.func3, Try.ntmps3
  go_wp2_with fail
  go_loopw [5, 6] (fun v i wr => ∃ k : Nat, k ≤ n ∧ k ≤ n' ∧ i = .int .i64 k ∧ wr.ownsRow w.heap.size 29 2 v k (pts (zips xs ys k)) ∧ Below w.heap.size w wr) (fun _ i _ => n - (intOf i).toNat)
  case atStart => exact ⟨0, Nat.zero_le _, Nat.zero_le _, rfl, World.ownsRow_nil _ _ _ _, by go_grown⟩
  case round =>
    obtain ⟨k, hk, hk', rfl, hO, hB⟩ := hrel
    have HO := Lib.hid hO
    clear hO
    have hsz := hB.size
    rcases Classical.em (k < n ∧ k < n') with ⟨hlt, hlt'⟩ | hge
    · rcases HR.out with hr | ⟨b, off, rfl, hb, hc⟩
      · exact absurd hr (us_ne HL.out (by omega))
      rcases HR'.out with hr' | ⟨b', off', rfl, hb', hc'⟩
      · exact absurd hr' (us_ne HL'.out (by omega))
      obtain ⟨x, hx⟩ := some_at HL.out hlt
      obtain ⟨y, hy⟩ := some_at HL'.out hlt'
      have e := us_at hb hB hc hx
      have e' := us_at hb' hB hc' hy
      have HT := Lib.hid (zips_next hx hy)
      have qb : b < wr.heap.size := Nat.lt_of_lt_of_le hb hsz
      have qb' : b' < wr.heap.size := Nat.lt_of_lt_of_le hb' hsz
      clear hx hy hc hc'
      go_wp2_with fail
      (refine region_keep (fun b => b < wr.heap.size) 13 [(0, true), (1, true), (2, true), (3, true), (4, true), (5, true), (6, true), (7, true), (8, true), (9, true), (10, true), (11, true), (12, false)] (by kernel_rfl) (fun _ _ d _ _ h => by cases d <;> exact h) (by kernel_rfl) ?_; simp only [withOps, List.getElem?_toArray, List.getElem?_cons_zero, List.getElem?_cons_succ, List.drop_succ_cons, List.drop_zero])
      (iterate 12 (refine keep_quiet (v := ?_) rfl ?_ ?_; rotate_left; (focus (intro w' hw'; go_simp; (try with_reducible rfl); done)); try simp only [Act.put, List.setIfInBounds_toArray, List.set_cons_zero, List.set_cons_succ]))
      (with_reducible refine plan_loud (fun K hK => ?_))
      go_simp
      refine hK _ _ ?_ ?_
      · intro x hx; exact heap_old hx
      clear hK K
      (with_reducible refine plan_end ?_)
      (try simp only [Act.put, List.setIfInBounds_toArray, List.set_cons_zero, List.set_cons_succ])
      (with_reducible refine append_pt ?_ (.tmp 34) (.tmp 46) ?_ w.heap.size u5 k (zips xs ys k) ?_ ?_ wr.heap.size 1 (x, y) ?_ ?_ ?_ ?_ ?_ ?_)
      · rfl
      · rfl
      · rfl
      · first | exact (HO.out.alloc _) | exact (World.ownsRow.alloc (w := wr.drew) HO.out _)
      · rfl
      · exact (show Blk (wr.alloc (Obj.cells #[.float .f64 x, .float .f64 y] 29)).drew wr.heap.size 29 #[.float .f64 x, .float .f64 y] from (heap_at rfl : (wr.alloc _).heap[wr.heap.size]? = some _)).cell 0
      · exact (show Blk (wr.alloc (Obj.cells #[.float .f64 x, .float .f64 y] 29)).drew wr.heap.size 29 #[.float .f64 x, .float .f64 y] from (heap_at rfl : (wr.alloc _).heap[wr.heap.size]? = some _)).cell 1
      · omega
      · simp; omega
      intro v1 w5 ho hb5
      have HB5 : Below w.heap.size w w5 := (show Below w.heap.size w (wr.alloc (Obj.cells #[.float .f64 x, .float .f64 y] 29)).drew by go_grown).trans hb5
      clear hb5
      go_wp2_with fail
      go_roundw
      case rel => exact ⟨k + 1, by omega, by omega, by go_num, by rw [HT.out]; exact ho.out, HB5⟩
      case measure => simp [intOf]; omega
    · obtain ⟨a0, c0, rfl, hzl, hz0, hrd⟩ := own_rdp HO.out
      have HZL := Lib.hid hzl
      have HRD := Lib.hid hrd
      have HZ0 := Lib.hid hz0
      clear hzl hz0 hrd HO HR HR'
      have hend : (k < n ∧ n' ≤ k) ∨ n ≤ k := by omega
      clear hge
      generalize zips xs ys k = l at *
      have eo : FloatKind.f64.format.order 4661386143026118656 4661386143026118656 = some .eq := order_self (by unfold nanP; decide +kernel)
      have EO := Lib.hid eo
      clear eo
      have hk5 : k ≤ 500 := by omega
      rcases hend with ⟨hlt, hge⟩ | hge
      all_goals
        go_upto_region 8 with (fail)
        apply wp_region_lit
        iterate 1 (go_step; go_step; rename_i KK hKK; (with_reducible refine hKK _ _ ?_); clear hKK KK)
        (with_reducible refine append_pts ?_ (.const (.slice none 0 0)) (.tmp 48) ?_ ?_ a0 k c0 l ?_ HZL.out HZ0.out HRD.out ?_ ?_)
        · rfl
        · rfl
        · rfl
        · rfl
        · omega
        intro v1 w2 ho1 hb1
        have HB2 := Lib.hid (bnext hB hb1)
        have HRD2 := Lib.hid ((HRD.out.below hb1).more hb1.size)
        have HSZ2 : wr.heap.size ≤ w2.heap.size := hb1.size
        clear hb1
        iterate 2 (go_step; go_step; rename_i KK hKK; (with_reducible refine hKK _ _ ?_); clear hKK KK)
        (with_reducible refine append_pt ?_ (.tmp 49) (.tmp 51) ?_ wr.heap.size v1 k l ?_ (ho1.out.alloc _) w2.heap.size 1 (4661386143026118656, 0) ?_ ?_ ?_ ?_ ?_ ?_)
        · rfl
        · rfl
        · rfl
        · rfl
        · rw [cell_of_row _ _ _ _ _ _ (heap_at rfl)]; rfl
        · rw [cell_of_row _ _ _ _ _ _ (heap_at rfl)]; rfl
        · omega
        · simp; omega
        intro v2 w3 ho2 hb2
        obtain ⟨g, c, rfl, hg1, hg2⟩ := World.ownsRow.form ho2.out (by omega)
        have hcc : k + 1 ≤ c := by
          rcases ho2.out.2 with ⟨h, _⟩ | ⟨_, _, _, h, _, _, h2, _⟩
          · cases h
          · cases h; exact h2
        have hlen : (pts l).length = k * 2 := by rw [show (pts l).length = l.length * 2 from flat_length (fun p : Nat × Nat => [Value.float .f64 p.1, .float .f64 p.2]) 2 (fun _ => rfl) l, HZL.out]
        have HG : Hid (∀ (j : Nat) u, (pts (l ++ [(4661386143026118656, 0)]))[j]? = some u → w3.cell? ⟨g, j, none⟩ = some u) := Lib.hid fun j u hu => (ho2.out.cellAt j (by have := (List.getElem?_eq_some_iff.1 hu).1; rw [show pts (l ++ [(4661386143026118656, 0)]) = pts l ++ pts [(4661386143026118656, 0)] from List.flatMap_append, List.length_append, hlen] at this; simp at this; omega)).trans hu
        have HMk : Hid (w3.cell? ⟨g, k * 2, none⟩ = some (.float .f64 4661386143026118656)) := Lib.hid (HG.out (k * 2) _ (by rw [show pts (l ++ [(4661386143026118656, 0)]) = pts l ++ pts [(4661386143026118656, 0)] from List.flatMap_append, List.getElem?_append_right (by omega), hlen]; simp))
        have HM : Hid (Rd w3 w3.heap.size (some ⟨g, 0, none⟩) (pts l)) := Lib.hid (.inr ⟨g, 0, rfl, hg2, fun j u hu => by
          rw [Nat.zero_add]
          exact HG.out j u (by rw [show pts (l ++ [(4661386143026118656, 0)]) = pts l ++ pts [(4661386143026118656, 0)] from List.flatMap_append, List.getElem?_append_left (List.getElem?_eq_some_iff.1 hu).1]; exact hu)⟩)
        have hb23 : Below wr.heap.size w2 w3 := (show Below wr.heap.size w2 (w2.alloc (Obj.cells #[.float .f64 4661386143026118656, .float .f64 0] 29)) by go_grown).trans hb2
        have HB3 := Lib.hid (HB2.out.trans (hb23.mono hB.size))
        have hs3 := hb23.size
        have HRD3 : Hid (Rd w3 w3.heap.size a0 (pts l)) := Lib.hid (by
          rcases HRD.out with h | ⟨b0, off0, h1, h2, h3⟩
          · exact .inl h
          · rcases HRD2.out with h' | ⟨b1, off1, h1', h2', h3'⟩
            · exact .inl h'
            · rw [h1] at h1'
              cases h1'
              exact .inr ⟨b0, off0, h1, by omega, fun j u hu => (hb23.cell (p := ⟨b0, off0 + j, none⟩) h2).trans (h3' j u hu)⟩)
        clear ho1 ho2 hb2 hb23 hlen HG HRD HRD2
        go_wp2_with fail
        refine (line_any _ k _ l _ HZL.out (by omega) HM.out).mono ?_
        rintro en w4 ⟨sl, st, mn, sp, hL, rfl, hb⟩
        have HL1 := Lib.hid hL
        have HB4 := Lib.hid (bnext HB3.out hb)
        have HM4 := Lib.hid ((HM.out.below hb).more hb.size)
        have HMk4 := Lib.hid ((hb.cell (p := ⟨g, k * 2, none⟩) hg2).trans HMk.out)
        have HRD4 := Lib.hid ((HRD3.out.below hb).more hb.size)
        have hg4 : g < w4.heap.size := Nat.lt_of_lt_of_le hg2 hb.size
        unfold trend
        clear hL hb HM HMk HRD3
        go_upto_region 10 with (fail)
        refine wp_at (fun Z => Blk Z w4.heap.size 31 #[.int .i64 k, .float .f64 sl, .float .f64 st, .float .f64 mn, .float .f64 sp] ∧ Below w4.heap.size w4 Z) ⟨?_, by go_grown⟩ ?_
        · go_simp; try (exact heap_at rfl)
        rintro w5 ⟨TB, hb5⟩
        have HRD5 := Lib.hid ((HRD4.out.below hb5).more hb5.size)
        have HTB := Lib.hid TB
        have H45 := Lib.hid hb5
        have HS45 := Lib.hid TB.lt
        clear TB hb5
        go_wp2_with fail
        refine (refLine_any _ k _ l _ HZL.out (by omega) HRD5.out).mono ?_
        rintro en w6 ⟨sl', st', mn', sp', hL, rfl, hb⟩
        have HQ := Lib.hid (HL1.out.congr hL)
        unfold trend
        have H46 := Lib.hid (H45.out.trans (hb.mono H45.out.size))
        have HTB6 := Lib.hid (HTB.out.below hb)
        have HRD6 := Lib.hid ((HRD5.out.below hb).more hb.size)
        clear hL hb HTB
        go_upto_region 11 with (fail)
        refine wp_at (fun Z => Blk Z w6.heap.size 31 #[.int .i64 k, .float .f64 sl', .float .f64 st', .float .f64 mn', .float .f64 sp'] ∧ Below w6.heap.size w6 Z) ⟨?_, by go_grown⟩ ?_
        · go_simp; try (exact heap_at rfl)
        rintro w7 ⟨TB7, hb7⟩
        have TA7 := HTB6.out.below hb7
        have H47 := Lib.hid (H46.out.trans (hb7.mono H46.out.size))
        have HRD7 := Lib.hid ((HRD6.out.below hb7).more hb7.size)
        have HB7 := Lib.hid (bnext HB4.out H47.out)
        have HM7 := Lib.hid ((HM4.out.below H47.out).more H47.out.size)
        have hmk := (H47.out.cell (p := ⟨g, k * 2, none⟩) hg4).trans HMk4.out
        have ca := TA7.cell
        have cb := TB7.cell
        have la := TA7.lt
        have lb := TB7.lt
        clear TB7 TA7 hb7
        go_wp2_with fail
        refine (alike_any _ _ HQ.out.1 _).mono ?_
        rintro en w_ ⟨rfl, hw_⟩
        obtain rfl : w7 = w_ := hw_.symm
        go_wp2_with fail
        refine (alike_any _ _ HQ.out.2.1 _).mono ?_
        rintro en w_ ⟨rfl, hw_⟩
        obtain rfl : w7 = w_ := hw_.symm
        go_wp2_with fail
        refine (alike_any _ _ HQ.out.2.2.1 _).mono ?_
        rintro en w_ ⟨rfl, hw_⟩
        obtain rfl : w7 = w_ := hw_.symm
        go_wp2_with fail
        refine (alike_any _ _ HQ.out.2.2.2 _).mono ?_
        rintro en w_ ⟨rfl, hw_⟩
        obtain rfl : w7 = w_ := hw_.symm
        go_wp2_with fail
        refine (samePoints_any _ _ k _ _ l l _ HZL.out (PtsQ.refl l) (by omega) HM7.out HRD7.out).mono ?_
        rintro en w8 ⟨rfl, hb⟩
        have hg7 : g < w7.heap.size := Nat.lt_of_lt_of_le hg4 H47.out.size
        have hmk8 := (hb.cell (p := ⟨g, k * 2, none⟩) hg7).trans hmk
        have HB8 := Lib.hid (bnext HB7.out hb)
        have eo := EO.out
        clear hb hmk ca cb la lb
        go_wp2_with fail
        refine (known_any _).mono ?_
        rintro en w9 ⟨rfl, hb⟩
        have HB9 := bnext HB8.out hb
        clear hb
        go_wp2_with fail
        go_returns
        exact ⟨rfl, HB9⟩
end Go.Proofs.Ytbkofiflfcfjfaa
