/- Series: the line through points, of the program. -/
import Derived.Test.YtbkofiflfcfjfaaSeK
import Derived.Lib.SmallJoins
set_option linter.unusedSimpArgs false
set_option linter.unusedVariables false
namespace Go.Proofs.Ytbkofiflfcfjfaa
open Go.RowKit Go.Kp Go.Ser
attribute [local go_sem] store_float

set_option maxHeartbeats 1000000 in
theorem line_none (a : Option Addr) (cap : Nat) (w : World) : Calls Try.prog 11 #[.slice a 0 cap] w (TrendR [] 0 w) := by
  go_enter Try.func11, Try.ntmps11
  go_wp2
  refine bodyPost_ret (v := trend 0 0 0 0 0 400) (by simp [results, Try.results11, go_sem, trend]; done) rfl ⟨0, 0, 0, 0, ⟨rfl, rfl, rfl, rfl⟩, rfl, by go_grown⟩

set_option maxHeartbeats 4000000 in
theorem line_some (a : Option Addr) (n cap : Nat) (l : List (Nat × Nat)) (w : World) (hl : l.length = n) (hn0 : 0 < n) (hn : n ≤ 1048576) (hr : Rd w w.heap.size a (pts l)) :
    Calls Try.prog 11 #[.slice a n cap] w (TrendR l n w) := by
  obtain ⟨hnp⟩ : Nonempty (n ≤ 4611686018427387904) := ⟨by omega⟩
  rcases hr with hr | ⟨b, off, rfl, hb, hc⟩
  · exact absurd hr (pts_ne hl hn0)
  have HC := Lib.hid hc
  have HL := Lib.hid hl
  have hq0 : ((n : Int) == 0) = false := by simp; omega
  clear hl hc
  go_enter Try.func11, Try.ntmps11
  go_upto_region 4 with (fail)
  refine wp_at (fun w1 => Blk w1 w.heap.size 31 #[.int .i64 0, .float .f64 0, .float .f64 0, .float .f64 0, .float .f64 0] ∧ Below w.heap.size w w1) ⟨heap_at rfl, by go_grown⟩ ?_
  rintro w1 ⟨A, hB1⟩
  have lA := A.lt
  have hs1 := hB1.size
  go_wp2
  go_loopw [4, 5, 19] (fun x y i wr => ∃ k : Nat, k ≤ n ∧ i = .int .i64 k ∧ Two w1.heap.size w1 wr x y k k ((l.take k).map Prod.fst) ((l.take k).map Prod.snd)) (fun _ _ i _ => n - (intOf i).toNat)
  case atStart => exact ⟨0, Nat.zero_le _, rfl, World.ownsRow_nil _ _ _ _, World.ownsRow_nil _ _ _ _, (fun g h => by simp [Value.ownBlock] at h), Below.refl _ _, Nat.le_refl _⟩
  case round =>
    obtain ⟨k, hk, rfl, hT⟩ := hrel
    have HT := Lib.hid hT
    have hB := hT.2.2.2.1
    have hsz := hT.2.2.2.2
    clear hT
    rcases Nat.lt_or_ge k n with hlt | hge
    · obtain ⟨p, hp⟩ : ∃ p, l[k]? = some p := ⟨_, List.getElem?_eq_getElem (by rw [HL.out]; exact hlt)⟩
      obtain ⟨e1, e2⟩ := pts_at hb (hB1.trans (hB.mono hs1)) HC.out hp
      have HP := Lib.hid (take_pts hp)
      clear hp
      go_upto_region 7 with (fail)
      refine wp_at (fun wc => Blk wc wr.heap.size 29 #[.float .f64 p.1, .float .f64 p.2] ∧ Two w1.heap.size w1 wc u4 u5 k k ((l.take k).map Prod.fst) ((l.take k).map Prod.snd)) ⟨heap_at (by simp), HT.out.alloc _⟩ ?_
      rintro wc ⟨hP, T0⟩
      have NB1 : ∀ g, u4.ownBlock = some g → g < wr.heap.size := fun g hg => (HT.out.1.lt g hg).2
      have NB2 : ∀ g, u5.ownBlock = some g → g < wr.heap.size := fun g hg => (HT.out.2.1.lt g hg).2
      have cP := hP.cell
      have lP := hP.lt
      clear hP
      (refine region_tree (Keep (fun x => x = wr.heap.size)) (Keep.refl _) Keep.trans 9 (.seq [(0, true), (1, true), (2, true), (5, true), (6, true), (7, true)] (.fork 3 8 (.fork 4 8 (.seq [(8, false)] .fin) (.seq [(4, false)] .fin)) (.seq [(3, false), (4, false)] .fin))) (by kernel_rfl) (fun _ _ d _ _ h => by cases d <;> exact h) (by kernel_rfl) ?_)
      ((with_reducible refine tree_seq ?_); simp only [withOps, List.getElem?_toArray, List.getElem?_cons_zero, List.getElem?_cons_succ])
      (iterate 6 (refine keep_quiet (v := ?_) rfl ?_ ?_; rotate_left; (focus (intro w' hw'; go_simp; (try with_reducible rfl); done)); try simp only [Act.put, List.setIfInBounds_toArray, List.set_cons_zero, List.set_cons_succ]))
      (with_reducible refine plan_end ?_)
      (try simp only [Act.put, List.setIfInBounds_toArray, List.set_cons_zero, List.set_cons_succ])
      clear cP
      refine tree_fork ?_ ?_
      · (simp only [withOps, List.getElem?_toArray, List.getElem?_cons_zero, List.getElem?_cons_succ])
        (try simp only [Act.put, List.setIfInBounds_toArray, List.set_cons_zero, List.set_cons_succ])
        (with_reducible refine plan_loud (fun K hK => ?_))
        go_simp
        refine hK _ _ ?_ ?_
        · intro x hx; subst hx; exact heap_old (by exact lP)
        clear hK K
        (with_reducible refine plan_at (fun Z => Blk Z wc.heap.size 25 #[.float .f64 p.1] ∧ Two w1.heap.size w1 Z u4 u5 k k ((l.take k).map Prod.fst) ((l.take k).map Prod.snd) ∧ wc.heap.size < Z.heap.size) ?_ ?_)
        · exact ⟨heap_at rfl, T0.drew.alloc _, by simp⟩
        intro y1 hy1
        have B1 := hy1.1
        have T1 := hy1.2.1
        have s1 := hy1.2.2
        clear hy1
        (with_reducible refine plan_end ?_)
        (try simp only [Act.put, List.setIfInBounds_toArray, List.set_cons_zero, List.set_cons_succ])
        refine tree_fork ?_ ?_
        · (simp only [withOps, List.getElem?_toArray, List.getElem?_cons_zero, List.getElem?_cons_succ])
          (try simp only [Act.put, List.setIfInBounds_toArray, List.set_cons_zero, List.set_cons_succ])
          (with_reducible refine plan_loud_op ?_ (fun K hK => ?_))
          · rfl
          (with_reducible refine append_fl_op (.tmp 23) (.tmp 26) ?_ w1.heap.size u4 k _ ?_ T1.o1 wc.heap.size p.1 1 ?_ ?_ ?_ T1.le ?_)
          · rfl
          · rfl
          · rfl
          · exact B1.cell 0
          · omega
          intro v1 y3 ho hg hv
          refine hK _ _ ?_ ?_
          · intro x hx; subst hx; exact hg.out.block _ (by omega) (fun e => by have := NB1 _ e.symm; omega)
          clear hK K
          have T3 := T1.app1 ho.out hg.out hv.out
          have s3 : wc.heap.size < y3.heap.size := Nat.lt_of_lt_of_le s1 hg.out.size
          clear ho hg hv B1
          (with_reducible refine plan_end ?_)
          ((with_reducible refine tree_seq ?_); simp only [withOps, List.getElem?_toArray, List.getElem?_cons_zero, List.getElem?_cons_succ])
          (try simp only [Act.put, List.setIfInBounds_toArray, List.set_cons_zero, List.set_cons_succ])
          (with_reducible refine plan_loud (fun K hK => ?_))
          go_simp
          refine hK _ _ ?_ ?_
          · intro x hx; subst hx; exact heap_old (by omega)
          clear hK K
          ((with_reducible refine plan_end ?_); (with_reducible refine tree_fin ?_); simp only [List.drop_succ_cons, List.drop_zero]; (try simp only [Act.put, List.setIfInBounds_toArray, List.set_cons_zero, List.set_cons_succ]))
          (with_reducible refine list_at (fun Z => Blk Z y3.heap.size 25 #[.float .f64 p.2] ∧ Two w1.heap.size w1 Z v1 u5 (k + 1) k ((l.take k).map Prod.fst ++ [p.1]) ((l.take k).map Prod.snd)) ?_ ?_)
          · exact ⟨heap_at rfl, T3.alloc _⟩
          intro y4 hy4
          have B2 := hy4.1
          have T4 := hy4.2
          clear hy4
          (with_reducible refine append_fl2 ?_ (.tmp 28) (.tmp 31) ?_ w1.heap.size u5 k _ ?_ T4.o2 y3.heap.size p.2 1 ?_ ?_ ?_ T4.le ?_)
          · rfl
          · rfl
          · rfl
          · rfl
          · exact B2.cell 0
          · omega
          intro v2 y5 ho2 hg2 hv2
          have HT5 := Lib.hid (T4.app2 ho2.out hg2.out hv2.out)
          clear ho2 hg2 hv2
          go_wp2_with fail
          go_roundw
          case rel => exact ⟨k + 1, by omega, by go_num, by rw [HP.out.1, HP.out.2]; exact HT5.out⟩
          case measure => simp [intOf]; omega
        · (simp only [withOps, List.getElem?_toArray, List.getElem?_cons_zero, List.getElem?_cons_succ])
          (try simp only [Act.put, List.setIfInBounds_toArray, List.set_cons_zero, List.set_cons_succ])
          (with_reducible refine plan_loud (fun K hK => ?_))
          go_simp
          refine hK _ _ ?_ ?_
          · intro x hx; subst hx; exact heap_old (by omega)
          clear hK K
          (with_reducible refine plan_end ?_)
          ((with_reducible refine tree_seq ?_); simp only [withOps, List.getElem?_toArray, List.getElem?_cons_zero, List.getElem?_cons_succ])
          (try simp only [Act.put, List.setIfInBounds_toArray, List.set_cons_zero, List.set_cons_succ])
          (with_reducible refine plan_at (fun Z => Blk Z y1.heap.size 25 #[.float .f64 p.2] ∧ Blk Z wc.heap.size 25 #[.float .f64 p.1] ∧ Two w1.heap.size w1 Z u4 u5 k k ((l.take k).map Prod.fst) ((l.take k).map Prod.snd) ∧ y1.heap.size < Z.heap.size) ?_ ?_)
          · exact ⟨heap_at rfl, (heap_old B1.lt).trans B1, T1.alloc _, by simp⟩
          intro y2 hy2
          have B2 := hy2.1
          have B1 := hy2.2.1
          have T2 := hy2.2.2.1
          have s2 := hy2.2.2.2
          clear hy2
          (with_reducible refine plan_loud_op ?_ (fun K hK => ?_))
          · rfl
          (with_reducible refine append_fl_op (.tmp 23) (.tmp 26) ?_ w1.heap.size u4 k _ ?_ T2.o1 wc.heap.size p.1 1 ?_ ?_ ?_ T2.le ?_)
          · rfl
          · rfl
          · rfl
          · exact B1.cell 0
          · omega
          intro v1 y3 ho hg hv
          refine hK _ _ ?_ ?_
          · intro x hx; subst hx; exact hg.out.block _ (by omega) (fun e => by have := NB1 _ e.symm; omega)
          clear hK K
          have T3 := T2.app1 ho.out hg.out hv.out
          have B2 := B2.grown hg.out (fun e => by have := NB1 _ e.symm; omega)
          clear ho hg hv B1
          ((with_reducible refine plan_end ?_); (with_reducible refine tree_fin ?_); simp only [List.drop_succ_cons, List.drop_zero]; (try simp only [Act.put, List.setIfInBounds_toArray, List.set_cons_zero, List.set_cons_succ]))
          (with_reducible refine append_fl2 ?_ (.tmp 28) (.tmp 31) ?_ w1.heap.size u5 k _ ?_ T3.o2 y1.heap.size p.2 1 ?_ ?_ ?_ T3.le ?_)
          · rfl
          · rfl
          · rfl
          · rfl
          · exact B2.cell 0
          · omega
          intro v2 y5 ho2 hg2 hv2
          have HT5 := Lib.hid (T3.app2 ho2.out hg2.out hv2.out)
          clear ho2 hg2 hv2
          go_wp2_with fail
          go_roundw
          case rel => exact ⟨k + 1, by omega, by go_num, by rw [HP.out.1, HP.out.2]; exact HT5.out⟩
          case measure => simp [intOf]; omega
      · (simp only [withOps, List.getElem?_toArray, List.getElem?_cons_zero, List.getElem?_cons_succ])
        (try simp only [Act.put, List.setIfInBounds_toArray, List.set_cons_zero, List.set_cons_succ])
        (with_reducible refine plan_loud (fun K hK => ?_))
        go_simp
        refine hK _ _ ?_ ?_
        · intro x hx; subst hx; exact heap_old (by exact lP)
        clear hK K
        (with_reducible refine plan_end ?_)
        ((with_reducible refine tree_seq ?_); simp only [withOps, List.getElem?_toArray, List.getElem?_cons_zero, List.getElem?_cons_succ])
        (try simp only [Act.put, List.setIfInBounds_toArray, List.set_cons_zero, List.set_cons_succ])
        (with_reducible refine plan_at (fun Z => Blk Z wc.heap.size 25 #[.float .f64 p.2] ∧ Two w1.heap.size w1 Z u4 u5 k k ((l.take k).map Prod.fst) ((l.take k).map Prod.snd) ∧ wc.heap.size < Z.heap.size) ?_ ?_)
        · exact ⟨(heap_at rfl : (wc.alloc _).heap[wc.heap.size]? = some _), (T0.alloc _).drew, by simp⟩
        intro y1 hy1
        have B2 := hy1.1
        have T1 := hy1.2.1
        have s1 := hy1.2.2
        clear hy1
        (with_reducible refine plan_loud (fun K hK => ?_))
        go_simp
        refine hK _ _ ?_ ?_
        · intro x hx; subst hx; exact heap_old (by omega)
        clear hK K
        (try simp only [Act.put, List.setIfInBounds_toArray, List.set_cons_zero, List.set_cons_succ])
        (with_reducible refine plan_at (fun Z => Blk Z y1.heap.size 25 #[.float .f64 p.1] ∧ Blk Z wc.heap.size 25 #[.float .f64 p.2] ∧ Two w1.heap.size w1 Z u4 u5 k k ((l.take k).map Prod.fst) ((l.take k).map Prod.snd) ∧ y1.heap.size < Z.heap.size) ?_ ?_)
        · exact ⟨heap_at rfl, (heap_old B2.lt).trans B2, T1.alloc _, by simp⟩
        intro y2 hy2
        have B1 := hy2.1
        have B2 := hy2.2.1
        have T2 := hy2.2.2.1
        have s2 := hy2.2.2.2
        clear hy2
        (with_reducible refine plan_loud_op ?_ (fun K hK => ?_))
        · rfl
        (with_reducible refine append_fl_op (.tmp 23) (.tmp 26) ?_ w1.heap.size u4 k _ ?_ T2.o1 y1.heap.size p.1 1 ?_ ?_ ?_ T2.le ?_)
        · rfl
        · rfl
        · rfl
        · exact B1.cell 0
        · omega
        intro v1 y3 ho hg hv
        refine hK _ _ ?_ ?_
        · intro x hx; subst hx; exact hg.out.block _ (by omega) (fun e => by have := NB1 _ e.symm; omega)
        clear hK K
        have T3 := T2.app1 ho.out hg.out hv.out
        have B2 := B2.grown hg.out (fun e => by have := NB1 _ e.symm; omega)
        clear ho hg hv B1
        ((with_reducible refine plan_end ?_); (with_reducible refine tree_fin ?_); simp only [List.drop_succ_cons, List.drop_zero]; (try simp only [Act.put, List.setIfInBounds_toArray, List.set_cons_zero, List.set_cons_succ]))
        (with_reducible refine append_fl2 ?_ (.tmp 28) (.tmp 31) ?_ w1.heap.size u5 k _ ?_ T3.o2 wc.heap.size p.2 1 ?_ ?_ ?_ T3.le ?_)
        · rfl
        · rfl
        · rfl
        · rfl
        · exact B2.cell 0
        · omega
        intro v2 y5 ho2 hg2 hv2
        have HT5 := Lib.hid (T3.app2 ho2.out hg2.out hv2.out)
        clear ho2 hg2 hv2
        go_wp2_with fail
        go_roundw
        case rel => exact ⟨k + 1, by omega, by go_num, by rw [HP.out.1, HP.out.2]; exact HT5.out⟩
        case measure => simp [intOf]; omega
    · obtain rfl : k = n := by omega
      have T0 := HT.out
      rw [List.take_of_length_le (by rw [HL.out]; omega)] at T0
      obtain ⟨a4, c4, rfl, _, _, r4⟩ := own_rd T0.o1
      obtain ⟨a5, c5, rfl, _, _, r5⟩ := own_rd T0.o2
      have L4 : Hid ((l.map Prod.fst).length = k) := Lib.hid (by simp [HL.out])
      have L5 : Hid ((l.map Prod.snd).length = k) := Lib.hid (by simp [HL.out])
      have A0 : Blk wr w.heap.size 31 #[.int .i64 0, .float .f64 0, .float .f64 0, .float .f64 0, .float .f64 0] := Blk.below A hB
      have R4 := Lib.hid r4
      have R5 := Lib.hid r5
      have HBw := Lib.hid (hB1.trans (hB.mono hs1))
      have HA := Lib.hid A0
      have HLin : Hid (∀ sl st mn sp, LineR (l.map Prod.fst) (l.map Prod.snd) sl st mn sp → LinE l k sl st mn sp) := Lib.hid fun sl st mn sp h => by unfold LinE; rw [if_neg (by omega)]; exact h
      clear A T0 r4 r5 hB A0 HT HC hB1
      generalize l.map Prod.fst = xs at *
      generalize l.map Prod.snd = ys at *
      go_wp2_with fail
      refine (mean_any _ k _ xs _ L4.out (by omega) R4.out).mono ?_
      rintro en w2 ⟨ma, hMa, rfl, hb2⟩
      have Ma := Lib.hid hMa
      have R4 := Lib.hid ((R4.out.below hb2).more hb2.size)
      have R5 := Lib.hid ((R5.out.below hb2).more hb2.size)
      have HB2 := Lib.hid (bnext HBw.out hb2)
      have HA := Lib.hid (HA.out.below hb2)
      clear hMa hb2
      go_wp2_with fail
      refine (mean_any _ k _ ys _ L5.out (by omega) R5.out).mono ?_
      rintro en w3 ⟨mb, hMb, rfl, hb3⟩
      have Mb := Lib.hid hMb
      have R4 := Lib.hid ((R4.out.below hb3).more hb3.size)
      have R5 := Lib.hid ((R5.out.below hb3).more hb3.size)
      have HB3 := Lib.hid (bnext HB2.out hb3)
      have HA := Lib.hid (HA.out.below hb3)
      clear hMb hb3
      go_wp2_with fail
      refine (around_any _ _ k _ _ ma ma xs xs _ L4.out L4.out (by omega) R4.out R4.out).mono ?_
      rintro en w4 ⟨p, hp, rfl, hb4⟩
      have Hp := Lib.hid hp
      have R4 := Lib.hid ((R4.out.below hb4).more hb4.size)
      have R5 := Lib.hid ((R5.out.below hb4).more hb4.size)
      have HB4 := Lib.hid (bnext HB3.out hb4)
      have HA := Lib.hid (HA.out.below hb4)
      clear hp hb4
      go_wp2_with fail
      refine (around_any _ _ k _ _ ma mb xs ys _ L4.out L5.out (by omega) R4.out R5.out).mono ?_
      rintro en w5 ⟨q, hq, rfl, hb5⟩
      have Hq := Lib.hid hq
      have R5 := Lib.hid ((R5.out.below hb5).more hb5.size)
      have HB5 := Lib.hid (bnext HB4.out hb5)
      have HA := Lib.hid (HA.out.below hb5)
      clear hq hb5 R4
      go_upto_region 12 with (fail)
      have HAT : Hid (w.heap.size < w5.heap.size) := Lib.hid HA.out.lt
      have HSW : Hid (w.heap.size ≤ w.heap.size) := Lib.hid (Nat.le_refl _)
      refine wp_at (fun Z => Blk Z w5.heap.size 31 #[.int .i64 k, .float .f64 0, .float .f64 0, .float .f64 mb, .float .f64 0] ∧ Below w5.heap.size w5 Z) ⟨?_, by go_grown⟩ ?_
      · go_simp; try (exact heap_at rfl)
      rintro w6 ⟨TB, hb6⟩
      have lT := TB.lt
      generalize w5.heap.size = T at *
      have HLn : Hid (∀ sl st x sp, SlopeR p q sl → Res .mul sl ma x → Res .sub mb x st → SpreadR ys sp → LinE l k sl st mb sp) := Lib.hid fun sl st x sp h1 h2 h3 h4 => HLin.out sl st mb sp ⟨ma, p, q, x, Ma.out, Mb.out, Hp.out, Hq.out, h1, h2, h3, h4⟩
      rcases Classical.em (FloatKind.f64.format.order p 0 = some .eq) with h0 | h0
      · obtain ⟨sl, hsl⟩ : ∃ sl : Nat, sl = 0 := ⟨0, rfl⟩
        have HSl : Hid (SlopeR p q sl) := Lib.hid (by unfold SlopeR; rw [if_pos h0]; exact hsl)
        have cT := TB.cell
        have fT := TB.free
        go_upto_region 14 with (fail)
        (with_reducible refine wp_at (fun Z => Blk Z T 31 #[.int .i64 k, .float .f64 sl, .float .f64 0, .float .f64 mb, .float .f64 0] ∧ Below T w5 Z) ?_ ?_)
        · exact ⟨by rw [hsl]; exact TB, hb6⟩
        clear hsl h0 cT fT TB hb6 lT
        intro w8 h8
        have TB8 := h8.1
        have hb8 := h8.2
        clear h8
        have lT := TB8.lt
        have c8 := TB8.cell
        have f8 := TB8.free
        obtain ⟨x1, w9, r9, s9, t9⟩ := mul_any w8 sl ma
        obtain ⟨st, w10, r10, s10, t10⟩ := sub_any w9 mb x1
        have TB10 : Blk w10 T 31 #[.int .i64 k, .float .f64 sl, .float .f64 0, .float .f64 mb, .float .f64 0] := by unfold Blk; rw [t10.out.heap, t9.out.heap]; exact TB8
        have c9 : w9.cell? ⟨T, 1, none⟩ = some (.float .f64 sl) := t9.out.cell (c8 1)
        have hb10 := (hb8.trans (t9.out.below _)).trans (t10.out.below _)
        have lT10 := TB10.lt
        have c10 := TB10.cell
        have f10 := TB10.free
        clear hb8 TB8
        go_upto_region 15 with (fail)
        (with_reducible refine wp_at (fun Z => Blk Z T 31 #[.int .i64 k, .float .f64 sl, .float .f64 st, .float .f64 mb, .float .f64 0] ∧ Below T w5 Z) ?_ ?_)
        · refine ⟨?_, hb10.setCell (Nat.le_refl _) _⟩
          unfold Blk at TB10; simp (disch := (first | omega | (simp only [World.size_alloc, World.size_setCell, World.size_drew] <;> omega) | fail)) only [Blk, heap_old, heap_at, heap_set_same, heap_set_ne, heap_drew', Option.map_some, putO_cells, TB10]; simp; done
        intro w11 h11
        have TB11 := h11.1
        have hb11 := h11.2
        clear h11 hb10 TB10 c8 f8 c9 c10 f10 lT lT10
        have HR11 := Lib.hid ((R5.out.below hb11).more (Nat.le_of_lt TB11.lt))
        have HB11 := Lib.hid hb11
        clear hb11
        go_wp2_with fail
        refine (Spread_any _ k _ ys _ L5.out (by omega) HR11.out).mono ?_
        rintro en w12 ⟨sp, hSp, rfl, hb12⟩
        have Sp : Hid (SpreadR ys sp) := Lib.hid (by unfold SpreadE at hSp; rwa [if_neg (by rw [L5.out]; omega)] at hSp)
        have he : errE k = 0 := if_neg (by omega)
        rw [he]
        have TB12 : Blk w12 T 31 #[.int .i64 k, .float .f64 sl, .float .f64 st, .float .f64 mb, .float .f64 0] := Blk.below TB11 hb12
        have hbT : Below T w5 w12 := HB11.out.trans (hb12.mono (Nat.le_of_lt TB11.lt))
        have A12 : Blk w12 w.heap.size 31 #[.int .i64 0, .float .f64 0, .float .f64 0, .float .f64 0, .float .f64 0] := (hbT.block _ HAT.out).trans HA.out
        have HB12 := Lib.hid (HB5.out.trans (hbT.mono (Nat.le_of_lt (Nat.lt_of_le_of_lt HSW.out HAT.out))))
        have lT := TB12.lt
        have c12 := TB12.cell
        have f12 := TB12.free
        have lA := A12.lt
        have cA := A12.cell
        have fA := A12.free
        clear hSp he hb12 TB11 hbT
        go_upto_region 16 with (fail)
        (with_reducible refine wp_at (fun Z => Blk Z T 31 #[.int .i64 k, .float .f64 sl, .float .f64 st, .float .f64 mb, .float .f64 sp] ∧ Blk Z w.heap.size 31 #[.int .i64 0, .float .f64 0, .float .f64 0, .float .f64 0, .float .f64 0] ∧ Below w.heap.size w Z) ?_ ?_)
        · refine ⟨?_, ?_, HB12.out.setCell (Nat.le_of_lt HAT.out) _⟩
          · unfold Blk at TB12; simp (disch := (first | omega | (simp only [World.size_alloc, World.size_setCell, World.size_drew] <;> omega) | fail)) only [Blk, heap_old, heap_at, heap_set_same, heap_set_ne, heap_drew', Option.map_some, putO_cells, TB12]; simp; done
          · unfold Blk at A12; rw [Blk, heap_set_ne _ _ _ _ _ (Nat.ne_of_lt HAT.out)]; exact A12
        intro w13 h13
        have TB13 := h13.1
        have A13 := h13.2.1
        have HB13 := Lib.hid h13.2.2
        clear h13 TB12 A12 c12 f12 cA fA lT lA
        have lT := TB13.lt
        have c13 := TB13.cell
        have f13 := TB13.free
        have lA := A13.lt
        have cA := A13.cell
        have fA := A13.free
        go_wp2_with fail
        generalize hZ : World.setCell _ ⟨w.heap.size, 4, none⟩ (Value.float .f64 sp) = Z
        have hZB : Blk Z w.heap.size 31 #[.int .i64 k, .float .f64 sl, .float .f64 st, .float .f64 mb, .float .f64 sp] := by
          subst hZ
          unfold Blk at A13
          simp (disch := (first | omega | (simp only [World.size_alloc, World.size_setCell, World.size_drew] <;> omega) | fail)) only [Blk, heap_old, heap_at, heap_set_same, heap_set_ne, heap_drew', Option.map_some, putO_cells, A13]
          simp
          done
        have hZW : Below w.heap.size w Z := by
          subst hZ
          have hb14 := HB13.out
          go_grown
        clear hZ
        have hZC := hZB.cell
        have hZL := hZB.lt
        refine bodyPost_ret (v := trend k sl st mb sp 0) (by simp [results, Try.results11, go_sem, trend, hZC, hZL]; done) rfl ⟨sl, st, mb, sp, HLn.out sl st x1 sp HSl.out s9.out s10.out Sp.out, by rw [show errE k = 0 from if_neg (by omega)], hZW⟩
      · have hq1 : (FloatKind.f64.format.order p 0 == some .eq) = false := by simpa using h0
        have hq2 : (FloatKind.f64.format.order p 0 != some .eq) = true := by simpa using h0
        obtain ⟨sl, w7, hrun, hres, hw⟩ := quo_any w6 q p
        have HSl : Hid (SlopeR p q sl) := Lib.hid (by unfold SlopeR; rw [if_neg h0]; exact hres.out)
        have TB7 : Blk w7 T 31 #[.int .i64 k, .float .f64 0, .float .f64 0, .float .f64 mb, .float .f64 0] := by unfold Blk; rw [hw.out.heap]; exact TB
        have hb7 := hb6.trans (hw.out.below _)
        have lT7 := TB7.lt
        have cT := TB7.cell
        have fT := TB7.free
        clear h0
        go_upto_region 14 with (fail)
        (with_reducible refine wp_at (fun Z => Blk Z T 31 #[.int .i64 k, .float .f64 sl, .float .f64 0, .float .f64 mb, .float .f64 0] ∧ Below T w5 Z) ?_ ?_)
        · refine ⟨?_, hb7.setCell (Nat.le_refl _) _⟩
          unfold Blk at TB7; simp (disch := (first | omega | (simp only [World.size_alloc, World.size_setCell, World.size_drew] <;> omega) | fail)) only [Blk, heap_old, heap_at, heap_set_same, heap_set_ne, heap_drew', Option.map_some, putO_cells, TB7]; simp; done
        clear hq1 hq2 cT fT TB7 TB hb7 hb6 lT lT7 hrun
        intro w8 h8
        have TB8 := h8.1
        have hb8 := h8.2
        clear h8
        have lT := TB8.lt
        have c8 := TB8.cell
        have f8 := TB8.free
        obtain ⟨x1, w9, r9, s9, t9⟩ := mul_any w8 sl ma
        obtain ⟨st, w10, r10, s10, t10⟩ := sub_any w9 mb x1
        have TB10 : Blk w10 T 31 #[.int .i64 k, .float .f64 sl, .float .f64 0, .float .f64 mb, .float .f64 0] := by unfold Blk; rw [t10.out.heap, t9.out.heap]; exact TB8
        have c9 : w9.cell? ⟨T, 1, none⟩ = some (.float .f64 sl) := t9.out.cell (c8 1)
        have hb10 := (hb8.trans (t9.out.below _)).trans (t10.out.below _)
        have lT10 := TB10.lt
        have c10 := TB10.cell
        have f10 := TB10.free
        clear hb8 TB8
        go_upto_region 15 with (fail)
        (with_reducible refine wp_at (fun Z => Blk Z T 31 #[.int .i64 k, .float .f64 sl, .float .f64 st, .float .f64 mb, .float .f64 0] ∧ Below T w5 Z) ?_ ?_)
        · refine ⟨?_, hb10.setCell (Nat.le_refl _) _⟩
          unfold Blk at TB10; simp (disch := (first | omega | (simp only [World.size_alloc, World.size_setCell, World.size_drew] <;> omega) | fail)) only [Blk, heap_old, heap_at, heap_set_same, heap_set_ne, heap_drew', Option.map_some, putO_cells, TB10]; simp; done
        intro w11 h11
        have TB11 := h11.1
        have hb11 := h11.2
        clear h11 hb10 TB10 c8 f8 c9 c10 f10 lT lT10
        have HR11 := Lib.hid ((R5.out.below hb11).more (Nat.le_of_lt TB11.lt))
        have HB11 := Lib.hid hb11
        clear hb11
        go_wp2_with fail
        refine (Spread_any _ k _ ys _ L5.out (by omega) HR11.out).mono ?_
        rintro en w12 ⟨sp, hSp, rfl, hb12⟩
        have Sp : Hid (SpreadR ys sp) := Lib.hid (by unfold SpreadE at hSp; rwa [if_neg (by rw [L5.out]; omega)] at hSp)
        have he : errE k = 0 := if_neg (by omega)
        rw [he]
        have TB12 : Blk w12 T 31 #[.int .i64 k, .float .f64 sl, .float .f64 st, .float .f64 mb, .float .f64 0] := Blk.below TB11 hb12
        have hbT : Below T w5 w12 := HB11.out.trans (hb12.mono (Nat.le_of_lt TB11.lt))
        have A12 : Blk w12 w.heap.size 31 #[.int .i64 0, .float .f64 0, .float .f64 0, .float .f64 0, .float .f64 0] := (hbT.block _ HAT.out).trans HA.out
        have HB12 := Lib.hid (HB5.out.trans (hbT.mono (Nat.le_of_lt (Nat.lt_of_le_of_lt HSW.out HAT.out))))
        have lT := TB12.lt
        have c12 := TB12.cell
        have f12 := TB12.free
        have lA := A12.lt
        have cA := A12.cell
        have fA := A12.free
        clear hSp he hb12 TB11 hbT
        go_upto_region 16 with (fail)
        (with_reducible refine wp_at (fun Z => Blk Z T 31 #[.int .i64 k, .float .f64 sl, .float .f64 st, .float .f64 mb, .float .f64 sp] ∧ Blk Z w.heap.size 31 #[.int .i64 0, .float .f64 0, .float .f64 0, .float .f64 0, .float .f64 0] ∧ Below w.heap.size w Z) ?_ ?_)
        · refine ⟨?_, ?_, HB12.out.setCell (Nat.le_of_lt HAT.out) _⟩
          · unfold Blk at TB12; simp (disch := (first | omega | (simp only [World.size_alloc, World.size_setCell, World.size_drew] <;> omega) | fail)) only [Blk, heap_old, heap_at, heap_set_same, heap_set_ne, heap_drew', Option.map_some, putO_cells, TB12]; simp; done
          · unfold Blk at A12; rw [Blk, heap_set_ne _ _ _ _ _ (Nat.ne_of_lt HAT.out)]; exact A12
        intro w13 h13
        have TB13 := h13.1
        have A13 := h13.2.1
        have HB13 := Lib.hid h13.2.2
        clear h13 TB12 A12 c12 f12 cA fA lT lA
        have lT := TB13.lt
        have c13 := TB13.cell
        have f13 := TB13.free
        have lA := A13.lt
        have cA := A13.cell
        have fA := A13.free
        go_wp2_with fail
        generalize hZ : World.setCell _ ⟨w.heap.size, 4, none⟩ (Value.float .f64 sp) = Z
        have hZB : Blk Z w.heap.size 31 #[.int .i64 k, .float .f64 sl, .float .f64 st, .float .f64 mb, .float .f64 sp] := by
          subst hZ
          unfold Blk at A13
          simp (disch := (first | omega | (simp only [World.size_alloc, World.size_setCell, World.size_drew] <;> omega) | fail)) only [Blk, heap_old, heap_at, heap_set_same, heap_set_ne, heap_drew', Option.map_some, putO_cells, A13]
          simp
          done
        have hZW : Below w.heap.size w Z := by
          subst hZ
          have hb14 := HB13.out
          go_grown
        clear hZ
        have hZC := hZB.cell
        have hZL := hZB.lt
        refine bodyPost_ret (v := trend k sl st mb sp 0) (by simp [results, Try.results11, go_sem, trend, hZC, hZL]; done) rfl ⟨sl, st, mb, sp, HLn.out sl st x1 sp HSl.out s9.out s10.out Sp.out, by rw [show errE k = 0 from if_neg (by omega)], hZW⟩
end Go.Proofs.Ytbkofiflfcfjfaa
