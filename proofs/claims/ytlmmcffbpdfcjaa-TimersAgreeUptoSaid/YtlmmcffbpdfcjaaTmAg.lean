/- TimersAgree: the walk. -/
import Derived.Test.YtlmmcffbpdfcjaaTmAgP
import Derived.WalkMore
set_option linter.unusedSimpArgs false
set_option linter.unusedVariables false
namespace Go.Proofs.Ytlmmcffbpdfcjaa
open Go.RowKit Go.Kp Go.ChangeMaps

attribute [local go_sem high] eqT neqT

set_option maxRecDepth 100000 in
set_option maxHeartbeats 16000000 in
theorem agree (a : Option Addr) (n cap : Nat) (l : List Tm.T) (first more : Int) (w : World) (hl : l.length = n) (hn : n ≤ 1048576) (hr : Rd w w.heap.size a (l.flatMap cT)) (hok : ∀ x ∈ l, Ok x)
    (hf : -9223372036854775808 ≤ first ∧ first ≤ 9223372036854775807) (hm : -9223372036854775808 ≤ more ∧ more ≤ 9223372036854775807) :
    Calls Try.prog 4 #[.slice a n cap, .int .i64 first, .int .i64 more] w (Ret (.bool true) w) := by
  have HL := Lib.hid hl
  have HR := Lib.hid hr
  have HO := Lib.hid hok
  have HF := Lib.hid hf
  have HM := Lib.hid hm
  clear hl hr hok hf hm
  go_enter Try.func4, Try.ntmps4
  go_upto_region 2 with (fail)
  go_cut [26] from 20 (fun s26 wc => s26 = .bool (decide (0 < more) && decide (first < 4611686018427387904)) ∧ Below w.heap.size w wc)
  case first =>
    by_cases h1 : 0 < more
    · by_cases h2 : first < 4611686018427387904
      · go_wp2_with fail
        go_meet
        case rel => exact ⟨by simp [h1, h2], by go_grown⟩
      · go_wp2_with fail
        go_meet
        case rel => exact ⟨by simp [h1, h2], by go_grown⟩
    · go_wp2_with fail
      go_meet
      case rel => exact ⟨by simp; omega, by go_grown⟩
  obtain ⟨rfl, hB0⟩ := hcut
  go_upto_if 26 with (fail)
  go_cut [7] from 20 (fun la wc => ∃ last : Int, la = .int .i64 last ∧ first ≤ last ∧ Below w.heap.size w wc)
  case first =>
    by_cases h1 : (decide (0 < more) && decide (first < 4611686018427387904)) = true
    · simp only [h1]
      simp only [Bool.and_eq_true, decide_eq_true_eq] at h1
      have hb0 : 0 ≤ more % 2305843009213693952 := Int.emod_nonneg _ (by omega)
      have hb1 : more % 2305843009213693952 < 2305843009213693952 := Int.emod_lt_of_pos _ (by omega)
      have hw1 : wrap64 (first + more % 2305843009213693952) = first + more % 2305843009213693952 := by unfold wrap64; have := HF.out; omega
      go_wp2_with fail
      go_meet
      case rel => exact ⟨first + more % 2305843009213693952, by first | rfl | (simp only [hw1]; done), by omega, hB0⟩
    · have h1' : (decide (0 < more) && decide (first < 4611686018427387904)) = false := by simpa using h1
      simp only [h1']
      clear h1 h1'
      go_wp2_with fail
      go_meet
      case rel => exact ⟨_, rfl, by omega, hB0⟩
  case rest =>
    obtain ⟨last, rfl, hle, hB⟩ := hcut
    clear hB0
    have HB := Lib.hid hB
    clear hB
    go_wp2_with fail
    go_loopw [8, 9] (fun vb vi wr => ∃ (j : Nat) (bs : List Tm.T), j ≤ n ∧ vi = .int .i64 ((n : Int) - 1 - j) ∧ wr.ownsRow w.heap.size 25 4 vb (2 * j) (bs.flatMap cT) ∧ bs.length = 2 * j ∧ (∀ x ∈ bs, x ∈ l) ∧ (∀ x ∈ l.take j, x ∈ bs) ∧ Below w.heap.size w wr) (fun _ vi _ => ((intOf vi) + 1).toNat)
    case atStart => exact ⟨0, [], Nat.zero_le _, by go_num, World.ownsRow_nil _ _ _ _, rfl, by simp, by simp, HB.out⟩
    case round =>
      obtain ⟨j, bs, hj, rfl, hown, hbl, hsub, hall, hB⟩ := hrel
      have HOW := Lib.hid hown
      have HBL := Lib.hid hbl
      have HSB := Lib.hid hsub
      have HAL := Lib.hid hall
      have HB1 := Lib.hid hB
      rcases Nat.lt_or_ge j n with hlt | hge
      · obtain ⟨i, hi⟩ : ∃ i : Nat, i + j + 1 = n := ⟨n - 1 - j, by omega⟩
        have e0 : (n : Int) - 1 - j = (i : Int) := by omega
        rw [e0]
        obtain ⟨b, off, rfl, hb, hc⟩ := rd_tms (HR.out.below hB) (by rw [HL.out]; omega)
        obtain ⟨x, hx⟩ : ∃ x, l[i]? = some x := ⟨_, List.getElem?_eq_getElem (by rw [HL.out]; omega)⟩
        obtain ⟨y, hy⟩ : ∃ y, l[j]? = some y := ⟨_, List.getElem?_eq_getElem (by rw [HL.out]; omega)⟩
        obtain ⟨c0, c1, c2, c3⟩ := cells4 hc hx
        obtain ⟨d0, d1, d2, d3⟩ := cells4 hc hy
        have HX := Lib.hid hx
        have HY := Lib.hid hy
        have hin : i < n := by omega
        have hb' : b < wr.heap.size := Nat.lt_of_lt_of_le hb HB1.out.size
        have hw0 : IntKind.i64.wrap ((n : Int) - 1) = (n : Int) - 1 := by rw [IntKind.wrap_i64]; omega
        have hw1 : (n : Int) - 1 - (i : Int) = (j : Int) := by omega
        have hw2 : IntKind.i64.wrap (j : Int) = (j : Int) := by rw [IntKind.wrap_i64]; omega
        clear hown hbl hsub hall hB hc hx hy
        go_wp2_with (go_in)
        (refine region_keep (fun k => k < wr.heap.size) 14 [(0, true), (1, true), (2, true), (3, true), (4, true), (5, true), (6, true), (7, true), (8, true), (9, true), (10, true), (11, true), (12, true), (13, false)] (by kernel_rfl) (fun _ _ d _ _ h => by cases d <;> exact h) (by kernel_rfl) ?_; simp only [withOps, List.getElem?_toArray, List.getElem?_cons_zero, List.getElem?_cons_succ, List.drop_succ_cons, List.drop_zero])
        (iterate 13 (refine keep_quiet (v := ?_) rfl ?_ ?_; rotate_left; (focus (intro w' hw'; go_simp; (try with_reducible rfl); done)); try simp only [Act.put, List.setIfInBounds_toArray, List.set_cons_zero, List.set_cons_succ]))
        (with_reducible refine plan_loud (fun K hK => ?_))
        go_simp
        refine hK _ _ ?_ ?_
        · exact (Keep.refl _ _).alloc (fun y hy => by simpa using hy) _
        clear hK K
        (with_reducible refine plan_end ?_)
        (try simp only [Act.put, List.setIfInBounds_toArray, List.set_cons_zero, List.set_cons_succ])
        refine append_tms rfl (.tmp 38) (.tmp 51) rfl w.heap.size u8 (2 * j) bs rfl (HOW.out.alloc _) (some ⟨wr.heap.size, 0, none⟩) 2 2 [x, y] rfl (fun h => by cases h) rfl ?_ (by omega) (by have := HB1.out.size; simp; omega) ?_
        · exact .inr ⟨wr.heap.size, 0, rfl, by simp, fun j u hu => by
            rw [Nat.zero_add]
            have hb : Blk ((wr.alloc (.cells ([x, y].flatMap cT).toArray 25 (0, 0))).drew) wr.heap.size 25 ([x, y].flatMap cT).toArray := heap_at rfl
            exact (hb.cell j).trans (by simpa using hu)⟩
        intro v2 w2 ho2 hg2 hv2
        have hB2 : Below w.heap.size w w2 := by
          refine (HB1.out.trans ((show Below wr.heap.size wr ((wr.alloc (.cells ([x, y].flatMap cT).toArray 25 (0, 0))).drew) by go_grown).mono HB1.out.size)).grown hg2 (by have := HB1.out.size; simp; omega) (fun k hk => (HOW.out.lt k hk).1)
        have hsub2 : ∀ z ∈ bs ++ [x, y], z ∈ l := fun z hz => by
          simp only [List.mem_append, List.mem_cons, List.not_mem_nil, or_false] at hz
          rcases hz with h | rfl | rfl
          · exact HSB.out z h
          · exact List.mem_of_getElem? HX.out
          · exact List.mem_of_getElem? HY.out
        have hall2 : ∀ z ∈ l.take (j + 1), z ∈ bs ++ [x, y] := fun z hz => by
          rw [List.take_add_one, HY.out] at hz
          simp only [Option.toList_some, List.mem_append, List.mem_singleton] at hz
          rcases hz with h | rfl
          · simp [HAL.out z h]
          · simp
        have HO2 := Lib.hid ho2
        have HS2 := Lib.hid hsub2
        have HA2 := Lib.hid hall2
        have HB2 := Lib.hid hB2
        have hw3 : IntKind.i64.wrap ((i : Int) - 1) = (i : Int) - 1 := by rw [IntKind.wrap_i64]; omega
        clear ho2 hg2 hv2 hsub2 hall2 hB2 c0 c1 c2 c3 d0 d1 d2 d3
        (try simp only [Act.put, List.setIfInBounds_toArray, List.set_cons_zero, List.set_cons_succ])
        go_wp2_with fail
        go_roundw
        case rel => exact ⟨j + 1, bs ++ [x, y], by omega, (by first | go_num | (congr 1; omega)), HO2.out, by rw [List.length_append, HBL.out]; rfl, HS2.out, HA2.out, HB2.out⟩
        case measure => simp [intOf]
      · obtain rfl : j = n := by omega
        have e0 : (j : Int) - 1 - j = -1 := by omega
        have HMB := Lib.hid (show ∀ z, z ∈ bs ↔ z ∈ l from fun z => ⟨HSB.out z, fun hz => HAL.out z (by rw [List.take_of_length_le (by rw [HL.out]; exact Nat.le_refl _)]; exact hz)⟩)
        rw [e0]
        clear hown hbl hsub hall hB
        go_wp2_with fail
        have HBW := HB1.out
        obtain ⟨ab, cb, rfl, hrb, hcb⟩ := rd_row HOW.out
        refine (New_any a j cap l HL.out (by omega) ((HR.out.below HBW).more HBW.size) HO.out).mono ?_
        rintro en w1 ⟨qa, ma, va, LA, MA, rfl, hNa, hb1⟩
        have HNa := Lib.hid hNa
        have HW1 := Lib.hid hb1
        have hlA : LA.length ≤ j := by
          have h1 := nodup_len LA l hNa.1.full.nodup (fun y hy => (hNa.2.1 y).1 hy)
          rw [HL.out] at h1
          exact h1
        have HLA := Lib.hid hlA
        clear hNa hb1 hlA HBW
        go_wp2_with fail
        refine (New_any ab (2 * j) cb bs HBL.out (by omega) ((hrb.below HW1.out).more HW1.out.size) (fun z hz => HO.out z ((HMB.out z).1 hz))).mono ?_
        rintro en w2 ⟨qb, mb, vb, LB, MB, rfl, hNb, hb2⟩
        have HNb := Lib.hid hNb
        have HW2 := Lib.hid hb2
        clear hNb hb2 hrb hcb
        go_wp2_with fail
        refine (New_any a j cap l HL.out (by omega) (((HR.out.below HB1.out).below ((HW1.out.mono (Nat.le_refl _)).trans (HW2.out.mono HW1.out.size) |>.mono HB1.out.size)).more (Nat.le_trans HB1.out.size (Nat.le_trans HW1.out.size HW2.out.size))) HO.out).mono ?_
        rintro en w3 ⟨qc, mc, vc, LC, MC, rfl, hNc, hb3⟩
        have HNc := Lib.hid hNc
        have HW3 := Lib.hid hb3
        clear hNc hb3
        go_upto_region 10 with (fail)
        have hTa : Tq w3 qa ma va LA MA := (HNa.out.1.below HW2.out).below HW3.out
        have hTb : Tq w3 qb mb vb LB MB := HNb.out.1.below HW3.out
        have hTc : Tq w3 qc mc vc LC MC := HNc.out.1
        have hab : Apart qa ma va qb mb vb := fun b h1 h2 => by
          have := HNa.out.1.raw.lt b h1
          have := HNb.out.2.2 b h2
          omega
        have hac : Apart qa ma va qc mc vc := fun b h1 h2 => by
          have := (HNa.out.1.below HW2.out).raw.lt b h1
          have := HNc.out.2.2 b h2
          omega
        have hbc : Apart qb mb vb qc mc vc := fun b h1 h2 => by
          have := HNb.out.1.raw.lt b h1
          have := HNc.out.2.2 b h2
          omega
        have hga : ∀ b, foot qa ma va b → w.heap.size ≤ b := fun b h1 => Nat.le_trans HB1.out.size (HNa.out.2.2 b h1)
        have hgb : ∀ b, foot qb mb vb b → w.heap.size ≤ b := fun b h1 => Nat.le_trans HB1.out.size (Nat.le_trans HW1.out.size (HNb.out.2.2 b h1))
        have hgc : ∀ b, foot qc mc vc b → w.heap.size ≤ b := fun b h1 => Nat.le_trans HB1.out.size (Nat.le_trans HW1.out.size (Nat.le_trans HW2.out.size (HNc.out.2.2 b h1)))
        have hB3 : Below w.heap.size w w3 := HB1.out.trans ((HW1.out.mono HB1.out.size).trans ((HW2.out.mono (Nat.le_trans HB1.out.size HW1.out.size)).trans (HW3.out.mono (Nat.le_trans HB1.out.size (Nat.le_trans HW1.out.size HW2.out.size)))))
        have HTa := Lib.hid hTa
        have HTb := Lib.hid hTb
        have HTc := Lib.hid hTc
        have HAB := Lib.hid hab
        have HAC := Lib.hid hac
        have HBC := Lib.hid hbc
        have HGa := Lib.hid hga
        have HGb := Lib.hid hgb
        have HGc := Lib.hid hgc
        have HB3 := Lib.hid hB3
        have HMa := Lib.hid HNa.out.2.1
        have HMb := Lib.hid (show ∀ z, z ∈ LB ↔ z ∈ l from fun z => (HNb.out.2.1 z).trans (HMB.out z))
        have HMc := Lib.hid HNc.out.2.1
        have HLE := Lib.hid (len_of_mem hTa.full.nodup hTb.full.nodup fun z => (HMa.out z).trans (HMb.out z).symm)
        clear hTa hTb hTc hab hac hbc hga hgb hgc hB3 HNa HNb HNc HW1 HW2 HW3 HOW HMB
        go_wp2_with fail
        refine (Len_any HTa.out.raw).mono ?_
        rintro en w4 ⟨rfl, hb4⟩
        have e1 := HLE.out
        have e2 : ¬ (j : Int) < (LA.length : Int) := by have := HLA.out; omega
        go_wp2_with fail
        refine (Len_any (HTb.out.raw.below hb4)).mono ?_
        rintro en w5 ⟨rfl, hb5⟩
        have hb35 := bnext hb4 hb5
        rw [← e1]
        go_wp2_with fail
        refine (Len_any (HTa.out.raw.below hb35)).mono ?_
        rintro en w6 ⟨rfl, hb6⟩
        have hb36 := bnext hb35 hb6
        have HT6 := Lib.hid hb36
        clear hb4 hb5 hb6 hb35 hb36 e1
        go_upto_region 12 with (fail)
        (refine wp_at (fun w7 => Below w3.heap.size w3 w7) HT6.out ?_)
        intro w7 hb7
        have HTa7 := Lib.hid (HTa.out.below hb7)
        have HTb7 := Lib.hid (HTb.out.below hb7)
        have HTc7 := Lib.hid (HTc.out.below hb7)
        have HB7 := Lib.hid (HB3.out.trans (hb7.mono HB3.out.size))
        clear hb7 HT6 HTa HTb HTc HB3
        go_wp2_with fail
        refine (Due_any HTa7.out first).mono ?_
        rintro en w8 ⟨vo1, rfl, va2, LA2, MA2, o1, hA8, hT8, hC1, hR1, hO1, hD1⟩
        obtain ⟨hB8, hab8⟩ := HTb7.out.beside hT8 HAB.out
        obtain ⟨hCq8, hac8⟩ := HTc7.out.beside hT8 HAC.out
        have hga8 := foot_ge HGa.out hT8 HB7.out.size
        have hBl8 : Below w.heap.size w w8 := HB7.out.trans (hT8.fr.below HGa.out HB7.out.size)
        have HTa8 := Lib.hid hA8
        have HTb8 := Lib.hid hB8
        have HTc8 := Lib.hid hCq8
        have HAB8 := Lib.hid hab8
        have HAC8 := Lib.hid hac8
        have HGa8 := Lib.hid hga8
        have HB8 := Lib.hid hBl8
        have HC1 := Lib.hid hC1
        have HR1 := Lib.hid hR1
        have HO1 := Lib.hid hO1
        have HD1 := Lib.hid hD1
        clear hA8 hT8 hC1 hR1 hO1 hD1 hB8 hCq8 hab8 hac8 hga8 hBl8
        go_wp2_with fail
        refine (Due_any HTa8.out last).mono ?_
        rintro en w9 ⟨vo2, rfl, va3, LA3, MA3, o2, hA9, hT9, hC2, hR2, hO2, hD2⟩
        obtain ⟨hB9, hab9⟩ := HTb8.out.beside hT9 HAB8.out
        obtain ⟨hCq9, hac9⟩ := HTc8.out.beside hT9 HAC8.out
        obtain ⟨hO19, hD19⟩ := row_beside HO1.out hT9 HD1.out
        have hga9 := foot_ge HGa8.out hT9 HB8.out.size
        have hBl9 : Below w.heap.size w w9 := HB8.out.trans (hT9.fr.below HGa8.out HB8.out.size)
        have hC12 := twice HC1.out HR1.out hC2 hR2 hle
        have HC12 := Lib.hid hC12
        have HR2 := Lib.hid hR2
        have HTa9 := Lib.hid hA9
        have HTb9 := Lib.hid hB9
        have HTc9 := Lib.hid hCq9
        have HAB9 := Lib.hid hab9
        have HAC9 := Lib.hid hac9
        have HGa9 := Lib.hid hga9
        have HB9 := Lib.hid hBl9
        have HO19 := Lib.hid hO19
        have HD19 := Lib.hid hD19
        have HO2 := Lib.hid hO2
        have HD2 := Lib.hid hD2
        clear hA9 hT9 hC2 hR2 hO2 hD2 hB9 hCq9 hab9 hac9 hga9 hBl9 hO19 hD19 hC12
        obtain ⟨a2, c2, rfl, hr2, hc2⟩ := rd_row HO2.out
        have hol : o1.length + o2.length ≤ 5000000000000 := by
          have h1 := HC12.out.perm.length_eq
          have := HLA.out
          simp at h1
          omega
        dsimp only
        rename_i KK hKK
        (with_reducible refine hKK _ _ ?_)
        clear hKK KK
        refine append_tms rfl (.tmp 73) (.tmp 76) rfl 0 vo1 o1.length o1 rfl (owns_mono HO19.out (Nat.zero_le _)) a2 o2.length c2 o2 rfl hc2 rfl hr2 hol (Nat.zero_le _) ?_
        intro v10 w10 ho10 hg10 hv10
        have hk10 : ∀ b, b < w9.heap.size → vo1.ownBlock ≠ some b → w10.heap[b]? = w9.heap[b]? := fun b h1 h2 => hg10.block b h1 (fun e => h2 e.symm)
        have hv1b : ∀ b, vo1.ownBlock = some b → ¬ foot qb mb vb b := fun b hb hf => by
          have := (HO1.out.lt b hb).1
          have := HTb7.out.raw.lt b hf
          omega
        have hv1c : ∀ b, vo1.ownBlock = some b → ¬ foot qc mc vc b := fun b hb hf => by
          have := (HO1.out.lt b hb).1
          have := HTc7.out.raw.lt b hf
          omega
        have hv1w : ∀ b, vo1.ownBlock = some b → w.heap.size ≤ b := fun b hb => Nat.le_trans HB7.out.size (HO1.out.lt b hb).1
        have hTa10 : Tq w10 qa ma va3 LA3 MA3 := HTa9.out.same fun b hb => hk10 b (HTa9.out.raw.lt b hb) (fun e => HD19.out b e hb)
        have hTb10 : Tq w10 qb mb vb LB MB := HTb9.out.same fun b hb => hk10 b (HTb9.out.raw.lt b hb) (fun e => hv1b b e hb)
        have hTc10 : Tq w10 qc mc vc LC MC := HTc9.out.same fun b hb => hk10 b (HTc9.out.raw.lt b hb) (fun e => hv1c b e hb)
        have hB10 : Below w.heap.size w w10 := HB9.out.grown hg10 HB9.out.size hv1w
        have h10a : ∀ b, v10.ownBlock = some b → ¬ foot qa ma va3 b := fun b hb hf => by
          rcases hv10 with e | e
          · exact HD19.out b (e ▸ hb) hf
          · rw [e] at hb; cases hb
            have := HTa9.out.raw.lt _ hf
            omega
        have h10b : ∀ b, v10.ownBlock = some b → ¬ foot qb mb vb b := fun b hb hf => by
          rcases hv10 with e | e
          · exact hv1b b (e ▸ hb) hf
          · rw [e] at hb; cases hb
            have := HTb9.out.raw.lt _ hf
            omega
        have h10c : ∀ b, v10.ownBlock = some b → ¬ foot qc mc vc b := fun b hb hf => by
          rcases hv10 with e | e
          · exact hv1c b (e ▸ hb) hf
          · rw [e] at hb; cases hb
            have := HTc9.out.raw.lt _ hf
            omega
        obtain ⟨one, hone⟩ : ∃ one, one = o1 ++ o2 := ⟨_, rfl⟩
        have hlen1 : o1.length + o2.length = one.length := by rw [hone]; simp
        rw [hlen1, ← hone] at ho10
        obtain ⟨a1, c1, rfl, hr1, _⟩ := rd_row ho10
        have HTa := Lib.hid hTa10
        have HTb := Lib.hid hTb10
        have HTc := Lib.hid hTc10
        have HB3 := Lib.hid hB10
        have HDa := Lib.hid h10a
        have HDb := Lib.hid h10b
        have HDc := Lib.hid h10c
        have HO10 := Lib.hid ho10
        have HC := Lib.hid (show Cut LA one LA3 last by rw [hone]; exact HC12.out)
        have HNA := Lib.hid HTa7.out.full.nodup
        clear hk10 hv1b hv1c hv1w hTa10 hTb10 hTc10 hB10 h10a h10b h10c ho10 hg10 hv10 hr2 hc2 hol hone hlen1 hr1 HO19 HD19 HO1 HD1 HO2 HD2 HC1 HR1 HC12 HTa9 HTb9 HTc9 HB9 HTa8 HTb8 HTc8 HB8 HTa7 HTb7 HTc7 HB7 HAB HAC HAB8 HAC8 HGa HGa8
        (try simp only [Act.put, List.setIfInBounds_toArray, List.set_cons_zero, List.set_cons_succ])
        go_wp2_with fail
        refine (Due_any HTb.out last).mono ?_
        rintro en w11 ⟨vt, rfl, vb2, LB2, MB2, two, hB11, hT11, hC3, hR3, hO3, hD3⟩
        obtain ⟨e12, hlen2⟩ := same_cut HC.out HR2.out hC3 hR3 (fun z => (HMa.out z).trans (HMb.out z).symm) HTa.out.full.nodup hB11.full.nodup
        subst e12
        obtain ⟨hTa11, hab11⟩ := HTa.out.beside hT11 HAB9.out.symm
        obtain ⟨hTc11, hbc11⟩ := HTc.out.beside hT11 HBC.out
        obtain ⟨hO11, hD11⟩ := row_beside HO10.out hT11 HDb.out
        have hBl11 := HB3.out.trans (hT11.fr.below HGb.out HB3.out.size)
        obtain ⟨a2, c2, rfl, hr2, _⟩ := rd_row hO3
        have hX2 : ∀ b, (Value.slice a2 one.length c2).ownBlock = some b → ¬ foot qc mc vc b := fun b hb hf => by
          have := (hO3.lt b hb).1
          have := HTc.out.raw.lt b hf
          omega
        have HLE2 := Lib.hid hlen2
        have HTa11 := Lib.hid hTa11
        have HTb11 := Lib.hid hB11
        have HTc11 := Lib.hid hTc11
        have HO11 := Lib.hid hO11
        have HP11 := Lib.hid hO3
        have HX2 := Lib.hid hX2
        have HB11 := Lib.hid hBl11
        clear hB11 hT11 hC3 hR3 hO3 hD3 hlen2 hTa11 hab11 hTc11 hbc11 hO11 hD11 hBl11 hr2 hX2 HTa HTb HTc HB3 HO10 HGb HAB9
        go_wp2_with fail
        refine (Len_any HTa11.out.raw).mono ?_
        rintro en w12 ⟨rfl, hb12⟩
        go_wp2_with fail
        refine (Len_any (HTb11.out.raw.below hb12)).mono ?_
        rintro en w13 ⟨rfl, hb13⟩
        have HB13 := Lib.hid (bnext hb12 hb13)
        have e3 := HLE2.out
        rw [← e3]
        clear hb12 hb13 e3
        go_upto_region 16 with (fail)
        (refine wp_at (fun w14 => Below w11.heap.size w11 w14) HB13.out ?_)
        intro w14 hb14
        have HTa := Lib.hid (HTa11.out.below hb14)
        have HTc := Lib.hid (HTc11.out.below hb14)
        have HO1 := Lib.hid (owns_below HO11.out hb14)
        have HO2 := Lib.hid (owns_below HP11.out hb14)
        have HB14 := Lib.hid (HB11.out.trans (hb14.mono HB11.out.size))
        have HPC := Lib.hid (show (one ++ LA3).Perm LC from HC.out.perm.trans ((List.perm_ext_iff_of_nodup HNA.out HTc.out.full.nodup).2 fun z => (HMa.out z).trans (HMc.out z).symm))
        clear hb14 HB13 HTa11 HTb11 HTc11 HO11 HP11 HB11 HNA
        obtain ⟨m, hm⟩ : ∃ m, one.length = m := ⟨_, rfl⟩
        have HMM := Lib.hid hm
        rw [hm] at HO1 HO2 HDc HX2
        rw [hm]
        clear hm
        go_wp2_with fail
        go_loopw [15] (fun vi wr => ∃ (i : Nat) (v' : Value) (C : List Tm.T) (M' : Tm.T → Option Nat), vi = .int .i64 i ∧ i ≤ m ∧ Tq wr qc mc v' C M' ∧ Turn w14 wr qc mc vc v' ∧ (one.drop i ++ LA3).Perm C) (fun vi _ => m - (intOf vi).toNat)
        case atStart => exact ⟨0, vc, LC, MC, rfl, Nat.zero_le _, HTc.out, Turn.refl, by simpa using HPC.out⟩
        case round =>
          rename_i wr
          obtain ⟨i, v', C, M', rfl, hi, hT, hTU, hP⟩ := hrel
          have HT := Lib.hid hT
          have HTU := Lib.hid hTU
          have HP := Lib.hid hP
          obtain ⟨hr1, hd1⟩ := row_beside HO1.out hTU HDc.out
          obtain ⟨hr2, hd2⟩ := row_beside HO2.out hTU HX2.out
          have HR1 := Lib.hid hr1
          have HD1 := Lib.hid hd1
          have HR2' := Lib.hid hr2
          have HD2 := Lib.hid hd2
          clear hT hTU hP hr1 hd1 hr2 hd2
          rcases Nat.lt_or_ge i m with hlt | hge
          · obtain ⟨x, hx⟩ : ∃ x, one[i]? = some x := ⟨_, List.getElem?_eq_getElem (by rw [HMM.out]; exact hlt)⟩
            have hxC : x ∈ C := HP.out.mem_iff.1 (List.mem_append_left _ (List.mem_of_getElem? (i := 0) (by rw [List.getElem?_drop]; simpa using hx)))
            obtain ⟨r, hr0⟩ : ∃ r, C[0]? = some r := ⟨_, List.getElem?_eq_getElem (List.length_pos_of_mem hxC)⟩
            have hrx : r = x := root_is HP.out HC.out.sorted HC.out.ahead hx (List.mem_of_getElem? hr0) (fun y hy => by
              obtain ⟨k, hk⟩ := List.mem_iff_getElem?.1 hy
              exact HT.out.heap.root hr0 k y hk)
            subst hrx
            have hdec : decide (0 < C.length) = true := by simpa using List.length_pos_of_mem hxC
            have HX := Lib.hid hx
            have HR0 := Lib.hid hr0
            have HXC := Lib.hid hxC
            have HXO := Lib.hid (show Ok r from HT.out.raw.ok r hxC)
            have hdue : r.a ≤ last := HC.out.due r (List.mem_of_getElem? hx)
            clear hx hr0 hxC
            go_wp2_with fail
            refine (Next_any HT.out.raw).mono ?_
            rintro en w15 ⟨rfl, hb15⟩
            rw [HR0.out, Option.getD_some, hdec]
            clear hdec
            go_upto_region 20 with (fail)
            obtain ⟨g1, k1, e1, _, _⟩ := HR1.out.form (by omega)
            cases e1
            obtain ⟨g2, k2, e2, _, _⟩ := HR2'.out.form (by omega)
            cases e2
            have hW : Below w15.heap.size w15 (w15.alloc (.cells (cT r).toArray 25 (0, 0))) := by go_grown
            have HB16 := Lib.hid (bnext hb15 hW)
            have hsz15 : wr.heap.size ≤ w15.heap.size := hb15.size
            have hgA : ∀ b, foot qc mc v' b → b ≠ w15.heap.size := fun b hb => by have := HT.out.raw.lt b hb; omega
            (refine wp_at (fun w16 => Tq w16 qc mc v' C M' ∧ Turn w14 w16 qc mc vc v' ∧ w16.ownsRow 0 25 4 (.slice (some ⟨g1, 0, none⟩) m c1) m (one.flatMap cT) ∧ w16.ownsRow w10.heap.size 25 4 (.slice (some ⟨g2, 0, none⟩) m c2) m (one.flatMap cT) ∧ Blk w16 w15.heap.size 25 (cT r).toArray)
              ⟨HT.out.below HB16.out, HTU.out.next HB16.out, owns_below HR1.out HB16.out, owns_below HR2'.out HB16.out, heap_at rfl⟩ ?_)
            rintro w16 ⟨hT16, hTU16, hr16, hs16, A16⟩
            have HTU16 := Lib.hid hTU16
            have hmb : m ≤ 1048576 := by
              have h1 := HC.out.perm.length_eq
              rw [List.length_append, HMM.out] at h1
              have := HLA.out
              omega
            have hnf : ∀ b, (b = g1 ∨ b = g2 ∨ b = w15.heap.size) → ¬ foot qc mc v' b := by
              rintro b (rfl | rfl | rfl) hf
              · exact HD1.out _ rfl hf
              · exact HD2.out _ rfl hf
              · exact hgA _ hf rfl
            have hx := HX.out
            have hmm := HMM.out
            have hxC := HXC.out
            have hxo := HXO.out
            have hdue2 := hdue
            clear hgA hW hb15 HB16 hTU16
            rcases Nat.eq_zero_or_pos i with hi0 | hi0
            · subst hi0
              rw [show ((0 : Nat) : Int) = 0 from rfl]
              (with_reducible refine wp_of_eq (c' := theRegion Try.f4 20) (by kernel_rfl) ?_)
              (with_reducible refine agree20_first _ ?_ (i := 0) rfl hT16 hr16 hs16 A16 hnf hx hmm hmb hxC hxo hdue2 ?_)
              · (intro _ _ d _ _ h; cases d <;> exact h)
              clear hT16 hr16 hs16 A16 hnf hx hmm hxC hxo hdue2
              iterate 65 (intro _)
              intro w20 v20 C20 M20 hT20 hTU20 hp20
              have HT20 := Lib.hid hT20
              have HTU20 := Lib.hid (HTU16.out.trans hTU20)
              have HP20 := Lib.hid (show (one.drop (0 + 1) ++ LA3).Perm C20 from (next_is HP.out HX.out (List.Perm.refl _)).trans hp20.symm)
              clear hT20 hTU20 hp20
              go_wp2_with fail
              go_roundw
              case rel => exact ⟨0 + 1, v20, C20, M20, by go_num, by omega, HT20.out, HTU20.out, HP20.out⟩
              case measure => simp [intOf]; omega
            · obtain ⟨k, hk⟩ : ∃ k, i = k + 1 := ⟨i - 1, by omega⟩
              obtain ⟨y, hy⟩ : ∃ y, one[k]? = some y := ⟨_, List.getElem?_eq_getElem (by rw [HMM.out]; omega)⟩
              have hyr : Tm.cmp y r < 0 := by
                obtain ⟨l1, e1⟩ := List.getElem?_eq_some_iff.1 hx
                obtain ⟨l2, e2⟩ := List.getElem?_eq_some_iff.1 hy
                have := List.pairwise_iff_getElem.1 HC.out.sorted k i l2 l1 (by omega)
                rw [e1, e2] at this
                exact this
              (with_reducible refine wp_of_eq (c' := theRegion Try.f4 20) (by kernel_rfl) ?_)
              (with_reducible refine agree20_next _ ?_ hk hy hyr hT16 hr16 hs16 A16 hnf hx hmm hmb hxC hxo hdue2 ?_)
              · (intro _ _ d _ _ h; cases d <;> exact h)
              clear hT16 hr16 hs16 A16 hnf hx hmm hxC hxo hdue2 hk hy hyr
              iterate 65 (intro _)
              intro w20 v20 C20 M20 hT20 hTU20 hp20
              have HT20 := Lib.hid hT20
              have HTU20 := Lib.hid (HTU16.out.trans hTU20)
              have HP20 := Lib.hid (show (one.drop (i + 1) ++ LA3).Perm C20 from (next_is HP.out HX.out (List.Perm.refl _)).trans hp20.symm)
              clear hT20 hTU20 hp20
              go_wp2_with fail
              go_roundw
              case rel => exact ⟨i + 1, v20, C20, M20, by go_num, by omega, HT20.out, HTU20.out, HP20.out⟩
              case measure => simp [intOf]; omega
          · obtain rfl : i = m := by omega
            clear hge
            go_wp2_with fail
            have HPE := Lib.hid (show LA3.Perm C by
              have h := HP.out
              rw [List.drop_eq_nil_of_le (by rw [HMM.out]; exact Nat.le_refl _), List.nil_append] at h
              exact h)
            refine (Next_any HT.out.raw).mono ?_
            rintro en w15 ⟨rfl, hb15⟩
            have HT15 := Lib.hid (HT.out.below hb15)
            obtain ⟨HTa15, _⟩ := HTa.out.beside (HTU.out.next hb15) (fun b h1 h2 => HAC9.out b h2 h1)
            have HTa15 := Lib.hid HTa15
            have HBF := Lib.hid (HB14.out.trans ((HTU.out.next hb15).fr.below HGc.out HB14.out.size))
            have HLN := Lib.hid HPE.out.length_eq
            clear hb15
            rcases Nat.eq_zero_or_pos C.length with h0 | h0
            · have hC0 : C = [] := List.eq_nil_of_length_eq_zero h0
              subst hC0
              have hLL : LA3.length = 0 := HLN.out
              clear h0
              simp only [List.getElem?_nil, Option.getD_none, List.length_nil, Nat.lt_irrefl, decide_false]
              go_upto_region 23 with (fail)
              (refine wp_at (fun w16 => Below w15.heap.size w15 w16 ∧ Blk w16 w15.heap.size 25 (cT zT).toArray) ⟨by go_grown, heap_at rfl⟩ ?_)
              rintro w16 ⟨hb16, A16⟩
              go_wp2_with fail
              refine (Len_any (HT15.out.below hb16).raw).mono ?_
              rintro en w17 ⟨rfl, hb17⟩
              have hb1 := bnext hb16 hb17
              go_wp2_with fail
              refine (Len_any (HTa15.out.below hb1).raw).mono ?_
              rintro en w18 ⟨rfl, hb18⟩
              have hb2 := bnext hb1 hb18
              rw [hLL]
              have A18 := A16.below (bnext (bnext (Below.refl _ _) hb17) hb18)
              have a0 := A18.cell 0
              simp only [List.getElem?_toArray, List.getElem?_cons_zero] at a0
              have lA := A18.lt
              clear hb16 hb17 hb18 hb1 A16
              go_wp2_with fail
              refine (Len_any (HT15.out.below hb2).raw).mono ?_
              rintro en w19 ⟨rfl, hb19⟩
              have hb3 := bnext hb2 hb19
              clear hb19 A18 a0 lA
              go_wp2_with fail
              refine (known_any _).mono ?_
              rintro en w20 ⟨rfl, hb20⟩
              have HBE := Lib.hid (HBF.out.trans ((bnext hb3 hb20).mono HBF.out.size))
              clear hb2 hb3 hb20
              go_wp2_with fail
              go_returns
              exact ⟨rfl, HBE.out⟩
            · obtain ⟨r, hr0⟩ : ∃ r, C[0]? = some r := ⟨_, List.getElem?_eq_getElem h0⟩
              have hd1 : decide (0 < C.length) = true := by simpa using h0
              have hd3 : decide ((0 : Int) < (C.length : Int)) = true := by simp; omega
              have hd2 : decide (last < r.a) = true := by
                have := HR2.out r ((HPE.out.mem_iff).2 (List.mem_of_getElem? hr0))
                simpa using this
              have hLL : LA3.length = C.length := HLN.out
              rw [hr0, Option.getD_some, hd1]
              clear hr0 h0
              go_upto_region 23 with (fail)
              (refine wp_at (fun w16 => Below w15.heap.size w15 w16 ∧ Blk w16 w15.heap.size 25 (cT r).toArray) ⟨by go_grown, heap_at rfl⟩ ?_)
              rintro w16 ⟨hb16, A16⟩
              go_wp2_with fail
              refine (Len_any (HT15.out.below hb16).raw).mono ?_
              rintro en w17 ⟨rfl, hb17⟩
              have hb1 := bnext hb16 hb17
              go_wp2_with fail
              refine (Len_any (HTa15.out.below hb1).raw).mono ?_
              rintro en w18 ⟨rfl, hb18⟩
              have hb2 := bnext hb1 hb18
              rw [hLL]
              have A18 := A16.below (bnext (bnext (Below.refl _ _) hb17) hb18)
              have a0 := A18.cell 0
              simp only [List.getElem?_toArray, List.getElem?_cons_zero] at a0
              have lA := A18.lt
              clear hb16 hb17 hb18 hb1 A16
              go_wp2_with fail
              refine (Len_any (HT15.out.below hb2).raw).mono ?_
              rintro en w19 ⟨rfl, hb19⟩
              have hb3 := bnext hb2 hb19
              clear hb19 A18 a0 lA
              go_wp2_with fail
              refine (known_any _).mono ?_
              rintro en w20 ⟨rfl, hb20⟩
              have HBE := Lib.hid (HBF.out.trans ((bnext hb3 hb20).mono HBF.out.size))
              clear hb2 hb3 hb20
              go_wp2_with fail
              go_returns
              exact ⟨rfl, HBE.out⟩
end Go.Proofs.Ytlmmcffbpdfcjaa
