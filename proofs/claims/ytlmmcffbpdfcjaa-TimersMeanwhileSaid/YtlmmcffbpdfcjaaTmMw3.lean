/- TimersMeanwhile: the walk. -/
import Derived.Test.YtlmmcffbpdfcjaaTmMw2
import Derived.Test.YtlmmcffbpdfcjaaTmPl3
import Derived.Test.YtlmmcffbpdfcjaaTmNil
import Derived.Test.YtlmmcffbpdfcjaaPart
import Derived.WalkMore
import Derived.LoopN
import Derived.Deep.CutBlock
set_option linter.unusedSimpArgs false
set_option linter.unusedVariables false
namespace Go.Proofs.Ytlmmcffbpdfcjaa
open Go.RowKit Go.Kp Go.ChangeMaps Go.Shelf

/-- What is to be called at the end stands. -/
def DefP (w : World) (s : Bs) (x : Qr) (B D : Nat) : Prop := w.heap[D]? = some (.deferred (some [])) ∧ D ∉ s.list ∧ ¬ x.foot D ∧ D < w.heap.size ∧ B ≤ D
theorem DefP.next {w w' : World} {s : Bs} {x x' : Qr} {B D : Nat} (h : DefP w s x B D) (hF : Fr (fun b => b ∈ s.list ∨ x.foot b) w w') (hft : ∀ b, x'.foot b → x.foot b ∨ w.heap.size ≤ b) : DefP w' s x' B D :=
  ⟨(hF.block D h.2.2.2.1 fun e => e.elim h.2.1 h.2.2.1).trans h.1, h.2.1, fun hf => (hft D hf).elim h.2.2.1 fun e => by have := h.2.2.2.1; omega, Nat.lt_of_lt_of_le h.2.2.2.1 hF.size, h.2.2.2.2⟩
/-- A statement that ends well alone. -/
theorem wp_only {P : Program} {s : Code} {K : Act → World → Prop} {Q' : Exit → Act → World → Prop} {a : Act} {w : World} (h : s.wp P (Exit.then K (fun _ _ _ => False)) a w) : s.wp P (Exit.then K Q') a w := by
  refine wp_mono h ?_
  intro e a' w' hq
  cases e with
  | normal => exact hq
  | exit id => exact hq.elim
  | goto l => exact hq.elim
  | ret => exact hq.elim
  | panic ch => exact hq.elim
  | outgrown => exact hq.elim

set_option maxRecDepth 100000 in
set_option maxHeartbeats 16000000 in
theorem mean (a : Option Addr) (n cap : Nat) (l : List Tm.T) (sa : Option Addr) (ns caps : Nat) (sc : List Stp) (w : World) (hl : l.length = n) (hn : n ≤ 3518437208780) (ha : a = none → cap = 0) (hr : Rd w w.heap.size a (l.flatMap cT)) (hok : ∀ x ∈ l, Ok x)
    (hsl : sc.length = ns) (hns : ns ≤ 1256584717493) (hsr : Rd w w.heap.size sa (sc.flatMap Stp.cells)) (hsok : ∀ s ∈ sc, s.ok) :
    Calls Try.prog 6 #[.slice a n cap, .slice sa ns caps] w (Ret (.bool true) w) := by
  have HL := Lib.hid hl
  have HA := Lib.hid ha
  have HR := Lib.hid hr
  have HO := Lib.hid hok
  have HSL := Lib.hid hsl
  have HSR := Lib.hid hsr
  have HSO := Lib.hid hsok
  clear hl ha hr hok hsl hsr hsok
  refine (callsIn_wide (n := 6)).1 ?_
  refine callsIn_of_wp_marks Try.func6 rfl trivial ?_ rfl
  simp only [Try.ntmps6, List.size_toArray, List.length_cons, List.length_nil, Nat.reduceAdd, Nat.reduceSub, Array.replicate_succ, Array.replicate_zero, List.push_toArray, List.append_toArray, List.nil_append, List.cons_append]
  refine wpIn_wide.2 ?_
  go_upto_region 1 with (fail)
  (refine wp_at (fun w1 => (Blk w1 w.heap.size 38 #[.slice sa ns caps] ∧ Blk w1 (w.heap.size + 1) 4 #[.bool false]) ∧ Below w.heap.size w w1) ⟨⟨by simp (disch := (first | omega | (simp only [World.size_alloc, World.size_setCell, World.size_drew] <;> omega) | fail)) only [Blk, heap_old, heap_at, heap_set_same, heap_set_ne, heap_drew', Option.map_some, putO_cells], by simp (disch := (first | omega | (simp only [World.size_alloc, World.size_setCell, World.size_drew] <;> omega) | fail)) only [Blk, heap_old, heap_at, heap_set_same, heap_set_ne, heap_drew', Option.map_some, putO_cells]⟩, by go_grown⟩ ?_)
  rintro w1 ⟨⟨B3, B4⟩, hB1⟩
  have HB1 := Lib.hid hB1
  have sz1 := hB1.size
  have hr1 := (HR.out.below hB1).more sz1
  have l4w := B4.lt
  clear hB1
  go_wp2_with fail
  refine (New_any a n cap l HL.out (by omega) hr1 HO.out).mono ?_
  rintro en w2 ⟨q, m, v, L, M, rfl, hN, hb2⟩
  have HN := Lib.hid hN
  have B3b := B3.below hb2
  have B4b := B4.below hb2
  have HB2 := Lib.hid (bnext HB1.out hb2)
  have sz2 := hb2.size
  clear hN hb2 B3 B4 HB1 hr1
  go_upto_region 4 with (fail)
  (refine wp_at (fun w3 => ((Blk w3 w2.heap.size 45 #[ptr q, ptr q, .slice none 0 0, .slice none 0 0, .slice none 0 0, .slice none 0 0] ∧ Blk w3 (w2.heap.size + 1) 39 #[ptr w2.heap.size]) ∧ Blk w3 (w2.heap.size + 2) 29 #[.slice none 0 0]) ∧ Below w2.heap.size w2 w3) ⟨⟨⟨by simp (disch := (first | omega | (simp only [World.size_alloc, World.size_setCell, World.size_drew] <;> omega) | fail)) only [Blk, heap_old, heap_at, heap_set_same, heap_set_ne, heap_drew', Option.map_some, putO_cells], by simp (disch := (first | omega | (simp only [World.size_alloc, World.size_setCell, World.size_drew] <;> omega) | fail)) only [Blk, heap_old, heap_at, heap_set_same, heap_set_ne, heap_drew', Option.map_some, putO_cells]⟩, by simp (disch := (first | omega | (simp only [World.size_alloc, World.size_setCell, World.size_drew] <;> omega) | fail)) only [Blk, heap_old, heap_at, heap_set_same, heap_set_ne, heap_drew', Option.map_some, putO_cells]⟩, by go_grown⟩ ?_)
  rintro w3 ⟨⟨⟨G3, B6⟩, B7⟩, hB3⟩
  have HB3 := Lib.hid hB3
  have B3c := B3b.below hB3
  have B4c := B4b.below hB3
  have sz3 := hB3.size
  have lb7 := B7.lt
  clear hB3 B3b B4b
  go_upto_block 0 with (fail)
  refine wp_only ?_
  go_wp2_with fail
  go_loopw [8] (fun vi wr => ∃ (k : Nat) (lv : Value), vi = .int .i64 k ∧ k ≤ n ∧ Blk wr (w2.heap.size + 2) 29 #[lv] ∧ wr.ownsRow w3.heap.size 25 4 lv (sof (l.take k)).length ((sof (l.take k)).flatMap cT) ∧ Fr (fun b => b = w2.heap.size + 2) w3 wr) (fun vi _ => n - (intOf vi).toNat)
  case atStart => exact ⟨0, .slice none 0 0, rfl, Nat.zero_le _, B7, World.ownsRow_nil _ _ _ _, Fr.refl _ _⟩
  case round =>
    rename World => wr
    obtain ⟨k, lv, rfl, hk, hB7, hown, hfr⟩ := hrel
    obtain ⟨al, cl, hlv, _⟩ := rd_row hown
    have hsl := sof_length (l.take k)
    rw [List.length_take, HL.out] at hsl
    have HOW := Lib.hid hown
    have HFR := Lib.hid hfr
    have szr := hfr.size
    have lb7r := hB7.lt
    have hbr : Below w2.heap.size w2 wr := HB3.out.trans (hfr.below (by rintro b rfl; omega) (by omega))
    have HBR := Lib.hid (bnext HB2.out hbr)
    clear hown hfr B7 hbr
    rcases Nat.lt_or_ge k n with hkl | hkg
    · generalize (sof (l.take k)).length = nl at hlv hsl
      subst hlv
      obtain ⟨x, hx⟩ : ∃ x, l[k]? = some x := ⟨_, List.getElem?_eq_getElem (by rw [HL.out]; exact hkl)⟩
      obtain ⟨ab, ao, rfl, hab, hac⟩ := rd_tms (HR.out.below HBR.out) (by rw [HL.out]; omega)
      obtain ⟨x0, x1, x2, x3⟩ := cells4 hac hx
      have habr : ab < wr.heap.size := by have := HBR.out.size; omega
      have HXI := Lib.hid (sof_take l k x hx)
      have g7 := hB7.cell 0
      simp only [List.getElem?_toArray, List.getElem?_cons_zero] at g7
      clear hac hx
      go_wp2_with (go_in)
      (refine region_keep (fun b => b = w2.heap.size + 2 ∨ b = ab) 6 [(0, true), (1, true), (2, true), (3, true), (4, true), (5, false)] (by kernel_rfl) (fun _ _ d _ _ h => by cases d <;> exact h) (by kernel_rfl) ?_; simp only [withOps, List.getElem?_toArray, List.getElem?_cons_zero, List.getElem?_cons_succ, List.drop_succ_cons, List.drop_zero])
      (iterate 5 (refine keep_quiet (v := ?_) rfl ?_ ?_; rotate_left; (focus (intro w' hw'; go_simp; (try with_reducible rfl); done)); try simp only [Act.put, List.setIfInBounds_toArray, List.set_cons_zero, List.set_cons_succ]))
      (with_reducible refine plan_loud (fun K hK => ?_))
      go_simp
      refine (Set_ref (w := wr.drew) w3.heap.size (.slice al nl cl) (sof (l.take k)) x (by exact HOW.out) (by show w3.heap.size ≤ wr.heap.size; omega) (sof_sorted _) (by have := sof_length (l.take k); rw [List.length_take, HL.out] at this; omega)).mono ?_
      rintro en w8 ⟨v', rfl, hmade⟩
      refine hK _ _ (fun b hb => hmade.2.2.block b (by rcases hb with rfl | rfl <;> assumption)) ?_
      clear hK K
      rw [← HXI.out] at hmade
      obtain ⟨a8, c8, hv8, _⟩ := rd_row hmade.1
      generalize (sof (l.take (k + 1))).length = n8 at hv8
      subst hv8
      have HM8 := Lib.hid (show MadeP wr w8 w3.heap.size (.slice al nl cl) (.slice a8 n8 c8) (sof (l.take (k + 1))) from ⟨hmade.1, hmade.2.1, bnext (by go_grown) hmade.2.2⟩)
      have G8 : Blk w8 (w2.heap.size + 2) 29 _ := (hmade.2.2.block _ lb7r).trans hB7
      have lG8 := G8.lt
      have f8 := G8.free 0
      have g8 := G8.cell 0
      clear hmade x0 x1 x2 x3 g7
      (with_reducible refine plan_end ?_)
      (try simp only [Act.put, List.setIfInBounds_toArray, List.set_cons_zero, List.set_cons_succ])
      go_wp2_with fail
      go_roundw
      case rel =>
        refine ⟨k + 1, .slice a8 n8 c8, by go_num, by omega, ?_, ?_, ?_⟩
        · unfold Blk at G8 ⊢
          rw [heap_set_same, G8]
          rfl
        · refine owns_same HM8.out.1 fun b hb => heap_set_ne _ _ _ _ _ fun e => ?_
          have := (HM8.out.1.lt b hb).1
          omega
        · exact (HFR.out.trans (Fr.next HM8.out.2.2)).set _ rfl
      case measure => simp [intOf]; omega
    · obtain rfl : k = n := by omega
      have hoi := HOW.out
      rw [List.take_of_length_le (by rw [HL.out]; exact Nat.le_refl _)] at hoi hlv
      have hsl2 := sof_length l
      rw [HL.out] at hsl2
      have HOI := Lib.hid hoi
      have HSL2 := Lib.hid hsl2
      clear hsl hoi hsl2 HOW
      have hft : ∀ b, foot q m v b → w1.heap.size ≤ b := HN.out.2.2
      have hfl : ∀ b, foot q m v b → b < w2.heap.size := HN.out.1.raw.lt
      have old : ∀ b, b < w3.heap.size → b ≠ w2.heap.size + 2 → wr.heap[b]? = w3.heap[b]? := fun b h1 h2 => HFR.out.block b h1 h2
      have hoko : (⟨q, m, v, L, M, sof l, lv⟩ : Qr).ok wr w.heap.size := by
        refine ⟨?_, fun t => (HN.out.2.1 t).trans (sof_mem l t).symm, sof_sorted l, owns_mono HOI.out (by omega), fun b hb => by have := hft b hb; omega, fun b hb hf => by have := (HOI.out.lt b hb).1; have := hfl b hf; omega, by have := HSL2.out; dsimp only; omega⟩
        exact (HN.out.1.below HB3.out).same fun b hb => old b (by have := hfl b hb; omega) (by have := hfl b hb; omega)
      have B3d : Blk wr w.heap.size 38 #[.slice sa ns caps] := (old _ (by omega) (by omega)).trans B3c
      have B4d : Blk wr (w.heap.size + 1) 4 #[.bool false] := (old _ (by omega) (by omega)).trans B4c
      have G3d : Blk wr w2.heap.size 45 #[ptr q, ptr q, .slice none 0 0, .slice none 0 0, .slice none 0 0, .slice none 0 0] := (old _ (by omega) (by omega)).trans G3
      have B6d : Blk wr (w2.heap.size + 1) 39 #[ptr w2.heap.size] := (old _ (by omega) (by omega)).trans B6
      have HLT := Lib.hid (show ∀ b, lv.ownBlock = some b → w3.heap.size ≤ b ∧ b < wr.heap.size from fun b hb => HOI.out.lt b hb)
      have HFT := Lib.hid (show ∀ b, foot q m v b → w1.heap.size ≤ b ∧ b < w2.heap.size from fun b hb => ⟨hft b hb, hfl b hb⟩)
      have HOK := Lib.hid hoko
      clear hft hfl old hoko B3c B4c G3 B6 HN HFR HOI hlv
      go_wp2_with fail
      refine (All_any (some ⟨q, 0, none⟩) _).mono ?_
      rintro en w4 ⟨rfl, hA4, hb4⟩
      have B3e := B3d.below hb4
      have B4e := B4d.below hb4
      have G3e := G3d.below hb4
      have B6e := B6d.below hb4
      have B7e := hB7.below hb4
      have HOK4 := Lib.hid (HOK.out.same (w' := w4) (fun b hb => hb4.block b (by have := (HFT.out b hb).2; omega)) (fun b hb => hb4.block b (HLT.out b hb).2))
      have HB4' := Lib.hid (bnext HBR.out hb4)
      have sz4 := hb4.size
      have lA4 := hA4.lt
      clear hb4 B3d B4d G3d B6d hB7 HOK HBR
      have hfn := func_nil #[.pointer (some ⟨wr.heap.size, 0, none⟩)]
      go_upto_region 12 with (fail)
      obtain ⟨S, hS⟩ : ∃ S : Bs, S = ⟨w.heap.size, w.heap.size + 1, w2.heap.size + 1, w2.heap.size + 2, w4.heap.size, w2.heap.size, wr.heap.size⟩ := ⟨_, rfl⟩
      obtain ⟨x0, hx0⟩ : ∃ x0 : Qr, x0 = ⟨q, m, v, L, M, sof l, lv⟩ := ⟨_, rfl⟩
      have HS := Lib.hid hS
      have HX0 := Lib.hid hx0
      clear hS hx0
      (refine wp_at (fun w5 => MwS w5 w.heap.size S (.slice sa ns caps) x0 0 (.slice none 0 0) (.slice none 0 0) ∧ Below w4.heap.size w4 w5) ⟨?_, by go_grown⟩ ?_)
      · have hb : Below w4.heap.size w4 (w4.alloc (.cells #[.int .i64 0] 3)) := by go_grown
        have hS := HS.out
        have hx0 := HX0.out
        subst hS hx0
        refine ⟨B3e.below hb, B4e.below hb, B6e.below hb, B7e.below hb, (show Blk (w4.alloc (.cells #[.int .i64 0] 3)) w4.heap.size 3 #[.int .i64 0] by simp (disch := (first | omega | (simp only [World.size_alloc, World.size_setCell, World.size_drew] <;> omega) | fail)) only [Blk, heap_old, heap_at, heap_set_same, heap_set_ne, heap_drew', Option.map_some, putO_cells]), G3e.below hb, hA4.below hb, HOK4.out.same (fun b hf => hb.block b (by have := (HFT.out b hf).2; omega)) (fun b hf => hb.block b (by have := (HLT.out b hf).2; omega)), ?_⟩
        intro b hb
        simp only [List.mem_cons, List.not_mem_nil, or_false] at hb
        refine ⟨fun hf => ?_, fun hf => ?_⟩
        · have := HFT.out b hf
          omega
        · have := HLT.out b hf
          omega
      rintro w5 ⟨M5, hB5⟩
      have M1 := Lib.hid M5
      have hnd : S.list.Nodup := by
        have hS := HS.out
        subst hS
        simp only [Bs.list, List.nodup_cons, List.mem_cons, List.not_mem_nil, or_false, not_or, List.nodup_nil, and_true, not_false_eq_true]
        omega
      have hBs : ∀ b ∈ S.list, w.heap.size ≤ b := by
        intro b hb
        have hS := HS.out
        subst hS
        simp only [List.mem_cons, List.not_mem_nil, or_false] at hb
        omega
      have HB1 := Lib.hid (bnext HB4'.out hB5)
      have hx5 : x0.S.length ≤ k + min 0 ns := by rw [HX0.out]; have := HSL2.out; dsimp only; omega
      have HX1 := Lib.hid hx5
      have HND := Lib.hid hnd
      have HBS := Lib.hid hBs
      clear M5 hB5 hx5 hnd hBs hfn B3e B4e G3e B6e B7e hA4 HOK4 HB4'
      go_wp2_with fail
      refine wp_loop_rounds 4 ?_
      rw [rounds_succ]
      go_upto_block 3 with (fail)
      (with_reducible refine wp_of_eq (c' := theBlock Try.f6 3) (by kernel_rfl) ?_)
      refine turn_any _ (w := w5) (B := w.heap.size) (N0 := k) (s := ⟨w.heap.size, w.heap.size + 1, w2.heap.size + 1, w2.heap.size + 2, w4.heap.size, w2.heap.size, wr.heap.size⟩) (x := x0) (at_ := 0) (d0 := (.slice none 0 0)) (d1 := (.slice none 0 0)) sa ns caps sc _ (by have h := M1.out; rw [HS.out] at h; exact h) (by have h := HND.out; rw [HS.out] at h; exact h) HB1.out.size (by have h := HBS.out; rw [HS.out] at h; exact h) HSL.out (HSR.out.below HB1.out) HSO.out HX1.out (by omega) (by omega) ?_
      intro y12 y13 y43 y44 y45 y99 y100 y101 y102 v1 D1 hT
      rw [← HS.out] at hT
      dsimp only
      obtain ⟨⟨x1, at1, e01, e11, hM, hq, hlen, hat1, hft, hnD⟩, hF, hD, hnew⟩ := hT
      have HD1 := Lib.hid (show DefP v1 S x1 w.heap.size D1 from ⟨hD, fun h => hnD (.inl h), fun h => hnD (.inr (.inl h)), (Array.getElem?_eq_some_iff.1 hD).1, Nat.le_trans HB1.out.size hnew⟩)
      have HL11 := Lib.hid (show D1 < v1.heap.size from HD1.out.2.2.2.1)
      have M2 := Lib.hid hM
      have HB2 := Lib.hid (HB1.out.trans (hF.below (fun b hb => hb.elim (HBS.out b) (M1.out.ok.ge b)) HB1.out.size))
      have HX2 := Lib.hid hlen
      clear hM hq hlen hft hnD hF hD hnew
      go_wp2_with fail
      rw [rounds_succ]
      go_upto_block 3 with (fail)
      (with_reducible refine wp_of_eq (c' := theBlock Try.f6 3) (by kernel_rfl) ?_)
      refine turn_any _ (w := v1) (B := w.heap.size) (N0 := k) (s := ⟨w.heap.size, w.heap.size + 1, w2.heap.size + 1, w2.heap.size + 2, w4.heap.size, w2.heap.size, wr.heap.size⟩) (x := x1) (at_ := at1) (d0 := e01) (d1 := e11) sa ns caps sc _ (by have h := M2.out; rw [HS.out] at h; exact h) (by have h := HND.out; rw [HS.out] at h; exact h) HB2.out.size (by have h := HBS.out; rw [HS.out] at h; exact h) HSL.out (HSR.out.below HB2.out) HSO.out HX2.out (by omega) (by omega) ?_
      intro y12 y13 y43 y44 y45 y99 y100 y101 y102 v2 D2 hT
      rw [← HS.out] at hT
      dsimp only
      obtain ⟨⟨x2, at2, e02, e12, hM, hq, hlen, hat2, hft, hnD⟩, hF, hD, hnew⟩ := hT
      have HD1 := Lib.hid (HD1.out.next hF hft)
      have HD2 := Lib.hid (show DefP v2 S x2 w.heap.size D2 from ⟨hD, fun h => hnD (.inl h), fun h => hnD (.inr (.inl h)), (Array.getElem?_eq_some_iff.1 hD).1, Nat.le_trans HB2.out.size hnew⟩)
      have n12 : D1 ≠ D2 := fun e => by have := HL11.out; omega
      have HL12 := Lib.hid (show D1 < v2.heap.size from HD1.out.2.2.2.1)
      have HL22 := Lib.hid (show D2 < v2.heap.size from HD2.out.2.2.2.1)
      have M3 := Lib.hid hM
      have HB3 := Lib.hid (HB2.out.trans (hF.below (fun b hb => hb.elim (HBS.out b) (M2.out.ok.ge b)) HB2.out.size))
      have HX3 := Lib.hid hlen
      clear hM hq hlen hft hnD hF hD hnew
      go_wp2_with fail
      rw [rounds_succ]
      go_upto_block 3 with (fail)
      (with_reducible refine wp_of_eq (c' := theBlock Try.f6 3) (by kernel_rfl) ?_)
      refine turn_any _ (w := v2) (B := w.heap.size) (N0 := k) (s := ⟨w.heap.size, w.heap.size + 1, w2.heap.size + 1, w2.heap.size + 2, w4.heap.size, w2.heap.size, wr.heap.size⟩) (x := x2) (at_ := at2) (d0 := e02) (d1 := e12) sa ns caps sc _ (by have h := M3.out; rw [HS.out] at h; exact h) (by have h := HND.out; rw [HS.out] at h; exact h) HB3.out.size (by have h := HBS.out; rw [HS.out] at h; exact h) HSL.out (HSR.out.below HB3.out) HSO.out HX3.out (by omega) (by omega) ?_
      intro y12 y13 y43 y44 y45 y99 y100 y101 y102 v3 D3 hT
      rw [← HS.out] at hT
      dsimp only
      obtain ⟨⟨x3, at3, e03, e13, hM, hq, hlen, hat3, hft, hnD⟩, hF, hD, hnew⟩ := hT
      have HD1 := Lib.hid (HD1.out.next hF hft)
      have HD2 := Lib.hid (HD2.out.next hF hft)
      have HD3 := Lib.hid (show DefP v3 S x3 w.heap.size D3 from ⟨hD, fun h => hnD (.inl h), fun h => hnD (.inr (.inl h)), (Array.getElem?_eq_some_iff.1 hD).1, Nat.le_trans HB3.out.size hnew⟩)
      have n13 : D1 ≠ D3 := fun e => by have := HL12.out; omega
      have n23 : D2 ≠ D3 := fun e => by have := HL22.out; omega
      have HL13 := Lib.hid (show D1 < v3.heap.size from HD1.out.2.2.2.1)
      have HL23 := Lib.hid (show D2 < v3.heap.size from HD2.out.2.2.2.1)
      have HL33 := Lib.hid (show D3 < v3.heap.size from HD3.out.2.2.2.1)
      have M4 := Lib.hid hM
      have HB4 := Lib.hid (HB3.out.trans (hF.below (fun b hb => hb.elim (HBS.out b) (M3.out.ok.ge b)) HB3.out.size))
      have HX4 := Lib.hid hlen
      clear hM hq hlen hft hnD hF hD hnew
      go_wp2_with fail
      rw [rounds_succ]
      go_wp2_with fail
      refine (known_any _).mono ?_
      rintro en w9 ⟨rfl, hb9⟩
      have c4 := M4.out.c4
      rw [HS.out] at c4
      have B4 := c4.below hb9
      have l4 := B4.lt
      have q4 := B4.cell 0
      have f4 := B4.free 0
      have HB9 := Lib.hid (bnext HB4.out hb9)
      have HB9' := Lib.hid hb9
      clear c4 hb9
      go_wp2_with fail
      have o1 : D1 ≠ w.heap.size + 1 := fun e => HD1.out.2.1 (by rw [HS.out]; simp [e])
      have o2 : D2 ≠ w.heap.size + 1 := fun e => HD2.out.2.1 (by rw [HS.out]; simp [e])
      have o3 : D3 ≠ w.heap.size + 1 := fun e => HD3.out.2.1 (by rw [HS.out]; simp [e])
      have k3 : (w9.setCell ⟨w.heap.size + 1, 0, none⟩ (.bool true)).heap[D3]? = some (.deferred (some [])) := (heap_set_ne _ _ _ _ _ o3).trans ((HB9'.out.block _ HD3.out.2.2.2.1).trans HD3.out.1)
      have k2 : ((w9.setCell ⟨w.heap.size + 1, 0, none⟩ (.bool true)).putObj D3 (.deferred none)).heap[D2]? = some (.deferred (some [])) := (World.putObj_heap_other n23).trans ((heap_set_ne _ _ _ _ _ o2).trans ((HB9'.out.block _ HD2.out.2.2.2.1).trans HD2.out.1))
      have k1 : (((w9.setCell ⟨w.heap.size + 1, 0, none⟩ (.bool true)).putObj D3 (.deferred none)).putObj D2 (.deferred none)).heap[D1]? = some (.deferred (some [])) := (World.putObj_heap_other n12).trans ((World.putObj_heap_other n13).trans ((heap_set_ne _ _ _ _ _ o1).trans ((HB9'.out.block _ HD1.out.2.2.2.1).trans HD1.out.1)))
      refine ⟨by simp, .inl ⟨_, _, rfl, run_takeDeferred k3, ?_⟩⟩
      refine ⟨by simp, .inl ⟨_, _, rfl, run_takeDeferred k2, ?_⟩⟩
      refine ⟨by simp, .inl ⟨_, _, rfl, run_takeDeferred k1, ?_⟩⟩
      have D8 : Blk ((((w9.setCell ⟨w.heap.size + 1, 0, none⟩ (.bool true)).putObj D3 (.deferred none)).putObj D2 (.deferred none)).putObj D1 (.deferred none)) (w.heap.size + 1) 4 #[.bool true] := (World.putObj_heap_other (fun e => o1 e.symm)).trans ((World.putObj_heap_other (fun e => o2 e.symm)).trans ((World.putObj_heap_other (fun e => o3 e.symm)).trans (by unfold Blk at B4; simp (disch := (first | omega | (simp only [World.size_alloc, World.size_setCell, World.size_drew] <;> omega) | fail)) only [Blk, heap_old, heap_at, heap_set_same, heap_set_ne, heap_drew', Option.map_some, putO_cells, B4]; rfl)))
      have hc8 := D8.cell 0
      have hfin : Fr (fun k => w.heap.size ≤ k) w9 ((((w9.setCell ⟨w.heap.size + 1, 0, none⟩ (.bool true)).putObj D3 (.deferred none)).putObj D2 (.deferred none)).putObj D1 (.deferred none)) :=
        ((((Fr.refl _ _).set _ (by omega)).trans ((OnlyB.put _ D3 _).1.mono fun q _ h => by have := HD3.out.2.2.2.2; omega)).trans ((OnlyB.put _ D2 _).1.mono fun q _ h => by have := HD2.out.2.2.2.2; omega)).trans ((OnlyB.put _ D1 _).1.mono fun q _ h => by have := HD1.out.2.2.2.2; omega)
      refine ⟨.bool true, ?_, rfl, HB9.out.trans (hfin.below (fun _ h => h) HB9.out.size)⟩
      simp [results, Try.f6, go_sem, hc8]
end Go.Proofs.Ytlmmcffbpdfcjaa
