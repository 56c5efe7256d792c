/- TimersPlay: the walk. -/
import Derived.Test.YtlmmcffbpdfcjaaTmPl3
import Derived.WalkMore
set_option linter.unusedSimpArgs false
set_option linter.unusedVariables false
namespace Go.Proofs.Ytlmmcffbpdfcjaa
open Go.RowKit Go.Kp Go.ChangeMaps

abbrev markT : Tm.T := ⟨0, ⟨#[109, 97, 114, 107]⟩, 0, 0⟩
abbrev nilW : Array Value := #[.pointer none, .pointer none, .slice none 0 0, .slice none 0 0, .slice none 0 0, .slice none 0 0]
theorem set_same {cs : Array Value} {i : Nat} {v : Value} (h : cs[i]? = some v) : cs.setIfInBounds i v = cs := by
  apply Array.ext_getElem?
  intro j
  rw [Array.getElem?_setIfInBounds]
  split
  · rename_i e
    subst e
    split
    · exact h.symm
    · rename_i h2
      rw [Array.getElem?_eq_none (by omega)]
  · rfl
theorem Stp.len (s : Stp) : s.cells.length = 12 := rfl

set_option maxRecDepth 100000 in
set_option maxHeartbeats 16000000 in
theorem play (a : Option Addr) (n cap : Nat) (l : List Tm.T) (sa : Option Addr) (ns caps : Nat) (sc : List Stp) (w : World) (hl : l.length = n) (hn : n ≤ 3518437208780) (ha : a = none → cap = 0) (hr : Rd w w.heap.size a (l.flatMap cT)) (hok : ∀ x ∈ l, Ok x)
    (hsl : sc.length = ns) (hns : ns ≤ 1256584717493) (hsr : Rd w w.heap.size sa (sc.flatMap Stp.cells)) (hsok : ∀ s ∈ sc, s.ok) :
    Calls Try.prog 5 #[.slice a n cap, .slice sa ns caps] w (Ret (.bool true) w) := by
  have HL := Lib.hid hl
  have HA := Lib.hid ha
  have HR := Lib.hid hr
  have HO := Lib.hid hok
  have HSL := Lib.hid hsl
  have HSR := Lib.hid hsr
  have HSO := Lib.hid hsok
  clear hl ha hr hok hsl hsr hsok
  go_enter Try.func5, Try.ntmps5
  go_upto_region 2 with (fail)
  (refine wp_at (fun w1 => PreS w1 w.heap.size w.heap.size 0 nilW [] (sof l) ∧ Below w.heap.size w w1) ⟨⟨heap_at rfl, rfl, rfl, rfl, rfl, fun j x h => by simp at h, by simp, fun j h1 h2 => ?_, List.Pairwise.nil, by simp, by simp, Nat.le_refl _⟩, by go_grown⟩ ?_)
  · have : j = 0 ∨ j = 1 := by omega
    rcases this with rfl | rfl <;> exact ⟨rfl, rfl⟩
  rintro w1 ⟨hP1, hB1⟩
  have HP1 := Lib.hid hP1
  have HB1 := Lib.hid hB1
  clear hP1 hB1
  go_wp2_with fail
  go_loopw [6] (fun vi wr => ∃ (k : Nat) (cs : Array Value) (xs : List Qr), vi = .int .i64 k ∧ k ≤ 2 ∧ PreS wr w.heap.size w.heap.size k cs xs (sof l) ∧ Below w.heap.size w wr) (fun vi _ => 2 - (intOf vi).toNat)
  case atStart => exact ⟨0, nilW, [], rfl, by omega, HP1.out, HB1.out⟩
  case round =>
    rename World => wo
    obtain ⟨k, cs, xs, rfl, hk, hP, hB⟩ := hrel
    have HP := Lib.hid hP
    have HB := Lib.hid hB
    have sz0 := hB.size
    have lG0 := hP.G.lt
    clear HP1 HB1 hP hB
    rcases Nat.lt_or_ge k 2 with hlt | hge
    · have hk2 : (k : Int) < 2 := by omega
      go_upto_region 5 with (fail)
      apply wp_region_lit
      iterate 1 (go_step; go_step; rename_i KK hKK; (with_reducible refine hKK _ _ ?_); clear hKK KK)
      refine append_tms rfl (.const (.slice none 0 0)) (.tmp 20) rfl wo.heap.size (.slice none 0 0) 0 [] rfl (World.ownsRow_nil _ _ _ _) a n cap l rfl HA.out HL.out ((HR.out.below HB.out).more sz0) (by omega) (Nat.le_refl _) ?_
      intro v2 w2 ho2 hg2 _
      rw [Nat.zero_add, List.nil_append] at ho2
      have hb2 : Below wo.heap.size wo w2 := below_of_grown (b := w2) (a := wo) ⟨hg2.os, hg2.tape, hg2.output, hg2.size, hg2.block⟩ (fun k hk => by cases hk)
      have HO2 := Lib.hid ho2
      have HB2 := Lib.hid hb2
      have sz2 := hb2.size
      clear ho2 hg2 hb2
      (try simp only [Act.put, List.setIfInBounds_toArray, List.set_cons_zero, List.set_cons_succ])
      iterate 2 (go_step; go_step; rename_i KK hKK; (with_reducible refine hKK _ _ ?_); clear hKK KK)
      refine append_tms rfl (.tmp 21) (.tmp 23) rfl wo.heap.size v2 n l rfl (HO2.out.alloc _) (some ⟨w2.heap.size, 0, none⟩) 1 1 [markT] rfl (fun h => by cases h) rfl ?_ (by omega) (by simp; omega) ?_
      · exact .inr ⟨w2.heap.size, 0, rfl, by simp, fun j u hu => by
          rw [Nat.zero_add]
          have hb : Blk (w2.alloc (.cells (cT markT).toArray 25 (0, 0))) w2.heap.size 25 (cT markT).toArray := heap_at rfl
          exact (hb.cell j).trans (by simpa using hu)⟩
      intro v3 w3 ho3 hg3 _
      have hb3 : Below wo.heap.size wo w3 := (HB2.out.trans ((show Below w2.heap.size w2 (w2.alloc (.cells (cT markT).toArray 25 (0, 0))) by go_grown).mono sz2)).grown hg3 (by simp; omega) (fun k hk => (HO2.out.lt k hk).1)
      obtain ⟨g3, c3, rfl, _⟩ := ho3.form (by omega)
      have hc3 := owns_cap ho3
      have HO3 := Lib.hid ho3
      have HB3 := Lib.hid hb3
      have sz3 := hb3.size
      clear ho3 hg3 hb3 HO2 HB2
      have hcf := fun w => cut_front (some ⟨g3, 0, none⟩) (n + 1) c3 n (by omega) w
      (try simp only [Act.put, List.setIfInBounds_toArray, List.set_cons_zero, List.set_cons_succ])
      go_upto_region 6 with (fail)
      clear hcf
      have lG3 : w.heap.size < w3.heap.size := Nat.lt_of_lt_of_le HP.out.G.lt sz3
      go_wp2_with (go_in)
      (refine region_keep (fun b => b = w.heap.size) 6 [(0, true), (1, true), (2, true), (4, true), (5, true), (3, false)] (by kernel_rfl) (fun _ _ d _ _ h => by cases d <;> exact h) (by kernel_rfl) ?_; simp only [withOps, List.getElem?_toArray, List.getElem?_cons_zero, List.getElem?_cons_succ, List.drop_succ_cons, List.drop_zero])
      (iterate 5 (refine keep_quiet (v := ?_) rfl ?_ ?_; rotate_left; (focus (intro w' hw'; go_simp; (try with_reducible rfl); done)); try simp only [Act.put, List.setIfInBounds_toArray, List.set_cons_zero, List.set_cons_succ]))
      (with_reducible refine plan_loud (fun K hK => ?_))
      go_simp
      obtain ⟨a3, k3, e3, hr3, _⟩ := rd_row HO3.out
      cases e3
      have hrf : Rd w3 w3.heap.size (some ⟨g3, 0, none⟩) (l.flatMap cT) := by
        have h := Rd.front hr3 n
        rw [← HL.out, List.take_left] at h
        exact h
      refine (New_any (some ⟨g3, 0, none⟩) n c3 l HL.out (by omega) (show Rd w3.drew w3.drew.heap.size _ _ from hrf) HO.out).mono ?_
      rintro en w4 ⟨q, m, v, L, M, rfl, hN, hb4⟩
      refine hK _ _ (fun b hb => hb4.block b (by rw [hb]; exact lG3)) ?_
      clear hK K
      have HN := Lib.hid (show NewP w3.heap.size w4 q m v L M l from hN)
      have HB4 := Lib.hid (show Below w3.heap.size w3 w4 from bnext (by go_grown) hb4)
      have sz4 := HB4.out.size
      have G4 : Blk w4 w.heap.size 45 cs := (HP.out.G.below HB3.out).below HB4.out
      have lG4 := G4.lt
      have f4 := G4.free k
      have g4 : w4.cell? ⟨w.heap.size, k, none⟩ = some (.pointer none) := (G4.cell k).trans (HP.out.rest k (Nat.le_refl _) hlt).1
      clear hN hb4 hr3 hrf
      (with_reducible refine plan_end ?_)
      (try simp only [Act.put, List.setIfInBounds_toArray, List.set_cons_zero, List.set_cons_succ])
      go_upto_region 7 with (fail)
      (refine wp_at (fun w5 => Blk w5 w.heap.size 45 (cs.setIfInBounds k (ptr q)) ∧ (∀ b, b ≠ w.heap.size → w5.heap[b]? = w4.heap[b]?) ∧ w5.heap.size = w4.heap.size ∧ w5.os = w4.os ∧ w5.tape = w4.tape ∧ w5.output = w4.output) ⟨?_, fun b hb => heap_set_ne _ _ _ _ _ hb, World.size_setCell _ _ _, rfl, rfl, rfl⟩ ?_)
      · unfold Blk at G4 ⊢
        rw [heap_set_same, G4]
        rfl
      rintro w5 ⟨G5, hk5, sz5, eos, eta, eou⟩
      have HK5 := Lib.hid hk5
      have HE5 := Lib.hid (And.intro eos (And.intro eta eou))
      have hg3l := (HO3.out.lt g3 rfl)
      have hg3w : g3 ≠ w.heap.size := by omega
      have HO5 := Lib.hid (show w5.ownsRow wo.heap.size 25 4 (.slice (some ⟨g3, 0, none⟩) (n + 1) c3) (n + 1) ((l ++ [markT]).flatMap cT) from owns_same (owns_below HO3.out HB4.out) fun b hb => hk5 b (by cases hb; exact hg3w))
      have HB5 := Lib.hid (show Below w.heap.size w w5 from (HB.out.trans ((HB3.out.mono sz0).trans (HB4.out.mono (Nat.le_trans sz0 sz3)))).trans ⟨eos, eta, eou, by omega, fun b hb => hk5 b (by omega)⟩)
      have HR5 := Lib.hid ((HR.out.below HB5.out).more HB5.out.size)
      have lG5 := G5.lt
      have g5 : w5.cell? ⟨w.heap.size, k, none⟩ = some (ptr q) := (G5.cell k).trans (by rw [Array.getElem?_setIfInBounds_self_of_lt (by have := HP.out.size; omega)])
      have hft : ∀ b, foot q m v b → w3.heap.size ≤ b := HN.out.2.2
      have HT5 := Lib.hid (show Tq w5 q m v L M from HN.out.1.same fun b hb => hk5 b (by have := hft b hb; omega))
      obtain ⟨a3, k3, e3, hr3, _⟩ := rd_row HO5.out
      cases e3
      have HRF := Lib.hid (show Rd w5 w5.heap.size (some ⟨g3, 0, none⟩) (l.flatMap cT) by
        have h := Rd.front hr3 n
        rw [← HL.out, List.take_left] at h
        exact h)
      clear hk5 eos eta eou hr3 f4 g4 G4 HO3
      go_wp2_with fail
      refine (Same_ref (some ⟨g3, 0, none⟩) a n c3 cap l w5 HL.out (by omega) HRF.out HR5.out).mono ?_
      rintro en w6 ⟨rfl, hb6⟩
      have HO6 := Lib.hid (owns_below HO5.out hb6)
      have HT6 := Lib.hid (HT5.out.below hb6)
      have HB6 := Lib.hid hb6
      have G6 := G5.below hb6
      have s6 := hb6.size
      obtain ⟨_, c1m, _, _⟩ := row_cells HO6.out (show (l ++ [markT]).length = n + 1 by simp [HL.out]) (i := n) (x := markT) (by rw [List.getElem?_append_right (by rw [HL.out]; exact Nat.le_refl _), HL.out, Nat.sub_self]; rfl)
      have hcf := fun w => cut_front (some ⟨g3, 0, none⟩) n c3 (n + 1) hc3 w
      have hni : ((n + 1 : Nat) : Int) = (n : Int) + 1 := by omega
      rw [hni] at hcf
      clear hb6 g5 hni
      go_wp2_with fail
      have HPN := Lib.hid (HP.out.rest k (Nat.le_refl _) hlt).2
      clear hcf c1m
      go_loopw [8] (fun vi wr => ∃ (i : Nat) (lv : Value) (ys : List Value), vi = .int .i64 i ∧ i ≤ n ∧ Blk wr w.heap.size 45 ((cs.setIfInBounds k (ptr q)).setIfInBounds (2 + k) lv) ∧ wr.ownsRow w6.heap.size 25 4 lv (sof (l.take i)).length ((sof (l.take i)).flatMap cT) ∧ wr.ownsRow wo.heap.size 25 4 (.slice (some ⟨g3, 0, none⟩) (n + 1) c3) (n + 1) ys ∧ Fr (fun b => b = w.heap.size ∨ b = g3) w6 wr) (fun vi _ => n - (intOf vi).toNat)
      case atStart =>
        refine ⟨0, .slice none 0 0, _, rfl, Nat.zero_le _, ?_, World.ownsRow_nil _ _ _ _, HO6.out, Fr.refl _ _⟩
        rw [set_same (by rw [Array.getElem?_setIfInBounds_ne (by omega)]; exact HPN.out)]
        exact G6
      case round =>
        obtain ⟨i, lv, ys, rfl, hi, hGi, hoi, hyi, hfi⟩ := hrel
        have HGI := Lib.hid hGi
        have HOI := Lib.hid hoi
        have HYI := Lib.hid hyi
        have HFI := Lib.hid hfi
        have szi := hfi.size
        obtain ⟨al, cl, hlv, _⟩ := rd_row hoi
        have hsl := sof_length (l.take i)
        rw [List.length_take, HL.out] at hsl
        generalize (sof (l.take i)).length = nl at hlv hsl
        subst hlv
        have hBi : Below w.heap.size w wr := (HB5.out.trans (HB6.out.mono HB5.out.size)).trans (hfi.below (by rintro b (rfl | rfl) <;> omega) (by have := HB5.out.size; omega))
        have HBI := Lib.hid hBi
        clear hGi hoi hyi hfi hBi
        rcases Nat.lt_or_ge i n with hil | hig
        · have hyl := HYI.out.1
          obtain ⟨y0, e0⟩ : ∃ y, ys[i * 4]? = some y := ⟨_, List.getElem?_eq_getElem (by omega)⟩
          obtain ⟨y1, e1⟩ : ∃ y, ys[i * 4 + 1]? = some y := ⟨_, List.getElem?_eq_getElem (by omega)⟩
          obtain ⟨y2, e2⟩ : ∃ y, ys[i * 4 + 2]? = some y := ⟨_, List.getElem?_eq_getElem (by omega)⟩
          obtain ⟨y3, e3⟩ : ∃ y, ys[i * 4 + 3]? = some y := ⟨_, List.getElem?_eq_getElem (by omega)⟩
          have c0 := (HYI.out.cellAt (i * 4) (by omega)).trans e0
          have c1 := (HYI.out.cellAt (i * 4 + 1) (by omega)).trans e1
          have c2 := (HYI.out.cellAt (i * 4 + 2) (by omega)).trans e2
          have c3' := (HYI.out.cellAt (i * 4 + 3) (by omega)).trans e3
          have hg1 := (HYI.out.lt g3 rfl).2
          have hfr := HYI.out.frozenAt
          clear e0 e1 e2 e3 hyl
          go_upto_region 13 with (fail)
          (refine wp_at (fun w7 => (∃ zs, w7.ownsRow wo.heap.size 25 4 (.slice (some ⟨g3, 0, none⟩) (n + 1) c3) (n + 1) zs) ∧ Fr (fun b => b = g3) wr w7) ⟨⟨_, ((((HYI.out.stored (i * 4) (.int .i64 (-99))).1.stored (i * 4 + 1) (.string ⟨#[]⟩)).1.stored (i * 4 + 2) (.int .i64 0)).1.stored (i * 4 + 3) (.int .i64 0)).1⟩, ((((Fr.refl (fun b => b = g3) wr).set _ rfl).set _ rfl).set _ rfl).set _ rfl⟩ ?_)
          rintro w7 ⟨⟨zs, hy7⟩, hf7⟩
          have HY7 := Lib.hid hy7
          have HF7 := Lib.hid hf7
          have s7 := hf7.size
          have hgl7 : ∀ b, (Value.slice al nl cl).ownBlock = some b → b ≠ g3 := fun b hb e => by
            have := (HOI.out.lt b hb).1
            omega
          have HO7 := Lib.hid (owns_same HOI.out fun b hb => hf7.block b (HOI.out.lt b hb).2 (hgl7 b hb))
          have G7 : Blk w7 w.heap.size 45 ((cs.setIfInBounds k (ptr q)).setIfInBounds (2 + k) (.slice al nl cl)) := (hf7.block _ HGI.out.lt (fun e => hg3w e.symm)).trans HGI.out
          have HB7 := Lib.hid (HBI.out.trans (hf7.below (by rintro b rfl; omega) HBI.out.size))
          obtain ⟨x, hx⟩ : ∃ x, l[i]? = some x := ⟨_, List.getElem?_eq_getElem (by rw [HL.out]; exact hil)⟩
          obtain ⟨ab, ao, rfl, hab, hac⟩ := rd_tms (HR.out.below HB7.out) (by rw [HL.out]; omega)
          obtain ⟨x0, x1, x2, x3⟩ := cells4 hac hx
          have hab7 : ab < w7.heap.size := by have := HB7.out.size; omega
          have HXI := Lib.hid (sof_take l i x hx)
          have g7 : w7.cell? ⟨w.heap.size, 2 + k, none⟩ = some (.slice al nl cl) := (G7.cell (2 + k)).trans (by rw [Array.getElem?_setIfInBounds_self_of_lt (by simp only [Array.size_setIfInBounds]; have := HP.out.size; omega)])
          have lG7 := G7.lt
          clear hac hx hy7 hf7 c0 c1 c2 c3' hfr hgl7
          go_wp2_with (go_in)
          (refine region_keep (fun b => b = w.heap.size ∨ b = ab) 15 [(0, true), (1, true), (2, true), (3, true), (4, true), (5, true), (6, true), (7, true), (8, true), (9, true), (10, true), (11, true), (13, true), (14, true), (12, false)] (by kernel_rfl) (fun _ _ d _ _ h => by cases d <;> exact h) (by kernel_rfl) ?_; simp only [withOps, List.getElem?_toArray, List.getElem?_cons_zero, List.getElem?_cons_succ, List.drop_succ_cons, List.drop_zero])
          (iterate 14 (refine keep_quiet (v := ?_) rfl ?_ ?_; rotate_left; (focus (intro w' hw'; go_simp; (try with_reducible rfl); done)); try simp only [Act.put, List.setIfInBounds_toArray, List.set_cons_zero, List.set_cons_succ]))
          (with_reducible refine plan_loud (fun K hK => ?_))
          go_simp
          refine (Set_ref (w := w7.drew) w6.heap.size (.slice al nl cl) (sof (l.take i)) x (by exact HO7.out) (by show w6.heap.size ≤ w7.heap.size; omega) (sof_sorted _) (by have := sof_length (l.take i); rw [List.length_take, HL.out] at this; omega)).mono ?_
          rintro en w8 ⟨v', rfl, hmade⟩
          refine hK _ _ (fun b hb => hmade.2.2.block b (by rcases hb with rfl | rfl <;> assumption)) ?_
          clear hK K
          rw [← HXI.out] at hmade
          obtain ⟨a8, c8, hv8, _⟩ := rd_row hmade.1
          generalize (sof (l.take (i + 1))).length = n8 at hv8
          subst hv8
          have HM8 := Lib.hid (show MadeP w7 w8 w6.heap.size (.slice al nl cl) (.slice a8 n8 c8) (sof (l.take (i + 1))) from ⟨hmade.1, hmade.2.1, bnext (by go_grown) hmade.2.2⟩)
          have G8 : Blk w8 w.heap.size 45 _ := (hmade.2.2.block _ lG7).trans G7
          have lG8 := G8.lt
          have f8 := G8.free (2 + k)
          have g8 := (G8.cell (2 + k)).trans (show ((cs.setIfInBounds k (ptr q)).setIfInBounds (2 + k) (.slice al nl cl))[2 + k]? = some (.slice al nl cl) by rw [Array.getElem?_setIfInBounds_self_of_lt (by simp only [Array.size_setIfInBounds]; have := HP.out.size; omega)])
          clear hmade x0 x1 x2 x3 g7
          (with_reducible refine plan_end ?_)
          (try simp only [Act.put, List.setIfInBounds_toArray, List.set_cons_zero, List.set_cons_succ])
          go_wp2_with fail
          go_roundw
          case rel =>
            refine ⟨i + 1, .slice a8 n8 c8, zs, by go_num, by omega, ?_, ?_, ?_, ?_⟩
            · unfold Blk at G8 ⊢
              rw [heap_set_same, G8]
              simp only [Option.map_some, putO_cells, Array.setIfInBounds_setIfInBounds]
            · refine owns_same HM8.out.1 fun b hb => heap_set_ne _ _ _ _ _ fun e => ?_
              have := (HM8.out.1.lt b hb).1
              have := HB5.out.size
              omega
            · refine owns_same (owns_below HY7.out HM8.out.2.2) fun b hb => heap_set_ne _ _ _ _ _ fun e => ?_
              cases hb
              exact hg3w e
            · exact (HFI.out.trans ((HF7.out.mono fun b _ e => .inr e).trans (Fr.next HM8.out.2.2))).set _ (.inl rfl)
          case measure => simp [intOf]; omega
        · obtain rfl : i = n := by omega
          have hfin : PreS wr w.heap.size w.heap.size (k + 1) ((cs.setIfInBounds k (ptr q)).setIfInBounds (2 + k) (.slice al nl cl)) (xs ++ [⟨q, m, v, L, M, sof l, .slice al nl cl⟩]) (sof l) := by
            have hft : ∀ b, foot q m v b → w3.heap.size ≤ b := HN.out.2.2
            have hoi := HOI.out
            rw [List.take_of_length_le (by rw [HL.out]; exact Nat.le_refl _)] at hoi
            refine HP.out.more hlt ⟨q, m, v, L, M, sof l, .slice al nl cl⟩ ⟨?_, ?_, sof_sorted l, ?_, ?_, ?_, ?_⟩ rfl ?_ HGI.out ?_ ?_
            · refine HT6.out.same fun b hb => HFI.out.block b (HT6.out.raw.lt b hb) fun h => ?_
              have := hft b hb
              rcases h with rfl | rfl <;> omega
            · exact fun t => (HN.out.2.1 t).trans (sof_mem l t).symm
            · exact owns_mono hoi (by have := HB5.out.size; omega)
            · exact fun b hb => by have := hft b hb; omega
            · exact fun b hb hf => by have := (hoi.lt b hb).1; have := HT6.out.raw.lt b hf; omega
            · have := sof_length l; rw [HL.out] at this; dsimp only; omega
            · intro b hb hne
              have h1 := HFI.out.block b (by omega) (fun h => by rcases h with rfl | rfl <;> omega)
              have h2 := HB6.out.block b (by omega)
              have h3 := HK5.out b hne
              have h4 := HB4.out.block b (by omega)
              have h5 := HB3.out.block b hb
              exact h1.trans (h2.trans (h3.trans (h4.trans h5)))
            · exact fun b hb => by have := hft b hb; omega
            · exact fun b hb => by have := (hoi.lt b hb).1; omega
          have HFN := Lib.hid hfin
          clear hfin
          go_wp2_with fail
          go_roundw
          case rel => exact ⟨k + 1, _, _, by go_num, by omega, HFN.out, HBI.out⟩
          case measure => simp [intOf]; omega
    · obtain rfl : k = 2 := by omega
      obtain ⟨x, y, hPl, hxS, hyS⟩ := HP.out.done
      have HPL := Lib.hid hPl
      have hfl := sof_length l
      rw [HL.out] at hfl
      have HX0 := Lib.hid (show x.S.length ≤ n by rw [hxS]; exact hfl)
      have HY0 := Lib.hid (show y.S.length ≤ n by rw [hyS]; exact hfl)
      clear hPl hxS hyS hfl HP
      go_upto_region 14 with (fail)
      simp only [Int.cast_ofNat_Int]
      (refine wp_at (fun w2 => (∃ (k : Nat) (cs : Array Value) (x y : Qr) (olds : List Qr) (vold vwas : Value), PlayS w2 w.heap.size w.heap.size cs k x y olds vold vwas ∧ x.S.length ≤ n ∧ y.S.length ≤ n) ∧ Below w.heap.size w w2) ⟨⟨_, _, x, y, [], _, _, HPL.out, HX0.out, HY0.out⟩, HB.out⟩ ?_)
      rintro w2 ⟨hP2, hB2⟩
      have HP2 := Lib.hid hP2
      have HB2 := Lib.hid hB2
      clear hP2 hB2 HPL HX0 HY0 HB
      go_wp2_with fail
      go_loopw [9] (fun vi wr => ∃ i : Nat, vi = .int .i64 i ∧ i ≤ ns ∧ (∃ (k : Nat) (cs : Array Value) (x y : Qr) (olds : List Qr) (vold vwas : Value), PlayS wr w.heap.size w.heap.size cs k x y olds vold vwas ∧ x.S.length ≤ n + i ∧ y.S.length ≤ n + i) ∧ Below w.heap.size w wr) (fun vi _ => ns - (intOf vi).toNat)
      case atStart => exact ⟨0, rfl, Nat.zero_le _, HP2.out, HB2.out⟩
      case round =>
        obtain ⟨i, rfl, hi, ⟨k, cs, x, y, olds, vold, vwas, hP, hx, hy⟩, hB⟩ := hrel
        have HB3 := Lib.hid hB
        clear HP2 HB2
        rcases Nat.lt_or_ge i ns with hil | hig
        · obtain ⟨s, hs⟩ : ∃ s, sc[i]? = some s := ⟨_, List.getElem?_eq_getElem (by rw [HSL.out]; exact hil)⟩
          have HSK := Lib.hid (HSO.out s (List.mem_of_getElem? hs))
          obtain ⟨b, off, rfl, hbb, hbc⟩ := stp_at (HSR.out.below hB) hs
          have hbw : b < wr.heap.size := Nat.lt_of_lt_of_le hbb hB.size
          obtain ⟨k', hk', x', y', hP', hx', hy'⟩ : ∃ k' : Nat, s.on % 2 = k' ∧ ∃ x' y', PlayS wr w.heap.size w.heap.size cs k' x' y' olds vold vwas ∧ x'.S.length ≤ n + i ∧ y'.S.length ≤ n + i := by
            have hk := hP.kk
            by_cases e : s.on % 2 = (k : Int)
            · exact ⟨k, e, x, y, hP, hx, hy⟩
            · exact ⟨1 - k, by omega, y, x, hP.swap, hy, hx⟩
          have HPS := Lib.hid hP'
          have HON := Lib.hid hk'
          have b0 := hbc 0 (by omega)
          have b1 := hbc 1 (by omega)
          have b2 := hbc 2 (by omega)
          have b3 := hbc 3 (by omega)
          have b4 := hbc 4 (by omega)
          have b5 := hbc 5 (by omega)
          have b6 := hbc 6 (by omega)
          have b7 := hbc 7 (by omega)
          have b8 := hbc 8 (by omega)
          have b9 := hbc 9 (by omega)
          have b10 := hbc 10 (by omega)
          have b11 := hbc 11 (by omega)
          simp only [Nat.add_zero, List.getElem?_cons_zero, List.getElem?_cons_succ] at b0 b1 b2 b3 b4 b5 b6 b7 b8 b9 b10 b11
          clear hbc hs hP hP' hk' hB hx hy
          go_wp2_with fail
          refine (play_step HPS.out HB3.out.size s HSK.out HON.out hx' hy' (by omega)).mono ?_
          rintro en w3 ⟨rfl, cs3, x3, olds3, vo3, vw3, hP3, hx3, hy3, hf3⟩
          have HP3 := Lib.hid (show ∃ (k : Nat) (cs : Array Value) (x y : Qr) (olds : List Qr) (vold vwas : Value), PlayS w3 w.heap.size w.heap.size cs k x y olds vold vwas ∧ x.S.length ≤ n + (i + 1) ∧ y.S.length ≤ n + (i + 1) from ⟨k', cs3, x3, y', olds3, vo3, vw3, hP3, hx3, hy3⟩)
          have HB4 := Lib.hid (HB3.out.trans (hf3.below (fun _ h => h) HB3.out.size))
          clear hP3 hx3 hy3 hf3 b0 b1 b2 b3 b4 b5 b6 b7 b8 b9 b10 b11
          go_wp2_with fail
          go_roundw
          case rel => exact ⟨i + 1, by go_num, by omega, HP3.out, HB4.out⟩
          case measure => simp [intOf]; omega
        · obtain rfl : i = ns := by omega
          have hF : ∃ (cs : Array Value) (Z : List Qr) (m : Nat) (vold vwas : Value), FinS wr w.heap.size w.heap.size cs Z m m m vold vwas := by
            have hk := hP.kk
            have : k = 0 ∨ k = 1 := by omega
            rcases this with rfl | rfl
            · exact ⟨_, _, _, _, _, hP.fin⟩
            · exact ⟨_, _, _, _, _, hP.swap.fin⟩
          obtain ⟨cs0, Z, m, vo0, vw0, hF⟩ := hF
          have HF0 := Lib.hid hF
          clear hP hB hF
          go_upto_region 20 with (fail)
          go_wp2_with fail
          go_loopw [11] (fun vi wr => ∃ (j : Nat) (cs : Array Value) (vold vwas : Value), vi = .int .i64 j ∧ j ≤ 2 ∧ FinS wr w.heap.size w.heap.size cs Z m (m + j) (m + j) vold vwas ∧ Below w.heap.size w wr) (fun vi _ => 2 - (intOf vi).toNat)
          case atStart => exact ⟨0, cs0, vo0, vw0, rfl, by omega, HF0.out, HB3.out⟩
          case round =>
            obtain ⟨j, cs, vold, vwas, rfl, hj, hF, hB⟩ := hrel
            have HF := Lib.hid hF
            have HB := Lib.hid hB
            clear HF0 HB3
            rcases Nat.lt_or_ge j 2 with hjl | hjg
            · obtain ⟨z, hz, hcq, hcl⟩ := hF.at_ j hjl
              obtain ⟨ao, co, rfl, _⟩ : ∃ ao co, vold = .slice ao (m + j) co ∧ True := by
                rcases hF.ro.2 with ⟨h1, h2⟩ | ⟨g, cap, cur, h1, _⟩
                · exact ⟨none, 0, by rw [h1, h2], trivial⟩
                · exact ⟨_, _, h1, trivial⟩
              have gq := (hF.G.cell j).trans hcq
              have gl := (hF.G.cell (2 + j)).trans hcl
              have go4 := (hF.G.cell 4).trans hF.co
              have lG := hF.G.lt
              have f4 := hF.G.free 4
              have hml := hF.ml
              have hjj : (j : Int) < 2 := by omega
              have HZ := Lib.hid hz
              have HCL := Lib.hid hcl
              clear hF hB hz
              go_upto_region 23 with (fail)
              go_wp2_with (go_in)
              (refine region_keep (fun b => b = w.heap.size) 13 [(0, true), (1, true), (2, true), (3, true), (4, true), (5, true), (6, true), (7, true), (8, true), (9, true), (10, true), (11, false), (12, false)] (by kernel_rfl) (fun _ _ d _ _ h => by cases d <;> exact h) (by kernel_rfl) ?_; simp only [withOps, List.getElem?_toArray, List.getElem?_cons_zero, List.getElem?_cons_succ, List.drop_succ_cons, List.drop_zero])
              (iterate 11 (refine keep_quiet (v := ?_) rfl ?_ ?_; rotate_left; (focus (intro w' hw'; go_simp; (try with_reducible rfl); done)); try simp only [Act.put, List.setIfInBounds_toArray, List.set_cons_zero, List.set_cons_succ]))
              (with_reducible refine plan_loud (fun K hK => ?_))
              go_simp
              refine hK _ _ ?_ ?_
              · exact (Keep.refl _ _).alloc (by rintro b rfl; exact lG) _
              clear hK K
              (try simp only [Act.put, List.setIfInBounds_toArray, List.set_cons_zero, List.set_cons_succ])
              (with_reducible refine plan_loud (fun K hK => ?_))
              simp only [Region.wanted, if_pos]
              refine wp_append_row (.tmp 109) (.tmp 116) 42 30 (.pointer none) 1 8 infoP Try.underlying42 rfl (by omega) rfl w.heap.size (.slice ao (m + j) co) (m + j) _ rfl ((HF.out.ro.alloc _)) ⟨wr.heap.size, 0, none⟩ 1 1 [ptr z.q] rfl rfl ?_ ?_ (by unfold maxLen; omega) (by omega) (by have := HB.out.size; simp; omega) ?_
              · intro j u hu
                rw [Go.WideShapes.add_plain, Nat.zero_add]
                have hb : Blk ((wr.alloc (.cells #[ptr z.q] 30 (0, 0))).drew) wr.heap.size 30 #[ptr z.q] := heap_at rfl
                exact (hb.cell j).trans (by simpa using hu)
              · intro u hu; simp at hu; subst hu; rfl
              intro v2 w2 ho2 hg2 hv2
              have hb1 : Below wr.heap.size wr ((wr.alloc (.cells #[ptr z.q] 30 (0, 0))).drew) := by go_grown
              have hng : (Value.slice ao (m + j) co).ownBlock ≠ some w.heap.size := fun e => (HF.out.of_ _ e).1 rfl
              have hk2 : ∀ b, b < wr.heap.size → (Value.slice ao (m + j) co).ownBlock ≠ some b → w2.heap[b]? = wr.heap[b]? := fun b h1 h2 => (hg2.block b (Nat.lt_of_lt_of_le h1 hb1.size) (fun e => h2 e.symm)).trans (hb1.block b h1)
              refine hK _ _ (fun b hb => by subst hb; exact hg2.block _ (by have := hb1.size; omega) (fun e => hng e.symm)) ?_
              clear hK K
              obtain ⟨g2, c2, hv2f, _⟩ := ho2.form (by omega)
              have HV2 := Lib.hid (show v2.ownBlock = (Value.slice ao (m + j) co).ownBlock ∨ ∀ n, v2.ownBlock = some n → wr.heap.size ≤ n from hv2.imp id fun e n hn => by rw [e] at hn; cases hn; simp)
              have HO2 := Lib.hid ho2
              have HK2 := Lib.hid hk2
              have s2 : wr.heap.size ≤ w2.heap.size := Nat.le_trans hb1.size hg2.size
              have G2 : Blk w2 w.heap.size 45 cs := (hk2 _ lG hng).trans HF.out.G
              have HE2 := Lib.hid (show w2.os = wr.os ∧ w2.tape = wr.tape ∧ w2.output = wr.output from ⟨hg2.os.trans hb1.os, hg2.tape.trans hb1.tape, hg2.output.trans hb1.output⟩)
              have f2 := G2.free 4
              have l2 := G2.lt
              have k4 := (G2.cell 4).trans HF.out.co
              subst hv2f
              clear ho2 hg2 hv2 hb1 hng hk2 gq gl go4 f4
              (with_reducible refine plan_end ?_)
              (try simp only [Act.put, List.setIfInBounds_toArray, List.set_cons_zero, List.set_cons_succ])
              go_upto_region 24 with (fail)
              have hF3 : FinS (w2.setCell ⟨w.heap.size, 4, none⟩ (.slice (some ⟨g2, 0, none⟩) (m + j + 1) c2)) w.heap.size w.heap.size (cs.setIfInBounds 4 (.slice (some ⟨g2, 0, none⟩) (m + j + 1) c2)) Z m (m + j + 1) (m + j) (.slice (some ⟨g2, 0, none⟩) (m + j + 1) c2) vwas := by
                refine HF.out.pushO z HZ.out (fun b h1 h2 h3 => (heap_set_ne _ _ _ _ _ h2).trans (HK2.out b h1 h3)) ?_ ?_ HV2.out
                · unfold Blk at G2 ⊢
                  rw [heap_set_same, G2]
                  rfl
                · refine owns_same HO2.out fun b hb => heap_set_ne _ _ _ _ _ fun e => ?_
                  subst e
                  rcases HV2.out with h | h
                  · rw [h] at hb; exact (HF.out.of_ _ hb).1 rfl
                  · have := h _ hb; omega
              (refine wp_at (fun w3 => FinS w3 w.heap.size w.heap.size (cs.setIfInBounds 4 (.slice (some ⟨g2, 0, none⟩) (m + j + 1) c2)) Z m (m + j + 1) (m + j) (.slice (some ⟨g2, 0, none⟩) (m + j + 1) c2) vwas ∧ Below w.heap.size w w3) ⟨hF3, ?_⟩ ?_)
              · refine HB.out.trans ⟨HE2.out.1, HE2.out.2.1, HE2.out.2.2, by rw [World.size_setCell]; exact s2, fun b hb => (heap_set_ne _ _ _ _ _ (by omega)).trans (HK2.out b (by omega) fun e => ?_)⟩
                have := (HF.out.ro.lt b e).1
                omega
              rintro w3 ⟨hF3, hB3⟩
              have HF3 := Lib.hid hF3
              have HB3 := Lib.hid hB3
              obtain ⟨aw, cw, rfl, _⟩ : ∃ aw cw, vwas = .slice aw (m + j) cw ∧ True := by
                rcases hF3.rw_.2 with ⟨h1, h2⟩ | ⟨g, cap, cur, h1, _⟩
                · exact ⟨none, 0, by rw [h1, h2], trivial⟩
                · exact ⟨_, _, h1, trivial⟩
              obtain ⟨az, cz, hzl, _⟩ := rd_row (HF.out.ok z (List.mem_of_getElem? HZ.out)).list
              generalize z.S.length = nz at hzl
              have HZL := Lib.hid hzl
              have gl : w3.cell? ⟨w.heap.size, 2 + j, none⟩ = some (.slice az nz cz) := (hF3.G.cell (2 + j)).trans (by rw [Array.getElem?_setIfInBounds_ne (by omega), HCL.out, hzl])
              have go5 := (hF3.G.cell 5).trans hF3.cw
              have lG3 := hF3.G.lt
              clear HF HK2 HO2 HV2 HE2 G2 f2 l2 k4 hF3 hB3 hzl s2
              go_wp2_with (go_in)
              (refine region_keep (fun b => b = w.heap.size) 13 [(0, true), (1, true), (2, true), (3, true), (4, true), (5, true), (6, true), (7, true), (8, true), (9, true), (10, true), (11, false), (12, false)] (by kernel_rfl) (fun _ _ d _ _ h => by cases d <;> exact h) (by kernel_rfl) ?_; simp only [withOps, List.getElem?_toArray, List.getElem?_cons_zero, List.getElem?_cons_succ, List.drop_succ_cons, List.drop_zero])
              (iterate 11 (refine keep_quiet (v := ?_) rfl ?_ ?_; rotate_left; (focus (intro w' hw'; go_simp; (try with_reducible rfl); done)); try simp only [Act.put, List.setIfInBounds_toArray, List.set_cons_zero, List.set_cons_succ]))
              (with_reducible refine plan_loud (fun K hK => ?_))
              go_simp
              refine hK _ _ ?_ ?_
              · exact (Keep.refl _ _).alloc (by rintro b rfl; exact lG3) _
              clear hK K
              (try simp only [Act.put, List.setIfInBounds_toArray, List.set_cons_zero, List.set_cons_succ])
              (with_reducible refine plan_loud (fun K hK => ?_))
              simp only [Region.wanted, if_pos]
              refine wp_append_row (.tmp 124) (.tmp 131) 43 29 (.slice none 0 0) 1 24 infoS Try.underlying43 rfl (by omega) rfl w.heap.size (.slice aw (m + j) cw) (m + j) _ rfl ((HF3.out.rw_.alloc _)) ⟨w3.heap.size, 0, none⟩ 1 1 [.slice az nz cz] rfl rfl ?_ ?_ (by unfold maxLen; omega) (by omega) (by have := HB3.out.size; simp; omega) ?_
              · intro j u hu
                rw [Go.WideShapes.add_plain, Nat.zero_add]
                have hb : Blk ((w3.alloc (.cells #[.slice az nz cz] 29 (0, 0))).drew) w3.heap.size 29 #[.slice az nz cz] := heap_at rfl
                exact (hb.cell j).trans (by simpa using hu)
              · intro u hu; simp at hu; subst hu; rfl
              intro v4 w4 ho4 hg4 hv4
              have hb3 : Below w3.heap.size w3 ((w3.alloc (.cells #[.slice az nz cz] 29 (0, 0))).drew) := by go_grown
              have hng : (Value.slice aw (m + j) cw).ownBlock ≠ some w.heap.size := fun e => (HF3.out.wf _ e).1 rfl
              have hk4 : ∀ b, b < w3.heap.size → (Value.slice aw (m + j) cw).ownBlock ≠ some b → w4.heap[b]? = w3.heap[b]? := fun b h1 h2 => (hg4.block b (Nat.lt_of_lt_of_le h1 hb3.size) (fun e => h2 e.symm)).trans (hb3.block b h1)
              refine hK _ _ (fun b hb => by subst hb; exact hg4.block _ (by have := hb3.size; omega) (fun e => hng e.symm)) ?_
              clear hK K
              obtain ⟨g4, c4, hv4f, _⟩ := ho4.form (by omega)
              have HV4 := Lib.hid (show v4.ownBlock = (Value.slice aw (m + j) cw).ownBlock ∨ ∀ n, v4.ownBlock = some n → w3.heap.size ≤ n from hv4.imp id fun e n hn => by rw [e] at hn; cases hn; simp)
              have HO4 := Lib.hid ho4
              have HK4 := Lib.hid hk4
              have s4 : w3.heap.size ≤ w4.heap.size := Nat.le_trans hb3.size hg4.size
              have G4 : Blk w4 w.heap.size 45 (cs.setIfInBounds 4 (.slice (some ⟨g2, 0, none⟩) (m + j + 1) c2)) := (hk4 _ lG3 hng).trans HF3.out.G
              have HE4 := Lib.hid (show w4.os = w3.os ∧ w4.tape = w3.tape ∧ w4.output = w3.output from ⟨hg4.os.trans hb3.os, hg4.tape.trans hb3.tape, hg4.output.trans hb3.output⟩)
              have f4 := G4.free 5
              have l4 := G4.lt
              have k5 := (G4.cell 5).trans HF3.out.cw
              subst hv4f
              clear ho4 hg4 hv4 hb3 hng hk4 gl go5
              (with_reducible refine plan_end ?_)
              (try simp only [Act.put, List.setIfInBounds_toArray, List.set_cons_zero, List.set_cons_succ])
              go_wp2_with fail
              have hF5 : FinS (w4.setCell ⟨w.heap.size, 5, none⟩ (.slice (some ⟨g4, 0, none⟩) (m + j + 1) c4)) w.heap.size w.heap.size ((cs.setIfInBounds 4 (.slice (some ⟨g2, 0, none⟩) (m + j + 1) c2)).setIfInBounds 5 (.slice (some ⟨g4, 0, none⟩) (m + j + 1) c4)) Z m (m + j + 1) (m + j + 1) (.slice (some ⟨g2, 0, none⟩) (m + j + 1) c2) (.slice (some ⟨g4, 0, none⟩) (m + j + 1) c4) := by
                refine HF3.out.pushW z HZ.out (fun b h1 h2 h3 => (heap_set_ne _ _ _ _ _ h2).trans (HK4.out b h1 h3)) ?_ ?_ HV4.out
                · unfold Blk at G4 ⊢
                  rw [heap_set_same, G4]
                  rfl
                · rw [HZL.out]
                  refine owns_same HO4.out fun b hb => heap_set_ne _ _ _ _ _ fun e => ?_
                  subst e
                  rcases HV4.out with h | h
                  · rw [h] at hb; exact (HF3.out.wf _ hb).1 rfl
                  · have := h _ hb; omega
              have hB5 : Below w.heap.size w (w4.setCell ⟨w.heap.size, 5, none⟩ (.slice (some ⟨g4, 0, none⟩) (m + j + 1) c4)) := by
                refine HB3.out.trans ⟨HE4.out.1, HE4.out.2.1, HE4.out.2.2, by rw [World.size_setCell]; exact s4, fun b hb => (heap_set_ne _ _ _ _ _ (by omega)).trans (HK4.out b (by omega) fun e => ?_)⟩
                have := (HF3.out.rw_.lt b e).1
                omega
              have HF5 := Lib.hid hF5
              have HB5 := Lib.hid hB5
              clear hF5 hB5 G4 f4 k5
              go_roundw
              case rel => exact ⟨j + 1, _, _, _, by go_num, by omega, HF5.out, HB5.out⟩
              case measure => simp [intOf]; omega
            · obtain rfl : j = 2 := by omega
              go_upto_region 25 with (fail)
              simp only [Int.cast_ofNat_Int]
              have hzl := hF.len
              obtain ⟨N, hN⟩ : ∃ N, m + 2 = N := ⟨_, rfl⟩
              have hml := hF.ml
              rw [hN] at hF hzl
              clear HF
              have HF := Lib.hid hF
              have hNb : N ≤ 24 := by omega
              obtain ⟨og, oc, rfl, _⟩ := hF.ro.form (by omega)
              obtain ⟨wg, wc, rfl, _⟩ := hF.rw_.form (by omega)
              clear hF hB hN hml
              (refine wp_at (fun w3 => FinS w3 w.heap.size w.heap.size cs Z m N N (.slice (some ⟨og, 0, none⟩) N oc) (.slice (some ⟨wg, 0, none⟩) N wc) ∧ Below w.heap.size w w3) ⟨HF.out, HB.out⟩ ?_)
              rintro w3 ⟨hF3, hB3⟩
              have HF3 := Lib.hid hF3
              have HB3 := Lib.hid hB3
              clear hF3 hB3 HF HB
              go_wp2_with fail
              go_loopw [12] (fun vi wr => ∃ i : Nat, vi = .int .i64 i ∧ i ≤ N ∧ Below w3.heap.size w3 wr) (fun vi _ => N - (intOf vi).toNat)
              case atStart => exact ⟨0, rfl, Nat.zero_le _, Below.refl _ _⟩
              case round =>
                obtain ⟨i, rfl, hi, hB⟩ := hrel
                have HF := Lib.hid (HF3.out.below hB)
                have HB := Lib.hid hB
                have k4 := (HF.out.G.cell 4).trans HF.out.co
                have k5 := (HF.out.G.cell 5).trans HF.out.cw
                have lG := HF.out.G.lt
                rcases Nat.lt_or_ge i N with hil | hig
                · obtain ⟨z, hz⟩ : ∃ z, Z[i]? = some z := ⟨_, List.getElem?_eq_getElem (by omega)⟩
                  have hzo := HF.out.ok z (List.mem_of_getElem? hz)
                  have e0 : wr.cell? ⟨og, i, none⟩ = some (ptr z.q) := (HF.out.ro.cellAt i (by omega)).trans (by rw [List.getElem?_map, List.getElem?_take_of_lt hil, hz]; rfl)
                  have e1 : wr.cell? ⟨wg, i, none⟩ = some z.lv := (HF.out.rw_.cellAt i (by omega)).trans (by rw [List.getElem?_map, List.getElem?_take_of_lt hil, hz]; rfl)
                  obtain ⟨az, cz, hzv, hzr, _⟩ := rd_row hzo.list
                  have hzn := len_of_mem hzo.tq.full.nodup (Tm.sorted_nodup hzo.sorted) hzo.mem
                  have hsm := hzo.small
                  obtain ⟨nz, hnz⟩ : ∃ nz, z.S.length = nz := ⟨_, rfl⟩
                  have HZV := Lib.hid (show z.lv = .slice az nz cz by rw [hzv, hnz])
                  rw [hzv, hnz] at e1
                  have HZN := Lib.hid hzn
                  have HZ := Lib.hid hz
                  have HNZ := Lib.hid hnz
                  have HZO := Lib.hid hzo
                  have HZR := Lib.hid hzr
                  have hog := (HF.out.ro.lt og rfl).2
                  have hwg := (HF.out.rw_.lt wg rfl).2
                  have hsm' : nz ≤ 5000000000000 := by omega
                  clear hB hz hzo hzv hzr hzn hnz hsm
                  go_upto_region 28 with (fail)
                  go_wp2_with (go_in)
                  (refine region_keep (fun b => b = w.heap.size ∨ b = og ∨ b = wg) 15 [(0, true), (1, true), (2, true), (3, true), (4, true), (5, true), (6, true), (8, true), (9, true), (10, true), (11, true), (12, true), (13, true), (14, true), (7, false)] (by kernel_rfl) (fun _ _ d _ _ h => by cases d <;> exact h) (by kernel_rfl) ?_; simp only [withOps, List.getElem?_toArray, List.getElem?_cons_zero, List.getElem?_cons_succ, List.drop_succ_cons, List.drop_zero])
                  (iterate 14 (refine keep_quiet (v := ?_) rfl ?_ ?_; rotate_left; (focus (intro w' hw'; go_simp; (try with_reducible rfl); done)); try simp only [Act.put, List.setIfInBounds_toArray, List.set_cons_zero, List.set_cons_succ]))
                  (with_reducible refine plan_loud (fun K hK => ?_))
                  go_simp
                  refine (All_any (some ⟨z.q, 0, none⟩) _).mono ?_
                  rintro en w4 ⟨rfl, hA4, hb4⟩
                  refine hK _ _ (fun b hb => hb4.block b (by rcases hb with rfl | rfl | rfl <;> assumption)) ?_
                  clear hK K
                  have HA4 := Lib.hid hA4
                  have HB4 := Lib.hid (show Below wr.heap.size wr w4 from bnext (by go_grown) hb4)
                  have s4 := HB4.out.size
                  clear hA4 hb4
                  (with_reducible refine plan_end ?_)
                  (try simp only [Act.put, List.setIfInBounds_toArray, List.set_cons_zero, List.set_cons_succ])
                  have hwk := walks_any _ z.S az cz 0 HA4.out (HZO.out.tq.below HB4.out) HZO.out.sorted HZO.out.mem ((HZR.out.below HB4.out).more s4) (by rw [HNZ.out]; exact hsm')
                  rw [HNZ.out] at hwk
                  clear e0 e1 k4 k5
                  go_wp2_with fail
                  refine hwk.mono ?_
                  rintro en w5 ⟨rfl, hb5⟩
                  have HB5 := Lib.hid (bnext HB4.out hb5)
                  have HF5 := Lib.hid (HF.out.below HB5.out)
                  have e0 : w5.cell? ⟨og, i, none⟩ = some (ptr z.q) := (HF5.out.ro.cellAt i (by omega)).trans (by rw [List.getElem?_map, List.getElem?_take_of_lt hil, HZ.out]; rfl)
                  have e1 : w5.cell? ⟨wg, i, none⟩ = some (.slice az nz cz) := (HF5.out.rw_.cellAt i (by omega)).trans (by rw [List.getElem?_map, List.getElem?_take_of_lt hil, HZ.out]; exact congrArg some HZV.out)
                  have k4 := (HF5.out.G.cell 4).trans HF5.out.co
                  have k5 := (HF5.out.G.cell 5).trans HF5.out.cw
                  have lG5 := HF5.out.G.lt
                  have hog5 := (HF5.out.ro.lt og rfl).2
                  have hwg5 := (HF5.out.rw_.lt wg rfl).2
                  clear hwk hb5
                  go_upto_region 29 with (fail)
                  go_wp2_with (go_in)
                  (refine region_keep (fun b => b = w.heap.size ∨ b = og ∨ b = wg) 19 [(0, true), (1, true), (2, true), (3, true), (4, true), (5, true), (6, true), (7, true), (8, true), (9, true), (11, true), (12, true), (13, true), (14, true), (15, true), (16, true), (17, true), (18, true), (10, false)] (by kernel_rfl) (fun _ _ d _ _ h => by cases d <;> exact h) (by kernel_rfl) ?_; simp only [withOps, List.getElem?_toArray, List.getElem?_cons_zero, List.getElem?_cons_succ, List.drop_succ_cons, List.drop_zero])
                  (iterate 18 (refine keep_quiet (v := ?_) rfl ?_ ?_; rotate_left; (focus (intro w' hw'; go_simp; (try with_reducible rfl); done)); try simp only [Act.put, List.setIfInBounds_toArray, List.set_cons_zero, List.set_cons_succ]))
                  (with_reducible refine plan_loud (fun K hK => ?_))
                  go_simp
                  refine (Len_any (w := w5.drew) ((HZO.out.tq.below HB5.out).raw.same fun _ _ => rfl)).mono ?_
                  rintro en w6 ⟨rfl, hb6⟩
                  rw [HZN.out, HNZ.out]
                  refine hK _ _ (fun b hb => hb6.block b (by rcases hb with rfl | rfl | rfl <;> assumption)) ?_
                  clear hK K
                  have HB6 := Lib.hid (show Below w3.heap.size w3 w6 from bnext HB.out (bnext HB5.out (bnext (by go_grown) hb6)))
                  clear hb6 e0 e1 k4 k5
                  (with_reducible refine plan_end ?_)
                  (try simp only [Act.put, List.setIfInBounds_toArray, List.set_cons_zero, List.set_cons_succ])
                  go_wp2_with fail
                  go_roundw
                  case rel => exact ⟨i + 1, by go_num, by omega, HB6.out⟩
                  case measure => simp [intOf]; omega
                · obtain rfl : i = N := by omega
                  clear hB
                  go_wp2_with fail
                  refine (known_any _).mono ?_
                  rintro en w4 ⟨rfl, hb4⟩
                  have HBE := Lib.hid (HB3.out.trans ((bnext HB.out hb4).mono HB3.out.size))
                  clear hb4
                  go_wp2_with fail
                  go_returns
                  exact ⟨rfl, HBE.out⟩
end Go.Proofs.Ytlmmcffbpdfcjaa
