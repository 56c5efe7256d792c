/- Panes by windows: Last, walked. -/
import Derived.Test.YtbkofiflfcfjfaaSqQ
import Derived.Test.YtbkofiflfcfjfaaStV
set_option linter.unusedSimpArgs false
set_option linter.unusedVariables false
namespace Go.Proofs.Ytbkofiflfcfjfaa.Px
open Go.RowKit Go.Kp Go.St Go.Shelf
attribute [local go_sem] Oper.semAt_some

def LastP (L : List Pn) (w : World) (e : Ending) (w' : World) : Prop := ∃ v, e = .returned v ∧ w'.ownsRow w.heap.size 92 9 v (putsL L).length ((putsL L).flatMap fun q => q.2.cl) ∧ Below w.heap.size w w'

theorem own_kept9 {w w' : World} {base n size : Nat} {e : TypeId} {v : Value} {xs : List Value} (h : w.ownsRow base e size v n xs) (hb : ∀ k, v.ownBlock = some k → w'.heap[k]? = w.heap[k]?) : w'.ownsRow base e size v n xs := by
  refine ⟨h.1, ?_⟩
  rcases h.2 with h0 | ⟨g, cap, cur, h1, h2, h3, h4⟩
  · exact .inl h0
  · exact .inr ⟨g, cap, cur, h1, h2, (hb g (by rw [h1]; rfl)).trans h3, h4⟩
theorem own_form9 {w : World} {base n size : Nat} {e : TypeId} {v : Value} {xs : List Value} (h : w.ownsRow base e size v n xs) : ∃ a c, v = .slice a n c := by
  rcases h.2 with ⟨h0, rfl⟩ | ⟨g, cap, cur, h1, _⟩
  · exact ⟨_, _, h0⟩
  · exact ⟨_, _, h1⟩

set_option maxRecDepth 100000 in
set_option maxHeartbeats 16000000 in
theorem Last_any (a : Option Addr) (n cap : Nat) (L : List Pn) (w : World) (hl : L.length = n) (hn : n ≤ 200) (hr : Rd w w.heap.size a (L.flatMap Pn.cl)) :
    Calls Try.prog 44 #[.slice a n cap] w (LastP L w) := by
  have HL := Lib.hid hl
  have HR := Lib.hid hr
  clear hl hr
  refine (callsIn_wide (n := 6)).1 ?_
  refine callsIn_of_wp_marks Try.func44 rfl trivial ?_ rfl
  simp only [Try.ntmps44, List.size_toArray, List.length_cons, List.length_nil, Nat.reduceAdd, Nat.reduceSub, Array.replicate_succ, Array.replicate_zero, List.push_toArray, List.append_toArray, List.nil_append, List.cons_append]
  gi_wp2_with fail
  refine ⟨trivial, (callsIn_wide.2 (New_any w)).mono ?_⟩
  rintro en w1 ⟨g, rfl, hg, hM, hb1⟩
  have HM1 := Lib.hid hM
  have HB1 := Lib.hid hb1
  clear hM hb1
  gi_wp2_with fail
  gi_loopw [6, 16] (fun _ vi wr => ∃ (k : Nat), vi = .int .i64 k ∧ k ≤ n ∧ MapAt wr g (putsT (L.take k)) ∧ Below w.heap.size w wr) (fun _ vi _ => n - (intOf vi).toNat)
  case atStart => exact ⟨0, rfl, Nat.zero_le _, HM1.out, HB1.out⟩
  case round =>
    rename World => wr
    obtain ⟨k, rfl, hk, hM, hB⟩ := hrel
    have HM := Lib.hid hM
    have HB := Lib.hid hB
    have hsz := hB.size
    clear hM hB HM1
    rcases Nat.lt_or_ge k n with hlt | hge
    · obtain ⟨x, hx⟩ : ∃ x, L[k]? = some x := ⟨_, List.getElem?_eq_getElem (by rw [HL.out]; exact hlt)⟩
      have HX := Lib.hid hx
      rcases HR.out with hr | ⟨b, off, rfl, hbl, hcc⟩
      · have h := flat_length Pn.cl 9 Pn.cl_len L
        rw [hr, HL.out] at h
        simp at h
        omega
      have e := fun j hj => (HB.out.cell (p := ⟨b, off + (k * 9 + j), none⟩) hbl).trans (pn_at hcc k x hx j hj)
      have hbw : b < wr.heap.size := by omega
      have e0 := e 0 (by omega)
      have e1 := e 1 (by omega)
      have e2 := e 2 (by omega)
      have e3 := e 3 (by omega)
      have e4 := e 4 (by omega)
      have e5 := e 5 (by omega)
      have e6 := e 6 (by omega)
      have e7 := e 7 (by omega)
      have e8 := e 8 (by omega)
      clear e hx hcc
      simp only [← Nat.add_assoc, Nat.add_zero, List.getElem?_cons_zero, List.getElem?_cons_succ] at e0 e1 e2 e3 e4 e5 e6 e7 e8
      have kin : (k : Int) < (n : Int) := by omega
      gi_wp2_with fail
      have hfew : (putsT (L.take k)).many + 1 ≤ 4611686018427386000 := by
        have := (puts_both (L.take k)).2.2
        simp at this
        omega
      refine ⟨trivial, (callsIn_wide.2 (Put_any (g := g) (t := putsT (L.take k)) (wA := wr.alloc (.cells (valC x) 92 (0, 0))) (HM.out.below (by go_grown)) x.at x hfew)).mono ?_⟩
      rintro en w2 ⟨⟨v2, b2, rfl⟩, hM2, hg2⟩
      have HM2 := Lib.hid hM2
      have HB2 := Lib.hid ((HB.out.trans ((show Below wr.heap.size wr (wr.alloc (.cells (valC x) 92 (0, 0))) by go_grown).mono hsz)).grown hg2 (by simp; omega) (fun q hq => by cases hq; exact hg))
      clear hM2 hg2 e0 e1 e2 e3 e4 e5 e6 e7 e8
      gi_wp2_with fail
      go_roundw
      case rel =>
        refine ⟨k + 1, by go_num, by omega, ?_, HB2.out⟩
        have e : L.take (k + 1) = L.take k ++ [x] := by rw [List.take_add_one, HX.out]; rfl
        rw [e, putsT_snoc]
        exact HM2.out
      case measure => simp [intOf]; omega
    · obtain rfl : k = n := by omega
      have hTk : L.take k = L := List.take_of_length_le (by rw [HL.out]; exact Nat.le_refl _)
      rw [hTk] at HM
      clear hTk
      have kin : ¬ (k : Int) < (k : Int) := by omega
      gi_wp2_with fail
      refine ⟨trivial, (callsIn_wide.2 (All_any g (wr.alloc (.cells #[.slice none 0 0] 85 (0, 0))))).mono ?_⟩
      rintro en wL ⟨bm, bb, bo, rfl, hWk, hbL⟩
      have HO := Lib.hid (show Blk wL wr.heap.size 85 #[.slice none 0 0] from Blk.below (heap_at rfl) hbL)
      have HBL := Lib.hid (show Below w.heap.size w wL by have hB := HB.out; exact bnext (by go_grown) hbL)
      have HML := Lib.hid (HM.out.below (show Below wr.heap.size wr wL from bnext (by go_grown) hbL))
      have HWK := Lib.hid hWk
      clear hWk hbL
      have hfn := wk_nil #[.pointer (some ⟨bm, 0, none⟩), .pointer (some ⟨bb, 0, none⟩), .pointer (some ⟨bo, 0, none⟩)]
      gi_wp2_with fail
      obtain ⟨o, ho⟩ : ∃ o, wr.heap.size = o := ⟨_, rfl⟩
      rw [ho] at HO ⊢
      obtain ⟨tr, hcells, htr⟩ := HML.out.cells
      have HCE := Lib.hid hcells
      have HTR := Lib.hid htr
      have HTL := Lib.hid (show told (fun _ => false) false (putsT L) = putsL L by rw [told_all]; exact (puts_both L).2.1)
      have hmany : (putsT L).many ≤ 8796093022208 := by
        have := (puts_both L).2.2
        have h2 := HL.out
        omega
      have hol : o < wL.heap.size := HO.out.lt
      have hoW : w.heap.size ≤ o := by omega
      clear hcells htr ho
      refine wpIn_rangeFunc_K rfl (by decide) (gf := 68) (lb := #[.pointer (some ⟨bm, 0, none⟩), .pointer (some ⟨bb, 0, none⟩), .pointer (some ⟨bo, 0, none⟩)]) rfl trivial (enters_of Try.func68 (by kernel_rfl) rfl)
        (encs := wkArgs) (T := WkT (putsL L)) (S := fun xs => xs = putsL L) (Sp := fun _ => True) (Pf := fun _ => False) (Ro := fun _ => False) (K := WkK (fun _ => True) wL bb bo false 65 #[])
        (fun W' hW' => by
          rw [HTL.out.symm]
          exact walk_seq_false _ HWK.out.out bm bb bo g (putsT L) tr (HWK.out.bm.below hW') (HCE.out.below hW') HTR.out (mono_all _) hmany)
        (fun _ h => h.elim) (fun _ h => h.elim) (fun _ => rfl)
        (fun pre Pv W => (∀ k, Pv k → wL.heap.size ≤ k) ∧ Fr (fun k => k = o ∨ wL.heap.size ≤ k) wL W ∧ ∃ v, Blk W o 85 #[v] ∧ W.ownsRow wL.heap.size 92 9 v pre.length (pre.flatMap fun q => q.2.cl) ∧ (∀ q, v.ownBlock = some q → wL.heap.size + 2 ≤ q ∧ ¬ Pv q))
        (fun _ _ _ _ => False)
        ?stab ?stabx ?keep ?start ?round ?done ?stop
      case keep =>
        rintro pre Pv W ⟨h1, h2, v, h3, _⟩
        have old : ∀ b ty cs, Blk wL b ty cs → ty ≠ 85 → W.heap[b]? = wL.heap[b]? := fun b ty cs hb ht => h2.block b hb.lt (fun e => e.elim (fun e => blk_types hb HO.out ht e) (fun e => by have := hb.lt; omega))
        exact ⟨trivial, h2.size, fun b cs hB => old b _ cs hB (by decide), (old _ _ _ HWK.out.bb (by decide)).trans HWK.out.bb, (old _ _ _ HWK.out.bo (by decide)).trans HWK.out.bo⟩
      case stab =>
        rintro pre Pv Pv' W W' ⟨h1, h2, v, h3, h4, h5⟩ hf hP
        have hs := h2.size
        refine ⟨fun k hk => (hP k hk).elim (h1 k) (fun h => by omega), h2.trans (hf.mono fun k _ h => h.elim (fun h => .inr (h1 k h)) (fun h => .inr (by omega))), v, ?_, own_kept9 h4 (fun q hq => hf.block q (h4.lt q hq).2 (fun h => h.elim (h5 q hq).2 (fun h => by have := (h5 q hq).1; omega))), fun q hq => ⟨(h5 q hq).1, fun h => (hP q h).elim (h5 q hq).2 (fun h => by have := (h4.lt q hq).2; omega)⟩⟩
        exact (hf.block _ h3.lt (fun h => h.elim (fun h => by have := h1 _ h; omega) (fun h => by omega))).trans h3
      case stabx => exact fun _ _ _ _ _ _ h => h.elim
      case start => exact ⟨fun _ h => h.elim, Fr.refl _ _, _, HO.out, World.ownsRow_nil _ _ _ _, fun q hq => by cases hq⟩
      case stop => exact fun _ _ _ _ _ _ _ h => h.elim
      case round =>
        rintro rl pre x Pv W hrl hrs hp1 hp2 ⟨rr, hrec⟩ hdef ⟨hPv, hF, v, hO, hown, hvq⟩ ⟨⟨R, hSR⟩, hPl⟩
        obtain ⟨xk, xv⟩ := x
        dsimp only [wkArgs]
        gi_wp2_with fail
        have hlW : rl < W.heap.size := hrs
        have hFs := hF.size
        have HSR := Lib.hid hSR
        have hPl' : ∀ k, Pv k → k < W.heap.size := fun k hk => (hPl k hk).elim fun _ h => h.lt
        refine ⟨heap_old hlW, heap_old (by omega), fun W2 hO2 => ?_⟩
        obtain ⟨a5, c5, rfl⟩ := own_form9 hown
        have o2 : W2.heap.size = W.heap.size + 1 := hO2.2.trans (by simp)
        have old : ∀ b, b < W.heap.size → b ≠ rl → W2.heap[b]? = W.heap[b]? := fun b hb hne => (hO2.at hne).trans (heap_old hb)
        have C7 : Blk W2 o 85 #[.slice a5 pre.length c5] := (old _ hO.lt (by omega)).trans hO
        have C9 : Blk W2 W.heap.size 92 (valC xv) := (hO2.at (by omega)).trans (heap_at rfl)
        have hown2 : W2.ownsRow wL.heap.size 92 9 (.slice a5 pre.length c5) pre.length (pre.flatMap fun q => q.2.cl) := own_kept9 hown (fun q hq => old q (hown.lt q hq).2 (by have := (hvq q hq).1; omega))
        have HOW := Lib.hid hown2
        have HVQ := Lib.hid hvq
        have HPV := Lib.hid (And.intro hPv (And.intro hPl' (And.intro hp1 hp2)))
        have HF2 := Lib.hid (show Fr (fun k => k = o ∨ wL.heap.size ≤ k) wL W2 from (hF.trans ((Fr.refl _ _).alloc _)).trans (hO2.1.mono fun q _ h => .inr (by omega)))
        have HKE := Lib.hid (show ∀ b, b < W.heap.size → b ≠ rl → W2.heap[b]? = W.heap[b]? from old)
        have HC7 := Lib.hid C7
        have HC9 := Lib.hid C9
        have c7 := C7.cell 0
        have l7 := C7.lt
        have f7 := C7.free 0
        have c9 := C9.cell
        have l9 := C9.lt
        have hpl : pre.length + 1 ≤ 1000 := by
          have h1 := congrArg List.length HSR.out
          have h2 := (puts_both L).2.2
          have h3 := congrArg List.length (puts_both L).2.1
          rw [← T.many_len] at h3
          have h4 := HL.out
          simp only [List.length_append, List.length_cons] at h1
          omega
        simp only [List.getElem?_toArray, List.getElem?_cons_zero] at c7
        clear hrec hdef hPl hPl' hSR hO hown hvq hF hPv old hown2 C7 C9 hO2 hp1 hp2
        generalize hmm : pre.length = m at *
        have HMM := Lib.hid hmm
        clear hmm
        gi_step
        gi_step
        gi_step
        iterate 3 (gi_step; gi_step; rename_i KK hKK; (with_reducible refine hKK _ _ ?_); clear hKK KK)
        (with_reducible refine push_pane ?_ (.tmp 33) (.tmp 35) ?_ wL.heap.size (.slice a5 m c5) m (pre.flatMap fun q => q.2.cl) ?_ (HOW.out.alloc _) (W.heap.size + 1) 1 xv ?_ ?_ hpl ?_ ?_)
        · rfl
        · rfl
        · rfl
        · rfl
        · exact heap_at o2.symm
        · rw [World.size_alloc]; have := HF2.out.size; omega
        intro v' w4 ho4 hg4 hv4
        have hs4 := hg4.size
        rw [World.size_alloc] at hs4 hv4
        have kp : ∀ b, b < W2.heap.size → (Value.slice a5 m c5).ownBlock ≠ some b → w4.heap[b]? = W2.heap[b]? := fun b hb hne => (hg4.block b (by rw [World.size_alloc]; omega) (Ne.symm hne)).trans (heap_old hb)
        have no : (Value.slice a5 m c5).ownBlock ≠ some o := fun e => by have := (HVQ.out o e).1; omega
        have C4 : Blk w4 o 85 #[.slice a5 m c5] := (kp o (by omega) no).trans HC7.out
        obtain ⟨a6, c6, rfl⟩ := own_form9 ho4
        have c4 := C4.cell 0
        have l4 := C4.lt
        have f4 := C4.free 0
        simp only [List.getElem?_toArray, List.getElem?_cons_zero] at c4
        have HC4 := Lib.hid C4
        have HK4 := Lib.hid kp
        have HO4 := Lib.hid ho4
        have HG4 := Lib.hid hg4
        have HV4 := Lib.hid hv4
        clear kp C4 ho4 hg4 hv4 c7 l7 f7 c9 l9
        gi_wp2_with fail
        have hVQ := HVQ.out
        have hPV := HPV.out
        have hFsz := HF2.out.size
        refine ⟨?_, ?_, ⟨?_, fun b hb => ?_⟩, hPV.1, ?_, .slice a6 (m + 1) c6, ?_, ?_, fun q hq => ?_⟩
        · rw [heap_set_ne _ _ _ _ _ (by omega)]
          exact HK4.out rl (by omega) (fun e => by have := (hVQ rl e).1; omega)
        · rw [heap_set_ne _ _ _ _ _ (by omega)]
          exact HK4.out (rl - 1) (by omega) (fun e => by have := (hVQ _ e).1; omega)
        · rw [World.size_setCell]; omega
        · have hb' : Pv b := hb.elim id (fun h => h.elim)
          have h1 := hPV.1 b hb'
          have h2 := hPV.2.1 b hb'
          rw [heap_set_ne _ _ _ _ _ (by omega)]
          exact (HK4.out b (by omega) (fun e => (hVQ b e).2 hb')).trans (HKE.out b h2 (fun e => hPV.2.2.1 (by rw [← e]; exact hb')))
        · refine (HF2.out.trans ⟨HG4.out.os, HG4.out.tape, HG4.out.output, by omega, fun b hb hm => HK4.out b hb (fun e => hm (.inr (by have := (hVQ b e).1; omega)))⟩).set _ (.inl rfl)
        · have h := HC4.out
          unfold Blk at h ⊢
          rw [heap_set_same, h]
          rfl
        · rw [List.length_append, List.flatMap_append, HMM.out]
          have h := ownsRow_setCell_below HO4.out (show (⟨o, 0, none⟩ : Addr).block < wL.heap.size from hol) (.slice a6 (m + 1) c6)
          simpa using h
        · rcases HV4.out with e | e
          · exact hVQ q (by rw [← e]; exact hq)
          · rw [e] at hq
            have hq' : W2.heap.size + 1 = q := by injection hq
            exact ⟨by omega, fun h => by have := hPV.2.1 q h; omega⟩
      case done =>
        rintro D xs Pv W hD rfl ⟨hPv, hF, v, hO, hown, hvq⟩ hK
        have hFs := hF.size
        obtain ⟨a5, c5, rfl⟩ := own_form9 hown
        have c7 := hO.cell 0
        have l7 := hO.lt
        simp only [List.getElem?_toArray, List.getElem?_cons_zero] at c7
        have HO5 := Lib.hid hO
        have HOW := Lib.hid hown
        have HF5 := Lib.hid hF
        have HVQ := Lib.hid hvq
        generalize hmm : (putsL L).length = m at *
        clear hO hown hF hPv hvq
        gi_wp2_with fail
        refine ⟨by simp, .inl ⟨_, _, rfl, run_takeDeferred hK, ?_⟩⟩
        have hown5 : (W.putObj D (.deferred none)).ownsRow w.heap.size 92 9 (.slice a5 m c5) m ((putsL L).flatMap fun q => q.2.cl) := own_kept9 (owns_mono HOW.out HBL.out.size) (fun q hq => World.putObj_heap_other (by have := (HVQ.out q hq).1; omega))
        have hfin : Fr (fun k => w.heap.size ≤ k) wL (W.putObj D (.deferred none)) :=
          (HF5.out.mono fun q _ h => show w.heap.size ≤ q by have := HBL.out.size; omega).trans ((OnlyB.put _ D _).1.mono fun q _ h => by have := HBL.out.size; have h' : q = D := h; show w.heap.size ≤ q; omega)
        refine ⟨.slice a5 m c5, ?_, _, rfl, ?_, HBL.out.trans (hfin.below (fun _ h => h) HBL.out.size)⟩
        · simp [results, Try.f44, go_sem]
        · rw [hmm]; exact hown5
end Go.Proofs.Ytbkofiflfcfjfaa.Px
