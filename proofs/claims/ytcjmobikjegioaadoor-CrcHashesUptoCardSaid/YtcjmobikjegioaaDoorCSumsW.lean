/- CrcSums: the walk. -/
import Derived.Test.YtcjmobikjegioaaDoorCBurstL
set_option linter.unusedSimpArgs false
set_option linter.unusedVariables false
namespace Go.Proofs.YtcjmobikjegioaaDoor
open Go.RowKit Go.Kp

theorem info24 : (Tryd.prog.info? 24).map (fun i => (i.zero, i.size, i.bytes)) = some (some (.slice none 0 0), 1, 24) := by kernel_rfl
/-- append of one slice of bytes to a row of such that the call owns. -/
theorem append_row {w : World} {ops : Array Oper} {rest : List Oper} {o : Oper} {a : Act} {Q : Exit → Act → World → Prop} (hgd : o.guard = none) (s x : Operand)
    (ho : o.op = .call { callee := .builtin .append, args := #[s, x], argTypes := #[22, 22] })
    (base : Nat) (v : Value) (n : Nat) (xs : List Value) (hs : a.eval s = v) (hown : w.ownsRow base 24 1 v n xs)
    (gs : Nat) (u : Value) (hx : a.eval x = .slice (some ⟨gs, 0, none⟩) 1 1) (hu : ∃ ua un uc, u = .slice ua un uc) (hc : w.cell? ⟨gs, 0, none⟩ = some u)
    (hb : n ≤ 1048576) (hbase : base ≤ w.heap.size)
    (h : ∀ v' w', w'.ownsRow base 24 1 v' (n + 1) (xs ++ [u]) → w.grownBy w' v.ownBlock → wpList Tryd.prog ops Q rest (a.put o.dst v') w') :
    wpList Tryd.prog ops Q (o :: rest) a w := by
  obtain ⟨i0, hi, hz0, hz1, hz2⟩ := info_parts info24
  refine wpList_append_own_at w hgd s x 22 ho base 24 i0 _ 1 24 Tryd.underlying22 hi hz0 hz1 hz2 rfl (by omega) v n xs hs hown ⟨gs, 0, none⟩ 1 1 [u] hx rfl ?_ ?_ (by unfold maxLen; omega) (by omega) hbase ?_
  · intro j y hy
    cases j with
    | zero => rw [Go.WideShapes.add_plain, Nat.zero_add]; simp at hy; subst hy; exact hc
    | succ j => simp at hy
  · intro y hy
    obtain ⟨ua, un, uc, rfl⟩ := hu
    simp at hy; subst hy; rfl
  · intro v' w' h1 h2 _ _
    exact h v' w' h1 h2

/-- A text that was lent, in a block from base on that is not the bad one. -/
def Lent (w : World) (base : Nat) (bad : Option Nat) (v : Value) (l : List UInt8) : Prop :=
  ∃ g c cs, v = .slice (some ⟨g, 0, none⟩) l.length c ∧ l.length + 3 ≤ c ∧ base ≤ g ∧ Blk w g 5 cs ∧ cs.toList.take (l.length + 3) = (marked l).map B8 ∧ some g ≠ bad
theorem Lent.below {w w' : World} {base : Nat} {bad : Option Nat} {v : Value} {l : List UInt8} (h : Lent w base bad v l) (hb : Below w.heap.size w w') : Lent w' base bad v l := by
  obtain ⟨g, c, cs, h1, h2, h3, h4, h5, h6⟩ := h
  exact ⟨g, c, cs, h1, h2, h3, h4.below hb, h5, h6⟩
theorem Lent.grown {w w' : World} {base : Nat} {bad row : Option Nat} {v : Value} {l : List UInt8} (h : Lent w base bad v l) (hb : w.grownBy w' row) (hr : ∀ g cs, Blk w g 5 cs → some g ≠ bad → some g ≠ row) : Lent w' base bad v l := by
  obtain ⟨g, c, cs, h1, h2, h3, h4, h5, h6⟩ := h
  exact ⟨g, c, cs, h1, h2, h3, h4.grown hb (hr g cs h4 h6), h5, h6⟩
theorem Lent.bad {w : World} {base : Nat} {bad bad' : Option Nat} {v : Value} {l : List UInt8} (h : Lent w base bad v l) (hb : bad' = bad ∨ ∃ x, bad' = some x ∧ w.heap.size ≤ x) : Lent w base bad' v l := by
  obtain ⟨g, c, cs, h1, h2, h3, h4, h5, h6⟩ := h
  refine ⟨g, c, cs, h1, h2, h3, h4, h5, ?_⟩
  rcases hb with rfl | ⟨x, rfl, hx⟩
  · exact h6
  · intro e; injection e with e; have := h4.lt; omega
theorem Lent.txt {w : World} {base : Nat} {bad : Option Nat} {v : Value} {l : List UInt8} (h : Lent w base bad v l) (hl : l.length ≤ 140737488351232) : Txt w w.heap.size v l := by
  obtain ⟨g, c, cs, rfl, h2, h3, h4, h5, h6⟩ := h
  exact lent_txt rfl hl h4 h5
theorem Lent.step {w w' : World} {base : Nat} {bad bad' : Option Nat} {v : Value} {l : List UInt8} (h : Lent w base bad v l) (hb : w.grownBy w' bad) (h4 : bad' = bad ∨ bad' = some w.heap.size) : Lent w' base bad' v l := by
  obtain ⟨g, c, cs, h1, h2, h3, hB, h5, h6⟩ := h
  refine ⟨g, c, cs, h1, h2, h3, hB.grown hb h6, h5, ?_⟩
  rcases h4 with rfl | rfl
  · exact h6
  · intro e; injection e with e; have := hB.lt; omega
def Lents (w : World) (base : Nat) (bad : Option Nat) (xs : List Value) (ls : List (List UInt8)) : Prop := ∀ (j : Nat) v l, xs[j]? = some v → ls[j]? = some l → Lent w base bad v l

theorem blk_ne {w : World} {g g' : Nat} {t t' : TypeId} {cs cs' : Array Value} (h : Blk w g t cs) (h' : Blk w g' t' cs') (hne : t ≠ t') : g ≠ g' := by
  rintro rfl
  unfold Blk at h h'
  rw [h] at h'
  injection h' with h'
  injection h' with _ ht
  exact hne ht
theorem own_ne {w : World} {base : Nat} {e : TypeId} {size n : Nat} {v : Value} {xs : List Value} {g : Nat} {t : TypeId} {cs : Array Value} (h : w.ownsRow base e size v n xs) (hg : Blk w g t cs) (hne : e ≠ t) : some g ≠ v.ownBlock := by
  rcases h.2 with ⟨rfl, _⟩ | ⟨g', cap, cur, rfl, _, hh, _⟩
  · simp [Value.ownBlock]
  · intro he
    have : g = g' := by simpa [Value.ownBlock] using he
    subst this
    exact blk_ne (t := e) (show Blk w g e cur from hh) hg hne rfl
theorem own_below {w w' : World} {base : Nat} {e : TypeId} {size n : Nat} {v : Value} {xs : List Value} (h : w.ownsRow base e size v n xs) (hb : Below w.heap.size w w') : w'.ownsRow base e size v n xs :=
  owns_keep h fun g _ hg => hb.block g hg
theorem own_grown {w w' : World} {base : Nat} {e : TypeId} {size n : Nat} {v : Value} {xs : List Value} {row : Option Nat} (h : w.ownsRow base e size v n xs) (hb : w.grownBy w' row) (hr : ∀ g, v.ownBlock = some g → some g ≠ row) : w'.ownsRow base e size v n xs := by
  refine ⟨h.1, ?_⟩
  rcases h.2 with h' | ⟨g, cap, cur, h1, h2, h3, h4⟩
  · exact .inl h'
  · refine .inr ⟨g, cap, cur, h1, h2, ?_, h4⟩
    subst h1
    exact (hb.block g (Blk.lt (show Blk w g e cur from h3)) (hr g rfl)).trans h3
theorem own_txt {w : World} {base n : Nat} {v : Value} {l : List UInt8} (h : w.ownsRow base 5 1 v n (l.map B8)) (hn : n ≤ 140737488351232) : Txt w w.heap.size v l := by
  have hl : l.length = n := by have := h.1; simpa using this
  rcases h.2 with ⟨rfl, rfl⟩ | ⟨g, c, cs, rfl, h2, h3, h4, h5, h6, h7⟩
  · obtain rfl : l = [] := List.eq_nil_of_length_eq_zero hl
    exact ⟨none, 0, rfl, fun _ => rfl, by simp, .inl rfl⟩
  · refine ⟨_, c, by rw [hl], (fun h => by cases h), by omega, .inr ⟨g, 0, rfl, Blk.lt (show Blk w g _ cs from h3), fun j u hu => ?_⟩⟩
    rw [Nat.zero_add, Blk.cell (show Blk w g 5 cs from h3) j, ← Array.getElem?_toList]
    rw [← h7] at hu
    have hj := (List.getElem?_eq_some_iff.1 hu).1
    rw [List.length_take] at hj
    rwa [List.getElem?_take_of_lt (by omega)] at hu
theorem flat_le (ls : List (List UInt8)) (k : Nat) : (ls.take k).flatten.length ≤ ls.flatten.length := by
  conv => rhs; rw [← List.take_append_drop k ls, List.flatten_append, List.length_append]
  omega
theorem flat_one (ls : List (List UInt8)) (k : Nat) (l : List UInt8) (h : ls[k]? = some l) : (ls.take k).flatten.length + l.length ≤ ls.flatten.length := by
  have := flat_le ls (k + 1)
  rw [flatten_snoc ls k l h, List.length_append] at this
  exact this

/-- What stays from call to call behind the first loop. -/
def SumSt (W0 : World) (gx : Nat) (bad : Option Nat) (row xs : List Value) (ls : List (List UInt8)) (v6 : Value) (w : World) : Prop :=
  Rd w w.heap.size (some ⟨gx, 0, none⟩) row ∧ Lents w W0.heap.size bad xs ls ∧ Txt w w.heap.size v6 ls.flatten ∧ Below W0.heap.size W0 w
theorem SumSt.next {W0 : World} {gx : Nat} {bad : Option Nat} {row xs : List Value} {ls : List (List UInt8)} {v6 : Value} {w w' : World} (h : SumSt W0 gx bad row xs ls v6 w) (hb : Below w.heap.size w w') : SumSt W0 gx bad row xs ls v6 w' :=
  ⟨(h.1.below hb).more hb.size, fun j v l h1 h2 => (h.2.1 j v l h1 h2).below hb, h.2.2.1.next hb, bnext h.2.2.2 hb⟩
theorem SumSt.cell {W0 : World} {gx : Nat} {bad : Option Nat} {row xs : List Value} {ls : List (List UInt8)} {v6 : Value} {w : World} (h : SumSt W0 gx bad row xs ls v6 w) (j : Nat) (u : Value) (hu : row[j]? = some u) : w.cell? ⟨gx, j, none⟩ = some u ∧ gx < w.heap.size := by
  rcases h.1 with h | ⟨b, off, e, hlt, hc⟩
  · rw [h] at hu; simp at hu
  · cases e
    have := hc j u hu
    rw [Nat.zero_add] at this
    exact ⟨this, hlt⟩
theorem SumSt.txts {W0 : World} {gx : Nat} {bad : Option Nat} {xs : List Value} {u : Value} {ls : List (List UInt8)} {v6 : Value} {w : World} (h : SumSt W0 gx bad (xs ++ [u]) xs ls v6 w) (hl : xs.length = ls.length) (hf : ls.flatten.length ≤ 1048576) : Txts w w.heap.size (some ⟨gx, 0, none⟩) xs ls := by
  refine ⟨hl, ?_, fun k v l h1 h2 => (h.2.1 k v l h1 h2).txt (by have := flat_one ls k l h2; omega)⟩
  rcases h.1 with h0 | ⟨b, off, e, hlt, hc⟩
  · simp at h0
  · exact .inr ⟨b, off, e, hlt, fun j y hy => hc j y (by rw [List.getElem?_append_left (List.getElem?_eq_some_iff.1 hy).1]; exact hy)⟩

set_option maxHeartbeats 16000000 in
theorem sums (a : Option Addr) (n ca : Nat) (vs : List Value) (ls : List (List UInt8)) (s : BitVec 32) (w : World) (hT : Tab w) (hl : ls.length = n) (hn : n ≤ 1048576) (hf : ls.flatten.length ≤ 1048576) (hv : Txts w w.heap.size a vs ls) :
    Calls Tryd.prog 3 #[.slice a n ca, U s] w (Ret (.bool true) w) := by
  obtain ⟨hnp⟩ : Nonempty (n ≤ 1048576) := ⟨hn⟩
  have HT := Lib.hid hT
  have HL := Lib.hid hl
  have HF := Lib.hid hf
  have HV := Lib.hid hv
  clear hT hl hf hv
  go_enter Tryd.func3, Tryd.ntmps3
  go_wp2_with fail
  go_loopw [5, 6, 7] (fun v5 v6 i wr => ∃ (k : Nat) (xs : List Value), k ≤ n ∧ i = .int .i64 k ∧ xs.length = k ∧ wr.ownsRow w.heap.size 24 1 v5 k xs ∧ wr.ownsRow w.heap.size 5 1 v6 (ls.take k).flatten.length ((ls.take k).flatten.map B8) ∧
      Lents wr w.heap.size v6.ownBlock xs ls ∧ Below w.heap.size w wr) (fun _ _ i _ => n - (intOf i).toNat)
  case atStart => exact ⟨0, [], Nat.zero_le _, rfl, rfl, ⟨rfl, .inl ⟨rfl, rfl⟩⟩, ⟨rfl, .inl ⟨rfl, rfl⟩⟩, fun j v l h => by simp at h, by go_grown⟩
  case round =>
    obtain ⟨k, xs, hk, rfl, hxs, ho5, ho6, hLS, hB⟩ := hrel
    have hs := hB.size
    rcases Nat.lt_or_ge k n with hlt | hge
    · obtain ⟨l, hz⟩ : ∃ z, ls[k]? = some z := ⟨_, List.getElem?_eq_getElem (by rw [HL.out]; exact hlt)⟩
      obtain ⟨v, hv⟩ : ∃ z, vs[k]? = some z := ⟨_, List.getElem?_eq_getElem (by rw [HV.out.1, HL.out]; exact hlt)⟩
      have HX := Lib.hid (HV.out.2.2 k v l hv hz)
      have hfl := flat_one ls k l hz
      have HFL := Lib.hid hfl
      have HSN := Lib.hid (flatten_snoc ls k l hz)
      have HXS := Lib.hid hxs
      have HO5 := Lib.hid ho5
      have HO6 := Lib.hid ho6
      have HLS := Lib.hid hLS
      rcases HV.out.2.1 with hr | ⟨b, off, rfl, hbl, hc⟩
      · rw [hr] at hv; simp at hv
      have HE0 := Lib.hid (hc k _ hv)
      have e0 : wr.cell? ⟨b, off + k, none⟩ = some v := (hB.cell (p := ⟨b, off + k, none⟩) hbl).trans HE0.out
      obtain ⟨va, vc, rfl, hvn, _, hvr⟩ := HX.out
      have HVN := Lib.hid hvn
      have HVR := Lib.hid hvr
      have hll : l.length ≤ 1048576 := by have := HF.out; omega
      have HZ := Lib.hid hz
      generalize hln : l.length = ln at *
      have HLN := Lib.hid hln
      clear hz hv hc hxs ho5 ho6 hLS hfl hvn hvr hln
      go_wp2_with fail
      refine (lend_any va ln vc l _ HLN.out (by omega) HVN.out ((HVR.out.below hB).more hs)).mono ?_
      rintro en w1 ⟨g, c, cs, rfl, hc1, hm1, hg1, A1, hz1, ht1, hb⟩
      have hB1 : Below w.heap.size w w1 := bnext hB hb
      have s1 := hB1.size
      have HO5' := Lib.hid (own_below HO5.out hb)
      have HO6' := Lib.hid (own_below HO6.out hb)
      have hg6 : some g ≠ u6.ownBlock := by
        intro e
        rcases HO6.out.2 with ⟨h, _⟩ | ⟨g', _, cur, h, _, hh, _⟩
        · rw [h] at e; cases e
        · rw [h] at e
          have : g = g' := by simpa [Value.ownBlock] using e
          have := Blk.lt (show Blk wr g' _ cur from hh)
          omega
      have HL1 := Lib.hid (show Lents w1 w.heap.size u6.ownBlock (xs ++ [.slice (some ⟨g, 0, none⟩) ln c]) ls from fun j v' l' h1 h2 => by
        rcases Nat.lt_or_ge j xs.length with hj | hj
        · rw [List.getElem?_append_left hj] at h1
          exact (HLS.out j v' l' h1 h2).below hb
        · rw [List.getElem?_append_right hj] at h1
          have hj0 : j = xs.length := by
            have := (List.getElem?_eq_some_iff.1 h1).1
            simp at this; omega
          subst hj0
          simp at h1
          subst h1
          rw [HXS.out, HZ.out] at h2
          injection h2 with h2
          subst h2
          rw [← HLN.out] at hc1 ht1 ⊢
          exact ⟨g, c, cs, rfl, hc1, by omega, A1, ht1, hg6⟩)
      clear hb ht1 hz1 A1 HO5 HO6 HLS hB hs e0 hg6
      dsimp only
      rename_i KK hKK
      (with_reducible refine hKK _ _ ?_)
      clear hKK KK
      (try simp only [Act.put, List.setIfInBounds_toArray, List.set_cons_zero, List.set_cons_succ])
      (go_step; go_step; rename_i KK hKK; (with_reducible refine hKK _ _ ?_); clear hKK KK)
      (try simp only [Act.put, List.setIfInBounds_toArray, List.set_cons_zero, List.set_cons_succ])
      (with_reducible refine append_row ?_ (.tmp 16) (.tmp 22) ?_ w.heap.size u5 k xs ?_ (HO5'.out.alloc _) w1.heap.size (.slice (some ⟨g, 0, none⟩) ln c) ?_ ⟨_, _, _, rfl⟩ ?_ ?_ ?_ ?_)
      · rfl
      · rfl
      · rfl
      · rfl
      · rw [cell_of_row _ _ _ _ _ _ (heap_at rfl)]; rfl
      · omega
      · simp; omega
      intro v5' w2 ho5 hg5
      have hW1 : Below w1.heap.size w1 (w1.alloc (.cells #[.slice (some ⟨g, 0, none⟩) ln c] 24)) := by go_grown
      have hB2 : Below w.heap.size w w2 := by
        refine Below.grown (show Below w.heap.size w _ from bnext hB1 hW1) hg5 (by simp; omega) ?_
        intro kk hkk
        rcases Nat.lt_or_ge kk w.heap.size with h | h
        · exact absurd hkk.symm (owns_far HO5'.out h)
        · exact h
      have s2 := hB2.size
      have HQ5 := Lib.hid ho5
      have HQ6 := Lib.hid (own_grown (own_below HO6'.out hW1) hg5 fun g' hg' => by
        rcases (own_below HO6'.out hW1).2 with ⟨h, _⟩ | ⟨g'', _, cur, h, _, hh, _⟩
        · rw [h] at hg'; cases hg'
        · rw [h] at hg'
          have : g'' = g' := by simpa [Value.ownBlock] using hg'
          subst this
          exact own_ne (own_below HO5'.out hW1) (show Blk _ g'' 5 cur from hh) (by decide))
      have HL2 := Lib.hid (show Lents w2 w.heap.size u6.ownBlock (xs ++ [.slice (some ⟨g, 0, none⟩) ln c]) ls from fun j v' l' h1 h2 =>
        ((HL1.out j v' l' h1 h2).below hW1).grown hg5 fun g' cs' hb' _ => own_ne (own_below HO5'.out hW1) hb' (by decide))
      clear ho5 hg5 hB1 HO5' HO6' HL1 hW1 s1
      (try simp only [Act.put, List.setIfInBounds_toArray, List.set_cons_zero, List.set_cons_succ])
      go_upto_region 7 with (fail)
      have e0 : w2.cell? ⟨b, off + k, none⟩ = some (.slice va ln vc) := (hB2.cell (p := ⟨b, off + k, none⟩) hbl).trans HE0.out
      apply wp_region_lit
      iterate 5 (go_step; go_step; rename_i KK hKK; (with_reducible refine hKK _ _ ?_); clear hKK KK)
      clear e0
      have hFb : (ls.take k).flatten.length + ln ≤ 1048576 := by have h1 := HFL.out; have h2 := HF.out; omega
      (with_reducible refine append_bytes ?_ (.tmp 24) (.tmp 28) ?_ w.heap.size u6 _ _ ?_ HQ6.out va ln vc l ?_ HVN.out HLN.out ?_ ?_ ?_ ?_)
      · rfl
      · rfl
      · rfl
      · rfl
      · exact (HVR.out.below hB2).more s2
      · omega
      · exact s2
      intro v6' w3 ho6 hg6 h4
      have hB3 : Below w.heap.size w w3 := by
        refine Below.grown hB2 hg6 s2 ?_
        intro kk hkk
        rcases Nat.lt_or_ge kk w.heap.size with h | h
        · exact absurd hkk.symm (owns_far HQ6.out h)
        · exact h
      have HR5 := Lib.hid (own_grown HQ5.out hg6 fun g' hg' => by
        rcases HQ5.out.2 with ⟨h, _⟩ | ⟨g'', _, cur, h, _, hh, _⟩
        · rw [h] at hg'; cases hg'
        · rw [h] at hg'
          have : g'' = g' := by simpa [Value.ownBlock] using hg'
          subst this
          exact own_ne HQ6.out (show Blk _ g'' 24 cur from hh) (by decide))
      have HR6 := Lib.hid ho6
      have HL3 := Lib.hid (show Lents w3 w.heap.size v6'.ownBlock (xs ++ [.slice (some ⟨g, 0, none⟩) ln c]) ls from fun j v' l' h1 h2 => (HL2.out j v' l' h1 h2).step hg6 h4)
      clear ho6 hg6 h4 hB2 HQ5 HQ6 HL2 s2
      (try simp only [Act.put, List.setIfInBounds_toArray, List.set_cons_zero, List.set_cons_succ])
      go_wp2_with fail
      go_roundw
      case rel =>
        refine ⟨k + 1, xs ++ [.slice (some ⟨g, 0, none⟩) ln c], by omega, by go_num, by simp [HXS.out], HR5.out, ?_, HL3.out, hB3⟩
        rw [HSN.out, List.length_append, List.map_append, HLN.out]
        exact HR6.out
      case measure => simp [intOf]; omega
    · have HK := Lib.hid (show k = n by omega)
      have hkn : (n : Int) < (k : Int) + 1 := by omega
      rw [show ls.take k = ls from List.take_of_length_le (by rw [HL.out]; omega)] at ho6
      have HXS := Lib.hid hxs
      have HO5 := Lib.hid ho5
      have HO6 := Lib.hid ho6
      have HLS := Lib.hid hLS
      clear hxs ho5 ho6 hLS
      go_upto_region 8 with (fail)
      apply wp_region_lit
      iterate 3 (go_step; go_step; rename_i KK hKK; (with_reducible refine hKK _ _ ?_); clear hKK KK)
      have hW1 : Below wr.heap.size wr ((wr.alloc (.cells #[.int .u8 9] 5)).alloc (.cells #[.slice (some ⟨wr.heap.size, 0, none⟩) 1 1] 24)) := by go_grown
      (with_reducible refine append_row ?_ (.tmp 30) (.tmp 32) ?_ w.heap.size u5 k xs ?_ (own_below HO5.out hW1) (wr.heap.size + 1) (.slice (some ⟨wr.heap.size, 0, none⟩) 1 1) ?_ ⟨_, _, _, rfl⟩ ?_ ?_ ?_ ?_)
      · rfl
      · rfl
      · rfl
      · rfl
      · rw [cell_of_row _ _ _ _ _ _ (heap_at (by simp))]; rfl
      · omega
      · simp; omega
      intro v5' w1 ho5 hg5
      have hB1 : Below w.heap.size w w1 := by
        refine Below.grown (show Below w.heap.size w _ from bnext hB hW1) hg5 (by simp; omega) ?_
        intro kk hkk
        rcases Nat.lt_or_ge kk w.heap.size with h | h
        · exact absurd hkk.symm (owns_far HO5.out h)
        · exact h
      have hLS1 : Lents w1 w.heap.size u6.ownBlock xs ls := fun j v' l' h1 h2 =>
        ((HLS.out j v' l' h1 h2).below hW1).grown hg5 fun g' cs' hb' _ => own_ne (own_below HO5.out hW1) hb' (by decide)
      have hO61 := own_grown (own_below HO6.out hW1) hg5 fun g' hg' => by
        rcases (own_below HO6.out hW1).2 with ⟨h, _⟩ | ⟨g'', _, cur, h, _, hh, _⟩
        · rw [h] at hg'; cases hg'
        · rw [h] at hg'
          have : g'' = g' := by simpa [Value.ownBlock] using hg'
          subst this
          exact own_ne (own_below HO5.out hW1) (show Blk _ g'' 5 cur from hh) (by decide)
      have hT6 : Txt w1 w1.heap.size u6 ls.flatten := own_txt hO61 (by have := HF.out; omega)
      obtain ⟨hxl, h0 | ⟨gx, cx, cur, rfl, hx1, hx2, hx3, hx4, hx5, hx6⟩⟩ := ho5
      · omega
      have hST : SumSt w gx u6.ownBlock (xs ++ [.slice (some ⟨wr.heap.size, 0, none⟩) 1 1]) xs ls u6 w1 := by
        refine ⟨.inr ⟨gx, 0, rfl, Blk.lt (show Blk w1 gx _ cur from hx2), fun j u hu => ?_⟩, hLS1, hT6, hB1⟩
        rw [Nat.zero_add, Blk.cell (show Blk w1 gx 24 cur from hx2) j, ← Array.getElem?_toList]
        rw [← hx6] at hu
        have hj := (List.getElem?_eq_some_iff.1 hu).1
        rw [List.length_take] at hj
        rwa [List.getElem?_take_of_lt (by omega)] at hu
      have H1 := Lib.hid hST
      have hcx : (n : Int) ≤ (cx : Int) := by omega
      have HXL := Lib.hid (show xs.length = ls.length by rw [HXS.out, HK.out, HL.out])
      clear hg5 hB1 hLS1 hO61 hT6 hx1 hx2 hx4 hx5 hx6 hxl hST hW1 HO5 HO6 HLS hB hs
      (try simp only [Act.put, List.setIfInBounds_toArray, List.set_cons_zero, List.set_cons_succ])
      go_wp2_with fail
      refine (sum_any _ n cx xs ls _ (HT.out.next H1.out.2.2.2) HL.out (by omega) (H1.out.txts HXL.out HF.out)).mono ?_
      rintro en w2 ⟨rfl, hb⟩
      have H2 := Lib.hid (H1.out.next hb)
      clear hb H1
      go_wp2_with fail
      refine (refSum_any _ ls.flatten _ H2.out.2.2.1).mono ?_
      rintro en w3 ⟨rfl, hb⟩
      have H3 := Lib.hid (H2.out.next hb)
      clear hb H2
      go_wp2_with fail
      refine (more_any s _ ls.flatten _ (HT.out.next H3.out.2.2.2) H3.out.2.2.1).mono ?_
      rintro en w4 ⟨rfl, hb⟩
      have H4 := Lib.hid (H3.out.next hb)
      clear hb H3
      go_wp2_with fail
      refine (refMore_any s _ ls.flatten _ H4.out.2.2.1).mono ?_
      rintro en w5 ⟨rfl, hb⟩
      have H5 := Lib.hid (H4.out.next hb)
      clear hb H4
      have e9 : w5.cell? ⟨gx, n, none⟩ = some (.slice (some ⟨wr.heap.size, 0, none⟩) 1 1) := (H5.out.cell n _ (by rw [List.getElem?_append_right (by rw [HXS.out, HK.out]; exact Nat.le_refl _), HXS.out, HK.out]; simp)).1
      go_wp2_with fail
      clear e9
      have hB5 := H5.out.2.2.2
      obtain ⟨wo, hwo⟩ : ∃ wo : Nat, wo = wr.heap.size := ⟨_, rfl⟩
      have HWO := Lib.hid hwo
      rw [← hwo] at H5
      go_loopw [8, 9] (fun t i wr => ∃ j : Nat, j ≤ n ∧ i = .int .i64 j ∧ t = U (Crc.more 0#32 (ls.take j).flatten) ∧ SumSt w gx u6.ownBlock (xs ++ [.slice (some ⟨wo, 0, none⟩) 1 1]) xs ls u6 wr) (fun _ i _ => n - (intOf i).toNat)
      case atStart => exact ⟨0, Nat.zero_le _, rfl, by rw [List.take_zero]; exact congrArg (Value.int .u32) Crc.more_nil.symm, H5.out⟩
      case round =>
        obtain ⟨j, hj, rfl, rfl, hst⟩ := hrel
        have HST := Lib.hid hst
        clear H5 hB5 hwo hst
        rcases Nat.lt_or_ge j n with hlt | hge
        · obtain ⟨l, hz⟩ : ∃ z, ls[j]? = some z := ⟨_, List.getElem?_eq_getElem (by rw [HL.out]; exact hlt)⟩
          obtain ⟨v, hv⟩ : ∃ z, vs[j]? = some z := ⟨_, List.getElem?_eq_getElem (by rw [HV.out.1, HL.out]; exact hlt)⟩
          obtain ⟨x, hx⟩ : ∃ z, xs[j]? = some z := ⟨_, List.getElem?_eq_getElem (by rw [HXL.out, HL.out]; exact hlt)⟩
          have HX := Lib.hid (HV.out.2.2 j v l hv hz)
          have HLe := Lib.hid (HST.out.2.1 j x l hx hz)
          have hfl := flat_one ls j l hz
          have hll : l.length ≤ 1048576 := by have := HF.out; omega
          have HS := Lib.hid (show Crc.more 0#32 (ls.take (j + 1)).flatten = Crc.more (Crc.more 0#32 (ls.take j).flatten) l by rw [flatten_snoc ls j l hz, Crc.more_append])
          have HC := Lib.hid (fun (W : World) (h : SumSt w gx u6.ownBlock (xs ++ [.slice (some ⟨wo, 0, none⟩) 1 1]) xs ls u6 W) => h.cell j x (by rw [List.getElem?_append_left (List.getElem?_eq_some_iff.1 hx).1]; exact hx))
          rcases HV.out.2.1 with hr | ⟨b, off, rfl, hbl, hc⟩
          · rw [hr] at hv; simp at hv
          have HE0 := Lib.hid (hc j _ hv)
          obtain ⟨va, vc, rfl, hvn, _, hvr⟩ := HX.out
          have HVR := Lib.hid hvr
          obtain ⟨g, c, cs, rfl, hc1, hg1, hA, ht1, hbad⟩ := HLe.out
          have HT1 := Lib.hid ht1
          generalize hln : l.length = ln at *
          have HLN := Lib.hid hln
          clear hz hv hx hc hfl hvn hvr hln ht1 hbad HX HLe
          have HA := Lib.hid hA
          clear hA
          obtain ⟨e1, hgx⟩ := HC.out _ HST.out
          go_wp2_with fail
          clear e1
          refine (more_any _ _ l _ (HT.out.next HST.out.2.2.2) (lent_txt HLN.out (by omega) HA.out HT1.out)).mono ?_
          rintro en w6 ⟨rfl, hb⟩
          rw [← HS.out]
          have H6 := Lib.hid (HST.out.next hb)
          have HA6 := Lib.hid (HA.out.below hb)
          have hB6 := H6.out.2.2.2
          have s6 := hB6.size
          clear hb HST HA hgx
          generalize hnx : Crc.more 0#32 (ls.take (j + 1)).flatten = nx at *
          have HNX := Lib.hid hnx
          clear hnx HS
          obtain ⟨e1, hgx⟩ := HC.out _ H6.out
          have e2 : w6.cell? ⟨b, off + j, none⟩ = some (.slice va ln vc) := (hB6.cell (p := ⟨b, off + j, none⟩) hbl).trans HE0.out
          have hb6 : b < w6.heap.size := Nat.lt_of_lt_of_le hbl s6
          have hlt1 : (j : Int) < (k : Int) + 1 := by omega
          have hlt2 : (j : Int) < (n : Int) := by omega
          go_wp2_with fail
          (refine region_grow 8 [(0, true), (1, true), (2, true), (3, true), (4, true), (5, true), (6, true), (7, true)] (by kernel_rfl) (fun _ _ d _ _ h => by cases d <;> exact h) (by kernel_rfl) ?_; simp only [withOps, List.getElem?_toArray, List.getElem?_cons_zero, List.getElem?_cons_succ, List.drop_succ_cons, List.drop_zero])
          (iterate 8 (refine grow_quiet (v := ?_) rfl ?_ ?_; rotate_left; (focus (intro w' hz' hw'; (try simp only [World.size_drew, World.size_alloc] at hw'); go_simp; (try with_reducible rfl); done)); try simp only [Act.put, List.setIfInBounds_toArray, List.set_cons_zero, List.set_cons_succ]))
          (with_reducible refine plan_end ?_)
          (try simp only [Act.put, List.setIfInBounds_toArray, List.set_cons_zero, List.set_cons_succ])
          clear e1 e2
          go_wp2_with fail
          refine (kept_any g c va ln vc l _ HLN.out (by omega) hc1 (show g < w6.drew.heap.size from HA6.out.lt) (lent_rd HLN.out (show Blk w6.drew g _ cs from HA6.out) HT1.out) (show Rd w6.drew w6.drew.heap.size va _ from (HVR.out.below hB6).more s6)).mono ?_
          rintro en w7 ⟨rfl, hb⟩
          have H7 := Lib.hid (H6.out.next (show Below w6.heap.size w6 w7 from bnext (by go_grown) hb))
          clear hb H6 hB6 s6 HA6 hgx hb6
          go_wp2_with fail
          go_roundw
          case rel => exact ⟨j + 1, by omega, by go_num, by rw [HNX.out], H7.out⟩
          case measure => simp [intOf]; omega
        · rw [show ls.take j = ls from List.take_of_length_le (by rw [HL.out]; omega)]
          go_wp2_with fail
          refine (refSum_any _ ls.flatten _ HST.out.2.2.1).mono ?_
          rintro en w6 ⟨rfl, hb⟩
          have H6 := Lib.hid (HST.out.next hb)
          clear hb HST
          go_wp2_with fail
          refine (works_any _ (HT.out.next H6.out.2.2.2)).mono ?_
          rintro en w7 ⟨rfl, hb⟩
          have hB7 := (H6.out.next hb).2.2.2
          clear hb H6
          go_wp2_with fail
          go_returns
          exact ⟨rfl, hB7⟩
end Go.Proofs.YtcjmobikjegioaaDoor
