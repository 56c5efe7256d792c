/- The program's put and Put. -/
import Derived.Test.YtolbmjilcngnhaaDoorFrC
set_option linter.unusedSimpArgs false
set_option linter.unusedVariables false
namespace Go.Proofs.YtolbmjilcngnhaaDoor
open Go.RowKit Go.Kp

theorem Own.rd {base : Nat} {w w' : World} {v v' : Value} {a : Option Addr} {xs : List Value} (h : Own base w w' v v') (hr : Rd w base a xs) : Rd w' base a xs := hr.below h.1

theorem Own.size {base : Nat} {w w' : World} {v v' : Value} (h : Own base w w' v v') : w.heap.size ≤ w'.heap.size := h.1.size

set_option maxHeartbeats 4000000 in
theorem put_any (base : Nat) (v0 : Value) (n0 : Nat) (l0 : List UInt8) (tag : UInt8) (a : Option Addr) (m c : Nat) (l : List UInt8) (w : World) (hT : Tab w) (hbase : base ≤ w.heap.size) (hb0 : 0 < base)
    (hown : w.ownsRow base 5 1 v0 n0 (l0.map B8)) (hn0 : n0 ≤ 1099511627776) (hl : l.length = m) (hm : m ≤ 268435456) (ha : a = none → c = 0) (hr : Rd w base a (l.map B8)) :
    Calls Tryd.prog 36 #[v0, B8 tag, .slice a m c] w fun e w' => ∃ v', e = .returned v' ∧ w'.ownsRow base 5 1 v' (n0 + (Frm.frame tag l).length) ((l0 ++ Frm.frame tag l).map B8) ∧ Own base w w' v0 v' := by
  have HT := Lib.hid hT
  have HL := Lib.hid hl
  have HA := Lib.hid ha
  have HR := Lib.hid hr
  have HO := Lib.hid hown
  have hl0 : l0.length = n0 := by have := hown.1; simpa using this
  have HL0 := Lib.hid hl0
  obtain ⟨a0, c0, rfl, _⟩ := own_slice hown
  clear hT hl ha hr hown hl0
  go_enter Tryd.func36, Tryd.ntmps36
  go_upto_region 2 with (fail)
  apply wp_region_lit
  iterate 3 (go_step; go_step; rename_i KK hKK; (with_reducible refine hKK _ _ ?_); clear hKK KK)
  (with_reducible refine append_own (w0 := w) ?_ (.tmp 12) (.tmp 14) ?_ base (.slice a0 n0 c0) (.slice a0 n0 c0) n0 l0 ?_ (HO.out.alloc _) (some ⟨w.heap.size, 0, none⟩) 1 1 [tag] ?_ (fun h => by cases h) rfl (one_rd _ _ rfl) ?_ hbase (Own.of_below (by go_grown) hbase) ?_)
  · rfl
  · rfl
  · rfl
  · rfl
  · omega
  intro v1 w1 ho1 hg1
  have HO1 := Lib.hid ho1
  clear ho1
  go_wp2_with fail
  go_loopw [0, 8] (fun v x wr => ∃ (d : List UInt8) (f k : Nat), x = .int .i64 k ∧ k ≤ 268435456 ∧ Frm.numB m = d ++ Frm.numF (f + 1) k ∧ k < 128 ^ (f + 1) ∧ d.length + f ≤ 9 ∧ wr.ownsRow base 5 1 v (n0 + 1 + d.length) ((l0 ++ [tag] ++ d).map B8) ∧ Own base w wr (.slice a0 n0 c0) v) (fun _ x _ => (intOf x).toNat)
  case atStart => exact ⟨[], 9, m, rfl, hm, rfl, by omega, by simp, by simpa using HO1.out, hg1⟩
  case round =>
    obtain ⟨d, f, k, rfl, hk, he, hb, hd, ho, hB⟩ := hrel
    have HE := Lib.hid he
    have HO := Lib.hid ho
    have HBD := Lib.hid hb
    have hbr : base ≤ wr.heap.size := Nat.le_trans hbase hB.1.size
    clear he ho hb
    rcases Nat.lt_or_ge k 128 with hlt | hge
    · have hi : ¬ (128 : Int) ≤ k := by omega
      go_upto_region 7 with (fail)
      apply wp_region_lit
      iterate 4 (go_step; go_step; rename_i KK hKK; (with_reducible refine hKK _ _ ?_); clear hKK KK)
      (with_reducible refine append_own (w0 := w) ?_ (.tmp 28) (.tmp 31) ?_ base (.slice a0 n0 c0) u0 (n0 + 1 + d.length) (l0 ++ [tag] ++ d) ?_ (HO.out.alloc _) (some ⟨wr.heap.size, 0, none⟩) 1 1 [UInt8.ofNat k] ?_ (fun h => by cases h) rfl (one_rd _ _ (byte_last k hlt)) ?_ hbase (hB.next hbase (by go_grown)) ?_)
      · rfl
      · rfl
      · rfl
      · rfl
      · omega
      intro v2 w2 ho2 hg2
      have HE2 := Lib.hid (show Frm.numB m = d ++ [UInt8.ofNat k] by rw [HE.out, Frm.numF_last f k hlt])
      have HO2 := Lib.hid (show w2.ownsRow base 5 1 v2 (n0 + 1 + (Frm.numB m).length) ((l0 ++ [tag] ++ Frm.numB m).map B8) by
        rw [HE2.out]
        have e1 : n0 + 1 + (d ++ [UInt8.ofNat k]).length = n0 + 1 + d.length + 1 := by simp; omega
        rw [e1, ← List.append_assoc]
        exact ho2)
      clear ho2 HO HE HE2 HBD hB
      have hnb := numB_len m (by omega)
      go_upto_region 8 with (fail)
      apply wp_region_lit
      iterate 2 (go_step; go_step; rename_i KK hKK; (with_reducible refine hKK _ _ ?_); clear hKK KK)
      (with_reducible refine append_own (w0 := w) ?_ (.tmp 33) (.tmp 34) ?_ base (.slice a0 n0 c0) v2 (n0 + 1 + (Frm.numB m).length) (l0 ++ [tag] ++ Frm.numB m) ?_ HO2.out a m c l ?_ HA.out HL.out ((hg2.rd HR.out).more (Nat.le_trans hbase hg2.size)) ?_ hbase hg2 ?_)
      · rfl
      · rfl
      · rfl
      · rfl
      · omega
      intro v3 w3 ho3 hg3
      clear HO2 hg2
      have HH := Lib.hid (show l0 ++ [tag] ++ Frm.numB m ++ l = l0 ++ Frm.head tag l by rw [Frm.head, HL.out]; simp)
      have HHL := Lib.hid (show n0 + 1 + (Frm.numB m).length + m = n0 + (Frm.head tag l).length by rw [Frm.head]; simp [HL.out]; omega)
      rw [HH.out, HHL.out] at ho3
      have hhl : 1 ≤ (Frm.head tag l).length ∧ (Frm.head tag l).length ≤ 268435500 := by have := HHL.out; omega
      obtain ⟨g, cp, rfl, hg1', hgl⟩ := World.ownsRow.form ho3 (by omega)
      have hcp : n0 + (Frm.head tag l).length ≤ cp ∧ cp ≤ maxLen := by
        rcases ho3.2 with ⟨h, _⟩ | ⟨_, _, _, h, _, _, h2, h3, _⟩
        · cases h
        · cases h; exact ⟨h2, h3⟩
      have HC := Lib.hid (show ∀ (j : Nat) u, ((Frm.head tag l).map B8)[j]? = some u → w3.cell? ⟨g, n0 + j, none⟩ = some u from fun j u hu => by
        have hj : j < (Frm.head tag l).length := by have := (List.getElem?_eq_some_iff.1 hu).1; simpa using this
        refine (ho3.cellAt (n0 + j) (by omega)).trans ?_
        rw [List.map_append, List.getElem?_append_right (by simp [HL0.out]), List.length_map, HL0.out, Nat.add_sub_cancel_left]
        exact hu)
      have HO3 := Lib.hid ho3
      have hmx : maxLen = 9223372036854775807 := rfl
      clear ho3 HO
      go_wp2_with fail
      have s3 := hg3.size
      have hT3 := Lib.hid (HT.out.below hg3.1 hb0)
      refine (sum_any (some ⟨w3.heap.size, 0, none⟩) 1 1 [.slice (some ⟨g, n0, none⟩) (Frm.head tag l).length (cp - n0)] [Frm.head tag l] _ (hT3.out.next (by go_grown)) rfl (by omega) ⟨rfl, .inr ⟨w3.heap.size, 0, rfl, by simp, ?_⟩, ?_⟩).mono ?_
      · intro j u hu
        rw [cell_of_row _ _ _ _ _ _ (heap_at rfl), Nat.zero_add]
        simpa using hu
      · intro j v' l' hv hl'
        have hj : j = 0 := by
          have := (List.getElem?_eq_some_iff.1 hv).1
          simp at this; omega
        subst hj
        obtain rfl : Value.slice (some ⟨g, n0, none⟩) (Frm.head tag l).length (cp - n0) = v' := by simpa using hv
        obtain rfl : Frm.head tag l = l' := by simpa using hl'
        refine ⟨_, _, rfl, fun h => (by cases h), by omega, .inr ⟨g, n0, rfl, by simp; omega, fun j u hu => ?_⟩⟩
        exact ((Below.cell (p := ⟨g, n0 + j, none⟩) (show Below w3.heap.size w3 _ by go_grown) hgl)).trans (HC.out j u hu)
      rintro en w4 ⟨rfl, hb4⟩
      rw [show [Frm.head tag l].flatten = Frm.head tag l by simp]
      have hB4 : Below w3.heap.size w3 w4 := bnext (by go_grown) hb4
      have HO4 := Lib.hid (owns_keep HO3.out (fun x _ hx => hB4.block x hx))
      have hg4 := hg3.next hbase hB4
      clear hb4 HO3 HC hB4 hg3 hT3 s3
      generalize hs : Crc.more 0#32 (Frm.head tag l) = s
      have HF := Lib.hid (show Frm.frame tag l = Frm.head tag l ++ Crc.bytes4 s by rw [Frm.frame, hs])
      clear hs
      go_wp2_with fail
      refine (bytes_any s _).mono ?_
      rintro en w5 ⟨rfl, hb5⟩
      have HO5 := Lib.hid (owns_keep HO4.out (fun x _ hx => hb5.block x hx))
      have hg5 := hg4.next hbase hb5
      clear HO4 hg4 hb5
      have hbv : bytesVal s = .agg #[B8 (Crc.byteAt s 0), B8 (Crc.byteAt s 1), B8 (Crc.byteAt s 2), B8 (Crc.byteAt s 3)] := rfl
      rw [hbv]
      clear hbv
      go_upto_region 10 with (fail)
      apply wp_region_lit
      iterate 2 (go_step; go_step; rename_i KK hKK; (with_reducible refine hKK _ _ ?_); clear hKK KK)
      (with_reducible refine append_own (w0 := w) ?_ (.tmp 42) (.tmp 43) ?_ base (.slice a0 n0 c0) (.slice (some ⟨g, 0, none⟩) (n0 + (Frm.head tag l).length) cp) (n0 + (Frm.head tag l).length) (l0 ++ Frm.head tag l) ?_ ?_ (some ⟨w5.heap.size, 0, none⟩) 4 4 (Crc.bytes4 s) ?_ (fun h => by cases h) rfl ?_ ?_ hbase (hg5.next hbase (by go_grown)) ?_)
      · rfl
      · rfl
      · rfl
      · exact owns_keep HO5.out (fun x _ hx => (show Below w5.heap.size w5 _ by go_grown).block x hx)
      · rfl
      · refine .inr ⟨w5.heap.size, 0, rfl, by simp, fun j u hu => ?_⟩
        rw [cell_of_row _ _ _ _ _ _ (heap_at rfl), Nat.zero_add]
        simpa [Crc.bytes4] using hu
      · omega
      intro v6 w6 ho6 hg6
      have HO6 := Lib.hid ho6
      clear ho6
      have hfl : n0 + (Frm.head tag l).length + 4 = n0 + (Frm.frame tag l).length := by rw [HF.out]; simp [Crc.bytes4]; omega
      have HO7 := Lib.hid (show w6.ownsRow base 5 1 v6 (n0 + (Frm.frame tag l).length) ((l0 ++ Frm.frame tag l).map B8) by
        rw [← hfl, HF.out, ← List.append_assoc]
        exact HO6.out)
      go_wp2_with fail
      go_returns
      exact ⟨_, rfl, HO7.out, hg6⟩
    · have hi : (128 : Int) ≤ k := by omega
      have hf : 1 ≤ f := by
        rcases Nat.eq_zero_or_pos f with h0 | h0
        · subst h0; have := HBD.out; simp at this; omega
        · exact h0
      go_upto_region 6 with (fail)
      apply wp_region_lit
      iterate 5 (go_step; go_step; rename_i KK hKK; (with_reducible refine hKK _ _ ?_); clear hKK KK)
      (with_reducible refine append_own (w0 := w) ?_ (.tmp 22) (.tmp 26) ?_ base (.slice a0 n0 c0) u0 (n0 + 1 + d.length) (l0 ++ [tag] ++ d) ?_ (HO.out.alloc _) (some ⟨wr.heap.size, 0, none⟩) 1 1 [UInt8.ofNat (k % 128 + 128)] ?_ (fun h => by cases h) rfl (one_rd _ _ (or_byte k)) ?_ hbase (hB.next hbase (by go_grown)) ?_)
      · rfl
      · rfl
      · rfl
      · rfl
      · omega
      intro v2 w2 ho2 hg2
      have HE2 := Lib.hid (show Frm.numB m = d ++ [UInt8.ofNat (k % 128 + 128)] ++ Frm.numF (f - 1 + 1) (k / 128) by
        rw [HE.out, Frm.numF_next f k (by omega), Nat.sub_add_cancel hf]; simp)
      have HO2 := Lib.hid ho2
      have HB2 := Lib.hid (show k / 128 < 128 ^ (f - 1 + 1) by have := HBD.out; rw [Nat.sub_add_cancel hf]; rw [Nat.pow_succ] at this; omega)
      clear HE HO HBD ho2
      go_wp2_with fail
      go_roundw
      case rel => exact ⟨d ++ [UInt8.ofNat (k % 128 + 128)], f - 1, k / 128, by go_num, by omega, HE2.out, HB2.out, by simp; omega, by simpa [Nat.add_assoc] using HO2.out, hg2⟩
      case measure => simp [intOf]; omega

/-- A row that is owned, read. -/
theorem own_rd {w : World} {base : Nat} {v : Value} {n : Nat} {l : List UInt8} (h : w.ownsRow base 5 1 v n (l.map B8)) : ∃ ad cap, v = .slice ad n cap ∧ l.length = n ∧ n ≤ cap ∧ cap ≤ maxLen ∧ (ad = none → cap = 0) ∧ Rd w w.heap.size ad (l.map B8) := by
  have hl : l.length = n := by have := h.1; simpa using this
  obtain ⟨a, c, rfl, h1, h2, h3⟩ := own_slice h
  refine ⟨a, c, rfl, hl, h1, h2, h3, ?_⟩
  rcases Nat.eq_zero_or_pos n with h0 | h0
  · subst h0
    exact .inl (by rw [List.eq_nil_of_length_eq_zero hl]; rfl)
  · obtain ⟨g, c', he, hg1, hgl⟩ := World.ownsRow.form h h0
    simp only [Value.slice.injEq] at he
    obtain ⟨rfl, _, rfl⟩ := he
    refine .inr ⟨g, 0, rfl, hgl, fun j u hu => ?_⟩
    have hj := (List.getElem?_eq_some_iff.1 hu).1
    rw [Nat.zero_add]
    refine (h.cellAt j (by simp at hj; omega)).trans hu

set_option maxHeartbeats 1000000 in
theorem Put_any (tag : UInt8) (a : Option Addr) (m c : Nat) (l : List UInt8) (w : World) (hT : Tab w) (hl : l.length = m) (hm : m ≤ 268435456) (ha : a = none → c = 0) (hr : Rd w w.heap.size a (l.map B8)) :
    Calls Tryd.prog 16 #[B8 tag, .slice a m c] w fun e w' => ∃ v', e = .returned (.tuple #[v', .int .i64 0]) ∧ w'.ownsRow w.heap.size 5 1 v' (Frm.frame tag l).length ((Frm.frame tag l).map B8) ∧ Below w.heap.size w w' := by
  have HT := Lib.hid hT
  have HL := Lib.hid hl
  have HA := Lib.hid ha
  have HR := Lib.hid hr
  have hi : ¬ (268435456 : Int) < m := by omega
  clear hT hl ha hr
  go_enter Tryd.func16, Tryd.ntmps16
  go_wp2_with fail
  refine (put_any w.heap.size (.slice none 0 0) 0 [] tag a m c l _ HT.out (Nat.le_refl _) HT.out.1 (World.ownsRow_nil _ _ _ _) (by omega) HL.out hm HA.out HR.out).mono ?_
  rintro en w1 ⟨v1, rfl, ho, hg⟩
  have HO := Lib.hid (show w1.ownsRow w.heap.size 5 1 v1 (Frm.frame tag l).length ((Frm.frame tag l).map B8) by simpa using ho)
  clear ho
  go_wp2_with fail
  go_ret2
  exact ⟨_, rfl, HO.out, hg.1⟩

theorem Put_long (tag : UInt8) (a : Option Addr) (m c : Nat) (w : World) (hm : 268435456 < m) (hm2 : m ≤ 281474976710656) :
    Calls Tryd.prog 16 #[B8 tag, .slice a m c] w (Ret (.tuple #[.slice none 0 0, .int .i64 3]) w) := by
  have hi : (268435456 : Int) < m := by omega
  go_enter Tryd.func16, Tryd.ntmps16
  go_wp2_with fail
  go_ret2
  exact ⟨rfl, by go_grown⟩
end Go.Proofs.YtolbmjilcngnhaaDoor
