/- The document's Put; lent, kept, spoilt. -/
import Derived.Test.YtolbmjilcngnhaaDoorFrD
set_option linter.unusedSimpArgs false
set_option linter.unusedVariables false
namespace Go.Proofs.YtolbmjilcngnhaaDoor
open Go.RowKit Go.Kp

set_option maxHeartbeats 2000000 in
theorem refPut_any (tag : UInt8) (a : Option Addr) (m c : Nat) (l : List UInt8) (w : World) (hl : l.length = m) (hm : m ≤ 4398046511104) (ha : a = none → c = 0) (hr : Rd w w.heap.size a (l.map B8)) :
    Calls Tryd.prog 14 #[B8 tag, .slice a m c] w fun e w' => ∃ v', e = .returned v' ∧ w'.ownsRow w.heap.size 5 1 v' (Frm.frame tag l).length ((Frm.frame tag l).map B8) ∧ Below w.heap.size w w' := by
  have HL := Lib.hid hl
  have HA := Lib.hid ha
  have HR := Lib.hid hr
  clear hl ha hr
  go_enter Tryd.func14, Tryd.ntmps14
  go_upto_region 1 with (fail)
  apply wp_region_lit
  iterate 4 (go_step; go_step; rename_i KK hKK; (with_reducible refine hKK _ _ ?_); clear hKK KK)
  go_step
  go_step
  refine (refNumber_any m _ (by omega)).mono ?_
  rintro en w1 ⟨v1, rfl, ho, hb⟩
  dsimp only
  rename_i KK hKK
  (with_reducible refine hKK _ _ ?_)
  clear hKK KK
  have hB1 : Below (w.heap.size + 1) (w.alloc (.cells #[B8 tag] 5)) w1 := by simpa using hb
  obtain ⟨ad, cap, rfl, hnl, _, _, hcn, hrd⟩ := own_rd ho
  have HW := Lib.hid (show w1.ownsRow w.heap.size 5 1 (.slice (some ⟨w.heap.size, 0, none⟩) 1 1) 1 ([tag].map B8) from
    ⟨rfl, .inr ⟨w.heap.size, 1, #[B8 tag], rfl, Nat.le_refl _, (hB1.block _ (by omega)).trans (heap_at rfl), Nat.le_refl _, by unfold maxLen; omega, rfl, rfl⟩⟩)
  have hBw : Below w.heap.size w w1 := (show Below w.heap.size w (w.alloc (.cells #[B8 tag] 5)) by go_grown).trans (hB1.mono (by omega))
  have hnb := numB_len m (by omega)
  have HRD := Lib.hid hrd
  clear ho hb hrd hB1
  have s1 := hBw.size
  have HN := Lib.hid hnl
  (with_reducible refine append_own (w0 := w1) ?_ (.tmp 8) (.tmp 11) ?_ w.heap.size (.slice (some ⟨w.heap.size, 0, none⟩) 1 1) (.slice (some ⟨w.heap.size, 0, none⟩) 1 1) 1 [tag] ?_ HW.out ad (Frm.numB m).length cap (Frm.numB m) ?_ hcn rfl HRD.out ?_ s1 (Own.of_below (Below.refl _ _) s1) ?_)
  · rfl
  · rfl
  · rfl
  · rfl
  · omega
  intro v2 w2 ho2 hg2
  have HO2 := Lib.hid ho2
  have hB2 := hBw.trans hg2.1
  have s2 := hB2.size
  clear ho2 hg2 HW HRD hBw hcn
  go_upto_region 2 with (fail)
  apply wp_region_lit
  iterate 2 (go_step; go_step; rename_i KK hKK; (with_reducible refine hKK _ _ ?_); clear hKK KK)
  (with_reducible refine append_own (w0 := w2) ?_ (.tmp 13) (.tmp 14) ?_ w.heap.size v2 v2 (1 + (Frm.numB m).length) ([tag] ++ Frm.numB m) ?_ HO2.out a m c l ?_ HA.out HL.out ((HR.out.below hB2).more s2) ?_ s2 (Own.of_below (Below.refl _ _) s2) ?_)
  · rfl
  · rfl
  · rfl
  · rfl
  · omega
  intro v3 w3 ho3 hg3
  have HO3 := Lib.hid (show w3.ownsRow w.heap.size 5 1 v3 (Frm.head tag l).length ((Frm.head tag l).map B8) by
    have e1 : Frm.head tag l = [tag] ++ Frm.numB m ++ l := by rw [Frm.head, HL.out]; simp
    have e2 : (Frm.head tag l).length = 1 + (Frm.numB m).length + m := by rw [Frm.head, HL.out]; simp [HL.out]; omega
    rw [e2, e1]; exact ho3)
  have HHL := Lib.hid (show (Frm.head tag l).length = 1 + (Frm.numB m).length + m by rw [Frm.head, HL.out]; simp [HL.out]; omega)
  have hB3 := hB2.trans hg3.1
  have s3 := hB3.size
  clear ho3 hg3 HO2 hB2
  obtain ⟨a3, c3, rfl, _, _, _, k4, k5⟩ := own_rd HO3.out
  have K5 := Lib.hid k5
  have K4 := Lib.hid k4
  clear k4 k5
  go_wp2_with fail
  refine (refSum_any _ (Frm.head tag l) _ ⟨a3, c3, rfl, K4.out, by have := HHL.out; omega, K5.out⟩).mono ?_
  rintro en w4 ⟨rfl, hb4⟩
  have HO4 := Lib.hid (owns_keep HO3.out (fun x _ hx => hb4.block x hx))
  have hB4 := bnext hB3 hb4
  have s4 := hB4.size
  clear hb4 HO3 K5 hB3
  generalize hs : Crc.more 0#32 (Frm.head tag l) = s
  have HF := Lib.hid (show Frm.frame tag l = Frm.head tag l ++ Crc.bytes4 s by rw [Frm.frame, hs])
  clear hs
  have h0 := Crc.num_nonneg s
  go_upto_region 4 with (fail)
  apply wp_region_lit
  iterate 13 (go_step; go_step; rename_i KK hKK; (with_reducible refine hKK _ _ ?_); clear hKK KK)
  (with_reducible refine append_own (w0 := w4) ?_ (.tmp 18) (.tmp 30) ?_ w.heap.size (.slice a3 (Frm.head tag l).length c3) (.slice a3 (Frm.head tag l).length c3) (Frm.head tag l).length (Frm.head tag l) ?_ (HO4.out.alloc _) (some ⟨w4.heap.size, 0, none⟩) 4 4 (Crc.bytes4 s) ?_ (fun h => by cases h) rfl ?_ ?_ s4 (Own.of_below (by go_grown) s4) ?_)
  · rfl
  · rfl
  · rfl
  · rfl
  · refine .inr ⟨w4.heap.size, 0, rfl, by simp, fun j u hu => ?_⟩
    rw [cell_of_row _ _ _ _ _ _ (heap_at rfl), Nat.zero_add, Crc.num_byte0, Crc.num_byte1, Crc.num_byte2, Crc.num_byte3]
    simpa [Crc.bytes4] using hu
  · have := HHL.out; omega
  intro v5 w5 ho5 hg5
  have HO5 := Lib.hid (show w5.ownsRow w.heap.size 5 1 v5 (Frm.frame tag l).length ((Frm.frame tag l).map B8) by
    have e : (Frm.frame tag l).length = (Frm.head tag l).length + 4 := by rw [HF.out]; simp [Crc.bytes4]
    rw [e, HF.out]; exact ho5)
  have hB5 := hB4.trans hg5.1
  clear ho5 hg5 HO4 HF
  go_wp2_with fail
  go_returns
  exact ⟨_, rfl, HO5.out, hB5⟩

/-- Bytes with the two marks behind them. -/
def marked (l : List UInt8) : List UInt8 := l ++ [165, 90]
set_option maxHeartbeats 1000000 in
theorem lent_any (a : Option Addr) (m c : Nat) (l : List UInt8) (w : World) (hl : l.length = m) (hm : m ≤ 70368744177664) (ha : a = none → c = 0) (hr : Rd w w.heap.size a (l.map B8)) :
    Calls Tryd.prog 15 #[.slice a m c] w fun e w' => ∃ g c' cs, e = .returned (.slice (some ⟨g, 0, none⟩) m c') ∧ m + 2 ≤ c' ∧ c' ≤ maxLen ∧ w.heap.size ≤ g ∧ Blk w' g 5 cs ∧ cs.size = c' ∧ cs.toList.take (m + 2) = (marked l).map B8 ∧ Below w.heap.size w w' := by
  have HL := Lib.hid hl
  have HA := Lib.hid ha
  have HR := Lib.hid hr
  clear hl ha hr
  go_enter Tryd.func15, Tryd.ntmps15
  go_upto_region 1 with (fail)
  apply wp_region_lit
  iterate 1 (go_step; go_step; rename_i KK hKK; (with_reducible refine hKK _ _ ?_); clear hKK KK)
  (with_reducible refine append_own (w0 := w) ?_ (.const (.slice none 0 0)) (.tmp 4) ?_ w.heap.size (.slice none 0 0) (.slice none 0 0) 0 [] ?_ (World.ownsRow_nil _ _ _ _) a m c l ?_ HA.out HL.out HR.out ?_ (Nat.le_refl _) (Own.of_below (Below.refl _ _) (Nat.le_refl _)) ?_)
  · rfl
  · rfl
  · rfl
  · rfl
  · omega
  intro v1 w1 ho1 hg1
  rw [Nat.zero_add, List.nil_append] at ho1
  have HO1 := Lib.hid ho1
  have hB1 := hg1.1
  have s1 := hB1.size
  clear ho1 hg1
  iterate 1 (go_step; go_step; rename_i KK hKK; (with_reducible refine hKK _ _ ?_); clear hKK KK)
  (with_reducible refine append_own (w0 := w1) ?_ (.tmp 5) (.tmp 6) ?_ w.heap.size v1 v1 m l ?_ (HO1.out.alloc _) (some ⟨w1.heap.size, 0, none⟩) 2 2 [165, 90] ?_ (fun h => by cases h) rfl ?_ ?_ s1 (Own.of_below (by go_grown) s1) ?_)
  · rfl
  · rfl
  · rfl
  · rfl
  · refine .inr ⟨w1.heap.size, 0, rfl, by simp, fun j u hu => ?_⟩
    rw [cell_of_row _ _ _ _ _ _ (heap_at rfl), Nat.zero_add]
    rw [show [(165 : UInt8), 90].map B8 = [Value.int .u8 165, .int .u8 90] from rfl] at hu
    simpa using hu
  · omega
  intro v2 w2 ho2 hg2
  have hB2 := hB1.trans hg2.1
  obtain ⟨g, cp, rfl, hg1', hgl⟩ := World.ownsRow.form ho2 (by omega)
  have HC := Lib.hid (show ∃ cs, Blk w2 g 5 cs ∧ m + 2 ≤ cp ∧ cp ≤ maxLen ∧ cs.size = cp ∧ cs.toList.take (m + 2) = (marked l).map B8 by
    rcases ho2.2 with ⟨h, _⟩ | ⟨_, _, cs, h, _, h1, h2, h3, h4, h5⟩
    · cases h
    · cases h
      exact ⟨cs, h1, h2, h3, by rw [h4, Nat.mul_one], by rw [Nat.mul_one] at h5; exact h5⟩)
  have hcp : m + 2 ≤ cp := by obtain ⟨_, _, h, _⟩ := HC.out; exact h
  clear ho2 hg2 HO1 hB1
  go_wp2_with fail
  go_returns
  obtain ⟨cs, h1, h2, h3, h4, h5⟩ := HC.out
  exact ⟨g, cp, cs, rfl, h2, h3, hg1', h1, h4, h5, hB2⟩

/-- What 'lent' laid is there. -/
def Lent (w : World) (g c : Nat) (l : List UInt8) : Prop := g < w.heap.size ∧ l.length + 2 ≤ c ∧ c ≤ maxLen ∧ ∀ (j : Nat) u, ((marked l).map B8)[j]? = some u → w.cell? ⟨g, j, none⟩ = some u

set_option maxHeartbeats 1000000 in
theorem kept_any (g c' : Nat) (a : Option Addr) (m c : Nat) (l : List UInt8) (w : World) (hL : Lent w g c' l) (hl : l.length = m) (hm : m ≤ 70368744177664) (hr : Rd w w.heap.size a (l.map B8)) :
    Calls Tryd.prog 18 #[.slice (some ⟨g, 0, none⟩) m c', .slice a m c] w (Ret (.bool true) w) := by
  obtain ⟨hg, h1, h2, hc⟩ := hL
  have e1 := conv_text g 0 m c' l hl
  have e2 := conv_rd a m c l hl
  have q1 : w.cell? ⟨g, m, none⟩ = some (.int .u8 165) := hc m _ (by subst hl; simp [marked])
  have q2 : w.cell? ⟨g, m + 1, none⟩ = some (.int .u8 90) := hc (m + 1) _ (by subst hl; simp [marked])
  have HC := Lib.hid (show ∀ (j : Nat) u, (l.map B8)[j]? = some u → w.cell? ⟨g, 0 + j, none⟩ = some u from fun j u hu => by
    rw [Nat.zero_add]
    exact hc j u (by rw [marked, List.map_append, List.getElem?_append_left (List.getElem?_eq_some_iff.1 hu).1]; exact hu))
  have r1 := e1 w HC.out
  have r2 := e2 w w.heap.size hr
  have hm2 : m + 2 ≤ c' := by omega
  have hmx : maxLen = 9223372036854775807 := rfl
  rw [hmx] at h2
  clear hc e1 e2 hr hl hmx h1
  go_enter Tryd.func18, Tryd.ntmps18
  go_wp2_with fail
  go_returns
  exact ⟨rfl, by go_grown⟩

/-- Bytes that are written over, one by one. -/
def spoilB (l : List UInt8) : List UInt8 := l.map fun b => b ^^^ 90
theorem xor90 : ∀ k : Nat, k < 256 → bits .xor .u8 (k : Int) 90 = ((k ^^^ 90 : Nat) : Int) := by decide +kernel
theorem xor_byte (b : UInt8) : bits .xor .u8 (b.toNat : Int) 90 = ((b ^^^ 90).toNat : Int) := by
  rw [xor90 b.toNat b.toNat_lt, UInt8.toNat_xor]; rfl

/-- All but one block is as it was. -/
def Only (g : Nat) (w w' : World) : Prop := Below g w w' ∧ w'.heap.size = w.heap.size ∧ ∀ k : Nat, k ≠ g → w'.heap[k]? = w.heap[k]?
theorem Only.refl (g : Nat) (w : World) : Only g w w := ⟨Below.refl _ _, rfl, fun _ _ => rfl⟩
theorem Only.below {g B : Nat} {w w' : World} (h : Only g w w') (hB : B ≤ g) : Below B w w' := h.1.mono hB
theorem Only.blk {g : Nat} {w w' : World} (h : Only g w w') {x : Nat} {t : TypeId} {cs : Array Value} (hb : Blk w x t cs) (hx : x ≠ g) : Blk w' x t cs := (h.2.2 x hx).trans hb
theorem Only.lent {g : Nat} {w w' : World} (h : Only g w w') {x c : Nat} {l : List UInt8} (hL : Lent w x c l) (hx : x ≠ g) : Lent w' x c l := by
  obtain ⟨h1, h2, h3, h4⟩ := hL
  refine ⟨by rw [h.2.1]; exact h1, h2, h3, fun j u hu => ?_⟩
  exact (World.cell?_of_block (a := ⟨x, j, none⟩) (h.2.2 x hx)).trans (h4 j u hu)
attribute [local go_sem high] xor_byte

set_option maxHeartbeats 1000000 in
/-- The bytes of a block: written over; nothing else turns. -/
theorem spoilt_any (g off m c : Nat) (cs : Array Value) (l : List UInt8) (w : World) (hl : l.length = m) (hm : m ≤ 70368744177664) (hA : Blk w g 5 cs) (hc : ∀ k z, l[k]? = some z → cs[off + k]? = some (B8 z)) :
    Calls Tryd.prog 19 #[.slice (some ⟨g, off, none⟩) m c] w fun e w' => e = .returned (.tuple #[]) ∧ Only g w w' := by
  have HL := Lib.hid hl
  have HC := Lib.hid hc
  clear hl hc
  go_enter Tryd.func19, Tryd.ntmps19
  go_wp2_with fail
  go_loopw [2] (fun i wr => ∃ k : Nat, k ≤ m ∧ i = .int .i64 k ∧ (∃ ds, Blk wr g 5 ds ∧ ∀ j, k ≤ j → ds[off + j]? = cs[off + j]?) ∧ Only g w wr) (fun i _ => m - (intOf i).toNat)
  case atStart => exact ⟨0, Nat.zero_le _, rfl, ⟨cs, hA, fun _ _ => rfl⟩, Only.refl _ _⟩
  case round =>
    obtain ⟨k, hk, rfl, ⟨ds, hD, hs⟩, hO⟩ := hrel
    have HO := Lib.hid hO
    have HS := Lib.hid hs
    clear hO hs
    rcases Nat.lt_or_ge k m with hlt | hge
    · obtain ⟨z, hz⟩ : ∃ z, l[k]? = some z := ⟨_, List.getElem?_eq_getElem (by rw [HL.out]; exact hlt)⟩
      have e0 : wr.cell? ⟨g, off + k, none⟩ = some (B8 z) := (hD.cell (off + k)).trans ((HS.out k (Nat.le_refl _)).trans (HC.out k z hz))
      have f0 := hD.free (off + k)
      have zb := byte_bd z
      have lD := hD.lt
      clear hz
      go_wp2_with fail
      go_roundw
      case rel =>
        refine ⟨k + 1, by omega, by go_num, ⟨ds.setIfInBounds (off + k) (.int .u8 ((z.toNat ^^^ 90 : Nat) : Int)), ?_, fun j hj => ?_⟩, ?_⟩
        · unfold Blk at hD; simp (disch := (first | omega | (simp only [World.size_alloc, World.size_setCell, World.size_drew] <;> omega) | fail)) only [Blk, heap_old, heap_at, heap_set_same, heap_set_ne, heap_drew', Option.map_some, putO_cells, hD]
        · rw [Array.getElem?_setIfInBounds_ne (by omega)]
          exact HS.out j (by omega)
        · refine ⟨HO.out.1.trans (by go_grown), ?_, fun x hx => ?_⟩
          · simp; exact HO.out.2.1
          · rw [heap_set_ne _ _ _ _ _ hx]
            exact HO.out.2.2 x hx
      case measure => simp [intOf]; omega
    · obtain rfl : k = m := by omega
      go_wp2_with fail
      refine bodyPost_end (v := .tuple #[]) (by simp [results, Tryd.results19]) rfl ⟨rfl, HO.out⟩
end Go.Proofs.YtolbmjilcngnhaaDoor
