/- CrcBursts: the walk. -/
import Derived.Test.YtcjmobikjegioaaDoorCBurstW
set_option linter.unusedSimpArgs false
set_option linter.unusedVariables false
namespace Go.Proofs.YtcjmobikjegioaaDoor
open Go.RowKit Go.Kp

def bstAll (a b : List UInt8) : Option (Nat × Nat) := if a.length = b.length then bst (dif a b) (8 * a.length) else none
theorem burst_all (a b : Option Addr) (n m ca cb : Nat) (la lb : List UInt8) (w : World) (ha : la.length = n) (hb : lb.length = m) (hn : n ≤ 140737488351232) (hm : m ≤ 140737488351232) (hra : Rd w w.heap.size a (la.map B8)) (hrb : Rd w w.heap.size b (lb.map B8)) :
    Calls Tryd.prog 36 #[.slice a n ca, .slice b m cb] w (Ret (bval (bstAll la lb)) w) := by
  unfold bstAll
  by_cases h : n = m
  · subst h
    rw [if_pos (ha.trans hb.symm), ha]
    exact burst_any a b n ca cb la lb w ha hb hn hra hrb
  · rw [if_neg (by rw [ha, hb]; exact h)]
    exact burst_not a b n m ca cb w h hn hm
theorem refBurst_all (a b : Option Addr) (n m ca cb : Nat) (la lb : List UInt8) (w : World) (ha : la.length = n) (hb : lb.length = m) (hn : n ≤ 140737488351232) (hm : m ≤ 140737488351232) (hra : Rd w w.heap.size a (la.map B8)) (hrb : Rd w w.heap.size b (lb.map B8)) :
    Calls Tryd.prog 37 #[.slice a n ca, .slice b m cb] w (Ret (bval (bstAll la lb)) w) := by
  unfold bstAll
  by_cases h : n = m
  · subst h
    rw [if_pos (ha.trans hb.symm), ha]
    exact refBurst_any a b n ca cb la lb w ha hb hn hra hrb
  · rw [if_neg (by rw [ha, hb]; exact h)]
    exact refBurst_not a b n m ca cb w h hn hm
/-- What a lent text is, wherever its block has stayed. -/
theorem lent_rd {w : World} {g : Nat} {cs : Array Value} {n : Nat} {l : List UInt8} (hl : l.length = n) (h : Blk w g 5 cs) (ht : cs.toList.take (n + 3) = (marked l).map B8) :
    ∀ (j : Nat) u, ((marked l).map B8)[j]? = some u → w.cell? ⟨g, j, none⟩ = some u := fun j u hu => by
  rw [h.cell j, ← Array.getElem?_toList]
  rw [← ht] at hu
  have hj : j < n + 3 := by
    have := (List.getElem?_eq_some_iff.1 hu).1
    rw [List.length_take] at this; omega
  rwa [List.getElem?_take_of_lt hj] at hu
theorem lent_txt {w : World} {g : Nat} {cs : Array Value} {n c : Nat} {l : List UInt8} (hl : l.length = n) (hn : n ≤ 140737488351232) (h : Blk w g 5 cs) (ht : cs.toList.take (n + 3) = (marked l).map B8) :
    Txt w w.heap.size (.slice (some ⟨g, 0, none⟩) n c) l :=
  ⟨_, c, by rw [hl], (fun h => by cases h), by omega, .inr ⟨g, 0, rfl, h.lt, fun j u hu => by
    rw [Nat.zero_add]
    refine lent_rd hl h ht j u ?_
    rw [marked, List.map_append, List.getElem?_append_left (List.getElem?_eq_some_iff.1 hu).1]
    exact hu⟩⟩
theorem rd_of {w : World} {a : Option Addr} {n c : Nat} {l : List UInt8} (h : Txt w w.heap.size (.slice a n c) l) : Rd w w.heap.size a (l.map B8) := by
  obtain ⟨a', c', h1, _, _, h4⟩ := h
  injection h1 with h1 _ _
  subst h1; exact h4

set_option maxHeartbeats 8000000 in
theorem bursts_none (a b : Option Addr) (n m ca cb : Nat) (la lb : List UInt8) (w : World) (hT : Tab w) (ha : Txt w w.heap.size (.slice a n ca) la) (hb : Txt w w.heap.size (.slice b m cb) lb) (hla : la.length = n) (hlb : lb.length = m) (hn : n ≤ 140737488351232) (hm : m ≤ 140737488351232) (h0 : a = none → ca = 0) (h1 : b = none → cb = 0)
    (hR : bstAll la lb = none) :
    Calls Tryd.prog 10 #[.slice a n ca, .slice b m cb] w (Ret (.bool true) w) := by
  have HT := Lib.hid hT
  have HA := Lib.hid ha
  have HB := Lib.hid hb
  have HLA := Lib.hid hla
  have HLB := Lib.hid hlb
  have H0 := Lib.hid h0
  have H1 := Lib.hid h1
  have HR := Lib.hid hR
  clear hR
  clear hT ha hb hla hlb h0 h1
  go_enter Tryd.func10, Tryd.ntmps10
  go_wp2_with fail
  refine (lend_any a n ca la _ HLA.out hn H0.out (rd_of (HA.out.next (by go_grown)))).mono ?_
  rintro en w1 ⟨g1, c1, cs1, rfl, hc1, hm1, hg1, A1, hz1, ht1, hb⟩
  have hB1 : Below w.heap.size w w1 := bnext (by go_grown) hb
  have HT1 := Lib.hid ht1
  have s1 := hB1.size
  clear hb ht1 hz1
  go_wp2_with fail
  refine (lend_any b m cb lb _ HLB.out hm H1.out (rd_of (HB.out.next hB1))).mono ?_
  rintro en w2 ⟨g2, c2, cs2, rfl, hc2, hm2, hg2, A2, hz2, ht2, hb⟩
  have hB2 : Below w.heap.size w w2 := bnext (by go_grown) hb
  have HT2 := Lib.hid ht2
  have C2 := A1.below hb
  have s2 := hB2.size
  clear hb ht2 hz2 A1 hB1 s1
  have HX := Lib.hid (lent_txt (c := c1) HLA.out hn C2 HT1.out)
  have HY := Lib.hid (lent_txt (c := c2) HLB.out hm A2 HT2.out)
  go_wp2_with fail
  refine (burst_all _ _ n m _ _ la lb _ HLA.out HLB.out hn hm (rd_of HX.out) (rd_of HY.out)).mono ?_
  rintro en w3 ⟨rfl, hb⟩
  rw [HR.out, bval]
  have hB3 : Below w.heap.size w w3 := bnext (by go_grown) hb
  have A3 := A2.below hb
  have C3 := C2.below hb
  have s3 := hB3.size
  clear hb hB2 A2 C2 s2 HX HY
  go_wp2_with fail
  refine (refBurst_all a b n m ca cb la lb _ HLA.out HLB.out hn hm (rd_of (HA.out.next hB3)) (rd_of (HB.out.next hB3))).mono ?_
  rintro en w4 ⟨rfl, hb⟩
  rw [HR.out, bval]
  have hB4 : Below w.heap.size w w4 := bnext (by go_grown) hb
  have A4 := A3.below hb
  have C4 := C3.below hb
  have s4 := hB4.size
  have l4 := A4.lt
  have k4 := C4.lt
  clear hb hB3 A3 C3 s3
  go_wp2_with fail
  refine (kept_any g1 c1 a n ca la _ HLA.out hn hc1 k4 (lent_rd HLA.out C4 HT1.out) (rd_of (HA.out.next hB4))).mono ?_
  rintro en w5 ⟨rfl, hb⟩
  have hB5 : Below w.heap.size w w5 := bnext (by go_grown) hb
  have A5 := A4.below hb
  have C5 := C4.below hb
  have s5 := hB5.size
  have l5 := A5.lt
  clear hb hB4 A4 C4 s4 l4 k4
  go_wp2_with fail
  refine (kept_any g2 c2 b m cb lb _ HLB.out hm hc2 l5 (lent_rd HLB.out A5 HT2.out) (rd_of (HB.out.next hB5))).mono ?_
  rintro en w6 ⟨rfl, hb⟩
  have hB6 : Below w.heap.size w w6 := bnext (by go_grown) hb
  have A6 := A5.below hb
  have C6 := C5.below hb
  have s6 := hB6.size
  clear hb hB5 A5 C5 s5 l5
  clear A6 C6
  go_wp2_with fail
  refine (works_any _ ?_).mono ?_
  · exact HT.out.next (by go_grown)
  rintro en w9 ⟨rfl, hb⟩
  have hB9 : Below w.heap.size w w9 := bnext (by go_grown) hb
  clear hb hB6
  go_wp2_with fail
  go_returns
  exact ⟨rfl, by go_grown⟩

set_option maxHeartbeats 8000000 in
theorem bursts_far (a b : Option Addr) (n m ca cb : Nat) (la lb : List UInt8) (f l : Nat) (w : World) (hT : Tab w) (ha : Txt w w.heap.size (.slice a n ca) la) (hb : Txt w w.heap.size (.slice b m cb) lb) (hla : la.length = n) (hlb : lb.length = m) (hn : n ≤ 140737488351232) (hm : m ≤ 140737488351232) (h0 : a = none → ca = 0) (h1 : b = none → cb = 0)
    (hR : bstAll la lb = some (f, l)) (hf : f + 32 ≤ l) (hbl : l < 1125899906842624) :
    Calls Tryd.prog 10 #[.slice a n ca, .slice b m cb] w (Ret (.bool true) w) := by
  have HT := Lib.hid hT
  have HA := Lib.hid ha
  have HB := Lib.hid hb
  have HLA := Lib.hid hla
  have HLB := Lib.hid hlb
  have H0 := Lib.hid h0
  have H1 := Lib.hid h1
  have HR := Lib.hid hR
  clear hR
  have hd : (32 : Int) ≤ (l : Int) - (f : Int) := by omega
  clear hT ha hb hla hlb h0 h1
  go_enter Tryd.func10, Tryd.ntmps10
  go_wp2_with fail
  refine (lend_any a n ca la _ HLA.out hn H0.out (rd_of (HA.out.next (by go_grown)))).mono ?_
  rintro en w1 ⟨g1, c1, cs1, rfl, hc1, hm1, hg1, A1, hz1, ht1, hb⟩
  have hB1 : Below w.heap.size w w1 := bnext (by go_grown) hb
  have HT1 := Lib.hid ht1
  have s1 := hB1.size
  clear hb ht1 hz1
  go_wp2_with fail
  refine (lend_any b m cb lb _ HLB.out hm H1.out (rd_of (HB.out.next hB1))).mono ?_
  rintro en w2 ⟨g2, c2, cs2, rfl, hc2, hm2, hg2, A2, hz2, ht2, hb⟩
  have hB2 : Below w.heap.size w w2 := bnext (by go_grown) hb
  have HT2 := Lib.hid ht2
  have C2 := A1.below hb
  have s2 := hB2.size
  clear hb ht2 hz2 A1 hB1 s1
  have HX := Lib.hid (lent_txt (c := c1) HLA.out hn C2 HT1.out)
  have HY := Lib.hid (lent_txt (c := c2) HLB.out hm A2 HT2.out)
  go_wp2_with fail
  refine (burst_all _ _ n m _ _ la lb _ HLA.out HLB.out hn hm (rd_of HX.out) (rd_of HY.out)).mono ?_
  rintro en w3 ⟨rfl, hb⟩
  rw [HR.out, bval]
  have hB3 : Below w.heap.size w w3 := bnext (by go_grown) hb
  have A3 := A2.below hb
  have C3 := C2.below hb
  have s3 := hB3.size
  clear hb hB2 A2 C2 s2 HX HY
  go_wp2_with fail
  refine (refBurst_all a b n m ca cb la lb _ HLA.out HLB.out hn hm (rd_of (HA.out.next hB3)) (rd_of (HB.out.next hB3))).mono ?_
  rintro en w4 ⟨rfl, hb⟩
  rw [HR.out, bval]
  have hB4 : Below w.heap.size w w4 := bnext (by go_grown) hb
  have A4 := A3.below hb
  have C4 := C3.below hb
  have s4 := hB4.size
  have l4 := A4.lt
  have k4 := C4.lt
  clear hb hB3 A3 C3 s3
  go_wp2_with fail
  refine (kept_any g1 c1 a n ca la _ HLA.out hn hc1 k4 (lent_rd HLA.out C4 HT1.out) (rd_of (HA.out.next hB4))).mono ?_
  rintro en w5 ⟨rfl, hb⟩
  have hB5 : Below w.heap.size w w5 := bnext (by go_grown) hb
  have A5 := A4.below hb
  have C5 := C4.below hb
  have s5 := hB5.size
  have l5 := A5.lt
  clear hb hB4 A4 C4 s4 l4 k4
  go_wp2_with fail
  refine (kept_any g2 c2 b m cb lb _ HLB.out hm hc2 l5 (lent_rd HLB.out A5 HT2.out) (rd_of (HB.out.next hB5))).mono ?_
  rintro en w6 ⟨rfl, hb⟩
  have hB6 : Below w.heap.size w w6 := bnext (by go_grown) hb
  have A6 := A5.below hb
  have C6 := C5.below hb
  have s6 := hB6.size
  clear hb hB5 A5 C5 s5 l5
  clear A6 C6
  go_wp2_with fail
  refine (works_any _ ?_).mono ?_
  · exact HT.out.next (by go_grown)
  rintro en w9 ⟨rfl, hb⟩
  have hB9 : Below w.heap.size w w9 := bnext (by go_grown) hb
  clear hb hB6
  go_wp2_with fail
  go_returns
  exact ⟨rfl, by go_grown⟩

set_option maxHeartbeats 8000000 in
theorem bursts_near (a b : Option Addr) (n m ca cb : Nat) (la lb : List UInt8) (f l : Nat) (w : World) (hT : Tab w) (ha : Txt w w.heap.size (.slice a n ca) la) (hb : Txt w w.heap.size (.slice b m cb) lb) (hla : la.length = n) (hlb : lb.length = m) (hn : n ≤ 140737488351232) (hm : m ≤ 140737488351232) (h0 : a = none → ca = 0) (h1 : b = none → cb = 0)
    (hR : bstAll la lb = some (f, l)) (hf : l < f + 32) (hfl : f ≤ l) (hbl : l < 1125899906842624) (hne : Crc.more 0#32 la ≠ Crc.more 0#32 lb) :
    Calls Tryd.prog 10 #[.slice a n ca, .slice b m cb] w (Ret (.bool true) w) := by
  have HT := Lib.hid hT
  have HA := Lib.hid ha
  have HB := Lib.hid hb
  have HLA := Lib.hid hla
  have HLB := Lib.hid hlb
  have H0 := Lib.hid h0
  have H1 := Lib.hid h1
  have HR := Lib.hid hR
  clear hR
  have hd : (l : Int) - (f : Int) < (32 : Int) := by omega
  have HNE := Lib.hid (show (Crc.num (Crc.more 0#32 la) == Crc.num (Crc.more 0#32 lb)) = false from beq_false_of_ne fun e => hne (Crc.num_inj e))
  clear hne
  clear hT ha hb hla hlb h0 h1
  go_enter Tryd.func10, Tryd.ntmps10
  go_wp2_with fail
  refine (lend_any a n ca la _ HLA.out hn H0.out (rd_of (HA.out.next (by go_grown)))).mono ?_
  rintro en w1 ⟨g1, c1, cs1, rfl, hc1, hm1, hg1, A1, hz1, ht1, hb⟩
  have hB1 : Below w.heap.size w w1 := bnext (by go_grown) hb
  have HT1 := Lib.hid ht1
  have s1 := hB1.size
  clear hb ht1 hz1
  go_wp2_with fail
  refine (lend_any b m cb lb _ HLB.out hm H1.out (rd_of (HB.out.next hB1))).mono ?_
  rintro en w2 ⟨g2, c2, cs2, rfl, hc2, hm2, hg2, A2, hz2, ht2, hb⟩
  have hB2 : Below w.heap.size w w2 := bnext (by go_grown) hb
  have HT2 := Lib.hid ht2
  have C2 := A1.below hb
  have s2 := hB2.size
  clear hb ht2 hz2 A1 hB1 s1
  have HX := Lib.hid (lent_txt (c := c1) HLA.out hn C2 HT1.out)
  have HY := Lib.hid (lent_txt (c := c2) HLB.out hm A2 HT2.out)
  go_wp2_with fail
  refine (burst_all _ _ n m _ _ la lb _ HLA.out HLB.out hn hm (rd_of HX.out) (rd_of HY.out)).mono ?_
  rintro en w3 ⟨rfl, hb⟩
  rw [HR.out, bval]
  have hB3 : Below w.heap.size w w3 := bnext (by go_grown) hb
  have A3 := A2.below hb
  have C3 := C2.below hb
  have s3 := hB3.size
  clear hb hB2 A2 C2 s2 HX HY
  go_wp2_with fail
  refine (refBurst_all a b n m ca cb la lb _ HLA.out HLB.out hn hm (rd_of (HA.out.next hB3)) (rd_of (HB.out.next hB3))).mono ?_
  rintro en w4 ⟨rfl, hb⟩
  rw [HR.out, bval]
  have hB4 : Below w.heap.size w w4 := bnext (by go_grown) hb
  have A4 := A3.below hb
  have C4 := C3.below hb
  have s4 := hB4.size
  have l4 := A4.lt
  have k4 := C4.lt
  clear hb hB3 A3 C3 s3
  go_wp2_with fail
  refine (kept_any g1 c1 a n ca la _ HLA.out hn hc1 k4 (lent_rd HLA.out C4 HT1.out) (rd_of (HA.out.next hB4))).mono ?_
  rintro en w5 ⟨rfl, hb⟩
  have hB5 : Below w.heap.size w w5 := bnext (by go_grown) hb
  have A5 := A4.below hb
  have C5 := C4.below hb
  have s5 := hB5.size
  have l5 := A5.lt
  clear hb hB4 A4 C4 s4 l4 k4
  go_wp2_with fail
  refine (kept_any g2 c2 b m cb lb _ HLB.out hm hc2 l5 (lent_rd HLB.out A5 HT2.out) (rd_of (HB.out.next hB5))).mono ?_
  rintro en w6 ⟨rfl, hb⟩
  have hB6 : Below w.heap.size w w6 := bnext (by go_grown) hb
  have A6 := A5.below hb
  have C6 := C5.below hb
  have s6 := hB6.size
  clear hb hB5 A5 C5 s5 l5
  have HX := Lib.hid (lent_txt (c := c1) HLA.out hn C6 HT1.out)
  have HY := Lib.hid (lent_txt (c := c2) HLB.out hm A6 HT2.out)
  clear A6 C6
  go_wp2_with fail
  refine (sum1 _ _ la _ ?_ (heap_at rfl) ?_).mono ?_
  · exact HT.out.next (by go_grown)
  · exact HX.out.next (by go_grown)
  rintro en w7 ⟨rfl, hb⟩
  have hB7 : Below w.heap.size w w7 := bnext (by go_grown) hb
  have HY2 := Lib.hid (HY.out.next (show Below w6.heap.size w6 w7 from bnext (by go_grown) hb))
  have s7 := hB7.size
  clear hb hB6 s6 HX HY
  go_wp2_with fail
  refine (sum1 _ _ lb _ ?_ (heap_at rfl) ?_).mono ?_
  · exact HT.out.next (by go_grown)
  · exact HY2.out.next (by go_grown)
  rintro en w8 ⟨rfl, hb⟩
  have hB8 : Below w.heap.size w w8 := bnext (by go_grown) hb
  have s8 := hB8.size
  clear hb hB7 s7 HY2
  have hne : (Crc.num (Crc.more 0#32 la) == Crc.num (Crc.more 0#32 lb)) = false := HNE.out
  have hne2 : (Crc.num (Crc.more 0#32 la) != Crc.num (Crc.more 0#32 lb)) = true := by rw [bne, HNE.out]; rfl
  go_wp2_with fail
  clear hne hne2
  refine (works_any _ ?_).mono ?_
  · exact HT.out.next (by go_grown)
  rintro en w9 ⟨rfl, hb⟩
  have hB9 : Below w.heap.size w w9 := bnext (by go_grown) hb
  clear hb hB8
  go_wp2_with fail
  go_returns
  exact ⟨rfl, by go_grown⟩

theorem bursts_law (a b : Option Addr) (ca cb : Nat) (la lb : List UInt8) (w : World) (hT : Tab w) (ha : Rd w w.heap.size a (la.map B8)) (hb : Rd w w.heap.size b (lb.map B8)) (hn : la.length ≤ 140737488351232) (hm : lb.length ≤ 140737488351232) (h0 : a = none → ca = 0) (h1 : b = none → cb = 0) :
    Calls Tryd.prog 10 #[.slice a la.length ca, .slice b lb.length cb] w (Ret (.bool true) w) := by
  have hA : Txt w w.heap.size (.slice a la.length ca) la := ⟨a, ca, rfl, h0, by omega, ha⟩
  have hB : Txt w w.heap.size (.slice b lb.length cb) lb := ⟨b, cb, rfl, h1, by omega, hb⟩
  cases hR : bstAll la lb with
  | none => exact bursts_none a b _ _ ca cb la lb w hT hA hB rfl rfl hn hm h0 h1 hR
  | some x =>
    obtain ⟨f, l⟩ := x
    have hlen : la.length = lb.length := by
      refine Classical.byContradiction fun hne => ?_
      unfold bstAll at hR
      rw [if_neg hne] at hR; cases hR
    have hR2 : bst (dif la lb) (8 * la.length) = some (f, l) := by
      unfold bstAll at hR
      rwa [if_pos hlen] at hR
    obtain ⟨b1, b2, b3, b4⟩ := bst_lt _ _ _ _ hR2
    rcases Nat.lt_or_ge l (f + 32) with hlt | hge
    · exact bursts_near a b _ _ ca cb la lb f l w hT hA hB rfl rfl hn hm h0 h1 hR hlt (b4 f b1 b3).2 (by omega) (burst_ne la lb f l hlen hR2 hlt)
    · exact bursts_far a b _ _ ca cb la lb f l w hT hA hB rfl rfl hn hm h0 h1 hR hge (by omega)
end Go.Proofs.YtcjmobikjegioaaDoor
