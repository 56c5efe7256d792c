/- CrcJoins: the walk. -/
import Derived.Test.YtcjmobikjegioaaDoorCSums
set_option linter.unusedSimpArgs false
set_option linter.unusedVariables false
namespace Go.Proofs.YtcjmobikjegioaaDoor
open Go.RowKit Go.Kp

theorem join_three (a b c : List UInt8) (m : Int) (hm : m = (b.length : Int) + (c.length : Int)) : Crc.steps (8 * m.toNat) (Crc.more 0#32 a) ^^^ Crc.more 0#32 (b ++ c) = Crc.more 0#32 (a ++ b ++ c) := by
  have e : m.toNat = (b ++ c).length := by rw [List.length_append]; omega
  rw [e, ← Crc.more_join, ← Crc.more_append, List.append_assoc]
theorem carry_two (x : BitVec 32) (b c : Nat) (m : Int) (hm : m = (b : Int) + (c : Int)) : Crc.steps (8 * m.toNat) x = Crc.steps (8 * ((c : Int)).toNat) (Crc.steps (8 * b) x) := by
  have e : m.toNat = b + c := by omega
  rw [e, Int.toNat_natCast, Crc.steps_mul]

theorem rep_arr (n : Nat) : Array.replicate n (B8 0) = ((List.replicate n (0 : UInt8)).map B8).toArray := by simp
set_option maxHeartbeats 4000000 in
theorem joins (a b c : Option Addr) (na nb nc ca cb cc : Nat) (la lb lc : List UInt8) (w : World) (hT : Tab w) (ha : Txt w w.heap.size (.slice a na ca) la) (hb : Txt w w.heap.size (.slice b nb cb) lb) (hc : Txt w w.heap.size (.slice c nc cc) lc)
    (h1 : na ≤ 140737488351232) (h2 : nb ≤ 140737488351232) (h3 : nc ≤ 140737488351232) (ea : la.length = na) (eb : lb.length = nb) (ec : lc.length = nc) :
    Calls Tryd.prog 6 #[.slice a na ca, .slice b nb cb, .slice c nc cc] w (Ret (.bool true) w) := by
  have HT := Lib.hid hT
  have HA := Lib.hid ha
  have HB := Lib.hid hb
  have HC := Lib.hid hc
  have EB := Lib.hid (show Crc.steps (8 * ((nb : Nat) : Int).toNat) (Crc.more 0#32 la) ^^^ Crc.more 0#32 lb = Crc.more 0#32 (la ++ lb) by rw [← eb]; exact join_texts la lb)
  have EC := Lib.hid (show Crc.steps (8 * ((nc : Nat) : Int).toNat) (Crc.more 0#32 (la ++ lb)) ^^^ Crc.more 0#32 lc = Crc.more 0#32 (la ++ lb ++ lc) by rw [← ec]; exact join_texts _ lc)
  have ED := Lib.hid (show Crc.steps (8 * ((nc : Nat) : Int).toNat) (Crc.more 0#32 lb) ^^^ Crc.more 0#32 lc = Crc.more 0#32 (lb ++ lc) by rw [← ec]; exact join_texts _ lc)
  have EE := Lib.hid (show Crc.steps (8 * ((nb : Int) + (nc : Int)).toNat) (Crc.more 0#32 la) ^^^ Crc.more 0#32 (lb ++ lc) = Crc.more 0#32 (la ++ lb ++ lc) from join_three la lb lc _ (by rw [eb, ec]))
  have EF := Lib.hid (carry_two (Crc.more 0#32 la) nb nc _ rfl)
  have EG := Lib.hid (show Crc.more (Crc.more (Crc.more 0#32 la) lb) lc = Crc.more 0#32 (la ++ lb ++ lc) by rw [Crc.more_append, Crc.more_append])
  have EH := Lib.hid (show U (Crc.more 0#32 (la ++ Crc.bytes4 (Crc.more 0#32 la))) = .int .u32 1214729159 by
    rw [Crc.more_self 0#32 la _ rfl (Crc.pack_bytes4 _)]; rfl)
  have EZ := Lib.hid (show zerosOf ((na : Int) + (nc : Int)) = Crc.more 0#32 (List.replicate (na + nc) 0) by rw [← zeros_texts, Int.natCast_add])
  have hmk := make_noughts (na + nc) ((na : Int) + (nc : Int)) (by omega) (by omega)
  have HMK := Lib.hid hmk
  clear hT ha hb hc ea eb ec hmk
  go_enter Tryd.func6, Tryd.ntmps6
  go_wp2_with fail
  refine (sum1 _ _ la _ ?_ (heap_at rfl) ?_).mono ?_
  · exact HT.out.next (by go_grown)
  · exact HA.out.next (by go_grown)
  rintro en w1 ⟨rfl, hb⟩
  have hB1 : Below w.heap.size w w1 := bnext (by go_grown) hb
  have s1 := hB1.size
  clear hb
  go_wp2_with fail
  refine (sum1 _ _ lb _ ?_ (heap_at rfl) ?_).mono ?_
  · exact HT.out.next (by go_grown)
  · exact HB.out.next (by go_grown)
  rintro en w2 ⟨rfl, hb⟩
  have hB2 : Below w.heap.size w w2 := bnext (by go_grown) hb
  have s2 := hB2.size
  clear hb hB1 s1
  go_wp2_with fail
  refine (sum1 _ _ lc _ ?_ (heap_at rfl) ?_).mono ?_
  · exact HT.out.next (by go_grown)
  · exact HC.out.next (by go_grown)
  rintro en w3 ⟨rfl, hb⟩
  have hB3 : Below w.heap.size w w3 := bnext (by go_grown) hb
  have s3 := hB3.size
  clear hb hB2 s2
  go_wp2_with fail
  refine (sum3 _ _ _ _ la lb lc _ ?_ (heap_at rfl) ?_ ?_ ?_).mono ?_
  · exact HT.out.next (by go_grown)
  · exact HA.out.next (by go_grown)
  · exact HB.out.next (by go_grown)
  · exact HC.out.next (by go_grown)
  rintro en w4 ⟨rfl, hb⟩
  have hB4 : Below w.heap.size w w4 := bnext (by go_grown) hb
  have s4 := hB4.size
  clear hb hB3 s3
  go_wp2_with fail
  refine (join_any _ _ nb _ ?_ (by omega) (by omega)).mono ?_
  · exact HT.out.next (by go_grown)
  rintro en w5 ⟨rfl, hb⟩
  rw [EB.out]
  have hB5 : Below w.heap.size w w5 := bnext (by go_grown) hb
  have s5 := hB5.size
  clear hb hB4 s4
  go_wp2_with fail
  refine (join_any _ _ nc _ ?_ (by omega) (by omega)).mono ?_
  · exact HT.out.next (by go_grown)
  rintro en w6 ⟨rfl, hb⟩
  rw [EC.out]
  have hB6 : Below w.heap.size w w6 := bnext (by go_grown) hb
  have s6 := hB6.size
  clear hb hB5 s5
  go_wp2_with fail
  refine (join_any _ _ nc _ ?_ (by omega) (by omega)).mono ?_
  · exact HT.out.next (by go_grown)
  rintro en w7 ⟨rfl, hb⟩
  rw [ED.out]
  have hB7 : Below w.heap.size w w7 := bnext (by go_grown) hb
  have s7 := hB7.size
  clear hb hB6 s6
  go_wp2_with fail
  refine (join_any _ _ ((nb : Int) + (nc : Int)) _ ?_ (by omega) (by omega)).mono ?_
  · exact HT.out.next (by go_grown)
  rintro en w8 ⟨rfl, hb⟩
  rw [EE.out]
  have hB8 : Below w.heap.size w w8 := bnext (by go_grown) hb
  have s8 := hB8.size
  clear hb hB7 s7
  go_wp2_with fail
  refine (more_any _ _ lb _ ?_ ?_).mono ?_
  · exact HT.out.next (by go_grown)
  · exact HB.out.next (by go_grown)
  rintro en w9 ⟨rfl, hb⟩
  have hB9 : Below w.heap.size w w9 := bnext (by go_grown) hb
  have s9 := hB9.size
  clear hb hB8 s8
  go_wp2_with fail
  refine (more_any _ _ lc _ ?_ ?_).mono ?_
  · exact HT.out.next (by go_grown)
  · exact HC.out.next (by go_grown)
  rintro en w10 ⟨rfl, hb⟩
  rw [EG.out]
  have hB10 : Below w.heap.size w w10 := bnext (by go_grown) hb
  have s10 := hB10.size
  clear hb hB9 s9
  go_wp2_with fail
  refine (carry_any _ nb _ ?_ (by omega) (by omega)).mono ?_
  · exact HT.out.next (by go_grown)
  rintro en w11 ⟨rfl, hb⟩
  have hB11 : Below w.heap.size w w11 := bnext (by go_grown) hb
  have s11 := hB11.size
  clear hb hB10 s10
  go_wp2_with fail
  refine (carry_any _ nc _ ?_ (by omega) (by omega)).mono ?_
  · exact HT.out.next (by go_grown)
  rintro en w12 ⟨rfl, hb⟩
  rw [← EF.out]
  have hB12 : Below w.heap.size w w12 := bnext (by go_grown) hb
  have s12 := hB12.size
  clear hb hB11 s11
  go_wp2_with fail
  refine (carry_any _ ((nb : Int) + (nc : Int)) _ ?_ (by omega) (by omega)).mono ?_
  · exact HT.out.next (by go_grown)
  rintro en w13 ⟨rfl, hb⟩
  have hB13 : Below w.heap.size w w13 := bnext (by go_grown) hb
  have s13 := hB13.size
  clear hb hB12 s12
  have hmk := HMK.out
  go_wp2_with fail
  clear hmk
  refine (bytes_any _ _).mono ?_
  rintro en w14 ⟨rfl, hb⟩
  have hB14 : Below w.heap.size w w14 := bnext (by go_grown) hb
  have s14 := hB14.size
  have A14 : w14.heap[w13.heap.size]? = some (.cells (Array.replicate (na + nc) (B8 0)) 5 (0, 0)) := (hb.block _ (by simp)).trans (heap_at rfl)
  clear hb hB13 s13
  have l14 : w13.heap.size < w14.heap.size := by
    rcases Nat.lt_or_ge w13.heap.size w14.heap.size with h | h
    · exact h
    · rw [Array.getElem?_eq_none h] at A14; cases A14
  rw [bytesVal]
  go_wp2_with fail
  refine (zeros_any ((na : Int) + (nc : Int)) _ ?_ (by omega) (by omega)).mono ?_
  · exact HT.out.next (by go_grown)
  rintro en w15 ⟨rfl, hb⟩
  rw [EZ.out]
  have hB15 : Below w.heap.size w w15 := bnext (by go_grown) hb
  have A15 : w15.heap[w13.heap.size]? = some (.cells (Array.replicate (na + nc) (B8 0)) 5 (0, 0)) := (hb.block _ (by simp; omega)).trans ((heap_old l14).trans A14)
  have C15 : w15.heap[w14.heap.size]? = some (.cells ((Crc.bytes4 (Crc.more 0#32 la)).map B8).toArray 38 (0, 0)) := (hb.block _ (by simp)).trans (heap_at rfl)
  have s15 := hB15.size
  have l15 : w14.heap.size < w15.heap.size := by
    rcases Nat.lt_or_ge w14.heap.size w15.heap.size with h | h
    · exact h
    · rw [Array.getElem?_eq_none h] at C15; cases C15
  clear hb hB14 s14 A14
  have HA15 := Lib.hid A15
  have HC15 := Lib.hid C15
  clear A15 C15
  go_wp2_with fail
  refine (sum1 _ _ (List.replicate (na + nc) 0) _ ?_ (heap_at rfl) ?_).mono ?_
  · exact HT.out.next (by go_grown)
  · refine txt_of (List.replicate (na + nc) 0) ?_ ?_ ⟨5, (0, 0), (heap_old (by omega)).trans (HA15.out.trans ?_)⟩
    · simp
    · omega
    · rw [rep_arr]
  rintro en w16 ⟨rfl, hb⟩
  have hB16 : Below w.heap.size w w16 := bnext (by go_grown) hb
  have HC16 := Lib.hid (show w16.heap[w14.heap.size]? = some (.cells ((Crc.bytes4 (Crc.more 0#32 la)).map B8).toArray 38 (0, 0)) from (hb.block _ (by simp; omega)).trans ((heap_old l15).trans HC15.out))
  have s16 := hB16.size
  have l16 : w14.heap.size < w16.heap.size := Nat.lt_of_lt_of_le l15 (by have := hb.size; simp at this; omega)
  clear hb hB15 s15 HA15 HC15 l15
  go_wp2_with fail
  refine (sum2 _ _ _ la (Crc.bytes4 (Crc.more 0#32 la)) _ ?_ (heap_at rfl) ?_ ?_).mono ?_
  · exact HT.out.next (by go_grown)
  · exact HA.out.next (by go_grown)
  · exact txt_of _ rfl (by decide) ⟨38, (0, 0), (heap_old l16).trans HC16.out⟩
  rintro en w17 ⟨rfl, hb⟩
  rw [EH.out]
  have hB17 : Below w.heap.size w w17 := bnext (by go_grown) hb
  have s17 := hB17.size
  clear hb hB16 s16 HC16 l16
  go_wp2_with fail
  refine (works_any _ ?_).mono ?_
  · exact HT.out.next (by go_grown)
  rintro en w18 ⟨rfl, hb⟩
  have hB18 : Below w.heap.size w w18 := bnext (by go_grown) hb
  clear hb hB17
  go_wp2_with fail
  go_returns
  exact ⟨rfl, by go_grown⟩
end Go.Proofs.YtcjmobikjegioaaDoor
