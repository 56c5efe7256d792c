/- The program's look and Read. -/
import Derived.Test.YtolbmjilcngnhaaDoorFrF
set_option linter.unusedSimpArgs false
set_option linter.unusedVariables false
namespace Go.Proofs.YtolbmjilcngnhaaDoor
open Go.RowKit Go.Kp

theorem lenP_bd : ∀ (l : List UInt8) (i n : Nat), (Frm.lenP i n l).1 ≤ 268435456 ∧ (Frm.lenP i n l).2.1 ≤ i + l.length ∧ (Frm.lenP i n l).2.2 ≤ 131
  | [], i, n => by unfold Frm.lenP; simp
  | c :: r, i, n => by
    unfold Frm.lenP
    split
    · split
      · simp
      · obtain ⟨h1, h2, h3⟩ := lenP_bd r (i + 1) (n + c.toNat % 128 * 128 ^ i)
        refine ⟨h1, ?_, h3⟩
        simp only [List.length_cons]; omega
    · split
      · simp
      · simp; omega

theorem sum_eq (b0 b1 b2 b3 : UInt8) (Y : BitVec 32) : Crc.num (BitVec.ofNat 32 (Crc.le4 b0 b1 b2 b3)) = Crc.num Y ↔ [b0, b1, b2, b3] = Crc.bytes4 Y := by
  constructor
  · intro h
    have h := Crc.num_inj h
    obtain ⟨h0, h1, h2, h3⟩ := Crc.byteAt_le4 b0 b1 b2 b3
    rw [h] at h0 h1 h2 h3
    unfold Crc.bytes4
    rw [h0, h1, h2, h3]
  · intro h
    unfold Crc.bytes4 at h
    simp only [List.cons.injEq, and_true] at h
    obtain ⟨rfl, rfl, rfl, rfl⟩ := h
    rw [Crc.le4_byteAt]
    unfold Crc.num
    simp

theorem Rd.drop {w : World} {B : Nat} {b off : Nat} {l : List UInt8} (h : Rd w B (some ⟨b, off, none⟩) (l.map B8)) (k : Nat) : Rd w B (some ⟨b, off + k, none⟩) ((l.drop k).map B8) := by
  rcases h with h | ⟨b', off', he, hb, hc⟩
  · left
    rw [List.map_eq_nil_iff.1 h]; simp
  · cases he
    refine .inr ⟨b, off + k, rfl, hb, fun j u hu => ?_⟩
    rw [Nat.add_assoc]
    refine hc (k + j) u ?_
    rw [← hu, List.map_drop, List.getElem?_drop]
theorem Rd.take {w : World} {B : Nat} {a : Option Addr} {l : List UInt8} (h : Rd w B a (l.map B8)) (k : Nat) : Rd w B a ((l.take k).map B8) := by
  rcases h with h | ⟨b', off', he, hb, hc⟩
  · left
    rw [List.map_eq_nil_iff.1 h]; simp
  · refine .inr ⟨b', off', he, hb, fun j u hu => hc j u ?_⟩
    rw [List.map_take] at hu
    have hj : j < ((l.map B8).take k).length := (List.getElem?_eq_some_iff.1 hu).1
    rw [List.getElem?_take_of_lt (by simp at hj; omega)] at hu
    exact hu
theorem four_of (l : List UInt8) (e : Nat) (h : e + 4 ≤ l.length) : ∃ b0 b1 b2 b3, (l.drop e).take 4 = [b0, b1, b2, b3] := by
  have hl : ((l.drop e).take 4).length = 4 := by simp; omega
  match (l.drop e).take 4, hl with
  | [b0, b1, b2, b3], _ => exact ⟨b0, b1, b2, b3, rfl⟩

set_option maxHeartbeats 4000000 in
theorem look_any (a : Option Addr) (n c : Nat) (l : List UInt8) (w : World) (hT : Tab w) (hl : l.length = n) (hn : n ≤ 140737488355328) (hc : n ≤ c) (hcm : c ≤ maxLen) (hr : Rd w w.heap.size a (l.map B8)) :
    Calls Tryd.prog 38 #[.slice a n c] w (Ret (.tuple #[.int .i64 (Frm.look l).1, .int .i64 (Frm.look l).2.1, .int .i64 (Frm.look l).2.2]) w) := by
  have HT := Lib.hid hT
  have HR := Lib.hid hr
  have HL := Lib.hid hl
  have hmx : maxLen = 9223372036854775807 := rfl
  rw [hmx] at hcm
  clear hT hr hl hmx
  rcases Nat.eq_zero_or_pos n with h0 | h0
  · subst h0
    obtain rfl : l = [] := List.eq_nil_of_length_eq_zero HL.out
    go_enter Tryd.func38, Tryd.ntmps38
    go_wp2_with fail
    refine bodyPost_ret (v := .tuple #[.int .i64 0, .int .i64 0, .int .i64 130]) (by simp [results, Tryd.results38, go_sem]; done) rfl ⟨rfl, by go_grown⟩
  · obtain ⟨t, r, rfl⟩ : ∃ t r, l = t :: r := by
      match l, HL.out with
      | [], h => simp at h; omega
      | t :: r, _ => exact ⟨t, r, rfl⟩
    obtain ⟨b, off, rfl⟩ : ∃ b off, a = some ⟨b, off, none⟩ := by
      rcases HR.out with h | ⟨b, off, h, _⟩
      · cases h
      · exact ⟨b, off, h⟩
    have hz : ((n : Int) == 0) = false := by simp; omega
    have hrl : r.length = n - 1 := by have := HL.out; simp at this; omega
    have HRL := Lib.hid hrl
    clear hrl
    have HRd := Lib.hid (show Rd w w.heap.size (some ⟨b, off + 1, none⟩) (r.map B8) by simpa using Rd.drop HR.out 1)
    obtain ⟨q, hq⟩ : ∃ q, Frm.look (t :: r) = q := ⟨_, rfl⟩
    rw [hq]
    obtain ⟨N, S, E, hP⟩ : ∃ N S E, Frm.lenP 0 0 r = (N, S, E) := ⟨_, _, _, rfl⟩
    have hbd := lenP_bd r 0 0
    rw [hP] at hbd
    simp only at hbd
    rw [HRL.out] at hbd
    have HQ := Lib.hid (show (if E ≠ 0 then (0, 0, E) else if n < 1 + S + N + 4 then (0, 0, 130) else if ((t :: r).drop (1 + S + N)).take 4 ≠ Crc.bytes4 (Crc.more 0#32 ((t :: r).take (1 + S + N))) then (0, 0, 132) else (1 + S, 1 + S + N, 0)) = q by
      rw [← hq, Frm.look, hP, HL.out])
    clear hq
    have HP := Lib.hid hP
    clear hP
    rcases Decidable.em (c = 1) with hc1 | hc1
    · subst hc1
      obtain rfl : n = 1 := by omega
      obtain rfl : r = [] := List.eq_nil_of_length_eq_zero HRL.out
      obtain ⟨rfl, rfl, rfl⟩ : N = 0 ∧ S = 0 ∧ E = 130 := by
        have h := HP.out
        rw [show Frm.lenP 0 0 [] = (0, 0, 130) by unfold Frm.lenP; rfl] at h
        simp only [Prod.mk.injEq] at h
        exact ⟨h.1.symm, h.2.1.symm, h.2.2.symm⟩
      have HQ2 := Lib.hid (show q = (0, 0, 130) by rw [← HQ.out]; rfl)
      clear HQ HP
      go_enter Tryd.func38, Tryd.ntmps38
      go_wp2_with fail
      refine (length_any _ 0 0 [] _ rfl (by omega) (.inl rfl)).mono ?_
      rintro en w1 ⟨rfl, hb1⟩
      have hB1 : Below w.heap.size w w1 := bnext (by go_grown) hb1
      clear hb1
      rw [show Frm.lenP 0 0 [] = (0, 0, 130) by unfold Frm.lenP; rfl]
      go_wp2_with fail
      rw [HQ2.out]
      refine bodyPost_ret (v := .tuple #[.int .i64 0, .int .i64 0, .int .i64 130]) (by simp [results, Tryd.results38, go_sem]; done) rfl ⟨rfl, hB1⟩
    · go_enter Tryd.func38, Tryd.ntmps38
      go_wp2_with fail
      refine (length_any _ (n - 1) (c - 1) r _ HRL.out (by omega) HRd.out).mono ?_
      rintro en w1 ⟨rfl, hb1⟩
      rw [HP.out]
      have hB1 : Below w.heap.size w w1 := bnext (by go_grown) hb1
      have HR1 := Lib.hid ((HR.out.below hB1).more hB1.size)
      have hT1 := Lib.hid (HT.out.below hB1 HT.out.1)
      clear hb1 HR HRd
      rcases Decidable.em (E = 0) with hE | hE
      · subst hE
        simp only [ne_eq, not_true_eq_false, if_false] at HQ
        rcases Nat.lt_or_ge n (1 + S + N + 4) with h2 | h2
        · have HQ2 := Lib.hid (show q = (0, 0, 130) by rw [← HQ.out, if_pos h2])
          clear HQ HP
          have h2' : (n : Int) < 1 + (S : Int) + N + 4 := by omega
          go_wp2_with fail
          rw [HQ2.out]
          refine bodyPost_ret (v := .tuple #[.int .i64 0, .int .i64 0, .int .i64 130]) (by simp [results, Tryd.results38, go_sem]; done) rfl ⟨rfl, hB1⟩
        · have HQ1 := Lib.hid (HQ.out.symm.trans (if_neg (Nat.not_lt.2 h2)))
          clear HQ HP
          have h2' : ¬ (n : Int) < 1 + (S : Int) + N + 4 := by omega
          obtain ⟨b0, b1, b2, b3, hb4⟩ := four_of (t :: r) (1 + S + N) (by rw [HL.out]; exact h2)
          have HF := Lib.hid hb4
          clear hb4
          go_wp2_with fail
          refine (from_four b (off + (1 + S + N)) (c - (1 + S + N)) b0 b1 b2 b3 _ (by
            have h := Rd.take (Rd.drop HR1.out (1 + S + N)) 4
            rw [HF.out] at h
            exact h)).mono ?_
          rintro en w2 ⟨rfl, hb2⟩
          have hB2 : Below w.heap.size w w2 := bnext hB1 hb2
          have HR2 := Lib.hid ((HR1.out.below hb2).more hb2.size)
          have hT2 := Lib.hid (hT1.out.below hb2 hT1.out.1)
          clear hb2 HR1 hT1 hB1
          generalize hX : BitVec.ofNat 32 (Crc.le4 b0 b1 b2 b3) = X
          have HX := Lib.hid hX
          clear hX
          go_wp2_with fail
          refine (sum_any (some ⟨w2.heap.size, 0, none⟩) 1 1 [.slice (some ⟨b, off, none⟩) (1 + S + N) c] [(t :: r).take (1 + S + N)] _ (hT2.out.next (by go_grown)) rfl (by omega) ⟨rfl, .inr ⟨w2.heap.size, 0, rfl, by simp, ?_⟩, ?_⟩).mono ?_
          · intro j u hu
            rw [cell_of_row _ _ _ _ _ _ (heap_at rfl), Nat.zero_add]
            simpa using hu
          · intro j v' l' hv hl'
            have hj : j = 0 := by
              have := (List.getElem?_eq_some_iff.1 hv).1
              simp at this; omega
            subst hj
            obtain rfl : Value.slice (some ⟨b, off, none⟩) (1 + S + N) c = v' := by simpa using hv
            obtain rfl : (t :: r).take (1 + S + N) = l' := by simpa using hl'
            have htl : ((t :: r).take (1 + S + N)).length = 1 + S + N := by rw [List.length_take, HL.out]; omega
            exact ⟨_, _, by rw [htl], fun h => (by cases h), by rw [htl]; omega, ((Rd.take HR2.out _).below (by go_grown)).more (by simp)⟩
          rintro en w3 ⟨rfl, hb3⟩
          have hB3 : Below w.heap.size w w3 := bnext hB2 (bnext (by go_grown) hb3)
          clear hb3 HR2 hT2 hB2
          rw [show [(t :: r).take (1 + S + N)].flatten = (t :: r).take (1 + S + N) by simp]
          generalize hY : Crc.more 0#32 ((t :: r).take (1 + S + N)) = Y
          have HY := Lib.hid hY
          clear hY
          rcases Decidable.em (Crc.num X = Crc.num Y) with h5 | h5
          · have HQ2 := Lib.hid (show q = (1 + S, 1 + S + N, 0) by
              rw [HQ1.out, HF.out, HY.out, if_neg]
              rw [← HX.out] at h5
              simpa using (sum_eq b0 b1 b2 b3 Y).1 h5)
            have h5' : (Crc.num X == Crc.num Y) = true := by simp [h5]
            clear HQ1 h5
            go_wp2_with fail
            rw [HQ2.out]
            refine bodyPost_ret (v := .tuple #[.int .i64 (1 + (S : Int)), .int .i64 (1 + (S : Int) + N), .int .i64 0]) (by simp [results, Tryd.results38, go_sem]; done) rfl ⟨by simp, hB3⟩
          · have HQ2 := Lib.hid (show q = (0, 0, 132) by
              rw [HQ1.out, HF.out, HY.out, if_pos]
              rw [← HX.out] at h5
              intro h
              exact h5 ((sum_eq b0 b1 b2 b3 Y).2 h))
            have h5' : (Crc.num X == Crc.num Y) = false := by simp [h5]
            clear HQ1 h5
            go_wp2_with fail
            rw [HQ2.out]
            refine bodyPost_ret (v := .tuple #[.int .i64 0, .int .i64 0, .int .i64 132]) (by simp [results, Tryd.results38, go_sem]; done) rfl ⟨rfl, hB3⟩
      · have HQ2 := Lib.hid (show q = (0, 0, E) by rw [← HQ.out, if_pos hE])
        have hE' : ((E : Int) == 0) = false := by simp; omega
        clear HQ HP
        go_wp2_with fail
        rw [HQ2.out]
        refine bodyPost_ret (v := .tuple #[.int .i64 0, .int .i64 0, .int .i64 E]) (by simp [results, Tryd.results38, go_sem]; done) rfl ⟨rfl, hB1⟩
end Go.Proofs.YtolbmjilcngnhaaDoor
