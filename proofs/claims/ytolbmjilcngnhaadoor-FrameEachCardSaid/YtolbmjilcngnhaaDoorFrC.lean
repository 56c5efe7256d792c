/- The document's Sum and Number, wire's number and Size, frame's Size. -/
import Derived.Test.YtolbmjilcngnhaaDoorFrB
import Derived.Test.YtolbmjilcngnhaaDoorFrM
set_option linter.unusedSimpArgs false
set_option linter.unusedVariables false
namespace Go.Proofs.YtolbmjilcngnhaaDoor
open Go.RowKit Go.Kp

theorem bits_all (x : BitVec 32) : bits .xor .u32 (Crc.num x) 4294967295 = Crc.num (~~~x) := by
  rw [Crc.not_eq_xor]; exact Crc.bits_xor x 0xffffffff#32

attribute [local go_sem high] Crc.bits_xor_byte Crc.bits_and1 bits_all Crc.bits_poly_shr1

set_option maxHeartbeats 1000000 in
theorem refSum_any (v : Value) (l : List UInt8) (w : World) (hv : Txt w w.heap.size v l) :
    Calls Tryd.prog 35 #[v] w (Ret (U (Crc.more 0#32 l)) w) := by
  obtain ⟨a, cap, rfl, _, hl, hr⟩ := hv
  generalize hn : l.length = n at hl ⊢
  have HN := Lib.hid hn
  have HR := Lib.hid hr
  clear hn hr
  go_enter Tryd.func35, Tryd.ntmps35
  go_wp2_with fail
  go_loopw [3, 4] (fun t i wr => ∃ k : Nat, k ≤ n ∧ i = .int .i64 k ∧ t = U (Crc.raw (~~~0#32) (l.take k)) ∧ Below w.heap.size w wr) (fun _ i _ => n - (intOf i).toNat)
  case atStart => exact ⟨0, Nat.zero_le _, rfl, rfl, by go_grown⟩
  case round =>
    obtain ⟨k, hk, rfl, rfl, hB⟩ := hrel
    rcases Nat.lt_or_ge k n with hlt | hge
    · obtain ⟨z, hz⟩ : ∃ z, l[k]? = some z := ⟨_, List.getElem?_eq_getElem (by rw [HN.out]; exact hlt)⟩
      have HS := Lib.hid (raw_snoc (~~~0#32) l k z hz)
      have zb := byte_bd z
      rcases HR.out with hr | ⟨b, off, rfl, hbl, hc⟩
      · have := HN.out
        rw [List.map_eq_nil_iff.1 hr] at this
        simp at this; omega
      · have e0 : wr.cell? ⟨b, off + k, none⟩ = some (B8 z) := (hB.cell (p := ⟨b, off + k, none⟩) hbl).trans (rd_byte hc hz)
        clear hz hbl hc
        generalize Crc.raw (~~~0#32) (l.take k) = r at *
        go_wp2_with fail
        generalize r ^^^ Crc.wide z = x0 at *
        clear e0 zb
        go_loopw [3, 5] (fun t i wi => ∃ j : Nat, j ≤ 8 ∧ i = .int .i64 j ∧ t = U (Crc.steps j x0) ∧ Below w.heap.size w wi) (fun _ i _ => 8 - (intOf i).toNat)
        case atStart => exact ⟨0, Nat.zero_le _, rfl, rfl, by go_grown⟩
        case round =>
          obtain ⟨j, hj, rfl, rfl, hB⟩ := hrel
          rcases Nat.lt_or_ge j 8 with hjl | hjg
          · have HJ := Lib.hid (Crc.steps_succ j x0)
            generalize Crc.steps j x0 = s at *
            rcases Decidable.em (Crc.num s % (2 : Int) = 1) with ho | ho
            · have hlow : (Crc.num (s &&& 1#32) == 1) = true := by simp; exact (Crc.and1_iff s).2 ((Crc.odd_iff s).1 ho)
              have H := Lib.hid (Crc.step_odd s ho)
              clear ho
              go_wp2_with fail
              go_roundw
              case rel => exact ⟨j + 1, by omega, by go_num, by rw [HJ.out, H.out], by go_grown⟩
              case measure => simp [intOf]; omega
            · have hlow : (Crc.num (s &&& 1#32) == 1) = false := by simp; intro h; exact ho ((Crc.odd_iff s).2 ((Crc.and1_iff s).1 h))
              have H := Lib.hid (Crc.step_even s ho)
              clear ho
              go_wp2_with fail
              go_roundw
              case rel => exact ⟨j + 1, by omega, by go_num, by rw [HJ.out, H.out]; exact congrArg (Value.int .u32) (Crc.shr1 s), by go_grown⟩
              case measure => simp [intOf]; omega
          · obtain rfl : j = 8 := by omega
            go_wp2_with fail
            go_roundw
            case rel => exact ⟨k + 1, by omega, by go_num, by rw [HS.out]; rfl, by go_grown⟩
            case measure => simp [intOf]; omega
    · obtain rfl : k = n := by omega
      have ht : l.take k = l := by rw [← HN.out]; exact List.take_length
      go_wp2_with fail
      go_returns
      exact ⟨ret_int (by rfl), by go_grown⟩

theorem byte_more (n : Nat) : ((UInt8.ofNat (n % 128 + 128)).toNat : Int) = (n : Int) % 128 + 128 := by
  have : (UInt8.ofNat (n % 128 + 128)).toNat = n % 128 + 128 := by simp; omega
  rw [this]; omega
theorem byte_last (n : Nat) (h : n < 128) : ((UInt8.ofNat n).toNat : Int) = n := by
  have : (UInt8.ofNat n).toNat = n := by simp; omega
  rw [this]
/-- A byte's cell in a block of its own. -/
theorem one_rd {w : World} (z : Int) (b : UInt8) (h : (b.toNat : Int) = z) : Rd (w.alloc (.cells #[.int .u8 z] 5)) (w.alloc (.cells #[.int .u8 z] 5)).heap.size (some ⟨w.heap.size, 0, none⟩) ([b].map B8) := by
  subst h
  refine .inr ⟨w.heap.size, 0, rfl, by simp, fun j u hu => ?_⟩
  rw [cell_of_row _ _ _ _ _ _ (heap_at rfl), Nat.zero_add]
  simpa using hu

set_option maxHeartbeats 1000000 in
theorem refNumber_any (n : Nat) (w : World) (hn : n ≤ 4611686018427387904) :
    Calls Tryd.prog 34 #[.int .i64 n] w fun e w' => ∃ v, e = .returned v ∧ w'.ownsRow w.heap.size 5 1 v (Frm.numB n).length ((Frm.numB n).map B8) ∧ Below w.heap.size w w' := by
  go_enter Tryd.func34, Tryd.ntmps34
  go_wp2_with fail
  go_loopw [0, 3] (fun x v wr => ∃ (d : List UInt8) (f m : Nat), x = .int .i64 m ∧ m ≤ 4611686018427387904 ∧ Frm.numB n = d ++ Frm.numF (f + 1) m ∧ m < 128 ^ (f + 1) ∧ d.length + f ≤ 9 ∧ wr.ownsRow w.heap.size 5 1 v d.length (d.map B8) ∧ Below w.heap.size w wr) (fun x _ _ => (intOf x).toNat)
  case atStart => exact ⟨[], 9, n, rfl, hn, rfl, by omega, by simp, World.ownsRow_nil _ _ _ _, by go_grown⟩
  case round =>
    obtain ⟨d, f, m, rfl, hm, he, hb, hd, ho, hB⟩ := hrel
    have HE := Lib.hid he
    have HO := Lib.hid ho
    have HBD := Lib.hid hb
    clear he ho hb
    rcases Nat.lt_or_ge m 128 with hlt | hge
    · have hi : ¬ (128 : Int) ≤ m := by omega
      go_upto_region 5 with (fail)
      apply wp_region_lit
      iterate 4 (go_step; go_step; rename_i KK hKK; (with_reducible refine hKK _ _ ?_); clear hKK KK)
      (with_reducible refine append_own (w0 := wr) ?_ (.tmp 15) (.tmp 18) ?_ w.heap.size u3 u3 d.length d ?_ (HO.out.alloc _) (some ⟨wr.heap.size, 0, none⟩) 1 1 [UInt8.ofNat m] ?_ (fun h => by cases h) rfl (one_rd _ _ (byte_last m hlt)) ?_ hB.size (Own.of_below (by go_grown) hB.size) ?_)
      · rfl
      · rfl
      · rfl
      · rfl
      · omega
      intro v2 w2 ho2 hg2
      have hB2 := hB.trans hg2.1
      have HE2 := Lib.hid (show Frm.numB n = d ++ [UInt8.ofNat m] by rw [HE.out, Frm.numF_last f m hlt])
      go_wp2_with fail
      go_returns
      exact ⟨_, rfl, by rw [HE2.out]; simpa using ho2, hB2⟩
    · have hi : (128 : Int) ≤ m := by omega
      have hf : 1 ≤ f := by
        rcases Nat.eq_zero_or_pos f with h0 | h0
        · subst h0; have := HBD.out; simp at this; omega
        · exact h0
      go_upto_region 3 with (fail)
      apply wp_region_lit
      iterate 6 (go_step; go_step; rename_i KK hKK; (with_reducible refine hKK _ _ ?_); clear hKK KK)
      (with_reducible refine append_own (w0 := wr) ?_ (.tmp 6) (.tmp 11) ?_ w.heap.size u3 u3 d.length d ?_ (HO.out.alloc _) (some ⟨wr.heap.size, 0, none⟩) 1 1 [UInt8.ofNat (m % 128 + 128)] ?_ (fun h => by cases h) rfl (one_rd _ _ (byte_more m)) ?_ hB.size (Own.of_below (by go_grown) hB.size) ?_)
      · rfl
      · rfl
      · rfl
      · rfl
      · omega
      intro v2 w2 ho2 hg2
      have hB2 := hB.trans hg2.1
      have HE2 := Lib.hid (show Frm.numB n = d ++ [UInt8.ofNat (m % 128 + 128)] ++ Frm.numF (f - 1 + 1) (m / 128) by
        rw [HE.out, Frm.numF_next f m (by omega), Nat.sub_add_cancel hf]; simp)
      have HO2 := Lib.hid ho2
      have HB2 := Lib.hid (show m / 128 < 128 ^ (f - 1 + 1) by have := HBD.out; rw [Nat.sub_add_cancel hf]; rw [Nat.pow_succ] at this; omega)
      clear HE HO HBD ho2
      go_wp2_with fail
      go_roundw
      case rel => exact ⟨d ++ [UInt8.ofNat (m % 128 + 128)], f - 1, m / 128, by go_num, by omega, HE2.out, HB2.out, by simp; omega, by simpa using HO2.out, hB2⟩
      case measure => simp [intOf]; omega

theorem or128 : ∀ k : Nat, k < 256 → bits .or .u8 (k : Int) 128 = ((k % 128 + 128 : Nat) : Int) := by decide +kernel
theorem or_byte (n : Nat) : ((UInt8.ofNat (n % 128 + 128)).toNat : Int) = bits .or .u8 ((n : Int) % 256) 128 := by
  have h : (n : Int) % 256 = ((n % 256 : Nat) : Int) := by omega
  rw [h, or128 (n % 256) (by omega), byte_more]
  omega

set_option maxHeartbeats 1000000 in
theorem number_any (n : Nat) (w : World) (hn : n ≤ 4611686018427387904) :
    Calls Tryd.prog 44 #[.slice none 0 0, .int .u64 n] w fun e w' => ∃ v, e = .returned v ∧ w'.ownsRow w.heap.size 5 1 v (Frm.numB n).length ((Frm.numB n).map B8) ∧ Below w.heap.size w w' := by
  go_enter Tryd.func44, Tryd.ntmps44
  go_wp2_with fail
  go_loopw [0, 1] (fun v x wr => ∃ (d : List UInt8) (f m : Nat), x = .int .u64 m ∧ m ≤ 4611686018427387904 ∧ Frm.numB n = d ++ Frm.numF (f + 1) m ∧ m < 128 ^ (f + 1) ∧ d.length + f ≤ 9 ∧ wr.ownsRow w.heap.size 5 1 v d.length (d.map B8) ∧ Below w.heap.size w wr) (fun _ x _ => (intOf x).toNat)
  case atStart => exact ⟨[], 9, n, rfl, hn, rfl, by omega, by simp, World.ownsRow_nil _ _ _ _, by go_grown⟩
  case round =>
    obtain ⟨d, f, m, rfl, hm, he, hb, hd, ho, hB⟩ := hrel
    have HE := Lib.hid he
    have HO := Lib.hid ho
    have HBD := Lib.hid hb
    clear he ho hb
    rcases Nat.lt_or_ge m 128 with hlt | hge
    · have hi : ¬ (127 : Int) < m := by omega
      go_upto_region 4 with (fail)
      apply wp_region_lit
      iterate 4 (go_step; go_step; rename_i KK hKK; (with_reducible refine hKK _ _ ?_); clear hKK KK)
      (with_reducible refine append_own (w0 := wr) ?_ (.tmp 15) (.tmp 18) ?_ w.heap.size u0 u0 d.length d ?_ (HO.out.alloc _) (some ⟨wr.heap.size, 0, none⟩) 1 1 [UInt8.ofNat m] ?_ (fun h => by cases h) rfl (one_rd _ _ (byte_last m hlt)) ?_ hB.size (Own.of_below (by go_grown) hB.size) ?_)
      · rfl
      · rfl
      · rfl
      · rfl
      · omega
      intro v2 w2 ho2 hg2
      have hB2 := hB.trans hg2.1
      have HE2 := Lib.hid (show Frm.numB n = d ++ [UInt8.ofNat m] by rw [HE.out, Frm.numF_last f m hlt])
      go_wp2_with fail
      go_returns
      exact ⟨_, rfl, by rw [HE2.out]; simpa using ho2, hB2⟩
    · have hi : (127 : Int) < m := by omega
      have hf : 1 ≤ f := by
        rcases Nat.eq_zero_or_pos f with h0 | h0
        · subst h0; have := HBD.out; simp at this; omega
        · exact h0
      go_upto_region 3 with (fail)
      apply wp_region_lit
      iterate 5 (go_step; go_step; rename_i KK hKK; (with_reducible refine hKK _ _ ?_); clear hKK KK)
      (with_reducible refine append_own (w0 := wr) ?_ (.tmp 9) (.tmp 13) ?_ w.heap.size u0 u0 d.length d ?_ (HO.out.alloc _) (some ⟨wr.heap.size, 0, none⟩) 1 1 [UInt8.ofNat (m % 128 + 128)] ?_ (fun h => by cases h) rfl (one_rd _ _ (or_byte m)) ?_ hB.size (Own.of_below (by go_grown) hB.size) ?_)
      · rfl
      · rfl
      · rfl
      · rfl
      · omega
      intro v2 w2 ho2 hg2
      have hB2 := hB.trans hg2.1
      have HE2 := Lib.hid (show Frm.numB n = d ++ [UInt8.ofNat (m % 128 + 128)] ++ Frm.numF (f - 1 + 1) (m / 128) by
        rw [HE.out, Frm.numF_next f m (by omega), Nat.sub_add_cancel hf]; simp)
      have HO2 := Lib.hid ho2
      have HB2 := Lib.hid (show m / 128 < 128 ^ (f - 1 + 1) by have := HBD.out; rw [Nat.sub_add_cancel hf]; rw [Nat.pow_succ] at this; omega)
      clear HE HO HBD ho2
      go_wp2_with fail
      go_roundw
      case rel => exact ⟨d ++ [UInt8.ofNat (m % 128 + 128)], f - 1, m / 128, by go_num, by omega, HE2.out, HB2.out, by simp; omega, by simpa using HO2.out, hB2⟩
      case measure => simp [intOf]; omega

theorem own_slice {w : World} {base : Nat} {e : TypeId} {size : Nat} {v : Value} {n : Nat} {xs : List Value} (h : w.ownsRow base e size v n xs) : ∃ a c, v = .slice a n c ∧ n ≤ c ∧ c ≤ maxLen ∧ (a = none → c = 0) := by
  rcases h.2 with ⟨h1, h2⟩ | ⟨g, cap, cur, h1, _, _, h3, h4, _⟩
  · exact ⟨none, 0, by rw [h1, h2], by omega, by unfold maxLen; omega, fun _ => rfl⟩
  · exact ⟨_, cap, h1, h3, h4, fun h => by cases h⟩
theorem numB_len (n : Nat) (hn : n ≤ 4611686018427387904) : 1 ≤ (Frm.numB n).length ∧ (Frm.numB n).length ≤ 10 := Frm.numF_len 10 n (by omega) (by omega)

theorem wsize_any (n : Nat) (w : World) (hn : n ≤ 4611686018427387904) : Calls Tryd.prog 37 #[.int .u64 n] w (Ret (.int .i64 (Frm.numB n).length) w) := by
  have hl := numB_len n hn
  go_enter Tryd.func37, Tryd.ntmps37
  go_wp2_with fail
  refine (number_any n _ hn).mono ?_
  rintro en w1 ⟨v, rfl, ho, hb⟩
  obtain ⟨a, c, rfl, _⟩ := own_slice ho
  clear ho
  have hB : Below w.heap.size w w1 := hb
  clear hb
  generalize (Frm.numB n).length = k at *
  go_wp2_with fail
  go_returns
  exact ⟨rfl, hB⟩

theorem size_any (n : Nat) (w : World) (hn : n ≤ 268435456) : Calls Tryd.prog 17 #[.int .i64 n] w (Ret (.int .i64 (1 + (Frm.numB n).length + n + 4 : Nat)) w) := by
  have hl := numB_len n (by omega)
  have h1 : ¬ (268435456 : Int) < n := by omega
  go_enter Tryd.func17, Tryd.ntmps17
  go_wp2_with fail
  refine (wsize_any n _ (by omega)).mono ?_
  rintro en w1 ⟨rfl, hb⟩
  have hB : Below w.heap.size w w1 := bnext (by go_grown) hb
  clear hb
  generalize (Frm.numB n).length = k at *
  go_wp2_with fail
  go_returns
  exact ⟨ret_int (by omega), hB⟩
theorem size_out (n : Int) (w : World) (hn : n < 0 ∨ 268435456 < n) : Calls Tryd.prog 17 #[.int .i64 n] w (Ret (.int .i64 0) w) := by
  rcases hn with hn | hn
  · go_enter Tryd.func17, Tryd.ntmps17
    go_wp2_with fail
    go_returns
    exact ⟨rfl, by go_grown⟩
  · have h0 : ¬ n < 0 := by omega
    go_enter Tryd.func17, Tryd.ntmps17
    go_wp2_with fail
    go_returns
    exact ⟨rfl, by go_grown⟩
theorem long_any (a : Option Addr) (n c : Nat) (w : World) (hn : n ≤ 281474976710656) : Calls Tryd.prog 12 #[.slice a n c] w (Ret (.bool (decide (200000 < n))) w) := by
  go_enter Tryd.func12, Tryd.ntmps12
  go_wp2_with fail
  go_returns
  exact ⟨by simp; omega, by go_grown⟩
end Go.Proofs.YtolbmjilcngnhaaDoor
