/- Burst: the walks. -/
import Derived.Test.YtcjmobikjegioaaDoorCBurst
import Derived.Test.YtcjmobikjegioaaDoorGrow
set_option linter.unusedSimpArgs false
set_option linter.unusedVariables false
namespace Go.Proofs.YtcjmobikjegioaaDoor
open Go.RowKit Go.Kp

def RefSt (p : Nat → Bool) (q : Nat) (f l b : Value) : Prop :=
  (bst p q = none ∧ f = .int .i64 0 ∧ l = .int .i64 0 ∧ b = .bool false) ∨ (∃ i j : Nat, bst p q = some (i, j) ∧ f = .int .i64 i ∧ l = .int .i64 j ∧ b = .bool true)
def OwnSt (p : Nat → Bool) (q : Nat) (f l : Value) : Prop :=
  (bst p q = none ∧ f = .int .i64 (-1) ∧ l = .int .i64 (-1)) ∨ (∃ i j : Nat, bst p q = some (i, j) ∧ f = .int .i64 i ∧ l = .int .i64 j)
/-- The answer. -/
def bval : Option (Nat × Nat) → Value
  | none => .tuple #[.int .i64 0, .int .i64 0, .bool false]
  | some (i, j) => .tuple #[.int .i64 i, .int .i64 j, .bool true]

theorem refBurst_not (a b : Option Addr) (n m ca cb : Nat) (w : World) (h : n ≠ m) (hn : n ≤ 140737488351232) (hm : m ≤ 140737488351232) :
    Calls Tryd.prog 37 #[.slice a n ca, .slice b m cb] w (Ret (bval none) w) := by
  have hd : ¬ ((n : Int) = (m : Int)) := by omega
  go_enter Tryd.func37, Tryd.ntmps37
  go_wp2
  go_returns
  exact ⟨rfl, by go_grown⟩
theorem burst_not (a b : Option Addr) (n m ca cb : Nat) (w : World) (h : n ≠ m) (hn : n ≤ 140737488351232) (hm : m ≤ 140737488351232) :
    Calls Tryd.prog 36 #[.slice a n ca, .slice b m cb] w (Ret (bval none) w) := by
  have hd : ¬ ((n : Int) = (m : Int)) := by omega
  go_enter Tryd.func36, Tryd.ntmps36
  go_wp2
  go_returns
  exact ⟨rfl, by go_grown⟩

set_option maxHeartbeats 4000000 in
theorem refBurst_any (a b : Option Addr) (n ca cb : Nat) (la lb : List UInt8) (w : World) (ha : la.length = n) (hb : lb.length = n) (hn : n ≤ 140737488351232) (hra : Rd w w.heap.size a (la.map B8)) (hrb : Rd w w.heap.size b (lb.map B8)) :
    Calls Tryd.prog 37 #[.slice a n ca, .slice b n cb] w (Ret (bval (bst (dif la lb) (8 * n))) w) := by
  obtain ⟨hnp⟩ : Nonempty (n ≤ 140737488351232) := ⟨hn⟩
  have HA := Lib.hid ha
  have HB := Lib.hid hb
  have HRA := Lib.hid hra
  have HRB := Lib.hid hrb
  clear ha hb hra hrb
  go_enter Tryd.func37, Tryd.ntmps37
  go_wp2_with fail
  go_loopw [7, 8, 9, 10] (fun f l b i wr => ∃ q : Nat, q ≤ 8 * n ∧ i = .int .i64 q ∧ RefSt (dif la lb) q f l b ∧ Below w.heap.size w wr) (fun _ _ _ i _ => 8 * n - (intOf i).toNat)
  case atStart => exact ⟨0, Nat.zero_le _, rfl, .inl ⟨rfl, rfl, rfl, rfl⟩, by go_grown⟩
  case round =>
    obtain ⟨q, hq, rfl, hst, hB⟩ := hrel
    have hs := hB.size
    rcases Nat.lt_or_ge q (8 * n) with hlt | hge
    · obtain ⟨x, hx⟩ : ∃ z, la[q / 8]? = some z := ⟨_, List.getElem?_eq_getElem (by rw [HA.out]; omega)⟩
      obtain ⟨y, hy⟩ : ∃ z, lb[q / 8]? = some z := ⟨_, List.getElem?_eq_getElem (by rw [HB.out]; omega)⟩
      have hd := dif_at la lb (q / 8) (q % 8) x y hx hy (Nat.mod_lt _ (by omega))
      rw [show 8 * (q / 8) + q % 8 = q by omega, bit_nat, bit_nat] at hd
      have HX := Lib.hid hx
      have HY := Lib.hid hy
      have hX : x.toNat / 2 ^ (q % 8) % 2 < 2 := Nat.mod_lt _ (by omega)
      have hY : y.toNat / 2 ^ (q % 8) % 2 < 2 := Nat.mod_lt _ (by omega)
      generalize hXX : x.toNat / 2 ^ (q % 8) % 2 = X at *
      generalize hYY : y.toNat / 2 ^ (q % 8) % 2 = Y at *
      have HXX := Lib.hid hXX
      have HYY := Lib.hid hYY
      clear hx hy hXX hYY
      have hlt2 : (q : Int) < 8 * (n : Int) := by omega
      have HD := Lib.hid hd
      clear hd
      have HST := Lib.hid hst
      clear hst
      go_wp2_with fail
      refine (bit_any a n ca la q x _ HA.out hnp hlt HX.out ((HRA.out.below hB).more hs)).mono ?_
      rintro en w1 ⟨rfl, hb1⟩
      rw [HXX.out]
      have hB1 : Below w.heap.size w w1 := bnext (by go_grown) hb1
      have s1 := hB1.size
      clear hb1 hB hs
      go_wp2_with fail
      refine (bit_any b n cb lb q y _ HB.out hnp hlt HY.out ((HRB.out.below hB1).more s1)).mono ?_
      rintro en w2 ⟨rfl, hb2⟩
      rw [HYY.out]
      have hB2 : Below w.heap.size w w2 := bnext (by go_grown) hb2
      clear hb2 hB1 s1
      by_cases hXY : X = Y
      · have HD2 := Lib.hid (bst_no (dif la lb) q (by rw [HD.out, hXY]; simp))
        subst hXY
        go_wp2_with fail
        go_roundw
        case rel => exact ⟨q + 1, by omega, by go_num, by unfold RefSt; rw [HD2.out]; exact HST.out, hB2⟩
        case measure => simp [intOf]; omega
      · have hp : dif la lb q = true := by
          rw [HD.out]
          have : X = 0 ∧ Y = 1 ∨ X = 1 ∧ Y = 0 := by omega
          rcases this with ⟨rfl, rfl⟩ | ⟨rfl, rfl⟩ <;> rfl
        have HP := Lib.hid hp
        have hne : ¬ ((X : Int) = (Y : Int)) := by omega
        clear hp hXY hX hY
        rcases HST.out with ⟨e, rfl, rfl, rfl⟩ | ⟨i, j, e, rfl, rfl, rfl⟩
        · have HE := Lib.hid (bst_none _ q HP.out e)
          clear e HST
          go_wp2_with fail
          go_roundw
          case rel => exact ⟨q + 1, by omega, by go_num, .inr ⟨q, q, HE.out, rfl, rfl, rfl⟩, hB2⟩
          case measure => simp [intOf]; omega
        · have HE := Lib.hid (bst_some _ q i j HP.out e)
          clear e HST
          go_wp2_with fail
          go_roundw
          case rel => exact ⟨q + 1, by omega, by go_num, .inr ⟨i, q, HE.out, rfl, rfl, rfl⟩, hB2⟩
          case measure => simp [intOf]; omega
    · have hge2 : 8 * (n : Int) ≤ (q : Int) := by omega
      have HQ := Lib.hid (show q = 8 * n by omega)
      rcases hst with ⟨e, rfl, rfl, rfl⟩ | ⟨i, j, e, rfl, rfl, rfl⟩
      · have HE := Lib.hid e
        clear e
        go_wp2_with fail
        go_returns
        exact ⟨by rw [← HQ.out, HE.out]; rfl, by go_grown⟩
      · have HE := Lib.hid e
        clear e
        go_wp2_with fail
        go_returns
        exact ⟨by rw [← HQ.out, HE.out]; rfl, by go_grown⟩

theorem xbit (x y : UInt8) (k : Nat) (hk : k < 8) : bits .and .u8 (bits .xor .u8 (x.toNat : Int) (y.toNat : Int) / (2 : Int) ^ k) 1 = if (x.toBitVec.getLsbD k != y.toBitVec.getLsbD k) = true then 1 else 0 := by
  have hx := x.toNat_lt
  have hy := y.toNat_lt
  have hz : x.toNat ^^^ y.toNat < 256 := Nat.xor_lt_two_pow (n := 8) hx hy
  rw [u8_xor_nat _ _ hx hy]
  have e : (((x.toNat ^^^ y.toNat : Nat) : Int) / (2 : Int) ^ k) = (((x.toNat ^^^ y.toNat) / 2 ^ k : Nat) : Int) := by rw [Int.natCast_ediv, Int.natCast_pow]; rfl
  have h1 := u8_and_nat ((x.toNat ^^^ y.toNat) / 2 ^ k) 1 (Nat.lt_of_le_of_lt (Nat.div_le_self _ _) hz) (by omega)
  rw [e]
  rw [show ((1 : Nat) : Int) = 1 from rfl] at h1
  rw [h1, nat_mask1]
  have hb : (x.toBitVec.getLsbD k != y.toBitVec.getLsbD k) = decide ((x.toNat ^^^ y.toNat) / 2 ^ k % 2 = 1) := by
    rw [← Nat.testBit_eq_decide_div_mod_eq, Nat.testBit_xor]; rfl
  rw [hb]
  have : (x.toNat ^^^ y.toNat) / 2 ^ k % 2 < 2 := Nat.mod_lt _ (by omega)
  by_cases h : (x.toNat ^^^ y.toNat) / 2 ^ k % 2 = 1
  · simp [h]
  · simp [h]; omega

set_option maxHeartbeats 4000000 in
theorem burst_any (a b : Option Addr) (n ca cb : Nat) (la lb : List UInt8) (w : World) (ha : la.length = n) (hb : lb.length = n) (hn : n ≤ 140737488351232) (hra : Rd w w.heap.size a (la.map B8)) (hrb : Rd w w.heap.size b (lb.map B8)) :
    Calls Tryd.prog 36 #[.slice a n ca, .slice b n cb] w (Ret (bval (bst (dif la lb) (8 * n))) w) := by
  obtain ⟨hnp⟩ : Nonempty (n ≤ 140737488351232) := ⟨hn⟩
  have HA := Lib.hid ha
  have HB := Lib.hid hb
  have HRA := Lib.hid hra
  have HRB := Lib.hid hrb
  clear ha hb hra hrb
  go_enter Tryd.func36, Tryd.ntmps36
  go_wp2_with fail
  go_loopw [7, 8, 18] (fun f l i wr => ∃ q : Nat, q ≤ n ∧ i = .int .i64 q ∧ OwnSt (dif la lb) (8 * q) f l ∧ Below w.heap.size w wr) (fun _ _ i _ => n - (intOf i).toNat)
  case atStart => exact ⟨0, Nat.zero_le _, rfl, .inl ⟨rfl, rfl, rfl⟩, by go_grown⟩
  case round =>
    obtain ⟨q, hq, rfl, hst, hB⟩ := hrel
    have HST := Lib.hid hst
    clear hst
    rcases Nat.lt_or_ge q n with hlt | hge
    · obtain ⟨x, hx⟩ : ∃ z, la[q]? = some z := ⟨_, List.getElem?_eq_getElem (by rw [HA.out]; omega)⟩
      obtain ⟨y, hy⟩ : ∃ z, lb[q]? = some z := ⟨_, List.getElem?_eq_getElem (by rw [HB.out]; omega)⟩
      rcases HRA.out with hr | ⟨ba, oa, rfl, hba, hca⟩
      · rw [List.map_eq_nil_iff.1 hr] at hx; simp at hx
      rcases HRB.out with hr | ⟨bb, ob, rfl, hbb, hcb⟩
      · rw [List.map_eq_nil_iff.1 hr] at hy; simp at hy
      have HX := Lib.hid (rd_byte hca hx)
      have HY := Lib.hid (rd_byte hcb hy)
      have HD := Lib.hid (fun k (hk : k < 8) => dif_at la lb q k x y hx hy hk)
      clear hx hy hca hcb
      obtain ⟨wo, rfl⟩ : ∃ wo : World, wo = wr := ⟨_, rfl⟩
      go_wp2_with fail
      go_loopw [7, 8, 21] (fun f l i wr => ∃ k : Nat, k ≤ 8 ∧ i = .int .i64 k ∧ OwnSt (dif la lb) (8 * q + k) f l ∧ Below w.heap.size w wr) (fun _ _ i _ => 8 - (intOf i).toNat)
      case atStart => exact ⟨0, Nat.zero_le _, rfl, HST.out, by go_grown⟩
      case round =>
        obtain ⟨k, hk, rfl, hst, hB'⟩ := hrel
        clear hB HST
        have HST := Lib.hid hst
        clear hst
        have e0 := (hB'.cell (p := ⟨ba, oa + q, none⟩) hba).trans HX.out
        have e1 := (hB'.cell (p := ⟨bb, ob + q, none⟩) hbb).trans HY.out
        have lb1 : ba < wr.heap.size := Nat.lt_of_lt_of_le hba hB'.size
        have lb2 : bb < wr.heap.size := Nat.lt_of_lt_of_le hbb hB'.size
        rcases Nat.lt_or_ge k 8 with hlt | hge
        · have hD := HD.out k hlt
          have eb := xbit x y k hlt
          rw [← hD] at eb
          by_cases hp : dif la lb (8 * q + k) = true
          · rw [if_pos hp] at eb
            have HP := Lib.hid hp
            clear hp hD
            go_wp2_with fail
            (refine region_grow 10 [(0, true), (1, true), (2, true), (3, true), (4, true), (5, true), (6, true), (7, true), (8, true), (9, true)] (by kernel_rfl) (fun _ _ d _ _ h => by cases d <;> exact h) (by kernel_rfl) ?_; simp only [withOps, List.getElem?_toArray, List.getElem?_cons_zero, List.getElem?_cons_succ, List.drop_succ_cons, List.drop_zero])
            (iterate 10 (refine grow_quiet (v := ?_) rfl ?_ ?_; rotate_left; (focus (intro w' hz' hw'; (try simp only [World.size_drew, World.size_alloc] at hw'); go_simp; (try with_reducible rfl); done)); try simp only [Act.put, List.setIfInBounds_toArray, List.set_cons_zero, List.set_cons_succ]))
            (with_reducible refine plan_end ?_)
            (try simp only [Act.put, List.setIfInBounds_toArray, List.set_cons_zero, List.set_cons_succ])
            rcases HST.out with ⟨e, rfl, rfl⟩ | ⟨i, j, e, rfl, rfl⟩
            · have HE := Lib.hid (bst_none _ _ HP.out e)
              clear e HST
              go_wp2_with fail
              go_roundw
              case rel => exact ⟨k + 1, by omega, by go_num, .inr ⟨8 * q + k, 8 * q + k, HE.out, by go_num, by go_num⟩, by go_grown⟩
              case measure => simp [intOf]; omega
            · have HE := Lib.hid (bst_some _ _ i j HP.out e)
              clear e HST
              go_wp2_with fail
              go_roundw
              case rel => exact ⟨k + 1, by omega, by go_num, .inr ⟨i, 8 * q + k, HE.out, rfl, by go_num⟩, by go_grown⟩
              case measure => simp [intOf]; omega
          · rw [if_neg hp] at eb
            have HP := Lib.hid (bst_no (dif la lb) (8 * q + k) (by simpa using hp))
            clear hp hD
            go_wp2_with fail
            (refine region_grow 10 [(0, true), (1, true), (2, true), (3, true), (4, true), (5, true), (6, true), (7, true), (8, true), (9, true)] (by kernel_rfl) (fun _ _ d _ _ h => by cases d <;> exact h) (by kernel_rfl) ?_; simp only [withOps, List.getElem?_toArray, List.getElem?_cons_zero, List.getElem?_cons_succ, List.drop_succ_cons, List.drop_zero])
            (iterate 10 (refine grow_quiet (v := ?_) rfl ?_ ?_; rotate_left; (focus (intro w' hz' hw'; (try simp only [World.size_drew, World.size_alloc] at hw'); go_simp; (try with_reducible rfl); done)); try simp only [Act.put, List.setIfInBounds_toArray, List.set_cons_zero, List.set_cons_succ]))
            (with_reducible refine plan_end ?_)
            (try simp only [Act.put, List.setIfInBounds_toArray, List.set_cons_zero, List.set_cons_succ])
            go_wp2_with fail
            go_roundw
            case rel => exact ⟨k + 1, by omega, by go_num, by unfold OwnSt; rw [← Nat.add_assoc, HP.out]; exact HST.out, by go_grown⟩
            case measure => simp [intOf]; omega
        · have HK := Lib.hid (show k = 8 by omega)
          clear e0 e1 lb1 lb2
          go_wp2_with fail
          go_roundw
          case rel => exact ⟨q + 1, by omega, by go_num, by rw [show 8 * (q + 1) = 8 * q + k by rw [HK.out]; omega]; exact HST.out, hB'⟩
          case measure => simp [intOf]; omega
    · have HQ := Lib.hid (show q = n by omega)
      rcases HST.out with ⟨e, rfl, rfl⟩ | ⟨i, j, e, rfl, rfl⟩
      · have HE := Lib.hid e
        clear e
        go_wp2_with fail
        go_returns
        exact ⟨by rw [← HQ.out, HE.out]; rfl, by go_grown⟩
      · have HE := Lib.hid e
        clear e
        go_wp2_with fail
        go_returns
        exact ⟨by rw [← HQ.out, HE.out]; rfl, by go_grown⟩
end Go.Proofs.YtcjmobikjegioaaDoor
