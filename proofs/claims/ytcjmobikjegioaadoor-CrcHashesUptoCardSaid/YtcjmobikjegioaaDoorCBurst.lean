/- The first and the last bit in which two texts differ: the program's Burst and the document's. -/
import Derived.Test.YtcjmobikjegioaaDoorCLend
set_option linter.unusedSimpArgs false
set_option linter.unusedVariables false
namespace Go.Proofs.YtcjmobikjegioaaDoor
open Go.RowKit Go.Kp

/-- The first and the last place below k at which p holds. -/
def bst (p : Nat → Bool) : Nat → Option (Nat × Nat)
  | 0 => none
  | k + 1 => if p k then (match bst p k with | none => some (k, k) | some (f, _) => some (f, k)) else bst p k
def bF : Option (Nat × Nat) → Int | none => -1 | some (f, _) => (f : Int)
def bL : Option (Nat × Nat) → Int | none => -1 | some (_, l) => (l : Int)
def rF : Option (Nat × Nat) → Int | none => 0 | some (f, _) => (f : Int)
def rL : Option (Nat × Nat) → Int | none => 0 | some (_, l) => (l : Int)
def rB : Option (Nat × Nat) → Bool | none => false | some _ => true
theorem bst_no (p : Nat → Bool) (k : Nat) (h : p k = false) : bst p (k + 1) = bst p k := by simp [bst, h]
theorem bst_none (p : Nat → Bool) (k : Nat) (h : p k = true) (e : bst p k = none) : bst p (k + 1) = some (k, k) := by simp [bst, h, e]
theorem bst_some (p : Nat → Bool) (k f l : Nat) (h : p k = true) (e : bst p k = some (f, l)) : bst p (k + 1) = some (f, k) := by simp [bst, h, e]
theorem bst_lt (p : Nat → Bool) : ∀ (k f l : Nat), bst p k = some (f, l) → f < k ∧ l < k ∧ p f = true ∧ ∀ i, i < k → p i = true → f ≤ i ∧ i ≤ l
  | 0, f, l, h => by simp [bst] at h
  | k + 1, f, l, h => by
    by_cases hp : p k = true
    · cases e : bst p k with
      | none =>
        rw [bst_none p k hp e] at h
        simp at h
        obtain ⟨rfl, rfl⟩ := h
        have hno : ∀ j, bst p j = none → ∀ i, i < j → p i = false := by
          intro j
          induction j with
          | zero => intro _ i hi; omega
          | succ j ih =>
            intro hj i hi
            by_cases hpj : p j = true
            · cases ej : bst p j with
              | none => rw [bst_none p j hpj ej] at hj; cases hj
              | some x => obtain ⟨f, l⟩ := x; rw [bst_some p j f l hpj ej] at hj; cases hj
            · have hpj' : p j = false := by simpa using hpj
              rw [bst_no p j hpj'] at hj
              rcases Nat.lt_succ_iff_lt_or_eq.1 hi with h1 | h1
              · exact ih hj i h1
              · subst h1; exact hpj'
        refine ⟨by omega, by omega, hp, fun i hi hpi => ?_⟩
        rcases Nat.lt_succ_iff_lt_or_eq.1 hi with h1 | h1
        · rw [hno k e i h1] at hpi; cases hpi
        · omega
      | some x =>
        obtain ⟨f', l'⟩ := x
        rw [bst_some p k f' l' hp e] at h
        simp at h
        obtain ⟨rfl, rfl⟩ := h
        obtain ⟨h1, h2, h3, h4⟩ := bst_lt p k f' l' e
        refine ⟨by omega, by omega, h3, fun i hi hpi => ?_⟩
        rcases Nat.lt_succ_iff_lt_or_eq.1 hi with h5 | h5
        · have := h4 i h5 hpi; omega
        · omega
    · have hp' : p k = false := by simpa using hp
      rw [bst_no p k hp'] at h
      obtain ⟨h1, h2, h3, h4⟩ := bst_lt p k f l h
      refine ⟨by omega, by omega, h3, fun i hi hpi => ?_⟩
      rcases Nat.lt_succ_iff_lt_or_eq.1 hi with h5 | h5
      · exact h4 i h5 hpi
      · subst h5; rw [hp'] at hpi; cases hpi

/-- Do two texts differ at a bit? -/
def dif (a b : List UInt8) (i : Nat) : Bool := decide ((Crc.allBits a)[i]? ≠ (Crc.allBits b)[i]?)
theorem dif_at (a b : List UInt8) (i k : Nat) (x y : UInt8) (hx : a[i]? = some x) (hy : b[i]? = some y) (hk : k < 8) : dif a b (8 * i + k) = (x.toBitVec.getLsbD k != y.toBitVec.getLsbD k) := by
  unfold dif
  rw [Crc.allBits_get _ _ _ hk, Crc.allBits_get _ _ _ hk, hx, hy]
  simp only [Option.map_some, ne_eq, Option.some.injEq]
  cases x.toBitVec.getLsbD k <;> cases y.toBitVec.getLsbD k <;> rfl
/-- Texts of one length whose unlike bits lie within 32 have unlike sums. -/
theorem burst_ne (a b : List UInt8) (f l : Nat) (hl : a.length = b.length) (h : bst (dif a b) (8 * a.length) = some (f, l)) (h32 : l < f + 32) : Crc.more 0#32 a ≠ Crc.more 0#32 b := by
  obtain ⟨h1, h2, h3, h4⟩ := bst_lt _ _ _ _ h
  refine Crc.more_ne a b 0#32 f hl (fun i hi => ?_) (fun e => ?_)
  · have hlt : i < 8 * a.length := by
      refine Classical.byContradiction fun hge => hi ?_
      rw [List.getElem?_eq_none (by rw [Crc.length_allBits]; omega), List.getElem?_eq_none (by rw [Crc.length_allBits]; omega)]
    have := h4 i hlt (by unfold dif; exact decide_eq_true hi)
    omega
  · subst e
    unfold dif at h3
    simp at h3

theorem bit_nat (x : UInt8) (k : Nat) : x.toBitVec.getLsbD k = decide (x.toNat / 2 ^ k % 2 = 1) := by
  show x.toNat.testBit k = _
  rw [Nat.testBit_eq_decide_div_mod_eq]

/-- The document's bit. -/
theorem bit_any (a : Option Addr) (n cap : Nat) (l : List UInt8) (q : Nat) (x : UInt8) (w : World) (hl : l.length = n) (hn : n ≤ 140737488351232) (hq : q < 8 * n) (hx : l[q / 8]? = some x) (hr : Rd w w.heap.size a (l.map B8)) :
    Calls Tryd.prog 44 #[.slice a n cap, .int .i64 q] w (Ret (.int .u8 ((x.toNat / 2 ^ (q % 8) % 2 : Nat) : Int)) w) := by
  rcases hr with hr | ⟨b, off, rfl, hb, hc⟩
  · rw [List.map_eq_nil_iff.1 hr] at hx; simp at hx
  have e0 : w.cell? ⟨b, off + q / 8, none⟩ = some (B8 x) := rd_byte hc hx
  have hq2 : (q : Int) / 8 < (n : Int) := by omega
  have xb := byte_bd x
  clear hc hx hl
  go_enter Tryd.func44, Tryd.ntmps44
  go_wp2_with fail
  go_loopw [5, 6] (fun t i wr => ∃ k : Nat, k ≤ q % 8 ∧ i = .int .i64 k ∧ t = .int .u8 ((x.toNat / 2 ^ k : Nat) : Int) ∧ Below w.heap.size w wr) (fun _ i _ => 8 - (intOf i).toNat)
  case atStart => exact ⟨0, Nat.zero_le _, rfl, by rw [Nat.pow_zero, Nat.div_one], by go_grown⟩
  case round =>
    obtain ⟨k, hk, rfl, rfl, hB⟩ := hrel
    have HS := Lib.hid (show x.toNat / 2 ^ (k + 1) = x.toNat / 2 ^ k / 2 by rw [Nat.pow_succ, Nat.div_div_eq_div_mul])
    have hy : x.toNat / 2 ^ k < 256 := Nat.lt_of_le_of_lt (Nat.div_le_self _ _) x.toNat_lt
    generalize hyy : x.toNat / 2 ^ k = y at *
    have HY := Lib.hid hyy
    clear hyy e0
    rcases Nat.lt_or_ge k (q % 8) with hlt | hge
    · have hlt2 : (k : Int) < (q : Int) % 8 := by omega
      go_wp2_with fail
      go_roundw
      case rel => exact ⟨k + 1, by omega, by go_num, by rw [HS.out]; go_num, by go_grown⟩
      case measure => simp [intOf]; omega
    · have hge2 : (q : Int) % 8 ≤ (k : Int) := by omega
      have HK := Lib.hid (show k = q % 8 by omega)
      go_wp2_with fail
      go_returns
      refine ⟨ret_int ?_, by go_grown⟩
      rw [← HK.out, HY.out]; first | rfl | omega
end Go.Proofs.YtcjmobikjegioaaDoor
