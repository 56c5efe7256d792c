/- The mathematics of CRC-32C over 32-bit words: steps, their linearity, carrying, bursts. -/
import Derived.Laws.BitsAllLaws
set_option linter.unusedSimpArgs false
set_option linter.unusedVariables false
namespace Go.Crc
open Go

def poly : BitVec 32 := 0x82f63b78#32
def step (x : BitVec 32) : BitVec 32 := (x >>> 1) ^^^ (if x.getLsbD 0 then poly else 0#32)
def steps : Nat → BitVec 32 → BitVec 32
  | 0, x => x
  | n + 1, x => steps n (step x)

theorem getLsbD_step (x : BitVec 32) (i : Nat) : (step x).getLsbD i = ((x.getLsbD (1 + i)) ^^ (x.getLsbD 0 && poly.getLsbD i)) := by
  unfold step
  rw [BitVec.getLsbD_xor, BitVec.getLsbD_ushiftRight]
  cases x.getLsbD 0 <;> simp

theorem step_xor (x y : BitVec 32) : step (x ^^^ y) = step x ^^^ step y := by
  apply BitVec.eq_of_getLsbD_eq
  intro i _
  simp only [getLsbD_step, BitVec.getLsbD_xor]
  cases x.getLsbD 0 <;> cases y.getLsbD 0 <;> cases x.getLsbD (1 + i) <;> cases y.getLsbD (1 + i) <;> simp

theorem step_zero : step 0#32 = 0#32 := by decide

theorem step_eq_zero {x : BitVec 32} (h : step x = 0#32) : x = 0#32 := by
  have key : ∀ i, (step x).getLsbD i = false := fun i => by rw [h]; simp
  have h0 : x.getLsbD 0 = false := by
    have := key 31
    rw [getLsbD_step] at this
    have e1 : x.getLsbD (1 + 31) = false := BitVec.getLsbD_of_ge _ _ (by omega)
    have e2 : poly.getLsbD 31 = true := by decide
    rw [e1, e2] at this
    simpa using this
  apply BitVec.eq_of_getLsbD_eq
  intro i hi
  simp only [BitVec.getLsbD_zero]
  cases i with
  | zero => exact h0
  | succ i =>
    have := key i
    rw [getLsbD_step, h0] at this
    rw [Nat.add_comm]
    simpa using this

theorem xor_eq_zero {x y : BitVec 32} : x ^^^ y = 0#32 ↔ x = y := by
  constructor
  · intro h
    have : (x ^^^ y) ^^^ y = 0#32 ^^^ y := by rw [h]
    rwa [BitVec.xor_assoc, BitVec.xor_self, BitVec.xor_zero, BitVec.zero_xor] at this
  · rintro rfl; exact BitVec.xor_self

theorem step_inj {x y : BitVec 32} (h : step x = step y) : x = y := by
  rw [← xor_eq_zero] at h ⊢
  rw [← step_xor] at h
  exact step_eq_zero h

theorem steps_xor : ∀ (n : Nat) (x y : BitVec 32), steps n (x ^^^ y) = steps n x ^^^ steps n y
  | 0, _, _ => rfl
  | n + 1, x, y => by simp only [steps, step_xor, steps_xor n]

theorem steps_zero : ∀ n, steps n 0#32 = 0#32
  | 0 => rfl
  | n + 1 => by simp only [steps, step_zero, steps_zero n]

theorem steps_inj : ∀ (n : Nat) {x y : BitVec 32}, steps n x = steps n y → x = y
  | 0, _, _, h => h
  | n + 1, _, _, h => step_inj (steps_inj n h)

theorem steps_add : ∀ (m n : Nat) (x : BitVec 32), steps (m + n) x = steps n (steps m x)
  | 0, n, x => by rw [Nat.zero_add]; rfl
  | m + 1, n, x => by rw [Nat.succ_add]; exact steps_add m n (step x)

theorem steps_succ (n : Nat) (x : BitVec 32) : steps (n + 1) x = step (steps n x) := by rw [steps_add]; rfl

def eight (x : BitVec 32) : BitVec 32 := steps 8 x

/-- No low bits: steps move down alone. -/
theorem step_shl (y : BitVec 32) (h : y.getLsbD 31 = false) : step (y <<< 1) = y := by
  apply BitVec.eq_of_getLsbD_eq
  intro i hi
  rw [getLsbD_step]
  simp only [BitVec.getLsbD_shiftLeft]
  have e : 1 + i - 1 = i := by omega
  by_cases h31 : i = 31
  · subst h31; rw [h]; simp
  · have : decide (1 + i < 32) = true := by simp; omega
    simp [this, e]

theorem steps_shl : ∀ (n : Nat) (y : BitVec 32), (∀ i, 32 ≤ i + n → y.getLsbD i = false) → steps n (y <<< n) = y
  | 0, y, _ => by simp [steps]
  | n + 1, y, h => by
    have e : y <<< (n + 1) = (y <<< n) <<< 1 := BitVec.shiftLeft_add y n 1
    simp only [steps]
    rw [e, step_shl, steps_shl n y (fun i hi => h i (by omega))]
    rw [BitVec.getLsbD_shiftLeft]
    by_cases hn : n ≤ 31
    · rw [h (31 - n) (by omega)]; simp
    · have : decide (31 < n) = true := by simp; omega
      simp [this]

theorem split_low (x : BitVec 32) : x = (x &&& 15#32) ^^^ ((x >>> 4) <<< 4) := by
  apply BitVec.eq_of_getLsbD_eq
  intro i hi
  simp only [BitVec.getLsbD_xor, BitVec.getLsbD_and, BitVec.getLsbD_shiftLeft, BitVec.getLsbD_ushiftRight]
  by_cases h : i < 4
  · have : (15#32).getLsbD i = true := by
      have : ∀ j : Fin 4, (15#32).getLsbD j.val = true := by decide
      exact this ⟨i, h⟩
    simp [this, h]
  · have h15 : (15#32).getLsbD i = false := by
      have : ∀ j : Fin 32, 4 ≤ j.val → (15#32).getLsbD j.val = false := by decide
      exact this ⟨i, hi⟩ (by simpa using h)
    have e : 4 + (i - 4) = i := by omega
    rw [h15]; simp [h, hi, e]

theorem steps_four (x : BitVec 32) : steps 4 x = steps 4 (x &&& 15#32) ^^^ (x >>> 4) := by
  have h := congrArg (steps 4) (split_low x)
  rw [steps_xor, steps_shl 4 (x >>> 4)] at h
  · exact h
  · intro i hi
    rw [BitVec.getLsbD_ushiftRight]
    exact BitVec.getLsbD_of_ge _ _ (by omega)

/-! ### bit by bit -/

def bit1 (e : Bool) : BitVec 32 := if e then 1#32 else 0#32
def bitfold (s : BitVec 32) (es : List Bool) : BitVec 32 := es.foldl (fun s e => step (s ^^^ bit1 e)) s
def pack : List Bool → BitVec 32
  | [] => 0#32
  | e :: es => bit1 e ^^^ (pack es <<< 1)

theorem bit1_xor (a b : Bool) : bit1 (a ^^ b) = bit1 a ^^^ bit1 b := by cases a <;> cases b <;> decide

theorem getLsbD_bit1 (e : Bool) (i : Nat) : (bit1 e).getLsbD i = (decide (i = 0) && e) := by
  cases e
  · simp [bit1]
  · cases i with
    | zero => decide
    | succ i => simp [bit1]

theorem getLsbD_pack : ∀ (es : List Bool) (i : Nat), (pack es).getLsbD i = (decide (i < 32) && es.getD i false)
  | [], i => by simp [pack]
  | e :: es, 0 => by rw [pack, BitVec.getLsbD_xor, getLsbD_bit1, BitVec.getLsbD_shiftLeft]; simp
  | e :: es, i + 1 => by
    rw [pack, BitVec.getLsbD_xor, getLsbD_bit1, BitVec.getLsbD_shiftLeft, getLsbD_pack es]
    simp
    by_cases h : i + 1 < 32
    · have : i < 32 := by omega
      simp [h, this]
    · simp [h]

theorem bitfold_pack : ∀ (es : List Bool) (s : BitVec 32), es.length ≤ 32 → bitfold s es = steps es.length (s ^^^ pack es)
  | [], s, _ => by simp [bitfold, pack, steps]
  | e :: es, s, h => by
    simp only [List.length_cons] at h
    have ih := bitfold_pack es (step (s ^^^ bit1 e)) (by omega)
    show bitfold (step (s ^^^ bit1 e)) es = _
    rw [ih]
    simp only [List.length_cons, steps, pack]
    congr 1
    rw [← BitVec.xor_assoc, step_xor (s ^^^ bit1 e) (pack es <<< 1), step_shl]
    rw [getLsbD_pack]
    simp [List.getElem?_eq_none (show es.length ≤ 31 by omega)]

theorem bitfold_append (s : BitVec 32) (a b : List Bool) : bitfold s (a ++ b) = bitfold (bitfold s a) b := by simp [bitfold]

theorem bitfold_xor : ∀ (a b : List Bool) (s t : BitVec 32), a.length = b.length → bitfold s a ^^^ bitfold t b = bitfold (s ^^^ t) (List.zipWith (· ^^ ·) a b)
  | [], [], _, _, _ => rfl
  | x :: a, y :: b, s, t, h => by
    have ih := bitfold_xor a b (step (s ^^^ bit1 x)) (step (t ^^^ bit1 y)) (by simpa using h)
    show bitfold (step (s ^^^ bit1 x)) a ^^^ bitfold (step (t ^^^ bit1 y)) b = _
    rw [ih, ← step_xor]
    show _ = bitfold (step (s ^^^ t ^^^ bit1 (x ^^ y))) _
    congr 2
    rw [bit1_xor]
    ac_rfl
  | [], _ :: _, _, _, h => by simp at h
  | _ :: _, [], _, _, h => by simp at h

theorem bitfold_zeros (s : BitVec 32) : ∀ n, bitfold s (List.replicate n false) = steps n s
  | 0 => rfl
  | n + 1 => by
    show bitfold (step (s ^^^ bit1 false)) (List.replicate n false) = _
    rw [bitfold_zeros _ n]
    simp [bit1, steps]

/-- A burst of at most 32 bits is seen. -/
theorem burst (f r : Nat) (wd : List Bool) (h : wd.length ≤ 32) (hw : true ∈ wd) : bitfold 0#32 (List.replicate f false ++ wd ++ List.replicate r false) ≠ 0#32 := by
  rw [bitfold_append, bitfold_append, bitfold_zeros, bitfold_zeros, steps_zero, bitfold_pack _ _ h]
  intro e
  have e1 := steps_inj r (e.trans (steps_zero r).symm)
  have e2 := steps_inj wd.length (e1.trans (steps_zero _).symm)
  rw [BitVec.zero_xor] at e2
  obtain ⟨i, hi, hv⟩ := List.getElem_of_mem hw
  have := getLsbD_pack wd i
  rw [e2] at this
  simp [hi, hv] at this
  omega

/-- Two rows of bits that differ only at f to f + 31 and are unlike are told apart. -/
theorem fold_ne (a b : List Bool) (s : BitVec 32) (f : Nat) (hl : a.length = b.length) (hd : ∀ i : Nat, a[i]? ≠ b[i]? → f ≤ i ∧ i < f + 32) (hne : a ≠ b) : bitfold s a ≠ bitfold s b := by
  intro h
  have hx := bitfold_xor a b s s hl
  rw [h, BitVec.xor_self, BitVec.xor_self] at hx
  generalize hD : List.zipWith (· ^^ ·) a b = D at hx
  have hDl : D.length = a.length := by rw [← hD]; simp [hl]
  have hDi : ∀ i : Nat, D[i]? = some true ↔ a[i]? ≠ b[i]? := by
    intro i
    rw [← hD, List.getElem?_zipWith]
    by_cases hi : i < a.length
    · have hi' : i < b.length := by omega
      rw [List.getElem?_eq_getElem hi, List.getElem?_eq_getElem hi']
      simp
    · rw [List.getElem?_eq_none (by omega), List.getElem?_eq_none (by omega)]
      simp
  -- D is noughts but from f on for 32 places
  have hD3 : D = (List.replicate (min f D.length) false ++ (D.drop f).take 32) ++ List.replicate (D.length - (f + 32)) false := by
    apply List.ext_getElem?
    intro i
    by_cases hi : i < D.length
    · have hcase : ¬ (f ≤ i ∧ i < f + 32) → D[i]? = some false := by
        intro hn
        have : ¬ D[i]? = some true := fun ht => hn (hd i ((hDi i).1 ht))
        rw [List.getElem?_eq_getElem hi] at this ⊢
        cases hv : D[i] <;> simp_all
      by_cases h1 : i < f
      · rw [hcase (by omega), List.append_assoc, List.getElem?_append_left (by simp; omega)]
        rw [List.getElem?_replicate]
        simp; omega
      · by_cases h2 : i < f + 32
        · rw [List.getElem?_append_left (by simp; omega), List.getElem?_append_right (by simp; omega)]
          simp
          rw [List.getElem?_take_of_lt (by omega), List.getElem?_drop]
          congr 1; omega
        · rw [hcase (by omega), List.getElem?_append_right (by simp; omega)]
          rw [List.getElem?_replicate]
          simp; omega
    · rw [List.getElem?_eq_none (by omega), List.getElem?_eq_none (by simp; omega)]
  have hsome : true ∈ (D.drop f).take 32 := by
    have : ∃ i : Nat, a[i]? ≠ b[i]? := by
      apply Classical.byContradiction
      intro hno
      exact hne (List.ext_getElem? fun i => Classical.byContradiction fun hi => hno ⟨i, hi⟩)
    obtain ⟨i, hi⟩ := this
    obtain ⟨h1, h2⟩ := hd i hi
    have ht := (hDi i).2 hi
    apply List.mem_of_getElem? (i := i - f)
    rw [List.getElem?_take_of_lt (by omega), List.getElem?_drop, show f + (i - f) = i by omega]
    exact ht
  have := burst (min f D.length) (D.length - (f + 32)) ((D.drop f).take 32) (by simp; omega) hsome
  rw [← hD3] at this
  exact this hx.symm

/-! ### bytes -/

def wide (b : UInt8) : BitVec 32 := b.toBitVec.setWidth 32
def crcByte (s : BitVec 32) (b : UInt8) : BitVec 32 := eight (s ^^^ wide b)
def raw (s : BitVec 32) (l : List UInt8) : BitVec 32 := l.foldl crcByte s
def more (s : BitVec 32) (l : List UInt8) : BitVec 32 := ~~~ raw (~~~ s) l

def bitsOf (b : UInt8) : List Bool := (List.range 8).map fun i => b.toBitVec.getLsbD i
def allBits (l : List UInt8) : List Bool := l.flatMap bitsOf

theorem length_bitsOf (b : UInt8) : (bitsOf b).length = 8 := by simp [bitsOf]
theorem length_allBits (l : List UInt8) : (allBits l).length = 8 * l.length := by
  induction l with
  | nil => rfl
  | cons b l ih =>
    have : (allBits (b :: l)).length = (bitsOf b).length + (allBits l).length := by simp [allBits]
    rw [this, ih, length_bitsOf]; simp; omega

theorem pack_bitsOf (b : UInt8) : pack (bitsOf b) = wide b := by
  apply BitVec.eq_of_getLsbD_eq
  intro i hi
  rw [getLsbD_pack, wide, BitVec.getLsbD_setWidth]
  simp only [hi, decide_true, Bool.true_and]
  by_cases h : i < 8
  · simp [bitsOf, List.getD, h]
  · rw [BitVec.getLsbD_of_ge _ _ (by omega), List.getD, List.getElem?_eq_none (by rw [length_bitsOf]; omega)]; rfl

theorem crcByte_bits (s : BitVec 32) (b : UInt8) : crcByte s b = bitfold s (bitsOf b) := by
  rw [bitfold_pack _ _ (by rw [length_bitsOf]; omega), pack_bitsOf, length_bitsOf]; rfl

theorem raw_bits : ∀ (l : List UInt8) (s : BitVec 32), raw s l = bitfold s (allBits l)
  | [], _ => rfl
  | b :: l, s => by
    have e : allBits (b :: l) = bitsOf b ++ allBits l := by simp [allBits]
    rw [e, bitfold_append, ← crcByte_bits, ← raw_bits l]; rfl

theorem raw_append (s : BitVec 32) (a b : List UInt8) : raw s (a ++ b) = raw (raw s a) b := by simp [raw]
theorem more_append (s : BitVec 32) (a b : List UInt8) : more s (a ++ b) = more (more s a) b := by
  unfold more; rw [raw_append, BitVec.not_not]

theorem allBits_get (l : List UInt8) (i k : Nat) (hk : k < 8) : (allBits l)[8 * i + k]? = l[i]?.map fun b => b.toBitVec.getLsbD k := by
  induction l generalizing i with
  | nil => simp [allBits]
  | cons b l ih =>
    have e : allBits (b :: l) = bitsOf b ++ allBits l := by simp [allBits]
    rw [e]
    cases i with
    | zero =>
      rw [List.getElem?_append_left (by rw [length_bitsOf]; omega)]
      simp [bitsOf, hk]
    | succ i =>
      rw [List.getElem?_append_right (by rw [length_bitsOf]; omega), length_bitsOf, show 8 * (i + 1) + k - 8 = 8 * i + k by omega, ih]
      simp

theorem allBits_inj {a b : List UInt8} (h : allBits a = allBits b) : a = b := by
  have hl : a.length = b.length := by
    have := congrArg List.length h
    rw [length_allBits, length_allBits] at this; omega
  apply List.ext_getElem? 
  intro i
  by_cases hi : i < a.length
  · have hi' : i < b.length := by omega
    rw [List.getElem?_eq_getElem hi, List.getElem?_eq_getElem hi']
    congr 1
    apply UInt8.toBitVec_inj.1
    apply BitVec.eq_of_getLsbD_eq
    intro k hk
    have h1 := allBits_get a i k hk
    have h2 := allBits_get b i k hk
    rw [h, h2, List.getElem?_eq_getElem hi, List.getElem?_eq_getElem hi'] at h1
    simpa using h1.symm
  · rw [List.getElem?_eq_none (by omega), List.getElem?_eq_none (by omega)]

/-- THE THEOREM: texts of one length whose unlike bits lie within 32 have unlike sums. -/
theorem more_ne (a b : List UInt8) (s : BitVec 32) (f : Nat) (hl : a.length = b.length) (hd : ∀ i : Nat, (allBits a)[i]? ≠ (allBits b)[i]? → f ≤ i ∧ i < f + 32) (hne : a ≠ b) : more s a ≠ more s b := by
  intro h
  unfold more at h
  have h' : raw (~~~ s) a = raw (~~~ s) b := by
    have := congrArg (~~~ ·) h
    simpa using this
  rw [raw_bits, raw_bits] at h'
  exact fold_ne _ _ _ f (by rw [length_allBits, length_allBits, hl]) hd (fun e => hne (allBits_inj e)) h'

/-! ### carried -/

theorem raw_zeros (s : BitVec 32) : ∀ n, raw s (List.replicate n 0) = steps (8 * n) s
  | 0 => rfl
  | n + 1 => by
    show raw (crcByte s 0) (List.replicate n 0) = _
    rw [raw_zeros _ n, show 8 * (n + 1) = 8 + 8 * n by omega, steps_add]
    congr 1
    simp [crcByte, eight, wide]

theorem bitfold_lin (s t : BitVec 32) (es : List Bool) : bitfold (s ^^^ t) es = bitfold s es ^^^ steps es.length t := by
  rw [← bitfold_zeros t es.length, bitfold_xor _ _ _ _ (by simp)]
  congr 1
  apply List.ext_getElem?
  intro i
  rw [List.getElem?_zipWith]
  by_cases hi : i < es.length
  · simp [hi]
  · rw [List.getElem?_eq_none (by omega)]

theorem raw_lin (s t : BitVec 32) (l : List UInt8) : raw (s ^^^ t) l = raw s l ^^^ steps (8 * l.length) t := by
  rw [raw_bits, raw_bits, bitfold_lin, length_allBits]

theorem not_eq_xor (x : BitVec 32) : ~~~ x = x ^^^ 0xffffffff#32 := by
  apply BitVec.eq_of_getLsbD_eq
  intro i hi
  have : (0xffffffff#32).getLsbD i = true := by
    have : ∀ j : Fin 32, (0xffffffff#32).getLsbD j.val = true := by decide
    exact this ⟨i, hi⟩
  rw [BitVec.getLsbD_not, BitVec.getLsbD_xor, this]; simp [hi]

/-- Sums joined. -/
theorem more_join (s : BitVec 32) (b : List UInt8) : more s b = steps (8 * b.length) s ^^^ more 0#32 b := by
  unfold more
  rw [not_eq_xor s, not_eq_xor 0#32, BitVec.zero_xor, BitVec.xor_comm s, raw_lin, not_eq_xor, not_eq_xor]
  ac_rfl

theorem steps_mul (m n : Nat) (x : BitVec 32) : steps (8 * (m + n)) x = steps (8 * n) (steps (8 * m) x) := by rw [Nat.mul_add, steps_add]

/-- A text with its sum behind it. -/
theorem more_self (s : BitVec 32) (a : List UInt8) (e : List UInt8) (he : e.length = 4) (hp : pack (allBits e) = more s a) : more s (a ++ e) = 0x48674bc7#32 := by
  rw [more_append]
  unfold more
  rw [raw_bits _ (~~~ _), bitfold_pack _ _ (by rw [length_allBits, he]; omega), hp, length_allBits, he]
  unfold more
  rw [BitVec.not_not, not_eq_xor (raw _ _), ← BitVec.xor_assoc, BitVec.xor_self, BitVec.zero_xor]
  decide

/-! ### a linear map by where each bit goes -/

def low (x : BitVec 32) (k : Nat) : BitVec 32 := BitVec.ofNat 32 (x.toNat % 2 ^ k)
theorem getLsbD_low (x : BitVec 32) (k i : Nat) : (low x k).getLsbD i = (decide (i < k) && x.getLsbD i) := by
  unfold low
  rw [BitVec.getLsbD_ofNat, Nat.testBit_mod_two_pow]
  by_cases h : i < 32
  · simp [h, BitVec.getLsbD]
  · rw [BitVec.getLsbD_of_ge x i (by omega)]; simp [h]

def one_ (k : Nat) : BitVec 32 := 1#32 <<< k
theorem getLsbD_one_ (k i : Nat) : (one_ k).getLsbD i = (decide (i < 32) && decide (i = k)) := by
  unfold one_
  rw [BitVec.getLsbD_shiftLeft]
  by_cases h : i < 32
  · by_cases hk : i < k
    · have : ¬ i = k := by omega
      simp [h, hk, this]
    · simp only [h, hk, decide_true, decide_false, Bool.not_false, Bool.true_and]
      by_cases e : i = k
      · subst e; simp
      · have : 1 ≤ i - k := by omega
        simp [e]
        rw [show i - k = (i - k - 1) + 1 by omega]
        simp
  · simp [h]

theorem low_succ (x : BitVec 32) (k : Nat) : low x (k + 1) = low x k ^^^ (if x.getLsbD k then one_ k else 0#32) := by
  apply BitVec.eq_of_getLsbD_eq
  intro i hi
  rw [BitVec.getLsbD_xor, getLsbD_low, getLsbD_low]
  by_cases hk : x.getLsbD k = true
  · rw [if_pos hk, getLsbD_one_]
    by_cases e : i = k
    · subst e; simp [hk, hi]
    · by_cases h : i < k
      · have : i < k + 1 := by omega
        simp [h, this, e]
      · have : ¬ i < k + 1 := by omega
        simp [h, this, e]
  · rw [if_neg hk]
    by_cases e : i = k
    · subst e; simp [hk]
    · have : (i < k + 1) ↔ (i < k) := by omega
      simp [this]

theorem low_zero (x : BitVec 32) : low x 0 = 0#32 := by unfold low; simp [Nat.mod_one]
theorem low_of (x : BitVec 32) (k : Nat) (h : x >>> k = 0#32) : low x k = x := by
  apply BitVec.eq_of_getLsbD_eq
  intro i hi
  rw [getLsbD_low]
  by_cases hk : i < k
  · simp [hk]
  · have := congrArg (fun y : BitVec 32 => y.getLsbD (i - k)) h
    simp only [BitVec.getLsbD_ushiftRight, BitVec.getLsbD_zero] at this
    rw [show k + (i - k) = i by omega] at this
    simp [hk, this]
theorem low_32 (x : BitVec 32) : low x 32 = x := low_of x 32 (by apply BitVec.eq_of_getLsbD_eq; intro i _; simp [BitVec.getLsbD_of_ge])

def Lin (L : BitVec 32 → BitVec 32) : Prop := ∀ x y, L (x ^^^ y) = L x ^^^ L y
theorem Lin.zero {L : BitVec 32 → BitVec 32} (h : Lin L) : L 0#32 = 0#32 := by
  have := h 0#32 0#32
  rw [BitVec.xor_self] at this
  have e := congrArg (· ^^^ L 0#32) this
  have e' : 0#32 = L 0#32 := by simpa [BitVec.xor_assoc] using e
  exact e'.symm
theorem lin_steps (n : Nat) : Lin (steps n) := steps_xor n

/-- What stands after k rounds of the loop that adds up where the bits go. -/
def ofTo (m : Nat → BitVec 32) (x : BitVec 32) : Nat → BitVec 32
  | 0 => 0#32
  | k + 1 => ofTo m x k ^^^ (if x.getLsbD k then m k else 0#32)
theorem ofTo_lin {L : BitVec 32 → BitVec 32} (h : Lin L) (m : Nat → BitVec 32) (x : BitVec 32) : ∀ k, (∀ i, i < k → m i = L (one_ i)) → ofTo m x k = L (low x k)
  | 0, _ => by rw [low_zero, h.zero]; rfl
  | k + 1, hm => by
    rw [ofTo, ofTo_lin h m x k (fun i hi => hm i (by omega)), low_succ, h, hm k (by omega)]
    congr 1
    split
    · rfl
    · exact h.zero.symm

/-- Linear maps that agree on every bit agree. -/
theorem lin_ext {L M : BitVec 32 → BitVec 32} (hL : Lin L) (hM : Lin M) (h : ∀ i, i < 32 → L (one_ i) = M (one_ i)) (x : BitVec 32) : L x = M x := by
  have e1 := ofTo_lin hL (fun i => L (one_ i)) x 32 (fun _ _ => rfl)
  have e2 := ofTo_lin hM (fun i => L (one_ i)) x 32 h
  rw [low_32] at e1 e2
  exact e1.symm.trans e2

/-! ### as polynomials -/

/-- The sum over the bits of b from the top one down: what stands after k rounds of the reference's product. -/
def timesTo (a b : BitVec 32) : Nat → BitVec 32
  | 0 => 0#32
  | k + 1 => timesTo a b k ^^^ (if b.getLsbD (31 - k) then steps k a else 0#32)
def times (a b : BitVec 32) : BitVec 32 := timesTo a b 32

theorem timesTo_xor_left (b : BitVec 32) (x y : BitVec 32) : ∀ k, timesTo (x ^^^ y) b k = timesTo x b k ^^^ timesTo y b k
  | 0 => by simp [timesTo]
  | k + 1 => by
    rw [timesTo, timesTo, timesTo, timesTo_xor_left b x y k, steps_xor]
    split
    · ac_rfl
    · simp
theorem timesTo_xor_right (a : BitVec 32) (x y : BitVec 32) : ∀ k, timesTo a (x ^^^ y) k = timesTo a x k ^^^ timesTo a y k
  | 0 => by simp [timesTo]
  | k + 1 => by
    rw [timesTo, timesTo, timesTo, timesTo_xor_right a x y k, BitVec.getLsbD_xor]
    generalize timesTo a x k = p; generalize timesTo a y k = q; generalize steps k a = r
    cases x.getLsbD (31 - k) <;> cases y.getLsbD (31 - k) <;> simp
    · ac_rfl
    · ac_rfl
    · have : p ^^^ r ^^^ (q ^^^ r) = p ^^^ q ^^^ (r ^^^ r) := by ac_rfl
      rw [this, BitVec.xor_self, BitVec.xor_zero]
theorem timesTo_step_left (a b : BitVec 32) : ∀ k, timesTo (step a) b k = step (timesTo a b k)
  | 0 => by simp [timesTo, step_zero]
  | k + 1 => by
    rw [timesTo, timesTo, timesTo_step_left a b k, step_xor]
    congr 1
    split
    · rw [← steps_succ]; rfl
    · exact step_zero.symm

theorem one31 : ∀ i, i < 32 → one_ i = steps (31 - i) (one_ 31) := by
  have : ∀ j : Fin 32, one_ j.val = steps (31 - j.val) (one_ 31) := by decide +kernel
  exact fun i hi => this ⟨i, hi⟩

theorem times_steps_left (n : Nat) (a b : BitVec 32) : times (steps n a) b = steps n (times a b) := by
  induction n with
  | zero => rfl
  | succ n ih => rw [steps_succ, steps_succ, ← ih]; exact timesTo_step_left _ _ _

theorem times_poly (a : BitVec 32) : times a poly = steps 32 a := by
  refine lin_ext (L := fun a => times a poly) (M := steps 32) (fun x y => timesTo_xor_left _ _ _ _) (lin_steps 32) (fun i hi => ?_) a
  show times (one_ i) poly = steps 32 (one_ i)
  have h31 : times (one_ 31) poly = steps 32 (one_ 31) := by decide +kernel
  rw [one31 i hi, times_steps_left, h31, ← steps_add, ← steps_add, Nat.add_comm]

theorem timesTo_shift (a b : BitVec 32) : ∀ k, k ≤ 31 → timesTo a (b >>> 1) (k + 1) = step (timesTo a b k)
  | 0, _ => by
    rw [timesTo, timesTo, timesTo, BitVec.getLsbD_ushiftRight, BitVec.getLsbD_of_ge _ _ (by omega), step_zero]; simp
  | k + 1, h => by
    rw [timesTo, timesTo_shift a b k (by omega), timesTo, step_xor, BitVec.getLsbD_ushiftRight, show 1 + (31 - (k + 1)) = 31 - k by omega]
    congr 1
    split
    · rw [steps_succ]
    · exact step_zero.symm

theorem times_step_right (a b : BitVec 32) : times a (step b) = step (times a b) := by
  have e : step b = (b >>> 1) ^^^ (if b.getLsbD 0 then poly else 0#32) := rfl
  rw [e]
  unfold times
  have e2 : timesTo a b 32 = timesTo a b 31 ^^^ (if b.getLsbD 0 then steps 31 a else 0#32) := rfl
  rw [timesTo_xor_right, timesTo_shift a b 31 (Nat.le_refl _), e2, step_xor]
  congr 1
  split
  · rw [← steps_succ]; exact times_poly a
  · rw [step_zero]
    have : ∀ k, timesTo a 0#32 k = 0#32 := fun k => by induction k with
      | zero => rfl
      | succ k ih => rw [timesTo, ih]; simp
    exact this _

theorem times_one (a : BitVec 32) : times a (one_ 31) = a := by
  have h : ∀ k, timesTo a (one_ 31) (k + 1) = a := fun k => by
    induction k with
    | zero => simp [timesTo, getLsbD_one_, steps]
    | succ k ih =>
      rw [timesTo, ih, getLsbD_one_]
      have : decide (31 - (k + 1) = 31) = false := decide_eq_false (by omega)
      rw [this, Bool.and_false, if_neg (by decide), BitVec.xor_zero]
  exact h 31

theorem times_power (a : BitVec 32) (n : Nat) : times a (steps n (one_ 31)) = steps n a := by
  induction n with
  | zero => exact times_one a
  | succ n ih => rw [steps_succ, times_step_right, ih, ← steps_succ]

/-! ### numbers of the program -/
theorem lt32 (x : BitVec 32) : x.toNat < 4294967296 := x.isLt
/-- A number of 32 bits as an integer; a plain definition, so that no rule of arithmetic looks into it. -/
def num (x : BitVec 32) : Int := (x.toNat : Int)
theorem num_nonneg (x : BitVec 32) : 0 ≤ num x := Int.natCast_nonneg _
theorem num_lt (x : BitVec 32) : num x < 4294967296 := by have := lt32 x; unfold num; omega
theorem num_inj {x y : BitVec 32} (h : num x = num y) : x = y := by
  unfold num at h
  exact BitVec.eq_of_toNat_eq (by omega)
theorem num_eq (x y : BitVec 32) : num x = num y ↔ x = y := ⟨num_inj, fun h => by rw [h]⟩
/-- Any integer in range is one. -/
theorem num_of (n : Int) (h0 : 0 ≤ n) (h1 : n < 4294967296) : ∃ x : BitVec 32, n = num x :=
  ⟨BitVec.ofNat 32 n.toNat, by unfold num; rw [BitVec.toNat_ofNat, Nat.mod_eq_of_lt (by omega)]; omega⟩
theorem bits_xor (x y : BitVec 32) : bits .xor .u32 (num x) (num y) = num (x ^^^ y) := by
  unfold num
  rw [u32_xor_nat _ _ (lt32 x) (lt32 y), BitVec.toNat_xor]
theorem wide_nat (b : UInt8) : (wide b).toNat = b.toNat := by
  have : b.toNat < 256 := b.toNat_lt
  simp [wide]
theorem num_wide (b : UInt8) : num (wide b) = (b.toNat : Int) := by unfold num; rw [wide_nat]
theorem bits_xor_byte (x : BitVec 32) (b : UInt8) : bits .xor .u32 (num x) (b.toNat : Int) = num (x ^^^ wide b) := by
  rw [← num_wide b]; exact bits_xor _ _
theorem bits_and_lit (x : BitVec 32) (n : Nat) (h : n < 4294967296) : bits .and .u32 (num x) ((n : Nat) : Int) = num (x &&& BitVec.ofNat 32 n) := by
  unfold num
  rw [u32_and_nat _ _ (lt32 x) h, BitVec.toNat_and, BitVec.toNat_ofNat, Nat.mod_eq_of_lt h]
theorem bits_and15 (x : BitVec 32) : bits .and .u32 (num x) 15 = num (x &&& 15#32) := bits_and_lit x 15 (by decide)
theorem bits_and1 (x : BitVec 32) : bits .and .u32 (num x) 1 = num (x &&& 1#32) := bits_and_lit x 1 (by decide)
theorem shr4 (x : BitVec 32) : num x / (16 : Int) = num (x >>> 4) := by
  unfold num
  rw [BitVec.toNat_ushiftRight, Nat.shiftRight_eq_div_pow]; rfl
theorem shr1 (x : BitVec 32) : num x / (2 : Int) = num (x >>> 1) := by
  unfold num
  rw [BitVec.toNat_ushiftRight, Nat.shiftRight_eq_div_pow]; rfl
theorem bits_xor_shr4 (y x : BitVec 32) : bits .xor .u32 (num y) (num x / (16 : Int)) = num (y ^^^ (x >>> 4)) := by rw [shr4, bits_xor]
theorem bits_poly_shr1 (x : BitVec 32) : bits .xor .u32 (num x / (2 : Int)) 2197175160 = num ((x >>> 1) ^^^ poly) := by
  rw [shr1]; exact bits_xor (x >>> 1) poly
theorem num_mod (x : BitVec 32) : num x % (4294967296 : Int) = num x := by
  have := num_lt x; have := num_nonneg x; omega
theorem turned (x : BitVec 32) : (4294967295 : Int) - num x = num (~~~x) := by
  have := lt32 x
  unfold num
  rw [BitVec.toNat_not]; omega
theorem bits_not (x : BitVec 32) : bits .xor .u32 4294967295 (num x) = num (~~~x) := by
  rw [show (4294967295 : Int) = num 4294967295#32 from rfl, bits_xor, BitVec.xor_comm, ← not_eq_xor]
theorem bits_not_max (x : BitVec 32) : bits .xor .u32 IntKind.u32.max (num x) = num (~~~x) := bits_not x
theorem more_nil : num (more 0#32 []) = 0 := by decide
theorem odd_iff (x : BitVec 32) : num x % (2 : Int) = 1 ↔ x.getLsbD 0 = true := by
  have : x.getLsbD 0 = x.toNat.testBit 0 := rfl
  unfold num
  rw [this, Nat.testBit_zero, decide_eq_true_iff]; omega
theorem and1_iff (x : BitVec 32) : num (x &&& 1#32) = 1 ↔ x.getLsbD 0 = true := by
  rw [← odd_iff]
  unfold num
  rw [BitVec.toNat_and, show (1#32).toNat = 1 from rfl, nat_mask1]
  omega
theorem and1_lt (x : BitVec 32) : num (x &&& 1#32) < 2 := by
  unfold num
  rw [BitVec.toNat_and, show (1#32).toNat = 1 from rfl, nat_mask1]; omega
theorem num_one (k : Nat) : (2 : Int) ^ k % (4294967296 : Int) = num (one_ k) := by
  unfold num one_
  rw [BitVec.toNat_shiftLeft, Nat.shiftLeft_eq, show (1#32).toNat = 1 from rfl, Nat.one_mul]
  have : ((2 ^ k : Nat) : Int) = (2 : Int) ^ k := by rw [Int.natCast_pow]; rfl
  rw [← this]; rfl
theorem step_odd (x : BitVec 32) (h : num x % (2 : Int) = 1) : step x = (x >>> 1) ^^^ poly := by
  unfold step; rw [if_pos ((odd_iff x).1 h)]
theorem step_even (x : BitVec 32) (h : ¬ num x % (2 : Int) = 1) : step x = x >>> 1 := by
  unfold step; rw [if_neg (fun e => h ((odd_iff x).2 e))]; simp
theorem bits_xor_poly (x : BitVec 32) : bits .xor .u32 (num x) 2197175160 = num (x ^^^ poly) := bits_xor x poly
theorem top_iff (x : BitVec 32) : 2147483648 ≤ num x ↔ x.getLsbD 31 = true := by
  have e : x.getLsbD 31 = x.toNat.testBit 31 := rfl
  have := lt32 x
  unfold num
  rw [e, Nat.testBit_eq_decide_div_mod_eq]; simp; omega
theorem top_dec (x : BitVec 32) : decide (2147483648 ≤ num x) = x.getLsbD 31 := by
  by_cases h : x.getLsbD 31 = true
  · rw [h]; exact decide_eq_true ((top_iff x).2 h)
  · rw [Bool.not_eq_true] at h
    rw [h]; exact decide_eq_false (fun e => by rw [(top_iff x).1 e] at h; cases h)
theorem shl1 (x : BitVec 32) : (2 : Int) * (num x % (2147483648 : Int)) = num (x <<< 1) := by
  have := lt32 x
  unfold num
  rw [BitVec.toNat_shiftLeft, Nat.shiftLeft_eq]; omega
theorem shl1' (x : BitVec 32) (h : num x < 2147483648) : (2 : Int) * num x = num (x <<< 1) := by
  have e := shl1 x
  have h0 := num_nonneg x
  omega
theorem eight_two (x : BitVec 32) : steps 4 (steps 4 x &&& 15#32) ^^^ (steps 4 x) >>> 4 = eight x := by
  rw [← steps_four, ← steps_add]; rfl
theorem and15_lt (x : BitVec 32) : num (x &&& 15#32) < 16 := by
  unfold num
  rw [BitVec.toNat_and, show (15#32).toNat = 15 from rfl, nat_mask4]; omega
def fours : List Int := [0x00000000, 0x105ec76f, 0x20bd8ede, 0x30e349b1, 0x417b1dbc, 0x5125dad3, 0x61c69362, 0x7198540d, 0x82f63b78, 0x92a8fc17, 0xa24bb5a6, 0xb21572c9, 0xc38d26c4, 0xd3d3e1ab, 0xe330a81a, 0xf36e6f75]
theorem fours_at (i : Nat) (h : i < 16) : fours[i]? = some (num (steps 4 (BitVec.ofNat 32 i))) := by
  have : ∀ j : Fin 16, fours[j.val]? = some (num (steps 4 (BitVec.ofNat 32 j.val))) := by decide +kernel
  exact this ⟨i, h⟩
theorem fours_and (x : BitVec 32) : fours[(num (x &&& 15#32)).toNat]? = some (num (steps 4 (x &&& 15#32))) := by
  have h := and15_lt x
  have e : (num (x &&& 15#32)).toNat = (x &&& 15#32).toNat := by unfold num; omega
  have := fours_at (x &&& 15#32).toNat (by unfold num at h; omega)
  rw [e]
  rwa [BitVec.ofNat_toNat, BitVec.setWidth_eq] at this

/-! ### a sum's bytes -/
def byteAt (s : BitVec 32) (i : Nat) : UInt8 := UInt8.ofNat (s.toNat / 256 ^ i % 256)
def le4 (b0 b1 b2 b3 : UInt8) : Nat := b0.toNat + b1.toNat * 256 + b2.toNat * 65536 + b3.toNat * 16777216
theorem byteAt_nat (s : BitVec 32) (i : Nat) : (byteAt s i).toNat = s.toNat / 256 ^ i % 256 := by
  unfold byteAt; simp
theorem le4_byteAt (s : BitVec 32) : le4 (byteAt s 0) (byteAt s 1) (byteAt s 2) (byteAt s 3) = s.toNat := by
  have := s.isLt
  unfold le4
  simp only [byteAt_nat]
  omega
theorem le4_lt (b0 b1 b2 b3 : UInt8) : le4 b0 b1 b2 b3 < 4294967296 := by
  have := b0.toNat_lt; have := b1.toNat_lt; have := b2.toNat_lt; have := b3.toNat_lt
  unfold le4; omega
theorem byteAt_le4 (b0 b1 b2 b3 : UInt8) : byteAt (BitVec.ofNat 32 (le4 b0 b1 b2 b3)) 0 = b0 ∧ byteAt (BitVec.ofNat 32 (le4 b0 b1 b2 b3)) 1 = b1 ∧ byteAt (BitVec.ofNat 32 (le4 b0 b1 b2 b3)) 2 = b2 ∧ byteAt (BitVec.ofNat 32 (le4 b0 b1 b2 b3)) 3 = b3 := by
  have h := le4_lt b0 b1 b2 b3
  have := b0.toNat_lt; have := b1.toNat_lt; have := b2.toNat_lt; have := b3.toNat_lt
  refine ⟨?_, ?_, ?_, ?_⟩ <;> (apply UInt8.toNat_inj.1; rw [byteAt_nat, BitVec.toNat_ofNat, Nat.mod_eq_of_lt h]; unfold le4; omega)
def bytes4 (s : BitVec 32) : List UInt8 := [byteAt s 0, byteAt s 1, byteAt s 2, byteAt s 3]
theorem pack_bytes4 (s : BitVec 32) : pack (allBits (bytes4 s)) = s := by
  apply BitVec.eq_of_getLsbD_eq
  intro i hi
  rw [getLsbD_pack]
  have hd : i = 8 * (i / 8) + i % 8 := by omega
  have hk : i % 8 < 8 := Nat.mod_lt _ (by omega)
  have hq : i / 8 < 4 := by omega
  have hg := allBits_get (bytes4 s) (i / 8) (i % 8) hk
  rw [← hd] at hg
  rw [List.getD_eq_getElem?_getD, hg]
  simp only [hi, decide_true, Bool.true_and]
  have hb : (bytes4 s)[i / 8]? = some (byteAt s (i / 8)) := by
    generalize i / 8 = q at hq
    match q, hq with
    | 0, _ => rfl
    | 1, _ => rfl
    | 2, _ => rfl
    | 3, _ => rfl
  rw [hb]
  simp only [Option.map_some, Option.getD_some]
  have e : (byteAt s (i / 8)).toBitVec.getLsbD (i % 8) = (byteAt s (i / 8)).toNat.testBit (i % 8) := rfl
  have e2 : s.getLsbD i = s.toNat.testBit i := rfl
  rw [e, e2, byteAt_nat, show (256 : Nat) = 2 ^ 8 from rfl, ← Nat.pow_mul, Nat.testBit_mod_two_pow, Nat.testBit_div_two_pow]
  simp only [hk, decide_true, Bool.true_and]
  congr 1
  omega
theorem or4 (b0 b1 b2 b3 : UInt8) : (b0.toNat ||| b1.toNat * 256 ||| b2.toNat * 65536 ||| b3.toNat * 16777216) = le4 b0 b1 b2 b3 := by
  have h0 := b0.toNat_lt; have h1 := b1.toNat_lt; have h2 := b2.toNat_lt; have h3 := b3.toNat_lt
  have j : ∀ (i x y : Nat), y < 2 ^ i → y ||| x * 2 ^ i = y + x * 2 ^ i := fun i x y hy => by
    rw [Nat.or_comm, Nat.mul_comm x, ← Nat.two_pow_add_eq_or_of_lt hy, Nat.add_comm]
  unfold le4
  rw [show (256 : Nat) = 2 ^ 8 from rfl, j 8 _ _ (by omega), show (65536 : Nat) = 2 ^ 16 from rfl, j 16 _ _ (by omega), show (16777216 : Nat) = 2 ^ 24 from rfl, j 24 _ _ (by omega)]
theorem u32_or4 (b0 b1 b2 b3 : UInt8) : bits .or .u32 (bits .or .u32 (bits .or .u32 (b0.toNat : Int) ((b1.toNat : Int) * 256)) ((b2.toNat : Int) * 65536)) ((b3.toNat : Int) * 16777216) = num (BitVec.ofNat 32 (le4 b0 b1 b2 b3)) := by
  have h0 := b0.toNat_lt; have h1 := b1.toNat_lt; have h2 := b2.toNat_lt; have h3 := b3.toNat_lt
  have e1 : (b1.toNat : Int) * 256 = ((b1.toNat * 256 : Nat) : Int) := by omega
  have e2 : (b2.toNat : Int) * 65536 = ((b2.toNat * 65536 : Nat) : Int) := by omega
  have e3 : (b3.toNat : Int) * 16777216 = ((b3.toNat * 16777216 : Nat) : Int) := by omega
  have l1 : b0.toNat ||| b1.toNat * 256 < 4294967296 := Nat.or_lt_two_pow (n := 32) (by omega) (by omega)
  have l2 : b0.toNat ||| b1.toNat * 256 ||| b2.toNat * 65536 < 4294967296 := Nat.or_lt_two_pow (n := 32) l1 (by omega)
  rw [e1, e2, e3, u32_or_nat _ _ (by omega) (by omega), u32_or_nat _ _ l1 (by omega), u32_or_nat _ _ l2 (by omega), or4]
  unfold num
  rw [BitVec.toNat_ofNat, Nat.mod_eq_of_lt (le4_lt b0 b1 b2 b3)]
theorem num_byte (s : BitVec 32) (i : Nat) : ((byteAt s i).toNat : Int) = ((s.toNat / 256 ^ i % 256 : Nat) : Int) := by rw [byteAt_nat]
theorem num_byte0 (s : BitVec 32) : num s % (256 : Int) = ((byteAt s 0).toNat : Int) := by rw [num_byte]; unfold num; simp
theorem num_byte1 (s : BitVec 32) : num s / (256 : Int) % (256 : Int) = ((byteAt s 1).toNat : Int) := by rw [num_byte]; unfold num; simp
theorem num_byte2 (s : BitVec 32) : num s / (65536 : Int) % (256 : Int) = ((byteAt s 2).toNat : Int) := by rw [num_byte]; unfold num; simp
theorem num_byte3 (s : BitVec 32) : num s / (16777216 : Int) % (256 : Int) = ((byteAt s 3).toNat : Int) := by rw [num_byte]; unfold num; simp
theorem num_byte3' (s : BitVec 32) : num s / (16777216 : Int) = ((byteAt s 3).toNat : Int) := by
  have := num_byte3 s; have := num_lt s; have := num_nonneg s; omega
end Go.Crc
