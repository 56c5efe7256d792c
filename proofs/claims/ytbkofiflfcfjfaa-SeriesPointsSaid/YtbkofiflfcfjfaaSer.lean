/- Floats whose NaN patterns are left open: two reckonings of the same kind give the same, or both a NaN. No program in sight. -/
import Derived.Laws.FloatArith
import GoSem.Extern.MathSqrt
set_option linter.unusedSimpArgs false
set_option linter.unusedVariables false
namespace Go.Ser
open Ieee

/-- A NaN. -/
def nanP (x : Nat) : Prop := (double.read x).isNaN = true
/-- The same, or both a NaN. -/
def Fq (x y : Nat) : Prop := x = y ∨ (nanP x ∧ nanP y)
theorem Fq.refl (x : Nat) : Fq x x := .inl rfl
theorem Fq.symm {x y : Nat} (h : Fq x y) : Fq y x := h.elim (fun e => .inl e.symm) fun h => .inr ⟨h.2, h.1⟩
theorem Fq.trans {x y z : Nat} (h : Fq x y) (g : Fq y z) : Fq x z := by
  rcases h with rfl | ⟨h1, h2⟩
  · exact g
  · rcases g with rfl | ⟨g1, g2⟩
    · exact .inr ⟨h1, h2⟩
    · exact .inr ⟨h1, g2⟩

/-- What an operation gives: its number, or some NaN. -/
def Res (op : BinOp) (x y r : Nat) : Prop := floatBits op .f64 x y = some r ∨ (floatBits op .f64 x y = none ∧ nanP r)

theorem sum_nan_left (b : Bool) (f : Nat) (d : Datum) : Datum.sum (.nan b f) d = none := by cases d <;> rfl
theorem sum_nan_right (b : Bool) (f : Nat) (d : Datum) : Datum.sum d (.nan b f) = none := by cases d <;> rfl
theorem prod_nan_left (b : Bool) (f : Nat) (d : Datum) : Datum.product (.nan b f) d = none := by cases d <;> rfl
theorem prod_nan_right (b : Bool) (f : Nat) (d : Datum) : Datum.product d (.nan b f) = none := by cases d <;> rfl
theorem quo_nan_left (n : Nat) (b : Bool) (f : Nat) (d : Datum) : Datum.quotient n (.nan b f) d = none := by cases d <;> rfl
theorem quo_nan_right (n : Nat) (b : Bool) (f : Nat) (d : Datum) : Datum.quotient n d (.nan b f) = none := by cases d <;> rfl
theorem nan_form {d : Datum} (h : d.isNaN = true) : ∃ s f, d = .nan s f := by
  cases d with
  | number => cases h
  | infinity => cases h
  | nan s f => exact ⟨s, f, rfl⟩
theorem opp_nan (b : Bool) (f : Nat) : ∃ c, Datum.opposite (.nan b f) = .nan c f := ⟨_, rfl⟩

theorem bits_nan_left {op : BinOp} {x y : Nat} (h : nanP x) : floatBits op .f64 x y = none := by
  obtain ⟨s, f, e⟩ := nan_form h
  cases op with
  | add => show (Datum.sum (double.read x) _).map _ = none; rw [e, sum_nan_left]; rfl
  | sub => show (Datum.sum (double.read x) _).map _ = none; rw [e, sum_nan_left]; rfl
  | mul => show (Datum.product (double.read x) _).map _ = none; rw [e, prod_nan_left]; rfl
  | quo => show (Datum.quotient _ (double.read x) _).map _ = none; rw [e, quo_nan_left]; rfl
  | _ => rfl
theorem bits_nan_right {op : BinOp} {x y : Nat} (h : nanP y) : floatBits op .f64 x y = none := by
  obtain ⟨s, f, e⟩ := nan_form h
  obtain ⟨c, e2⟩ := opp_nan s f
  cases op with
  | add => show (Datum.sum _ (double.read y)).map _ = none; rw [e, sum_nan_right]; rfl
  | sub => show (Datum.sum _ (double.read y).opposite).map _ = none; rw [e, e2, sum_nan_right]; rfl
  | mul => show (Datum.product _ (double.read y)).map _ = none; rw [e, prod_nan_right]; rfl
  | quo => show (Datum.quotient _ _ (double.read y)).map _ = none; rw [e, quo_nan_right]; rfl
  | _ => rfl

theorem Res.congr {op : BinOp} {x y x' y' r r' : Nat} (h : Res op x y r) (h' : Res op x' y' r') (hx : Fq x x') (hy : Fq y y') : Fq r r' := by
  have key : ∀ {x y r : Nat}, Res op x y r → (nanP x ∨ nanP y) → nanP r := by
    rintro x y r (h | h) hn
    · rcases hn with hn | hn
      · rw [bits_nan_left hn] at h; cases h
      · rw [bits_nan_right hn] at h; cases h
    · exact h.2
  rcases hx with rfl | ⟨n1, n2⟩
  · rcases hy with rfl | ⟨m1, m2⟩
    · rcases h with h | ⟨h, hn⟩
      · rcases h' with h' | ⟨h', _⟩
        · rw [h] at h'; exact .inl (Option.some.inj h')
        · rw [h] at h'; cases h'
      · rcases h' with h' | ⟨_, hn'⟩
        · rw [h] at h'; cases h'
        · exact .inr ⟨hn, hn'⟩
    · exact .inr ⟨key h (.inr m1), key h' (.inr m2)⟩
  · exact .inr ⟨key h (.inl n1), key h' (.inl n2)⟩

theorem isnan_read (x : Nat) (f : Format) (h1 : ¬ x % f.signWeight < f.binade) (h2 : ¬ x % f.signWeight < f.infRung) (h3 : ¬ x % f.signWeight = f.infRung) : (f.read x).isNaN = true := by
  unfold Format.read
  dsimp only
  rw [if_neg h1, if_neg h2, if_neg h3]
  rfl
theorem nan_tape (t : Nat) : nanP ((t % 2) * 2 ^ 63 + 0x7ff0000000000000 + 1 + (t / 2) % (2 ^ 52 - 1)) := by
  unfold nanP
  have h1 : double.signWeight = 9223372036854775808 := by decide
  have h2 : double.binade = 4503599627370496 := by decide
  have h3 : double.infRung = 9218868437227405312 := by decide
  have b : (t / 2) % (2 ^ 52 - 1) < 4503599627370495 := Nat.mod_lt _ (by decide)
  generalize (t / 2) % (2 ^ 52 - 1) = k at b
  have b2 : t % 2 < 2 := Nat.mod_lt _ (by decide)
  generalize t % 2 = j at b2
  have e : (j * 2 ^ 63 + 0x7ff0000000000000 + 1 + k) % 9223372036854775808 = 9218868437227405313 + k := by omega
  refine isnan_read _ _ ?_ ?_ ?_
  · rw [h1, e, h2]; omega
  · rw [h1, e, h3]; omega
  · rw [h1, e, h3]; omega

theorem run_choose {P : Program} (w : World) (q : Question) (h : q.forced = false) : (Sem.run P (Sem.choose q Sem.pure) w) = .ok (q.cut (w.tape w.drawn q)) w.drew := by
  rw [Sem.run, h]
  rfl
theorem nan_cut (x y t : Nat) : nanP ((Question.nanBits .f64 x y).cut t) := nan_tape t

/-- An operation runs, whatever its numbers are. -/
theorem run_any {P : Program} (w : World) (op : BinOp) (ho : op = .add ∨ op = .sub ∨ op = .mul ∨ op = .quo) (t : TypeId) (x y : Nat) :
    ∃ r w', (binOp op t (.float .f64 x) (.float .f64 y)).run P w = .ok (.float .f64 r) w' ∧ Res op x y r ∧ (w' = w ∨ w' = w.drew) := by
  cases h : floatBits op .f64 x y with
  | some r => exact ⟨r, w, run_float_arith w op t .f64 x y r h, .inl h, .inl rfl⟩
  | none =>
    have hn := nan_cut x y (w.tape w.drawn (.nanBits .f64 x y))
    have hr := run_choose (P := P) w (.nanBits .f64 x y) rfl
    generalize (Question.nanBits .f64 x y).cut (w.tape w.drawn (.nanBits .f64 x y)) = r at hn hr
    refine ⟨r, w.drew, ?_, .inr ⟨h, hn⟩, .inr rfl⟩
    unfold floatBits at h
    rcases ho with rfl | rfl | rfl | rfl <;> simp only at h <;> simp [binOp, Op.floatArith, h, choose, hr]

/-- What a root gives. -/
def Root (x r : Nat) : Prop := FloatKind.f64.format.sqrt x = some r ∨ (FloatKind.f64.format.sqrt x = none ∧ nanP r)
theorem sqrt_nan {x : Nat} (h : nanP x) : FloatKind.f64.format.sqrt x = none := by
  obtain ⟨s, f, e⟩ := nan_form h
  show (Datum.root _ (double.read x)).map _ = none
  rw [e]
  rfl
theorem Root.congr {x x' r r' : Nat} (h : Root x r) (h' : Root x' r') (hx : Fq x x') : Fq r r' := by
  have key : ∀ {x r : Nat}, Root x r → nanP x → nanP r := by
    rintro x r (h | h) hn
    · rw [sqrt_nan hn] at h; cases h
    · exact h.2
  rcases hx with rfl | ⟨n1, n2⟩
  · rcases h with h | ⟨h, hn⟩
    · rcases h' with h' | ⟨h', _⟩
      · rw [h] at h'; exact .inl (Option.some.inj h')
      · rw [h] at h'; cases h'
    · rcases h' with h' | ⟨_, hn'⟩
      · rw [h] at h'; cases h'
      · exact .inr ⟨hn, hn'⟩
  · exact .inr ⟨key h n1, key h' n2⟩
theorem sqrt_eq (x : Nat) : Extern.MathSqrt.sqrt #[.float .f64 x] = (match FloatKind.f64.format.sqrt x with | some r => pure (.float .f64 r) | none => do pure (.float .f64 (← choose (.nanBits .f64 x x)))) := rfl
theorem run_sqrt {P : Program} (w : World) (x : Nat) : ∃ r w', (Extern.MathSqrt.sqrt #[.float .f64 x]).run P w = .ok (.float .f64 r) w' ∧ Root x r ∧ (w' = w ∨ w' = w.drew) := by
  cases h : FloatKind.f64.format.sqrt x with
  | some r => exact ⟨r, w, by rw [sqrt_eq, h]; simp, .inl h, .inl rfl⟩
  | none =>
    have hn := nan_cut x x (w.tape w.drawn (.nanBits .f64 x x))
    have hr := run_choose (P := P) w (.nanBits .f64 x x) rfl
    generalize (Question.nanBits .f64 x x).cut (w.tape w.drawn (.nanBits .f64 x x)) = r at hn hr
    exact ⟨r, w.drew, by rw [sqrt_eq, h]; simp [choose, hr], .inr ⟨h, hn⟩, .inr rfl⟩
end Go.Ser
