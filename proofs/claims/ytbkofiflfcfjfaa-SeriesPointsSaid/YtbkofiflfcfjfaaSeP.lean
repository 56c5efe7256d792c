/- Series: the closed sentence. -/
import Derived.Test.YtbkofiflfcfjfaaSeN
set_option linter.unusedSimpArgs false
set_option linter.unusedVariables false
namespace Go.Ser
theorem Res.eq {op : Go.BinOp} {x y r c : Nat} (h : Res op x y r) (e : floatBits op .f64 x y = some c) : r = c := by
  rcases h with h | ⟨h, _⟩
  · rw [e] at h; exact (Option.some.inj h).symm
  · rw [e] at h; cases h
-- 0: 0, 1: 4607182418800017408, 2: 4611686018427387904, 3: 4613937818241073152, 4: 4616189618054758400, 5: 4617315517961601024
theorem known_mean {r : Nat} (h : MeanR [4607182418800017408, 4613937818241073152] r) : r = 4611686018427387904 := by
  obtain ⟨s, ⟨t, h1, u, h2, rfl⟩, h3⟩ := h
  obtain rfl := h1.eq (c := 4607182418800017408) (by decide +kernel)
  obtain rfl := h2.eq (c := 4616189618054758400) (by decide +kernel)
  exact h3.eq (by decide +kernel)
theorem three_sum {x y z a b c r : Nat} (h : SumR 0 [x, y, z] r) (e1 : floatBits .add .f64 0 x = some a) (e2 : floatBits .add .f64 a y = some b) (e3 : floatBits .add .f64 b z = some c) : r = c := by
  obtain ⟨t, h1, u, h2, v, h3, rfl⟩ := h
  obtain rfl := h1.eq e1
  obtain rfl := h2.eq e2
  exact h3.eq e3
theorem OneR.eq {m n x y p d e c : Nat} (h : OneR m n x y p) (e1 : floatBits .sub .f64 x m = some d) (e2 : floatBits .sub .f64 y n = some e) (e3 : floatBits .mul .f64 d e = some c) : p = c := by
  obtain ⟨d', e', h1, h2, h3⟩ := h
  obtain rfl := h1.eq e1
  obtain rfl := h2.eq e2
  exact h3.eq e3
theorem known_line {sl st mn sp : Nat} (h : LineR [0, 4607182418800017408, 4611686018427387904] [4607182418800017408, 4613937818241073152, 4617315517961601024] sl st mn sp) :
    sl = 4611686018427387904 ∧ st = 4607182418800017408 ∧ mn = 4613937818241073152 := by
  obtain ⟨a, p, q, x, ⟨s1, h1, h1'⟩, ⟨s2, h2, h2'⟩, ⟨ps, lp, hp, hp'⟩, ⟨qs, lq, hq, hq'⟩, h5, h6, h7, _⟩ := h
  obtain rfl := three_sum (a := 0) (b := 4607182418800017408) (c := 4613937818241073152) h1 (by decide +kernel) (by decide +kernel) (by decide +kernel)
  obtain rfl := three_sum (a := 4607182418800017408) (b := 4616189618054758400) (c := 4621256167635550208) h2 (by decide +kernel) (by decide +kernel) (by decide +kernel)
  obtain rfl := h1'.eq (c := 4607182418800017408) (by decide +kernel)
  obtain rfl := h2'.eq (c := 4613937818241073152) (by decide +kernel)
  match ps, lp, hp, hp' with
  | [p0, p1, p2], _, hp, hp' =>
    match qs, lq, hq, hq' with
    | [q0, q1, q2], _, hq, hq' =>
      obtain rfl := (hp.2.2 0 _ _ _ rfl rfl rfl).eq (d := 13830554455654793216) (e := 13830554455654793216) (c := 4607182418800017408) (by decide +kernel) (by decide +kernel) (by decide +kernel)
      obtain rfl := (hp.2.2 1 _ _ _ rfl rfl rfl).eq (d := 0) (e := 0) (c := 0) (by decide +kernel) (by decide +kernel) (by decide +kernel)
      obtain rfl := (hp.2.2 2 _ _ _ rfl rfl rfl).eq (d := 4607182418800017408) (e := 4607182418800017408) (c := 4607182418800017408) (by decide +kernel) (by decide +kernel) (by decide +kernel)
      obtain rfl := (hq.2.2 0 _ _ _ rfl rfl rfl).eq (d := 13830554455654793216) (e := 13835058055282163712) (c := 4611686018427387904) (by decide +kernel) (by decide +kernel) (by decide +kernel)
      obtain rfl := (hq.2.2 1 _ _ _ rfl rfl rfl).eq (d := 0) (e := 0) (c := 0) (by decide +kernel) (by decide +kernel) (by decide +kernel)
      obtain rfl := (hq.2.2 2 _ _ _ rfl rfl rfl).eq (d := 4607182418800017408) (e := 4611686018427387904) (c := 4611686018427387904) (by decide +kernel) (by decide +kernel) (by decide +kernel)
      obtain rfl := three_sum (a := 4607182418800017408) (b := 4607182418800017408) (c := 4611686018427387904) hp' (by decide +kernel) (by decide +kernel) (by decide +kernel)
      obtain rfl := three_sum (a := 4611686018427387904) (b := 4611686018427387904) (c := 4616189618054758400) hq' (by decide +kernel) (by decide +kernel) (by decide +kernel)
      unfold SlopeR at h5
      rw [if_neg (by decide +kernel)] at h5
      obtain rfl := h5.eq (c := 4611686018427387904) (by decide +kernel)
      obtain rfl := h6.eq (c := 4611686018427387904) (by decide +kernel)
      exact ⟨rfl, h7.eq (by decide +kernel), rfl⟩
theorem TnR.eq {x y u v z u' v' a b c d re e f : Nat} (h : TnR x y u v z u' v') (h1 : floatBits .mul .f64 u x = some a) (h2 : floatBits .mul .f64 v y = some b) (h3 : floatBits .mul .f64 u y = some c) (h4 : floatBits .mul .f64 v x = some d)
    (h5 : floatBits .sub .f64 a b = some re) (h6 : floatBits .add .f64 re z = some e) (h7 : floatBits .add .f64 c d = some f) : u' = e ∧ v' = f := by
  obtain ⟨a', b', c', d', re', k1, k2, k3, k4, k5, k6, k7⟩ := h
  obtain rfl := k1.eq h1
  obtain rfl := k2.eq h2
  obtain rfl := k3.eq h3
  obtain rfl := k4.eq h4
  obtain rfl := k5.eq h5
  exact ⟨k6.eq h6, k7.eq h7⟩
def tnF (x y u v z : Nat) : Option (Nat × Nat) := do
  let a ← floatBits .mul .f64 u x
  let b ← floatBits .mul .f64 v y
  let c ← floatBits .mul .f64 u y
  let d ← floatBits .mul .f64 v x
  let re ← floatBits .sub .f64 a b
  let e ← floatBits .add .f64 re z
  let f ← floatBits .add .f64 c d
  pure (e, f)
theorem TnR.of {x y u v z u' v' : Nat} {r : Nat × Nat} (h : TnR x y u v z u' v') (e : tnF x y u v z = some r) : u' = r.1 ∧ v' = r.2 := by
  unfold tnF at e
  cases h1 : floatBits .mul .f64 u x with
  | none => simp [h1] at e
  | some a =>
  cases h2 : floatBits .mul .f64 v y with
  | none => simp [h1, h2] at e
  | some b =>
  cases h3 : floatBits .mul .f64 u y with
  | none => simp [h1, h2, h3] at e
  | some c =>
  cases h4 : floatBits .mul .f64 v x with
  | none => simp [h1, h2, h3, h4] at e
  | some d =>
  cases h5 : floatBits .sub .f64 a b with
  | none => simp [h1, h2, h3, h4, h5] at e
  | some re =>
  cases h6 : floatBits .add .f64 re z with
  | none => simp [h1, h2, h3, h4, h5, h6] at e
  | some s =>
  cases h7 : floatBits .add .f64 c d with
  | none => simp [h1, h2, h3, h4, h5, h6, h7] at e
  | some t =>
    simp [h1, h2, h3, h4, h5, h6, h7] at e
    subst e
    exact h.eq h1 h2 h3 h4 h5 h6 h7
def toneF (x y : Nat) : List Nat → Option (Nat × Nat)
  | [] => some (0, 0)
  | z :: l => (toneF x y l).bind fun p => tnF x y p.1 p.2 z
theorem ToneR.of {x y : Nat} : ∀ {l : List Nat} {u v : Nat} {r : Nat × Nat}, ToneR x y l u v → toneF x y l = some r → u = r.1 ∧ v = r.2
  | [], _, _, _, ⟨rfl, rfl⟩, e => by cases e; exact ⟨rfl, rfl⟩
  | z :: l, u, v, r, ⟨u0, v0, h, k⟩, e => by
    rw [toneF] at e
    obtain ⟨q, h1, h2⟩ := Option.bind_eq_some_iff.1 e
    obtain ⟨rfl, rfl⟩ := ToneR.of h h1
    exact k.of h2
theorem known_tone {u v : Nat} (h : ToneR 0 4607182418800017408 [4607182418800017408, 4611686018427387904, 4613937818241073152, 4616189618054758400] u v) : u = 13835058055282163712 ∧ v = 13835058055282163712 :=
  h.of (r := (13835058055282163712, 13835058055282163712)) (by decide +kernel)
end Go.Ser
