/- Which of two tallies comes first: cmp.Compare of two numbers. -/
import Derived.Test.YtkafcdgeboldgaaDoorTAdd
set_option linter.unusedSimpArgs false
set_option linter.unusedVariables false
namespace Go.Proofs.YtkafcdgeboldgaaDoor
open Go.RowKit Go.Kp

def cmpI (x y : Int) : Int := if x < y then -1 else if y < x then 1 else 0
theorem cmp_any (x y : Int) (w : World) : Calls Tryd.prog 32 #[.int .i64 x, .int .i64 y] w (Ret (.int .i64 (cmpI x y)) w) := by
  by_cases h1 : x < y
  · have H := Lib.hid (show cmpI x y = -1 from if_pos h1)
    go_enter Tryd.func32, Tryd.ntmps32
    go_wp2
    go_returns
    exact ⟨by rw [H.out]; rfl, by go_grown⟩
  · by_cases h2 : y < x
    · have H := Lib.hid (show cmpI x y = 1 by unfold cmpI; rw [if_neg h1, if_pos h2])
      have h1' : y ≤ x := by omega
      go_enter Tryd.func32, Tryd.ntmps32
      go_wp2
      go_returns
      exact ⟨by rw [H.out]; rfl, by go_grown⟩
    · obtain rfl : x = y := by omega
      have H := Lib.hid (show cmpI x x = 0 by unfold cmpI; simp)
      clear h1 h2
      go_enter Tryd.func32, Tryd.ntmps32
      go_wp2
      go_returns
      exact ⟨by rw [H.out]; rfl, by go_grown⟩

/-- The four numbers, one behind the other. -/
def cmpL : List Int → List Int → Int
  | x :: l, y :: r => if cmpI x y = 0 then cmpL l r else cmpI x y
  | _, _ => 0
def cmpT (a b : Tally) : Int := cmpL [a.c, a.su, a.mi, a.ma] [b.c, b.su, b.mi, b.ma]
theorem cmpI_zero {x y : Int} : cmpI x y = 0 ↔ x = y := by
  unfold cmpI; split
  · constructor
    · intro h; cases h
    · intro h; omega
  · split
    · constructor
      · intro h; cases h
      · intro h; omega
    · constructor
      · intro _; omega
      · intro _; rfl
theorem cmpI_neg (x y : Int) : cmpI y x = -cmpI x y := by
  unfold cmpI; split <;> split <;> first | omega | (split <;> omega) | rfl
theorem cmpL_neg : ∀ l r : List Int, cmpL r l = -cmpL l r
  | [], [] => rfl
  | [], _ :: _ => rfl
  | _ :: _, [] => rfl
  | x :: l, y :: r => by
    unfold cmpL
    rw [cmpI_neg x y]
    by_cases h : cmpI x y = 0
    · rw [if_pos (by omega), if_pos h]; exact cmpL_neg l r
    · rw [if_neg (by omega), if_neg h]
theorem cmpL_zero : ∀ l r : List Int, l.length = r.length → (cmpL l r = 0 ↔ l = r)
  | [], [], _ => by simp [cmpL]
  | x :: l, y :: r, h => by
    unfold cmpL
    have ih := cmpL_zero l r (by simpa using h)
    by_cases h1 : cmpI x y = 0
    · rw [if_pos h1, ih, cmpI_zero.1 h1]; simp
    · rw [if_neg h1]
      constructor
      · intro h2; exact absurd h2 h1
      · intro h2; cases h2; exact absurd (cmpI_zero.2 rfl) h1
theorem cmpI_le {x y : Int} : cmpI x y ≤ 0 ↔ x ≤ y := by
  unfold cmpI; split
  · constructor <;> intro _ <;> omega
  · split
    · constructor <;> intro _ <;> omega
    · constructor <;> intro _ <;> omega
theorem cmpL_trans : ∀ l r s : List Int, l.length = r.length → r.length = s.length → cmpL l r ≤ 0 → cmpL r s ≤ 0 → cmpL l s ≤ 0
  | [], [], [], _, _, _, _ => by simp [cmpL]
  | x :: l, y :: r, z :: s, h1, h2, k1, k2 => by
    unfold cmpL at k1 k2 ⊢
    have ih := cmpL_trans l r s (by simpa using h1) (by simpa using h2)
    by_cases e1 : cmpI x y = 0
    · rw [if_pos e1] at k1
      obtain rfl := cmpI_zero.1 e1
      by_cases e2 : cmpI x z = 0
      · rw [if_pos e2] at k2 ⊢; exact ih k1 k2
      · rw [if_neg e2] at k2 ⊢; exact k2
    · rw [if_neg e1] at k1
      have hxy := cmpI_le.1 k1
      have hne : x ≠ y := fun h => e1 (cmpI_zero.2 h)
      have hyz : y ≤ z := by
        by_cases e2 : cmpI y z = 0
        · exact Int.le_of_eq (cmpI_zero.1 e2)
        · rw [if_neg e2] at k2; exact cmpI_le.1 k2
      have e3 : cmpI x z ≠ 0 := fun h => by have := cmpI_zero.1 h; omega
      rw [if_neg e3]
      exact cmpI_le.2 (by omega)
theorem cmpT_neg (a b : Tally) : cmpT b a = -cmpT a b := cmpL_neg _ _
theorem cmpT_zero (a b : Tally) : cmpT a b = 0 ↔ a = b := by
  obtain ⟨a1, a2, a3, a4⟩ := a
  obtain ⟨b1, b2, b3, b4⟩ := b
  unfold cmpT
  refine (cmpL_zero [a1, a2, a3, a4] [b1, b2, b3, b4] rfl).trans ?_
  simp
theorem cmpT_trans {a b c : Tally} (h : cmpT a b ≤ 0) (k : cmpT b c ≤ 0) : cmpT a c ≤ 0 :=
  cmpL_trans [a.c, a.su, a.mi, a.ma] [b.c, b.su, b.mi, b.ma] [c.c, c.su, c.mi, c.ma] rfl rfl h k
end Go.Proofs.YtkafcdgeboldgaaDoor
