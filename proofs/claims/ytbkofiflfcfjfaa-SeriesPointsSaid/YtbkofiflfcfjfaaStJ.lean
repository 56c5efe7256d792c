/- Store: what a walk tells, and in which order; what is still to come. No program in sight. -/
import Derived.Test.YtbkofiflfcfjfaaStM
set_option linter.unusedSimpArgs false
set_option linter.unusedVariables false
namespace Go.St
variable {κ ν : Type}
def ord (back : Bool) (t : T κ ν) : List (κ × ν) := if back then t.toL.reverse else t.toL
def T.near (back : Bool) : T κ ν → T κ ν
  | .nil => .nil
  | .node l _ _ r => if back then r else l
def T.far (back : Bool) : T κ ν → T κ ν
  | .nil => .nil
  | .node l _ _ r => if back then l else r
def T.top : T κ ν → List (κ × ν)
  | .nil => []
  | .node _ k v _ => [(k, v)]
theorem ord_node (back : Bool) (t : T κ ν) : ord back t = ord back (t.near back) ++ (t.top ++ ord back (t.far back)) := by
  cases t <;> cases back <;> simp [ord, T.near, T.far, T.top, T.toL]
/-- What a walk tells: the pairs whose keys are not left out. -/
def told (p : κ → Bool) (back : Bool) (t : T κ ν) : List (κ × ν) := (ord back t).filter fun q => !p q.1
/-- A key that is left out comes ahead of all that are not. -/
def Mono (p : κ → Bool) (back : Bool) (t : T κ ν) : Prop := (ord back t).Pairwise fun a b => p b.1 = true → p a.1 = true
/-- What a stack has yet to tell, its top first. -/
def rest (p : κ → Bool) (back : Bool) : List (T κ ν) → List (κ × ν)
  | [] => []
  | t :: st => t.top ++ told p back (t.far back) ++ rest p back st
def wt (back : Bool) : List (T κ ν) → Nat
  | [] => 0
  | t :: st => 1 + (t.far back).many + wt back st
theorem wt_len (back : Bool) : ∀ st : List (T κ ν), st.length ≤ wt back st
  | [] => Nat.le_refl _
  | t :: st => by have := wt_len back st; simp only [List.length_cons, wt]; omega
section
variable {p : κ → Bool} {back : Bool}
theorem Mono.parts {t : T κ ν} (h : Mono p back t) : Mono p back (t.near back) ∧ Mono p back (t.far back) := by
  unfold Mono at h
  rw [ord_node, List.pairwise_append, List.pairwise_append] at h
  exact ⟨h.1, h.2.1.2.1⟩
theorem told_out {l r : T κ ν} {k : κ} {v : ν} (h : Mono p back (.node l k v r)) (hk : p k = true) : told p back (.node l k v r) = told p back ((T.node l k v r).far back) := by
  unfold told
  rw [ord_node]
  unfold Mono at h
  rw [ord_node, List.pairwise_append] at h
  rw [List.filter_append, List.filter_append]
  have h1 : (ord back ((T.node l k v r).near back)).filter (fun q => !p q.1) = [] := List.filter_eq_nil_iff.2 fun q hq => by
    have := h.2.2 q hq (k, v) (by simp [T.top]) hk
    simp [this]
  rw [h1]
  simp [T.top, hk]
theorem told_in {l r : T κ ν} {k : κ} {v : ν} (hk : p k = false) : told p back (.node l k v r) = told p back ((T.node l k v r).near back) ++ (k, v) :: told p back ((T.node l k v r).far back) := by
  unfold told
  rw [ord_node, List.filter_append, List.filter_append]
  simp [T.top, hk]
theorem told_nil : told p back (.nil : T κ ν) = [] := by cases back <;> rfl
theorem many_parts {l r : T κ ν} {k : κ} {v : ν} : ((T.node l k v r).near back).many + ((T.node l k v r).far back).many + 1 = (T.node l k v r).many := by
  cases back <;> simp only [T.near, T.far, T.many, if_true, Bool.false_eq_true, if_false] <;> omega
end
end Go.St
