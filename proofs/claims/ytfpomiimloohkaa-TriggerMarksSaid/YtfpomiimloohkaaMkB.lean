/- A mark: the program's. -/
import Derived.Test.YtfpomiimloohkaaMkA
import Derived.Test.YtfpomiimloohkaaTrigHe
import Derived.Deep.Cut
set_option linter.unusedSimpArgs false
set_option linter.unusedVariables false
namespace Go.Proofs.Ytfpomiimloohkaa
open Go.RowKit Go.Kp Go.So

def onT (fr up : Int) (x : Win) : Bool := decide (fr < x.e) && decide (x.e ≤ up)
def ovT (la up : Int) (x : Win) : Bool := decide (x.e + la ≤ up)
def twin (fr up : Int) (di : Bool) (x : Win) : Win := if onT fr up x then told x di else x
def paneW (key : ByteArray) (x : Win) : Pa := ⟨key, x.s, x.e, 2, x.pa, x.c, x.su, x.mi, x.ma⟩
def outsL (c : Conf) (fr up : Int) (L : List Win) : List Win := (L.filter (fun x => !ovT c.la up x)).map (twin fr up c.di)
def pansL (key : ByteArray) (fr up : Int) (L : List Win) : List Pa := (L.filter (onT fr up)).map (paneW key)
theorem outsL_snoc {c : Conf} {fr up : Int} {L : List Win} {x : Win} : outsL c fr up (L ++ [x]) = outsL c fr up L ++ (if ovT c.la up x then [] else [twin fr up c.di x]) := by
  unfold outsL
  rw [List.filter_append, List.map_append]
  congr 1
  cases h : ovT c.la up x <;> simp [List.filter_cons, h]
theorem pansL_snoc {key : ByteArray} {fr up : Int} {L : List Win} {x : Win} : pansL key fr up (L ++ [x]) = pansL key fr up L ++ (if onT fr up x then [paneW key x] else []) := by
  unfold pansL
  rw [List.filter_append, List.map_append]
  congr 1
  cases h : onT fr up x <;> simp [List.filter_cons, h]
theorem outsL_len {c : Conf} {fr up : Int} {L : List Win} : (outsL c fr up L).length ≤ L.length := by
  unfold outsL; rw [List.length_map]; exact List.length_filter_le _ _
theorem pansL_len {key : ByteArray} {fr up : Int} {L : List Win} : (pansL key fr up L).length ≤ L.length := by
  unfold pansL; rw [List.length_map]; exact List.length_filter_le _ _

theorem own_at {w : World} {B : Nat} {e : TypeId} {size : Nat} {v : Value} {n g : Nat} {xs : List Value} (h : w.ownsRow B e size v n xs) (hg : v.ownBlock = some g) : ∃ cap, v = .slice (some ⟨g, 0, none⟩) n cap ∧ n ≤ cap ∧ cap ≤ maxLen ∧ B ≤ g ∧ g < w.heap.size := by
  rcases h.2 with ⟨h1, _⟩ | ⟨g', cap, cur, h1, h2, h3, h4, h5, _⟩
  · subst h1; cases hg
  · subst h1
    obtain rfl : g' = g := by injection hg
    refine ⟨cap, rfl, h4, h5, h2, ?_⟩
    rcases Nat.lt_or_ge g' w.heap.size with h | h
    · exact h
    · rw [Array.getElem?_eq_none h] at h3; cases h3
/-- A row of panes that is owned, and what it is when it has been put in order. -/
theorem row_of_own {w : World} {B g n cap : Nat} {ps : List Pa} (h : w.ownsRow B 37 9 (.slice (some ⟨g, 0, none⟩) n cap) n (ps.flatMap Pa.cells)) (hl : ps.length = n) :
    ∃ d, Row w g n d ∧ seg d 0 n = ps ∧ ∀ (w' : World) (d' : Nat → Pa), Row w' g n d' → d' n = d n → w'.ownsRow B 37 9 (.slice (some ⟨g, 0, none⟩) n cap) n ((seg d' 0 n).flatMap Pa.cells) := by
  have hcell := h.cellAt
  rcases h.2 with ⟨h1, _⟩ | ⟨g', cap', cur, h1, h2, h3, h4, h5, h6, h7⟩
  · cases h1
  cases h1
  obtain ⟨d, hd⟩ : ∃ d : Nat → Pa, d = fun i => (ps[i]?).getD ⟨.empty, 0, 0, 0, 0, 0, 0, 0, cur.size⟩ := ⟨_, rfl⟩
  have hb : Blk w g 37 cur := h3
  have hdi : ∀ i (hi : i < n), ps[i]? = some (d i) := fun i hi => by
    rw [hd]; dsimp only
    rw [List.getElem?_eq_getElem (by rw [hl]; exact hi)]; rfl
  have hdn : (d n).ma = cur.size := by
    rw [hd]; dsimp only
    rw [List.getElem?_eq_none (by omega)]; rfl
  refine ⟨d, ⟨cur, hb, fun i hi j hj => ?_, by rw [hdn]; rfl⟩, ?_, fun w' d' hR hn => ?_⟩
  · rw [← hb.cell, hcell _ (by omega)]
    exact flat_get Pa.cells 9 Pa.len ps i j _ (hdi i hi) hj
  · apply List.ext_getElem?
    intro i
    rcases Nat.lt_or_ge i n with hi | hi
    · rw [hdi i hi]
      unfold seg
      rw [List.getElem?_map, List.getElem?_range' (by omega)]
      simp
    · rw [List.getElem?_eq_none (by rw [seg_len]; omega), List.getElem?_eq_none (by omega)]
  · obtain ⟨cs, c1, c2, c3⟩ := hR
    have hlen : (seg d' 0 n).length = n := by rw [seg_len]; omega
    have hfl : ((seg d' 0 n).flatMap Pa.cells).length = n * 9 := by rw [flat_length Pa.cells 9 Pa.len, hlen]
    have hsz : cs.size = cur.size := by rw [c3, hn, hdn]; rfl
    refine ⟨hfl, .inr ⟨g, cap, cs, rfl, h2, c1, h4, h5, by rw [hsz, h6], ?_⟩⟩
    apply List.ext_getElem?
    intro q
    rcases Nat.lt_or_ge q (n * 9) with hq | hq
    · rw [List.getElem?_take_of_lt hq]
      have hi : q / 9 < n := by omega
      have hj : q % 9 < 9 := by omega
      have e : q = q / 9 * 9 + q % 9 := by omega
      rw [Array.getElem?_toList]
      conv => lhs; rw [e]
      conv => rhs; rw [e]
      rw [c2 _ hi _ hj]
      refine (flat_get Pa.cells 9 Pa.len _ _ _ _ ?_ hj).symm
      unfold seg
      rw [List.getElem?_map, List.getElem?_range' (by omega)]
      simp
    · rw [List.getElem?_eq_none (by rw [List.length_take]; omega), List.getElem?_eq_none (by rw [hfl]; exact hq)]

/-- Two rows that a call owns: windows and panes. -/
structure Mk (w : World) (B : Nat) (vo vp : Value) (O : List Win) (P : List Pa) : Prop where
  wo : w.ownsRow B 30 9 vo O.length (O.flatMap Win.cl)
  wp : w.ownsRow B 37 9 vp P.length (P.flatMap Pa.cells)
  bo : ∃ g, vo.ownBlock = some g
  bp : ∃ g, vp.ownBlock = some g
theorem Mk.alloc {w : World} {B : Nat} {vo vp : Value} {O : List Win} {P : List Pa} (h : Mk w B vo vp O P) (o : Obj) : Mk (w.alloc o) B vo vp O P := ⟨h.wo.alloc o, h.wp.alloc o, h.bo, h.bp⟩
theorem Mk.drew {w : World} {B : Nat} {vo vp : Value} {O : List Win} {P : List Pa} (h : Mk w B vo vp O P) : Mk w.drew B vo vp O P := ⟨h.wo.drew, h.wp.drew, h.bo, h.bp⟩
theorem Mk.keep {w w' : World} {B : Nat} {vo vp : Value} {O : List Win} {P : List Pa} (h : Mk w B vo vp O P) (hk : ∀ g, B ≤ g → g < w.heap.size → w'.heap[g]? = w.heap[g]?) : Mk w' B vo vp O P := ⟨owns_keep h.wo hk, owns_keep h.wp hk, h.bo, h.bp⟩
theorem Mk.apart {w : World} {B : Nat} {vo vp : Value} {O : List Win} {P : List Pa} (h : Mk w B vo vp O P) : vo.ownBlock ≠ vp.ownBlock := by
  intro e
  obtain ⟨g, hg⟩ := h.bo
  rcases h.wo.2 with ⟨h1, _⟩ | ⟨g1, c1, cur1, h1, _, h2, _⟩
  · subst h1; cases hg
  rcases h.wp.2 with ⟨h3, _⟩ | ⟨g3, c3, cur3, h3, _, h4, _⟩
  · subst h3; rw [hg] at e; cases e
  subst h1 h3
  obtain rfl : g1 = g3 := by injection e
  rw [h2] at h4
  injection h4 with h4
  injection h4 with _ h5
  exact absurd h5 (by decide)
theorem Mk.panes {w w' : World} {B : Nat} {vo vp vp' : Value} {O : List Win} {P P' : List Pa} (h : Mk w B vo vp O P) (ho : w'.ownsRow B 37 9 vp' P'.length (P'.flatMap Pa.cells)) (hg : w.grownBy w' vp.ownBlock) (hv : vp'.ownBlock = vp.ownBlock ∨ vp'.ownBlock = some w.heap.size) : Mk w' B vo vp' O P' := by
  refine ⟨h.wo.kept hg (.inr h.apart), ho, h.bo, ?_⟩
  rcases hv with hv | hv
  · rw [hv]; exact h.bp
  · exact ⟨_, hv⟩
theorem Mk.wins {w w' : World} {B : Nat} {vo vp vo' : Value} {O O' : List Win} {P : List Pa} (h : Mk w B vo vp O P) (ho : w'.ownsRow B 30 9 vo' O'.length (O'.flatMap Win.cl)) (hg : w.grownBy w' vo.ownBlock) (hv : vo'.ownBlock = vo.ownBlock ∨ vo'.ownBlock = some w.heap.size) : Mk w' B vo' vp O' P := by
  refine ⟨ho, h.wp.kept hg (.inr h.apart.symm), ?_, h.bp⟩
  rcases hv with hv | hv
  · rw [hv]; exact h.bo
  · exact ⟨_, hv⟩
/-- A block of another type is not the row's. -/
theorem own_apart {w : World} {B : Nat} {e t : TypeId} {size : Nat} {v : Value} {n g : Nat} {xs : List Value} {cs : Array Value} (h : w.ownsRow B e size v n xs) (hb : Blk w g t cs) (ht : t ≠ e) : v.ownBlock ≠ some g := by
  intro hg
  rcases h.2 with ⟨h1, _⟩ | ⟨g1, c1, cur1, h1, _, h2, _⟩
  · subst h1; cases hg
  · subst h1
    obtain rfl : g1 = g := by injection hg
    unfold Blk at hb
    rw [h2] at hb
    injection hb with h4
    injection h4 with _ h5
    exact ht h5.symm
theorem Mk.kept {w w' : World} {B : Nat} {vo vp : Value} {O : List Win} {P : List Pa} {row : Option Nat} (h : Mk w B vo vp O P) (hg : w.grownBy w' row) (hne : ∀ g, row = some g → vo.ownBlock ≠ some g ∧ vp.ownBlock ≠ some g) : Mk w' B vo vp O P := by
  have h1 : vo.ownBlock = none ∨ vo.ownBlock ≠ row := by
    cases row with
    | none => obtain ⟨g, hg⟩ := h.bo; exact .inr (by rw [hg]; simp)
    | some g => exact .inr (hne g rfl).1
  have h2 : vp.ownBlock = none ∨ vp.ownBlock ≠ row := by
    cases row with
    | none => obtain ⟨g, hg⟩ := h.bp; exact .inr (by rw [hg]; simp)
    | some g => exact .inr (hne g rfl).2
  exact ⟨h.wo.kept hg h1, h.wp.kept hg h2, h.bo, h.bp⟩
theorem take_snoc {α : Type} {l : List α} {k : Nat} {x : α} (h : l[k]? = some x) : l.take (k + 1) = l.take k ++ [x] := by
  rw [List.take_add_one, h]; rfl
theorem own_none (w : World) (e : TypeId) (B size b : Nat) (hb : w.heap.size = b) (hB : B ≤ b) : (w.alloc (.cells #[] e)).ownsRow B e size (.slice (some ⟨b, 0, none⟩) 0 0) 0 [] := by
  subst hb
  exact ⟨by simp, .inr ⟨w.heap.size, 0, #[], rfl, hB, heap_at rfl, Nat.le_refl _, Nat.zero_le _, by simp, by simp⟩⟩
/-- Put in order by their ends. -/
def Ordered (P Q : List Pa) : Prop := P.Pairwise (fun x y => x.e ≤ y.e) ∧ ∀ k, P.filter (fun x => x.e == k) = Q.filter (fun x => x.e == k)
theorem twin_on {fr up : Int} {di : Bool} {x : Win} (h : onT fr up x = true) : twin fr up di x = told x di := by unfold twin; rw [if_pos h]
theorem twin_off {fr up : Int} {di : Bool} {x : Win} (h : onT fr up x = false) : twin fr up di x = x := by unfold twin; rw [if_neg (by rw [h]; simp)]
end Go.Proofs.Ytfpomiimloohkaa
