/- TimersPlay: what lies in memory between two steps, and that each step keeps it so. -/
import Derived.Test.YtlmmcffbpdfcjaaTmStp5
set_option linter.unusedSimpArgs false
set_option linter.unusedVariables false
namespace Go.Proofs.Ytlmmcffbpdfcjaa
open Go.RowKit Go.Kp Go.ChangeMaps

/-- x: the queue that stands at k; y: the other one; olds: those that were put aside. -/
structure PlayS (w : World) (B gw : Nat) (cs : Array Value) (k : Nat) (x y : Qr) (olds : List Qr) (vold vwas : Value) : Prop where
  G : Blk w gw 45 cs
  size : cs.size = 6
  kk : k < 2
  cx : cs[k]? = some (ptr x.q)
  lx : cs[2 + k]? = some x.lv
  cy : cs[1 - k]? = some (ptr y.q)
  ly : cs[2 + (1 - k)]? = some y.lv
  co : cs[4]? = some vold
  cw : cs[5]? = some vwas
  ok : ∀ z ∈ x :: y :: olds, z.ok w B
  ro : w.ownsRow B 30 1 vold olds.length (olds.map fun z => ptr z.q)
  rw_ : w.ownsRow B 29 1 vwas olds.length (olds.map fun z => z.lv)
  apart : (x :: y :: olds).Pairwise fun a b => ∀ n, a.foot n → ¬ b.foot n
  lists : ∀ a ∈ x :: y :: olds, ∀ b ∈ x :: y :: olds, ∀ n, a.lv.ownBlock = some n → ¬ b.foot n
  gf : ∀ a ∈ x :: y :: olds, ¬ a.foot gw ∧ a.lv.ownBlock ≠ some gw
  of_ : ∀ n, vold.ownBlock = some n → n ≠ gw ∧ vwas.ownBlock ≠ some n ∧ ∀ a ∈ x :: y :: olds, ¬ a.foot n ∧ a.lv.ownBlock ≠ some n
  wf : ∀ n, vwas.ownBlock = some n → n ≠ gw ∧ ∀ a ∈ x :: y :: olds, ¬ a.foot n ∧ a.lv.ownBlock ≠ some n
  gB : B ≤ gw
  len : olds.length ≤ 22

theorem Qr.ok.lt {x : Qr} {w : World} {B : Nat} (h : x.ok w B) : (∀ n, x.foot n → n < w.heap.size) ∧ ∀ n, x.lv.ownBlock = some n → n < w.heap.size := ⟨h.tq.raw.lt, fun n hn => (h.list.lt n hn).2⟩
/-- A queue whose blocks and list have not turned. -/
theorem Qr.ok.same {x : Qr} {w w' : World} {B : Nat} (h : x.ok w B) (hf : ∀ n, x.foot n → w'.heap[n]? = w.heap[n]?) (hl : ∀ n, x.lv.ownBlock = some n → w'.heap[n]? = w.heap[n]?) : x.ok w' B :=
  ⟨h.tq.same hf, h.mem, h.sorted, owns_same h.list hl, h.ge, h.off, h.small⟩
theorem PlayS.below {w w' : World} {B gw : Nat} {cs : Array Value} {k : Nat} {x y : Qr} {olds : List Qr} {vold vwas : Value} (h : PlayS w B gw cs k x y olds vold vwas) (hb : Below w.heap.size w w') : PlayS w' B gw cs k x y olds vold vwas :=
  ⟨h.G.below hb, h.size, h.kk, h.cx, h.lx, h.cy, h.ly, h.co, h.cw, fun z hz => (h.ok z hz).same (fun n hn => hb.block n ((h.ok z hz).lt.1 n hn)) fun n hn => hb.block n ((h.ok z hz).lt.2 n hn), owns_below h.ro hb, owns_below h.rw_ hb, h.apart, h.lists, h.gf, h.of_, h.wf, h.gB, h.len⟩
theorem perm_swap {x y : Qr} {l : List Qr} {z : Qr} : z ∈ y :: x :: l ↔ z ∈ x :: y :: l := by
  simp only [List.mem_cons]
  constructor <;> (rintro (h | h | h) <;> simp [h])
theorem PlayS.swap {w : World} {B gw : Nat} {cs : Array Value} {k : Nat} {x y : Qr} {olds : List Qr} {vold vwas : Value} (h : PlayS w B gw cs k x y olds vold vwas) : PlayS w B gw cs (1 - k) y x olds vold vwas := by
  have hk := h.kk
  have e : 1 - (1 - k) = k := by omega
  refine ⟨h.G, h.size, by omega, h.cy, h.ly, by rw [e]; exact h.cx, by rw [e]; exact h.lx, h.co, h.cw, fun z hz => h.ok z (perm_swap.1 hz), h.ro, h.rw_, ?_, fun a ha b hb => h.lists a (perm_swap.1 ha) b (perm_swap.1 hb), fun a ha => h.gf a (perm_swap.1 ha),
    fun n hn => ⟨(h.of_ n hn).1, (h.of_ n hn).2.1, fun a ha => (h.of_ n hn).2.2 a (perm_swap.1 ha)⟩, fun n hn => ⟨(h.wf n hn).1, fun a ha => (h.wf n hn).2 a (perm_swap.1 ha)⟩, h.gB, h.len⟩
  have hp := h.apart
  simp only [List.pairwise_cons, List.mem_cons] at hp ⊢
  refine ⟨fun a ha => ?_, fun a ha => hp.1 a (.inr ha), hp.2.2⟩
  rcases ha with rfl | ha
  · exact fun n h1 h2 => hp.1 y (.inl rfl) n h2 h1
  · exact hp.2.1 a ha

/-- Behind a step of another kind than the seventh. -/
theorem PlayS.step {w w' : World} {B gw : Nat} {cs : Array Value} {k : Nat} {x x' y : Qr} {olds : List Qr} {vold vwas : Value} {S' : List Tm.T} (h : PlayS w B gw cs k x y olds vold vwas) (p : StepP w w' B gw k cs x x' S') :
    PlayS w' B gw (cs.setIfInBounds (2 + k) x'.lv) k x' y olds vold vwas ∧ Fr (fun n => B ≤ n) w w' := by
  have hk := h.kk
  have hs := h.size
  have hx := h.ok x (by simp)
  have hlt := hx.lt
  have hgl := h.G.lt
  have keep : ∀ n, n < w.heap.size → ¬ x.foot n → n ≠ gw → w'.heap[n]? = w.heap[n]? := fun n h1 h2 h3 => p.fr.block n h1 fun h4 => h4.elim h2 h3
  have hp := h.apart
  simp only [List.pairwise_cons, List.mem_cons] at hp
  have oth : ∀ z ∈ y :: olds, (∀ n, z.foot n → n < w.heap.size ∧ ¬ x.foot n ∧ n ≠ gw) ∧ ∀ n, z.lv.ownBlock = some n → n < w.heap.size ∧ ¬ x.foot n ∧ n ≠ gw := fun z hz => by
    have hz' : z ∈ x :: y :: olds := List.mem_cons_of_mem _ hz
    have ho := (h.ok z hz').lt
    refine ⟨fun n hn => ⟨ho.1 n hn, fun h2 => hp.1 z (List.mem_cons.1 hz) n h2 hn, fun e => (h.gf z hz').1 (e ▸ hn)⟩, fun n hn => ⟨ho.2 n hn, h.lists z hz' x (by simp) n hn, fun e => (h.gf z hz').2 (e ▸ hn)⟩⟩
  have new : ∀ z ∈ y :: olds, (∀ n, x'.foot n → ¬ z.foot n) ∧ (∀ n, z.lv.ownBlock = some n → ¬ x'.foot n) ∧ ∀ n, x'.lv.ownBlock = some n → ¬ z.foot n := fun z hz => by
    have ho := oth z hz
    refine ⟨fun n hn hn2 => ?_, fun n hn hn2 => ?_, fun n hn hn2 => ?_⟩
    · rcases p.foot n hn with h1 | h1
      · exact (ho.1 n hn2).2.1 h1
      · have := (ho.1 n hn2).1; omega
    · rcases p.foot n hn2 with h1 | h1
      · exact (ho.2 n hn).2.1 h1
      · have := (ho.2 n hn).1; omega
    · rcases p.list n hn with h1 | h1
      · exact h.lists x (by simp) z (List.mem_cons_of_mem _ hz) n h1 hn2
      · have := (ho.1 n hn2).1; omega
  have own : ∀ n, n < w.heap.size → (∀ a ∈ x :: y :: olds, ¬ a.foot n ∧ a.lv.ownBlock ≠ some n) → ∀ a ∈ x' :: y :: olds, ¬ a.foot n ∧ a.lv.ownBlock ≠ some n := fun n hn ha a hm => by
    rcases List.mem_cons.1 hm with rfl | hm
    · refine ⟨fun hf => ?_, fun hf => ?_⟩
      · rcases p.foot n hf with h1 | h1
        · exact (ha x (by simp)).1 h1
        · omega
      · rcases p.list n hf with h1 | h1
        · exact (ha x (by simp)).2 h1
        · omega
    · exact ha a (List.mem_cons_of_mem _ hm)
  have cell : ∀ i, i ≠ 2 + k → (cs.setIfInBounds (2 + k) x'.lv)[i]? = cs[i]? := fun i hi => Array.getElem?_setIfInBounds_ne (fun e => hi e.symm)
  refine ⟨⟨p.blk, by rw [Array.size_setIfInBounds]; exact hs, hk, ?_, ?_, ?_, ?_, ?_, ?_, ?_, ?_, ?_, ?_, ?_, ?_, ?_, ?_, h.gB, h.len⟩, ?_⟩
  · rw [cell _ (by omega), p.q]; exact h.cx
  · rw [Array.getElem?_setIfInBounds_self_of_lt (by omega)]
  · rw [cell _ (by omega)]; exact h.cy
  · rw [cell _ (by omega)]; exact h.ly
  · rw [cell _ (by omega)]; exact h.co
  · rw [cell _ (by omega)]; exact h.cw
  · intro z hz
    rcases List.mem_cons.1 hz with rfl | hz
    · exact p.ok
    · have ho := oth z hz
      exact (h.ok z (List.mem_cons_of_mem _ hz)).same (fun n hn => keep n (ho.1 n hn).1 (ho.1 n hn).2.1 (ho.1 n hn).2.2) fun n hn => keep n (ho.2 n hn).1 (ho.2 n hn).2.1 (ho.2 n hn).2.2
  · exact owns_same h.ro fun n hn => keep n (h.ro.lt n hn).2 ((h.of_ n hn).2.2 x (by simp)).1 (h.of_ n hn).1
  · exact owns_same h.rw_ fun n hn => keep n (h.rw_.lt n hn).2 ((h.wf n hn).2 x (by simp)).1 (h.wf n hn).1
  · simp only [List.pairwise_cons, List.mem_cons]
    exact ⟨fun a ha n hn => (new a (List.mem_cons.2 ha)).1 n hn, hp.2⟩
  · intro a ha b hb n hn
    rcases List.mem_cons.1 ha with rfl | ha'
    · rcases List.mem_cons.1 hb with rfl | hb'
      · exact p.ok.off n hn
      · exact (new b hb').2.2 n hn
    · rcases List.mem_cons.1 hb with rfl | hb'
      · exact (new a ha').2.1 n hn
      · exact h.lists a (List.mem_cons_of_mem _ ha') b (List.mem_cons_of_mem _ hb') n hn
  · exact own gw hgl h.gf
  · exact fun n hn => ⟨(h.of_ n hn).1, (h.of_ n hn).2.1, own n (h.ro.lt n hn).2 (h.of_ n hn).2.2⟩
  · exact fun n hn => ⟨(h.wf n hn).1, own n (h.rw_.lt n hn).2 (h.wf n hn).2⟩
  · exact p.fr.mono fun n _ hn => hn.elim (hx.ge n) fun e => e ▸ h.gB

/-- Behind a step of the seventh kind. -/
theorem PlayS.copy {w w' : World} {B gw : Nat} {cs : Array Value} {k : Nat} {x y : Qr} {olds : List Qr} {vold vwas : Value} (h : PlayS w B gw cs k x y olds vold vwas) (hB : B ≤ w.heap.size)
    (p : CopyP w w' B gw k cs x olds.length (olds.map fun z => ptr z.q) (olds.map fun z => z.lv) vold vwas) :
    ∃ cs' x' olds' vold' vwas', PlayS w' B gw cs' k x' y olds' vold' vwas' ∧ x'.S = x.S ∧ Fr (fun n => B ≤ n) w w' := by
  obtain ⟨z, hT, hm, hS, hlv, hnew, hcase⟩ := p
  have hk := h.kk
  have hs := h.size
  have hx := h.ok x (by simp)
  have hgl := h.G.lt
  have hp := h.apart
  simp only [List.pairwise_cons, List.mem_cons] at hp
  have hlt : ∀ a ∈ x :: y :: olds, (∀ n, a.foot n → n < w.heap.size) ∧ ∀ n, a.lv.ownBlock = some n → n < w.heap.size := fun a ha => (h.ok a ha).lt
  -- what has not turned of what lay
  have go : ∀ (keep : ∀ n, n < w.heap.size → n ≠ gw → vold.ownBlock ≠ some n → vwas.ownBlock ≠ some n → w'.heap[n]? = w.heap[n]?), (∀ a ∈ x :: y :: olds, a.ok w' B) ∧ z.ok w' B := fun keep => by
    have h1 : ∀ a ∈ x :: y :: olds, a.ok w' B := fun a ha => by
      refine (h.ok a ha).same (fun n hn => ?_) fun n hn => ?_
      · exact keep n ((hlt a ha).1 n hn) (fun e => (h.gf a ha).1 (e ▸ hn)) (fun e => ((h.of_ n e).2.2 a ha).1 hn) fun e => ((h.wf n e).2 a ha).1 hn
      · exact keep n ((hlt a ha).2 n hn) (fun e => (h.gf a ha).2 (e ▸ hn)) (fun e => ((h.of_ n e).2.2 a ha).2 hn) fun e => ((h.wf n e).2 a ha).2 hn
    have h2 := h1 x (by simp)
    exact ⟨h1, ⟨hT, by rw [hS]; exact hm, by rw [hS]; exact h2.sorted, by rw [hS, hlv]; exact h2.list, fun n hn => Nat.le_trans hB (hnew n hn), fun n hn hf => by
      rw [hlv] at hn
      have := (hlt x (by simp)).2 n hn
      have := hnew n hf
      omega, by rw [hS]; exact h2.small⟩⟩
  have znew : ∀ n, n < w.heap.size → ¬ z.foot n := fun n hn hf => by have := hnew n hf; omega
  have zl : ∀ n, z.lv.ownBlock = some n ↔ x.lv.ownBlock = some n := fun n => by rw [hlv]
  rcases hcase with ⟨_, hG, hF⟩ | ⟨hno, vold', vwas', lv2, hG, hro, hrw, hl2, ho', hw', d1, d2, d3, hF⟩
  · obtain ⟨hok, hz⟩ := go fun n h1 h2 _ _ => hF.block n h1 h2
    have cell : ∀ i, i ≠ k → (cs.setIfInBounds k (ptr z.q))[i]? = cs[i]? := fun i hi => Array.getElem?_setIfInBounds_ne (fun e => hi e.symm)
    refine ⟨_, z, olds, vold, vwas, ⟨hG, by rw [Array.size_setIfInBounds]; exact hs, hk, Array.getElem?_setIfInBounds_self_of_lt (by omega), ?_, ?_, ?_, ?_, ?_, ?_, ?_, ?_, ?_, ?_, ?_, ?_, ?_, h.gB, h.len⟩, hS, hF.mono fun n _ e => e ▸ h.gB⟩
    · rw [cell _ (by omega), hlv]; exact h.lx
    · rw [cell _ (by omega)]; exact h.cy
    · rw [cell _ (by omega)]; exact h.ly
    · rw [cell _ (by omega)]; exact h.co
    · rw [cell _ (by omega)]; exact h.cw
    · intro a ha
      rcases List.mem_cons.1 ha with rfl | ha'
      · exact hz
      · exact hok a (List.mem_cons_of_mem _ ha')
    · exact owns_same h.ro fun n hn => hF.block n (h.ro.lt n hn).2 (h.of_ n hn).1
    · exact owns_same h.rw_ fun n hn => hF.block n (h.rw_.lt n hn).2 (h.wf n hn).1
    · simp only [List.pairwise_cons, List.mem_cons]
      exact ⟨fun a ha n hn hf => znew n ((hlt a (List.mem_cons_of_mem _ (List.mem_cons.2 ha))).1 n hf) hn, hp.2⟩
    · intro a ha b hb n hn
      have hn2 : n < w.heap.size ∧ ∀ c ∈ x :: y :: olds, ¬ c.foot n := by
        rcases List.mem_cons.1 ha with rfl | ha'
        · rw [zl] at hn
          exact ⟨(hlt x (by simp)).2 n hn, fun c hc => h.lists x (by simp) c hc n hn⟩
        · exact ⟨(hlt a (List.mem_cons_of_mem _ ha')).2 n hn, fun c hc => h.lists a (List.mem_cons_of_mem _ ha') c hc n hn⟩
      rcases List.mem_cons.1 hb with rfl | hb'
      · exact znew n hn2.1
      · exact hn2.2 b (List.mem_cons_of_mem _ hb')
    · intro a ha
      rcases List.mem_cons.1 ha with rfl | ha'
      · exact ⟨znew gw hgl, fun e => (h.gf x (by simp)).2 ((zl _).1 e)⟩
      · exact h.gf a (List.mem_cons_of_mem _ ha')
    · intro n hn
      refine ⟨(h.of_ n hn).1, (h.of_ n hn).2.1, fun a ha => ?_⟩
      rcases List.mem_cons.1 ha with rfl | ha'
      · exact ⟨znew n (h.ro.lt n hn).2, fun e => ((h.of_ n hn).2.2 x (by simp)).2 ((zl _).1 e)⟩
      · exact (h.of_ n hn).2.2 a (List.mem_cons_of_mem _ ha')
    · intro n hn
      refine ⟨(h.wf n hn).1, fun a ha => ?_⟩
      rcases List.mem_cons.1 ha with rfl | ha'
      · exact ⟨znew n (h.rw_.lt n hn).2, fun e => ((h.wf n hn).2 x (by simp)).2 ((zl _).1 e)⟩
      · exact (h.wf n hn).2 a (List.mem_cons_of_mem _ ha')
  · obtain ⟨hok, hz⟩ := go fun n h1 h2 h3 h4 => hF.block n h1 fun h5 => h5.elim h2 fun h6 => h6.elim h3 h4
    obtain ⟨q, m, v, L, M, S, lv⟩ := x
    dsimp only at *
    have hX : Qr.ok ⟨q, m, v, L, M, S, lv2⟩ w' B := by
      have h2 := hok ⟨q, m, v, L, M, S, lv⟩ (by simp)
      exact ⟨h2.tq, h2.mem, h2.sorted, owns_mono hl2 hB, h2.ge, fun n hn hf => by
        have := (hl2.lt n hn).1
        have := (hlt _ (List.mem_cons_self)).1 n hf
        omega, h2.small⟩
    have l2new : ∀ n, lv2.ownBlock = some n → w.heap.size ≤ n := fun n hn => (hl2.lt n hn).1
    have cell : ∀ i, i ≠ k → i ≠ 4 → i ≠ 5 → (((cs.setIfInBounds 4 vold').setIfInBounds 5 vwas').setIfInBounds k (ptr z.q))[i]? = cs[i]? := fun i h1 h2 h3 => by
      rw [Array.getElem?_setIfInBounds_ne (fun e => h1 e.symm), Array.getElem?_setIfInBounds_ne (fun e => h3 e.symm), Array.getElem?_setIfInBounds_ne (fun e => h2 e.symm)]
    -- the queues that are now: z, y, the olds, and x with the copied list
    have mem : ∀ a, a ∈ z :: y :: (olds ++ [(⟨q, m, v, L, M, S, lv2⟩ : Qr)]) → a = z ∨ a ∈ y :: olds ∨ a = ⟨q, m, v, L, M, S, lv2⟩ := fun a ha => by
      simp only [List.mem_cons, List.mem_append, List.not_mem_nil, or_false] at ha ⊢
      rcases ha with h1 | h1 | h1 | h1
      · exact .inl h1
      · exact .inr (.inl (.inl h1))
      · exact .inr (.inl (.inr h1))
      · exact .inr (.inr h1)
    have ofoot : ∀ a, a ∈ y :: olds ∨ a = (⟨q, m, v, L, M, S, lv2⟩ : Qr) → ∀ n, a.foot n → n < w.heap.size := fun a ha n hn => by
      rcases ha with ha | rfl
      · exact (hlt a (List.mem_cons_of_mem _ ha)).1 n hn
      · exact (hlt ⟨q, m, v, L, M, S, lv⟩ (by simp)).1 n hn
    refine ⟨_, z, olds ++ [⟨q, m, v, L, M, S, lv2⟩], vold', vwas', ⟨hG, by simp only [Array.size_setIfInBounds]; exact hs, hk, Array.getElem?_setIfInBounds_self_of_lt (by simp only [Array.size_setIfInBounds]; omega), ?_, ?_, ?_, ?_, ?_, ?_, ?_, ?_, ?_, ?_, ?_, ?_, ?_, h.gB, ?_⟩, hS, ?_⟩
    · rw [cell _ (by omega) (by omega) (by omega), hlv]; exact h.lx
    · rw [cell _ (by omega) (by omega) (by omega)]; exact h.cy
    · rw [cell _ (by omega) (by omega) (by omega)]; exact h.ly
    · rw [Array.getElem?_setIfInBounds_ne (by omega), Array.getElem?_setIfInBounds_ne (by omega), Array.getElem?_setIfInBounds_self_of_lt (by omega)]
    · rw [Array.getElem?_setIfInBounds_ne (by omega), Array.getElem?_setIfInBounds_self_of_lt (by simp only [Array.size_setIfInBounds]; omega)]
    · intro a ha
      rcases mem a ha with rfl | ha' | rfl
      · exact hz
      · exact hok a (List.mem_cons_of_mem _ ha')
      · exact hX
    · rw [List.length_append, List.map_append]; exact hro
    · rw [List.length_append, List.map_append]; exact hrw
    · have hz0 : ∀ a, a ∈ y :: olds ∨ a = (⟨q, m, v, L, M, S, lv2⟩ : Qr) → ∀ n, z.foot n → ¬ a.foot n := fun a ha n hn hf => znew n (ofoot a ha n hf) hn
      have hxx : ∀ a ∈ y :: olds, ∀ n, a.foot n → ¬ Qr.foot ⟨q, m, v, L, M, S, lv2⟩ n := fun a ha n hn hf => hp.1 a (List.mem_cons.1 ha) n hf hn
      rw [List.pairwise_cons, List.pairwise_cons, List.pairwise_append]
      refine ⟨fun a ha => ?_, fun a ha => ?_, hp.2.2, by simp, fun a ha b hb => ?_⟩
      · rcases mem a (List.mem_cons_of_mem _ ha) with e | h1 | h1
        · subst e
          simp only [List.mem_cons, List.mem_append, List.not_mem_nil, or_false] at ha
          rcases ha with e | ha | e
          · subst e; exact hz0 _ (.inl (by simp))
          · exact hz0 a (.inl (by simp [ha]))
          · exact hz0 a (.inr e)
        · exact hz0 a (.inl h1)
        · exact hz0 a (.inr h1)
      · rcases List.mem_append.1 ha with h1 | h1
        · exact hp.2.1 a h1
        · simp at h1; subst h1; exact hxx y (by simp)
      · simp at hb; subst hb; exact hxx a (by simp [ha])
    · intro a ha b hb n hn
      rcases mem a ha with rfl | ha' | rfl
      · have h1 := (zl n).1 hn
        have h2 := (hlt ⟨q, m, v, L, M, S, lv⟩ (by simp)).2 n h1
        rcases mem b hb with rfl | hb' | rfl
        · exact znew n h2
        · exact h.lists _ List.mem_cons_self b (List.mem_cons_of_mem _ hb') n h1
        · exact h.lists _ List.mem_cons_self _ List.mem_cons_self n h1
      · have h2 := (hlt a (List.mem_cons_of_mem _ ha')).2 n hn
        rcases mem b hb with rfl | hb' | rfl
        · exact znew n h2
        · exact h.lists a (List.mem_cons_of_mem _ ha') b (List.mem_cons_of_mem _ hb') n hn
        · exact h.lists a (List.mem_cons_of_mem _ ha') _ List.mem_cons_self n hn
      · rcases mem b hb with rfl | hb' | rfl
        · exact (d2 n hn).2.2
        · exact fun hf => by have := ofoot b (.inl hb') n hf; have := l2new n hn; omega
        · exact fun hf => by have := ofoot _ (.inr rfl) n hf; have := l2new n hn; omega
    · intro a ha
      rcases mem a ha with rfl | ha' | rfl
      · exact ⟨znew gw hgl, fun e => (h.gf _ List.mem_cons_self).2 ((zl _).1 e)⟩
      · exact h.gf a (List.mem_cons_of_mem _ ha')
      · exact ⟨(h.gf ⟨q, m, v, L, M, S, lv⟩ (by simp)).1, fun e => by have := l2new gw e; omega⟩
    · intro n hn
      refine ⟨fun e => ?_, d1 n hn, fun a ha => ?_⟩
      · subst e
        rcases ho' with h1 | h1
        · rw [h1] at hn; exact (h.of_ _ hn).1 rfl
        · have := h1 _ hn; omega
      · rcases mem a ha with rfl | ha' | rfl
        · refine ⟨d3 n (.inl hn), fun e => ?_⟩
          have e := (zl n).1 e
          rcases ho' with h1 | h1
          · rw [h1] at hn; exact ((h.of_ _ hn).2.2 _ List.mem_cons_self).2 e
          · have := h1 _ hn; have := (hlt ⟨q, m, v, L, M, S, lv⟩ (by simp)).2 n e; omega
        · have ha2 := List.mem_cons_of_mem (⟨q, m, v, L, M, S, lv⟩ : Qr) ha'
          rcases ho' with h1 | h1
          · rw [h1] at hn; exact (h.of_ _ hn).2.2 a ha2
          · have h3 := h1 _ hn
            exact ⟨fun hf => by have := (hlt a ha2).1 n hf; omega, fun hf => by have := (hlt a ha2).2 n hf; omega⟩
        · refine ⟨fun hf => ?_, fun e => (d2 n e).1 hn⟩
          have hf' : Qr.foot ⟨q, m, v, L, M, S, lv⟩ n := hf
          rcases ho' with h1 | h1
          · rw [h1] at hn; exact ((h.of_ _ hn).2.2 _ List.mem_cons_self).1 hf'
          · have := h1 _ hn; have := (hlt ⟨q, m, v, L, M, S, lv⟩ (by simp)).1 n hf'; omega
    · intro n hn
      refine ⟨fun e => ?_, fun a ha => ?_⟩
      · subst e
        rcases hw' with h1 | h1
        · rw [h1] at hn; exact (h.wf _ hn).1 rfl
        · have := h1 _ hn; omega
      · rcases mem a ha with rfl | ha' | rfl
        · refine ⟨d3 n (.inr hn), fun e => ?_⟩
          have e := (zl n).1 e
          rcases hw' with h1 | h1
          · rw [h1] at hn; exact ((h.wf _ hn).2 _ List.mem_cons_self).2 e
          · have := h1 _ hn; have := (hlt ⟨q, m, v, L, M, S, lv⟩ (by simp)).2 n e; omega
        · have ha2 := List.mem_cons_of_mem (⟨q, m, v, L, M, S, lv⟩ : Qr) ha'
          rcases hw' with h1 | h1
          · rw [h1] at hn; exact (h.wf _ hn).2 a ha2
          · have h3 := h1 _ hn
            exact ⟨fun hf => by have := (hlt a ha2).1 n hf; omega, fun hf => by have := (hlt a ha2).2 n hf; omega⟩
        · refine ⟨fun hf => ?_, fun e => (d2 n e).2.1 hn⟩
          have hf' : Qr.foot ⟨q, m, v, L, M, S, lv⟩ n := hf
          rcases hw' with h1 | h1
          · rw [h1] at hn; exact ((h.wf _ hn).2 _ List.mem_cons_self).1 hf'
          · have := h1 _ hn; have := (hlt ⟨q, m, v, L, M, S, lv⟩ (by simp)).1 n hf'; omega
    · simp; omega
    · exact hF.mono fun n _ hn => by
        rcases hn with rfl | hn | hn
        · exact h.gB
        · exact (h.ro.lt n hn).1
        · exact (h.rw_.lt n hn).1
end Go.Proofs.Ytlmmcffbpdfcjaa
