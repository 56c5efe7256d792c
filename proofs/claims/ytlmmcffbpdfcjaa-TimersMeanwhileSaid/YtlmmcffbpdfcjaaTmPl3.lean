/- TimersPlay: one step of the script; the queues that are looked at last. -/
import Derived.Test.YtlmmcffbpdfcjaaTmPl1
set_option linter.unusedSimpArgs false
set_option linter.unusedVariables false
namespace Go.Proofs.Ytlmmcffbpdfcjaa
open Go.RowKit Go.Kp Go.ChangeMaps

theorem play_step {w : World} {B gw k N : Nat} {cs : Array Value} {x y : Qr} {olds : List Qr} {vold vwas : Value} (h : PlayS w B gw cs k x y olds vold vwas) (hB : B ≤ w.heap.size) (s : Stp) (hs : s.ok) (hon : s.on % 2 = k) (hx : x.S.length ≤ N) (hy : y.S.length ≤ N) (hN : N < 5000000000000) :
    Calls Try.prog 19 #[ptr gw, s.val] w fun en w' => en = .returned (.bool true) ∧ ∃ cs' x' olds' vold' vwas', PlayS w' B gw cs' k x' y olds' vold' vwas' ∧ x'.S.length ≤ N + 1 ∧ y.S.length ≤ N + 1 ∧ Fr (fun n => B ≤ n) w w' := by
  have hx0 : x ∈ x :: y :: olds := by simp
  by_cases h7 : s.kind = 7
  · refine (step_copy h.G h.size x (h.ok x hx0) h.cx h.lx h.kk (h.gf x hx0).1 (h.gf x hx0).2 hB s hs hon (by omega) h7 olds.length _ _ vold vwas h.co h.cw h.ro h.rw_ (fun n hn => ⟨(h.of_ n hn).1, (h.of_ n hn).2.1, (h.of_ n hn).2.2 x hx0⟩) (fun n hn => ⟨(h.wf n hn).1, (h.wf n hn).2 x hx0⟩) h.len).mono ?_
    rintro en w' ⟨rfl, hp⟩
    obtain ⟨cs', x', olds', vold', vwas', h1, h2, h3⟩ := h.copy hB hp
    exact ⟨rfl, cs', x', olds', vold', vwas', h1, by rw [h2]; omega, by omega, h3⟩
  · refine (step_plain h.G h.size x (h.ok x hx0) h.cx h.lx h.kk (h.gf x hx0).1 (h.gf x hx0).2 hB s hs hon (by omega) h7).mono ?_
    rintro en w' ⟨rfl, x', hp⟩
    obtain ⟨h1, h2⟩ := h.step hp
    have h3 := next_length s x.S
    exact ⟨rfl, _, x', olds, vold, vwas, h1, by rw [hp.s]; omega, by omega, h2⟩

/-- All queues, those that were put aside first; a of them stand in the list of queues, b in that of lists. -/
structure FinS (w : World) (B gw : Nat) (cs : Array Value) (Z : List Qr) (m a b : Nat) (vold vwas : Value) : Prop where
  G : Blk w gw 45 cs
  size : cs.size = 6
  at_ : ∀ j : Nat, j < 2 → ∃ z, Z[m + j]? = some z ∧ cs[j]? = some (ptr z.q) ∧ cs[2 + j]? = some z.lv
  co : cs[4]? = some vold
  cw : cs[5]? = some vwas
  ok : ∀ z ∈ Z, z.ok w B
  ro : w.ownsRow B 30 1 vold a ((Z.take a).map fun z => ptr z.q)
  rw_ : w.ownsRow B 29 1 vwas b ((Z.take b).map fun z => z.lv)
  gf : ∀ z ∈ Z, ¬ z.foot gw ∧ z.lv.ownBlock ≠ some gw
  of_ : ∀ n, vold.ownBlock = some n → n ≠ gw ∧ vwas.ownBlock ≠ some n ∧ ∀ z ∈ Z, ¬ z.foot n ∧ z.lv.ownBlock ≠ some n
  wf : ∀ n, vwas.ownBlock = some n → n ≠ gw ∧ ∀ z ∈ Z, ¬ z.foot n ∧ z.lv.ownBlock ≠ some n
  len : Z.length = m + 2
  ml : m ≤ 22

theorem PlayS.fin {w : World} {B gw : Nat} {cs : Array Value} {x y : Qr} {olds : List Qr} {vold vwas : Value} (h : PlayS w B gw cs 0 x y olds vold vwas) : FinS w B gw cs (olds ++ [x, y]) olds.length olds.length olds.length vold vwas := by
  have hm : ∀ z, z ∈ olds ++ [x, y] → z ∈ x :: y :: olds := fun z hz => by
    simp only [List.mem_append, List.mem_cons, List.not_mem_nil, or_false] at hz ⊢
    rcases hz with h | h | h
    · exact .inr (.inr h)
    · exact .inl h
    · exact .inr (.inl h)
  refine ⟨h.G, h.size, fun j hj => ?_, h.co, h.cw, fun z hz => h.ok z (hm z hz), by rw [List.take_left]; exact h.ro, by rw [List.take_left]; exact h.rw_, fun z hz => h.gf z (hm z hz), fun n hn => ⟨(h.of_ n hn).1, (h.of_ n hn).2.1, fun z hz => (h.of_ n hn).2.2 z (hm z hz)⟩, fun n hn => ⟨(h.wf n hn).1, fun z hz => (h.wf n hn).2 z (hm z hz)⟩, by simp, h.len⟩
  have : j = 0 ∨ j = 1 := by omega
  rcases this with rfl | rfl
  · exact ⟨x, by rw [List.getElem?_append_right (by omega)]; simp, h.cx, h.lx⟩
  · exact ⟨y, by rw [List.getElem?_append_right (by omega)]; simp, h.cy, h.ly⟩
theorem FinS.below {w w' : World} {B gw : Nat} {cs : Array Value} {Z : List Qr} {m a b : Nat} {vold vwas : Value} (h : FinS w B gw cs Z m a b vold vwas) (hb : Below w.heap.size w w') : FinS w' B gw cs Z m a b vold vwas :=
  ⟨h.G.below hb, h.size, h.at_, h.co, h.cw, fun z hz => (h.ok z hz).same (fun n hn => hb.block n ((h.ok z hz).lt.1 n hn)) fun n hn => hb.block n ((h.ok z hz).lt.2 n hn), owns_below h.ro hb, owns_below h.rw_ hb, h.gf, h.of_, h.wf, h.len, h.ml⟩
theorem take_next {Z : List Qr} {j : Nat} {z : Qr} (h : Z[j]? = some z) : Z.take (j + 1) = Z.take j ++ [z] := by rw [List.take_add_one, h]; rfl
/-- One more in the list of queues. -/
theorem FinS.pushO {w w' : World} {B gw : Nat} {cs : Array Value} {Z : List Qr} {m a b : Nat} {vold vwas vold' : Value} (h : FinS w B gw cs Z m a b vold vwas) (z : Qr) (hz : Z[a]? = some z) (keep : ∀ n, n < w.heap.size → n ≠ gw → vold.ownBlock ≠ some n → w'.heap[n]? = w.heap[n]?)
    (hG : Blk w' gw 45 (cs.setIfInBounds 4 vold')) (hr : w'.ownsRow B 30 1 vold' (a + 1) ((Z.take a).map (fun z => ptr z.q) ++ [ptr z.q])) (ho : vold'.ownBlock = vold.ownBlock ∨ ∀ n, vold'.ownBlock = some n → w.heap.size ≤ n) :
    FinS w' B gw (cs.setIfInBounds 4 vold') Z m (a + 1) b vold' vwas := by
  have hs := h.size
  have hgl := h.G.lt
  have cell : ∀ i, i ≠ 4 → (cs.setIfInBounds 4 vold')[i]? = cs[i]? := fun i hi => Array.getElem?_setIfInBounds_ne (fun e => hi e.symm)
  refine ⟨hG, by simp only [Array.size_setIfInBounds]; exact hs, fun j hj => ?_, Array.getElem?_setIfInBounds_self_of_lt (by omega), by rw [cell _ (by omega)]; exact h.cw, fun z hz => ?_, by rw [take_next hz, List.map_append]; exact hr, ?_, h.gf, fun n hn => ?_, h.wf, h.len, h.ml⟩
  · obtain ⟨z, h1, h2, h3⟩ := h.at_ j hj
    exact ⟨z, h1, by rw [cell _ (by omega)]; exact h2, by rw [cell _ (by omega)]; exact h3⟩
  · have hl := (h.ok z hz).lt
    exact (h.ok z hz).same (fun n hn => keep n (hl.1 n hn) (fun e => (h.gf z hz).1 (e ▸ hn)) fun e => ((h.of_ n e).2.2 z hz).1 hn) fun n hn => keep n (hl.2 n hn) (fun e => (h.gf z hz).2 (e ▸ hn)) fun e => ((h.of_ n e).2.2 z hz).2 hn
  · exact owns_same h.rw_ fun n hn => keep n (h.rw_.lt n hn).2 (h.wf n hn).1 fun e => (h.of_ n e).2.1 hn
  · rcases ho with h1 | h1
    · rw [h1] at hn; exact h.of_ n hn
    · have h2 := h1 n hn
      refine ⟨by omega, fun e => by have := (h.rw_.lt n e).2; omega, fun z hz => ⟨fun e => by have := (h.ok z hz).lt.1 n e; omega, fun e => by have := (h.ok z hz).lt.2 n e; omega⟩⟩
/-- One more in the list of lists. -/
theorem FinS.pushW {w w' : World} {B gw : Nat} {cs : Array Value} {Z : List Qr} {m a b : Nat} {vold vwas vwas' : Value} (h : FinS w B gw cs Z m a b vold vwas) (z : Qr) (hz : Z[b]? = some z) (keep : ∀ n, n < w.heap.size → n ≠ gw → vwas.ownBlock ≠ some n → w'.heap[n]? = w.heap[n]?)
    (hG : Blk w' gw 45 (cs.setIfInBounds 5 vwas')) (hr : w'.ownsRow B 29 1 vwas' (b + 1) ((Z.take b).map (fun z => z.lv) ++ [z.lv])) (ho : vwas'.ownBlock = vwas.ownBlock ∨ ∀ n, vwas'.ownBlock = some n → w.heap.size ≤ n) :
    FinS w' B gw (cs.setIfInBounds 5 vwas') Z m a (b + 1) vold vwas' := by
  have hs := h.size
  have hgl := h.G.lt
  have cell : ∀ i, i ≠ 5 → (cs.setIfInBounds 5 vwas')[i]? = cs[i]? := fun i hi => Array.getElem?_setIfInBounds_ne (fun e => hi e.symm)
  refine ⟨hG, by simp only [Array.size_setIfInBounds]; exact hs, fun j hj => ?_, by rw [cell _ (by omega)]; exact h.co, Array.getElem?_setIfInBounds_self_of_lt (by omega), fun z hz => ?_, ?_, by rw [take_next hz, List.map_append]; exact hr, h.gf, fun n hn => ?_, fun n hn => ?_, h.len, h.ml⟩
  · obtain ⟨z, h1, h2, h3⟩ := h.at_ j hj
    exact ⟨z, h1, by rw [cell _ (by omega)]; exact h2, by rw [cell _ (by omega)]; exact h3⟩
  · have hl := (h.ok z hz).lt
    exact (h.ok z hz).same (fun n hn => keep n (hl.1 n hn) (fun e => (h.gf z hz).1 (e ▸ hn)) fun e => ((h.wf n e).2 z hz).1 hn) fun n hn => keep n (hl.2 n hn) (fun e => (h.gf z hz).2 (e ▸ hn)) fun e => ((h.wf n e).2 z hz).2 hn
  · exact owns_same h.ro fun n hn => keep n (h.ro.lt n hn).2 (h.of_ n hn).1 (h.of_ n hn).2.1
  · refine ⟨(h.of_ n hn).1, fun e => ?_, (h.of_ n hn).2.2⟩
    rcases ho with h1 | h1
    · rw [h1] at e; exact (h.of_ n hn).2.1 e
    · have := h1 n e; have := (h.ro.lt n hn).2; omega
  · rcases ho with h1 | h1
    · rw [h1] at hn; exact h.wf n hn
    · have h2 := h1 n hn
      refine ⟨by omega, fun z hz => ⟨fun e => by have := (h.ok z hz).lt.1 n e; omega, fun e => by have := (h.ok z hz).lt.2 n e; omega⟩⟩

/-- The cells of a step of the script. -/
theorem stp_len (s : Stp) : s.cells.length = 12 := rfl
theorem stp_at {w : World} {B : Nat} {sa : Option Addr} {sc : List Stp} (h : Rd w B sa (sc.flatMap Stp.cells)) {i : Nat} {s : Stp} (hi : sc[i]? = some s) : ∃ b off, sa = some ⟨b, off, none⟩ ∧ b < B ∧ ∀ j, j < 12 → w.cell? ⟨b, off + i * 12 + j, none⟩ = s.cells[j]? := by
  have hl := flat_length Stp.cells 12 stp_len sc
  have h1 := (List.getElem?_eq_some_iff.1 hi).1
  rcases h with h | ⟨b, off, e, hb, hc⟩
  · rw [h] at hl; simp at hl; omega
  · refine ⟨b, off, e, hb, fun j hj => ?_⟩
    have h2 := flat_get Stp.cells 12 stp_len sc i j s hi hj
    have h3 : s.cells[j]? = some (s.cells[j]'(by rw [stp_len]; exact hj)) := List.getElem?_eq_getElem _
    rw [h3] at h2 ⊢
    rw [Nat.add_assoc]
    exact hc _ _ h2
end Go.Proofs.Ytlmmcffbpdfcjaa
