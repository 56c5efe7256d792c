/- One step of the law's script: what lies in memory, and the way to the step's kind. -/
import Derived.Test.YtlmmcffbpdfcjaaTmWk
set_option linter.unusedSimpArgs false
set_option linter.unusedVariables false
namespace Go.Proofs.Ytlmmcffbpdfcjaa
open Go.RowKit Go.Kp Go.ChangeMaps

/-- A queue with the document's list beside it. -/
structure Qr where
  (q m : Nat) (v : Value) (L : List Tm.T) (M : Tm.T → Option Nat) (S : List Tm.T) (lv : Value)
abbrev Qr.foot (x : Qr) (b : Nat) : Prop := Proofs.Ytlmmcffbpdfcjaa.foot x.q x.m x.v b
structure Qr.ok (x : Qr) (w : World) (B : Nat) : Prop where
  tq : Tq w x.q x.m x.v x.L x.M
  mem : ∀ t, t ∈ x.L ↔ t ∈ x.S
  sorted : x.S.Pairwise Tm.lt
  list : w.ownsRow B 25 4 x.lv x.S.length (x.S.flatMap cT)
  ge : ∀ b, x.foot b → B ≤ b
  off : ∀ b, x.lv.ownBlock = some b → ¬ x.foot b
  small : x.S.length ≤ 5000000000000

abbrev R64 (n : Int) : Prop := -9223372036854775808 ≤ n ∧ n ≤ 9223372036854775807
/-- A step of the script. -/
structure Stp where
  (kind on leave : Int) (t u : Tm.T) (upto : Int)
abbrev Stp.cells (s : Stp) : List Value := [.int .i64 s.kind, .int .i64 s.on, .int .i64 s.leave, .int .i64 s.t.a, .string s.t.k, .int .i64 s.t.s, .int .i64 s.t.e, .int .i64 s.u.a, .string s.u.k, .int .i64 s.u.s, .int .i64 s.u.e, .int .i64 s.upto]
abbrev Stp.val (s : Stp) : Value := .agg s.cells.toArray
structure Stp.ok (s : Stp) : Prop where
  kind : R64 s.kind
  on : R64 s.on
  leave : R64 s.leave
  t : Ok s.t
  u : Ok s.u
  upto : R64 s.upto
/-- The document's list behind a step. -/
def Stp.next (s : Stp) (S : List Tm.T) : List Tm.T :=
  if s.kind = 1 then Tm.set S s.t else if s.kind = 2 then Tm.drop S s.t else if s.kind = 3 then Tm.set (Tm.drop S s.t) s.u else if s.kind = 5 then S.drop (Tm.due S s.upto) else S

/-- What a step leaves of the queue that it is about. -/
structure StepP (w w' : World) (B gw k : Nat) (cs : Array Value) (x x' : Qr) (S' : List Tm.T) : Prop where
  blk : Blk w' gw 45 (cs.setIfInBounds (2 + k) x'.lv)
  ok : x'.ok w' B
  q : x'.q = x.q
  s : x'.S = S'
  fr : Fr (fun b => x.foot b ∨ b = gw) w w'
  foot : ∀ b, x'.foot b → x.foot b ∨ w.heap.size ≤ b
  list : ∀ b, x'.lv.ownBlock = some b → x.lv.ownBlock = some b ∨ w.heap.size ≤ b

theorem on_mod (n : Int) : (Int.tmod (Int.tmod n 2 + 2) 2) = n % 2 := by
  have h1 : Int.tmod n 2 = n % 2 ∨ (Int.tmod n 2 = n % 2 - 2 ∧ n % 2 = 1) := by
    rw [Int.tmod_eq_emod]
    split
    · left; omega
    · right
      rename_i h
      have : ¬ (2 : Int) ∣ n := fun hd => h (.inr hd)
      simp
      omega
  have h2 : 0 ≤ Int.tmod n 2 + 2 := by omega
  rw [Int.tmod_eq_emod_of_nonneg h2]
  omega
theorem tmod2 (n : Int) : -2 < Int.tmod n 2 ∧ Int.tmod n 2 < 2 := by
  rw [Int.tmod_eq_emod]
  split
  · omega
  · simp; omega

/-- The end of a step that has turned the queue and made a list. -/
theorem step_fin {w w2 w4 : World} {B gw k q m : Nat} {cs : Array Value} {v v2 lv v' : Value} {L L2 S S2 : List Tm.T} {M M2 : Tm.T → Option Nat} (X : Qr.ok ⟨q, m, v, L, M, S, lv⟩ w B) (hB : B ≤ w.heap.size) (hgl : lv.ownBlock ≠ some gw)
    (hgw : gw < w.heap.size) (G4 : Blk w4 gw 45 cs) (hTU : Turn w w2 q m v v2) (hT2 : Tq w2 q m v2 L2 M2) (hb : Below w2.heap.size w2 w4) (hmem : ∀ t, t ∈ L2 ↔ t ∈ S2) (hs : S2.Pairwise Tm.lt)
    (hown : w4.ownsRow B 25 4 v' S2.length (S2.flatMap cT)) (hv : v' = lv ∨ ∀ g, v'.ownBlock = some g → w2.heap.size ≤ g) (hsm : S2.length ≤ 5000000000000) (hgf : ¬ foot q m v gw) :
    StepP w (w4.setCell ⟨gw, 2 + k, none⟩ v') B gw k cs ⟨q, m, v, L, M, S, lv⟩ ⟨q, m, v2, L2, M2, S2, v'⟩ S2 := by
  have hg4 : ∀ b, b ≠ gw → (w4.setCell ⟨gw, 2 + k, none⟩ v').heap[b]? = w4.heap[b]? := fun b hb => heap_set_ne _ _ _ _ _ hb
  have hf2 : ∀ b, foot q m v2 b → b ≠ gw := fun b hf e => by
    subst e
    rcases hTU.foot b hf with h | h
    · exact hgf h
    · omega
  have hvg : ∀ b, v'.ownBlock = some b → b ≠ gw := fun b hb e => by
    subst e
    rcases hv with h | h
    · rw [h] at hb; exact hgl hb
    · have := h b hb; have := hTU.fr.size; omega
  refine ⟨?_, ⟨?_, hmem, hs, ?_, ?_, ?_, hsm⟩, rfl, rfl, ?_, ?_, ?_⟩
  · unfold Blk at G4 ⊢
    rw [heap_set_same, G4]
    rfl
  · exact (hT2.below hb).same fun b hf => hg4 b (hf2 b hf)
  · exact owns_same hown fun b hb => hg4 b (hvg b hb)
  · intro b hf
    rcases hTU.foot b hf with h | h
    · exact X.ge b h
    · omega
  · intro b hb' hf
    rcases hv with h | h
    · rw [h] at hb'
      rcases hTU.foot b hf with h2 | h2
      · exact X.off b hb' h2
      · have := (X.list.lt b hb').2; omega
    · have := h b hb'
      have := hT2.raw.lt b hf
      omega
  · refine (show Fr (fun b => foot q m v b ∨ b = gw) w w4 from ?_).set _ (.inr rfl)
    exact (hTU.fr.mono fun b _ h => .inl h).trans ⟨hb.os, hb.tape, hb.output, hb.size, fun b hlt _ => hb.block b hlt⟩
  · exact hTU.foot
  · intro b hb'
    rcases hv with h | h
    · exact .inl (h ▸ hb')
    · exact .inr (Nat.le_trans hTU.fr.size (h b hb'))
/-- .. of one that leaves all as it is. -/
theorem step_still {w w' : World} {B gw k : Nat} {cs : Array Value} {x : Qr} (X : x.ok w B) (G : Blk w gw 45 cs) (dk : cs[2 + k]? = some x.lv) (hb : Below w.heap.size w w') : StepP w w' B gw k cs x x x.S := by
  have e : cs.setIfInBounds (2 + k) x.lv = cs := by
    apply Array.ext_getElem?
    intro i
    rw [Array.getElem?_setIfInBounds]
    split
    · rename_i h
      subst h
      split
      · exact dk.symm
      · rename_i h2
        rw [Array.getElem?_eq_none (by omega)]
    · rfl
  exact ⟨by rw [e]; exact G.below hb, ⟨X.tq.below hb, X.mem, X.sorted, owns_below X.list hb, X.ge, X.off, X.small⟩, rfl, rfl, Fr.next hb, fun b h => .inl h, fun b h => .inl h⟩
/-- Blocks that are the step's own turn, behind it. -/
theorem StepP.later {w w' w2 : World} {B gw k : Nat} {cs : Array Value} {x x' : Qr} {S' : List Tm.T} {N : Nat → Prop} (h : StepP w w' B gw k cs x x' S') (hf : Fr N w' w2) (hN : ∀ b, N b → w.heap.size ≤ b) (hN2 : ∀ b, N b → ¬ x'.foot b) (hN3 : ∀ b, N b → x'.lv.ownBlock ≠ some b) (hg : gw < w.heap.size) :
    StepP w w2 B gw k cs x x' S' := by
  refine ⟨(hf.block gw h.blk.lt (fun hn => by have := hN _ hn; omega)).trans h.blk, ⟨h.ok.tq.same fun b hb => hf.block b (h.ok.tq.raw.lt b hb) fun hn => hN2 b hn hb, h.ok.mem, h.ok.sorted, owns_same h.ok.list fun b hb => hf.block b (h.ok.list.lt b hb).2 fun hn => hN3 b hn hb, h.ok.ge, h.ok.off, h.ok.small⟩, h.q, h.s, ?_, h.foot, h.list⟩
  exact ⟨hf.os.trans h.fr.os, hf.tape.trans h.fr.tape, hf.output.trans h.fr.output, Nat.le_trans h.fr.size hf.size, fun b hb hn => (hf.block b (Nat.lt_of_lt_of_le hb h.fr.size) fun hn2 => by have := hN b hn2; omega).trans (h.fr.block b hb hn)⟩
end Go.Proofs.Ytlmmcffbpdfcjaa
