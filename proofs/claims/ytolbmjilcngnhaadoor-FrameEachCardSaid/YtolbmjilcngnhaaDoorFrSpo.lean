/- Bytes that are written over, whatever they are; worlds that differ between two block numbers alone. -/
import Derived.Test.YtolbmjilcngnhaaDoorFrSame
set_option linter.unusedSimpArgs false
set_option linter.unusedVariables false
namespace Go.Proofs.YtolbmjilcngnhaaDoor
open Go.RowKit Go.Kp

/-- Bytes in memory of their own: nothing, or a block whose first n cells are bytes. -/
def Byt (w : World) (v : Value) (n : Nat) : Prop :=
  (v = .slice none 0 0 ∧ n = 0) ∨ ∃ g c cs, v = .slice (some ⟨g, 0, none⟩) n c ∧ Blk w g 5 cs ∧ n ≤ c ∧ c ≤ maxLen ∧ ∀ k, k < n → ∃ z : UInt8, cs[k]? = some (B8 z)
theorem byt_of_own {w : World} {base : Nat} {v : Value} {n : Nat} {l : List UInt8} (h : w.ownsRow base 5 1 v n (l.map B8)) : Byt w v n := by
  have hl : l.length = n := by have := h.1; simpa using this
  rcases h.2 with ⟨h1, h2⟩ | ⟨g, c, cs, rfl, h1, h2, h3, h4, h5, h6⟩
  · exact .inl ⟨h1, h2⟩
  · refine .inr ⟨g, c, cs, rfl, h2, h3, h4, fun k hk => ?_⟩
    have e : (cs.toList.take (n * 1))[k]? = (l.map B8)[k]? := by rw [h6]
    rw [List.getElem?_take_of_lt (by omega), List.getElem?_map, List.getElem?_eq_getElem (show k < l.length by omega)] at e
    exact ⟨l[k], by simpa using e⟩
theorem Byt.heap {w w' : World} {v : Value} {n : Nat} (h : Byt w v n) (hh : ∀ g, v.ownBlock = some g → w'.heap[g]? = w.heap[g]?) : Byt w' v n := by
  rcases h with h | ⟨g, c, cs, rfl, h1, h2⟩
  · exact .inl h
  · exact .inr ⟨g, c, cs, rfl, (hh g rfl).trans h1, h2⟩

/-- Below s1 and from s2 on all is as it was. -/
def Out (s1 s2 : Nat) (w w' : World) : Prop := Below s1 w w' ∧ w'.heap.size = w.heap.size ∧ ∀ k : Nat, s2 ≤ k → w'.heap[k]? = w.heap[k]?
theorem Out.refl (s1 s2 : Nat) (w : World) : Out s1 s2 w w := ⟨Below.refl _ _, rfl, fun _ _ => rfl⟩
theorem Out.trans {s1 s2 : Nat} {a b c : World} (h : Out s1 s2 a b) (k : Out s1 s2 b c) : Out s1 s2 a c := ⟨h.1.trans k.1, k.2.1.trans h.2.1, fun x hx => (k.2.2 x hx).trans (h.2.2 x hx)⟩
theorem Out.block {s1 s2 : Nat} {w w' : World} (h : Out s1 s2 w w') {g : Nat} (hg : g < s1 ∨ s2 ≤ g) : w'.heap[g]? = w.heap[g]? := by
  rcases hg with hg | hg
  · exact h.1.block g hg
  · exact h.2.2 g hg
theorem Out.wide {s1 s2 t1 t2 : Nat} {w w' : World} (h : Out s1 s2 w w') (h1 : t1 ≤ s1) (h2 : s2 ≤ t2) : Out t1 t2 w w' := ⟨h.1.mono h1, h.2.1, fun k hk => h.2.2 k (Nat.le_trans h2 hk)⟩
theorem Out.own {s1 s2 lo : Nat} {w w' : World} (h : Out s1 s2 w w') {e : TypeId} {size : Nat} {u : Value} {n : Nat} {xs : List Value} (ho : w.ownsRow lo e size u n xs) (hu : ∀ g, u.ownBlock = some g → g < s1 ∨ s2 ≤ g) : w'.ownsRow lo e size u n xs := by
  refine ⟨ho.1, ?_⟩
  rcases ho.2 with h' | ⟨gy, cap, cur, e1, e2, e3, e4⟩
  · exact .inl h'
  · exact .inr ⟨gy, cap, cur, e1, e2, (h.block (hu gy (by rw [e1]; rfl))).trans e3, e4⟩
theorem Out.byt {s1 s2 : Nat} {w w' : World} (h : Out s1 s2 w w') {v : Value} {n : Nat} (hb : Byt w v n) (hu : ∀ g, v.ownBlock = some g → g < s1 ∨ s2 ≤ g) : Byt w' v n := hb.heap fun g hg => h.block (hu g hg)
theorem Out.rws {s1 s2 lo : Nat} {w w' : World} (h : Out s1 s2 w w') {v : Value} {bs : List Bk} (hr : Rws w lo v bs) (hlo : s2 ≤ lo) : Rws w' lo v bs :=
  ⟨h.own hr.1 fun g hg => .inr (Nat.le_trans hlo (hr.1.lt g hg).1), fun x hx => ⟨h.own (hr.2 x hx).1 fun g hg => .inr (Nat.le_trans hlo ((hr.2 x hx).1.lt g hg).1), (hr.2 x hx).2⟩⟩
theorem Out.blk {s1 s2 : Nat} {w w' : World} (h : Out s1 s2 w w') {g : Nat} {t : TypeId} {cs : Array Value} (hb : Blk w g t cs) (hg : g < s1 ∨ s2 ≤ g) : Blk w' g t cs := (h.block hg).trans hb
theorem Out.lent {s1 s2 : Nat} {w w' : World} (h : Out s1 s2 w w') {x c : Nat} {l : List UInt8} (hL : Lent w x c l) (hx : x < s1 ∨ s2 ≤ x) : Lent w' x c l := by
  obtain ⟨h1, h2, h3, h4⟩ := hL
  refine ⟨by rw [h.2.1]; exact h1, h2, h3, fun j u hu => ?_⟩
  exact (World.cell?_of_block (a := ⟨x, j, none⟩) (h.block hx)).trans (h4 j u hu)

/-- Bytes stay bytes. -/
def StillB (w w' : World) (b : Option Nat) : Prop :=
  (∀ k : Nat, b ≠ some k → w'.heap[k]? = w.heap[k]?) ∧ w'.heap.size = w.heap.size ∧ w.grownBy w' b ∧ ∀ v n, Byt w v n → Byt w' v n
attribute [local go_sem high] xor_byte

set_option maxHeartbeats 1000000 in
theorem spoilt_b (v : Value) (n : Nat) (w : World) (hb : Byt w v n) (hm : n ≤ 70368744177664) :
    Calls Tryd.prog 19 #[v] w fun e w' => e = .returned (.tuple #[]) ∧ StillB w w' v.ownBlock := by
  rcases hb with ⟨rfl, rfl⟩ | ⟨g, c, cs, rfl, hA, hnc, hcm, hz⟩
  · go_enter Tryd.func19, Tryd.ntmps19
    go_wp2_with fail
    go_loopw [2] (fun i wr => i = .int .i64 0 ∧ wr = w) (fun i _ => 0)
    case atStart => exact ⟨rfl, rfl⟩
    case round =>
      obtain ⟨rfl, rfl⟩ := hrel
      go_wp2_with fail
      refine bodyPost_end (v := .tuple #[]) (by simp [results, Tryd.results19]) rfl ⟨rfl, fun _ _ => rfl, rfl, World.grownBy.refl _ _, fun _ _ h => h⟩
  · have HZ := Lib.hid hz
    have hmx : maxLen = 9223372036854775807 := rfl
    rw [hmx] at hcm
    clear hz hmx
    go_enter Tryd.func19, Tryd.ntmps19
    go_wp2_with fail
    go_loopw [2] (fun i wr => ∃ k : Nat, k ≤ n ∧ i = .int .i64 k ∧ (∃ ds : Array Value, Blk wr g 5 ds ∧ ∀ (j : Nat) (z : UInt8), cs[j]? = some (B8 z) → ∃ z' : UInt8, ds[j]? = some (B8 z')) ∧ Only g w wr) (fun i _ => n - (intOf i).toNat)
    case atStart => exact ⟨0, Nat.zero_le _, rfl, ⟨cs, hA, fun _ z h => ⟨z, h⟩⟩, Only.refl _ _⟩
    case round =>
      obtain ⟨k, hk, rfl, ⟨ds, hD, hs⟩, hO⟩ := hrel
      have HO := Lib.hid hO
      have HS := Lib.hid hs
      clear hO hs
      rcases Nat.lt_or_ge k n with hlt | hge
      · obtain ⟨z0, hz0⟩ := HZ.out k hlt
        obtain ⟨z, hz⟩ := HS.out k z0 hz0
        have e0 : wr.cell? ⟨g, k, none⟩ = some (B8 z) := (hD.cell k).trans hz
        have f0 := hD.free k
        have zb := byte_bd z
        have lD := hD.lt
        have HZ0 := Lib.hid hz
        clear hz0 hz
        go_wp2_with fail
        go_roundw
        case rel =>
          refine ⟨k + 1, by omega, by go_num, ⟨ds.setIfInBounds k (B8 (z ^^^ 90)), ?_, fun j y hy => ?_⟩, ?_⟩
          · rw [show B8 (z ^^^ 90) = Value.int .u8 ((z.toNat ^^^ 90 : Nat) : Int) by
              show Value.int .u8 (((z ^^^ 90).toNat : Nat) : Int) = _
              rw [UInt8.toNat_xor]; rfl]
            unfold Blk at hD; simp (disch := (first | omega | (simp only [World.size_alloc, World.size_setCell, World.size_drew] <;> omega) | fail)) only [Blk, heap_old, heap_at, heap_set_same, heap_set_ne, heap_drew', Option.map_some, putO_cells, hD]
          · by_cases hjk : k = j
            · subst hjk
              have hlt := (Array.getElem?_eq_some_iff.1 HZ0.out).1
              exact ⟨z ^^^ 90, by simp [hlt]⟩
            · rw [Array.getElem?_setIfInBounds_ne hjk]
              exact HS.out j y hy
          · refine ⟨HO.out.1.trans (by go_grown), ?_, fun x hx => ?_⟩
            · simp; exact HO.out.2.1
            · rw [heap_set_ne _ _ _ _ _ hx]
              exact HO.out.2.2 x hx
        case measure => simp [intOf]; omega
      · obtain rfl : k = n := by omega
        go_wp2_with fail
        refine bodyPost_end (v := .tuple #[]) (by simp [results, Tryd.results19]) rfl ⟨rfl, fun x hx => HO.out.2.2 x (fun e => hx (by rw [e]; rfl)), HO.out.2.1, ?_, fun v m hb => ?_⟩
        · have h := HO.out.1
          exact ⟨h.os, h.tape, h.output, h.size, fun x _ hne => HO.out.2.2 x (fun e => hne (by rw [e]; rfl))⟩
        · rcases hb with hb | ⟨g', c', cs', rfl, h1, h2, h3, h4⟩
          · exact .inl hb
          · by_cases hg : g' = g
            · subst hg
              obtain rfl : cs' = cs := by
                have := h1.symm.trans hA
                simpa using this
              exact .inr ⟨g', c', ds, rfl, hD, h2, h3, fun j hj => by obtain ⟨z, hz⟩ := h4 j hj; exact HS.out j z hz⟩
            · exact .inr ⟨g', c', cs', rfl, (HO.out.2.2 g' hg).trans h1, h2, h3, h4⟩
theorem StillB.out {w w' : World} {b : Option Nat} {s1 s2 : Nat} (h : StillB w w' b) (hb : ∀ g, b = some g → s1 ≤ g ∧ g < s2) : Out s1 s2 w w' :=
  ⟨⟨h.2.2.1.os, h.2.2.1.tape, h.2.2.1.output, h.2.2.1.size, fun k hk => h.1 k (fun e => by have := hb k e; omega)⟩, h.2.1, fun k hk => h.1 k (fun e => by have := hb k e; omega)⟩
end Go.Proofs.YtolbmjilcngnhaaDoor
