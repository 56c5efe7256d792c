/- New. -/
import Derived.Test.YtlmmcffbpdfcjaaTmN
import Derived.Carry
set_option linter.unusedSimpArgs false
set_option linter.unusedVariables false
namespace Go.Proofs.Ytlmmcffbpdfcjaa
open Go.RowKit Go.Kp Go.ChangeMaps

/-- A queue of its own, all of it new, of the timers of l. -/
def NewP (B : Nat) (w' : World) (q m : Nat) (v : Value) (L : List Tm.T) (M : Tm.T → Option Nat) (l : List Tm.T) : Prop :=
  Tq w' q m v L M ∧ (∀ x, x ∈ L ↔ x ∈ l) ∧ ∀ b, foot q m v b → B ≤ b

theorem tm_cells {w : World} {b off : Nat} {l : List Tm.T} (hc : ∀ (j : Nat) u, (l.flatMap cT)[j]? = some u → w.cell? ⟨b, off + j, none⟩ = some u) : ∀ k x, l[k]? = some x → ∀ j, j < 4 → w.cell? ⟨b, off + (k * 4 + j), none⟩ = (cT x)[j]? := fun k x hx j hj => by
  have h1 := flat_get cT 4 cT_len l k j x hx hj
  have h2 : (cT x)[j]? = some ((cT x)[j]'(by simpa using hj)) := List.getElem?_eq_getElem _
  rw [h2] at h1 ⊢
  exact hc _ _ h1
theorem cells4 {w : World} {b off : Nat} {l : List Tm.T} (hc : ∀ (j : Nat) u, (l.flatMap cT)[j]? = some u → w.cell? ⟨b, off + j, none⟩ = some u) {k : Nat} {x : Tm.T} (hx : l[k]? = some x) :
    w.cell? ⟨b, off + k * 4, none⟩ = some (.int .i64 x.a) ∧ w.cell? ⟨b, off + k * 4 + 1, none⟩ = some (.string x.k) ∧ w.cell? ⟨b, off + k * 4 + 2, none⟩ = some (.int .i64 x.s) ∧ w.cell? ⟨b, off + k * 4 + 3, none⟩ = some (.int .i64 x.e) := by
  have h := fun j hj => tm_cells hc k x hx j hj
  have h0 := h 0 (by omega)
  have h1 := h 1 (by omega)
  have h2 := h 2 (by omega)
  have h3 := h 3 (by omega)
  simp only [← Nat.add_assoc, Nat.add_zero, List.getElem?_cons_zero, List.getElem?_cons_succ] at h0 h1 h2 h3
  exact ⟨h0, h1, h2, h3⟩
/-- Of a list that is read and not empty, the address. -/
theorem rd_tms {w : World} {B : Nat} {a : Option Addr} {l : List Tm.T} (h : Rd w B a (l.flatMap cT)) (hl : 0 < l.length) : ∃ b off, a = some ⟨b, off, none⟩ ∧ b < B ∧ ∀ (j : Nat) u, (l.flatMap cT)[j]? = some u → w.cell? ⟨b, off + j, none⟩ = some u := by
  rcases h with h | h
  · have := flat_length cT 4 cT_len l
    rw [h] at this
    simp at this
    omega
  · exact h

theorem empty_q {w : World} {q m : Nat} (hq : Blk w q 59 #[.slice none 0 0, .map (some m)]) (hm : w.heap[m]? = some (.map #[] 0)) (hqm : q ≠ m) : Tq w q m (.slice none 0 0) [] (fun _ => none) :=
  ⟨⟨hq, World.ownsRow_nil _ _ _ _, Ix.made hm, hqm, by simp [Value.ownBlock], by simp [Value.ownBlock], by simp, by simp⟩, ⟨by simp, by simp⟩, fun j _ x y hx => by simp at hx⟩

set_option maxHeartbeats 2000000 in
theorem New_any {w : World} (a : Option Addr) (n cap : Nat) (l : List Tm.T) (hl : l.length = n) (hn : n ≤ 5000000000000) (hr : Rd w w.heap.size a (l.flatMap cT)) (hok : ∀ x ∈ l, Ok x) :
    Calls Try.prog 11 #[.slice a n cap] w fun en w' => ∃ q m v L M, en = .returned (ptr q) ∧ NewP w.heap.size w' q m v L M l ∧ Below w.heap.size w w' := by
  have HL := Lib.hid hl
  have HR := Lib.hid hr
  have HO := Lib.hid hok
  clear hl hr hok
  go_enter Try.func11, Try.ntmps11
  have hmk := fun w => run_makeMap (P := Try.prog) 57 w
  go_wp2_with fail
  go_loopw [11] (fun vi wr => ∃ (k : Nat) (v : Value) (L : List Tm.T) (M : Tm.T → Option Nat), vi = .int .i64 k ∧ k ≤ n ∧ NewP w.heap.size wr (w.heap.size + 1) w.heap.size v L M (l.take k) ∧ Below w.heap.size w wr) (fun vi _ => n - (intOf vi).toNat)
  case atStart =>
    refine ⟨0, .slice none 0 0, [], fun _ => none, rfl, Nat.zero_le _, ⟨empty_q ?_ ?_ (by omega), by simp, ?_⟩, by go_grown⟩
    · exact heap_at (by simp)
    · exact (heap_old (by simp)).trans (heap_at rfl)
    · rintro b (rfl | rfl | h)
      · omega
      · omega
      · cases h
  case round =>
    obtain ⟨k, v, L, M, rfl, hk, hN, hB⟩ := hrel
    have HN := Lib.hid hN
    have HB := Lib.hid hB
    rcases Nat.lt_or_ge k n with hlt | hge
    · obtain ⟨b, off, rfl, hb, hc⟩ := rd_tms (HR.out.below hB) (by rw [HL.out]; omega)
      obtain ⟨x, hx⟩ : ∃ x, l[k]? = some x := ⟨_, List.getElem?_eq_getElem (by rw [HL.out]; exact hlt)⟩
      obtain ⟨c0, c1, c2, c3⟩ := cells4 hc hx
      have hok : Ok x := HO.out x (List.mem_of_getElem? hx)
      have HX := Lib.hid hx
      have hlk : L.length ≤ k := by
        have h1 := nodup_len L (l.take k) hN.1.full.nodup (fun y hy => (hN.2.1 y).1 hy)
        simp at h1
        omega
      have HLK := Lib.hid hlk
      clear hc hx hN hB hlk
      go_wp2_with fail
      have hW : Below wr.heap.size wr (wr.alloc (.cells (cT x).toArray 25 (0, 0))) := by go_grown
      refine (Set_any (HN.out.1.below hW) x hok (by have := HLK.out; omega)).mono ?_
      rintro en w3 ⟨rfl, v', L', M', hT, hp, hturn⟩
      have hsz := HB.out.size
      have hft : ∀ b, foot (w.heap.size + 1) w.heap.size v b → w.heap.size ≤ b := HN.out.2.2
      have hN3 : NewP w.heap.size w3 (w.heap.size + 1) w.heap.size v' L' M' (l.take (k + 1)) := by
        refine ⟨hT, fun y => ?_, fun b hb => ?_⟩
        · rw [hp.mem_iff, List.take_add_one, HX.out]
          simp only [Option.toList_some, List.mem_append, List.mem_singleton, ← HN.out.2.1 y]
          by_cases hxL : x ∈ L
          · rw [if_pos hxL]
            constructor
            · exact fun h => .inl h
            · rintro (h | rfl)
              · exact h
              · exact hxL
          · rw [if_neg hxL, List.mem_cons]
            exact Or.comm
        · rcases hturn.foot b hb with h | h
          · exact hft b h
          · simp at h; omega
      have hB3 : Below w.heap.size w w3 := by
        refine (HB.out.trans (hW.mono hsz)).trans (hturn.fr.below hft ?_)
        simp; omega
      have HN3 := Lib.hid hN3
      have HB3 := Lib.hid hB3
      clear hT hp hturn hN3 hB3 hW hft c0 c1 c2 c3 hb
      go_wp2_with fail
      go_roundw
      case rel => exact ⟨k + 1, v', L', M', by go_num, by omega, HN3.out, HB3.out⟩
      case measure => simp [intOf]; omega
    · obtain rfl : k = n := by omega
      have hfin : NewP w.heap.size wr (w.heap.size + 1) w.heap.size v L M l := by
        have := HN.out
        rwa [List.take_of_length_le (by rw [HL.out]; omega)] at this
      clear hN hB
      go_wp2_with fail
      go_returns
      exact ⟨_, _, v, L, M, rfl, hfin, HB.out⟩
end Go.Proofs.Ytlmmcffbpdfcjaa
