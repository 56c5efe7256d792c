/- A hash: New, Write, Sum, Len, Reset, Copy. -/
import Derived.Test.YtcjmobikjegioaaDoorCE
set_option linter.unusedSimpArgs false
set_option linter.unusedVariables false
namespace Go.Proofs.YtcjmobikjegioaaDoor
open Go.RowKit Go.Kp

def hcells (s : BitVec 32) (n : Int) : Array Value := #[U s, .int .i64 n]

theorem new_any (w : World) :
    Calls Tryd.prog 29 #[] w fun e w' => e = .returned (.pointer (some ⟨w.heap.size, 0, none⟩)) ∧ w' = w.alloc (.cells (hcells 0#32 0) 58) := by
  go_enter Tryd.func29, Tryd.ntmps29
  go_wp2
  go_returns
  exact ⟨rfl, rfl⟩

theorem num_any (n : Int) (w : World) : Calls Tryd.prog 30 #[.int .i64 n] w (Ret (.int .i64 n) w) := by
  go_enter Tryd.func30, Tryd.ntmps30
  go_wp2
  go_returns
  exact ⟨rfl, by go_grown⟩

theorem hsum_any (g : Nat) (s : BitVec 32) (n : Int) (w : World) (h : Blk w g 58 (hcells s n)) :
    Calls Tryd.prog 34 #[.pointer (some ⟨g, 0, none⟩)] w (Ret (U s) w) := by
  have c0 : w.cell? ⟨g, 0, none⟩ = some (U s) := h.cell 0
  go_enter Tryd.func34, Tryd.ntmps34
  go_wp2
  go_returns
  exact ⟨rfl, by go_grown⟩
theorem hlen_any (g : Nat) (s : BitVec 32) (n : Int) (w : World) (h : Blk w g 58 (hcells s n)) :
    Calls Tryd.prog 35 #[.pointer (some ⟨g, 0, none⟩)] w (Ret (.int .i64 n) w) := by
  have c0 : w.cell? ⟨g, 1, none⟩ = some (.int .i64 n) := h.cell 1
  go_enter Tryd.func35, Tryd.ntmps35
  go_wp2
  go_returns
  exact ⟨rfl, by go_grown⟩

theorem grown_next {a b c : World} {g : Nat} (h : a.grownBy b (some g)) (hb : Below b.heap.size b c) : a.grownBy c (some g) := grown_below h hb

set_option maxHeartbeats 2000000 in
theorem write_any (g : Nat) (s : BitVec 32) (m : Int) (a : Option Addr) (n cap : Nat) (vs : List Value) (ls : List (List UInt8)) (w : World) (hT : Tab w) (hg0 : 0 < g) (hA : Blk w g 58 (hcells s m))
    (hl : ls.length = n) (hn : n ≤ 281474976710656) (hm0 : 0 ≤ m) (hm : m + ls.flatten.length ≤ 9223372036854775807) (hX : ∀ w', w.grownBy w' (some g) → Txts w' w'.heap.size a vs ls) :
    Calls Tryd.prog 31 #[.pointer (some ⟨g, 0, none⟩), .slice a n cap] w
      fun e w' => e = .returned (.int .i64 0) ∧ Blk w' g 58 (hcells (Crc.more s ls.flatten) (m + ls.flatten.length)) ∧ w.grownBy w' (some g) := by
  have HN := Lib.hid hl
  have HX := Lib.hid hX
  have HT := Lib.hid hT
  have HA := Lib.hid hA
  have HM := Lib.hid hm
  obtain ⟨hnp⟩ : Nonempty (n ≤ 281474976710656) := ⟨hn⟩
  have hgl := hA.lt
  clear hl hX hT hA hm
  go_enter Tryd.func31, Tryd.ntmps31
  go_wp2_with fail
  go_loopw [11] (fun i wr => ∃ k : Nat, k ≤ n ∧ i = .int .i64 k ∧ Blk wr g 58 (hcells (Crc.more s (ls.take k).flatten) (m + (ls.take k).flatten.length)) ∧ w.grownBy wr (some g)) (fun i _ => n - (intOf i).toNat)
  case atStart => exact ⟨0, Nat.zero_le _, rfl, by simpa [Crc.more, Crc.raw] using HA.out, World.grownBy.refl _ _⟩
  case round =>
    obtain ⟨k, hk, rfl, A, hB⟩ := hrel
    rcases Nat.lt_or_ge k n with hlt | hge
    · obtain ⟨l, hz⟩ : ∃ z, ls[k]? = some z := ⟨_, List.getElem?_eq_getElem (by rw [HN.out]; exact hlt)⟩
      have HV := Lib.hid (HX.out wr hB)
      obtain ⟨v, hv⟩ : ∃ z, vs[k]? = some z := ⟨_, List.getElem?_eq_getElem (by rw [HV.out.1, HN.out]; exact hlt)⟩
      have HL := Lib.hid (HV.out.2.2 k v l hv hz)
      have HS := Lib.hid (show Crc.more s (ls.take (k + 1)).flatten = Crc.more (Crc.more s (ls.take k).flatten) l by rw [flatten_snoc ls k l hz, Crc.more_append])
      have HF := Lib.hid (show (ls.take (k + 1)).flatten.length = (ls.take k).flatten.length + l.length by rw [flatten_snoc ls k l hz, List.length_append])
      have hfl : (ls.take (k + 1)).flatten.length ≤ ls.flatten.length := by
        conv => rhs; rw [← List.take_append_drop (k + 1) ls, List.flatten_append, List.length_append]
        omega
      have hmb : m + (ls.take k).flatten.length + l.length ≤ 9223372036854775807 := by
        have h1 := HM.out; have h2 := HF.out; omega
      have T0 : Tab wr := ⟨Nat.lt_of_lt_of_le HT.out.1 hB.size, fun i n hn => (World.cell?_of_block (a := ⟨0, i, none⟩) (hB.block 0 HT.out.1 (fun e => by cases e; omega))).trans (HT.out.2 i n hn)⟩
      have HT0 := Lib.hid T0
      clear T0 hfl
      rcases HV.out.2.1 with hr | ⟨b, off, rfl, hbl, hc⟩
      · rw [hr] at hv; simp at hv
      · have e0 : wr.cell? ⟨b, off + k, none⟩ = some v := hc k _ hv
        obtain ⟨va, vc, rfl⟩ : ∃ va vc, v = .slice va l.length vc := by
          obtain ⟨va, vc, h, _⟩ := HL.out
          exact ⟨va, vc, h⟩
        clear hz hv hbl hc
        generalize Crc.more s (ls.take k).flatten = r at *
        generalize (ls.take k).flatten.length = q at *
        generalize hll : l.length = ll at *
        have HLL := Lib.hid hll
        clear hll
        have l0 := A.lt
        have c0 : wr.cell? ⟨g, 0, none⟩ = some (U r) := A.cell 0
        go_wp2_with fail
        refine (more_any r _ l _ HT0.out HL.out).mono ?_
        rintro en w1 ⟨rfl, hb1⟩
        have A1 := A.below hb1
        have hB1 : w.grownBy w1 (some g) := grown_next hB hb1
        clear A hB l0 c0 hb1 e0
        have l1 := A1.lt
        have c0 : w1.cell? ⟨g, 0, none⟩ = some (U r) := A1.cell 0
        have c1 : w1.cell? ⟨g, 1, none⟩ = some (.int .i64 (m + q)) := A1.cell 1
        have f0 := A1.free 0
        have f1 := A1.free 1
        go_wp2_with fail
        go_roundw
        case rel =>
          refine ⟨k + 1, by omega, by go_num, ?_, ?_⟩
          · rw [HS.out, HF.out]
            unfold Blk at A1; simp (disch := (first | omega | (simp only [World.size_alloc, World.size_setCell, World.size_drew] <;> omega) | fail)) only [Blk, heap_old, heap_at, heap_set_same, heap_set_ne, heap_drew', Option.map_some, putO_cells, A1]
            simp [hcells, Int.add_assoc]
          · exact grown_set (grown_set hB1)
        case measure => simp [intOf]; omega
    · have hk2 : k = n := by omega
      have ht : ls.take k = ls := by rw [hk2, ← HN.out]; exact List.take_length
      rw [ht] at A
      go_wp2_with fail
      go_returns
      exact ⟨rfl, A, hB⟩
end Go.Proofs.YtcjmobikjegioaaDoor
