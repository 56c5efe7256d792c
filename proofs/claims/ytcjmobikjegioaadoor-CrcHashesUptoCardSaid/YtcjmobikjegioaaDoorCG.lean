/- The chapter's examples: works. -/
import Derived.Test.YtcjmobikjegioaaDoorCF
import Derived.Lib.SlBytesConst
set_option linter.unusedSimpArgs false
set_option linter.unusedVariables false
namespace Go.Proofs.YtcjmobikjegioaaDoor
open Go.RowKit Go.Kp

theorem txt_of {w : World} {g c n : Nat} (l : List UInt8) (hn : l.length = n) (hl : n ≤ 281474976710656) (h : ∃ t fr, w.heap[g]? = some (.cells (l.map B8).toArray t fr)) :
    Txt w w.heap.size (.slice (some ⟨g, 0, none⟩) n c) l := by
  subst hn
  obtain ⟨t, fr, h⟩ := h
  have hlt : g < w.heap.size := by
    rcases Nat.lt_or_ge g w.heap.size with hlt | hge
    · exact hlt
    · rw [Array.getElem?_eq_none hge] at h; cases h
  exact ⟨_, c, rfl, (fun h => by cases h), hl, .inr ⟨g, 0, rfl, hlt, fun j u hu => by rw [Nat.zero_add, cell_of_row w g j _ _ _ h]; simpa using hu⟩⟩
theorem txts_of {w : World} {g : Nat} {t : TypeId} {fr : Nat × Nat} {vs : List Value} {ls : List (List UInt8)} (h : w.heap[g]? = some (.cells vs.toArray t fr)) (hl : vs.length = ls.length) (hx : ∀ (k : Nat) v l, vs[k]? = some v → ls[k]? = some l → Txt w w.heap.size v l) :
    Txts w w.heap.size (some ⟨g, 0, none⟩) vs ls := by
  have hlt : g < w.heap.size := by
    rcases Nat.lt_or_ge g w.heap.size with hlt | hge
    · exact hlt
    · rw [Array.getElem?_eq_none hge] at h; cases h
  exact ⟨hl, .inr ⟨g, 0, rfl, hlt, fun j u hu => by rw [Nat.zero_add, cell_of_row w g j _ _ _ h]; simpa using hu⟩, hx⟩
theorem txts_one {w : World} {g : Nat} {t : TypeId} {fr : Nat × Nat} {v : Value} {l : List UInt8} (h : w.heap[g]? = some (.cells #[v] t fr)) (hx : Txt w w.heap.size v l) :
    Txts w w.heap.size (some ⟨g, 0, none⟩) [v] [l] := by
  refine txts_of h rfl fun k v' l' h1 h2 => ?_
  cases k with
  | zero => simp at h1 h2; subst h1 h2; exact hx
  | succ k => simp at h1
theorem txts_two {w : World} {g : Nat} {t : TypeId} {fr : Nat × Nat} {v v2 : Value} {l l2 : List UInt8} (h : w.heap[g]? = some (.cells #[v, v2] t fr)) (hx : Txt w w.heap.size v l) (hx2 : Txt w w.heap.size v2 l2) :
    Txts w w.heap.size (some ⟨g, 0, none⟩) [v, v2] [l, l2] := by
  refine txts_of h rfl fun k v' l' h1 h2 => ?_
  match k with
  | 0 => simp at h1 h2; subst h1 h2; exact hx
  | 1 => simp at h1 h2; subst h1 h2; exact hx2
  | k + 2 => simp at h1

def d4 : List UInt8 := [49, 50, 51, 52]
def d5 : List UInt8 := [53, 54, 55, 56, 57]
def d9 : List UInt8 := [49, 50, 51, 52, 53, 54, 55, 56, 57]
theorem sum_d9 : U (Crc.more 0#32 [d4, d5].flatten) = .int .u32 3808858755 := congrArg (Value.int .u32) (by decide +kernel)
theorem sum_d9' : U (Crc.more 0#32 [d9].flatten) = .int .u32 3808858755 := congrArg (Value.int .u32) (by decide +kernel)
theorem from_d9 : U (BitVec.ofNat 32 (Crc.le4 131 146 6 227)) = .int .u32 3808858755 := congrArg (Value.int .u32) (by decide +kernel)
theorem join_d9 : U (Crc.steps (8 * (5 : Int).toNat) (Crc.more 0#32 d4) ^^^ Crc.more 0#32 d5) = .int .u32 3808858755 := congrArg (Value.int .u32) (by decide +kernel)
theorem zeros4 : U (zerosOf 4) = .int .u32 1214729159 := congrArg (Value.int .u32) (by decide +kernel)
theorem tab_alloc {w : World} (h : Tab w) (o : Obj) : Tab (w.alloc o) := h.next (by go_grown)

theorem const_at (w : World) (C : Array Value) (n c g : Nat) (h : g = w.heap.size) :
    (convert 24 24 (.slice (some ⟨g, 0, none⟩) n c)).run Tryd.prog (w.alloc (.cells C 5)) = .ok (.slice (some ⟨g, 0, none⟩) n c) (w.alloc (.cells C 5 (C.size, C.size + 1))) := by
  subst h
  exact Lib.run_convert_bytes_const (P := Tryd.prog) w 24 5 C n c Tryd.underlying24 Tryd.underlying5

set_option maxHeartbeats 4000000 in
theorem works_any (w : World) (hT : Tab w) : Calls Tryd.prog 17 #[] w (Ret (.bool true) w) := by
  have HT := Lib.hid hT
  clear hT
  have kc := const_at
  go_enter Tryd.func17, Tryd.ntmps17
  go_wp2_with fail
  refine (sum_any _ 2 2 [_, _] [d4, d5] _ (HT.out.next (by go_grown)) rfl (by decide) (txts_two (heap_at (by simp)) (txt_of (n := 4) d4 rfl (by decide) ?_) (txt_of (n := 5) d5 rfl (by decide) ?_))).mono ?_
  · exact ⟨_, _, (heap_old (by simp <;> omega)).trans ((heap_old (by simp)).trans (heap_at rfl))⟩
  · exact ⟨_, _, (heap_old (by simp)).trans (heap_at (by simp))⟩
  rintro en w1 ⟨rfl, hb⟩
  have hB1 : Below w.heap.size w w1 := bnext (by go_grown) hb
  have s1 := hB1.size
  clear hb
  rw [sum_d9]
  go_wp2_with fail
  refine (from_four _ 0 4 131 146 6 227 _ ?_).mono ?_
  · refine .inr ⟨_, 0, rfl, by simp, fun j u hu => ?_⟩
    rw [Nat.zero_add, cell_of_row _ _ _ _ _ _ (heap_at rfl), ← Array.getElem?_toList]
    exact hu
  rintro en w2 ⟨rfl, hb⟩
  have hB2 : Below w.heap.size w w2 := bnext (by go_grown) hb
  have s2 := hB2.size
  clear hb hB1 s1
  rw [from_d9]
  go_wp2_with fail
  refine (new_any _).mono ?_
  rintro en w3 ⟨rfl, rfl⟩
  go_wp2_with fail
  refine (write_any w2.heap.size 0#32 0 _ 1 1 [.slice (some ⟨w2.heap.size + 1, 0, none⟩) 9 9] [d9] _ ?_ (Nat.lt_of_lt_of_le HT.out.1 s2) ?_ rfl ?_ ?_ ?_ ?_).mono ?_
  · exact HT.out.next (by go_grown)
  · exact (heap_old (by simp <;> omega)).trans ((heap_old (by simp)).trans (heap_at rfl))
  · decide
  · decide
  · decide
  · intro w' hg
    refine txts_one (t := 24) (fr := (0, 0)) ((hg.block (w2.heap.size + 1 + 1) (by simp) (by simp <;> omega)).trans (heap_at (by simp))) (txt_of (n := 9) d9 rfl (by decide) ⟨5, (9, 10), ?_⟩)
    exact (hg.block (w2.heap.size + 1) (by simp) (by simp)).trans ((heap_old (by simp)).trans (heap_at (by simp)))
  rintro en w3 ⟨rfl, A3, hg⟩
  rw [show hcells (Crc.more 0#32 [d9].flatten) (0 + ([d9].flatten.length : Int)) = #[.int .u32 3808858755, .int .i64 9] from congrArg (fun v => #[v, Value.int .i64 9]) sum_d9'] at A3
  have hB3 : Below w.heap.size w w3 := by
    refine Below.grown (show Below w.heap.size w _ by go_grown) hg (by simp <;> omega) (fun kk hkk => ?_)
    cases hkk
    exact s2
  have s3 := hB3.size
  clear hg hB2
  have l3 := A3.lt
  go_wp2_with fail
  refine (sum_any _ 1 1 [.slice (some ⟨w3.heap.size, 0, none⟩) 4 4] [d4] _ ?_ rfl ?_ ?_).mono ?_
  · exact HT.out.next (by go_grown)
  · decide
  · exact txts_one (t := 24) (fr := (0, 0)) (heap_at (by simp)) (txt_of (n := 4) d4 rfl (by decide) ⟨5, (4, 5), (heap_old (by simp)).trans (heap_at rfl)⟩)
  rintro en w4 ⟨rfl, hb⟩
  have hB4 : Below w.heap.size w w4 := bnext (by go_grown) hb
  have A4 : Blk w4 w2.heap.size 58 #[.int .u32 3808858755, .int .i64 9] := Blk.below (by unfold Blk at A3; simp (disch := (first | omega | (simp only [World.size_alloc, World.size_setCell, World.size_drew] <;> omega) | fail)) only [Blk, heap_old, heap_at, heap_set_same, heap_set_ne, heap_drew', Option.map_some, putO_cells, A3]) hb
  clear hb hB3 A3 l3 s3
  have s4 := hB4.size
  have l4 := A4.lt
  go_wp2_with fail
  refine (sum_any _ 1 1 [.slice (some ⟨w4.heap.size, 0, none⟩) 5 5] [d5] _ ?_ rfl ?_ ?_).mono ?_
  · exact HT.out.next (by go_grown)
  · decide
  · exact txts_one (t := 24) (fr := (0, 0)) (heap_at (by simp)) (txt_of (n := 5) d5 rfl (by decide) ⟨5, (5, 6), (heap_old (by simp)).trans (heap_at rfl)⟩)
  rintro en w5 ⟨rfl, hb⟩
  have hB5 : Below w.heap.size w w5 := bnext (by go_grown) hb
  have A5 : Blk w5 w2.heap.size 58 #[.int .u32 3808858755, .int .i64 9] := Blk.below (by unfold Blk at A4; simp (disch := (first | omega | (simp only [World.size_alloc, World.size_setCell, World.size_drew] <;> omega) | fail)) only [Blk, heap_old, heap_at, heap_set_same, heap_set_ne, heap_drew', Option.map_some, putO_cells, A4]) hb
  clear hb hB4 A4 l4 s4
  have s5 := hB5.size
  have l5 := A5.lt
  go_wp2_with fail
  refine (join_any _ _ 5 _ ?_ (by decide) (by decide)).mono ?_
  · exact HT.out.next (by go_grown)
  rintro en w6 ⟨rfl, hb⟩
  have hB6 : Below w.heap.size w w6 := bnext (by go_grown) hb
  have A6 : Blk w6 w2.heap.size 58 #[.int .u32 3808858755, .int .i64 9] := Blk.below A5 hb
  clear hb hB5 A5 l5 s5
  have s6 := hB6.size
  have l6 := A6.lt
  rw [join_d9]
  go_wp2_with fail
  refine (zeros_any 4 _ ?_ (by decide) (by decide)).mono ?_
  · exact HT.out.next (by go_grown)
  rintro en w7 ⟨rfl, hb⟩
  have hB7 : Below w.heap.size w w7 := bnext (by go_grown) hb
  have A7 : Blk w7 w2.heap.size 58 #[.int .u32 3808858755, .int .i64 9] := Blk.below A6 hb
  clear hb hB6 A6 l6 s6
  have s7 := hB7.size
  have l7 := A7.lt
  rw [zeros4]
  go_wp2_with fail
  refine (num_any 0 _).mono ?_
  rintro en w8 ⟨rfl, hb⟩
  have hB8 : Below w.heap.size w w8 := bnext (by go_grown) hb
  have A8 : Blk w8 w2.heap.size 58 #[.int .u32 3808858755, .int .i64 9] := Blk.below A7 hb
  clear hb hB7 A7 l7 s7
  have s8 := hB8.size
  have l8 := A8.lt
  have HA8 := Lib.hid (show Blk w8 w2.heap.size 58 (hcells 0xe3069283#32 9) from A8)
  clear A8
  go_wp2_with fail
  refine (hsum_any _ _ _ _ HA8.out).mono ?_
  rintro en w9 ⟨rfl, hb⟩
  have hB9 : Below w.heap.size w w9 := bnext (by go_grown) hb
  have HA9 := Lib.hid (HA8.out.below hb)
  clear hb hB8 HA8 l8 s8
  have s9 := hB9.size
  rw [show U 0xe3069283#32 = .int .u32 3808858755 from rfl]
  go_wp2_with fail
  refine (hlen_any _ _ _ _ HA9.out).mono ?_
  rintro en w10 ⟨rfl, hb⟩
  have hB10 : Below w.heap.size w w10 := bnext (by go_grown) hb
  clear hb hB9 HA9 s9
  have s10 := hB10.size
  go_wp2_with fail
  refine (more_any 0#32 _ [1] _ ?_ ?_).mono ?_
  · exact HT.out.next (by go_grown)
  · exact txt_of (n := 1) [1] rfl (by decide) ⟨5, (0, 0), heap_at rfl⟩
  rintro en w11 ⟨rfl, hb⟩
  have hB11 : Below w.heap.size w w11 := bnext (by go_grown) hb
  clear hb hB10 s10
  have s11 := hB11.size
  go_wp2_with fail
  refine (sum_any _ 1 1 [.slice (some ⟨w11.heap.size, 0, none⟩) 1 1] [[1]] _ ?_ rfl ?_ ?_).mono ?_
  · exact HT.out.next (by go_grown)
  · decide
  · exact txts_one (t := 24) (fr := (0, 0)) (heap_at (by simp)) (txt_of (n := 1) [1] rfl (by decide) ⟨5, (0, 0), (heap_old (by simp)).trans (heap_at rfl)⟩)
  rintro en w12 ⟨rfl, hb⟩
  have hB12 : Below w.heap.size w w12 := bnext (by go_grown) hb
  clear hb hB11 s11
  rw [show ([[1]] : List (List UInt8)).flatten = [1] from rfl]
  go_wp2_with fail
  go_returns
  exact ⟨rfl, by go_grown⟩
end Go.Proofs.YtcjmobikjegioaaDoor
