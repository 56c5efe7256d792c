/- Sums of one, two, three texts; noughts that are made. -/
import Derived.Test.YtcjmobikjegioaaDoorCG
import Derived.Laws.MakeOwn
set_option linter.unusedSimpArgs false
set_option linter.unusedVariables false
namespace Go.Proofs.YtcjmobikjegioaaDoor
open Go.RowKit Go.Kp

theorem sum1 (g : Nat) (v : Value) (l : List UInt8) (w : World) (hT : Tab w) (hA : w.heap[g]? = some (.cells #[v] 24 (0, 0))) (hx : Txt w w.heap.size v l) :
    Calls Tryd.prog 12 #[.slice (some ⟨g, 0, none⟩) 1 1] w (Ret (U (Crc.more 0#32 l)) w) := by
  have h := sum_any _ 1 1 [v] [l] w hT rfl (by decide) (txts_one hA hx)
  rwa [show ([l] : List (List UInt8)).flatten = l by simp] at h
theorem sum2 (g : Nat) (v v2 : Value) (l l2 : List UInt8) (w : World) (hT : Tab w) (hA : w.heap[g]? = some (.cells #[v, v2] 24 (0, 0))) (hx : Txt w w.heap.size v l) (hx2 : Txt w w.heap.size v2 l2) :
    Calls Tryd.prog 12 #[.slice (some ⟨g, 0, none⟩) 2 2] w (Ret (U (Crc.more 0#32 (l ++ l2))) w) := by
  have h := sum_any _ 2 2 [v, v2] [l, l2] w hT rfl (by decide) (txts_two hA hx hx2)
  rwa [show ([l, l2] : List (List UInt8)).flatten = l ++ l2 by simp] at h
theorem sum3 (g : Nat) (v v2 v3 : Value) (l l2 l3 : List UInt8) (w : World) (hT : Tab w) (hA : w.heap[g]? = some (.cells #[v, v2, v3] 24 (0, 0))) (hx : Txt w w.heap.size v l) (hx2 : Txt w w.heap.size v2 l2) (hx3 : Txt w w.heap.size v3 l3) :
    Calls Tryd.prog 12 #[.slice (some ⟨g, 0, none⟩) 3 3] w (Ret (U (Crc.more 0#32 (l ++ l2 ++ l3))) w) := by
  have h := sum_any _ 3 3 [v, v2, v3] [l, l2, l3] w hT rfl (by decide) (txts_of (t := 24) (fr := (0, 0)) hA rfl (fun k v' l' h1 h2 => by
    match k with
    | 0 => simp at h1 h2; subst h1 h2; exact hx
    | 1 => simp at h1 h2; subst h1 h2; exact hx2
    | 2 => simp at h1 h2; subst h1 h2; exact hx3
    | k + 3 => simp at h1))
  rwa [show ([l, l2, l3] : List (List UInt8)).flatten = l ++ l2 ++ l3 by simp] at h

theorem info5 : (Tryd.prog.info? 5).map (fun i => (i.zero, i.size, i.bytes)) = some (some (.int .u8 0), 1, 1) := by kernel_rfl
theorem made_noughts (n : Nat) : madeCells (Value.int .u8 0).cells (n * 1) = ((List.replicate n (0 : UInt8)).map B8).toArray := by
  apply Array.ext
  · simp [size_madeCells]
  · intro i h1 h2
    simp [madeCells, Value.cells]
    rw [Nat.mod_one]; rfl
theorem make_noughts (n : Nat) (m : Int) (hm : m = n) (hn : n ≤ 281474976710656) (w : World) :
    (Instr.makeSlice 24 (.int .i64 m) (.int .i64 m)).run Tryd.prog w = .ok (.slice (some ⟨w.heap.size, 0, none⟩) n n) (w.alloc (.cells ((List.replicate n (0 : UInt8)).map B8).toArray 5)) := by
  obtain ⟨i0, hi, hz0, hz1, hz2⟩ := info_parts info5
  subst hm
  have h := run_make (P := Tryd.prog) (w := w) 24 5 i0 (.int .u8 0) Tryd.underlying24 hi hz0 .i64 .i64 n n (by omega) (Int.le_refl _) (by rw [hz2]; omega) (by omega)
  rw [hz1, Int.toNat_natCast, made_noughts] at h
  exact h

theorem join_texts (a b : List UInt8) : Crc.steps (8 * ((b.length : Nat) : Int).toNat) (Crc.more 0#32 a) ^^^ Crc.more 0#32 b = Crc.more 0#32 (a ++ b) := by
  rw [Int.toNat_natCast, ← Crc.more_join, ← Crc.more_append]
theorem zeros_texts (n : Nat) : zerosOf n = Crc.more 0#32 (List.replicate n 0) := by
  unfold zerosOf Crc.more
  rw [Int.toNat_natCast, Crc.raw_zeros]
end Go.Proofs.YtcjmobikjegioaaDoor
