/- Numbers carried over bytes: the program's 'of' and Carry. -/
import Derived.Test.YtcjmobikjegioaaDoorCB
import Derived.Deep.Cut
set_option linter.unusedSimpArgs false
set_option linter.unusedVariables false
namespace Go.Proofs.YtcjmobikjegioaaDoor
open Go.RowKit Go.Kp

/-- Where the bits go: the first k places told, noughts behind. -/
def mvs (f : Nat → BitVec 32) (k : Nat) : Array Value := ((List.range 32).map fun i => if i < k then U (f i) else .int .u32 0).toArray
theorem mvs_size (f : Nat → BitVec 32) (k : Nat) : (mvs f k).size = 32 := by simp [mvs]
theorem mvs_zero (f : Nat → BitVec 32) : mvs f 0 = Array.replicate 32 (.int .u32 0) := by
  apply Array.ext
  · simp [mvs]
  · intro i h1 h2; simp [mvs]
theorem mvs_set (f : Nat → BitVec 32) (k : Nat) (h : k < 32) : (mvs f k).setIfInBounds k (U (f k)) = mvs f (k + 1) := by
  apply Array.ext
  · simp [mvs]
  · intro i h1 h2
    rw [Array.getElem_setIfInBounds (by rw [mvs_size]; simp [mvs] at h2; omega)]
    by_cases e : k = i
    · subst e; simp [mvs]
    · simp only [e, if_false, mvs]
      simp
      by_cases h3 : i < k
      · simp [h3, show i < k + 1 by omega]
      · simp [h3, show ¬ i < k + 1 by omega]
theorem mvs_get (f : Nat → BitVec 32) (k i : Nat) (h : i < k) (h2 : i < 32) : (mvs f k)[i]? = some (U (f i)) := by
  simp [mvs, h2, h]
theorem mvs_at (f : Nat → BitVec 32) (k : Nat) (h : k < 32) : (mvs f k)[k]? = some (.int .u32 0) := by simp [mvs, h]
theorem mvs_one (f : Nat → BitVec 32) (k : Nat) : (mvs f k).all (·.oneCell') = true := by
  rw [Array.all_eq_true_iff_forall_mem]
  intro v hv
  simp [mvs] at hv
  obtain ⟨i, _, rfl⟩ := hv
  split <;> rfl

theorem setRow_blk {w : World} {g : Nat} {t : TypeId} {cs old : Array Value} (h : Blk w g t old) : Blk (w.setRow g cs) g t cs := setRow_heap w g old cs t _ h
theorem setRow_heap_ne {w : World} {g k : Nat} {cs : Array Value} (h : k ≠ g) : (w.setRow g cs).heap[k]? = w.heap[k]? := setRow_other w g k cs h
theorem setRow_below {B g : Nat} {a w : World} (h : Below B a w) (hg : B ≤ g) (cs : Array Value) : Below B a (w.setRow g cs) :=
  ⟨h.os, h.tape, h.output, by rw [size_setRow]; exact h.size, fun k hk => (setRow_heap_ne (by omega)).trans (h.block k hk)⟩

attribute [local go_sem high] Crc.bits_and1 Crc.bits_xor

theorem shr_succ (x : BitVec 32) (k : Nat) : x >>> (k + 1) = (x >>> k) >>> 1 := by rw [BitVec.shiftRight_add]
theorem shr_32 (x : BitVec 32) : x >>> 32 = 0#32 := by apply BitVec.eq_of_getLsbD_eq; intro i _; simp [BitVec.getLsbD_of_ge]

set_option maxHeartbeats 1000000 in
theorem of_any (g M : Nat) (x : BitVec 32) (w : World) (hg : g < w.heap.size) (hm : ∀ i, i < 32 → w.cell? ⟨g, i, none⟩ = some (U (Crc.steps M (Crc.one_ i)))) :
    Calls Tryd.prog 42 #[.pointer (some ⟨g, 0, none⟩), U x] w (Ret (U (Crc.steps M x)) w) := by
  have HM := Lib.hid hm
  clear hm
  go_enter Tryd.func42, Tryd.ntmps42
  go_wp2
  go_loopw [1, 5, 6] (fun t o i wr => ∃ k : Nat, k ≤ 32 ∧ i = .int .i64 k ∧ t = U (x >>> k) ∧ o = U (Crc.ofTo (fun i => Crc.steps M (Crc.one_ i)) x k) ∧ Below w.heap.size w wr) (fun _ _ i _ => 32 - (intOf i).toNat)
  case atStart => exact ⟨0, Nat.zero_le _, rfl, by rw [BitVec.ushiftRight_zero], rfl, by go_grown⟩
  case round =>
    obtain ⟨k, hk, rfl, rfl, rfl, hB⟩ := hrel
    have HS := Lib.hid (shr_succ x k)
    have HL := Lib.hid (show x >>> k = 0#32 → Crc.low x k = x from Crc.low_of x k)
    have HO := Lib.hid (Crc.ofTo_lin (Crc.lin_steps M) (fun i => Crc.steps M (Crc.one_ i)) x k (fun _ _ => rfl))
    have HB := Lib.hid (show (x >>> k).getLsbD 0 = x.getLsbD k by rw [BitVec.getLsbD_ushiftRight]; rfl)
    have HT := Lib.hid (show Crc.ofTo (fun i => Crc.steps M (Crc.one_ i)) x (k + 1) = Crc.ofTo (fun i => Crc.steps M (Crc.one_ i)) x k ^^^ (if x.getLsbD k then Crc.steps M (Crc.one_ k) else 0#32) from rfl)
    by_cases hz : x >>> k = 0#32
    · have e : Crc.num (x >>> k) = 0 := by rw [hz]; rfl
      have HE := Lib.hid (show Crc.ofTo (fun i => Crc.steps M (Crc.one_ i)) x k = Crc.steps M x by rw [HO.out, HL.out hz])
      clear hz HS HL HO HB HT
      generalize Crc.ofTo (fun i => Crc.steps M (Crc.one_ i)) x k = r at *
      generalize x >>> k = y at *
      go_wp2_with fail
      go_returns
      exact ⟨ret_int (by rw [HE.out]), by go_grown⟩
    · have hk32 : k < 32 := by
        rcases Nat.lt_or_ge k 32 with h | h
        · exact h
        · obtain rfl : k = 32 := by omega
          exact absurd (shr_32 x) hz
      have e : ¬ Crc.num (x >>> k) = 0 := fun h => hz (Crc.num_inj h)
      have e0 : wr.cell? ⟨g, k, none⟩ = some (U (Crc.steps M (Crc.one_ k))) := (hB.cell (p := ⟨g, k, none⟩) hg).trans (HM.out k hk32)
      have yb := Crc.num_nonneg (x >>> k)
      clear hz HL HO
      by_cases hb : x.getLsbD k = true
      · have e1 : Crc.num ((x >>> k) &&& 1#32) = 1 := (Crc.and1_iff _).2 (HB.out.trans hb)
        have HT2 := Lib.hid (HT.out.trans (by rw [if_pos hb]))
        clear HT HB hb
        generalize Crc.ofTo (fun i => Crc.steps M (Crc.one_ i)) x k = r at *
        generalize x >>> k = y at *
        go_wp2_with fail
        go_roundw
        case rel => exact ⟨k + 1, by omega, by go_num, congrArg (Value.int .u32) ((Crc.shr1 y).trans (by rw [HS.out])), by rw [HT2.out], by go_grown⟩
        case measure => simp [intOf]; omega
      · have e1 : Crc.num ((x >>> k) &&& 1#32) = 0 := by
          have h1 : ¬ Crc.num ((x >>> k) &&& 1#32) = 1 := fun h => hb (HB.out.symm.trans ((Crc.and1_iff _).1 h))
          have h2 := Crc.and1_lt (x >>> k)
          have h3 := Crc.num_nonneg ((x >>> k) &&& 1#32)
          omega
        have HT2 := Lib.hid (show Crc.ofTo (fun i => Crc.steps M (Crc.one_ i)) x (k + 1) = Crc.ofTo (fun i => Crc.steps M (Crc.one_ i)) x k by rw [HT.out, if_neg hb, BitVec.xor_zero])
        clear HT HB hb
        generalize Crc.ofTo (fun i => Crc.steps M (Crc.one_ i)) x k = r at *
        generalize x >>> k = y at *
        go_wp2_with fail
        go_roundw
        case rel => exact ⟨k + 1, by omega, by go_num, congrArg (Value.int .u32) ((Crc.shr1 y).trans (by rw [HS.out])), by rw [HT2.out], by go_grown⟩
        case measure => simp [intOf]; omega

theorem and1_i64 (j : Nat) (h : j < 9223372036854775808) : bits .and .i64 (j : Int) 1 = ((j % 2 : Nat) : Int) := by
  show IntKind.i64.wrap ((BitVec.ofInt 64 (j : Int) &&& BitVec.ofInt 64 1).toNat : Int) = _
  have e : (BitVec.ofInt 64 (j : Int)).toNat = j := by
    rw [BitVec.ofInt_natCast, BitVec.toNat_ofNat]; exact Nat.mod_eq_of_lt (by omega)
  rw [BitVec.toNat_and, e, show (BitVec.ofInt 64 1).toNat = 1 from rfl, nat_mask1, IntKind.wrap_i64]
  omega

/-- What a round of Carry does to what is still to be carried. -/
theorem carry_odd (M q : Nat) (y : BitVec 32) (h : q % 2 = 1) : Crc.steps ((M + M) * (q / 2)) (Crc.steps M y) = Crc.steps (M * q) y := by
  rw [← Crc.steps_add]
  congr 1
  have : q = 2 * (q / 2) + 1 := by omega
  generalize q / 2 = r at *
  subst this
  rw [Nat.mul_add, Nat.add_mul, Nat.mul_comm 2 r, ← Nat.mul_assoc]; omega
theorem carry_even (M q : Nat) (y : BitVec 32) (h : q % 2 = 0) : Crc.steps ((M + M) * (q / 2)) y = Crc.steps (M * q) y := by
  congr 1
  have : q = 2 * (q / 2) := by omega
  generalize q / 2 = r at *
  subst this
  rw [Nat.add_mul, Nat.mul_comm 2 r, ← Nat.mul_assoc]; omega

set_option maxHeartbeats 4000000 in
theorem carry_any (x : BitVec 32) (n : Int) (w : World) (hT : Tab w) (hn1 : -9223372036854775808 ≤ n) (hn2 : n ≤ 9223372036854775807) :
    Calls Tryd.prog 18 #[U x, .int .i64 n] w (Ret (U (Crc.steps (8 * n.toNat) x)) w) := by
  have HT := Lib.hid hT
  clear hT
  go_enter Tryd.func18, Tryd.ntmps18
  go_wp2_with fail
  go_loopw [10] (fun i wr => ∃ k : Nat, k ≤ 32 ∧ i = .int .i64 k ∧ Blk wr w.heap.size 66 (mvs (fun i => Crc.steps 8 (Crc.one_ i)) k) ∧ Below w.heap.size w wr) (fun i _ => 32 - (intOf i).toNat)
  case atStart => exact ⟨0, Nat.zero_le _, rfl, by rw [mvs_zero]; exact heap_at rfl, by go_grown⟩
  case round =>
    obtain ⟨k, hk, rfl, A, hB⟩ := hrel
    have l0 := A.lt
    have c0 := A.cell
    have f0 := A.free
    rcases Nat.lt_or_ge k 32 with hlt | hge
    · have e := Crc.num_one k
      go_wp2_with fail
      refine (eight_any (Crc.one_ k) _ (HT.out.next hB)).mono ?_
      rintro en w1 ⟨rfl, hb1⟩
      have A1 := A.below hb1
      have hB1 : Below w.heap.size w w1 := bnext hB hb1
      clear A hB l0 c0 f0 hb1 e
      have l0 := A1.lt
      have c0 := (A1.cell k).trans (mvs_at _ _ hlt)
      have f0 := A1.free k
      go_wp2_with fail
      go_roundw
      case rel =>
        refine ⟨k + 1, by omega, by go_num, ?_, by go_grown⟩
        rw [← mvs_set _ _ hlt]
        unfold Blk at A1; simp (disch := (first | omega | (simp only [World.size_alloc, World.size_setCell, World.size_drew] <;> omega) | fail)) only [Blk, heap_old, heap_at, heap_set_same, heap_set_ne, heap_drew', Option.map_some, putO_cells, A1]; rfl
      case measure => simp [intOf]; omega
    · clear c0 f0
      have HA := Lib.hid ((show k = 32 by omega) ▸ A)
      clear A l0
      have hsz := hB.size
      go_wp2_with fail
      go_loopw [0, 1] (fun t i wc => ∃ (j : Int) (M : Nat) (y : BitVec 32), i = .int .i64 j ∧ t = U y ∧ -9223372036854775808 ≤ j ∧ j ≤ 9223372036854775807 ∧ Crc.steps (M * j.toNat) y = Crc.steps (8 * n.toNat) x ∧
        Blk wc w.heap.size 66 (mvs (fun i => Crc.steps M (Crc.one_ i)) 32) ∧ Below w.heap.size w wc) (fun _ i _ => (intOf i).toNat)
      case atStart => exact ⟨n, 8, x, rfl, rfl, hn1, hn2, rfl, HA.out, hB⟩
      case round =>
        obtain ⟨j, M, y, rfl, rfl, hj1, hj2, he, A, hB⟩ := hrel
        clear HA hsz
        have HE := Lib.hid he
        have hsz := hB.size
        have l0 := A.lt
        clear he
        by_cases hj : 0 < j
        · obtain ⟨q, rfl⟩ : ∃ q : Nat, j = q := ⟨j.toNat, by omega⟩
          have hq0 : 0 < q := by omega
          have ea := and1_i64 q (by omega)
          have C0 := fun i (h : i < 32) => (A.cell i).trans (mvs_get _ 32 i h h)
          have HC := Lib.hid C0
          clear C0
          rcases Nat.mod_two_eq_zero_or_one q with hm | hm
          · have HM := Lib.hid (carry_even M q y hm)
            rw [hm] at ea
            clear hm HC
            go_upto_region 12 with (fail)
            refine wp_at (fun wc => Blk wc w.heap.size 66 (mvs (fun i => Crc.steps M (Crc.one_ i)) 32) ∧ Below w.heap.size w wc) ⟨A, hB⟩ ?_
            rintro w1 ⟨A1, hB1⟩
            clear A hB l0 hsz ea
            have l0 := A1.lt
            go_wp2_with fail
            go_loopw [29] (fun i wd => ∃ k : Nat, k ≤ 32 ∧ i = .int .i64 k ∧ Blk wd w.heap.size 66 (mvs (fun i => Crc.steps M (Crc.one_ i)) 32) ∧ Blk wd w1.heap.size 66 (mvs (fun i => Crc.steps (M + M) (Crc.one_ i)) k) ∧ Below w.heap.size w wd) (fun i _ => 32 - (intOf i).toNat)
            case atStart => exact ⟨0, Nat.zero_le _, rfl, (heap_old l0).trans A1, by rw [mvs_zero]; exact heap_at rfl, by go_grown⟩
            case round =>
              obtain ⟨k, hk, rfl, D0, D1, hB⟩ := hrel
              clear A1 hB1
              have d0 := D0.lt
              have d1 := D1.lt
              rcases Nat.lt_or_ge k 32 with hlt | hge
              · have c0 := (D0.cell k).trans (mvs_get _ 32 k hlt hlt)
                have HC := Lib.hid (fun i (h : i < 32) => (D0.cell i).trans (mvs_get (fun i => Crc.steps M (Crc.one_ i)) 32 i h h))
                go_wp2_with fail
                refine (of_any _ M (Crc.steps M (Crc.one_ k)) _ d0 (fun i h => HC.out i h)).mono ?_
                rintro en w2 ⟨rfl, hb⟩
                have E0 := D0.below hb
                have E1 := D1.below hb
                have hB2 : Below w.heap.size w w2 := bnext hB hb
                clear D0 D1 hB c0 HC hb d0 d1
                have d0 := E0.lt
                have d1 := E1.lt
                have c1 := (E1.cell k).trans (mvs_at _ _ hlt)
                have f1 := E1.free k
                go_wp2_with fail
                go_roundw
                case rel =>
                  refine ⟨k + 1, by omega, by go_num, ?_, ?_, by go_grown⟩
                  · unfold Blk at E0; simp (disch := (first | omega | (simp only [World.size_alloc, World.size_setCell, World.size_drew] <;> omega) | fail)) only [Blk, heap_old, heap_at, heap_set_same, heap_set_ne, heap_drew', Option.map_some, putO_cells, E0]
                  · rw [← mvs_set _ _ hlt, show U (Crc.steps (M + M) (Crc.one_ k)) = U (Crc.steps M (Crc.steps M (Crc.one_ k))) by rw [Crc.steps_add]]
                    unfold Blk at E1; simp (disch := (first | omega | (simp only [World.size_alloc, World.size_setCell, World.size_drew] <;> omega) | fail)) only [Blk, heap_old, heap_at, heap_set_same, heap_set_ne, heap_drew', Option.map_some, putO_cells, E1]
                case measure => simp [intOf]; omega
              · have D1 := (show k = 32 by omega) ▸ D1
                have HD0 := Lib.hid (show wr.heap[w.heap.size]? = some (Obj.cells (mvs (fun i => Crc.steps M (Crc.one_ i)) 32) 66 (0, 0)) from D0)
                have HD1 := Lib.hid (show wr.heap[w1.heap.size]? = some (Obj.cells (mvs (fun i => Crc.steps (M + M) (Crc.one_ i)) 32) 66 (0, 0)) from D1)
                clear D0 D1
                go_upto_region 18 with (fail)
                apply wp_region_lit
                (with_reducible refine wpList_load_row ?_ 66 (.tmp 8) ?_ w1.heap.size ?_ 66 (mvs (fun i => Crc.steps (M + M) (Crc.one_ i)) 32) (0, 0) _ HD1.out Tryd.underlying66 ?_ ?_ ?_)
                · rfl
                · rfl
                · rfl
                · rfl
                · rw [mvs_size]; kernel_rfl
                (try simp only [Act.put, List.setIfInBounds_toArray, List.set_cons_zero, List.set_cons_succ])
                (with_reducible refine wpList_store_row ?_ 66 (.tmp 5) (.tmp 39) ?_ w.heap.size (mvs (fun i => Crc.steps (M + M) (Crc.one_ i)) 32) ?_ ?_ 66 (mvs (fun i => Crc.steps M (Crc.one_ i)) 32) HD0.out ?_ ?_ ?_ ?_)
                · rfl
                · rfl
                · rfl
                · rfl
                · rw [mvs_size]; kernel_rfl
                · rw [mvs_size, mvs_size]
                · exact mvs_one _ _
                (try simp only [Act.put, List.setIfInBounds_toArray, List.set_cons_zero, List.set_cons_succ])
                go_wp2_with fail
                go_roundw
                case rel => exact ⟨((q / 2 : Nat) : Int), M + M, y, by go_num, rfl, by omega, by omega, by rw [Int.toNat_natCast, HM.out]; have h := HE.out; rwa [Int.toNat_natCast] at h, setRow_blk HD0.out, setRow_below hB (Nat.le_refl _) _⟩
                case measure => simp [intOf]; omega
          · have HM := Lib.hid (carry_odd M q y hm)
            rw [hm] at ea
            clear hm
            have HA := Lib.hid A
            clear A
            go_wp2_with fail
            refine (of_any _ M y _ (by omega) (fun i h => HC.out i h)).mono ?_
            rintro en w1 ⟨rfl, hb1⟩
            have A1 := HA.out.below hb1
            have hB1 : Below w.heap.size w w1 := bnext hB hb1
            clear HA HC hB hb1 ea l0 hsz
            have l0 := A1.lt
            go_wp2_with fail
            go_loopw [29] (fun i wd => ∃ k : Nat, k ≤ 32 ∧ i = .int .i64 k ∧ Blk wd w.heap.size 66 (mvs (fun i => Crc.steps M (Crc.one_ i)) 32) ∧ Blk wd w1.heap.size 66 (mvs (fun i => Crc.steps (M + M) (Crc.one_ i)) k) ∧ Below w.heap.size w wd) (fun i _ => 32 - (intOf i).toNat)
            case atStart => exact ⟨0, Nat.zero_le _, rfl, (heap_old l0).trans A1, by rw [mvs_zero]; exact heap_at rfl, by go_grown⟩
            case round =>
              obtain ⟨k, hk, rfl, D0, D1, hB⟩ := hrel
              clear A1 hB1
              have d0 := D0.lt
              have d1 := D1.lt
              rcases Nat.lt_or_ge k 32 with hlt | hge
              · have c0 := (D0.cell k).trans (mvs_get _ 32 k hlt hlt)
                have HC := Lib.hid (fun i (h : i < 32) => (D0.cell i).trans (mvs_get (fun i => Crc.steps M (Crc.one_ i)) 32 i h h))
                go_wp2_with fail
                refine (of_any _ M (Crc.steps M (Crc.one_ k)) _ d0 (fun i h => HC.out i h)).mono ?_
                rintro en w2 ⟨rfl, hb⟩
                have E0 := D0.below hb
                have E1 := D1.below hb
                have hB2 : Below w.heap.size w w2 := bnext hB hb
                clear D0 D1 hB c0 HC hb d0 d1
                have d0 := E0.lt
                have d1 := E1.lt
                have c1 := (E1.cell k).trans (mvs_at _ _ hlt)
                have f1 := E1.free k
                go_wp2_with fail
                go_roundw
                case rel =>
                  refine ⟨k + 1, by omega, by go_num, ?_, ?_, by go_grown⟩
                  · unfold Blk at E0; simp (disch := (first | omega | (simp only [World.size_alloc, World.size_setCell, World.size_drew] <;> omega) | fail)) only [Blk, heap_old, heap_at, heap_set_same, heap_set_ne, heap_drew', Option.map_some, putO_cells, E0]
                  · rw [← mvs_set _ _ hlt, show U (Crc.steps (M + M) (Crc.one_ k)) = U (Crc.steps M (Crc.steps M (Crc.one_ k))) by rw [Crc.steps_add]]
                    unfold Blk at E1; simp (disch := (first | omega | (simp only [World.size_alloc, World.size_setCell, World.size_drew] <;> omega) | fail)) only [Blk, heap_old, heap_at, heap_set_same, heap_set_ne, heap_drew', Option.map_some, putO_cells, E1]
                case measure => simp [intOf]; omega
              · have D1 := (show k = 32 by omega) ▸ D1
                have HD0 := Lib.hid (show wr.heap[w.heap.size]? = some (Obj.cells (mvs (fun i => Crc.steps M (Crc.one_ i)) 32) 66 (0, 0)) from D0)
                have HD1 := Lib.hid (show wr.heap[w1.heap.size]? = some (Obj.cells (mvs (fun i => Crc.steps (M + M) (Crc.one_ i)) 32) 66 (0, 0)) from D1)
                clear D0 D1
                go_upto_region 18 with (fail)
                apply wp_region_lit
                (with_reducible refine wpList_load_row ?_ 66 (.tmp 8) ?_ w1.heap.size ?_ 66 (mvs (fun i => Crc.steps (M + M) (Crc.one_ i)) 32) (0, 0) _ HD1.out Tryd.underlying66 ?_ ?_ ?_)
                · rfl
                · rfl
                · rfl
                · rfl
                · rw [mvs_size]; kernel_rfl
                (try simp only [Act.put, List.setIfInBounds_toArray, List.set_cons_zero, List.set_cons_succ])
                (with_reducible refine wpList_store_row ?_ 66 (.tmp 5) (.tmp 39) ?_ w.heap.size (mvs (fun i => Crc.steps (M + M) (Crc.one_ i)) 32) ?_ ?_ 66 (mvs (fun i => Crc.steps M (Crc.one_ i)) 32) HD0.out ?_ ?_ ?_ ?_)
                · rfl
                · rfl
                · rfl
                · rfl
                · rw [mvs_size]; kernel_rfl
                · rw [mvs_size, mvs_size]
                · exact mvs_one _ _
                (try simp only [Act.put, List.setIfInBounds_toArray, List.set_cons_zero, List.set_cons_succ])
                go_wp2_with fail
                go_roundw
                case rel => exact ⟨((q / 2 : Nat) : Int), M + M, (Crc.steps M y), by go_num, rfl, by omega, by omega, by rw [Int.toNat_natCast, HM.out]; have h := HE.out; rwa [Int.toNat_natCast] at h, setRow_blk HD0.out, setRow_below hB (Nat.le_refl _) _⟩
                case measure => simp [intOf]; omega
        · have h0 : j.toNat = 0 := by omega
          have HE2 := Lib.hid (show y = Crc.steps (8 * n.toNat) x by have h := HE.out; rw [h0] at h; exact h)
          clear h0
          go_wp2_with fail
          go_returns
          exact ⟨ret_int (by rw [HE2.out]), by go_grown⟩
end Go.Proofs.YtcjmobikjegioaaDoor
