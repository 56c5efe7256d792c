/- CrcBytes: the walk. -/
import Derived.Test.YtcjmobikjegioaaDoorCEq
import Derived.Test.YtcjmobikjegioaaDoorGrow
set_option linter.unusedSimpArgs false
set_option linter.unusedVariables false
namespace Go.Proofs.YtcjmobikjegioaaDoor
open Go.RowKit Go.Kp

theorem back (s : BitVec 32) : BitVec.ofNat 32 (Crc.le4 (Crc.byteAt s 0) (Crc.byteAt s 1) (Crc.byteAt s 2) (Crc.byteAt s 3)) = s := by
  rw [Crc.le4_byteAt]; simp

theorem from_own (s : BitVec 32) (g : Nat) (w : World) (h : w.heap[g]? = some (.cells #[B8 (Crc.byteAt s 0), B8 (Crc.byteAt s 1), B8 (Crc.byteAt s 2), B8 (Crc.byteAt s 3)] 38 (0, 0))) :
    Calls Tryd.prog 25 #[.slice (some ⟨g, 0, none⟩) 4 4] w (Ret (.tuple #[U s, .bool true]) w) := by
  have hc := from_four g 0 4 (Crc.byteAt s 0) (Crc.byteAt s 1) (Crc.byteAt s 2) (Crc.byteAt s 3) w (.inr ⟨g, 0, rfl, Blk.lt h, fun j u hu => by rw [Nat.zero_add, cell_of_row w g j _ _ _ h, ← Array.getElem?_toList]; exact hu⟩)
  rwa [back] at hc

theorem neq4 (a b c d : UInt8) (w : World) : (binOp .neq 38 (.agg #[B8 a, B8 b, B8 c, B8 d]) (.agg #[B8 a, B8 b, B8 c, B8 d])).run Tryd.prog w = .ok (.bool false) w := by
  have h := eq4 [a, b, c, d] [a, b, c, d] rfl rfl w
  rw [run_neq_struct]
  simp only [List.map_cons, List.map_nil] at h
  rw [h]; simp [Result.andThen]
theorem eql4 (a b c d : UInt8) (w : World) : (binOp .eql 38 (.agg #[B8 a, B8 b, B8 c, B8 d]) (.agg #[B8 a, B8 b, B8 c, B8 d])).run Tryd.prog w = .ok (.bool true) w := by
  have h := eq4 [a, b, c, d] [a, b, c, d] rfl rfl w
  rw [run_eql_struct]
  simp only [List.map_cons, List.map_nil] at h
  rw [h]; simp [Result.andThen]

set_option maxHeartbeats 2000000 in
theorem bytes_not (s : BitVec 32) (a : Option Addr) (n cap : Nat) (w : World) (hT : Tab w) (hn : n ≠ 4) (hn2 : n ≤ 281474976710656) :
    Calls Tryd.prog 7 #[U s, .slice a n cap] w (Ret (.bool true) w) := by
  have HT := Lib.hid hT
  have HB := Lib.hid (back s)
  have hd : ¬ ((n : Int) = 4) := by omega
  clear hT
  go_enter Tryd.func7, Tryd.ntmps7
  go_wp2_with fail
  refine (bytes_any _ _).mono ?_
  rintro en w1 ⟨rfl, hb⟩
  have hB1 : Below w.heap.size w w1 := bnext (by go_grown) hb
  have s1 := hB1.size
  clear hb
  rw [bytesVal]
  go_wp2_with fail
  refine (from_own s w1.heap.size _ (heap_at rfl)).mono ?_
  rintro en w2 ⟨rfl, hb⟩
  have hB2 : Below w.heap.size w w2 := bnext (by go_grown) hb
  have s2 := hB2.size
  have A2 : Blk w2 w1.heap.size 38 #[B8 (Crc.byteAt s 0), B8 (Crc.byteAt s 1), B8 (Crc.byteAt s 2), B8 (Crc.byteAt s 3)] := Blk.below (heap_at rfl) hb
  clear hb hB1 s1
  have l2 := A2.lt
  go_wp2_with fail
  refine (from_not a n cap _ hn hn2).mono ?_
  rintro en w3 ⟨rfl, hb⟩
  have hB3 : Below w.heap.size w w3 := bnext (by go_grown) hb
  have s3 := hB3.size
  have A3 := Blk.below A2 hb
  clear hb hB2 s2 A2 l2
  have l3 := A3.lt
  have c0 : w3.cell? ⟨w1.heap.size, 0, none⟩ = some (B8 (Crc.byteAt s 0)) := A3.cell 0
  have c1 : w3.cell? ⟨w1.heap.size, 1, none⟩ = some (B8 (Crc.byteAt s 1)) := A3.cell 1
  have c2 : w3.cell? ⟨w1.heap.size, 2, none⟩ = some (B8 (Crc.byteAt s 2)) := A3.cell 2
  have c3 : w3.cell? ⟨w1.heap.size, 3, none⟩ = some (B8 (Crc.byteAt s 3)) := A3.cell 3
  go_wp2_with fail
  (refine region_grow 18 [(0, true), (1, true), (2, false), (3, true), (4, true), (5, true), (6, true), (7, true), (8, true), (9, true), (10, true), (11, true), (12, true), (13, true), (14, true), (15, true), (16, true), (17, true)] (by kernel_rfl) (fun _ _ d _ _ h => by cases d <;> exact h) (by kernel_rfl) ?_; simp only [withOps, List.getElem?_toArray, List.getElem?_cons_zero, List.getElem?_cons_succ, List.drop_succ_cons, List.drop_zero])
  (iterate 2 (refine grow_quiet (v := ?_) rfl ?_ ?_; rotate_left; (focus (intro w' hz' hw'; (try simp only [World.size_drew, World.size_alloc] at hw'); go_simp; (try with_reducible rfl); done)); try simp only [Act.put, List.setIfInBounds_toArray, List.set_cons_zero, List.set_cons_succ]))
  (with_reducible refine plan_loud (fun K hK => ?_))
  go_simp
  refine (refBytes_any s _).mono ?_
  rintro en w4 ⟨rfl, hb⟩
  have hB4 : Below w.heap.size w w4 := bnext (by go_grown) hb
  refine hK _ _ (Grow.below hb) ?_
  clear hK K hb hB3 s3 c0 c1 c2 c3 l3 A3
  rw [bytesVal]
  (try simp only [Act.put, List.setIfInBounds_toArray, List.set_cons_zero, List.set_cons_succ])
  have hq := neq4 (Crc.byteAt s 0) (Crc.byteAt s 1) (Crc.byteAt s 2) (Crc.byteAt s 3)
  (iterate 15 (refine grow_quiet (v := ?_) rfl ?_ ?_; rotate_left; (focus (intro w' hz' hw'; (try simp only [World.size_drew, World.size_alloc] at hw'); go_simp; (try with_reducible rfl); done)); try simp only [Act.put, List.setIfInBounds_toArray, List.set_cons_zero, List.set_cons_succ]))
  (with_reducible refine plan_end ?_)
  (try simp only [Act.put, List.setIfInBounds_toArray, List.set_cons_zero, List.set_cons_succ])
  clear hq
  have s4 := hB4.size
  go_wp2_with fail
  (refine region_grow 35 [(0, true), (1, true), (2, true), (3, true), (4, true), (5, true), (6, true), (7, true), (8, true), (9, true), (10, true), (11, true), (12, true), (13, true), (14, true), (15, false), (16, true), (17, true), (18, true), (19, true), (20, true), (22, true), (23, true), (24, true), (25, true), (26, true), (27, true), (28, true), (29, true), (30, true), (31, true), (32, true), (33, true), (34, true), (21, false)] (by kernel_rfl) (fun _ _ d _ _ h => by cases d <;> exact h) (by kernel_rfl) ?_; simp only [withOps, List.getElem?_toArray, List.getElem?_cons_zero, List.getElem?_cons_succ, List.drop_succ_cons, List.drop_zero])
  (iterate 7 (refine grow_quiet (v := ?_) rfl ?_ ?_; rotate_left; (focus (intro w' hz' hw'; (try simp only [World.size_drew, World.size_alloc] at hw'); go_simp; (try with_reducible rfl); done)); try simp only [Act.put, List.setIfInBounds_toArray, List.set_cons_zero, List.set_cons_succ]))
  (iterate 8 ((with_reducible refine plan_skip ?_ ?_); (focus rfl); try simp only [Act.put, List.setIfInBounds_toArray, List.set_cons_zero, List.set_cons_succ]))
  (with_reducible refine plan_loud (fun K hK => ?_))
  go_simp
  refine hK _ _ (Grow.refl _) ?_
  clear hK K
  (try simp only [Act.put, List.setIfInBounds_toArray, List.set_cons_zero, List.set_cons_succ])
  (iterate 18 ((with_reducible refine plan_skip ?_ ?_); (focus rfl); try simp only [Act.put, List.setIfInBounds_toArray, List.set_cons_zero, List.set_cons_succ]))
  (with_reducible refine plan_loud (fun K hK => ?_))
  go_simp
  refine hK _ _ (Grow.refl _) ?_
  clear hK K
  (try simp only [Act.put, List.setIfInBounds_toArray, List.set_cons_zero, List.set_cons_succ])
  (with_reducible refine plan_end ?_)
  (try simp only [Act.put, List.setIfInBounds_toArray, List.set_cons_zero, List.set_cons_succ])
  go_wp2_with fail
  refine (works_any _ ?_).mono ?_
  · exact HT.out.next (by go_grown)
  rintro en w5 ⟨rfl, hb⟩
  have hB5 : Below w.heap.size w w5 := bnext (by go_grown) hb
  clear hb hB4
  go_wp2_with fail
  go_returns
  exact ⟨rfl, by go_grown⟩
set_option maxHeartbeats 2000000 in
theorem bytes_four (s : BitVec 32) (b off cap : Nat) (b0 b1 b2 b3 : UInt8) (w : World) (hT : Tab w) (hcap : 4 ≤ cap) (hb : b < w.heap.size) (e0 : w.cell? ⟨b, off, none⟩ = some (B8 b0)) (e1 : w.cell? ⟨b, off + 1, none⟩ = some (B8 b1)) (e2 : w.cell? ⟨b, off + 2, none⟩ = some (B8 b2)) (e3 : w.cell? ⟨b, off + 3, none⟩ = some (B8 b3)) :
    Calls Tryd.prog 7 #[U s, .slice (some ⟨b, off, none⟩) 4 cap] w (Ret (.bool true) w) := by
  have HT := Lib.hid hT
  have E0 := Lib.hid e0
  have E1 := Lib.hid e1
  have E2 := Lib.hid e2
  have E3 := Lib.hid e3
  have hbl := hb
  have hz := Crc.byteAt_le4 b0 b1 b2 b3
  generalize hzz : BitVec.ofNat 32 (Crc.le4 b0 b1 b2 b3) = z at hz
  have HZZ := Lib.hid hzz
  have HV := Lib.hid (show bytesVal z = .agg #[B8 b0, B8 b1, B8 b2, B8 b3] by unfold bytesVal; rw [hz.1, hz.2.1, hz.2.2.1, hz.2.2.2])
  have HM := Lib.hid (show Crc.num z % (256 : Int) = (b0.toNat : Int) by rw [Crc.num_byte0, hz.1])
  clear hT e0 e1 e2 e3 hz hzz hb
  go_enter Tryd.func7, Tryd.ntmps7
  go_wp2_with fail
  refine (bytes_any _ _).mono ?_
  rintro en w1 ⟨rfl, hb⟩
  have hB1 : Below w.heap.size w w1 := bnext (by go_grown) hb
  have s1 := hB1.size
  clear hb
  rw [bytesVal]
  go_wp2_with fail
  refine (from_own s w1.heap.size _ (heap_at rfl)).mono ?_
  rintro en w2 ⟨rfl, hb⟩
  have hB2 : Below w.heap.size w w2 := bnext (by go_grown) hb
  have s2 := hB2.size
  have A2 : Blk w2 w1.heap.size 38 #[B8 (Crc.byteAt s 0), B8 (Crc.byteAt s 1), B8 (Crc.byteAt s 2), B8 (Crc.byteAt s 3)] := Blk.below (heap_at rfl) hb
  clear hb hB1 s1
  have l2 := A2.lt
  go_wp2_with fail
  have f0 := (hB2.cell (p := ⟨b, off, none⟩) hbl).trans E0.out
  have f1 := (hB2.cell (p := ⟨b, off + 1, none⟩) hbl).trans E1.out
  have f2 := (hB2.cell (p := ⟨b, off + 2, none⟩) hbl).trans E2.out
  have f3 := (hB2.cell (p := ⟨b, off + 3, none⟩) hbl).trans E3.out
  refine (from_four b off cap b0 b1 b2 b3 _ (.inr ⟨b, off, rfl, Nat.lt_of_lt_of_le hbl s2, fun j u hu => ?_⟩)).mono ?_
  · match j, hu with
    | 0, hu => exact f0.trans hu
    | 1, hu => exact f1.trans hu
    | 2, hu => exact f2.trans hu
    | 3, hu => exact f3.trans hu
    | j + 4, hu => cases hu
  rintro en w3 ⟨rfl, hb⟩
  rw [HZZ.out]
  clear f0 f1 f2 f3
  have hB3 : Below w.heap.size w w3 := bnext (by go_grown) hb
  have s3 := hB3.size
  have A3 := Blk.below A2 hb
  clear hb hB2 s2 A2 l2
  have l3 := A3.lt
  have c0 : w3.cell? ⟨w1.heap.size, 0, none⟩ = some (B8 (Crc.byteAt s 0)) := A3.cell 0
  have c1 : w3.cell? ⟨w1.heap.size, 1, none⟩ = some (B8 (Crc.byteAt s 1)) := A3.cell 1
  have c2 : w3.cell? ⟨w1.heap.size, 2, none⟩ = some (B8 (Crc.byteAt s 2)) := A3.cell 2
  have c3 : w3.cell? ⟨w1.heap.size, 3, none⟩ = some (B8 (Crc.byteAt s 3)) := A3.cell 3
  go_wp2_with fail
  (refine region_grow 18 [(0, true), (1, true), (2, false), (3, true), (4, true), (5, true), (6, true), (7, true), (8, true), (9, true), (10, true), (11, true), (12, true), (13, true), (14, true), (15, true), (16, true), (17, true)] (by kernel_rfl) (fun _ _ d _ _ h => by cases d <;> exact h) (by kernel_rfl) ?_; simp only [withOps, List.getElem?_toArray, List.getElem?_cons_zero, List.getElem?_cons_succ, List.drop_succ_cons, List.drop_zero])
  (iterate 2 (refine grow_quiet (v := ?_) rfl ?_ ?_; rotate_left; (focus (intro w' hz' hw'; (try simp only [World.size_drew, World.size_alloc] at hw'); go_simp; (try with_reducible rfl); done)); try simp only [Act.put, List.setIfInBounds_toArray, List.set_cons_zero, List.set_cons_succ]))
  (with_reducible refine plan_loud (fun K hK => ?_))
  go_simp
  refine (refBytes_any s _).mono ?_
  rintro en w4 ⟨rfl, hb⟩
  have hB4 : Below w.heap.size w w4 := bnext (by go_grown) hb
  refine hK _ _ (Grow.below hb) ?_
  clear hK K hb hB3 s3 c0 c1 c2 c3 l3 A3
  rw [bytesVal]
  (try simp only [Act.put, List.setIfInBounds_toArray, List.set_cons_zero, List.set_cons_succ])
  have hq := neq4 (Crc.byteAt s 0) (Crc.byteAt s 1) (Crc.byteAt s 2) (Crc.byteAt s 3)
  (iterate 15 (refine grow_quiet (v := ?_) rfl ?_ ?_; rotate_left; (focus (intro w' hz' hw'; (try simp only [World.size_drew, World.size_alloc] at hw'); go_simp; (try with_reducible rfl); done)); try simp only [Act.put, List.setIfInBounds_toArray, List.set_cons_zero, List.set_cons_succ]))
  (with_reducible refine plan_end ?_)
  (try simp only [Act.put, List.setIfInBounds_toArray, List.set_cons_zero, List.set_cons_succ])
  clear hq
  have s4 := hB4.size
  go_wp2_with fail
  have hb4 : b < w4.heap.size := Nat.lt_of_lt_of_le hbl s4
  have f0 : w4.cell? ⟨b, off, none⟩ = some (B8 b0) := (hB4.cell (p := ⟨b, off, none⟩) hbl).trans E0.out
  have f1 : w4.cell? ⟨b, off + 1, none⟩ = some (B8 b1) := (hB4.cell (p := ⟨b, off + 1, none⟩) hbl).trans E1.out
  have f2 : w4.cell? ⟨b, off + 2, none⟩ = some (B8 b2) := (hB4.cell (p := ⟨b, off + 2, none⟩) hbl).trans E2.out
  have f3 : w4.cell? ⟨b, off + 3, none⟩ = some (B8 b3) := (hB4.cell (p := ⟨b, off + 3, none⟩) hbl).trans E3.out
  have hz0 := Crc.num_nonneg z
  have hcap1 : (1 : Int) ≤ (cap : Int) := by omega
  have hm : IntKind.u8.wrap ((Crc.num z).tmod 256) = (b0.toNat : Int) := by
    rw [Int.tmod_eq_emod_of_nonneg hz0, HM.out, IntKind.wrap_u8']
    have := byte_bd b0; omega
  have hbd := byte_bd b0
  have kc : ∀ (W : World) (g o c : Nat), W.cell? ⟨g, o, none⟩ = some (B8 b0) → (convert 24 9 (.slice (some ⟨g, o, none⟩) 1 c)).run Tryd.prog W = .ok (.string (strOf [b0])) W := fun W g o c h =>
    conv_text g o 1 c [b0] rfl W fun j u hu => by
      cases j with
      | zero => exact h.trans hu
      | succ j => simp at hu
  (refine region_grow 35 [(0, true), (1, true), (2, true), (3, true), (4, true), (5, true), (6, true), (7, true), (8, true), (9, true), (10, true), (11, true), (12, true), (13, true), (14, true), (15, false), (16, true), (17, true), (18, true), (19, true), (20, true), (22, true), (23, true), (24, true), (25, true), (26, true), (27, true), (28, true), (29, true), (30, true), (31, true), (32, true), (33, true), (34, true), (21, false)] (by kernel_rfl) (fun _ _ d _ _ h => by cases d <;> exact h) (by kernel_rfl) ?_; simp only [withOps, List.getElem?_toArray, List.getElem?_cons_zero, List.getElem?_cons_succ, List.drop_succ_cons, List.drop_zero])
  (iterate 3 (refine grow_quiet (v := ?_) rfl ?_ ?_; rotate_left; (focus (intro w' hz' hw'; (try simp only [World.size_drew, World.size_alloc] at hw'); go_simp; (try with_reducible rfl); done)); try simp only [Act.put, List.setIfInBounds_toArray, List.set_cons_zero, List.set_cons_succ]))
  (iterate 2 ((with_reducible refine plan_skip ?_ ?_); (focus rfl); try simp only [Act.put, List.setIfInBounds_toArray, List.set_cons_zero, List.set_cons_succ]))
  (iterate 10 (refine grow_quiet (v := ?_) rfl ?_ ?_; rotate_left; (focus (intro w' hz' hw'; (try simp only [World.size_drew, World.size_alloc] at hw'); go_simp; (try with_reducible rfl); done)); try simp only [Act.put, List.setIfInBounds_toArray, List.set_cons_zero, List.set_cons_succ]))
  (with_reducible refine plan_loud (fun K hK => ?_))
  go_simp
  refine hK _ _ ((Grow.refl _).alloc _) ?_
  clear hK K
  (try simp only [Act.put, List.setIfInBounds_toArray, List.set_cons_zero, List.set_cons_succ])
  (iterate 18 (refine grow_quiet (v := ?_) rfl ?_ ?_; rotate_left; (focus (intro w' hz' hw'; (try simp only [World.size_drew, World.size_alloc] at hw'); go_simp; (try with_reducible rfl); done)); try simp only [Act.put, List.setIfInBounds_toArray, List.set_cons_zero, List.set_cons_succ]))
  (with_reducible refine plan_loud (fun K hK => ?_))
  go_simp
  refine (bytes_any z _).mono ?_
  rintro en w5 ⟨rfl, hb⟩
  have hB5 : Below w.heap.size w w5 := bnext (by go_grown) hb
  rw [HV.out]
  refine hK _ _ (Grow.below hb) ?_
  clear hK K hb hB4 s4 f0 f1 f2 f3 hb4 hm kc
  (try simp only [Act.put, List.setIfInBounds_toArray, List.set_cons_zero, List.set_cons_succ])
  (with_reducible refine plan_end ?_)
  (try simp only [Act.put, List.setIfInBounds_toArray, List.set_cons_zero, List.set_cons_succ])
  have hq := eql4 b0 b1 b2 b3
  have s5 := hB5.size
  go_wp2_with fail
  refine (works_any _ ?_).mono ?_
  · exact HT.out.next (by go_grown)
  rintro en w6 ⟨rfl, hb⟩
  have hB6 : Below w.heap.size w w6 := bnext (by go_grown) hb
  clear hb hB5
  go_wp2_with fail
  go_returns
  exact ⟨rfl, by go_grown⟩

theorem bytes_law (s : BitVec 32) (a : Option Addr) (cap : Nat) (l : List UInt8) (w : World) (hT : Tab w) (hr : Rd w w.heap.size a (l.map B8)) (hc : l.length ≤ cap) (hb : l.length ≤ 140737488351232) :
    Calls Tryd.prog 7 #[U s, .slice a l.length cap] w (Ret (.bool true) w) := by
  by_cases h4 : l.length = 4
  · match l, h4 with
    | [b0, b1, b2, b3], _ =>
      rcases hr with hr | ⟨b, off, rfl, hbl, hcell⟩
      · cases hr
      · exact bytes_four s b off cap b0 b1 b2 b3 w hT hc hbl (hcell 0 _ rfl) (hcell 1 _ rfl) (hcell 2 _ rfl) (hcell 3 _ rfl)
  · exact bytes_not s a l.length cap w hT h4 (by omega)
end Go.Proofs.YtcjmobikjegioaaDoor
