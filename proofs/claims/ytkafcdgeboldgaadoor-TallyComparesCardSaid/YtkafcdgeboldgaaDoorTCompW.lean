/- TallyCompares: the walk. -/
import Derived.Test.YtkafcdgeboldgaaDoorTCmpW
import Derived.Test.YtkafcdgeboldgaaDoorTWorks
set_option linter.unusedSimpArgs false
set_option linter.unusedVariables false
namespace Go.Proofs.YtkafcdgeboldgaaDoor
open Go.RowKit Go.Kp
attribute [local go_sem high] eqTally

def T3 (a b c : Tally) (w X : World) : Prop := Blk X w.heap.size 24 a.arr ∧ Blk X (w.heap.size + 1) 24 b.arr ∧ Blk X (w.heap.size + 2) 24 c.arr ∧ Below w.heap.size w X
theorem t3next {a b c : Tally} {w X Y Z : World} (h : T3 a b c w X) (hb : Below X.heap.size X Y) (hc : Below Y.heap.size Y Z) : T3 a b c w Z :=
  ⟨(h.1.below hb).below hc, (h.2.1.below hb).below hc, (h.2.2.1.below hb).below hc, bnext (bnext h.2.2.2 hb) hc⟩
theorem cmpI_bd (x y : Int) : -1 ≤ cmpI x y ∧ cmpI x y ≤ 1 := by
  unfold cmpI; split
  · omega
  · split <;> omega
theorem cmpL_bd : ∀ l r : List Int, -1 ≤ cmpL l r ∧ cmpL l r ≤ 1
  | [], [] => by simp [cmpL]
  | [], _ :: _ => by simp [cmpL]
  | _ :: _, [] => by simp [cmpL]
  | x :: l, y :: r => by
    unfold cmpL
    split
    · exact cmpL_bd l r
    · exact cmpI_bd x y

set_option maxHeartbeats 4000000 in
theorem compares (a b c : Tally) (w : World) : Calls Tryd.prog 9 #[a.val, b.val, c.val] w (Ret (.bool true) w) := by
  have HN := Lib.hid (cmpT_neg a b)
  have HZ := Lib.hid (cmpT_zero a b)
  have HT := Lib.hid (fun h k => cmpT_trans (a := a) (b := b) (c := c) h k)
  have HS := Lib.hid (same_iff a b)
  have H0 := Lib.hid ((cmpT_zero a a).2 rfl)
  have HB := Lib.hid (cmpL_bd [a.c, a.su, a.mi, a.ma] [b.c, b.su, b.mi, b.ma])
  go_enter Tryd.func9, Tryd.ntmps9
  go_upto_region 1 with (fail)
  (refine wp_at (fun wc => T3 a b c w wc) ⟨(heap_old (by simp; omega)).trans ((heap_old (by simp)).trans (heap_at rfl)), (heap_old (by simp)).trans (heap_at (by simp)), heap_at (by simp), by go_grown⟩ ?_)
  rintro wz hz
  have H := Lib.hid hz
  clear hz
  have a0 : wz.cell? ⟨w.heap.size, 0, none⟩ = some (.int .i64 a.c) := H.out.1.cell 0
  have a1 : wz.cell? ⟨w.heap.size, 1, none⟩ = some (.int .i64 a.su) := H.out.1.cell 1
  have a2 : wz.cell? ⟨w.heap.size, 2, none⟩ = some (.int .i64 a.mi) := H.out.1.cell 2
  have a3 : wz.cell? ⟨w.heap.size, 3, none⟩ = some (.int .i64 a.ma) := H.out.1.cell 3
  have b0 : wz.cell? ⟨w.heap.size + 1, 0, none⟩ = some (.int .i64 b.c) := H.out.2.1.cell 0
  have b1 : wz.cell? ⟨w.heap.size + 1, 1, none⟩ = some (.int .i64 b.su) := H.out.2.1.cell 1
  have b2 : wz.cell? ⟨w.heap.size + 1, 2, none⟩ = some (.int .i64 b.mi) := H.out.2.1.cell 2
  have b3 : wz.cell? ⟨w.heap.size + 1, 3, none⟩ = some (.int .i64 b.ma) := H.out.2.1.cell 3
  have c0 : wz.cell? ⟨w.heap.size + 2, 0, none⟩ = some (.int .i64 c.c) := H.out.2.2.1.cell 0
  have c1 : wz.cell? ⟨w.heap.size + 2, 1, none⟩ = some (.int .i64 c.su) := H.out.2.2.1.cell 1
  have c2 : wz.cell? ⟨w.heap.size + 2, 2, none⟩ = some (.int .i64 c.mi) := H.out.2.2.1.cell 2
  have c3 : wz.cell? ⟨w.heap.size + 2, 3, none⟩ = some (.int .i64 c.ma) := H.out.2.2.1.cell 3
  have l2 := H.out.2.2.1.lt
  go_wp2_with fail
  refine (tcmp_any a b _).mono ?_
  rintro en w1 ⟨rfl, hb⟩
  have H := Lib.hid (t3next H.out (by go_grown) hb)
  clear a0 a1 a2 a3 b0 b1 b2 b3 c0 c1 c2 c3 l2 hb
  have R1 : cmpT a b = cmpT a b := rfl
  obtain ⟨r1, h1⟩ : ∃ r, cmpT a b = r := ⟨_, rfl⟩
  rw [h1]
  have a0 : w1.cell? ⟨w.heap.size, 0, none⟩ = some (.int .i64 a.c) := H.out.1.cell 0
  have a1 : w1.cell? ⟨w.heap.size, 1, none⟩ = some (.int .i64 a.su) := H.out.1.cell 1
  have a2 : w1.cell? ⟨w.heap.size, 2, none⟩ = some (.int .i64 a.mi) := H.out.1.cell 2
  have a3 : w1.cell? ⟨w.heap.size, 3, none⟩ = some (.int .i64 a.ma) := H.out.1.cell 3
  have b0 : w1.cell? ⟨w.heap.size + 1, 0, none⟩ = some (.int .i64 b.c) := H.out.2.1.cell 0
  have b1 : w1.cell? ⟨w.heap.size + 1, 1, none⟩ = some (.int .i64 b.su) := H.out.2.1.cell 1
  have b2 : w1.cell? ⟨w.heap.size + 1, 2, none⟩ = some (.int .i64 b.mi) := H.out.2.1.cell 2
  have b3 : w1.cell? ⟨w.heap.size + 1, 3, none⟩ = some (.int .i64 b.ma) := H.out.2.1.cell 3
  have c0 : w1.cell? ⟨w.heap.size + 2, 0, none⟩ = some (.int .i64 c.c) := H.out.2.2.1.cell 0
  have c1 : w1.cell? ⟨w.heap.size + 2, 1, none⟩ = some (.int .i64 c.su) := H.out.2.2.1.cell 1
  have c2 : w1.cell? ⟨w.heap.size + 2, 2, none⟩ = some (.int .i64 c.mi) := H.out.2.2.1.cell 2
  have c3 : w1.cell? ⟨w.heap.size + 2, 3, none⟩ = some (.int .i64 c.ma) := H.out.2.2.1.cell 3
  have l2 := H.out.2.2.1.lt
  go_wp2_with fail
  refine (tcmp_any b c _).mono ?_
  rintro en w2 ⟨rfl, hb⟩
  have H := Lib.hid (t3next H.out (by go_grown) hb)
  clear a0 a1 a2 a3 b0 b1 b2 b3 c0 c1 c2 c3 l2 hb
  obtain ⟨r2, h2⟩ : ∃ r, cmpT b c = r := ⟨_, rfl⟩
  rw [h2]
  have a0 : w2.cell? ⟨w.heap.size, 0, none⟩ = some (.int .i64 a.c) := H.out.1.cell 0
  have a1 : w2.cell? ⟨w.heap.size, 1, none⟩ = some (.int .i64 a.su) := H.out.1.cell 1
  have a2 : w2.cell? ⟨w.heap.size, 2, none⟩ = some (.int .i64 a.mi) := H.out.1.cell 2
  have a3 : w2.cell? ⟨w.heap.size, 3, none⟩ = some (.int .i64 a.ma) := H.out.1.cell 3
  have b0 : w2.cell? ⟨w.heap.size + 1, 0, none⟩ = some (.int .i64 b.c) := H.out.2.1.cell 0
  have b1 : w2.cell? ⟨w.heap.size + 1, 1, none⟩ = some (.int .i64 b.su) := H.out.2.1.cell 1
  have b2 : w2.cell? ⟨w.heap.size + 1, 2, none⟩ = some (.int .i64 b.mi) := H.out.2.1.cell 2
  have b3 : w2.cell? ⟨w.heap.size + 1, 3, none⟩ = some (.int .i64 b.ma) := H.out.2.1.cell 3
  have c0 : w2.cell? ⟨w.heap.size + 2, 0, none⟩ = some (.int .i64 c.c) := H.out.2.2.1.cell 0
  have c1 : w2.cell? ⟨w.heap.size + 2, 1, none⟩ = some (.int .i64 c.su) := H.out.2.2.1.cell 1
  have c2 : w2.cell? ⟨w.heap.size + 2, 2, none⟩ = some (.int .i64 c.mi) := H.out.2.2.1.cell 2
  have c3 : w2.cell? ⟨w.heap.size + 2, 3, none⟩ = some (.int .i64 c.ma) := H.out.2.2.1.cell 3
  have l2 := H.out.2.2.1.lt
  go_wp2_with fail
  refine (refcmp_any a b _).mono ?_
  rintro en w3 ⟨rfl, hb⟩
  have H := Lib.hid (t3next H.out (by go_grown) hb)
  clear a0 a1 a2 a3 b0 b1 b2 b3 c0 c1 c2 c3 l2 hb
  rw [h1]
  have a0 : w3.cell? ⟨w.heap.size, 0, none⟩ = some (.int .i64 a.c) := H.out.1.cell 0
  have a1 : w3.cell? ⟨w.heap.size, 1, none⟩ = some (.int .i64 a.su) := H.out.1.cell 1
  have a2 : w3.cell? ⟨w.heap.size, 2, none⟩ = some (.int .i64 a.mi) := H.out.1.cell 2
  have a3 : w3.cell? ⟨w.heap.size, 3, none⟩ = some (.int .i64 a.ma) := H.out.1.cell 3
  have b0 : w3.cell? ⟨w.heap.size + 1, 0, none⟩ = some (.int .i64 b.c) := H.out.2.1.cell 0
  have b1 : w3.cell? ⟨w.heap.size + 1, 1, none⟩ = some (.int .i64 b.su) := H.out.2.1.cell 1
  have b2 : w3.cell? ⟨w.heap.size + 1, 2, none⟩ = some (.int .i64 b.mi) := H.out.2.1.cell 2
  have b3 : w3.cell? ⟨w.heap.size + 1, 3, none⟩ = some (.int .i64 b.ma) := H.out.2.1.cell 3
  have c0 : w3.cell? ⟨w.heap.size + 2, 0, none⟩ = some (.int .i64 c.c) := H.out.2.2.1.cell 0
  have c1 : w3.cell? ⟨w.heap.size + 2, 1, none⟩ = some (.int .i64 c.su) := H.out.2.2.1.cell 1
  have c2 : w3.cell? ⟨w.heap.size + 2, 2, none⟩ = some (.int .i64 c.mi) := H.out.2.2.1.cell 2
  have c3 : w3.cell? ⟨w.heap.size + 2, 3, none⟩ = some (.int .i64 c.ma) := H.out.2.2.1.cell 3
  have l2 := H.out.2.2.1.lt
  go_wp2_with fail
  refine (tcmp_any b a _).mono ?_
  rintro en w4 ⟨rfl, hb⟩
  have H := Lib.hid (t3next H.out (by go_grown) hb)
  clear a0 a1 a2 a3 b0 b1 b2 b3 c0 c1 c2 c3 l2 hb
  rw [HN.out, h1]
  have hr1 : -1 ≤ r1 := by rw [← h1]; exact HB.out.1
  have hr2 : r1 ≤ 1 := by rw [← h1]; exact HB.out.2
  have HR := Lib.hid (show a.same b = decide (r1 = 0) by rw [Bool.eq_iff_iff, HS.out, ← HZ.out, h1]; simp)
  have a0 : w4.cell? ⟨w.heap.size, 0, none⟩ = some (.int .i64 a.c) := H.out.1.cell 0
  have a1 : w4.cell? ⟨w.heap.size, 1, none⟩ = some (.int .i64 a.su) := H.out.1.cell 1
  have a2 : w4.cell? ⟨w.heap.size, 2, none⟩ = some (.int .i64 a.mi) := H.out.1.cell 2
  have a3 : w4.cell? ⟨w.heap.size, 3, none⟩ = some (.int .i64 a.ma) := H.out.1.cell 3
  have b0 : w4.cell? ⟨w.heap.size + 1, 0, none⟩ = some (.int .i64 b.c) := H.out.2.1.cell 0
  have b1 : w4.cell? ⟨w.heap.size + 1, 1, none⟩ = some (.int .i64 b.su) := H.out.2.1.cell 1
  have b2 : w4.cell? ⟨w.heap.size + 1, 2, none⟩ = some (.int .i64 b.mi) := H.out.2.1.cell 2
  have b3 : w4.cell? ⟨w.heap.size + 1, 3, none⟩ = some (.int .i64 b.ma) := H.out.2.1.cell 3
  have c0 : w4.cell? ⟨w.heap.size + 2, 0, none⟩ = some (.int .i64 c.c) := H.out.2.2.1.cell 0
  have c1 : w4.cell? ⟨w.heap.size + 2, 1, none⟩ = some (.int .i64 c.su) := H.out.2.2.1.cell 1
  have c2 : w4.cell? ⟨w.heap.size + 2, 2, none⟩ = some (.int .i64 c.mi) := H.out.2.2.1.cell 2
  have c3 : w4.cell? ⟨w.heap.size + 2, 3, none⟩ = some (.int .i64 c.ma) := H.out.2.2.1.cell 3
  have l2 := H.out.2.2.1.lt
  go_wp2_with fail
  refine (refcmp_any b c _).mono ?_
  rintro en w5 ⟨rfl, hb⟩
  have H := Lib.hid (t3next H.out (by go_grown) hb)
  clear a0 a1 a2 a3 b0 b1 b2 b3 c0 c1 c2 c3 l2 hb
  rw [h2]
  rcases Int.lt_trichotomy r1 0 with h | rfl | h
  · have hs : a.same b = false := by rw [HR.out]; simp; omega
    have hz : ¬ r1 = 0 := by omega
    rcases Int.lt_or_le 0 r2 with k | k
    · have a0 : w5.cell? ⟨w.heap.size, 0, none⟩ = some (.int .i64 a.c) := H.out.1.cell 0
      have a1 : w5.cell? ⟨w.heap.size, 1, none⟩ = some (.int .i64 a.su) := H.out.1.cell 1
      have a2 : w5.cell? ⟨w.heap.size, 2, none⟩ = some (.int .i64 a.mi) := H.out.1.cell 2
      have a3 : w5.cell? ⟨w.heap.size, 3, none⟩ = some (.int .i64 a.ma) := H.out.1.cell 3
      have b0 : w5.cell? ⟨w.heap.size + 1, 0, none⟩ = some (.int .i64 b.c) := H.out.2.1.cell 0
      have b1 : w5.cell? ⟨w.heap.size + 1, 1, none⟩ = some (.int .i64 b.su) := H.out.2.1.cell 1
      have b2 : w5.cell? ⟨w.heap.size + 1, 2, none⟩ = some (.int .i64 b.mi) := H.out.2.1.cell 2
      have b3 : w5.cell? ⟨w.heap.size + 1, 3, none⟩ = some (.int .i64 b.ma) := H.out.2.1.cell 3
      have c0 : w5.cell? ⟨w.heap.size + 2, 0, none⟩ = some (.int .i64 c.c) := H.out.2.2.1.cell 0
      have c1 : w5.cell? ⟨w.heap.size + 2, 1, none⟩ = some (.int .i64 c.su) := H.out.2.2.1.cell 1
      have c2 : w5.cell? ⟨w.heap.size + 2, 2, none⟩ = some (.int .i64 c.mi) := H.out.2.2.1.cell 2
      have c3 : w5.cell? ⟨w.heap.size + 2, 3, none⟩ = some (.int .i64 c.ma) := H.out.2.2.1.cell 3
      have l2 := H.out.2.2.1.lt
      go_wp2_with fail
      refine (tcmp_any a a _).mono ?_
      rintro en w7 ⟨rfl, hb⟩
      have H := Lib.hid (t3next H.out (by go_grown) hb)
      clear a0 a1 a2 a3 b0 b1 b2 b3 c0 c1 c2 c3 l2 hb
      rw [H0.out]
      go_wp2_with fail
      refine (works_any _).mono ?_
      rintro en w8 ⟨rfl, hb⟩
      have hB := bnext H.out.2.2.2 (bnext (by go_grown) hb)
      clear hb
      go_wp2_with fail
      go_returns
      exact ⟨rfl, hB⟩
    · have a0 : w5.cell? ⟨w.heap.size, 0, none⟩ = some (.int .i64 a.c) := H.out.1.cell 0
      have a1 : w5.cell? ⟨w.heap.size, 1, none⟩ = some (.int .i64 a.su) := H.out.1.cell 1
      have a2 : w5.cell? ⟨w.heap.size, 2, none⟩ = some (.int .i64 a.mi) := H.out.1.cell 2
      have a3 : w5.cell? ⟨w.heap.size, 3, none⟩ = some (.int .i64 a.ma) := H.out.1.cell 3
      have b0 : w5.cell? ⟨w.heap.size + 1, 0, none⟩ = some (.int .i64 b.c) := H.out.2.1.cell 0
      have b1 : w5.cell? ⟨w.heap.size + 1, 1, none⟩ = some (.int .i64 b.su) := H.out.2.1.cell 1
      have b2 : w5.cell? ⟨w.heap.size + 1, 2, none⟩ = some (.int .i64 b.mi) := H.out.2.1.cell 2
      have b3 : w5.cell? ⟨w.heap.size + 1, 3, none⟩ = some (.int .i64 b.ma) := H.out.2.1.cell 3
      have c0 : w5.cell? ⟨w.heap.size + 2, 0, none⟩ = some (.int .i64 c.c) := H.out.2.2.1.cell 0
      have c1 : w5.cell? ⟨w.heap.size + 2, 1, none⟩ = some (.int .i64 c.su) := H.out.2.2.1.cell 1
      have c2 : w5.cell? ⟨w.heap.size + 2, 2, none⟩ = some (.int .i64 c.mi) := H.out.2.2.1.cell 2
      have c3 : w5.cell? ⟨w.heap.size + 2, 3, none⟩ = some (.int .i64 c.ma) := H.out.2.2.1.cell 3
      have l2 := H.out.2.2.1.lt
      go_wp2_with fail
      refine (tcmp_any a c _).mono ?_
      rintro en w6 ⟨rfl, hb⟩
      have H := Lib.hid (t3next H.out (by go_grown) hb)
      clear a0 a1 a2 a3 b0 b1 b2 b3 c0 c1 c2 c3 l2 hb
      have hle := HT.out (by rw [h1]; omega) (by rw [h2]; omega)
      generalize cmpT a c = r3 at *
      have a0 : w6.cell? ⟨w.heap.size, 0, none⟩ = some (.int .i64 a.c) := H.out.1.cell 0
      have a1 : w6.cell? ⟨w.heap.size, 1, none⟩ = some (.int .i64 a.su) := H.out.1.cell 1
      have a2 : w6.cell? ⟨w.heap.size, 2, none⟩ = some (.int .i64 a.mi) := H.out.1.cell 2
      have a3 : w6.cell? ⟨w.heap.size, 3, none⟩ = some (.int .i64 a.ma) := H.out.1.cell 3
      have b0 : w6.cell? ⟨w.heap.size + 1, 0, none⟩ = some (.int .i64 b.c) := H.out.2.1.cell 0
      have b1 : w6.cell? ⟨w.heap.size + 1, 1, none⟩ = some (.int .i64 b.su) := H.out.2.1.cell 1
      have b2 : w6.cell? ⟨w.heap.size + 1, 2, none⟩ = some (.int .i64 b.mi) := H.out.2.1.cell 2
      have b3 : w6.cell? ⟨w.heap.size + 1, 3, none⟩ = some (.int .i64 b.ma) := H.out.2.1.cell 3
      have c0 : w6.cell? ⟨w.heap.size + 2, 0, none⟩ = some (.int .i64 c.c) := H.out.2.2.1.cell 0
      have c1 : w6.cell? ⟨w.heap.size + 2, 1, none⟩ = some (.int .i64 c.su) := H.out.2.2.1.cell 1
      have c2 : w6.cell? ⟨w.heap.size + 2, 2, none⟩ = some (.int .i64 c.mi) := H.out.2.2.1.cell 2
      have c3 : w6.cell? ⟨w.heap.size + 2, 3, none⟩ = some (.int .i64 c.ma) := H.out.2.2.1.cell 3
      have l2 := H.out.2.2.1.lt
      go_wp2_with fail
      refine (tcmp_any a a _).mono ?_
      rintro en w7 ⟨rfl, hb⟩
      have H := Lib.hid (t3next H.out (by go_grown) hb)
      clear a0 a1 a2 a3 b0 b1 b2 b3 c0 c1 c2 c3 l2 hb
      rw [H0.out]
      go_wp2_with fail
      refine (works_any _).mono ?_
      rintro en w8 ⟨rfl, hb⟩
      have hB := bnext H.out.2.2.2 (bnext (by go_grown) hb)
      clear hb
      go_wp2_with fail
      go_returns
      exact ⟨rfl, hB⟩
  · have hs : a.same b = true := by rw [HR.out]; rfl
    rcases Int.lt_or_le 0 r2 with k | k
    · have a0 : w5.cell? ⟨w.heap.size, 0, none⟩ = some (.int .i64 a.c) := H.out.1.cell 0
      have a1 : w5.cell? ⟨w.heap.size, 1, none⟩ = some (.int .i64 a.su) := H.out.1.cell 1
      have a2 : w5.cell? ⟨w.heap.size, 2, none⟩ = some (.int .i64 a.mi) := H.out.1.cell 2
      have a3 : w5.cell? ⟨w.heap.size, 3, none⟩ = some (.int .i64 a.ma) := H.out.1.cell 3
      have b0 : w5.cell? ⟨w.heap.size + 1, 0, none⟩ = some (.int .i64 b.c) := H.out.2.1.cell 0
      have b1 : w5.cell? ⟨w.heap.size + 1, 1, none⟩ = some (.int .i64 b.su) := H.out.2.1.cell 1
      have b2 : w5.cell? ⟨w.heap.size + 1, 2, none⟩ = some (.int .i64 b.mi) := H.out.2.1.cell 2
      have b3 : w5.cell? ⟨w.heap.size + 1, 3, none⟩ = some (.int .i64 b.ma) := H.out.2.1.cell 3
      have c0 : w5.cell? ⟨w.heap.size + 2, 0, none⟩ = some (.int .i64 c.c) := H.out.2.2.1.cell 0
      have c1 : w5.cell? ⟨w.heap.size + 2, 1, none⟩ = some (.int .i64 c.su) := H.out.2.2.1.cell 1
      have c2 : w5.cell? ⟨w.heap.size + 2, 2, none⟩ = some (.int .i64 c.mi) := H.out.2.2.1.cell 2
      have c3 : w5.cell? ⟨w.heap.size + 2, 3, none⟩ = some (.int .i64 c.ma) := H.out.2.2.1.cell 3
      have l2 := H.out.2.2.1.lt
      go_wp2_with fail
      refine (tcmp_any a a _).mono ?_
      rintro en w7 ⟨rfl, hb⟩
      have H := Lib.hid (t3next H.out (by go_grown) hb)
      clear a0 a1 a2 a3 b0 b1 b2 b3 c0 c1 c2 c3 l2 hb
      rw [H0.out]
      go_wp2_with fail
      refine (works_any _).mono ?_
      rintro en w8 ⟨rfl, hb⟩
      have hB := bnext H.out.2.2.2 (bnext (by go_grown) hb)
      clear hb
      go_wp2_with fail
      go_returns
      exact ⟨rfl, hB⟩
    · have a0 : w5.cell? ⟨w.heap.size, 0, none⟩ = some (.int .i64 a.c) := H.out.1.cell 0
      have a1 : w5.cell? ⟨w.heap.size, 1, none⟩ = some (.int .i64 a.su) := H.out.1.cell 1
      have a2 : w5.cell? ⟨w.heap.size, 2, none⟩ = some (.int .i64 a.mi) := H.out.1.cell 2
      have a3 : w5.cell? ⟨w.heap.size, 3, none⟩ = some (.int .i64 a.ma) := H.out.1.cell 3
      have b0 : w5.cell? ⟨w.heap.size + 1, 0, none⟩ = some (.int .i64 b.c) := H.out.2.1.cell 0
      have b1 : w5.cell? ⟨w.heap.size + 1, 1, none⟩ = some (.int .i64 b.su) := H.out.2.1.cell 1
      have b2 : w5.cell? ⟨w.heap.size + 1, 2, none⟩ = some (.int .i64 b.mi) := H.out.2.1.cell 2
      have b3 : w5.cell? ⟨w.heap.size + 1, 3, none⟩ = some (.int .i64 b.ma) := H.out.2.1.cell 3
      have c0 : w5.cell? ⟨w.heap.size + 2, 0, none⟩ = some (.int .i64 c.c) := H.out.2.2.1.cell 0
      have c1 : w5.cell? ⟨w.heap.size + 2, 1, none⟩ = some (.int .i64 c.su) := H.out.2.2.1.cell 1
      have c2 : w5.cell? ⟨w.heap.size + 2, 2, none⟩ = some (.int .i64 c.mi) := H.out.2.2.1.cell 2
      have c3 : w5.cell? ⟨w.heap.size + 2, 3, none⟩ = some (.int .i64 c.ma) := H.out.2.2.1.cell 3
      have l2 := H.out.2.2.1.lt
      go_wp2_with fail
      refine (tcmp_any a c _).mono ?_
      rintro en w6 ⟨rfl, hb⟩
      have H := Lib.hid (t3next H.out (by go_grown) hb)
      clear a0 a1 a2 a3 b0 b1 b2 b3 c0 c1 c2 c3 l2 hb
      have hle := HT.out (by rw [h1]; omega) (by rw [h2]; omega)
      generalize cmpT a c = r3 at *
      have a0 : w6.cell? ⟨w.heap.size, 0, none⟩ = some (.int .i64 a.c) := H.out.1.cell 0
      have a1 : w6.cell? ⟨w.heap.size, 1, none⟩ = some (.int .i64 a.su) := H.out.1.cell 1
      have a2 : w6.cell? ⟨w.heap.size, 2, none⟩ = some (.int .i64 a.mi) := H.out.1.cell 2
      have a3 : w6.cell? ⟨w.heap.size, 3, none⟩ = some (.int .i64 a.ma) := H.out.1.cell 3
      have b0 : w6.cell? ⟨w.heap.size + 1, 0, none⟩ = some (.int .i64 b.c) := H.out.2.1.cell 0
      have b1 : w6.cell? ⟨w.heap.size + 1, 1, none⟩ = some (.int .i64 b.su) := H.out.2.1.cell 1
      have b2 : w6.cell? ⟨w.heap.size + 1, 2, none⟩ = some (.int .i64 b.mi) := H.out.2.1.cell 2
      have b3 : w6.cell? ⟨w.heap.size + 1, 3, none⟩ = some (.int .i64 b.ma) := H.out.2.1.cell 3
      have c0 : w6.cell? ⟨w.heap.size + 2, 0, none⟩ = some (.int .i64 c.c) := H.out.2.2.1.cell 0
      have c1 : w6.cell? ⟨w.heap.size + 2, 1, none⟩ = some (.int .i64 c.su) := H.out.2.2.1.cell 1
      have c2 : w6.cell? ⟨w.heap.size + 2, 2, none⟩ = some (.int .i64 c.mi) := H.out.2.2.1.cell 2
      have c3 : w6.cell? ⟨w.heap.size + 2, 3, none⟩ = some (.int .i64 c.ma) := H.out.2.2.1.cell 3
      have l2 := H.out.2.2.1.lt
      go_wp2_with fail
      refine (tcmp_any a a _).mono ?_
      rintro en w7 ⟨rfl, hb⟩
      have H := Lib.hid (t3next H.out (by go_grown) hb)
      clear a0 a1 a2 a3 b0 b1 b2 b3 c0 c1 c2 c3 l2 hb
      rw [H0.out]
      go_wp2_with fail
      refine (works_any _).mono ?_
      rintro en w8 ⟨rfl, hb⟩
      have hB := bnext H.out.2.2.2 (bnext (by go_grown) hb)
      clear hb
      go_wp2_with fail
      go_returns
      exact ⟨rfl, hB⟩
  · have hs : a.same b = false := by rw [HR.out]; simp; omega
    have hz : ¬ r1 = 0 := by omega
    have a0 : w5.cell? ⟨w.heap.size, 0, none⟩ = some (.int .i64 a.c) := H.out.1.cell 0
    have a1 : w5.cell? ⟨w.heap.size, 1, none⟩ = some (.int .i64 a.su) := H.out.1.cell 1
    have a2 : w5.cell? ⟨w.heap.size, 2, none⟩ = some (.int .i64 a.mi) := H.out.1.cell 2
    have a3 : w5.cell? ⟨w.heap.size, 3, none⟩ = some (.int .i64 a.ma) := H.out.1.cell 3
    have b0 : w5.cell? ⟨w.heap.size + 1, 0, none⟩ = some (.int .i64 b.c) := H.out.2.1.cell 0
    have b1 : w5.cell? ⟨w.heap.size + 1, 1, none⟩ = some (.int .i64 b.su) := H.out.2.1.cell 1
    have b2 : w5.cell? ⟨w.heap.size + 1, 2, none⟩ = some (.int .i64 b.mi) := H.out.2.1.cell 2
    have b3 : w5.cell? ⟨w.heap.size + 1, 3, none⟩ = some (.int .i64 b.ma) := H.out.2.1.cell 3
    have c0 : w5.cell? ⟨w.heap.size + 2, 0, none⟩ = some (.int .i64 c.c) := H.out.2.2.1.cell 0
    have c1 : w5.cell? ⟨w.heap.size + 2, 1, none⟩ = some (.int .i64 c.su) := H.out.2.2.1.cell 1
    have c2 : w5.cell? ⟨w.heap.size + 2, 2, none⟩ = some (.int .i64 c.mi) := H.out.2.2.1.cell 2
    have c3 : w5.cell? ⟨w.heap.size + 2, 3, none⟩ = some (.int .i64 c.ma) := H.out.2.2.1.cell 3
    have l2 := H.out.2.2.1.lt
    go_wp2_with fail
    refine (tcmp_any a a _).mono ?_
    rintro en w7 ⟨rfl, hb⟩
    have H := Lib.hid (t3next H.out (by go_grown) hb)
    clear a0 a1 a2 a3 b0 b1 b2 b3 c0 c1 c2 c3 l2 hb
    rw [H0.out]
    go_wp2_with fail
    refine (works_any _).mono ?_
    rintro en w8 ⟨rfl, hb⟩
    have hB := bnext H.out.2.2.2 (bnext (by go_grown) hb)
    clear hb
    go_wp2_with fail
    go_returns
    exact ⟨rfl, hB⟩
end Go.Proofs.YtkafcdgeboldgaaDoor
