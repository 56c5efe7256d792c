/- Series: the closed sentence: Fold of two, and the walk. -/
import Derived.Test.YtbkofiflfcfjfaaSeP
set_option linter.unusedSimpArgs false
set_option linter.unusedVariables false
namespace Go.Proofs.Ytbkofiflfcfjfaa
open Go.RowKit Go.Kp Go.Ser
attribute [local go_sem] store_float

def sum8 : Nat → Int
  | 0 => 0
  | 1 => 100
  | _ => -56
set_option maxHeartbeats 1000000 in
theorem fold8 (b off cap : Nat) (w : World) (hb : b < w.heap.size) (e0 : w.cell? ⟨b, off, none⟩ = some (.int .i8 100)) (e1 : w.cell? ⟨b, off + 1, none⟩ = some (.int .i8 100)) :
    Calls Try.prog 15 #[.slice (some ⟨b, off, none⟩) 2 cap] w fun e w' => ∃ v, e = .returned (.tuple #[v, .int .i8 (-56)]) ∧ w'.ownsRow w.heap.size 25 1 v 2 (fl [4636737291354636288, 4636737291354636288]) ∧ Below w.heap.size w w' := by
  have hF : ∀ t : Int, t = 100 → floatOfInt .f64 t = 4636737291354636288 := fun t h => by subst h; decide +kernel
  have HE : Hid (∀ k : Nat, k < 2 → w.cell? ⟨b, off + k, none⟩ = some (.int .i8 100)) := Lib.hid fun k hk => by
    match k, hk with
    | 0, _ => exact e0
    | 1, _ => exact e1
  have hf100 := hF 100 rfl
  clear hF e0 e1
  go_enter Try.func15, Try.ntmps15
  go_wp2
  go_loopw [4, 5, 10] (fun v s i wr => ∃ k : Nat, k ≤ 2 ∧ i = .int .i64 k ∧ s = .int .i8 (sum8 k) ∧ wr.ownsRow w.heap.size 25 1 v k (fl (List.replicate k 4636737291354636288)) ∧ Below w.heap.size w wr) (fun _ _ i _ => 2 - (intOf i).toNat)
  case atStart => exact ⟨0, by omega, rfl, rfl, World.ownsRow_nil _ _ _ _, by go_grown⟩
  case round =>
    obtain ⟨k, hk, rfl, rfl, hO, hB⟩ := hrel
    have HO := Lib.hid hO
    clear hO
    have hsz := hB.size
    rcases Nat.lt_or_ge k 2 with hlt | hge
    · have e := (hB.cell (p := ⟨b, off + k, none⟩) hb).trans (HE.out k hlt)
      have HS : Hid (IntKind.i8.wrap (sum8 k + 100) = sum8 (k + 1)) := Lib.hid (by
        match k, hlt with
        | 0, _ => decide
        | 1, _ => decide)
      have hkc : ((k : Int) < 2) := by omega
      go_upto_region 6 with (fail)
      apply wp_region_lit
      iterate 4 (go_step; go_step; rename_i KK hKK; (with_reducible refine hKK _ _ ?_); clear hKK KK)
      (with_reducible refine append_fl ?_ (.tmp 14) (.tmp 17) ?_ w.heap.size u4 k _ ?_ (HO.out.alloc _) wr.heap.size 4636737291354636288 1 ?_ ?_ ?_ ?_ ?_)
      · rfl
      · rfl
      · rfl
      · rfl
      · rw [cell_of_row _ _ _ _ _ _ (heap_at rfl)]; rfl
      · omega
      · simp; omega
      intro v1 w5 ho hb5
      have HB5 : Below w.heap.size w w5 := (show Below w.heap.size w (wr.alloc (Obj.cells #[.float .f64 4636737291354636288] 25)) by go_grown).trans hb5
      clear hb5
      go_wp2_with fail
      go_roundw
      case rel => exact ⟨k + 1, by omega, by go_num, by rw [← HS.out], by rw [List.replicate_succ']; exact ho.out, HB5⟩
      case measure => simp [intOf]; omega
    · obtain rfl : k = 2 := by omega
      go_wp2
      refine bodyPost_ret (v := .tuple #[u4, .int .i8 (-56)]) (by simp [results, Try.results15, go_sem, sum8]; done) rfl ⟨u4, rfl, HO.out, hB⟩

set_option maxHeartbeats 4000000 in
theorem known_any (w : World) : Calls Try.prog 9 #[] w (Ret (.bool true) w) := by
  have o1 : FloatKind.f64.format.order 4607182418800017408 4607182418800017408 = some .eq := order_self (by unfold nanP; decide +kernel)
  have o2 : FloatKind.f64.format.order 4611686018427387904 4611686018427387904 = some .eq := order_self (by unfold nanP; decide +kernel)
  have o3 : FloatKind.f64.format.order 4613937818241073152 4613937818241073152 = some .eq := order_self (by unfold nanP; decide +kernel)
  have o4 : FloatKind.f64.format.order 4636737291354636288 4636737291354636288 = some .eq := order_self (by unfold nanP; decide +kernel)
  have o5 : FloatKind.f64.format.order 13835058055282163712 13835058055282163712 = some .eq := order_self (by unfold nanP; decide +kernel)
  go_enter Try.func9, Try.ntmps9
  go_wp2_with fail
  refine (Mean_any _ 2 _ [4607182418800017408, 4613937818241073152] _ rfl (by omega) ?_).mono ?_
  · refine .inr ⟨w.heap.size, 0, rfl, by simp, fun j u hu => ?_⟩
    rw [cell_of_row _ _ _ _ _ _ (heap_at rfl), Nat.zero_add]
    simpa using hu
  rintro en w1 ⟨r, hM, rfl, hb1⟩
  unfold MeanE at hM
  rw [if_neg (by decide)] at hM
  obtain rfl := known_mean hM
  have he : errE 2 = 0 := rfl
  rw [he]
  have hB1 : Below w.heap.size w w1 := bnext (by go_grown) hb1
  clear hM he hb1
  have hs1 := hB1.size
  go_wp2_with fail
  refine (line_some _ 3 _ [(0, 4607182418800017408), (4607182418800017408, 4613937818241073152), (4611686018427387904, 4617315517961601024)] _ rfl (by omega) (by omega) ?_).mono ?_
  · refine .inr ⟨w1.heap.size, 0, rfl, by simp, fun j u hu => ?_⟩
    rw [cell_of_row _ _ _ _ _ _ (heap_at rfl), Nat.zero_add]
    simpa using hu
  rintro en w2 ⟨sl, st, mn, sp, hL, rfl, hb2⟩
  unfold LinE at hL
  rw [if_neg (by decide)] at hL
  obtain ⟨rfl, rfl, rfl⟩ := known_line hL
  have he : errE 3 = 0 := rfl
  rw [he]
  unfold trend
  have hB2 : Below w.heap.size w w2 := bnext (hB1.trans (by go_grown)) hb2
  clear hL he hb2 hB1
  have hs2 := hB2.size
  go_upto_region 3 with (fail)
  refine wp_at (fun Z => Blk Z w2.heap.size 31 #[.int .i64 3, .float .f64 4611686018427387904, .float .f64 4607182418800017408, .float .f64 4613937818241073152, .float .f64 sp] ∧ Below w.heap.size w Z) ⟨?_, by go_grown⟩ ?_
  · go_simp; try (exact heap_at rfl)
  rintro w3 ⟨TB, hB3⟩
  have lT := TB.lt
  go_wp2_with fail
  refine (fold8 _ 0 _ _ ?_ ?_ ?_).mono ?_
  · simp
  · rw [cell_of_row _ _ _ _ _ _ (heap_at rfl)]; rfl
  · rw [cell_of_row _ _ _ _ _ _ (heap_at rfl)]; rfl
  rintro en w4 ⟨v, rfl, hO, hb4⟩
  obtain ⟨g, c, rfl, hg1, hg2⟩ := World.ownsRow.form hO (by omega)
  have TB4 : Blk w4 w2.heap.size 31 #[.int .i64 3, .float .f64 4611686018427387904, .float .f64 4607182418800017408, .float .f64 4613937818241073152, .float .f64 sp] := Blk.below (Blk.below TB (by go_grown)) hb4
  have hB4 : Below w.heap.size w w4 := bnext (hB3.trans (by go_grown)) hb4
  have e1 : w4.cell? ⟨g, 1, none⟩ = some (.float .f64 4636737291354636288) := (hO.cellAt 1 (by omega)).trans rfl
  have c4 := TB4.cell
  have lT4 := TB4.lt
  clear TB hO hb4 hB3 lT hB2
  have hs4 := hB4.size
  go_wp2_with fail
  refine (tone_any _ 4 _ _ _ [4607182418800017408, 4611686018427387904, 4613937818241073152, 4616189618054758400] _ rfl (by omega) ?_).mono ?_
  · refine .inr ⟨w4.heap.size, 0, rfl, by simp, fun j u hu => ?_⟩
    rw [cell_of_row _ _ _ _ _ _ (heap_at rfl), Nat.zero_add]
    simpa using hu
  rintro en w5 ⟨u, v, hT, rfl, hb5⟩
  obtain ⟨rfl, rfl⟩ := known_tone hT
  have hB5 : Below w.heap.size w w5 := bnext (hB4.trans (by go_grown)) hb5
  have e5 : w5.cell? ⟨g, 1, none⟩ = some (.float .f64 4636737291354636288) := (hb5.cell (p := ⟨g, 1, none⟩) (by simp; omega)).trans ((Below.cell (p := ⟨g, 1, none⟩) (show Below w4.heap.size w4 (w4.alloc _) by go_grown) hg2).trans e1)
  clear hT hb5 hB4 e1
  go_wp2_with fail
  go_returns
  exact ⟨rfl, hB5⟩
end Go.Proofs.Ytbkofiflfcfjfaa
