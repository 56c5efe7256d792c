/- Series: a told row is written over, and grown. -/
import Derived.Test.YtbkofiflfcfjfaaSeH
set_option linter.unusedSimpArgs false
set_option linter.unusedVariables false
namespace Go.Proofs.Ytbkofiflfcfjfaa
open Go.RowKit Go.Kp Go.Ser

theorem store_float {P : Program} {w : World} {a : Addr} {m : Mode} (k : FloatKind) (b : Nat) : (store a (.float k b) m).run P w = stored P w a (.float k b) m := run_store P w a _ m rfl
attribute [local go_sem] store_float

set_option maxHeartbeats 2000000 in
theorem spoilt_any (v : Value) (B n : Nat) (xs : List Nat) (w : World) (hn : n ≤ 1048576) (hO : w.ownsRow B 25 1 v n (fl xs)) (hBw : B ≤ w.heap.size) :
    Calls Try.prog 35 #[v] w fun e w' => e = .returned (.tuple #[]) ∧ w.grownBy w' v.ownBlock := by
  obtain ⟨hnp⟩ : Nonempty (n ≤ 4611686018427387904) := ⟨by omega⟩
  have HV : ∃ a c, v = .slice a n c := by
    obtain ⟨a, c, h, _⟩ := own_rd hO
    exact ⟨a, c, h⟩
  obtain ⟨a, c, rfl⟩ := HV
  have HO0 := Lib.hid hO
  clear hO
  go_enter Try.func35, Try.ntmps35
  go_wp2
  go_loopw [2] (fun i wr => ∃ k : Nat, ∃ ys : List Nat, k ≤ n ∧ i = .int .i64 k ∧ wr.ownsRow B 25 1 (.slice a n c) n (fl ys) ∧ w.grownBy wr (Value.ownBlock (.slice a n c))) (fun i _ => n - (intOf i).toNat)
  case atStart => exact ⟨0, xs, Nat.zero_le _, rfl, HO0.out, World.grownBy.refl _ _⟩
  case round =>
    obtain ⟨k, ys, hk, rfl, hO, hG⟩ := hrel
    have HO := Lib.hid hO
    have HG := Lib.hid hG
    clear hO hG
    have hsz : w.heap.size ≤ wr.heap.size := HG.out.size
    rcases Nat.lt_or_ge k n with hlt | hge
    · obtain ⟨g, c', hv, hg1, hg2⟩ := World.ownsRow.form HO.out (by omega)
      obtain ⟨rfl, rfl⟩ : a = some ⟨g, 0, none⟩ ∧ c = c' := by injection hv with h1 h2 h3; exact ⟨h1, h3⟩
      obtain ⟨cap, cur, hcap, hcur, hncap, hcm, hcs, htake⟩ : ∃ cap cur, c = cap ∧ Blk wr g 25 cur ∧ n ≤ cap ∧ cap ≤ maxLen ∧ cur.size = cap * 1 ∧ cur.toList.take (n * 1) = fl ys := by
        rcases HO.out.2 with ⟨h, _⟩ | ⟨g', cap, cur, h1, h2, h3, h4, h5, h6, h7⟩
        · cases h
        · cases h1
          exact ⟨_, cur, rfl, h3, h4, h5, h6, h7⟩
      subst hcap
      have hy : ys.length = n := by have := HO.out.1; simpa using this
      obtain ⟨z, hz⟩ := some_at hy hlt
      have e : wr.cell? ⟨g, k, none⟩ = some (.float .f64 z) := (HO.out.cellAt k (by omega)).trans (by rw [List.getElem?_map, hz]; rfl)
      have f := hcur.free k
      have HT := Lib.hid htake
      have HS := Lib.hid hcs
      have HY := Lib.hid hy
      have lD := hcur.lt
      have hq1 : ∀ (v : Value), Hid ((cur.setIfInBounds k v).toList.take n = (cur.toList.take n).set k v) := fun v => Lib.hid (by rw [Array.toList_setIfInBounds, List.take_set])
      clear htake hcs hy hz
      go_wp2_with fail
      go_roundw
      case rel =>
        refine ⟨k + 1, ys.set k 4636666922610458624, by omega, by go_num, ⟨by simp [HY.out], .inr ⟨g, c, cur.setIfInBounds k (.float .f64 4636666922610458624), rfl, hg1, ?_, hncap, hcm, by simp [HS.out], ?_⟩⟩, grown_set HG.out⟩
        · unfold Blk at hcur; simp (disch := (first | omega | (simp only [World.size_alloc, World.size_setCell, World.size_drew] <;> omega) | fail)) only [Blk, heap_old, heap_at, heap_set_same, heap_set_ne, heap_drew', Option.map_some, putO_cells, hcur]
        · have := HT.out
          rw [Nat.mul_one] at this ⊢
          rw [(hq1 _).out, this, fl, fl, List.map_set]
      case measure => simp [intOf]; omega
    · obtain rfl : k = n := by omega
      go_wp2
      rename World => wo
      go_loopw [0, 3] (fun x i wr => ∃ j : Nat, ∃ zs : List Nat, j ≤ 20 ∧ i = .int .i64 j ∧ wr.ownsRow B 25 1 x (k + j) (fl zs) ∧ w.grownBy wr (Value.ownBlock (.slice a k c)) ∧ (x.ownBlock = Value.ownBlock (.slice a k c) ∨ ∀ g, x.ownBlock = some g → w.heap.size ≤ g)) (fun _ i _ => 20 - (intOf i).toNat)
      case atStart => exact ⟨0, ys, by omega, rfl, HO.out, HG.out, .inl rfl⟩
      case round =>
        obtain ⟨j, zs, hj, rfl, hO2, hG2, hX⟩ := hrel
        have HO2 := Lib.hid hO2
        have HG2 := Lib.hid hG2
        have HX := Lib.hid hX
        clear hO2 hG2 hX
        have hsz2 : w.heap.size ≤ wr.heap.size := HG2.out.size
        rcases Nat.lt_or_ge j 20 with hlt | hge2
        · go_upto_region 7 with (fail)
          apply wp_region_lit
          iterate 2 (go_step; go_step; rename_i KK hKK; (with_reducible refine hKK _ _ ?_); clear hKK KK)
          (with_reducible refine append_fl2 ?_ (.tmp 17) (.tmp 18) ?_ B u0 (k + j) zs ?_ ?_ wr.heap.size 4636666922610458624 1 ?_ ?_ ?_ ?_ ?_)
          · rfl
          · rfl
          · rfl
          · exact HO2.out.alloc _
          · rfl
          · rw [cell_of_row _ _ _ _ _ _ (heap_at rfl)]; rfl
          · omega
          · simp; omega
          intro v1 w5 ho hg5 hv5
          go_wp2_with fail
          go_roundw
          case rel =>
            refine ⟨j + 1, _, by omega, by go_num, ho.out, ?_, ?_⟩
            · refine grown_trans (grown_alloc HG2.out _) hg5.out fun x hx hlt => ?_
              rcases HX.out with h | h
              · rw [hx, h]
              · exact absurd (h x hx.symm) (by omega)
            · rcases hv5.out with h | h
              · rw [h]; exact HX.out
              · refine .inr fun g hg => ?_
                rw [h] at hg
                simp at hg
                omega
          case measure => simp [intOf]; omega
        · go_wp2
          refine bodyPost_end (v := .tuple #[]) (by simp [results, Try.results35]) rfl ⟨rfl, HG2.out⟩
end Go.Proofs.Ytbkofiflfcfjfaa
