/- CrcHashes: the walk. -/
import Derived.Test.YtcjmobikjegioaaDoorCHashM
set_option linter.unusedSimpArgs false
set_option linter.unusedVariables false
namespace Go.Proofs.YtcjmobikjegioaaDoor
open Go.RowKit Go.Kp

theorem tmod3 (o : Int) : -3 < o.tmod 3 ∧ o.tmod 3 < 3 := by
  have h1 : (o.tmod 3).natAbs = o.natAbs % 3 := Int.natAbs_tmod o 3
  have h2 : o.natAbs % 3 < 3 := Nat.mod_lt _ (by omega)
  omega
theorem more_zero : Crc.more 0#32 [] = 0#32 := by decide

set_option maxRecDepth 100000 in
set_option maxHeartbeats 32000000 in
theorem hashes (a : Option Addr) (n ca : Nat) (os : List Opd) (w : World) (hT : Tab w) (hl : os.length = n) (hn : n ≤ 1048576) (hf : tot os os.length ≤ 1048576) (hr : Rd w w.heap.size a (os.flatMap Opd.cells)) (hx : ∀ x ∈ os, Txt w w.heap.size x.v x.l) :
    Calls Tryd.prog 9 #[.slice a n ca] w (Ret (.bool true) w) := by
  obtain ⟨hnp⟩ : Nonempty (n ≤ 1048576) := ⟨hn⟩
  have HT := Lib.hid hT
  have HL := Lib.hid hl
  have HF := Lib.hid hf
  have HR := Lib.hid hr
  have HX := Lib.hid hx
  clear hT hl hf hr hx
  go_enter Tryd.func9, Tryd.ntmps9
  go_wp2_with fail
  go_loopw [5] (fun i wr => ∃ k : Nat, k ≤ 3 ∧ i = .int .i64 k ∧ wr.heap.size = w.heap.size + 2 + k ∧ Blk wr w.heap.size 48 (arr3 fun j => if j < k then .pointer (some ⟨w.heap.size + 2 + j, 0, none⟩) else .pointer none) ∧
      Blk wr (w.heap.size + 1) 49 (arr3 fun _ => .slice none 0 0) ∧ (∀ j, j < k → Blk wr (w.heap.size + 2 + j) 58 (hcells 0#32 0)) ∧ Below w.heap.size w wr) (fun i _ => 3 - (intOf i).toNat)
  case atStart => exact ⟨0, Nat.zero_le _, rfl, by simp, (heap_old (by simp)).trans (heap_at rfl), heap_at (by simp), fun j h => by omega, by go_grown⟩
  case round =>
    obtain ⟨k, hk, rfl, hsz, A, B, hA, hB⟩ := hrel
    have HSZ := Lib.hid hsz
    have HHA := Lib.hid hA
    clear hsz hA
    have l0 := A.lt
    have l1 := B.lt
    rcases Nat.lt_or_ge k 3 with hlt | hge
    · go_wp2_with fail
      refine (new_any _).mono ?_
      rintro en w1 ⟨rfl, rfl⟩
      have c0 : wr.cell? ⟨w.heap.size, k, none⟩ = some (.pointer none) := by rw [A.cell k, arr3_get _ k hlt]; simp
      have f0 := A.free k
      go_wp2_with fail
      go_roundw
      case rel =>
        have hz := HSZ.out
        refine ⟨k + 1, by omega, by go_num, by simp; omega, ?_, ?_, fun j hj => ?_, by go_grown⟩
        · have e : arr3 (fun j => if j < k + 1 then .pointer (some ⟨w.heap.size + 2 + j, 0, none⟩) else .pointer none) = (arr3 fun j => if j < k then .pointer (some ⟨w.heap.size + 2 + j, 0, none⟩) else .pointer none).setIfInBounds k (.pointer (some ⟨wr.heap.size, 0, none⟩)) := by
            rw [arr3_set _ _ _ hlt, hz]
            match k, hlt with
            | 0, _ => rfl
            | 1, _ => rfl
            | 2, _ => rfl
          rw [e]
          exact (heap_old (by simp; omega)).trans (blk_set_same A)
        · exact (heap_old (by simp; omega)).trans (blk_set_ne B (by omega))
        · rcases Nat.lt_or_ge j k with h | h
          · exact (heap_old (by simp; omega)).trans (blk_set_ne (HHA.out j h) (by omega))
          · have hjk : w.heap.size + 2 + j = wr.heap.size := by omega
            rw [hjk]
            exact heap_at (by simp)
      case measure => simp [intOf]; omega
    · obtain rfl : k = 3 := by omega
      have H0 : HInv w wr w.heap.size (w.heap.size + 1) (fun j => w.heap.size + 2 + j) (fun _ => []) (fun _ => .slice none 0 0) 0 := by
        have e : arr3 (fun j => if j < 3 then .pointer (some ⟨w.heap.size + 2 + j, 0, none⟩) else .pointer none) = arr3 fun j => .pointer (some ⟨w.heap.size + 2 + j, 0, none⟩) := rfl
        exact ⟨e ▸ A, B, fun i hi => by rw [more_zero]; exact HHA.out i (by omega), fun i _ => ⟨none, 0, rfl, fun _ => rfl, by simp, .inl rfl⟩, fun i _ => by omega, fun i j _ _ hij => by omega, fun i _ => by simp, by omega, by omega, hB⟩
      have HI0 := Lib.hid H0
      clear A B l0 l1 hB H0 HSZ HHA
      (try simp only [Int.cast_ofNat_Int])
      go_wp2_with fail
      (try simp only [Int.cast_ofNat_Int])
      generalize hRf : w.heap.size + 1 = Rf at *
      have hn1 : ¬ Rf = w.heap.size := by omega
      have hn2 : ¬ w.heap.size = Rf := by omega
      have HRf := Lib.hid hRf
      clear hRf
      go_loopw [6] (fun i wr => ∃ (k : Nat) (h : Nat → Nat) (t : Nat → List UInt8) (r : Nat → Value), k ≤ n ∧ i = .int .i64 k ∧ HInv w wr w.heap.size Rf h t r (tot os k)) (fun i _ => n - (intOf i).toNat)
      case atStart => exact ⟨0, _, _, _, Nat.zero_le _, rfl, HI0.out⟩
      case round =>
        obtain ⟨k, h, t, r, hk, rfl, H⟩ := hrel
        have HI := Lib.hid H
        have hs := H.below.size
        clear H HI0
        rcases Nat.lt_or_ge k n with hlt | hge
        · obtain ⟨x, hz⟩ : ∃ z, os[k]? = some z := ⟨_, List.getElem?_eq_getElem (by rw [HL.out]; exact hlt)⟩
          have HSN := Lib.hid (tot_snoc os k x hz)
          have HTX := Lib.hid (HX.out x (List.mem_of_getElem? hz))
          have htl : tot os (k + 1) ≤ 1048576 := Nat.le_trans (tot_le os (k + 1)) HF.out
          rcases HR.out with hr | ⟨b, off, rfl, hbl, hc⟩
          · have := flat_length Opd.cells 4 Opd.len os
            rw [hr, HL.out] at this
            simp at this; omega
          have e := fun j (hj : j < 4) => (HI.out.below.cell (p := ⟨b, off + (k * 4 + j), none⟩) hbl).trans (hc (k * 4 + j) _ ((flat_get Opd.cells 4 Opd.len os k j x hz hj).trans (List.getElem?_eq_getElem (by simpa using hj))))
          have e0 := e 0 (by omega)
          have e1 := e 1 (by omega)
          have e2 := e 2 (by omega)
          have e3 := e 3 (by omega)
          clear e hz hc
          obtain ⟨kd, on, too, v, l⟩ := x
          simp only [Opd.cells, ← Nat.add_assoc, Nat.add_zero, List.getElem_cons_zero, List.getElem_cons_succ] at e0 e1 e2 e3
          obtain ⟨b1, b2⟩ := tmod3 on
          obtain ⟨b3, b4⟩ := tmod3 too
          obtain ⟨nn, hnn, en⟩ : ∃ nn : Nat, nn < 3 ∧ (on.tmod 3 + 3) % 3 = (nn : Int) := ⟨((on.tmod 3 + 3) % 3).toNat, by omega, by omega⟩
          obtain ⟨tt, htt, et⟩ : ∃ tt : Nat, tt < 3 ∧ (too.tmod 3 + 3) % 3 = (tt : Int) := ⟨((too.tmod 3 + 3) % 3).toNat, by omega, by omega⟩
          obtain ⟨va, vc, hve, hvn, hvb, hvr⟩ := HTX.out
          obtain rfl : v = .slice va l.length vc := hve
          have HVN := Lib.hid hvn
          have HVR := Lib.hid hvr
          simp only at HSN hvb
          generalize hln : l.length = ln at *
          have HLN := Lib.hid hln
          clear hvn hvr hln HTX
          by_cases hF : kd < 0 ∨ 6 < kd
          · rcases hF with hF | hF
            · skip
              go_upto_region 38 with (fail)
              (refine wp_at (fun wc => ∃ h2 t2 r2, HInv w wc w.heap.size Rf h2 t2 r2 (tot os (k + 1))) ?_ ?_)
              · exact ⟨_, _, _, (HI.out.next (by go_grown)).more (by rw [HSN.out]; omega)⟩
              rintro wc ⟨h2, t2, r2, H⟩
              have HI2 := Lib.hid H
              clear H HI
              have s2 := HI2.out.below.size
              have l0 := HI2.out.hd.lt
              have l1 := HI2.out.rf.lt
              have hni : (nn : Int) < 3 := by omega
              have c0 : wc.cell? ⟨w.heap.size, nn, none⟩ = some (.pointer (some ⟨h2 nn, 0, none⟩)) := (HI2.out.hd.cell nn).trans (arr3_get _ nn hnn)
              obtain ⟨ra, rc, hre, _, hrb, _⟩ := HI2.out.txt nn hnn
              have c1 : wc.cell? ⟨Rf, nn, none⟩ = some (.slice ra (t2 nn).length rc) := (HI2.out.rf.cell nn).trans ((arr3_get _ nn hnn).trans (by rw [hre]))
              have HRE := Lib.hid hre
              clear hre
              generalize htn : (t2 nn).length = tn at *
              have HTN := Lib.hid htn
              clear htn
              (refine region_grow 24 [(0, true), (1, true), (2, true), (3, true), (4, true), (5, true), (6, true), (7, true), (9, true), (10, true), (11, true), (8, false), (12, false), (13, true), (14, true), (15, true), (16, true), (17, true), (18, true), (20, true), (21, true), (22, true), (23, true), (19, false)] (by kernel_rfl) (fun _ _ d _ _ h => by cases d <;> exact h) (by kernel_rfl) ?_; simp only [withOps, List.getElem?_toArray, List.getElem?_cons_zero, List.getElem?_cons_succ, List.drop_succ_cons, List.drop_zero])
              (iterate 11 (refine grow_quiet (v := ?_) rfl ?_ ?_; rotate_left; (focus (intro w' hz' hw'; (try simp only [World.size_drew, World.size_alloc] at hw'); go_simp; (try with_reducible rfl); done)); try simp only [Act.put, List.setIfInBounds_toArray, List.set_cons_zero, List.set_cons_succ]))
              (with_reducible refine plan_loud (fun K hK => ?_))
              go_simp
              refine (hsum_any (h2 nn) _ _ _ (show Blk wc.drew _ _ _ from HI2.out.hash nn hnn)).mono ?_
              rintro en w7 ⟨rfl, hb⟩
              refine hK _ _ (Grow.below hb) ?_
              clear hK K
              have HI7 := Lib.hid (HI2.out.next (show Below wc.heap.size wc w7 from bnext (by go_grown) hb))
              clear hb c0 c1 s2 l0 l1 HI2
              have s2 := HI7.out.below.size
              have l0 := HI7.out.hd.lt
              have l1 := HI7.out.rf.lt
              have c0 : w7.cell? ⟨w.heap.size, nn, none⟩ = some (.pointer (some ⟨h2 nn, 0, none⟩)) := (HI7.out.hd.cell nn).trans (arr3_get _ nn hnn)
              have c1 : w7.cell? ⟨Rf, nn, none⟩ = some (.slice ra tn rc) := (HI7.out.rf.cell nn).trans ((arr3_get _ nn hnn).trans (by rw [HRE.out]))
              (try simp only [Act.put, List.setIfInBounds_toArray, List.set_cons_zero, List.set_cons_succ])
              (with_reducible refine plan_loud (fun K hK => ?_))
              go_simp
              refine (refSum_any (.slice ra tn rc) (t2 nn) _ (by rw [← HRE.out]; exact HI7.out.txt nn hnn)).mono ?_
              rintro en w8 ⟨rfl, hb⟩
              refine hK _ _ (Grow.below hb) ?_
              clear hK K
              have HI8 := Lib.hid (HI7.out.next hb)
              clear hb c0 c1 s2 l0 l1 HI7
              have s2 := HI8.out.below.size
              have l0 := HI8.out.hd.lt
              have l1 := HI8.out.rf.lt
              have c0 : w8.cell? ⟨w.heap.size, nn, none⟩ = some (.pointer (some ⟨h2 nn, 0, none⟩)) := (HI8.out.hd.cell nn).trans (arr3_get _ nn hnn)
              have c1 : w8.cell? ⟨Rf, nn, none⟩ = some (.slice ra tn rc) := (HI8.out.rf.cell nn).trans ((arr3_get _ nn hnn).trans (by rw [HRE.out]))
              (try simp only [Act.put, List.setIfInBounds_toArray, List.set_cons_zero, List.set_cons_succ])
              generalize Crc.more 0#32 (t2 nn) = sm
              (iterate 10 (refine grow_quiet (v := ?_) rfl ?_ ?_; rotate_left; (focus (intro w' hz' hw'; (try simp only [World.size_drew, World.size_alloc] at hw'); go_simp; (try with_reducible rfl); done)); try simp only [Act.put, List.setIfInBounds_toArray, List.set_cons_zero, List.set_cons_succ]))
              (with_reducible refine plan_loud (fun K hK => ?_))
              go_simp
              refine (hlen_any (h2 nn) _ _ _ (HI8.out.hash nn hnn)).mono ?_
              rintro en w9 ⟨rfl, hb⟩
              rw [HTN.out]
              refine hK _ _ (Grow.below hb) ?_
              clear hK K
              have HI9 := Lib.hid (HI8.out.next hb)
              clear hb c0 c1 s2 l0 l1 HI8
              (try simp only [Act.put, List.setIfInBounds_toArray, List.set_cons_zero, List.set_cons_succ])
              (with_reducible refine plan_end ?_)
              (try simp only [Act.put, List.setIfInBounds_toArray, List.set_cons_zero, List.set_cons_succ])
              go_wp2_with fail
              go_roundw
              case rel => exact ⟨k + 1, _, _, _, by omega, by go_num, HI9.out⟩
              case measure => simp [intOf]; omega

            · skip
              go_upto_region 38 with (fail)
              (refine wp_at (fun wc => ∃ h2 t2 r2, HInv w wc w.heap.size Rf h2 t2 r2 (tot os (k + 1))) ?_ ?_)
              · exact ⟨_, _, _, (HI.out.next (by go_grown)).more (by rw [HSN.out]; omega)⟩
              rintro wc ⟨h2, t2, r2, H⟩
              have HI2 := Lib.hid H
              clear H HI
              have s2 := HI2.out.below.size
              have l0 := HI2.out.hd.lt
              have l1 := HI2.out.rf.lt
              have hni : (nn : Int) < 3 := by omega
              have c0 : wc.cell? ⟨w.heap.size, nn, none⟩ = some (.pointer (some ⟨h2 nn, 0, none⟩)) := (HI2.out.hd.cell nn).trans (arr3_get _ nn hnn)
              obtain ⟨ra, rc, hre, _, hrb, _⟩ := HI2.out.txt nn hnn
              have c1 : wc.cell? ⟨Rf, nn, none⟩ = some (.slice ra (t2 nn).length rc) := (HI2.out.rf.cell nn).trans ((arr3_get _ nn hnn).trans (by rw [hre]))
              have HRE := Lib.hid hre
              clear hre
              generalize htn : (t2 nn).length = tn at *
              have HTN := Lib.hid htn
              clear htn
              (refine region_grow 24 [(0, true), (1, true), (2, true), (3, true), (4, true), (5, true), (6, true), (7, true), (9, true), (10, true), (11, true), (8, false), (12, false), (13, true), (14, true), (15, true), (16, true), (17, true), (18, true), (20, true), (21, true), (22, true), (23, true), (19, false)] (by kernel_rfl) (fun _ _ d _ _ h => by cases d <;> exact h) (by kernel_rfl) ?_; simp only [withOps, List.getElem?_toArray, List.getElem?_cons_zero, List.getElem?_cons_succ, List.drop_succ_cons, List.drop_zero])
              (iterate 11 (refine grow_quiet (v := ?_) rfl ?_ ?_; rotate_left; (focus (intro w' hz' hw'; (try simp only [World.size_drew, World.size_alloc] at hw'); go_simp; (try with_reducible rfl); done)); try simp only [Act.put, List.setIfInBounds_toArray, List.set_cons_zero, List.set_cons_succ]))
              (with_reducible refine plan_loud (fun K hK => ?_))
              go_simp
              refine (hsum_any (h2 nn) _ _ _ (show Blk wc.drew _ _ _ from HI2.out.hash nn hnn)).mono ?_
              rintro en w7 ⟨rfl, hb⟩
              refine hK _ _ (Grow.below hb) ?_
              clear hK K
              have HI7 := Lib.hid (HI2.out.next (show Below wc.heap.size wc w7 from bnext (by go_grown) hb))
              clear hb c0 c1 s2 l0 l1 HI2
              have s2 := HI7.out.below.size
              have l0 := HI7.out.hd.lt
              have l1 := HI7.out.rf.lt
              have c0 : w7.cell? ⟨w.heap.size, nn, none⟩ = some (.pointer (some ⟨h2 nn, 0, none⟩)) := (HI7.out.hd.cell nn).trans (arr3_get _ nn hnn)
              have c1 : w7.cell? ⟨Rf, nn, none⟩ = some (.slice ra tn rc) := (HI7.out.rf.cell nn).trans ((arr3_get _ nn hnn).trans (by rw [HRE.out]))
              (try simp only [Act.put, List.setIfInBounds_toArray, List.set_cons_zero, List.set_cons_succ])
              (with_reducible refine plan_loud (fun K hK => ?_))
              go_simp
              refine (refSum_any (.slice ra tn rc) (t2 nn) _ (by rw [← HRE.out]; exact HI7.out.txt nn hnn)).mono ?_
              rintro en w8 ⟨rfl, hb⟩
              refine hK _ _ (Grow.below hb) ?_
              clear hK K
              have HI8 := Lib.hid (HI7.out.next hb)
              clear hb c0 c1 s2 l0 l1 HI7
              have s2 := HI8.out.below.size
              have l0 := HI8.out.hd.lt
              have l1 := HI8.out.rf.lt
              have c0 : w8.cell? ⟨w.heap.size, nn, none⟩ = some (.pointer (some ⟨h2 nn, 0, none⟩)) := (HI8.out.hd.cell nn).trans (arr3_get _ nn hnn)
              have c1 : w8.cell? ⟨Rf, nn, none⟩ = some (.slice ra tn rc) := (HI8.out.rf.cell nn).trans ((arr3_get _ nn hnn).trans (by rw [HRE.out]))
              (try simp only [Act.put, List.setIfInBounds_toArray, List.set_cons_zero, List.set_cons_succ])
              generalize Crc.more 0#32 (t2 nn) = sm
              (iterate 10 (refine grow_quiet (v := ?_) rfl ?_ ?_; rotate_left; (focus (intro w' hz' hw'; (try simp only [World.size_drew, World.size_alloc] at hw'); go_simp; (try with_reducible rfl); done)); try simp only [Act.put, List.setIfInBounds_toArray, List.set_cons_zero, List.set_cons_succ]))
              (with_reducible refine plan_loud (fun K hK => ?_))
              go_simp
              refine (hlen_any (h2 nn) _ _ _ (HI8.out.hash nn hnn)).mono ?_
              rintro en w9 ⟨rfl, hb⟩
              rw [HTN.out]
              refine hK _ _ (Grow.below hb) ?_
              clear hK K
              have HI9 := Lib.hid (HI8.out.next hb)
              clear hb c0 c1 s2 l0 l1 HI8
              (try simp only [Act.put, List.setIfInBounds_toArray, List.set_cons_zero, List.set_cons_succ])
              (with_reducible refine plan_end ?_)
              (try simp only [Act.put, List.setIfInBounds_toArray, List.set_cons_zero, List.set_cons_succ])
              go_wp2_with fail
              go_roundw
              case rel => exact ⟨k + 1, _, _, _, by omega, by go_num, HI9.out⟩
              case measure => simp [intOf]; omega

          · by_cases h3 : kd = 3
            · subst kd
              have HIW := Lib.hid (HI.out.next (show Below wr.heap.size wr (wr.alloc (.cells #[.int .i64 3, .int .i64 on, .int .i64 too, .slice va ln vc] 52)) by go_grown))
              have l0 := HI.out.hd.lt
              have l1 := HI.out.rf.lt
              have c0 : wr.cell? ⟨w.heap.size, nn, none⟩ = some (.pointer (some ⟨h nn, 0, none⟩)) := (HI.out.hd.cell nn).trans (arr3_get _ nn hnn)
              go_wp2_with fail
              refine (reset_any (h nn) _ _ _ (HIW.out.hash nn hnn)).mono ?_
              rintro en w5 ⟨rfl, B5, hg5⟩
              clear c0 l0 l1
              go_wp2_with fail
              refine (num_any 0 _).mono ?_
              rintro en w6 ⟨rfl, hb⟩
              have B6 := Lib.hid (B5.below hb)
              have hg6 := Lib.hid (grown_next hg5 hb)
              have R6 : Blk w6 Rf 49 (arr3 r) := HIW.out.rf.grown hg6.out (by intro e; injection e with e; exact blk_ne HIW.out.rf (HIW.out.hash nn hnn) (by decide) e)
              have s6 := hg6.out.size
              have l1 := R6.lt
              have c1 := (R6.cell nn).trans (arr3_get _ nn hnn)
              have f1 := R6.free nn
              clear hb B5 hg5
              go_upto_region 38 with (fail)
              (refine wp_at (fun wc => ∃ h2 t2 r2, HInv w wc w.heap.size Rf h2 t2 r2 (tot os (k + 1))) ?_ ?_)
              · exact ⟨_, _, _, HIW.out.more (by rw [HSN.out]; omega) |>.wrote2 hnn hg6.out [] (by simp) (by rw [more_zero]; exact B6.out) (.slice none 0 0) ⟨none, 0, rfl, fun _ => rfl, by simp, .inl rfl⟩⟩
              rintro wc ⟨h2, t2, r2, H⟩
              have HI2 := Lib.hid H
              clear H HI
              have s2 := HI2.out.below.size
              have l0 := HI2.out.hd.lt
              have l1 := HI2.out.rf.lt
              have hni : (nn : Int) < 3 := by omega
              have c0 : wc.cell? ⟨w.heap.size, nn, none⟩ = some (.pointer (some ⟨h2 nn, 0, none⟩)) := (HI2.out.hd.cell nn).trans (arr3_get _ nn hnn)
              obtain ⟨ra, rc, hre, _, hrb, _⟩ := HI2.out.txt nn hnn
              have c1 : wc.cell? ⟨Rf, nn, none⟩ = some (.slice ra (t2 nn).length rc) := (HI2.out.rf.cell nn).trans ((arr3_get _ nn hnn).trans (by rw [hre]))
              have HRE := Lib.hid hre
              clear hre
              generalize htn : (t2 nn).length = tn at *
              have HTN := Lib.hid htn
              clear htn
              (refine region_grow 24 [(0, true), (1, true), (2, true), (3, true), (4, true), (5, true), (6, true), (7, true), (9, true), (10, true), (11, true), (8, false), (12, false), (13, true), (14, true), (15, true), (16, true), (17, true), (18, true), (20, true), (21, true), (22, true), (23, true), (19, false)] (by kernel_rfl) (fun _ _ d _ _ h => by cases d <;> exact h) (by kernel_rfl) ?_; simp only [withOps, List.getElem?_toArray, List.getElem?_cons_zero, List.getElem?_cons_succ, List.drop_succ_cons, List.drop_zero])
              (iterate 11 (refine grow_quiet (v := ?_) rfl ?_ ?_; rotate_left; (focus (intro w' hz' hw'; (try simp only [World.size_drew, World.size_alloc] at hw'); go_simp; (try with_reducible rfl); done)); try simp only [Act.put, List.setIfInBounds_toArray, List.set_cons_zero, List.set_cons_succ]))
              (with_reducible refine plan_loud (fun K hK => ?_))
              go_simp
              refine (hsum_any (h2 nn) _ _ _ (show Blk wc.drew _ _ _ from HI2.out.hash nn hnn)).mono ?_
              rintro en w7 ⟨rfl, hb⟩
              refine hK _ _ (Grow.below hb) ?_
              clear hK K
              have HI7 := Lib.hid (HI2.out.next (show Below wc.heap.size wc w7 from bnext (by go_grown) hb))
              clear hb c0 c1 s2 l0 l1 HI2
              have s2 := HI7.out.below.size
              have l0 := HI7.out.hd.lt
              have l1 := HI7.out.rf.lt
              have c0 : w7.cell? ⟨w.heap.size, nn, none⟩ = some (.pointer (some ⟨h2 nn, 0, none⟩)) := (HI7.out.hd.cell nn).trans (arr3_get _ nn hnn)
              have c1 : w7.cell? ⟨Rf, nn, none⟩ = some (.slice ra tn rc) := (HI7.out.rf.cell nn).trans ((arr3_get _ nn hnn).trans (by rw [HRE.out]))
              (try simp only [Act.put, List.setIfInBounds_toArray, List.set_cons_zero, List.set_cons_succ])
              (with_reducible refine plan_loud (fun K hK => ?_))
              go_simp
              refine (refSum_any (.slice ra tn rc) (t2 nn) _ (by rw [← HRE.out]; exact HI7.out.txt nn hnn)).mono ?_
              rintro en w8 ⟨rfl, hb⟩
              refine hK _ _ (Grow.below hb) ?_
              clear hK K
              have HI8 := Lib.hid (HI7.out.next hb)
              clear hb c0 c1 s2 l0 l1 HI7
              have s2 := HI8.out.below.size
              have l0 := HI8.out.hd.lt
              have l1 := HI8.out.rf.lt
              have c0 : w8.cell? ⟨w.heap.size, nn, none⟩ = some (.pointer (some ⟨h2 nn, 0, none⟩)) := (HI8.out.hd.cell nn).trans (arr3_get _ nn hnn)
              have c1 : w8.cell? ⟨Rf, nn, none⟩ = some (.slice ra tn rc) := (HI8.out.rf.cell nn).trans ((arr3_get _ nn hnn).trans (by rw [HRE.out]))
              (try simp only [Act.put, List.setIfInBounds_toArray, List.set_cons_zero, List.set_cons_succ])
              generalize Crc.more 0#32 (t2 nn) = sm
              (iterate 10 (refine grow_quiet (v := ?_) rfl ?_ ?_; rotate_left; (focus (intro w' hz' hw'; (try simp only [World.size_drew, World.size_alloc] at hw'); go_simp; (try with_reducible rfl); done)); try simp only [Act.put, List.setIfInBounds_toArray, List.set_cons_zero, List.set_cons_succ]))
              (with_reducible refine plan_loud (fun K hK => ?_))
              go_simp
              refine (hlen_any (h2 nn) _ _ _ (HI8.out.hash nn hnn)).mono ?_
              rintro en w9 ⟨rfl, hb⟩
              rw [HTN.out]
              refine hK _ _ (Grow.below hb) ?_
              clear hK K
              have HI9 := Lib.hid (HI8.out.next hb)
              clear hb c0 c1 s2 l0 l1 HI8
              (try simp only [Act.put, List.setIfInBounds_toArray, List.set_cons_zero, List.set_cons_succ])
              (with_reducible refine plan_end ?_)
              (try simp only [Act.put, List.setIfInBounds_toArray, List.set_cons_zero, List.set_cons_succ])
              go_wp2_with fail
              go_roundw
              case rel => exact ⟨k + 1, _, _, _, by omega, by go_num, HI9.out⟩
              case measure => simp [intOf]; omega

            · by_cases h4 : kd = 4
              · subst kd
                have HIW := Lib.hid (HI.out.next (show Below wr.heap.size wr (wr.alloc (.cells #[.int .i64 4, .int .i64 on, .int .i64 too, .slice va ln vc] 52)) by go_grown))
                have l0 := HI.out.hd.lt
                have l1 := HI.out.rf.lt
                have c0 : wr.cell? ⟨w.heap.size, tt, none⟩ = some (.pointer (some ⟨h tt, 0, none⟩)) := (HI.out.hd.cell tt).trans (arr3_get _ tt htt)
                obtain ⟨ra, rc, hre, _, hrb, _⟩ := HI.out.txt tt htt
                go_wp2_with fail
                refine (copy_any (h tt) _ _ _ (HIW.out.hash tt htt)).mono ?_
                rintro en w5 ⟨rfl, B5, hb⟩
                have HI5 := Lib.hid (HIW.out.next hb)
                have s5 := HI5.out.below.size
                have B5' := Lib.hid (show Blk w5 (wr.heap.size + 1) _ _ by simpa only [World.size_alloc] using B5)
                have hgl := B5.lt
                clear c0 l0 l1 hb B5
                have l0 := HI5.out.hd.lt
                have l1 := HI5.out.rf.lt
                have c0 := (HI5.out.hd.cell nn).trans (arr3_get _ nn hnn)
                have f0 := HI5.out.hd.free nn
                have c1 : w5.cell? ⟨Rf, tt, none⟩ = some (.slice ra (t tt).length rc) := (HI5.out.rf.cell tt).trans ((arr3_get _ tt htt).trans (by rw [hre]))
                have c2 := (HI5.out.rf.cell nn).trans (arr3_get _ nn hnn)
                have f2 := HI5.out.rf.free nn
                have HRE := Lib.hid hre
                clear hre
                go_upto_region 38 with (fail)
                (refine wp_at (fun wc => ∃ h2 t2 r2, HInv w wc w.heap.size Rf h2 t2 r2 (tot os (k + 1))) ?_ ?_)
                · exact ⟨_, _, _, (HI5.out.more (by rw [HSN.out]; omega)).put hnn (t tt) (.slice ra (t tt).length rc) (by rw [HSN.out]; exact Nat.le_trans (HI5.out.len tt htt) (by omega)) B5'.out (fun i hi => by have := (HIW.out.hash i hi).lt; simp at this ⊢; omega) (by have := HIW.out.below.size; simp at this ⊢; omega) (by rw [← HRE.out]; exact HI5.out.txt tt htt)⟩
                rintro wc ⟨h2, t2, r2, H⟩
                have HI2 := Lib.hid H
                clear H HI
                have s2 := HI2.out.below.size
                have l0 := HI2.out.hd.lt
                have l1 := HI2.out.rf.lt
                have hni : (nn : Int) < 3 := by omega
                have c0 : wc.cell? ⟨w.heap.size, nn, none⟩ = some (.pointer (some ⟨h2 nn, 0, none⟩)) := (HI2.out.hd.cell nn).trans (arr3_get _ nn hnn)
                obtain ⟨ra, rc, hre, _, hrb, _⟩ := HI2.out.txt nn hnn
                have c1 : wc.cell? ⟨Rf, nn, none⟩ = some (.slice ra (t2 nn).length rc) := (HI2.out.rf.cell nn).trans ((arr3_get _ nn hnn).trans (by rw [hre]))
                have HRE := Lib.hid hre
                clear hre
                generalize htn : (t2 nn).length = tn at *
                have HTN := Lib.hid htn
                clear htn
                (refine region_grow 24 [(0, true), (1, true), (2, true), (3, true), (4, true), (5, true), (6, true), (7, true), (9, true), (10, true), (11, true), (8, false), (12, false), (13, true), (14, true), (15, true), (16, true), (17, true), (18, true), (20, true), (21, true), (22, true), (23, true), (19, false)] (by kernel_rfl) (fun _ _ d _ _ h => by cases d <;> exact h) (by kernel_rfl) ?_; simp only [withOps, List.getElem?_toArray, List.getElem?_cons_zero, List.getElem?_cons_succ, List.drop_succ_cons, List.drop_zero])
                (iterate 11 (refine grow_quiet (v := ?_) rfl ?_ ?_; rotate_left; (focus (intro w' hz' hw'; (try simp only [World.size_drew, World.size_alloc] at hw'); go_simp; (try with_reducible rfl); done)); try simp only [Act.put, List.setIfInBounds_toArray, List.set_cons_zero, List.set_cons_succ]))
                (with_reducible refine plan_loud (fun K hK => ?_))
                go_simp
                refine (hsum_any (h2 nn) _ _ _ (show Blk wc.drew _ _ _ from HI2.out.hash nn hnn)).mono ?_
                rintro en w7 ⟨rfl, hb⟩
                refine hK _ _ (Grow.below hb) ?_
                clear hK K
                have HI7 := Lib.hid (HI2.out.next (show Below wc.heap.size wc w7 from bnext (by go_grown) hb))
                clear hb c0 c1 s2 l0 l1 HI2
                have s2 := HI7.out.below.size
                have l0 := HI7.out.hd.lt
                have l1 := HI7.out.rf.lt
                have c0 : w7.cell? ⟨w.heap.size, nn, none⟩ = some (.pointer (some ⟨h2 nn, 0, none⟩)) := (HI7.out.hd.cell nn).trans (arr3_get _ nn hnn)
                have c1 : w7.cell? ⟨Rf, nn, none⟩ = some (.slice ra tn rc) := (HI7.out.rf.cell nn).trans ((arr3_get _ nn hnn).trans (by rw [HRE.out]))
                (try simp only [Act.put, List.setIfInBounds_toArray, List.set_cons_zero, List.set_cons_succ])
                (with_reducible refine plan_loud (fun K hK => ?_))
                go_simp
                refine (refSum_any (.slice ra tn rc) (t2 nn) _ (by rw [← HRE.out]; exact HI7.out.txt nn hnn)).mono ?_
                rintro en w8 ⟨rfl, hb⟩
                refine hK _ _ (Grow.below hb) ?_
                clear hK K
                have HI8 := Lib.hid (HI7.out.next hb)
                clear hb c0 c1 s2 l0 l1 HI7
                have s2 := HI8.out.below.size
                have l0 := HI8.out.hd.lt
                have l1 := HI8.out.rf.lt
                have c0 : w8.cell? ⟨w.heap.size, nn, none⟩ = some (.pointer (some ⟨h2 nn, 0, none⟩)) := (HI8.out.hd.cell nn).trans (arr3_get _ nn hnn)
                have c1 : w8.cell? ⟨Rf, nn, none⟩ = some (.slice ra tn rc) := (HI8.out.rf.cell nn).trans ((arr3_get _ nn hnn).trans (by rw [HRE.out]))
                (try simp only [Act.put, List.setIfInBounds_toArray, List.set_cons_zero, List.set_cons_succ])
                generalize Crc.more 0#32 (t2 nn) = sm
                (iterate 10 (refine grow_quiet (v := ?_) rfl ?_ ?_; rotate_left; (focus (intro w' hz' hw'; (try simp only [World.size_drew, World.size_alloc] at hw'); go_simp; (try with_reducible rfl); done)); try simp only [Act.put, List.setIfInBounds_toArray, List.set_cons_zero, List.set_cons_succ]))
                (with_reducible refine plan_loud (fun K hK => ?_))
                go_simp
                refine (hlen_any (h2 nn) _ _ _ (HI8.out.hash nn hnn)).mono ?_
                rintro en w9 ⟨rfl, hb⟩
                rw [HTN.out]
                refine hK _ _ (Grow.below hb) ?_
                clear hK K
                have HI9 := Lib.hid (HI8.out.next hb)
                clear hb c0 c1 s2 l0 l1 HI8
                (try simp only [Act.put, List.setIfInBounds_toArray, List.set_cons_zero, List.set_cons_succ])
                (with_reducible refine plan_end ?_)
                (try simp only [Act.put, List.setIfInBounds_toArray, List.set_cons_zero, List.set_cons_succ])
                go_wp2_with fail
                go_roundw
                case rel => exact ⟨k + 1, _, _, _, by omega, by go_num, HI9.out⟩
                case measure => simp [intOf]; omega

              · by_cases h5 : kd = 5
                · subst kd
                  have HIW := Lib.hid (HI.out.next (show Below wr.heap.size wr (wr.alloc (.cells #[.int .i64 5, .int .i64 on, .int .i64 too, .slice va ln vc] 52)) by go_grown))
                  have l0 := HI.out.hd.lt
                  have l1 := HI.out.rf.lt
                  have c0 : wr.cell? ⟨w.heap.size, nn, none⟩ = some (.pointer (some ⟨h nn, 0, none⟩)) := (HI.out.hd.cell nn).trans (arr3_get _ nn hnn)
                  go_wp2_with fail
                  refine (new_any2 _).mono ?_
                  rintro en w5 ⟨rfl, B5, hb⟩
                  have HI5 := Lib.hid (HIW.out.next hb)
                  have s5 := HI5.out.below.size
                  have B5' := Lib.hid (show Blk w5 (wr.heap.size + 1) _ _ by simpa only [World.size_alloc] using B5)
                  have hgl := B5.lt
                  clear c0 l0 l1 hb B5
                  have l0 := HI5.out.hd.lt
                  have l1 := HI5.out.rf.lt
                  have c0 := (HI5.out.hd.cell nn).trans (arr3_get _ nn hnn)
                  have f0 := HI5.out.hd.free nn
                  have c2 := (HI5.out.rf.cell nn).trans (arr3_get _ nn hnn)
                  have f2 := HI5.out.rf.free nn
                  go_upto_region 38 with (fail)
                  (refine wp_at (fun wc => ∃ h2 t2 r2, HInv w wc w.heap.size Rf h2 t2 r2 (tot os (k + 1))) ?_ ?_)
                  · exact ⟨_, _, _, (HI5.out.more (by rw [HSN.out]; omega)).put hnn [] (.slice none 0 0) (by simp) (by rw [more_zero]; exact B5'.out) (fun i hi => by have := (HIW.out.hash i hi).lt; simp at this ⊢; omega) (by have := HIW.out.below.size; simp at this ⊢; omega) ⟨none, 0, rfl, fun _ => rfl, by simp, .inl rfl⟩⟩
                  rintro wc ⟨h2, t2, r2, H⟩
                  have HI2 := Lib.hid H
                  clear H HI
                  have s2 := HI2.out.below.size
                  have l0 := HI2.out.hd.lt
                  have l1 := HI2.out.rf.lt
                  have hni : (nn : Int) < 3 := by omega
                  have c0 : wc.cell? ⟨w.heap.size, nn, none⟩ = some (.pointer (some ⟨h2 nn, 0, none⟩)) := (HI2.out.hd.cell nn).trans (arr3_get _ nn hnn)
                  obtain ⟨ra, rc, hre, _, hrb, _⟩ := HI2.out.txt nn hnn
                  have c1 : wc.cell? ⟨Rf, nn, none⟩ = some (.slice ra (t2 nn).length rc) := (HI2.out.rf.cell nn).trans ((arr3_get _ nn hnn).trans (by rw [hre]))
                  have HRE := Lib.hid hre
                  clear hre
                  generalize htn : (t2 nn).length = tn at *
                  have HTN := Lib.hid htn
                  clear htn
                  (refine region_grow 24 [(0, true), (1, true), (2, true), (3, true), (4, true), (5, true), (6, true), (7, true), (9, true), (10, true), (11, true), (8, false), (12, false), (13, true), (14, true), (15, true), (16, true), (17, true), (18, true), (20, true), (21, true), (22, true), (23, true), (19, false)] (by kernel_rfl) (fun _ _ d _ _ h => by cases d <;> exact h) (by kernel_rfl) ?_; simp only [withOps, List.getElem?_toArray, List.getElem?_cons_zero, List.getElem?_cons_succ, List.drop_succ_cons, List.drop_zero])
                  (iterate 11 (refine grow_quiet (v := ?_) rfl ?_ ?_; rotate_left; (focus (intro w' hz' hw'; (try simp only [World.size_drew, World.size_alloc] at hw'); go_simp; (try with_reducible rfl); done)); try simp only [Act.put, List.setIfInBounds_toArray, List.set_cons_zero, List.set_cons_succ]))
                  (with_reducible refine plan_loud (fun K hK => ?_))
                  go_simp
                  refine (hsum_any (h2 nn) _ _ _ (show Blk wc.drew _ _ _ from HI2.out.hash nn hnn)).mono ?_
                  rintro en w7 ⟨rfl, hb⟩
                  refine hK _ _ (Grow.below hb) ?_
                  clear hK K
                  have HI7 := Lib.hid (HI2.out.next (show Below wc.heap.size wc w7 from bnext (by go_grown) hb))
                  clear hb c0 c1 s2 l0 l1 HI2
                  have s2 := HI7.out.below.size
                  have l0 := HI7.out.hd.lt
                  have l1 := HI7.out.rf.lt
                  have c0 : w7.cell? ⟨w.heap.size, nn, none⟩ = some (.pointer (some ⟨h2 nn, 0, none⟩)) := (HI7.out.hd.cell nn).trans (arr3_get _ nn hnn)
                  have c1 : w7.cell? ⟨Rf, nn, none⟩ = some (.slice ra tn rc) := (HI7.out.rf.cell nn).trans ((arr3_get _ nn hnn).trans (by rw [HRE.out]))
                  (try simp only [Act.put, List.setIfInBounds_toArray, List.set_cons_zero, List.set_cons_succ])
                  (with_reducible refine plan_loud (fun K hK => ?_))
                  go_simp
                  refine (refSum_any (.slice ra tn rc) (t2 nn) _ (by rw [← HRE.out]; exact HI7.out.txt nn hnn)).mono ?_
                  rintro en w8 ⟨rfl, hb⟩
                  refine hK _ _ (Grow.below hb) ?_
                  clear hK K
                  have HI8 := Lib.hid (HI7.out.next hb)
                  clear hb c0 c1 s2 l0 l1 HI7
                  have s2 := HI8.out.below.size
                  have l0 := HI8.out.hd.lt
                  have l1 := HI8.out.rf.lt
                  have c0 : w8.cell? ⟨w.heap.size, nn, none⟩ = some (.pointer (some ⟨h2 nn, 0, none⟩)) := (HI8.out.hd.cell nn).trans (arr3_get _ nn hnn)
                  have c1 : w8.cell? ⟨Rf, nn, none⟩ = some (.slice ra tn rc) := (HI8.out.rf.cell nn).trans ((arr3_get _ nn hnn).trans (by rw [HRE.out]))
                  (try simp only [Act.put, List.setIfInBounds_toArray, List.set_cons_zero, List.set_cons_succ])
                  generalize Crc.more 0#32 (t2 nn) = sm
                  (iterate 10 (refine grow_quiet (v := ?_) rfl ?_ ?_; rotate_left; (focus (intro w' hz' hw'; (try simp only [World.size_drew, World.size_alloc] at hw'); go_simp; (try with_reducible rfl); done)); try simp only [Act.put, List.setIfInBounds_toArray, List.set_cons_zero, List.set_cons_succ]))
                  (with_reducible refine plan_loud (fun K hK => ?_))
                  go_simp
                  refine (hlen_any (h2 nn) _ _ _ (HI8.out.hash nn hnn)).mono ?_
                  rintro en w9 ⟨rfl, hb⟩
                  rw [HTN.out]
                  refine hK _ _ (Grow.below hb) ?_
                  clear hK K
                  have HI9 := Lib.hid (HI8.out.next hb)
                  clear hb c0 c1 s2 l0 l1 HI8
                  (try simp only [Act.put, List.setIfInBounds_toArray, List.set_cons_zero, List.set_cons_succ])
                  (with_reducible refine plan_end ?_)
                  (try simp only [Act.put, List.setIfInBounds_toArray, List.set_cons_zero, List.set_cons_succ])
                  go_wp2_with fail
                  go_roundw
                  case rel => exact ⟨k + 1, _, _, _, by omega, by go_num, HI9.out⟩
                  case measure => simp [intOf]; omega

                · by_cases h6 : kd = 6
                  · subst kd
                    have HIW := Lib.hid (HI.out.next (show Below wr.heap.size wr (wr.alloc (.cells #[.int .i64 6, .int .i64 on, .int .i64 too, .slice va ln vc] 52)) by go_grown))
                    have l0 := HI.out.hd.lt
                    have l1 := HI.out.rf.lt
                    have c0 : wr.cell? ⟨w.heap.size, nn, none⟩ = some (.pointer (some ⟨h nn, 0, none⟩)) := (HI.out.hd.cell nn).trans (arr3_get _ nn hnn)
                    clear c0 l0 l1
                    go_upto_region 36 with (fail)
                    (refine wp_at (fun wc => HInv w wc w.heap.size Rf h t r (tot os k)) HIW.out ?_)
                    rintro wc H
                    have HI5 := Lib.hid H
                    clear H
                    have s5 := HI5.out.below.size
                    have l0 := HI5.out.hd.lt
                    have l1 := HI5.out.rf.lt
                    have c0 := (HI5.out.hd.cell nn).trans (arr3_get _ nn hnn)
                    have f0 := HI5.out.hd.free nn
                    have c2 := (HI5.out.rf.cell nn).trans (arr3_get _ nn hnn)
                    have f2 := HI5.out.rf.free nn
                    go_upto_region 38 with (fail)
                    (refine wp_at (fun wc => ∃ h2 t2 r2, HInv w wc w.heap.size Rf h2 t2 r2 (tot os (k + 1))) ?_ ?_)
                    · rw [← World.setCell_alloc_past _ _ _ _ (by simpa using l1), ← World.setCell_alloc_past _ _ _ _ l0]
                      exact ⟨_, _, _, ((HI5.out.next (show Below wc.heap.size wc (wc.alloc (.cells (hcells 0#32 0) 58)) by go_grown)).more (by rw [HSN.out]; omega)).put hnn [] (.slice none 0 0) (by simp) (by rw [more_zero]; exact heap_at rfl) (fun i hi => by have := (HI5.out.hash i hi).lt; omega) s5 ⟨none, 0, rfl, fun _ => rfl, by simp, .inl rfl⟩⟩
                    rintro wc ⟨h2, t2, r2, H⟩
                    have HI2 := Lib.hid H
                    clear H HI
                    have s2 := HI2.out.below.size
                    have l0 := HI2.out.hd.lt
                    have l1 := HI2.out.rf.lt
                    have hni : (nn : Int) < 3 := by omega
                    have c0 : wc.cell? ⟨w.heap.size, nn, none⟩ = some (.pointer (some ⟨h2 nn, 0, none⟩)) := (HI2.out.hd.cell nn).trans (arr3_get _ nn hnn)
                    obtain ⟨ra, rc, hre, _, hrb, _⟩ := HI2.out.txt nn hnn
                    have c1 : wc.cell? ⟨Rf, nn, none⟩ = some (.slice ra (t2 nn).length rc) := (HI2.out.rf.cell nn).trans ((arr3_get _ nn hnn).trans (by rw [hre]))
                    have HRE := Lib.hid hre
                    clear hre
                    generalize htn : (t2 nn).length = tn at *
                    have HTN := Lib.hid htn
                    clear htn
                    (refine region_grow 24 [(0, true), (1, true), (2, true), (3, true), (4, true), (5, true), (6, true), (7, true), (9, true), (10, true), (11, true), (8, false), (12, false), (13, true), (14, true), (15, true), (16, true), (17, true), (18, true), (20, true), (21, true), (22, true), (23, true), (19, false)] (by kernel_rfl) (fun _ _ d _ _ h => by cases d <;> exact h) (by kernel_rfl) ?_; simp only [withOps, List.getElem?_toArray, List.getElem?_cons_zero, List.getElem?_cons_succ, List.drop_succ_cons, List.drop_zero])
                    (iterate 11 (refine grow_quiet (v := ?_) rfl ?_ ?_; rotate_left; (focus (intro w' hz' hw'; (try simp only [World.size_drew, World.size_alloc] at hw'); go_simp; (try with_reducible rfl); done)); try simp only [Act.put, List.setIfInBounds_toArray, List.set_cons_zero, List.set_cons_succ]))
                    (with_reducible refine plan_loud (fun K hK => ?_))
                    go_simp
                    refine (hsum_any (h2 nn) _ _ _ (show Blk wc.drew _ _ _ from HI2.out.hash nn hnn)).mono ?_
                    rintro en w7 ⟨rfl, hb⟩
                    refine hK _ _ (Grow.below hb) ?_
                    clear hK K
                    have HI7 := Lib.hid (HI2.out.next (show Below wc.heap.size wc w7 from bnext (by go_grown) hb))
                    clear hb c0 c1 s2 l0 l1 HI2
                    have s2 := HI7.out.below.size
                    have l0 := HI7.out.hd.lt
                    have l1 := HI7.out.rf.lt
                    have c0 : w7.cell? ⟨w.heap.size, nn, none⟩ = some (.pointer (some ⟨h2 nn, 0, none⟩)) := (HI7.out.hd.cell nn).trans (arr3_get _ nn hnn)
                    have c1 : w7.cell? ⟨Rf, nn, none⟩ = some (.slice ra tn rc) := (HI7.out.rf.cell nn).trans ((arr3_get _ nn hnn).trans (by rw [HRE.out]))
                    (try simp only [Act.put, List.setIfInBounds_toArray, List.set_cons_zero, List.set_cons_succ])
                    (with_reducible refine plan_loud (fun K hK => ?_))
                    go_simp
                    refine (refSum_any (.slice ra tn rc) (t2 nn) _ (by rw [← HRE.out]; exact HI7.out.txt nn hnn)).mono ?_
                    rintro en w8 ⟨rfl, hb⟩
                    refine hK _ _ (Grow.below hb) ?_
                    clear hK K
                    have HI8 := Lib.hid (HI7.out.next hb)
                    clear hb c0 c1 s2 l0 l1 HI7
                    have s2 := HI8.out.below.size
                    have l0 := HI8.out.hd.lt
                    have l1 := HI8.out.rf.lt
                    have c0 : w8.cell? ⟨w.heap.size, nn, none⟩ = some (.pointer (some ⟨h2 nn, 0, none⟩)) := (HI8.out.hd.cell nn).trans (arr3_get _ nn hnn)
                    have c1 : w8.cell? ⟨Rf, nn, none⟩ = some (.slice ra tn rc) := (HI8.out.rf.cell nn).trans ((arr3_get _ nn hnn).trans (by rw [HRE.out]))
                    (try simp only [Act.put, List.setIfInBounds_toArray, List.set_cons_zero, List.set_cons_succ])
                    generalize Crc.more 0#32 (t2 nn) = sm
                    (iterate 10 (refine grow_quiet (v := ?_) rfl ?_ ?_; rotate_left; (focus (intro w' hz' hw'; (try simp only [World.size_drew, World.size_alloc] at hw'); go_simp; (try with_reducible rfl); done)); try simp only [Act.put, List.setIfInBounds_toArray, List.set_cons_zero, List.set_cons_succ]))
                    (with_reducible refine plan_loud (fun K hK => ?_))
                    go_simp
                    refine (hlen_any (h2 nn) _ _ _ (HI8.out.hash nn hnn)).mono ?_
                    rintro en w9 ⟨rfl, hb⟩
                    rw [HTN.out]
                    refine hK _ _ (Grow.below hb) ?_
                    clear hK K
                    have HI9 := Lib.hid (HI8.out.next hb)
                    clear hb c0 c1 s2 l0 l1 HI8
                    (try simp only [Act.put, List.setIfInBounds_toArray, List.set_cons_zero, List.set_cons_succ])
                    (with_reducible refine plan_end ?_)
                    (try simp only [Act.put, List.setIfInBounds_toArray, List.set_cons_zero, List.set_cons_succ])
                    go_wp2_with fail
                    go_roundw
                    case rel => exact ⟨k + 1, _, _, _, by omega, by go_num, HI9.out⟩
                    case measure => simp [intOf]; omega

                  · have hA : 0 ≤ kd ∧ kd ≤ 2 := by omega
                    obtain ⟨hk0, hk2⟩ := hA
                    clear hF h3 h4 h5 h6
                    have HIW := Lib.hid (HI.out.next (show Below wr.heap.size wr (wr.alloc (.cells #[.int .i64 kd, .int .i64 on, .int .i64 too, .slice va ln vc] 52)) by go_grown))
                    have hnn0 : w.heap.size ≤ wr.heap.size := hs
                    have htk : tot os k ≤ 1048576 := by have := HSN.out; omega
                    have hln2 : ln ≤ 1048576 := by have := HSN.out; omega
                    go_wp2_with fail
                    refine (lend_any va ln vc l _ HLN.out (by omega) HVN.out ((HVR.out.below HIW.out.below).more HIW.out.below.size)).mono ?_
                    rintro en w5 ⟨g, c, cs, rfl, hc1, hm1, hg1, A5, hz5, ht5, hb⟩
                    have HI5 := Lib.hid (HIW.out.next hb)
                    have HBW5 := Lib.hid (show Below wr.heap.size wr w5 from bnext (show Below wr.heap.size wr (wr.alloc (.cells #[.int .i64 kd, .int .i64 on, .int .i64 too, .slice va ln vc] 52)) by go_grown) hb)
                    have O5 : Blk w5 wr.heap.size 52 #[.int .i64 kd, .int .i64 on, .int .i64 too, .slice va ln vc] := Blk.below (heap_at rfl) hb
                    have s5 := HI5.out.below.size
                    have HT5 := Lib.hid ht5
                    have hz5' := Lib.hid hz5
                    have HA5 := Lib.hid A5
                    have hgl := A5.lt
                    have hg1' : wr.heap.size + 1 ≤ g := by simpa using hg1
                    clear hb e0 e1 e2 e3 ht5 hz5 A5 hg1
                    have l0 := HI5.out.hd.lt
                    have lO := O5.lt
                    have lh := (HI5.out.hash nn hnn).lt
                    have c0 : w5.cell? ⟨w.heap.size, nn, none⟩ = some (.pointer (some ⟨h nn, 0, none⟩)) := (HI5.out.hd.cell nn).trans (arr3_get _ nn hnn)
                    have c3 : w5.cell? ⟨wr.heap.size, 3, none⟩ = some (.slice va ln vc) := O5.cell 3
                    have hd1 : ¬ w.heap.size = h nn := blk_ne HI5.out.hd (HI5.out.hash nn hnn) (by decide)
                    have hd2 : ¬ wr.heap.size = h nn := blk_ne O5 (HI5.out.hash nn hnn) (by decide)
                    have hni : (nn : Int) < 3 := by omega
                    obtain ⟨pk, hpk⟩ : ∃ pk : Nat, (ln : Int) / 2 = (pk : Int) := ⟨ln / 2, by omega⟩
                    have q1 : (pk : Int) ≤ (ln : Int) := by omega
                    have q2 : (pk : Int) ≤ (c : Int) := by omega
                    have q3 : ¬ c = pk := by omega
                    have HO5 := Lib.hid O5
                    clear O5
                    go_wp2_with fail
                    (refine region_keep (fun x => x < w5.heap.size ∧ ¬ x = h nn) 18 [(0, true), (1, true), (2, true), (3, true), (4, true), (5, true), (6, true), (7, true), (8, true), (9, true), (10, false), (11, false), (12, false), (13, true), (14, true), (15, true), (16, true), (17, true)] (by kernel_rfl) (fun _ _ d _ _ h => by cases d <;> exact h) (by kernel_rfl) ?_; simp only [withOps, List.getElem?_toArray, List.getElem?_cons_zero, List.getElem?_cons_succ, List.drop_succ_cons, List.drop_zero])
                    (iterate 10 (refine keep_quiet (v := ?_) rfl ?_ ?_; rotate_left; (focus (intro w' hw'; go_simp; (try with_reducible rfl); done)); try simp only [Act.put, List.setIfInBounds_toArray, List.set_cons_zero, List.set_cons_succ]))
                    (with_reducible refine plan_loud (fun K hK => ?_))
                    go_simp
                    refine hK _ _ ?_ ?_
                    · (repeat' (first | (with_reducible exact Keep.refl _ _) | (with_reducible refine Keep.drew ?_) | (with_reducible refine Keep.of_drew ?_) | (with_reducible refine Keep.alloc ?_ ?_ _) | (with_reducible refine Keep.setCell ?_ ?_ _) | (simp; omega) | (simp; done) | omega))
                    clear hK K
                    have hb6 : Below w5.heap.size w5 (w5.alloc (.cells #[.slice (some ⟨g, 0, none⟩) pk pk, .slice (some ⟨g, pk, none⟩) (ln - pk) (c - pk)] 24)).drew := by go_grown
                    have hR6 : (w5.alloc (.cells #[.slice (some ⟨g, 0, none⟩) pk pk, .slice (some ⟨g, pk, none⟩) (ln - pk) (c - pk)] 24)).drew.heap[w5.heap.size]? = some (.cells #[.slice (some ⟨g, 0, none⟩) pk pk, .slice (some ⟨g, pk, none⟩) (ln - pk) (c - pk)] 24 (0, 0)) := heap_at rfl
                    have hk6 : Keep (fun x => x < w5.heap.size ∧ ¬ x = h nn) w5 (w5.alloc (.cells #[.slice (some ⟨g, 0, none⟩) pk pk, .slice (some ⟨g, pk, none⟩) (ln - pk) (c - pk)] 24)).drew := (Keep.alloc (Keep.refl _ _) (fun x hx => hx.1) _).drew
                    generalize (w5.alloc (.cells #[.slice (some ⟨g, 0, none⟩) pk pk, .slice (some ⟨g, pk, none⟩) (ln - pk) (c - pk)] 24)).drew = w6 at *
                    have HI6 := Lib.hid (HI5.out.next hb6)
                    have hs6 := hb6.size
                    (try simp only [Act.put, List.setIfInBounds_toArray, List.set_cons_zero, List.set_cons_succ])
                    (with_reducible refine plan_loud (fun K hK => ?_))
                    go_simp
                    refine (write_two (h nn) w5.heap.size g pk ln (c - pk) _ _ l cs w6 (HT.out.next HI6.out.below) (by have := HI6.out.own nn hnn; omega) (HI6.out.hash nn hnn) hR6 (Blk.below HA5.out hb6) HT5.out HLN.out (by omega) hln2 (by omega) (by have := HI6.out.len nn hnn; omega)).mono ?_
                    rintro en w7 ⟨rfl, hB7, hg7⟩
                    rw [← Crc.more_append, ← Int.natCast_add, ← List.length_append] at hB7
                    refine hK _ _ (Keep.grown (Keep.refl _ _) hg7 (fun x hx => by omega) (fun x hx e => by injection e with e; exact hx.2 e)) ?_
                    clear hK K
                    have hk7 : Keep (fun x => x < w5.heap.size ∧ ¬ x = h nn) w5 w7 := hk6.grown hg7 (fun x hx => by omega) (fun x hx e => by injection e with e; exact hx.2 e)
                    have hs7 := hg7.size
                    (try simp only [Act.put, List.setIfInBounds_toArray, List.set_cons_zero, List.set_cons_succ])
                    (with_reducible refine plan_loud (fun K hK => ?_))
                    go_simp
                    refine (num_any 0 _).mono ?_
                    rintro en w8 ⟨rfl, hb8⟩
                    refine hK _ _ (Keep.below (Keep.refl _ _) hb8 (fun x hx => by omega)) ?_
                    clear hK K
                    have hk8 : Keep (fun x => x < w5.heap.size ∧ ¬ x = h nn) w5 w8 := hk7.below hb8 (fun x hx => by omega)
                    have hs8 := hb8.size
                    have c3' : w8.cell? ⟨wr.heap.size, 3, none⟩ = some (.slice va ln vc) := (hk8.cell _ _ ⟨lO, hd2⟩).trans c3
                    (try simp only [Act.put, List.setIfInBounds_toArray, List.set_cons_zero, List.set_cons_succ])
                    (iterate 5 (refine keep_quiet (v := ?_) rfl ?_ ?_; rotate_left; (focus (intro w' hw'; go_simp; (try with_reducible rfl); done)); try simp only [Act.put, List.setIfInBounds_toArray, List.set_cons_zero, List.set_cons_succ]))
                    (with_reducible refine plan_end ?_)
                    (try simp only [Act.put, List.setIfInBounds_toArray, List.set_cons_zero, List.set_cons_succ])
                    go_wp2_with fail
                    have G58 : w5.grownBy w8 (some (h nn)) := grown_below (grown_trans (grown_of_below hb6 _) hg7 (fun k h _ => h)) hb8
                    have hbW8 : Below w.heap.size w w8 := HI5.out.below.grown G58 HI5.out.below.size (fun k hk => by injection hk with hk; rw [← hk]; exact HI5.out.own nn hnn)
                    have hgh : ¬ g = h nn := blk_ne HA5.out (HI5.out.hash nn hnn) (by decide)
                    have HA8 := Lib.hid (HA5.out.grown G58 (by intro e; injection e with e; exact hgh e))
                    have HB8 := Lib.hid (hB7.below hb8)
                    refine (kept_any g c va ln vc l w8 HLN.out (by omega) hc1 HA8.out.lt (lent_rd HLN.out HA8.out HT5.out) ((HVR.out.below hbW8).more hbW8.size)).mono ?_
                    rintro en w9 ⟨rfl, hb9⟩
                    have hs9 := hb9.size
                    have G59 : w5.grownBy w9 (some (h nn)) := grown_below G58 hb9
                    have hbW9 : Below w.heap.size w w9 := hbW8.trans (hb9.mono hbW8.size)
                    have HA9 := Lib.hid (HA8.out.below hb9)
                    have HB9 := Lib.hid (HB8.out.below hb9)
                    have HTR9 := Lib.hid (show ∀ i, i < 3 → Txt w9 w9.heap.size (r i) (t i) from fun i hi => ((txt_keep (HI5.out.txt i hi) (Nat.le_refl _) G59 (fun j x => by rw [(HI5.out.hash nn hnn).cell j]; exact hcells_none _ _ j x)).more G59.size))
                    have HTX9 := Lib.hid (show Txt w9 w9.heap.size (r nn) (t nn) from ((txt_keep (HI5.out.txt nn hnn) (Nat.le_refl _) G59 (fun j x => by rw [(HI5.out.hash nn hnn).cell j]; exact hcells_none _ _ j x)).more G59.size))
                    obtain ⟨ra, rc, hre, hrn, hrb, hrr⟩ := HTX9.out
                    have hRfh : ¬ Rf = h nn := blk_ne HI5.out.rf (HI5.out.hash nn hnn) (by decide)
                    have hRF9 : Blk w9 Rf 49 (arr3 r) := HI5.out.rf.grown G59 (by intro e; injection e with e; exact hRfh e)
                    have hRFl := hRF9.lt
                    have hwl : wr.heap.size < w9.heap.size := by have := G59.size; omega
                    have c1 : w9.cell? ⟨Rf, nn, none⟩ = some (.slice ra (t nn).length rc) := (hRF9.cell nn).trans ((arr3_get _ nn hnn).trans (by rw [hre]))
                    have f1 := hRF9.free nn
                    have c9 : w9.cell? ⟨wr.heap.size, 3, none⟩ = some (.slice va ln vc) := (World.cell?_of_block (a := ⟨wr.heap.size, 3, none⟩) (hb9.block _ (Nat.lt_of_lt_of_le lO (by omega)))).trans c3'
                    generalize htn : (t nn).length = tn at *
                    have HTN := Lib.hid htn
                    have htnk : tn ≤ 1048576 := by have := HI5.out.len nn hnn; omega
                    clear htn c0 c3 c3' l0 lh hb6 hR6 hk6 hk7 hk8 hg7 hb8 G58 hbW8 HA8 HB8 hb9 hB7 HO5 hre
                    have HRR := Lib.hid hrr
                    have HRN := Lib.hid hrn
                    clear hrr hrn
                    go_wp2_with fail
                    (refine region_keep (fun x => x < w9.heap.size) 9 [(0, true), (2, true), (3, true), (4, true), (6, true), (7, true), (1, false), (5, false), (8, false)] (by kernel_rfl) (fun _ _ d _ _ h => by cases d <;> exact h) (by kernel_rfl) ?_; simp only [withOps, List.getElem?_toArray, List.getElem?_cons_zero, List.getElem?_cons_succ, List.drop_succ_cons, List.drop_zero])
                    (iterate 6 (refine keep_quiet (v := ?_) rfl ?_ ?_; rotate_left; (focus (intro w' hw'; go_simp; (try with_reducible rfl); done)); try simp only [Act.put, List.setIfInBounds_toArray, List.set_cons_zero, List.set_cons_succ]))
                    (with_reducible refine plan_loud (fun K hK => ?_))
                    go_simp
                    refine hK _ _ ?_ ?_
                    · (repeat' (first | (with_reducible exact Keep.refl _ _) | (with_reducible refine Keep.drew ?_) | (with_reducible refine Keep.of_drew ?_) | (with_reducible refine Keep.alloc ?_ ?_ _) | (with_reducible refine Keep.setCell ?_ ?_ _) | (simp; omega) | (simp; done) | omega))
                    clear hK K
                    (try simp only [Act.put, List.setIfInBounds_toArray, List.set_cons_zero, List.set_cons_succ])
                    (with_reducible refine plan_loud (fun K hK => ?_))
                    simp only [Region.wanted, if_pos]
                    refine wp_append_bytes (.tmp 83) (.tmp 86) rfl w9.heap.size (.slice (some ⟨w9.heap.size, 0, none⟩) 0 0) 0 [] rfl ⟨rfl, .inr ⟨w9.heap.size, 0, #[], rfl, Nat.le_refl _, heap_at rfl, Nat.le_refl _, by unfold maxLen; omega, rfl, rfl⟩⟩ ra tn rc (t nn) rfl HRN.out HTN.out ((HRR.out.below (by go_grown)).more (by simp)) (by omega) (by simp) ?_
                    intro v1 w10 ho1 hg1 hv1
                    rw [Nat.zero_add, List.nil_append] at ho1
                    have hB10 : Below w9.heap.size w9 w10 := Below.grown (show Below w9.heap.size w9 (w9.alloc (.cells #[] 5)).drew by go_grown) hg1 (by simp) (fun kk hkk => by simp [Value.ownBlock] at hkk; omega)
                    have hs10 := hB10.size
                    refine hK _ _ (Keep.grown (Keep.refl _ _) hg1 (fun x hx => by simp; omega) (fun x hx e => by simp [Value.ownBlock] at e; omega)) ?_
                    clear hK K hg1 hv1
                    have HO1 := Lib.hid ho1
                    clear ho1
                    have HRV := Lib.hid ((HVR.out.below (hbW9.trans (hB10.mono hbW9.size))).more (Nat.le_trans hbW9.size hs10))
                    (try simp only [Act.put, List.setIfInBounds_toArray, List.set_cons_zero, List.set_cons_succ])
                    (with_reducible refine plan_loud (fun K hK => ?_))
                    simp only [Region.wanted, if_pos]
                    refine wp_append_bytes (.tmp 87) (.tmp 89) rfl w9.heap.size v1 tn _ rfl HO1.out va ln vc l rfl HVN.out HLN.out HRV.out (by omega) (by omega) ?_
                    intro v2 w11 ho2 hg2 hv2
                    rw [← List.map_append] at ho2
                    have hB11 : Below w9.heap.size w9 w11 := hB10.grown hg2 hs10 (fun kk hkk => by
                      rcases Nat.lt_or_ge kk w9.heap.size with h | h
                      · exact absurd hkk.symm (owns_far HO1.out h)
                      · exact h)
                    refine hK _ _ (Keep.grown (Keep.refl _ _) hg2 (fun x hx => by omega) (fun x hx => owns_far HO1.out hx)) ?_
                    clear hK K hg2 hv2 HO1 hB10
                    have HT2 := Lib.hid (txt_of_owns ho2 (by omega))
                    have HO2 := Lib.hid ho2
                    obtain ⟨a2, m2, hv2, _, _, _⟩ := HT2.out
                    clear ho2
                    generalize (t nn ++ l).length = n2 at hv2
                    subst hv2
                    have hs11 := hB11.size
                    have hRF11 := Lib.hid (hRF9.below hB11)
                    have c1' : w11.cell? ⟨Rf, nn, none⟩ = some (.slice ra tn rc) := (hB11.cell (p := ⟨Rf, nn, none⟩) hRFl).trans c1
                    have f1' := hRF11.out.free nn
                    have hl1 : Rf < w11.heap.size := by omega
                    clear c1 f1 hRF9
                    (try simp only [Act.put, List.setIfInBounds_toArray, List.set_cons_zero, List.set_cons_succ])
                    (with_reducible refine plan_end ?_)
                    (try simp only [Act.put, List.setIfInBounds_toArray, List.set_cons_zero, List.set_cons_succ])
                    have G511 : w5.grownBy w11 (some (h nn)) := grown_below G59 hB11
                    have HB11 := Lib.hid (HB9.out.below hB11)
                    have HA11 := Lib.hid (HA9.out.below hB11)
                    have HI12 := Lib.hid ((HI5.out.more (show tot os k ≤ tot os (k + 1) by rw [HSN.out]; omega)).wrote2 hnn G511 (t nn ++ l) (by rw [List.length_append, HSN.out, HLN.out]; have := HI5.out.len nn hnn; omega) HB11.out (.slice a2 n2 m2) HT2.out)
                    go_upto_region 21 with (fail)
                    have hgn : ¬ g = Rf := blk_ne HA11.out hRF11.out (by decide)
                    have hA12 : Blk (w11.setCell ⟨Rf, nn, none⟩ (.slice a2 n2 m2)) g 5 cs := blk_set_ne HA11.out hgn
                    have HTO := Lib.hid (show ∀ W', (w11.setCell ⟨Rf, nn, none⟩ (.slice a2 n2 m2)).grownBy W' (some g) → ∀ i, i < 3 → Txt W' W'.heap.size (upd r nn (.slice a2 n2 m2) i) (upd t nn (t nn ++ l) i) from fun W' hW' i hi => by
                      have hgz : g < w9.heap.size := by have := HA9.out.lt; omega
                      by_cases e : i = nn
                      · subst e
                        rw [upd_same, upd_same]
                        have ho3 : (w11.setCell ⟨Rf, i, none⟩ (.slice a2 n2 m2)).ownsRow w9.heap.size 5 1 (.slice a2 n2 m2) (tn + ln) ((t i ++ l).map B8) := HO2.out.kept (grown_set (World.grownBy.refl _ _)) (.inr fun e => owns_far HO2.out hRFl e.symm)
                        exact txt_of_owns (ho3.kept hW' (.inr fun e => owns_far HO2.out hgz e.symm)) (by omega)
                      · rw [upd_ne _ _ _ _ e, upd_ne _ _ _ _ e]
                        have t5 := (HI.out.txt i hi).below HBW5.out
                        have t11 := txt_keep t5 (by have := HBW5.out.size; omega) G511 (fun j x => by rw [(HI5.out.hash nn hnn).cell j]; exact hcells_none _ _ j x)
                        have t12 := txt_keep t11 (by have := HBW5.out.size; have := G511.size; omega) (show w11.grownBy (w11.setCell ⟨Rf, nn, none⟩ (.slice a2 n2 m2)) (some Rf) from grown_set (World.grownBy.refl _ _)) (fun j x => by rw [hRF11.out.cell j]; exact arr3_none _ (slices_none HTR9.out) j x)
                        have hz1 : wr.heap.size ≤ (w11.setCell ⟨Rf, nn, none⟩ (.slice a2 n2 m2)).heap.size := by have := HBW5.out.size; have := G511.size; simp; omega
                        exact (t12.below (Below.grown (Below.refl _ _) hW' hz1 (fun k hk => by injection hk with hk; omega))).more (Nat.le_trans hz1 hW'.size))
                    have HI12 := Lib.hid HI12.out
                    clear HI HI5 HIW HO2 HTX9 HTR9 HB9 HB11 HA9 HT2 HRV HRR HRN G59 G511 HVR HVN hbW9 hB11 c1' f1' hRF11
                    generalize w11.setCell ⟨Rf, nn, none⟩ (.slice a2 n2 m2) = w12 at *
                    have HA12 := Lib.hid hA12
                    clear hA12
                    have hgl2 := HA12.out.lt
                    have hlc : (ln : Int) ≤ (c : Int) := by omega
                    go_wp2_with fail
                    go_loopw [12] (fun i wz => ∃ j : Nat, j ≤ ln ∧ i = .int .i64 j ∧ w12.grownBy wz (some g) ∧ ∃ cz, Blk wz g 5 cz ∧ cz.size = c) (fun i _ => ln - (intOf i).toNat)
                    case atStart => exact ⟨0, Nat.zero_le _, rfl, World.grownBy.refl _ _, cs, HA12.out, hz5'.out⟩
                    case round =>
                      obtain ⟨j, hj, rfl, hgz, cz, hcz, hczs⟩ := hrel
                      have HGZ := Lib.hid hgz
                      have HCZ := Lib.hid hczs
                      have sz := hgz.size
                      clear hgz hczs
                      have lz := hcz.lt
                      rcases Nat.lt_or_ge j ln with hjl | hjg
                      · obtain ⟨u, hu⟩ : ∃ u, cz[j]? = some u := ⟨_, Array.getElem?_eq_getElem (by rw [HCZ.out]; omega)⟩
                        have c0 : wr.cell? ⟨g, j, none⟩ = some u := (hcz.cell j).trans hu
                        have f0 := hcz.free j
                        go_wp2_with fail
                        go_roundw
                        case rel => exact ⟨j + 1, by omega, by go_num, grown_set HGZ.out, _, blk_set_same hcz, by rw [Array.size_setIfInBounds]; exact HCZ.out⟩
                        case measure => simp [intOf]; omega
                      · obtain rfl : j = ln := by omega
                        have HIZ := Lib.hid (HI12.out.wipe HA12.out (by have := HI12.out.below.size; omega) HGZ.out (HTO.out _ HGZ.out))
                        have HI := HIZ
                        go_upto_region 38 with (fail)
                        (refine wp_at (fun wc => ∃ h2 t2 r2, HInv w wc w.heap.size Rf h2 t2 r2 (tot os (k + 1))) ?_ ?_)
                        · exact ⟨_, _, _, HIZ.out⟩
                        clear HIZ HTO HGZ HI12 HA12 hcz lz HCZ
                        rintro wc ⟨h2, t2, r2, H⟩
                        have HI2 := Lib.hid H
                        clear H HI
                        have s2 := HI2.out.below.size
                        have l0 := HI2.out.hd.lt
                        have l1 := HI2.out.rf.lt
                        have hni : (nn : Int) < 3 := by omega
                        have c0 : wc.cell? ⟨w.heap.size, nn, none⟩ = some (.pointer (some ⟨h2 nn, 0, none⟩)) := (HI2.out.hd.cell nn).trans (arr3_get _ nn hnn)
                        obtain ⟨ra, rc, hre, _, hrb, _⟩ := HI2.out.txt nn hnn
                        have c1 : wc.cell? ⟨Rf, nn, none⟩ = some (.slice ra (t2 nn).length rc) := (HI2.out.rf.cell nn).trans ((arr3_get _ nn hnn).trans (by rw [hre]))
                        have HRE := Lib.hid hre
                        clear hre
                        generalize htn : (t2 nn).length = tn at *
                        have HTN := Lib.hid htn
                        clear htn
                        (refine region_grow 24 [(0, true), (1, true), (2, true), (3, true), (4, true), (5, true), (6, true), (7, true), (9, true), (10, true), (11, true), (8, false), (12, false), (13, true), (14, true), (15, true), (16, true), (17, true), (18, true), (20, true), (21, true), (22, true), (23, true), (19, false)] (by kernel_rfl) (fun _ _ d _ _ h => by cases d <;> exact h) (by kernel_rfl) ?_; simp only [withOps, List.getElem?_toArray, List.getElem?_cons_zero, List.getElem?_cons_succ, List.drop_succ_cons, List.drop_zero])
                        (iterate 11 (refine grow_quiet (v := ?_) rfl ?_ ?_; rotate_left; (focus (intro w' hz' hw'; (try simp only [World.size_drew, World.size_alloc] at hw'); go_simp; (try with_reducible rfl); done)); try simp only [Act.put, List.setIfInBounds_toArray, List.set_cons_zero, List.set_cons_succ]))
                        (with_reducible refine plan_loud (fun K hK => ?_))
                        go_simp
                        refine (hsum_any (h2 nn) _ _ _ (show Blk wc.drew _ _ _ from HI2.out.hash nn hnn)).mono ?_
                        rintro en w7 ⟨rfl, hb⟩
                        refine hK _ _ (Grow.below hb) ?_
                        clear hK K
                        have HI7 := Lib.hid (HI2.out.next (show Below wc.heap.size wc w7 from bnext (by go_grown) hb))
                        clear hb c0 c1 s2 l0 l1 HI2
                        have s2 := HI7.out.below.size
                        have l0 := HI7.out.hd.lt
                        have l1 := HI7.out.rf.lt
                        have c0 : w7.cell? ⟨w.heap.size, nn, none⟩ = some (.pointer (some ⟨h2 nn, 0, none⟩)) := (HI7.out.hd.cell nn).trans (arr3_get _ nn hnn)
                        have c1 : w7.cell? ⟨Rf, nn, none⟩ = some (.slice ra tn rc) := (HI7.out.rf.cell nn).trans ((arr3_get _ nn hnn).trans (by rw [HRE.out]))
                        (try simp only [Act.put, List.setIfInBounds_toArray, List.set_cons_zero, List.set_cons_succ])
                        (with_reducible refine plan_loud (fun K hK => ?_))
                        go_simp
                        refine (refSum_any (.slice ra tn rc) (t2 nn) _ (by rw [← HRE.out]; exact HI7.out.txt nn hnn)).mono ?_
                        rintro en w8 ⟨rfl, hb⟩
                        refine hK _ _ (Grow.below hb) ?_
                        clear hK K
                        have HI8 := Lib.hid (HI7.out.next hb)
                        clear hb c0 c1 s2 l0 l1 HI7
                        have s2 := HI8.out.below.size
                        have l0 := HI8.out.hd.lt
                        have l1 := HI8.out.rf.lt
                        have c0 : w8.cell? ⟨w.heap.size, nn, none⟩ = some (.pointer (some ⟨h2 nn, 0, none⟩)) := (HI8.out.hd.cell nn).trans (arr3_get _ nn hnn)
                        have c1 : w8.cell? ⟨Rf, nn, none⟩ = some (.slice ra tn rc) := (HI8.out.rf.cell nn).trans ((arr3_get _ nn hnn).trans (by rw [HRE.out]))
                        (try simp only [Act.put, List.setIfInBounds_toArray, List.set_cons_zero, List.set_cons_succ])
                        generalize Crc.more 0#32 (t2 nn) = sm
                        (iterate 10 (refine grow_quiet (v := ?_) rfl ?_ ?_; rotate_left; (focus (intro w' hz' hw'; (try simp only [World.size_drew, World.size_alloc] at hw'); go_simp; (try with_reducible rfl); done)); try simp only [Act.put, List.setIfInBounds_toArray, List.set_cons_zero, List.set_cons_succ]))
                        (with_reducible refine plan_loud (fun K hK => ?_))
                        go_simp
                        refine (hlen_any (h2 nn) _ _ _ (HI8.out.hash nn hnn)).mono ?_
                        rintro en w9 ⟨rfl, hb⟩
                        rw [HTN.out]
                        refine hK _ _ (Grow.below hb) ?_
                        clear hK K
                        have HI9 := Lib.hid (HI8.out.next hb)
                        clear hb c0 c1 s2 l0 l1 HI8
                        (try simp only [Act.put, List.setIfInBounds_toArray, List.set_cons_zero, List.set_cons_succ])
                        (with_reducible refine plan_end ?_)
                        (try simp only [Act.put, List.setIfInBounds_toArray, List.set_cons_zero, List.set_cons_succ])
                        go_wp2_with fail
                        go_roundw
                        case rel => exact ⟨k + 1, _, _, _, by omega, by go_num, HI9.out⟩
                        case measure => simp [intOf]; omega
        · obtain rfl : k = n := by omega
          go_wp2_with fail
          go_loopw [13] (fun i wq => ∃ j : Nat, j ≤ 3 ∧ i = .int .i64 j ∧ HInv w wq w.heap.size Rf h t r (tot os k)) (fun i _ => 3 - (intOf i).toNat)
          case atStart => exact ⟨0, Nat.zero_le _, rfl, HI.out⟩
          case round =>
            obtain ⟨j, hj, rfl, H⟩ := hrel
            have HI2 := Lib.hid H
            clear H HI
            rcases Nat.lt_or_ge j 3 with hj3 | hj3
            · have s2 := HI2.out.below.size
              have l0 := HI2.out.hd.lt
              have l1 := HI2.out.rf.lt
              have hni : (j : Int) < 3 := by omega
              have c0 : wr.cell? ⟨w.heap.size, j, none⟩ = some (.pointer (some ⟨h j, 0, none⟩)) := (HI2.out.hd.cell j).trans (arr3_get _ j hj3)
              obtain ⟨ra, rc, hre, _, hrb, _⟩ := HI2.out.txt j hj3
              have c1 : wr.cell? ⟨Rf, j, none⟩ = some (.slice ra (t j).length rc) := (HI2.out.rf.cell j).trans ((arr3_get _ j hj3).trans (by rw [hre]))
              have HRE := Lib.hid hre
              clear hre
              generalize htn : (t j).length = tn at *
              have HTN := Lib.hid htn
              clear htn
              go_wp2_with fail
              (refine region_grow 7 [(0, true), (1, true), (2, true), (4, true), (5, true), (6, true), (3, false)] (by kernel_rfl) (fun _ _ d _ _ h => by cases d <;> exact h) (by kernel_rfl) ?_; simp only [withOps, List.getElem?_toArray, List.getElem?_cons_zero, List.getElem?_cons_succ, List.drop_succ_cons, List.drop_zero])
              (iterate 6 (refine grow_quiet (v := ?_) rfl ?_ ?_; rotate_left; (focus (intro w' hz' hw'; (try simp only [World.size_drew, World.size_alloc] at hw'); go_simp; (try with_reducible rfl); done)); try simp only [Act.put, List.setIfInBounds_toArray, List.set_cons_zero, List.set_cons_succ]))
              (with_reducible refine plan_loud (fun K hK => ?_))
              go_simp
              refine (hsum_any (h j) _ _ _ (show Blk wr.drew _ _ _ from HI2.out.hash j hj3)).mono ?_
              rintro en w7 ⟨rfl, hb⟩
              refine hK _ _ (Grow.below hb) ?_
              clear hK K
              have HI7 := Lib.hid (HI2.out.next (show Below wr.heap.size wr w7 from bnext (by go_grown) hb))
              clear hb c0 c1 s2 l0 l1 HI2
              (try simp only [Act.put, List.setIfInBounds_toArray, List.set_cons_zero, List.set_cons_succ])
              (with_reducible refine plan_end ?_)
              (try simp only [Act.put, List.setIfInBounds_toArray, List.set_cons_zero, List.set_cons_succ])
              go_wp2_with fail
              refine (refSum_any (.slice ra tn rc) (t j) _ (by rw [← HRE.out]; exact HI7.out.txt j hj3)).mono ?_
              rintro en w8 ⟨rfl, hb⟩
              have HI8 := Lib.hid (HI7.out.next hb)
              clear hb HI7
              generalize Crc.more 0#32 (t j) = sm
              go_wp2_with fail
              go_roundw
              case rel => exact ⟨j + 1, by omega, by go_num, HI8.out⟩
              case measure => simp [intOf]; omega
            · obtain rfl : j = 3 := by omega
              have hB0 := HI2.out.below
              clear HI2
              go_wp2_with fail
              refine (nil_write _ _ _ _).mono ?_
              rintro en v1 ⟨rfl, hb⟩
              have hB1 := bnext hB0 (bnext (by go_grown) hb)
              clear hb hB0
              go_wp2_with fail
              refine (num_any 1 _).mono ?_
              rintro en v2 ⟨rfl, hb⟩
              have hB2 := bnext hB1 hb
              clear hb hB1
              go_wp2_with fail
              refine (nil_reset _).mono ?_
              rintro en v3 ⟨rfl, hb⟩
              have hB3 := bnext hB2 hb
              clear hb hB2
              go_wp2_with fail
              refine (num_any 1 _).mono ?_
              rintro en v4 ⟨rfl, hb⟩
              have hB4 := bnext hB3 hb
              clear hb hB3
              go_wp2_with fail
              refine (nil_sum _).mono ?_
              rintro en v5 ⟨rfl, hb⟩
              have hB5 := bnext hB4 hb
              clear hb hB4
              go_wp2_with fail
              refine (nil_len _).mono ?_
              rintro en v6 ⟨rfl, hb⟩
              have hB6 := bnext hB5 hb
              clear hb hB5
              go_wp2_with fail
              refine (nil_copy _).mono ?_
              rintro en v7 ⟨rfl, hb⟩
              have hB7 := bnext hB6 hb
              clear hb hB6
              go_wp2_with fail
              refine (works_any _ (HT.out.next hB7)).mono ?_
              rintro en v8 ⟨rfl, hb⟩
              have hB8 := bnext hB7 hb
              clear hb hB7
              go_wp2_with fail
              go_returns
              exact ⟨rfl, hB8⟩
end Go.Proofs.YtcjmobikjegioaaDoor
