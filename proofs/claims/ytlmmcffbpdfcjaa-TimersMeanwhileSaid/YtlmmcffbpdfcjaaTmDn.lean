/- down. -/
import Derived.Test.YtlmmcffbpdfcjaaTmU
import Derived.WalkMore
set_option linter.unusedSimpArgs false
set_option linter.unusedVariables false
namespace Go.Proofs.Ytlmmcffbpdfcjaa
open Go.RowKit Go.Kp Go.ChangeMaps

structure Dn (w w' : World) (q m : Nat) (v : Value) (L L' : List Tm.T) (M' : Tm.T → Option Nat) : Prop where
  raw : Raw w' q m v L' M'
  full : Tm.Full M' L'
  perm : L'.Perm L
  heap : Tm.Heap L'
  fr : Fr (foot q m v) w w'

set_option maxHeartbeats 4000000 in
theorem down_any {w : World} {q m : Nat} {v : Value} {L : List Tm.T} {M : Tm.T → Option Nat} (h : Raw w q m v L M) (i : Nat) (x : Tm.T) (hx : L[i]? = some x) (hH : Tm.Hole L i) (hE : 0 < i → Tm.Edge L i) (hP : Tm.Place M L i) (hN : L.Nodup) :
    Calls Try.prog 31 #[ptr q, .int .i64 i] w fun en w' => en = .returned (.tuple #[]) ∧ ∃ L' M', Dn w w' q m v L L' M' := by
  have hi := (List.getElem?_eq_some_iff.1 hx).1
  obtain ⟨g, cap, rfl, hcap, hcm⟩ := h.form (by omega)
  have hok : Ok x := h.ok x (List.mem_of_getElem? hx)
  have hU : Tm.DnI L L i x M := ⟨List.Perm.refl _, hx, hH, hE, hP⟩
  have HU := Lib.hid hU
  have HN := Lib.hid hN
  have H := Lib.hid h
  have HX := Lib.hid hx
  have hlen := h.len
  have q0 := h.bq.cell 0
  simp only [List.getElem?_toArray, List.getElem?_cons_zero, List.getElem?_cons_succ] at q0
  obtain ⟨c0, c1, c2, c3⟩ := h.cell hx
  clear h hx hU hH hP hN hE
  go_enter Try.func31, Try.ntmps31
  go_step3
  go_wp2_with fail
  go_step3
  go_wp2_with fail
  go_loopw [1] (fun vi wr => ∃ (k : Nat) (hs : List Tm.T) (M' : Tm.T → Option Nat), vi = .int .i64 k ∧ Raw wr q m (.slice (some ⟨g, 0, none⟩) L.length cap) hs M' ∧ hs.length = L.length ∧ Tm.DnI L (hs.set k x) k x M' ∧ Blk wr w.heap.size 25 (cT x).toArray ∧ Fr (foot q m (.slice (some ⟨g, 0, none⟩) L.length cap)) w wr) (fun i _ => L.length - (intOf i).toNat)
  case atStart => exact ⟨i, L, M, rfl, H.out.below (by go_grown), rfl, by rw [set_self HX.out]; exact HU.out, heap_at rfl, Fr.next (by go_grown)⟩
  case round =>
    rename World => wo
    obtain ⟨k, hs, M', rfl, hR, hsl, hU, A, hF⟩ := hrel
    have HSL := Lib.hid hsl
    have HR := Lib.hid hR
    have HU' := Lib.hid hU
    have HF := Lib.hid hF
    have hk : k < L.length := by have := (List.getElem?_eq_some_iff.1 hU.at_).1; simpa [hsl] using this
    have HA := Lib.hid A
    clear hR hU hF c0 c1 c2 c3 hsl A q0
    go_wp2_with fail
    go_loopw [5, 6] (fun vb vk wc => ∃ b j : Nat, vb = .int .i64 b ∧ vk = .int .i64 j ∧ Tm.Best (hs.set k x) k j b x ∧ 2 * k + 1 ≤ j ∧ j ≤ 2 * k + 3 ∧ b < L.length ∧ Below wo.heap.size wo wc) (fun _ vk _ => 2 * k + 3 - (intOf vk).toNat)
    case atStart => exact ⟨k, 2 * k + 1, rfl, by go_num, Tm.Best.start, Nat.le_refl _, by omega, hk, by go_grown⟩
    case round =>
      obtain ⟨b, j, rfl, rfl, hbest, hj1, hj2, hb, hB⟩ := hrel
      have HRi := Lib.hid (HR.out.below hB)
      have HB := Lib.hid hB
      have HBest := Lib.hid hbest
      have A := HA.out.below hB
      have lA := A.lt
      have a0 := A.cell 0
      have a1 := A.cell 1
      have a2 := A.cell 2
      have a3 := A.cell 3
      have q0 := HRi.out.bq.cell 0
      simp only [List.getElem?_toArray, List.getElem?_cons_zero, List.getElem?_cons_succ] at a0 a1 a2 a3 q0
      have hbk : k ≤ b := by
        rcases hbest.cases_ with e | ⟨_, _, _, _⟩ <;> omega
      have hbj : b < j := by
        rcases hbest.cases_ with e | ⟨_, _, _, _⟩ <;> omega
      clear hbest hB A
      rcases Nat.lt_or_ge (2 * k + 2) j with hout | hin
      · have hjk : ¬ (j : Int) ≤ 2 * (k : Int) + 2 := by omega
        rcases Nat.lt_or_ge k b with hkb | hkb
        · have hne : ¬ (b : Int) = (k : Int) := by omega
          obtain ⟨p, hp⟩ : ∃ p, hs[b]? = some p := ⟨_, List.getElem?_eq_getElem (by rw [HSL.out]; omega)⟩
          have hop : Ok p := HRi.out.ok p (List.mem_of_getElem? hp)
          have hpp : (hs.set k x)[b]? = some p := by rw [List.getElem?_set_ne (by omega)]; exact hp
          have hRi' : Raw wr q m (.slice (some ⟨g, 0, none⟩) hs.length cap) hs M' := by rw [HSL.out]; exact HRi.out
          obtain ⟨c0, c1, c2, c3⟩ := hRi'.cell hp
          have HP := Lib.hid hp
          have HPP := Lib.hid hpp
          clear hRi' hp hpp
          go_wp2_with fail
          refine (lay_any HRi.out k (by rw [HSL.out]; exact hk) p hop _ HU'.out.place.dom (by rw [List.length_set, HSL.out]; exact hlen)).mono ?_
          rintro en w3 ⟨rfl, hR3, hF3⟩
          have hU3 : Tm.DnI L ((hs.set k p).set b x) b x (Tm.upd M' p k) ∧ k < b := by
            have hs3 := HU'.out.step HN.out HBest.out (by rw [List.length_set, HSL.out]; omega) (by omega) HPP.out
            have e : Tm.swap (hs.set k x) k b p x = (hs.set k p).set b x := by
              unfold Tm.swap; rw [List.set_set]
            rw [e] at hs3
            exact hs3
          have HR3 := Lib.hid hR3
          have HF3 := Lib.hid ((HF.out.trans (Fr.next HB.out)).trans hF3)
          have HU3 := Lib.hid hU3.1
          have A3 : Blk w3 w.heap.size 25 (cT x).toArray := (hF3.block _ lA (fun hf => by have := H.out.lt _ hf; omega)).trans (HA.out.below HB.out)
          clear hR3 hF3 hU3 a0 a1 a2 a3 q0 c0 c1 c2 c3
          go_wp2_with fail
          go_roundw
          case rel => exact ⟨b, _, _, rfl, HR3.out, by rw [List.length_set, HSL.out], HU3.out, A3, HF3.out⟩
          case measure => simp [intOf]; omega
        · obtain rfl : b = k := by omega
          go_wp2_with fail
          refine (lay_any HRi.out b (by rw [HSL.out]; exact hk) x hok _ HU'.out.place.dom (by rw [List.length_set, HSL.out]; exact hlen)).mono ?_
          rintro en w3 ⟨rfl, hR3, hF3⟩
          have hfin : Dn w w3 q m (.slice (some ⟨g, 0, none⟩) L.length cap) L (hs.set b x) (Tm.upd M' x b) :=
            ⟨hR3, HU'.out.place.lay (HU'.out.perm.nodup_iff.2 HN.out) HU'.out.at_, HU'.out.perm, HU'.out.stop HBest.out (by rw [List.length_set, HSL.out]; omega), (HF.out.trans (Fr.next HB.out)).trans hF3⟩
          go_wp2_with fail
          try rw [Exit.noGoto_normal]
          refine bodyPost_end (v := .tuple #[]) (by simp [results, Try.results31]) rfl ⟨rfl, _, _, hfin⟩
      · rcases Nat.lt_or_ge j L.length with hjl | hjl
        · obtain ⟨z, hz⟩ : ∃ z, hs[j]? = some z := ⟨_, List.getElem?_eq_getElem (by rw [HSL.out]; exact hjl)⟩
          have hzz : (hs.set k x)[j]? = some z := by rw [List.getElem?_set_ne (by omega)]; exact hz
          have hRi' : Raw wr q m (.slice (some ⟨g, 0, none⟩) hs.length cap) hs M' := by rw [HSL.out]; exact HRi.out
          obtain ⟨c0, c1, c2, c3⟩ := hRi'.cell hz
          have HZZ := Lib.hid hzz
          clear hRi' hz hzz
          rcases Nat.lt_or_ge k b with hkb | hkb
          · have hne : ¬ (b : Int) = (k : Int) := by omega
            obtain ⟨y, hy⟩ : ∃ y, hs[b]? = some y := ⟨_, List.getElem?_eq_getElem (by rw [HSL.out]; omega)⟩
            have hyy : (hs.set k x)[b]? = some y := by rw [List.getElem?_set_ne (by omega)]; exact hy
            have hRi' : Raw wr q m (.slice (some ⟨g, 0, none⟩) hs.length cap) hs M' := by rw [HSL.out]; exact HRi.out
            obtain ⟨d0, d1, d2, d3⟩ := hRi'.cell hy
            have HYY := Lib.hid hyy
            clear hRi' hy hyy
            have lq := HRi.out.bq.lt
            have lg := HRi.out.lt g (.inr (.inr rfl))
            go_wp2_with fail
            refine (Compare_any _ _ _).mono ?_
            rintro en w3 ⟨rfl, hb3⟩
            have hB3 : Below wo.heap.size wo w3 := bnext (HB.out.trans (by have := HB.out.size; go_grown)) hb3
            clear hb3
            have hnx := HBest.out.next HU'.out.at_ hj1 hin HZZ.out HYY.out
            by_cases hlt : Tm.cmp z y < 0
            · have HBn := Lib.hid (hnx.1 hlt)
              clear hnx
              go_wp2_with fail
              go_roundw
              case rel => exact ⟨j, j + 1, rfl, by go_num, HBn.out, by omega, by omega, by omega, hB3⟩
              case measure => simp [intOf]; omega
            · have HBn := Lib.hid (hnx.2 hlt)
              clear hnx
              go_wp2_with fail
              go_roundw
              case rel => exact ⟨b, j + 1, rfl, by go_num, HBn.out, by omega, by omega, by omega, hB3⟩
              case measure => simp [intOf]; omega
          · obtain rfl : b = k := by omega
            go_wp2_with fail
            refine (Compare_any _ _ _).mono ?_
            rintro en w3 ⟨rfl, hb3⟩
            have hB3 : Below wo.heap.size wo w3 := bnext (bnext HB.out (by go_grown)) hb3
            clear hb3
            have hnx := HBest.out.next HU'.out.at_ hj1 hin HZZ.out HU'.out.at_
            by_cases hlt : Tm.cmp z x < 0
            · have HBn := Lib.hid (hnx.1 hlt)
              clear hnx
              go_wp2_with fail
              go_roundw
              case rel => exact ⟨j, j + 1, rfl, by go_num, HBn.out, by omega, by omega, by omega, hB3⟩
              case measure => simp [intOf]; omega
            · have HBn := Lib.hid (hnx.2 hlt)
              clear hnx
              go_wp2_with fail
              go_roundw
              case rel => exact ⟨b, j + 1, rfl, by go_num, HBn.out, by omega, by omega, by omega, hB3⟩
              case measure => simp [intOf]; omega
        · skip
          rcases Nat.lt_or_ge k b with hkb | hkb
          · have hne : ¬ (b : Int) = (k : Int) := by omega
            obtain ⟨p, hp⟩ : ∃ p, hs[b]? = some p := ⟨_, List.getElem?_eq_getElem (by rw [HSL.out]; omega)⟩
            have hop : Ok p := HRi.out.ok p (List.mem_of_getElem? hp)
            have hpp : (hs.set k x)[b]? = some p := by rw [List.getElem?_set_ne (by omega)]; exact hp
            have hRi' : Raw wr q m (.slice (some ⟨g, 0, none⟩) hs.length cap) hs M' := by rw [HSL.out]; exact HRi.out
            obtain ⟨c0, c1, c2, c3⟩ := hRi'.cell hp
            have HP := Lib.hid hp
            have HPP := Lib.hid hpp
            clear hRi' hp hpp
            go_wp2_with fail
            refine (lay_any HRi.out k (by rw [HSL.out]; exact hk) p hop _ HU'.out.place.dom (by rw [List.length_set, HSL.out]; exact hlen)).mono ?_
            rintro en w3 ⟨rfl, hR3, hF3⟩
            have hU3 : Tm.DnI L ((hs.set k p).set b x) b x (Tm.upd M' p k) ∧ k < b := by
              have hs3 := HU'.out.step HN.out HBest.out (by rw [List.length_set, HSL.out]; omega) (by omega) HPP.out
              have e : Tm.swap (hs.set k x) k b p x = (hs.set k p).set b x := by
                unfold Tm.swap; rw [List.set_set]
              rw [e] at hs3
              exact hs3
            have HR3 := Lib.hid hR3
            have HF3 := Lib.hid ((HF.out.trans (Fr.next HB.out)).trans hF3)
            have HU3 := Lib.hid hU3.1
            have A3 : Blk w3 w.heap.size 25 (cT x).toArray := (hF3.block _ lA (fun hf => by have := H.out.lt _ hf; omega)).trans (HA.out.below HB.out)
            clear hR3 hF3 hU3 a0 a1 a2 a3 q0 c0 c1 c2 c3
            go_wp2_with fail
            go_roundw
            case rel => exact ⟨b, _, _, rfl, HR3.out, by rw [List.length_set, HSL.out], HU3.out, A3, HF3.out⟩
            case measure => simp [intOf]; omega
          · obtain rfl : b = k := by omega
            go_wp2_with fail
            refine (lay_any HRi.out b (by rw [HSL.out]; exact hk) x hok _ HU'.out.place.dom (by rw [List.length_set, HSL.out]; exact hlen)).mono ?_
            rintro en w3 ⟨rfl, hR3, hF3⟩
            have hfin : Dn w w3 q m (.slice (some ⟨g, 0, none⟩) L.length cap) L (hs.set b x) (Tm.upd M' x b) :=
              ⟨hR3, HU'.out.place.lay (HU'.out.perm.nodup_iff.2 HN.out) HU'.out.at_, HU'.out.perm, HU'.out.stop HBest.out (by rw [List.length_set, HSL.out]; omega), (HF.out.trans (Fr.next HB.out)).trans hF3⟩
            go_wp2_with fail
            try rw [Exit.noGoto_normal]
            refine bodyPost_end (v := .tuple #[]) (by simp [results, Try.results31]) rfl ⟨rfl, _, _, hfin⟩
end Go.Proofs.Ytlmmcffbpdfcjaa
