/- up. -/
import Derived.Test.YtlmmcffbpdfcjaaTmL
set_option linter.unusedSimpArgs false
set_option linter.unusedVariables false
namespace Go.Proofs.Ytlmmcffbpdfcjaa
open Go.RowKit Go.Kp Go.ChangeMaps

theorem set_self {L : List Tm.T} {i : Nat} {x : Tm.T} (h : L[i]? = some x) : L.set i x = L := by
  obtain ⟨h1, h2⟩ := List.getElem?_eq_some_iff.1 h
  rw [← h2, List.set_getElem_self]

/-- What up and down leave. -/
structure Up (w w' : World) (q m : Nat) (v : Value) (L : List Tm.T) (i : Nat) (x : Tm.T) (L' : List Tm.T) (i' : Nat) (M' : Tm.T → Option Nat) : Prop where
  raw : Raw w' q m v L' M'
  full : Tm.Full M' L'
  perm : L'.Perm L
  hole : Tm.Hole L' i'
  edge : 0 < i' → Tm.Edge L' i'
  kids : Tm.Kids L i → Tm.Kids L' i'
  at_ : L'[i']? = some x
  fr : Fr (foot q m v) w w'

theorem Up.fin {w wr w' : World} {q m : Nat} {v : Value} {L hs : List Tm.T} {i k : Nat} {x : Tm.T} {M' : Tm.T → Option Nat} (hU : Tm.UpI L i (hs.set k x) k x M') (hN : L.Nodup) (he : 0 < k → Tm.Edge (hs.set k x) k)
    (hF : Fr (foot q m v) w wr) (h3 : Raw w' q m v (hs.set k x) (Tm.upd M' x k)) (hf : Fr (foot q m v) wr w') : Up w w' q m v L i x (hs.set k x) k (Tm.upd M' x k) :=
  ⟨h3, hU.place.lay (hU.perm.nodup_iff.2 hN) hU.at_, hU.perm, hU.hole, he, hU.kids, hU.at_, hF.trans hf⟩
theorem dom_of {L hs : List Tm.T} {i k : Nat} {x : Tm.T} {M' : Tm.T → Option Nat} (hU : Tm.UpI L i (hs.set k x) k x M') : ∀ y, M' y ≠ none → y ∈ hs.set k x := hU.place.dom

set_option maxHeartbeats 2000000 in
theorem up_any {w : World} {q m : Nat} {v : Value} {L : List Tm.T} {M : Tm.T → Option Nat} (h : Raw w q m v L M) (i : Nat) (x : Tm.T) (hx : L[i]? = some x) (hH : Tm.Hole L i) (hP : Tm.Place M L i) (hN : L.Nodup) :
    Calls Try.prog 30 #[ptr q, .int .i64 i] w fun en w' => en = .returned (.tuple #[]) ∧ ∃ L' i' M', Up w w' q m v L i x L' i' M' := by
  have hi := (List.getElem?_eq_some_iff.1 hx).1
  obtain ⟨g, cap, rfl, hcap, hcm⟩ := h.form (by omega)
  have hok : Ok x := h.ok x (List.mem_of_getElem? hx)
  have hU : Tm.UpI L i L i x M := ⟨List.Perm.refl _, hx, hH, fun h => h, hP⟩
  have HU := Lib.hid hU
  have HN := Lib.hid hN
  have H := Lib.hid h
  have HX := Lib.hid hx
  have hlen := h.len
  have q0 := h.bq.cell 0
  simp only [List.getElem?_toArray, List.getElem?_cons_zero, List.getElem?_cons_succ] at q0
  obtain ⟨c0, c1, c2, c3⟩ := h.cell hx
  clear h hx hU hH hP hN
  go_enter Try.func30, Try.ntmps30
  go_wp2
  go_loopw [1] (fun vi wr => ∃ (k : Nat) (hs : List Tm.T) (M' : Tm.T → Option Nat), vi = .int .i64 k ∧ Raw wr q m (.slice (some ⟨g, 0, none⟩) L.length cap) hs M' ∧ hs.length = L.length ∧ Tm.UpI L i (hs.set k x) k x M' ∧ Blk wr w.heap.size 25 (cT x).toArray ∧ Fr (foot q m (.slice (some ⟨g, 0, none⟩) L.length cap)) w wr) (fun i _ => (intOf i).toNat)
  case atStart => exact ⟨i, L, M, rfl, H.out.below (by go_grown), rfl, by rw [set_self HX.out]; exact HU.out, heap_at rfl, Fr.next (by go_grown)⟩
  case round =>
    obtain ⟨k, hs, M', rfl, hR, hsl, hU, A, hF⟩ := hrel
    have HSL := Lib.hid hsl
    have HR := Lib.hid hR
    have HU' := Lib.hid hU
    have HF := Lib.hid hF
    have hk : k < L.length := by have := (List.getElem?_eq_some_iff.1 hU.at_).1; simpa [hsl] using this
    have lA := A.lt
    have a0 := A.cell 0
    have a1 := A.cell 1
    have a2 := A.cell 2
    have a3 := A.cell 3
    have q0 := hR.bq.cell 0
    simp only [List.getElem?_toArray, List.getElem?_cons_zero, List.getElem?_cons_succ] at a0 a1 a2 a3 q0
    clear hR hU hF c0 c1 c2 c3 hsl
    rcases Nat.eq_zero_or_pos k with hk0 | hk0
    · subst hk0
      go_wp2_with (go_in)
      (refine region_keep (fun _ => True) 13 [(0, true), (1, true), (2, true), (3, true), (4, true), (5, true), (6, true), (7, true), (8, true), (9, true), (10, true), (11, true), (12, true)] (by kernel_rfl) (fun _ _ d _ _ h => by cases d <;> exact h) (by kernel_rfl) ?_; simp only [withOps, List.getElem?_toArray, List.getElem?_cons_zero, List.getElem?_cons_succ, List.drop_succ_cons, List.drop_zero])
      (iterate 3 (refine keep_quiet (v := ?_) rfl ?_ ?_; rotate_left; (focus (intro w' hw'; go_simp; (try with_reducible rfl); done)); try simp only [Act.put, List.setIfInBounds_toArray, List.set_cons_zero, List.set_cons_succ]))
      (iterate 10 ((with_reducible refine plan_skip ?_ ?_); (focus rfl); try simp only [Act.put, List.setIfInBounds_toArray, List.set_cons_zero, List.set_cons_succ]))
      refine plan_end ?_
      (try simp only [Act.put, List.setIfInBounds_toArray, List.set_cons_zero, List.set_cons_succ])
      go_wp2_with fail
      refine (lay_any (w := wr.drew) (HR.out.same fun _ _ => rfl) 0 (by rw [HSL.out]; exact hk) x hok _ HU'.out.place.dom (by rw [List.length_set, HSL.out]; exact hlen)).mono ?_
      rintro en w2 ⟨rfl, hR2, hF2⟩
      have hfin := Up.fin HU'.out HN.out (fun h => absurd h (by omega)) HF.out.drew hR2 hF2
      go_wp2_with fail
      refine bodyPost_end (v := .tuple #[]) (by simp [results, Try.results30]) rfl ⟨rfl, _, _, _, hfin⟩
    · obtain ⟨p', hp'⟩ : ∃ p', p' = (k - 1) / 2 := ⟨_, rfl⟩
      have hpk : p' < k := by omega
      obtain ⟨p, hp⟩ : ∃ p, hs[p']? = some p := ⟨_, List.getElem?_eq_getElem (by rw [HSL.out]; omega)⟩
      have hpp : (hs.set k x)[(k - 1) / 2]? = some p := by rw [← hp', List.getElem?_set_ne (by omega)]; exact hp
      have hR' : Raw wr q m (.slice (some ⟨g, 0, none⟩) hs.length cap) hs M' := by rw [HSL.out]; exact HR.out
      obtain ⟨c0, c1, c2, c3⟩ := hR'.cell hp
      have hop : Ok p := HR.out.ok p (List.mem_of_getElem? hp)
      have e1 : ((k : Int) - 1).tdiv 2 = (p' : Int) := by rw [Int.tdiv_eq_ediv_of_nonneg (by omega)]; omega
      have e0 : IntKind.i64.wrap ((k : Int) - 1) = (k : Int) - 1 := by rw [IntKind.wrap_i64]; omega
      have e2 : IntKind.i64.wrap (p' : Int) = (p' : Int) := by rw [IntKind.wrap_i64]; omega
      have hpl : p' < L.length := by omega
      have HPP := Lib.hid hpp
      have HP := Lib.hid hp
      have HP' := Lib.hid hp'
      clear hR' hpp hp hp'
      go_wp2_with (go_in)
      (refine region_keep (fun _ => True) 13 [(0, true), (1, true), (2, true), (3, true), (4, true), (5, true), (6, true), (7, true), (8, true), (9, true), (10, true), (11, true), (12, true)] (by kernel_rfl) (fun _ _ d _ _ h => by cases d <;> exact h) (by kernel_rfl) ?_; simp only [withOps, List.getElem?_toArray, List.getElem?_cons_zero, List.getElem?_cons_succ, List.drop_succ_cons, List.drop_zero])
      (iterate 13 (refine keep_quiet (v := ?_) rfl ?_ ?_; rotate_left; (focus (intro w' hw'; go_simp; (try with_reducible rfl); done)); try simp only [Act.put, List.setIfInBounds_toArray, List.set_cons_zero, List.set_cons_succ]))
      refine plan_end ?_
      (try simp only [Act.put, List.setIfInBounds_toArray, List.set_cons_zero, List.set_cons_succ])
      go_wp2_with fail
      refine (Compare_any _ _ _).mono ?_
      rintro en w2 ⟨rfl, hb2⟩
      have hB2 : Below wr.heap.size wr w2 := bnext (by go_grown) hb2
      have HR2 := Lib.hid (HR.out.below hB2)
      have HF2 := Lib.hid (HF.out.trans (Fr.next hB2))
      have A2 : Blk w2 w.heap.size 25 (cT x).toArray := A.below hB2
      have lA2 := A2.lt
      clear hb2 hB2 a0 a1 a2 a3 q0 c0 c1 c2 c3 A
      have hR2' : Raw w2 q m (.slice (some ⟨g, 0, none⟩) hs.length cap) hs M' := by rw [HSL.out]; exact HR2.out
      obtain ⟨c0, c1, c2, c3⟩ := hR2'.cell HP.out
      clear hR2'
      have a0 := A2.cell 0
      have a1 := A2.cell 1
      have a2 := A2.cell 2
      have a3 := A2.cell 3
      have q0 := HR2.out.bq.cell 0
      simp only [List.getElem?_toArray, List.getElem?_cons_zero, List.getElem?_cons_succ] at a0 a1 a2 a3 q0
      by_cases hlt : Tm.cmp x p < 0
      · have HLT := Lib.hid (show Tm.lt x p from hlt)
        go_wp2_with fail
        refine (lay_any HR2.out k (by rw [HSL.out]; exact hk) p hop _ HU'.out.place.dom (by rw [List.length_set, HSL.out]; exact hlen)).mono ?_
        rintro en w3 ⟨rfl, hR3, hF3⟩
        have hU3 : Tm.UpI L i (((hs.set k p).set p' x)) p' x (Tm.upd M' p k) := by
          have hs3 := HU'.out.step HN.out hk0 HPP.out HLT.out
          have e : Tm.swap (hs.set k x) k ((k - 1) / 2) p x = (hs.set k p).set p' x := by
            unfold Tm.swap; rw [List.set_set, HP'.out]
          rw [e, ← HP'.out] at hs3
          exact hs3
        have HR3 := Lib.hid hR3
        have HF3 := Lib.hid (HF2.out.trans hF3)
        have HU3 := Lib.hid hU3
        have A3 : Blk w3 w.heap.size 25 (cT x).toArray := (hF3.block _ lA2 (fun hf => by have := H.out.lt _ hf; omega)).trans A2
        clear hR3 hF3 hU3 a0 a1 a2 a3 q0 c0 c1 c2 c3
        go_wp2_with fail
        go_roundw
        case rel => exact ⟨p', _, _, by go_num, HR3.out, by rw [List.length_set, HSL.out], HU3.out, A3, HF3.out⟩
        case measure => simp [intOf]; omega
      · have HLT := Lib.hid (show ¬ Tm.lt x p from hlt)
        go_wp2_with fail
        refine (lay_any HR2.out k (by rw [HSL.out]; exact hk) x hok _ HU'.out.place.dom (by rw [List.length_set, HSL.out]; exact hlen)).mono ?_
        rintro en w3 ⟨rfl, hR3, hF3⟩
        have hfin := Up.fin HU'.out HN.out (fun _ y z hy hz => by
          rw [HU'.out.at_] at hy; cases hy
          rw [HPP.out] at hz; cases hz
          exact HLT.out) HF2.out hR3 hF3
        go_wp2_with fail
        refine bodyPost_end (v := .tuple #[]) (by simp [results, Try.results30]) rfl ⟨rfl, _, _, _, hfin⟩
end Go.Proofs.Ytlmmcffbpdfcjaa
