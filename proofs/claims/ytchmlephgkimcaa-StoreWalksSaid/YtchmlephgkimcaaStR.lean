/- Store: the document's map: a row of pairs; Place and Get of it. -/
import Derived.Test.YtchmlephgkimcaaStQ
import Derived.Test.YtchmlephgkimcaaAppR
set_option linter.unusedSimpArgs false
set_option linter.unusedVariables false
namespace Go.St
variable {κ ν : Type} {c : κ → κ → Int} {key : κ}
theorem placeL_lt : ∀ {l : List (κ × ν)} {k : Nat}, k < placeL c key l → ∃ x, l[k]? = some x ∧ c x.1 key < 0
  | [], k, h => by simp [placeL] at h
  | p :: l, k, h => by
    simp only [placeL] at h
    split at h
    · rename_i hp
      cases k with
      | zero => exact ⟨p, rfl, hp⟩
      | succ k =>
        obtain ⟨x, h1, h2⟩ := placeL_lt (l := l) (k := k) (by omega)
        exact ⟨x, by simpa using h1, h2⟩
    · omega
theorem placeL_at : ∀ {l : List (κ × ν)} {x : κ × ν}, l[placeL c key l]? = some x → ¬ c x.1 key < 0
  | p :: l, x, h => by
    simp only [placeL] at h
    split at h
    · exact placeL_at (l := l) (by simpa using h)
    · rename_i hp
      cases (show some p = some x from h)
      exact hp
theorem getL_at : ∀ (l : List (κ × ν)), getL c key l = match l[placeL c key l]? with | some x => if c x.1 key = 0 then some x.2 else none | none => none
  | [] => rfl
  | p :: l => by
    simp only [placeL, getL]
    split
    · rw [getL_at l, List.getElem?_cons_succ]
    · rfl
theorem placeL_len : ∀ l : List (κ × ν), placeL c key l ≤ l.length
  | [] => Nat.le_refl _
  | p :: l => by
    have := placeL_len l
    simp only [placeL, List.length_cons]
    split <;> omega
end Go.St
namespace Go.Proofs.Ytchmlephgkimcaa
open Go.RowKit Go.Kp Go.St

/-- A row of pairs. -/
def RowAt (W : World) (a : Option Addr) (L : List (Int × Int)) : Prop := L = [] ∨ ∃ b off cs, a = some ⟨b, off, none⟩ ∧ Blk W b 43 cs ∧ ∀ j u, (prs L)[j]? = some u → cs[off + j]? = some u
theorem RowAt.same {W W' : World} {a : Option Addr} {L : List (Int × Int)} (h : RowAt W a L) (hk : ∀ b cs, Blk W b 43 cs → W'.heap[b]? = W.heap[b]?) : RowAt W' a L := by
  rcases h with h | ⟨b, off, cs, h1, h2, h3⟩
  · exact .inl h
  · exact .inr ⟨b, off, cs, h1, (hk _ _ h2).trans h2, h3⟩
theorem RowAt.below {W W' : World} {a : Option Addr} {L : List (Int × Int)} (h : RowAt W a L) (hb : Below W.heap.size W W') : RowAt W' a L := h.same fun b _ hB => hb.block b hB.lt
theorem RowAt.rd {W : World} {a : Option Addr} {L : List (Int × Int)} (h : RowAt W a L) : Rd W W.heap.size a (prs L) := by
  rcases h with h | ⟨b, off, cs, h1, h2, h3⟩
  · exact .inl (by rw [h]; rfl)
  · exact .inr ⟨b, off, h1, h2.lt, fun j u hu => (h2.cell (off + j)).trans (h3 j u hu)⟩
theorem RowAt.of_own {W : World} {base n : Nat} {v : Value} {L : List (Int × Int)} (h : W.ownsRow base 43 2 v n (prs L)) : ∃ a cap, v = .slice a L.length cap ∧ RowAt W a L ∧ L.length ≤ cap ∧ cap ≤ 9223372036854775807 ∧ (a = none → cap = 0) := by
  have hl := h.1
  rw [prs_len] at hl
  have hn : L.length = n := by omega
  rcases h.2 with ⟨h', h0⟩ | ⟨g, cap, cur, h1, h2, h3, h4, h5, h6, h7⟩
  · rw [h0] at hn; exact ⟨none, 0, by rw [hn]; exact h', .inl (List.eq_nil_of_length_eq_zero hn), by omega, by omega, fun _ => rfl⟩
  · refine ⟨some ⟨g, 0, none⟩, cap, by rw [hn]; exact h1, .inr ⟨g, 0, cur, rfl, h3, fun j u hu => ?_⟩, by omega, by unfold maxLen at h5; omega, fun h => (by cases h)⟩
    rw [Nat.zero_add]
    have hj := (List.getElem?_eq_some_iff.1 hu).1
    rw [← h7, List.getElem?_take] at hu
    split at hu
    · simpa using hu
    · cases hu
/-- The document's map. -/
def RefAt (W : World) (wh : Int) (r : Nat) (L : List (Int × Int)) : Prop := ∃ a cap, Blk W r 29 #[.int .i64 wh, .slice a L.length cap] ∧ RowAt W a L ∧ L.length ≤ cap ∧ cap ≤ 9223372036854775807 ∧ (a = none → cap = 0)
theorem RefAt.same {W W' : World} {wh : Int} {r : Nat} {L : List (Int × Int)} (h : RefAt W wh r L) (hk : ∀ b t cs, (t = 43 ∨ b = r) → Blk W b t cs → W'.heap[b]? = W.heap[b]?) : RefAt W' wh r L := by
  obtain ⟨a, cap, h1, h2, h3⟩ := h
  exact ⟨a, cap, (hk _ _ _ (.inr rfl) h1).trans h1, h2.same fun b cs hB => hk _ _ _ (.inl rfl) hB, h3⟩
theorem RefAt.below {W W' : World} {wh : Int} {r : Nat} {L : List (Int × Int)} (h : RefAt W wh r L) (hb : Below W.heap.size W W') : RefAt W' wh r L := h.same fun b _ _ _ hB => hb.block b hB.lt
abbrev cw (wh : Int) : Int → Int → Int := fun a b => 3 * cmpW wh a b

set_option maxRecDepth 100000 in
set_option maxHeartbeats 8000000 in
theorem rPlace_any {w : World} {wh : Int} {r : Nat} {L : List (Int × Int)} (hR : RefAt w wh r L) (key : Int) (hn : L.length ≤ 8796093022208) :
    Calls Try.prog 42 #[.pointer (some ⟨r, 0, none⟩), .int .i64 key] w (GetE (placeL (cw wh) key L : Nat) (getL (cw wh) key L).isSome w) := by
  have HR := Lib.hid hR
  clear hR
  obtain ⟨n, hnl⟩ : ∃ n, L.length = n := ⟨_, rfl⟩
  obtain ⟨P, hpl⟩ : ∃ P, placeL (cw wh) key L = P := ⟨_, rfl⟩
  have hPn : P ≤ n := by rw [← hpl, ← hnl]; exact placeL_len L
  have HP := Lib.hid hpl
  have HN := Lib.hid hnl
  rw [hnl] at hn
  rw [hpl]
  obtain ⟨G, hG⟩ : ∃ G, (getL (cw wh) key L).isSome = G := ⟨_, rfl⟩
  have HG := Lib.hid hG
  rw [hG]
  clear hnl hpl hG
  go_enter Try.func42, Try.ntmps42
  go_wp2_with fail
  go_loopw [6] (fun i wr => ∃ k : Nat, i = .int .i64 k ∧ k ≤ P ∧ Below w.heap.size w wr) (fun i _ => n - (intOf i).toNat)
  case atStart => exact ⟨0, rfl, Nat.zero_le _, by go_grown⟩
  case round =>
    obtain ⟨k, rfl, hkP, hB⟩ := hrel
    obtain ⟨a, cap, hr, hrow, hc1, hc2, hc3⟩ := HR.out.below hB
    rw [HN.out] at hr hc1
    have HRow := Lib.hid hrow
    have cR := hr.cell
    have qR := hr.lt
    rcases Nat.lt_or_ge k n with hkn | hkn
    · obtain ⟨x, hx⟩ : ∃ x, L[k]? = some x := ⟨_, List.getElem?_eq_getElem (by rw [HN.out]; exact hkn)⟩
      obtain ⟨b, off, rfl, hb, hcl⟩ := rd_prs hrow.rd (by rw [HN.out]; omega)
      obtain ⟨x0, x1⟩ := hcl _ _ hx
      have HX := Lib.hid hx
      clear hr hrow hcl hx hc3
      go_wp2_with fail
      (refine region_keep (fun x => x < wr.heap.size) 21 [(0, true), (1, true), (2, true), (3, true), (4, true), (5, true), (6, true), (7, true), (8, true), (9, true), (10, true), (11, true), (12, true), (13, true), (14, true), (15, true), (16, true), (17, true), (18, true), (19, true), (20, true)] (by kernel_rfl) (fun _ _ d _ _ h => by cases d <;> exact h) (by kernel_rfl) ?_; simp only [withOps, List.getElem?_toArray, List.getElem?_cons_zero, List.getElem?_cons_succ, List.drop_succ_cons, List.drop_zero])
      (iterate 21 (refine keep_quiet (v := ?_) rfl ?_ ?_; rotate_left; (focus (intro w' hw'; go_simp; (try with_reducible rfl); done)); try simp only [Act.put, List.setIfInBounds_toArray, List.set_cons_zero, List.set_cons_succ]))
      (with_reducible refine plan_end ?_)
      (try simp only [Act.put, List.setIfInBounds_toArray, List.set_cons_zero, List.set_cons_succ])
      go_wp2_with fail
      refine (compare_any wh x.1 key wr.drew).mono ?_
      rintro en w_ ⟨rfl, hw_⟩
      obtain rfl : wr.drew = w_ := hw_.symm
      have hlt : Hid (k < P → cmpW wh x.1 key < 0) := Lib.hid fun h => by
        obtain ⟨y, h1, h2⟩ := placeL_lt (c := cw wh) (key := key) (l := L) (by rw [HP.out]; exact h)
        rw [HX.out] at h1; cases h1
        have : 3 * cmpW wh x.1 key < 0 := h2
        omega
      have hge : Hid (k = P → ¬ cmpW wh x.1 key < 0 ∧ G = decide (cmpW wh x.1 key = 0)) := Lib.hid fun h => by
        have h1 := placeL_at (c := cw wh) (key := key) (l := L) (x := x) (by rw [HP.out, ← h]; exact HX.out)
        have h1' : ¬ 3 * cmpW wh x.1 key < 0 := h1
        refine ⟨by omega, ?_⟩
        have h2 := getL_at (c := cw wh) (key := key) L
        rw [HP.out, ← h, HX.out] at h2
        rw [← HG.out, h2]
        show (if 3 * cmpW wh x.1 key = 0 then some x.2 else none).isSome = _
        by_cases h3 : cmpW wh x.1 key = 0
        · simp [h3]
        · have : ¬ 3 * cmpW wh x.1 key = 0 := by omega
          simp [h3]
      generalize hZ : cmpW wh x.1 key = Z at hlt hge ⊢
      have HZ := Lib.hid hZ
      clear hZ
      rcases Nat.lt_or_ge k P with hk | hk
      · have hz := hlt.out hk
        go_wp2_with fail
        refine ⟨⟨k + 1, by simp, by omega, hB.drew⟩, ?_⟩
        simp only [intOf]
        omega
      · have hkP' : k = P := by omega
        obtain ⟨hz, hgz⟩ := hge.out hkP'
        have HKP := Lib.hid hkP'
        have HGZ := Lib.hid hgz
        clear hkP' hgz hge hlt
        go_wp2_with fail
        (refine region_keep (fun x => x < wr.heap.size) 26 [(0, true), (1, true), (2, true), (3, true), (4, true), (5, true), (6, true), (7, true), (8, true), (9, true), (10, true), (11, true), (12, true), (13, true), (14, true), (15, true), (16, true), (17, true), (18, true), (19, true), (20, true), (21, true), (22, false), (23, true), (24, true), (25, true)] (by kernel_rfl) (fun _ _ d _ _ h => by cases d <;> exact h) (by kernel_rfl) ?_; simp only [withOps, List.getElem?_toArray, List.getElem?_cons_zero, List.getElem?_cons_succ, List.drop_succ_cons, List.drop_zero])
        (iterate 22 (refine keep_quiet (v := ?_) rfl ?_ ?_; rotate_left; (focus (intro w' hw'; go_simp; (try with_reducible rfl); done)); try simp only [Act.put, List.setIfInBounds_toArray, List.set_cons_zero, List.set_cons_succ]))
        (with_reducible refine plan_loud (fun K hK => ?_))
        go_simp
        refine (compare_any wh x.1 key wr.drew.drew).mono ?_
        rintro en w_ ⟨rfl, hw_⟩
        obtain rfl : wr.drew.drew = w_ := hw_.symm
        refine hK _ _ (Keep.refl _ _) ?_
        clear hK K
        rw [HZ.out]
        (iterate 3 (refine keep_quiet (v := ?_) rfl ?_ ?_; rotate_left; (focus (intro w' hw'; go_simp; (try with_reducible rfl); done)); try simp only [Act.put, List.setIfInBounds_toArray, List.set_cons_zero, List.set_cons_succ]))
        (with_reducible refine plan_end ?_)
        (try simp only [Act.put, List.setIfInBounds_toArray, List.set_cons_zero, List.set_cons_succ])
        go_wp2_with fail
        refine bodyPost_ret (v := .tuple #[.int .i64 k, .bool (Z == 0)]) (by simp [results, Try.results42, go_sem]; done) rfl ⟨by rw [HGZ.out, HKP.out]; rfl, hB.drew.drew⟩
    · have hkP' : k = P := by omega
      have hgz : Hid (G = false) := Lib.hid (by
        have h2 := getL_at (c := cw wh) (key := key) L
        rw [HP.out, List.getElem?_eq_none (by rw [HN.out]; omega)] at h2
        rw [← HG.out, h2]; rfl)
      have hkn' : k = n := by omega
      clear hrow hc3
      subst hkn'
      go_wp2_with fail
      (refine region_keep (fun x => x < wr.heap.size) 21 [(0, true), (1, true), (2, true), (3, true), (4, true), (5, true), (6, true), (7, true), (8, true), (9, true), (10, true), (11, true), (12, true), (13, true), (14, true), (15, true), (16, true), (17, true), (18, true), (19, true), (20, true)] (by kernel_rfl) (fun _ _ d _ _ h => by cases d <;> exact h) (by kernel_rfl) ?_; simp only [withOps, List.getElem?_toArray, List.getElem?_cons_zero, List.getElem?_cons_succ, List.drop_succ_cons, List.drop_zero])
      (iterate 8 (refine keep_quiet (v := ?_) rfl ?_ ?_; rotate_left; (focus (intro w' hw'; go_simp; (try with_reducible rfl); done)); try simp only [Act.put, List.setIfInBounds_toArray, List.set_cons_zero, List.set_cons_succ]))
      (iterate 13 ((with_reducible refine plan_skip ?_ ?_); (focus rfl); try simp only [Act.put, List.setIfInBounds_toArray, List.set_cons_zero, List.set_cons_succ]))
      (with_reducible refine plan_end ?_)
      (try simp only [Act.put, List.setIfInBounds_toArray, List.set_cons_zero, List.set_cons_succ])
      go_wp2_with fail
      (refine region_keep (fun x => x < wr.heap.size) 26 [(0, true), (1, true), (2, true), (3, true), (4, true), (5, true), (6, true), (7, true), (8, true), (9, true), (10, true), (11, true), (12, true), (13, true), (14, true), (15, true), (16, true), (17, true), (18, true), (19, true), (20, true), (21, true), (22, false), (23, true), (24, true), (25, true)] (by kernel_rfl) (fun _ _ d _ _ h => by cases d <;> exact h) (by kernel_rfl) ?_; simp only [withOps, List.getElem?_toArray, List.getElem?_cons_zero, List.getElem?_cons_succ, List.drop_succ_cons, List.drop_zero])
      (iterate 9 (refine keep_quiet (v := ?_) rfl ?_ ?_; rotate_left; (focus (intro w' hw'; go_simp; (try with_reducible rfl); done)); try simp only [Act.put, List.setIfInBounds_toArray, List.set_cons_zero, List.set_cons_succ]))
      (iterate 13 ((with_reducible refine plan_skip ?_ ?_); (focus rfl); try simp only [Act.put, List.setIfInBounds_toArray, List.set_cons_zero, List.set_cons_succ]))
      (with_reducible refine plan_loud (fun K hK => ?_))
      go_simp
      refine hK _ _ (Keep.refl _ _) ?_
      clear hK K
      (iterate 1 ((with_reducible refine plan_skip ?_ ?_); (focus rfl); try simp only [Act.put, List.setIfInBounds_toArray, List.set_cons_zero, List.set_cons_succ]))
      (iterate 2 (refine keep_quiet (v := ?_) rfl ?_ ?_; rotate_left; (focus (intro w' hw'; go_simp; (try with_reducible rfl); done)); try simp only [Act.put, List.setIfInBounds_toArray, List.set_cons_zero, List.set_cons_succ]))
      (with_reducible refine plan_end ?_)
      (try simp only [Act.put, List.setIfInBounds_toArray, List.set_cons_zero, List.set_cons_succ])
      go_wp2_with fail
      refine bodyPost_ret (v := .tuple #[.int .i64 P, .bool false]) (by simp [results, Try.results42, go_sem]; done) rfl ⟨by rw [hgz.out], hB.drew.drew⟩

set_option maxRecDepth 100000 in
set_option maxHeartbeats 4000000 in
theorem rGet_any {w : World} {wh : Int} {r : Nat} {L : List (Int × Int)} (hR : RefAt w wh r L) (key : Int) (hn : L.length ≤ 8796093022208) :
    Calls Try.prog 48 #[.pointer (some ⟨r, 0, none⟩), .int .i64 key] w (GetE ((getL (cw wh) key L).getD 0) (getL (cw wh) key L).isSome w) := by
  have HR := Lib.hid hR
  have HN := Lib.hid hn
  have HG := Lib.hid (getL_at (c := cw wh) (key := key) L)
  clear hR hn
  go_enter Try.func48, Try.ntmps48
  go_wp2_with fail
  refine (rPlace_any HR.out key HN.out).mono ?_
  rintro en w1 ⟨rfl, hb⟩
  have HB := Lib.hid hb
  obtain ⟨a, cap, hr, hrow, hc1, hc2, hc3⟩ := HR.out.below hb
  have cR := hr.cell
  have qR := hr.lt
  generalize hP : placeL (cw wh) key L = P at *
  cases hg : getL (cw wh) key L with
  | none =>
    simp only [Option.isSome_none, Option.getD_none]
    have HS := Lib.hid hg
    clear hr hrow hb hc3 hg hP
    go_wp2_with fail
    go_returns
    exact ⟨by rw [HS.out]; rfl, HB.out⟩
  | some v =>
    simp only [Option.isSome_some, Option.getD_some]
    have HS := Lib.hid hg
    have h2 := HG.out
    rw [hg] at h2
    cases hx : L[P]? with
    | none => rw [hx] at h2; cases h2
    | some x =>
      rw [hx] at h2
      have hv : v = x.2 := by
        simp only at h2
        split at h2
        · injection h2
        · cases h2
      have hPn := (List.getElem?_eq_some_iff.1 hx).1
      obtain ⟨b, off, rfl, hb', hcl⟩ := rd_prs hrow.rd (by omega)
      obtain ⟨x0, x1⟩ := hcl _ _ hx
      rw [← hv] at x1
      have hlim := HN.out
      generalize L.length = n at *
      clear hr hrow hb hc3 hg hP hcl hx h2 hv
      go_wp2_with fail
      go_returns
      exact ⟨by rw [HS.out]; rfl, HB.out⟩
end Go.Proofs.Ytchmlephgkimcaa
