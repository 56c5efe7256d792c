/- Store: the document's Put, Take, Copy. -/
import Derived.Test.YtchmlephgkimcaaStS
set_option linter.unusedSimpArgs false
set_option linter.unusedVariables false
namespace Go.St
variable {κ ν : Type} {c : κ → κ → Int} {key : κ} {val : ν}
theorem putL_at : ∀ (l : List (κ × ν)), putL c key val l = match l[placeL c key l]? with
    | some x => if c x.1 key = 0 then l.take (placeL c key l) ++ (x.1, val) :: l.drop (placeL c key l + 1) else l.take (placeL c key l) ++ (key, val) :: l.drop (placeL c key l)
    | none => l.take (placeL c key l) ++ (key, val) :: l.drop (placeL c key l)
  | [] => rfl
  | p :: l => by
    simp only [placeL, putL]
    split
    · rw [putL_at l, List.getElem?_cons_succ]
      cases l[placeL c key l]? with
      | none => rfl
      | some x =>
        simp only
        split <;> rfl
    · rfl
theorem takeL_at : ∀ (l : List (κ × ν)), takeL c key l = if (getL c key l).isSome then l.take (placeL c key l) ++ l.drop (placeL c key l + 1) else l
  | [] => rfl
  | p :: l => by
    simp only [placeL, takeL, getL]
    split
    · rw [takeL_at l]
      split <;> rfl
    · split <;> rfl
theorem putL_none {l : List (κ × ν)} (h : getL c key l = none) : putL c key val l = l.take (placeL c key l) ++ (key, val) :: l.drop (placeL c key l) := by
  rw [putL_at]
  rw [getL_at] at h
  cases hx : l[placeL c key l]? with
  | none => rfl
  | some x =>
    rw [hx] at h
    simp only at h ⊢
    split at h
    · cases h
    · rename_i h0; rw [if_neg h0]
theorem putL_some {l : List (κ × ν)} {v : ν} (h : getL c key l = some v) : ∃ x, l[placeL c key l]? = some x ∧ x.2 = v ∧ putL c key val l = l.take (placeL c key l) ++ (x.1, val) :: l.drop (placeL c key l + 1) := by
  rw [putL_at]
  rw [getL_at] at h
  cases hx : l[placeL c key l]? with
  | none => rw [hx] at h; cases h
  | some x =>
    rw [hx] at h
    simp only at h ⊢
    split at h
    · rename_i h0; rw [if_pos h0]; exact ⟨x, rfl, by injection h, rfl⟩
    · cases h
end Go.St
namespace Go.Proofs.Ytchmlephgkimcaa
open Go.RowKit Go.Kp Go.St

theorem own_empty (w : World) : (w.alloc (.cells #[] 43)).ownsRow w.heap.size 43 2 (.slice (some ⟨w.heap.size, 0, none⟩) 0 0) 0 (prs []) :=
  ⟨rfl, .inr ⟨w.heap.size, 0, #[], rfl, Nat.le_refl _, heap_at rfl, Nat.le_refl _, by decide, rfl, rfl⟩⟩
theorem one_rd (w : World) (k v : Int) : Rd (w.alloc (.cells #[.int .i64 k, .int .i64 v] 43)).drew (w.alloc (.cells #[.int .i64 k, .int .i64 v] 43)).drew.heap.size (some ⟨w.heap.size, 0, none⟩) (prs [(k, v)]) :=
  RowAt.rd (L := [(k, v)]) (.inr ⟨w.heap.size, 0, #[.int .i64 k, .int .i64 v], rfl, heap_at rfl, fun i u hu => by rw [Nat.zero_add]; simpa [prs] using hu⟩)
theorem own_formN {w : World} {base n size : Nat} {e : TypeId} {v : Value} {xs : List Value} (h : w.ownsRow base e size v n xs) : ∃ a c, v = .slice a n c := by
  rcases h.2 with ⟨h0, rfl⟩ | ⟨g, cap, cur, h1, _⟩
  · exact ⟨_, _, h0⟩
  · exact ⟨_, _, h1⟩
theorem wrap_small {x : Int} (h0 : 0 ≤ x) (h1 : x < 9223372036854775808) : IntKind.i64.wrap x = x := by
  simp only [IntKind.wrap, IntKind.signed, IntKind.bits]
  simp
  omega
theorem RowAt.take {W : World} {a : Option Addr} {L : List (Int × Int)} (h : RowAt W a L) (k : Nat) : RowAt W a (L.take k) := by
  rcases h with h | ⟨b', off', cs, h1, h2, h3⟩
  · exact .inl (by rw [h]; simp)
  · refine .inr ⟨b', off', cs, h1, h2, fun j u hu => ?_⟩
    refine h3 _ _ ?_
    have hL : prs L = prs (L.take k) ++ prs (L.drop k) := by rw [← prs_append, List.take_append_drop]
    rw [hL, List.getElem?_append_left (List.getElem?_eq_some_iff.1 hu).1]
    exact hu
/-- A row that a call has made, and that it lays into the document's map. -/
theorem RefAt.stored {W : World} {wh : Int} {r : Nat} {cs : Array Value} (hr : Blk W r 29 cs) (h0 : cs[0]? = some (.int .i64 wh)) (hsz : cs.size = 2) {base n : Nat} {v : Value} {L : List (Int × Int)} (hb : r < base) (ho : W.ownsRow base 43 2 v n (prs L)) : RefAt (W.setCell ⟨r, 1, none⟩ v) wh r L := by
  obtain ⟨a, cap, rfl, h1, h2, h3, h4⟩ := RowAt.of_own ho
  refine ⟨a, cap, ?_, h1.same fun b cs' hB => ?_, h2, h3, h4⟩
  · obtain ⟨l⟩ := cs
    match l, hsz, h0 with
    | [x, y], _, h0 =>
      simp at h0
      subst h0
      unfold Blk at hr ⊢
      simp (disch := (first | omega | (simp only [World.size_alloc, World.size_setCell, World.size_drew] <;> omega) | fail)) only [Blk, heap_old, heap_at, heap_set_same, heap_set_ne, heap_drew', Option.map_some, putO_cells, hr]
      rfl
  · refine heap_set_ne _ _ _ _ _ fun e => ?_
    subst e
    have := hB.symm.trans hr
    injection this with this
    injection this with _ h2
    exact absurd h2 (by decide)

set_option maxRecDepth 100000 in
set_option maxHeartbeats 8000000 in
theorem rPut_any {w : World} {wh : Int} {r : Nat} {L : List (Int × Int)} (hR : RefAt w wh r L) (key val : Int) (hn : L.length ≤ 8796093022208) :
    Calls Try.prog 9 #[.pointer (some ⟨r, 0, none⟩), .int .i64 key, .int .i64 val] w fun e w' => e = .returned (.tuple #[.int .i64 ((getL (cw wh) key L).getD 0), .bool (getL (cw wh) key L).isSome]) ∧ RefAt w' wh r (putL (cw wh) key val L) ∧ w.grownBy w' (some r) := by
  have HR := Lib.hid hR
  have HN := Lib.hid hn
  have hP : placeL (cw wh) key L ≤ L.length := placeL_len L
  have HGA := Lib.hid (getL_at (c := cw wh) (key := key) L)
  have HPA := Lib.hid (putL_at (c := cw wh) (key := key) (val := val) L)
  obtain ⟨G, hGe⟩ : ∃ G, getL (cw wh) key L = G := ⟨_, rfl⟩
  obtain ⟨P, hPe⟩ : ∃ P, placeL (cw wh) key L = P := ⟨_, rfl⟩
  obtain ⟨LP, hLP⟩ : ∃ LP, putL (cw wh) key val L = LP := ⟨_, rfl⟩
  rw [hPe] at hP
  rw [hGe, hLP]
  have HGE := Lib.hid hGe
  have HPE := Lib.hid hPe
  have HLP := Lib.hid hLP
  clear hR hn hGe hPe hLP
  go_enter Try.func9, Try.ntmps9
  go_wp2_with fail
  refine (rPlace_any HR.out key HN.out).mono ?_
  rintro en w1 ⟨rfl, hb⟩
  have HB := Lib.hid hb
  have HR1 := Lib.hid (HR.out.below hb)
  have hlim := HN.out
  rw [HPE.out, HGE.out]
  obtain ⟨a, cap, hr, hrow, hc1, hc2, hc3⟩ := HR1.out
  have cR := hr.cell
  have qR := hr.lt
  have HRow := Lib.hid hrow
  have HBr := Lib.hid hr
  have HC3 := Lib.hid hc3
  generalize hnl : L.length = n at hr hc1 hlim hP cR HBr HN
  have HNL := Lib.hid hnl
  clear hr hrow hb hc3 hnl
  go_upto_region 2 with (fail)
  apply wp_region_lit
  iterate 7 (go_step; go_step; rename_i KK hKK; (with_reducible refine hKK _ _ ?_); clear hKK KK)
  (with_reducible refine append_prs rfl (.tmp 18) (.tmp 24) rfl w1.heap.size (.slice (some ⟨w1.heap.size, 0, none⟩) 0 0) 0 [] rfl (own_empty w1) a P cap (L.take P) rfl HC3.out (by rw [List.length_take, HNL.out]; omega) ((HRow.out.below (show Below w1.heap.size w1 (w1.alloc (.cells #[] 43)) by go_grown)).take P).rd (by omega) (by simp) ?_)
  rintro v2 w2 hOw hgr hob
  rw [Nat.zero_add, List.nil_append] at hOw
  have HO2 := Lib.hid hOw
  have HB2 := Lib.hid (((Below.refl w1.heap.size w1).alloc (Nat.le_refl _) _).grown hgr (by simp) (fun kk hkk => by simp [Value.ownBlock] at hkk; omega))
  have hs2 := HB2.out.size
  have hr2 := HBr.out.below HB2.out
  have HBr2 := Lib.hid hr2
  have cR2 := hr2.cell
  have qR2 := hr2.lt
  clear hOw hgr hob hr2 cR
  cases G with
  | none =>
    have HLP2 : Hid (LP = L.take P ++ ([(key, val)] ++ L.drop P)) := Lib.hid (by rw [← HLP.out, putL_none HGE.out, HPE.out]; rfl)
    simp only [Option.isSome_none, Option.getD_none]
    rcases a with _ | ad
    ·
      obtain rfl := HC3.out rfl
      have hn0 : n = 0 := by omega
      have hP0 : P = 0 := by omega
      subst hn0
      subst hP0
      have HS := Lib.hid (show RowAt w1 none (L.drop 0) from .inl (by rw [List.eq_nil_of_length_eq_zero HNL.out]; rfl))
      have hcn : (none : Option Addr) = none → (0 : Nat) = 0 := fun _ => rfl
      go_wp2_with fail
      (refine region_keep (fun b => b < w1.heap.size) 14 [(0, true), (1, true), (2, true), (3, true), (4, true), (7, true), (8, true), (9, true), (10, true), (11, true), (12, true), (5, false), (6, false), (13, false)] (by kernel_rfl) (fun _ _ d _ _ h => by cases d <;> exact h) (by kernel_rfl) ?_; simp only [withOps, List.getElem?_toArray, List.getElem?_cons_zero, List.getElem?_cons_succ, List.drop_succ_cons, List.drop_zero])
      (iterate 11 (refine keep_quiet (v := ?_) rfl ?_ ?_; rotate_left; (focus (intro w' hw'; go_simp; (try with_reducible rfl); done)); try simp only [Act.put, List.setIfInBounds_toArray, List.set_cons_zero, List.set_cons_succ]))
      (with_reducible refine plan_loud (fun K hK => ?_))
      go_simp
      refine hK _ _ ?_ ?_
      · exact (Keep.refl _ _).alloc (fun b hb => show b < w2.heap.size by omega) _
      clear hK K
      (try simp only [Act.put, List.setIfInBounds_toArray, List.set_cons_zero, List.set_cons_succ])
      (with_reducible refine plan_loud (fun K hK => ?_))
      simp only [Region.wanted, if_pos]
      refine wp_append_prs (.tmp 61) (.tmp 65) rfl w1.heap.size v2 0 (L.take 0) rfl (own_keptN HO2.out fun kk hkk => heap_old (HO2.out.lt kk hkk).2) (some ⟨w2.heap.size, 0, none⟩) 1 1 [(key, val)] rfl (fun h => (by cases h)) rfl (one_rd w2 _ _) (by omega) (by show w1.heap.size ≤ (w2.alloc _).heap.size; rw [World.size_alloc]; omega) ?_
      rintro v3 w3 hO3 hg3 _
      have hB3 : Below w1.heap.size w1 w3 := ((HB2.out.alloc hs2 (.cells #[.int .i64 (key), .int .i64 (val)] 43)).drew).grown hg3 (by show w1.heap.size ≤ (w2.alloc _).heap.size; rw [World.size_alloc]; omega) (fun kk hkk => (HO2.out.lt kk hkk).1)
      refine hK _ _ ?_ ?_
      · exact (Keep.refl _ _).grown hg3 (fun x hx => show x < (w2.alloc _).heap.size by rw [World.size_alloc]; omega) (fun x hx e => by have := (HO2.out.lt x e.symm).1; omega)
      clear hK K
      have HO3 := Lib.hid hO3
      have HB3 := Lib.hid hB3
      have hs3 := hB3.size
      clear hO3 hg3 hB3
      (try simp only [Act.put, List.setIfInBounds_toArray, List.set_cons_zero, List.set_cons_succ])
      (with_reducible refine plan_loud (fun K hK => ?_))
      simp only [Region.wanted, if_pos]
      refine wp_append_prs (.tmp 66) (.tmp 72) rfl w1.heap.size v3 (0 + 1) (L.take 0 ++ [(key, val)]) rfl HO3.out _ _ _ (L.drop (0)) rfl (fun h => by first | (cases h; done) | rfl) (by have h1 : (L.drop (0)).length = L.length - (0) := List.length_drop; have h2 := HNL.out; omega) (HS.out.below HB3.out).rd (by omega) (by omega) ?_
      rintro v4 w4 hO4 hg4 _
      have hB4 : Below w1.heap.size w1 w4 := HB3.out.grown hg4 hs3 (fun kk hkk => (HO3.out.lt kk hkk).1)
      refine hK _ _ ?_ ?_
      · exact (Keep.refl _ _).grown hg4 (fun x hx => by omega) (fun x hx e => by have := (HO3.out.lt x e.symm).1; omega)
      clear hK K
      obtain ⟨a4, e4, rfl⟩ := own_formN hO4
      have HO4 := Lib.hid hO4
      have HB4 := Lib.hid hB4
      have hr4 := HBr.out.below hB4
      have HBr4 := Lib.hid hr4
      have c4 := hr4.cell
      have f4 := hr4.free
      have q4 := hr4.lt
      clear hO4 hg4 hB4 hr4 cR2 qR2
      (with_reducible refine plan_end ?_)
      (try simp only [Act.put, List.setIfInBounds_toArray, List.set_cons_zero, List.set_cons_succ])
      go_wp2_with fail
      refine bodyPost_ret (v := .tuple #[.int .i64 0, .bool false]) (by simp [results, Try.results9, go_sem]; done) rfl ⟨rfl, ?_, ?_⟩
      · rw [HLP2.out]
        have h5 := RefAt.stored HBr4.out rfl rfl qR HO4.out
        rw [List.append_assoc] at h5
        exact h5
      · exact grown_set (grown_of_below (bnext HB.out HB4.out) (some r))
    rcases Nat.lt_or_ge P cap with hcp | hcp
    · have hcp1 : ¬ cap = P := by omega
      have hcp2 : ¬ P = cap := by omega
      have HS := Lib.hid (show RowAt w1 (some (ad.add ((P) * 2))) (L.drop (P)) from by
        rcases HRow.out with h | ⟨b', off', cs, h1, h2, h3⟩
        · exact .inl (by rw [h]; simp)
        · cases h1
          rw [Go.WideShapes.add_plain]
          exact HRow.out.drop (P))
      have hcn : (some (ad.add ((P) * 2))) = none → cap - (P) = 0 := fun h => (by cases h)
      go_wp2_with fail
      (refine region_keep (fun b => b < w1.heap.size) 14 [(0, true), (1, true), (2, true), (3, true), (4, true), (7, true), (8, true), (9, true), (10, true), (11, true), (12, true), (5, false), (6, false), (13, false)] (by kernel_rfl) (fun _ _ d _ _ h => by cases d <;> exact h) (by kernel_rfl) ?_; simp only [withOps, List.getElem?_toArray, List.getElem?_cons_zero, List.getElem?_cons_succ, List.drop_succ_cons, List.drop_zero])
      (iterate 11 (refine keep_quiet (v := ?_) rfl ?_ ?_; rotate_left; (focus (intro w' hw'; go_simp; (try with_reducible rfl); done)); try simp only [Act.put, List.setIfInBounds_toArray, List.set_cons_zero, List.set_cons_succ]))
      (with_reducible refine plan_loud (fun K hK => ?_))
      go_simp
      refine hK _ _ ?_ ?_
      · exact (Keep.refl _ _).alloc (fun b hb => show b < w2.heap.size by omega) _
      clear hK K
      (try simp only [Act.put, List.setIfInBounds_toArray, List.set_cons_zero, List.set_cons_succ])
      (with_reducible refine plan_loud (fun K hK => ?_))
      simp only [Region.wanted, if_pos]
      refine wp_append_prs (.tmp 61) (.tmp 65) rfl w1.heap.size v2 P (L.take P) rfl (own_keptN HO2.out fun kk hkk => heap_old (HO2.out.lt kk hkk).2) (some ⟨w2.heap.size, 0, none⟩) 1 1 [(key, val)] rfl (fun h => (by cases h)) rfl (one_rd w2 _ _) (by omega) (by show w1.heap.size ≤ (w2.alloc _).heap.size; rw [World.size_alloc]; omega) ?_
      rintro v3 w3 hO3 hg3 _
      have hB3 : Below w1.heap.size w1 w3 := ((HB2.out.alloc hs2 (.cells #[.int .i64 (key), .int .i64 (val)] 43)).drew).grown hg3 (by show w1.heap.size ≤ (w2.alloc _).heap.size; rw [World.size_alloc]; omega) (fun kk hkk => (HO2.out.lt kk hkk).1)
      refine hK _ _ ?_ ?_
      · exact (Keep.refl _ _).grown hg3 (fun x hx => show x < (w2.alloc _).heap.size by rw [World.size_alloc]; omega) (fun x hx e => by have := (HO2.out.lt x e.symm).1; omega)
      clear hK K
      have HO3 := Lib.hid hO3
      have HB3 := Lib.hid hB3
      have hs3 := hB3.size
      clear hO3 hg3 hB3
      (try simp only [Act.put, List.setIfInBounds_toArray, List.set_cons_zero, List.set_cons_succ])
      (with_reducible refine plan_loud (fun K hK => ?_))
      simp only [Region.wanted, if_pos]
      refine wp_append_prs (.tmp 66) (.tmp 72) rfl w1.heap.size v3 (P + 1) (L.take P ++ [(key, val)]) rfl HO3.out _ _ _ (L.drop (P)) rfl (fun h => by first | (cases h; done) | rfl) (by have h1 : (L.drop (P)).length = L.length - (P) := List.length_drop; have h2 := HNL.out; omega) (HS.out.below HB3.out).rd (by omega) (by omega) ?_
      rintro v4 w4 hO4 hg4 _
      have hB4 : Below w1.heap.size w1 w4 := HB3.out.grown hg4 hs3 (fun kk hkk => (HO3.out.lt kk hkk).1)
      refine hK _ _ ?_ ?_
      · exact (Keep.refl _ _).grown hg4 (fun x hx => by omega) (fun x hx e => by have := (HO3.out.lt x e.symm).1; omega)
      clear hK K
      obtain ⟨a4, e4, rfl⟩ := own_formN hO4
      have HO4 := Lib.hid hO4
      have HB4 := Lib.hid hB4
      have hr4 := HBr.out.below hB4
      have HBr4 := Lib.hid hr4
      have c4 := hr4.cell
      have f4 := hr4.free
      have q4 := hr4.lt
      clear hO4 hg4 hB4 hr4 cR2 qR2
      (with_reducible refine plan_end ?_)
      (try simp only [Act.put, List.setIfInBounds_toArray, List.set_cons_zero, List.set_cons_succ])
      go_wp2_with fail
      refine bodyPost_ret (v := .tuple #[.int .i64 0, .bool false]) (by simp [results, Try.results9, go_sem]; done) rfl ⟨rfl, ?_, ?_⟩
      · rw [HLP2.out]
        have h5 := RefAt.stored HBr4.out rfl rfl qR HO4.out
        rw [List.append_assoc] at h5
        exact h5
      · exact grown_set (grown_of_below (bnext HB.out HB4.out) (some r))
    · obtain rfl : cap = P := by omega
      obtain rfl : n = cap := by omega
      have HS := Lib.hid (show RowAt w1 (some ad) (L.drop (n)) from .inl (List.eq_nil_of_length_eq_zero (by rw [List.length_drop, HNL.out]; omega)))
      have hcn : (some ad) = none → (0 : Nat) = 0 := fun _ => rfl
      go_wp2_with fail
      (refine region_keep (fun b => b < w1.heap.size) 14 [(0, true), (1, true), (2, true), (3, true), (4, true), (7, true), (8, true), (9, true), (10, true), (11, true), (12, true), (5, false), (6, false), (13, false)] (by kernel_rfl) (fun _ _ d _ _ h => by cases d <;> exact h) (by kernel_rfl) ?_; simp only [withOps, List.getElem?_toArray, List.getElem?_cons_zero, List.getElem?_cons_succ, List.drop_succ_cons, List.drop_zero])
      (iterate 11 (refine keep_quiet (v := ?_) rfl ?_ ?_; rotate_left; (focus (intro w' hw'; go_simp; (try with_reducible rfl); done)); try simp only [Act.put, List.setIfInBounds_toArray, List.set_cons_zero, List.set_cons_succ]))
      (with_reducible refine plan_loud (fun K hK => ?_))
      go_simp
      refine hK _ _ ?_ ?_
      · exact (Keep.refl _ _).alloc (fun b hb => show b < w2.heap.size by omega) _
      clear hK K
      (try simp only [Act.put, List.setIfInBounds_toArray, List.set_cons_zero, List.set_cons_succ])
      (with_reducible refine plan_loud (fun K hK => ?_))
      simp only [Region.wanted, if_pos]
      refine wp_append_prs (.tmp 61) (.tmp 65) rfl w1.heap.size v2 n (L.take n) rfl (own_keptN HO2.out fun kk hkk => heap_old (HO2.out.lt kk hkk).2) (some ⟨w2.heap.size, 0, none⟩) 1 1 [(key, val)] rfl (fun h => (by cases h)) rfl (one_rd w2 _ _) (by omega) (by show w1.heap.size ≤ (w2.alloc _).heap.size; rw [World.size_alloc]; omega) ?_
      rintro v3 w3 hO3 hg3 _
      have hB3 : Below w1.heap.size w1 w3 := ((HB2.out.alloc hs2 (.cells #[.int .i64 (key), .int .i64 (val)] 43)).drew).grown hg3 (by show w1.heap.size ≤ (w2.alloc _).heap.size; rw [World.size_alloc]; omega) (fun kk hkk => (HO2.out.lt kk hkk).1)
      refine hK _ _ ?_ ?_
      · exact (Keep.refl _ _).grown hg3 (fun x hx => show x < (w2.alloc _).heap.size by rw [World.size_alloc]; omega) (fun x hx e => by have := (HO2.out.lt x e.symm).1; omega)
      clear hK K
      have HO3 := Lib.hid hO3
      have HB3 := Lib.hid hB3
      have hs3 := hB3.size
      clear hO3 hg3 hB3
      (try simp only [Act.put, List.setIfInBounds_toArray, List.set_cons_zero, List.set_cons_succ])
      (with_reducible refine plan_loud (fun K hK => ?_))
      simp only [Region.wanted, if_pos]
      refine wp_append_prs (.tmp 66) (.tmp 72) rfl w1.heap.size v3 (n + 1) (L.take n ++ [(key, val)]) rfl HO3.out _ _ _ (L.drop (n)) rfl (fun h => by first | (cases h; done) | rfl) (by have h1 : (L.drop (n)).length = L.length - (n) := List.length_drop; have h2 := HNL.out; omega) (HS.out.below HB3.out).rd (by omega) (by omega) ?_
      rintro v4 w4 hO4 hg4 _
      have hB4 : Below w1.heap.size w1 w4 := HB3.out.grown hg4 hs3 (fun kk hkk => (HO3.out.lt kk hkk).1)
      refine hK _ _ ?_ ?_
      · exact (Keep.refl _ _).grown hg4 (fun x hx => by omega) (fun x hx e => by have := (HO3.out.lt x e.symm).1; omega)
      clear hK K
      obtain ⟨a4, e4, rfl⟩ := own_formN hO4
      have HO4 := Lib.hid hO4
      have HB4 := Lib.hid hB4
      have hr4 := HBr.out.below hB4
      have HBr4 := Lib.hid hr4
      have c4 := hr4.cell
      have f4 := hr4.free
      have q4 := hr4.lt
      clear hO4 hg4 hB4 hr4 cR2 qR2
      (with_reducible refine plan_end ?_)
      (try simp only [Act.put, List.setIfInBounds_toArray, List.set_cons_zero, List.set_cons_succ])
      go_wp2_with fail
      refine bodyPost_ret (v := .tuple #[.int .i64 0, .bool false]) (by simp [results, Try.results9, go_sem]; done) rfl ⟨rfl, ?_, ?_⟩
      · rw [HLP2.out]
        have h5 := RefAt.stored HBr4.out rfl rfl qR HO4.out
        rw [List.append_assoc] at h5
        exact h5
      · exact grown_set (grown_of_below (bnext HB.out HB4.out) (some r))
  | some v =>
    obtain ⟨x, hx, hxv, hput⟩ := putL_some (val := val) HGE.out
    have HLP2 : Hid (LP = L.take P ++ ([(x.1, val)] ++ L.drop (P + 1))) := Lib.hid (by rw [← HLP.out, hput, HPE.out]; rfl)
    rw [HPE.out] at hx
    have hPn : P < n := by have h1 := (List.getElem?_eq_some_iff.1 hx).1; have h2 := HNL.out; omega
    obtain ⟨b, off, rfl, hb', hcl⟩ := rd_prs HRow.out.rd (by have := HNL.out; omega)
    obtain ⟨x0', x1'⟩ := hcl _ _ hx
    rw [hxv] at x1'
    have x0 := (HB2.out.cell (p := ⟨b, off + P * 2, none⟩) hb').trans x0'
    have x1 := (HB2.out.cell (p := ⟨b, off + P * 2 + 1, none⟩) hb').trans x1'
    obtain ⟨ad, had⟩ : ∃ ad : Addr, ad = ⟨b, off, none⟩ := ⟨_, rfl⟩
    subst had
    have hwp : IntKind.i64.wrap ((P : Int) + 1) = (P : Int) + 1 := wrap_small (by omega) (by omega)
    have hwn : ((P : Int) + 1).toNat = P + 1 := by omega
    have hw0 : (0 : Int) ≤ (P : Int) + 1 := by omega
    have hw1 : (P : Int) + 1 ≤ n := by omega
    have hw2 : (P : Int) < n := by omega
    have hw3 : (0 : Int) ≤ P := by omega
    clear x0' x1' hcl hx hxv hput
    simp only [Option.isSome_some, Option.getD_some]
    rcases Nat.lt_or_ge (P + 1) cap with hcp | hcp
    · have hcp1 : ¬ cap = P + 1 := by omega
      have hcp2 : ¬ P + 1 = cap := by omega
      have HS := Lib.hid (show RowAt w1 (some ((⟨b, off, none⟩ : Addr).add ((P + 1) * 2))) (L.drop (P + 1)) from by
        rcases HRow.out with h | ⟨b', off', cs, h1, h2, h3⟩
        · exact .inl (by rw [h]; simp)
        · cases h1
          rw [Go.WideShapes.add_plain]
          exact HRow.out.drop (P + 1))
      have hcn : (some ((⟨b, off, none⟩ : Addr).add ((P + 1) * 2))) = none → cap - (P + 1) = 0 := fun h => (by cases h)
      go_wp2_with fail
      (refine region_keep (fun b => b < w1.heap.size) 22 [(0, true), (1, true), (2, true), (3, true), (4, true), (5, true), (6, true), (7, true), (8, true), (9, true), (10, true), (11, true), (14, true), (15, true), (16, true), (17, true), (18, true), (19, true), (20, true), (12, false), (13, false), (21, false)] (by kernel_rfl) (fun _ _ d _ _ h => by cases d <;> exact h) (by kernel_rfl) ?_; simp only [withOps, List.getElem?_toArray, List.getElem?_cons_zero, List.getElem?_cons_succ, List.drop_succ_cons, List.drop_zero])
      (iterate 19 (refine keep_quiet (v := ?_) rfl ?_ ?_; rotate_left; (focus (intro w' hw'; go_simp; (try with_reducible rfl); done)); try simp only [Act.put, List.setIfInBounds_toArray, List.set_cons_zero, List.set_cons_succ]))
      (with_reducible refine plan_loud (fun K hK => ?_))
      go_simp
      refine hK _ _ ?_ ?_
      · exact (Keep.refl _ _).alloc (fun b hb => show b < w2.heap.size by omega) _
      clear hK K
      (try simp only [Act.put, List.setIfInBounds_toArray, List.set_cons_zero, List.set_cons_succ])
      (with_reducible refine plan_loud (fun K hK => ?_))
      simp only [Region.wanted, if_pos]
      refine wp_append_prs (.tmp 36) (.tmp 47) rfl w1.heap.size v2 P (L.take P) rfl (own_keptN HO2.out fun kk hkk => heap_old (HO2.out.lt kk hkk).2) (some ⟨w2.heap.size, 0, none⟩) 1 1 [(x.1, val)] rfl (fun h => (by cases h)) rfl (one_rd w2 _ _) (by omega) (by show w1.heap.size ≤ (w2.alloc _).heap.size; rw [World.size_alloc]; omega) ?_
      rintro v3 w3 hO3 hg3 _
      have hB3 : Below w1.heap.size w1 w3 := ((HB2.out.alloc hs2 (.cells #[.int .i64 (x.1), .int .i64 (val)] 43)).drew).grown hg3 (by show w1.heap.size ≤ (w2.alloc _).heap.size; rw [World.size_alloc]; omega) (fun kk hkk => (HO2.out.lt kk hkk).1)
      refine hK _ _ ?_ ?_
      · exact (Keep.refl _ _).grown hg3 (fun x hx => show x < (w2.alloc _).heap.size by rw [World.size_alloc]; omega) (fun x hx e => by have := (HO2.out.lt x e.symm).1; omega)
      clear hK K
      have HO3 := Lib.hid hO3
      have HB3 := Lib.hid hB3
      have hs3 := hB3.size
      clear hO3 hg3 hB3
      (try simp only [Act.put, List.setIfInBounds_toArray, List.set_cons_zero, List.set_cons_succ])
      (with_reducible refine plan_loud (fun K hK => ?_))
      simp only [Region.wanted, if_pos]
      refine wp_append_prs (.tmp 48) (.tmp 55) rfl w1.heap.size v3 (P + 1) (L.take P ++ [(x.1, val)]) rfl HO3.out _ _ _ (L.drop (P + 1)) rfl (fun h => by first | (cases h; done) | rfl) (by have h1 : (L.drop (P + 1)).length = L.length - (P + 1) := List.length_drop; have h2 := HNL.out; omega) (HS.out.below HB3.out).rd (by omega) (by omega) ?_
      rintro v4 w4 hO4 hg4 _
      have hB4 : Below w1.heap.size w1 w4 := HB3.out.grown hg4 hs3 (fun kk hkk => (HO3.out.lt kk hkk).1)
      refine hK _ _ ?_ ?_
      · exact (Keep.refl _ _).grown hg4 (fun x hx => by omega) (fun x hx e => by have := (HO3.out.lt x e.symm).1; omega)
      clear hK K
      obtain ⟨a4, e4, rfl⟩ := own_formN hO4
      have HO4 := Lib.hid hO4
      have HB4 := Lib.hid hB4
      have hr4 := HBr.out.below hB4
      have HBr4 := Lib.hid hr4
      have c4 := hr4.cell
      have f4 := hr4.free
      have q4 := hr4.lt
      clear hO4 hg4 hB4 hr4 cR2 qR2
      (with_reducible refine plan_end ?_)
      (try simp only [Act.put, List.setIfInBounds_toArray, List.set_cons_zero, List.set_cons_succ])
      go_wp2_with fail
      refine bodyPost_ret (v := .tuple #[.int .i64 v, .bool true]) (by simp [results, Try.results9, go_sem]; done) rfl ⟨rfl, ?_, ?_⟩
      · rw [HLP2.out]
        have h5 := RefAt.stored HBr4.out rfl rfl qR HO4.out
        rw [List.append_assoc] at h5
        exact h5
      · exact grown_set (grown_of_below (bnext HB.out HB4.out) (some r))
    · have hw4 : (P : Int) < (P : Int) + 1 := by omega
      obtain rfl : cap = P + 1 := by omega
      obtain rfl : n = P + 1 := by omega
      have HS := Lib.hid (show RowAt w1 (some (⟨b, off, none⟩ : Addr)) (L.drop (P + 1)) from .inl (List.eq_nil_of_length_eq_zero (by rw [List.length_drop, HNL.out]; omega)))
      have hcn : (some (⟨b, off, none⟩ : Addr)) = none → (0 : Nat) = 0 := fun _ => rfl
      go_wp2_with fail
      (refine region_keep (fun b => b < w1.heap.size) 22 [(0, true), (1, true), (2, true), (3, true), (4, true), (5, true), (6, true), (7, true), (8, true), (9, true), (10, true), (11, true), (14, true), (15, true), (16, true), (17, true), (18, true), (19, true), (20, true), (12, false), (13, false), (21, false)] (by kernel_rfl) (fun _ _ d _ _ h => by cases d <;> exact h) (by kernel_rfl) ?_; simp only [withOps, List.getElem?_toArray, List.getElem?_cons_zero, List.getElem?_cons_succ, List.drop_succ_cons, List.drop_zero])
      (iterate 19 (refine keep_quiet (v := ?_) rfl ?_ ?_; rotate_left; (focus (intro w' hw'; go_simp; (try with_reducible rfl); done)); try simp only [Act.put, List.setIfInBounds_toArray, List.set_cons_zero, List.set_cons_succ]))
      (with_reducible refine plan_loud (fun K hK => ?_))
      go_simp
      refine hK _ _ ?_ ?_
      · exact (Keep.refl _ _).alloc (fun b hb => show b < w2.heap.size by omega) _
      clear hK K
      (try simp only [Act.put, List.setIfInBounds_toArray, List.set_cons_zero, List.set_cons_succ])
      (with_reducible refine plan_loud (fun K hK => ?_))
      simp only [Region.wanted, if_pos]
      refine wp_append_prs (.tmp 36) (.tmp 47) rfl w1.heap.size v2 P (L.take P) rfl (own_keptN HO2.out fun kk hkk => heap_old (HO2.out.lt kk hkk).2) (some ⟨w2.heap.size, 0, none⟩) 1 1 [(x.1, val)] rfl (fun h => (by cases h)) rfl (one_rd w2 _ _) (by omega) (by show w1.heap.size ≤ (w2.alloc _).heap.size; rw [World.size_alloc]; omega) ?_
      rintro v3 w3 hO3 hg3 _
      have hB3 : Below w1.heap.size w1 w3 := ((HB2.out.alloc hs2 (.cells #[.int .i64 (x.1), .int .i64 (val)] 43)).drew).grown hg3 (by show w1.heap.size ≤ (w2.alloc _).heap.size; rw [World.size_alloc]; omega) (fun kk hkk => (HO2.out.lt kk hkk).1)
      refine hK _ _ ?_ ?_
      · exact (Keep.refl _ _).grown hg3 (fun x hx => show x < (w2.alloc _).heap.size by rw [World.size_alloc]; omega) (fun x hx e => by have := (HO2.out.lt x e.symm).1; omega)
      clear hK K
      have HO3 := Lib.hid hO3
      have HB3 := Lib.hid hB3
      have hs3 := hB3.size
      clear hO3 hg3 hB3
      (try simp only [Act.put, List.setIfInBounds_toArray, List.set_cons_zero, List.set_cons_succ])
      (with_reducible refine plan_loud (fun K hK => ?_))
      simp only [Region.wanted, if_pos]
      refine wp_append_prs (.tmp 48) (.tmp 55) rfl w1.heap.size v3 (P + 1) (L.take P ++ [(x.1, val)]) rfl HO3.out _ _ _ (L.drop (P + 1)) rfl (fun h => by first | (cases h; done) | rfl) (by have h1 : (L.drop (P + 1)).length = L.length - (P + 1) := List.length_drop; have h2 := HNL.out; omega) (HS.out.below HB3.out).rd (by omega) (by omega) ?_
      rintro v4 w4 hO4 hg4 _
      have hB4 : Below w1.heap.size w1 w4 := HB3.out.grown hg4 hs3 (fun kk hkk => (HO3.out.lt kk hkk).1)
      refine hK _ _ ?_ ?_
      · exact (Keep.refl _ _).grown hg4 (fun x hx => by omega) (fun x hx e => by have := (HO3.out.lt x e.symm).1; omega)
      clear hK K
      obtain ⟨a4, e4, rfl⟩ := own_formN hO4
      have HO4 := Lib.hid hO4
      have HB4 := Lib.hid hB4
      have hr4 := HBr.out.below hB4
      have HBr4 := Lib.hid hr4
      have c4 := hr4.cell
      have f4 := hr4.free
      have q4 := hr4.lt
      clear hO4 hg4 hB4 hr4 cR2 qR2
      (with_reducible refine plan_end ?_)
      (try simp only [Act.put, List.setIfInBounds_toArray, List.set_cons_zero, List.set_cons_succ])
      go_wp2_with fail
      refine bodyPost_ret (v := .tuple #[.int .i64 v, .bool true]) (by simp [results, Try.results9, go_sem]; done) rfl ⟨rfl, ?_, ?_⟩
      · rw [HLP2.out]
        have h5 := RefAt.stored HBr4.out rfl rfl qR HO4.out
        rw [List.append_assoc] at h5
        exact h5
      · exact grown_set (grown_of_below (bnext HB.out HB4.out) (some r))
end Go.Proofs.Ytchmlephgkimcaa
