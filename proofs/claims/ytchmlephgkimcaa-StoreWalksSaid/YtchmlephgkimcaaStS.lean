/- Store: the document's From and Back. -/
import Derived.Test.YtchmlephgkimcaaStR
import Derived.Test.YtchmlephgkimcaaFork
set_option linter.unusedSimpArgs false
set_option linter.unusedVariables false
namespace Go.Proofs.Ytchmlephgkimcaa
open Go.RowKit Go.Kp Go.St

theorem prs_drop (L : List (Int × Int)) (k : Nat) : prs (L.drop k) = (prs L).drop (k * 2) := by
  induction k generalizing L with
  | zero => simp
  | succ k ih =>
    cases L with
    | nil => simp [prs]
    | cons q L => rw [List.drop_succ_cons, ih L, show (k + 1) * 2 = k * 2 + 1 + 1 by omega]; rfl
theorem RowAt.drop {W : World} {b off : Nat} {L : List (Int × Int)} (h : RowAt W (some ⟨b, off, none⟩) L) (k : Nat) : RowAt W (some ⟨b, off + k * 2, none⟩) (L.drop k) := by
  rcases h with h | ⟨b', off', cs, h1, h2, h3⟩
  · exact .inl (by rw [h]; simp)
  · cases h1
    refine .inr ⟨b, off + k * 2, cs, rfl, h2, fun j u hu => ?_⟩
    rw [prs_drop, List.getElem?_drop] at hu
    rw [Nat.add_assoc]
    exact h3 _ _ hu
/-- Returned: a row of these pairs. -/
def RowR (L : List (Int × Int)) (w : World) (e : Ending) (w' : World) : Prop := ∃ a cap, e = .returned (.slice a L.length cap) ∧ RowAt w' a L ∧ L.length ≤ cap ∧ cap ≤ 9223372036854775807 ∧ (a = none → cap = 0) ∧ Below w.heap.size w w'

set_option maxRecDepth 100000 in
set_option maxHeartbeats 4000000 in
theorem rFrom_any {w : World} {wh : Int} {r : Nat} {L : List (Int × Int)} (hR : RefAt w wh r L) (key : Int) (hn : L.length ≤ 8796093022208) :
    Calls Try.prog 13 #[.pointer (some ⟨r, 0, none⟩), .int .i64 key] w (RowR (L.drop (placeL (cw wh) key L)) w) := by
  have HR := Lib.hid hR
  have HN := Lib.hid hn
  have hP : placeL (cw wh) key L ≤ L.length := placeL_len L
  clear hR hn
  go_enter Try.func13, Try.ntmps13
  go_wp2_with fail
  refine (rPlace_any HR.out key HN.out).mono ?_
  rintro en w1 ⟨rfl, hb⟩
  have HB := Lib.hid hb
  obtain ⟨a, cap, hr, hrow, hc1, hc2, hc3⟩ := HR.out.below hb
  have cR := hr.cell
  have qR := hr.lt
  have HRow := Lib.hid hrow
  generalize hPe : placeL (cw wh) key L = P at *
  generalize (getL (cw wh) key L).isSome = G at *
  have hlim := HN.out
  have hdl : (L.drop P).length = L.length - P := List.length_drop
  generalize hnl : L.length = n at *
  cases a with
  | none =>
    obtain rfl := hc3 rfl
    have hn0 : n = 0 := by omega
    have hP0 : P = 0 := by omega
    subst hn0
    subst hP0
    clear hr hrow hb hc3 hPe hc1
    have hL0 : L = [] := List.eq_nil_of_length_eq_zero hnl
    subst hL0
    clear hdl hnl hP
    go_wp2_with fail
    go_returns
    exact ⟨none, 0, rfl, .inl rfl, Nat.le_refl _, by omega, fun _ => rfl, HB.out⟩
  | some ad =>
    have hform : L = [] ∨ ∃ b off, ad = ⟨b, off, none⟩ := by
      rcases hrow with h | ⟨b, off, cs, h1, _⟩
      · exact .inl h
      · exact .inr ⟨b, off, by injection h1⟩
    have HF := Lib.hid hform
    have HDL := Lib.hid hdl
    clear hr hrow hb hc3 hPe hform hdl hnl
    go_wp2_with fail
    · refine bodyPost_ret (v := .slice (some ad) (n - P) 0) (by simp [results, Try.results13, go_sem]; done) rfl ?_
      have h0 : n - P = 0 := by omega
      refine ⟨some ad, 0, by rw [HDL.out], .inl (List.eq_nil_of_length_eq_zero (by rw [HDL.out]; exact h0)), by rw [HDL.out]; omega, by omega, fun h => (by cases h), HB.out⟩
    · refine bodyPost_ret (v := .slice (some (ad.add (P * 2))) (n - P) (cap - P)) (by simp [results, Try.results13, go_sem]; done) rfl ?_
      refine ⟨_, cap - P, by rw [HDL.out], ?_, by rw [HDL.out]; omega, by omega, fun h => (by cases h), HB.out⟩
      rcases HF.out with h | ⟨b, off, rfl⟩
      · exact .inl (by rw [h]; simp)
      · rw [Go.WideShapes.add_plain]; exact HRow.out.drop P

theorem own_keptN {w w' : World} {base n size : Nat} {e : TypeId} {v : Value} {xs : List Value} (h : w.ownsRow base e size v n xs) (hb : ∀ k, v.ownBlock = some k → w'.heap[k]? = w.heap[k]?) : w'.ownsRow base e size v n xs := by
  refine ⟨h.1, ?_⟩
  rcases h.2 with h0 | ⟨g, cap, cur, h1, h2, h3, h4⟩
  · exact .inl h0
  · exact .inr ⟨g, cap, cur, h1, h2, (hb g (by rw [h1]; rfl)).trans h3, h4⟩
theorem infoPr : (Try.prog.info? 43).map (fun i => (i.zero, i.size, i.bytes)) = some (some (.agg #[.int .i64 0, .int .i64 0]), 2, 16) := by kernel_rfl
theorem prs_one {L : List (Int × Int)} : ∀ u ∈ prs L, u.oneCell' = true := fun u hu => by
  obtain ⟨z, _, hz⟩ := List.mem_flatMap.1 hu
  simp at hz
  rcases hz with h | h <;> subst h <;> rfl
theorem prs_append (L L' : List (Int × Int)) : prs (L ++ L') = prs L ++ prs L' := by unfold prs; rw [List.flatMap_append]
/-- append of pairs that are read, nil or not, to a row that the call owns. -/
theorem wp_append_prs {w : World} {o : Oper} {a : Act} {K : Act → World → Prop} {Q : Exit → Act → World → Prop} (s x : Operand)
    (ho : o.op = .call { callee := .builtin .append, args := #[s, x], argTypes := #[27, 27] })
    (base : Nat) (v : Value) (n : Nat) (l0 : List (Int × Int)) (hs : a.eval s = v) (hown : w.ownsRow base 43 2 v n (prs l0))
    (ad : Option Addr) (m c : Nat) (l : List (Int × Int)) (hx : a.eval x = .slice ad m c) (hn : ad = none → c = 0) (hl : l.length = m) (hr : Rd w w.heap.size ad (prs l))
    (hb : n + m ≤ 8796093022300) (hbase : base ≤ w.heap.size)
    (h : ∀ v' w', w'.ownsRow base 43 2 v' (n + m) (prs (l0 ++ l)) → w.grownBy w' v.ownBlock → (v'.ownBlock = v.ownBlock ∨ v'.ownBlock = some w.heap.size) → K (a.put o.dst v') w') :
    o.wp Try.prog a w K Q := by
  cases ad with
  | none =>
    have h0 : l = [] := by
      rcases hr with hr | ⟨b, off, h, _⟩
      · have := prs_len l
        rw [hr] at this
        exact List.eq_nil_of_length_eq_zero (by simp at this; omega)
      · cases h
    subst h0
    have hc := hn rfl
    subst hc
    simp at hl
    subst hl
    obtain ⟨i0, hi, hz0, hz1, hz2⟩ := info_parts infoPr
    have hrun := run_append_owned_none (P := Try.prog) (w := w) base 27 o.type 43 i0 2 Try.underlying27 hi v n _ hown
    unfold Oper.wp
    simp [execOp, ho, resolve, invoke, builtin, hs, hx, hrun, Result.andThen]
    exact h v w (by simpa using hown) (World.grownBy.refl _ _) (.inl rfl)
  | some ad =>
    refine wp_append_row s x 27 43 _ 2 16 infoPr Try.underlying27 rfl (by omega) ho base v n _ hs hown ad m c (prs l) hx (by rw [prs_len]; omega) (fun j u hu => ?_) prs_one (by unfold maxLen; omega) (by omega) hbase
      (fun v' w' h1 h2 h3 => h v' w' (by rw [prs_append]; exact h1) h2 h3)
    rcases hr with hr | ⟨b, off, h, _, hc⟩
    · rw [hr] at hu; simp at hu
    · cases h
      rw [Go.WideShapes.add_plain]
      exact hc j u hu

theorem append_prs {w : World} {ops : Array Oper} {rest : List Oper} {o : Oper} {a : Act} {Q : Exit → Act → World → Prop} (hgd : o.guard = none) (s x : Operand)
    (ho : o.op = .call { callee := .builtin .append, args := #[s, x], argTypes := #[27, 27] })
    (base : Nat) (v : Value) (n : Nat) (l0 : List (Int × Int)) (hs : a.eval s = v) (hown : w.ownsRow base 43 2 v n (prs l0))
    (ad : Option Addr) (m c : Nat) (l : List (Int × Int)) (hx : a.eval x = .slice ad m c) (hn : ad = none → c = 0) (hl : l.length = m) (hr : Rd w w.heap.size ad (prs l))
    (hb : n + m ≤ 8796093022300) (hbase : base ≤ w.heap.size)
    (h : ∀ v' w', w'.ownsRow base 43 2 v' (n + m) (prs (l0 ++ l)) → w.grownBy w' v.ownBlock → (v'.ownBlock = v.ownBlock ∨ v'.ownBlock = some w.heap.size) → wpList Try.prog ops Q rest (a.put o.dst v') w') :
    wpList Try.prog ops Q (o :: rest) a w :=
  wpList_plain hgd fun K' hK' => wp_append_prs s x ho base v n l0 hs hown ad m c l hx hn hl hr hb hbase fun v' w' h1 h2 h3 => hK' _ _ (h v' w' h1 h2 h3)

set_option maxRecDepth 100000 in
set_option maxHeartbeats 8000000 in
theorem rBack_any {w : World} {wh : Int} {r : Nat} {L : List (Int × Int)} (hR : RefAt w wh r L) (key : Int) (hn : L.length ≤ 8796093022208) :
    Calls Try.prog 14 #[.pointer (some ⟨r, 0, none⟩), .int .i64 key] w (RowR (L.take (placeL (cw wh) key L + if (getL (cw wh) key L).isSome then 1 else 0)).reverse w) := by
  have HR := Lib.hid hR
  have HN := Lib.hid hn
  have hP : placeL (cw wh) key L ≤ L.length := placeL_len L
  have hG : (getL (cw wh) key L).isSome = true → placeL (cw wh) key L < L.length := fun h => by
    have h1 := getL_at (c := cw wh) (key := key) L
    cases hx : L[placeL (cw wh) key L]? with
    | none => rw [hx] at h1; rw [h1] at h; cases h
    | some x => exact (List.getElem?_eq_some_iff.1 hx).1
  have hPG : placeL (cw wh) key L + (if (getL (cw wh) key L).isSome then 1 else 0) ≤ L.length := by
    split
    · rename_i h; have := hG h; omega
    · omega
  obtain ⟨P, hPe⟩ : ∃ P, placeL (cw wh) key L = P := ⟨_, rfl⟩
  obtain ⟨G, hGe⟩ : ∃ G, (getL (cw wh) key L).isSome = G := ⟨_, rfl⟩
  rw [hPe, hGe] at hPG ⊢
  rw [hPe] at hP
  obtain ⟨Z, hZ⟩ : ∃ Z, (P + if G = true then 1 else 0) = Z := ⟨_, rfl⟩
  rw [hZ] at hPG ⊢
  have HPE := Lib.hid hPe
  have HGE := Lib.hid hGe
  clear hR hn hG hPe hGe
  go_enter Try.func14, Try.ntmps14
  go_wp2_with fail
  refine (rPlace_any HR.out key HN.out).mono ?_
  rintro en w1 ⟨rfl, hb⟩
  have HB := Lib.hid hb
  have HR1 := Lib.hid (HR.out.below hb)
  have hlim := HN.out
  rw [HPE.out, HGE.out]
  clear hb
  cases G with
  | true =>
    have hZ1 : Z = P + 1 := by simpa using hZ.symm
    have HZ1 := Lib.hid hZ1
    clear hZ hZ1
    go_wp2_with fail
    go_loopw [5, 7] (fun i o wr => ∃ k : Nat, i = .int .i64 k ∧ k ≤ Z ∧ wr.ownsRow w1.heap.size 43 2 o (Z - k) (prs ((L.take Z).drop k).reverse) ∧ Below w1.heap.size w1 wr) (fun i _ _ => (intOf i).toNat)
    case atStart => exact ⟨Z, by rw [HZ1.out]; rfl, Nat.le_refl _, by rw [List.drop_eq_nil_of_le (by simp; omega), Nat.sub_self]; exact World.ownsRow_nil _ _ _ _, by go_grown⟩
    case round =>
      obtain ⟨k, rfl, hkZ, hown, hB⟩ := hrel
      have HO := Lib.hid hown
      have HB2 := Lib.hid hB
      rcases Nat.eq_zero_or_pos k with hk0 | hk0
      · subst hk0
        obtain ⟨ao, co, rfl, h1, h2, h3, h4⟩ := RowAt.of_own hown
        have HX := Lib.hid (show ((L.take Z).drop 0).reverse = (L.take Z).reverse by rw [List.drop_zero])
        have hB3 : Hid (Below w.heap.size w wr) := Lib.hid (bnext HB.out hB)
        clear hown hB
        go_wp2_with fail
        refine bodyPost_ret (v := .slice ao ((L.take Z).drop 0).reverse.length co) (by simp [results, Try.results14, go_sem]) rfl ?_
        rw [HX.out] at h1 h2 ⊢
        exact ⟨ao, co, rfl, h1, h2, h3, h4, hB3.out⟩
      · obtain ⟨a, cap, hr, hrow, hc1, hc2, hc3⟩ := HR1.out.below hB
        obtain ⟨j, rfl⟩ : ∃ j, k = j + 1 := ⟨k - 1, by omega⟩
        have hjL : j < L.length := by omega
        obtain ⟨x, hx⟩ : ∃ x, L[j]? = some x := ⟨_, List.getElem?_eq_getElem hjL⟩
        obtain ⟨b, off, rfl, hb', hcl⟩ := rd_prs hrow.rd (by omega)
        obtain ⟨x0, x1⟩ := hcl _ _ hx
        have HST := Lib.hid (show ((L.take Z).drop j).reverse = ((L.take Z).drop (j + 1)).reverse ++ [x] by
          have h1 : (L.take Z)[j]? = some x := by rw [List.getElem?_take, if_pos (by omega)]; exact hx
          have h2 := List.getElem?_eq_some_iff.1 h1
          rw [List.drop_eq_getElem_cons h2.1, h2.2, List.reverse_cons])
        have cR := hr.cell
        have qR := hr.lt
        have hj1 : ¬ ((j : Int) + 1 ≤ 0) := by omega
        have HLen := Lib.hid (show L.length = L.length from rfl)
        generalize L.length = n at hr hc1 hjL hlim hPG hP cR HN
        clear hr hrow hc3 hcl hx hown hB
        go_upto_region 7 with (fail)
        apply wp_region_lit
        iterate 9 (go_step; go_step; rename_i KK hKK; (with_reducible refine hKK _ _ ?_); clear hKK KK)
        have hB1 := HB2.out.size
        have hown' : (wr.alloc (.cells #[.int .i64 x.1, .int .i64 x.2] 43)).ownsRow w1.heap.size 43 2 u7 (Z - (j + 1)) (prs ((L.take Z).drop (j + 1)).reverse) := own_keptN HO.out fun kk hkk => heap_old (HO.out.lt kk hkk).2
        have hcl' : Rd (wr.alloc (.cells #[.int .i64 x.1, .int .i64 x.2] 43)) (wr.alloc (.cells #[.int .i64 x.1, .int .i64 x.2] 43)).heap.size (some ⟨wr.heap.size, 0, none⟩) (prs [x]) := (RowAt.rd (.inr ⟨wr.heap.size, 0, #[.int .i64 x.1, .int .i64 x.2], rfl, heap_at rfl, fun i u hu => by rw [Nat.zero_add]; simpa [prs] using hu⟩))
        (with_reducible refine append_prs rfl (.tmp 21) (.tmp 29) rfl w1.heap.size u7 (Z - (j + 1)) ((L.take Z).drop (j + 1)).reverse rfl hown' (some ⟨wr.heap.size, 0, none⟩) 1 1 [x] rfl (fun h => (by cases h)) rfl hcl' (by omega) (by rw [World.size_alloc]; omega) ?_)
        rintro v' w4 hOw hgr hob
        rw [show Z - (j + 1) + 1 = Z - j by omega, ← HST.out] at hOw
        have HOw := Lib.hid hOw
        have HB4 := Lib.hid ((HB2.out.trans ((Below.refl _ _).alloc hB1 _)).grown hgr (by rw [World.size_alloc]; omega) (fun kk hkk => (HO.out.lt kk hkk).1))
        clear hOw hgr hob hown' hcl'
        go_wp2_with fail
        go_roundw
        case rel => exact ⟨j, rfl, by omega, HOw.out, HB4.out⟩
        case measure => simp only [intOf]; omega
  | false =>
    have hZ1 : Z = P := by simpa using hZ.symm
    have HZ1 := Lib.hid hZ1
    clear hZ hZ1
    go_wp2_with fail
    go_loopw [5, 7] (fun i o wr => ∃ k : Nat, i = .int .i64 k ∧ k ≤ Z ∧ wr.ownsRow w1.heap.size 43 2 o (Z - k) (prs ((L.take Z).drop k).reverse) ∧ Below w1.heap.size w1 wr) (fun i _ _ => (intOf i).toNat)
    case atStart => exact ⟨Z, by rw [HZ1.out], Nat.le_refl _, by rw [List.drop_eq_nil_of_le (by simp; omega), Nat.sub_self]; exact World.ownsRow_nil _ _ _ _, by go_grown⟩
    case round =>
      obtain ⟨k, rfl, hkZ, hown, hB⟩ := hrel
      have HO := Lib.hid hown
      have HB2 := Lib.hid hB
      rcases Nat.eq_zero_or_pos k with hk0 | hk0
      · subst hk0
        obtain ⟨ao, co, rfl, h1, h2, h3, h4⟩ := RowAt.of_own hown
        have HX := Lib.hid (show ((L.take Z).drop 0).reverse = (L.take Z).reverse by rw [List.drop_zero])
        have hB3 : Hid (Below w.heap.size w wr) := Lib.hid (bnext HB.out hB)
        clear hown hB
        go_wp2_with fail
        refine bodyPost_ret (v := .slice ao ((L.take Z).drop 0).reverse.length co) (by simp [results, Try.results14, go_sem]) rfl ?_
        rw [HX.out] at h1 h2 ⊢
        exact ⟨ao, co, rfl, h1, h2, h3, h4, hB3.out⟩
      · obtain ⟨a, cap, hr, hrow, hc1, hc2, hc3⟩ := HR1.out.below hB
        obtain ⟨j, rfl⟩ : ∃ j, k = j + 1 := ⟨k - 1, by omega⟩
        have hjL : j < L.length := by omega
        obtain ⟨x, hx⟩ : ∃ x, L[j]? = some x := ⟨_, List.getElem?_eq_getElem hjL⟩
        obtain ⟨b, off, rfl, hb', hcl⟩ := rd_prs hrow.rd (by omega)
        obtain ⟨x0, x1⟩ := hcl _ _ hx
        have HST := Lib.hid (show ((L.take Z).drop j).reverse = ((L.take Z).drop (j + 1)).reverse ++ [x] by
          have h1 : (L.take Z)[j]? = some x := by rw [List.getElem?_take, if_pos (by omega)]; exact hx
          have h2 := List.getElem?_eq_some_iff.1 h1
          rw [List.drop_eq_getElem_cons h2.1, h2.2, List.reverse_cons])
        have cR := hr.cell
        have qR := hr.lt
        have hj1 : ¬ ((j : Int) + 1 ≤ 0) := by omega
        have HLen := Lib.hid (show L.length = L.length from rfl)
        generalize L.length = n at hr hc1 hjL hlim hPG hP cR HN
        clear hr hrow hc3 hcl hx hown hB
        go_upto_region 7 with (fail)
        apply wp_region_lit
        iterate 9 (go_step; go_step; rename_i KK hKK; (with_reducible refine hKK _ _ ?_); clear hKK KK)
        have hB1 := HB2.out.size
        have hown' : (wr.alloc (.cells #[.int .i64 x.1, .int .i64 x.2] 43)).ownsRow w1.heap.size 43 2 u7 (Z - (j + 1)) (prs ((L.take Z).drop (j + 1)).reverse) := own_keptN HO.out fun kk hkk => heap_old (HO.out.lt kk hkk).2
        have hcl' : Rd (wr.alloc (.cells #[.int .i64 x.1, .int .i64 x.2] 43)) (wr.alloc (.cells #[.int .i64 x.1, .int .i64 x.2] 43)).heap.size (some ⟨wr.heap.size, 0, none⟩) (prs [x]) := (RowAt.rd (.inr ⟨wr.heap.size, 0, #[.int .i64 x.1, .int .i64 x.2], rfl, heap_at rfl, fun i u hu => by rw [Nat.zero_add]; simpa [prs] using hu⟩))
        (with_reducible refine append_prs rfl (.tmp 21) (.tmp 29) rfl w1.heap.size u7 (Z - (j + 1)) ((L.take Z).drop (j + 1)).reverse rfl hown' (some ⟨wr.heap.size, 0, none⟩) 1 1 [x] rfl (fun h => (by cases h)) rfl hcl' (by omega) (by rw [World.size_alloc]; omega) ?_)
        rintro v' w4 hOw hgr hob
        rw [show Z - (j + 1) + 1 = Z - j by omega, ← HST.out] at hOw
        have HOw := Lib.hid hOw
        have HB4 := Lib.hid ((HB2.out.trans ((Below.refl _ _).alloc hB1 _)).grown hgr (by rw [World.size_alloc]; omega) (fun kk hkk => (HO.out.lt kk hkk).1))
        clear hOw hgr hob hown' hcl'
        go_wp2_with fail
        go_roundw
        case rel => exact ⟨j, rfl, by omega, HOw.out, HB4.out⟩
        case measure => simp only [intOf]; omega
end Go.Proofs.Ytchmlephgkimcaa
