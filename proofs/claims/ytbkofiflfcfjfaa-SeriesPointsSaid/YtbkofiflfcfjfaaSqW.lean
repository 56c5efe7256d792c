/- Panes by windows: the document's Last, walked. -/
import Derived.Test.YtbkofiflfcfjfaaSqV
set_option linter.unusedSimpArgs false
set_option linter.unusedVariables false
namespace Go.Proofs.Ytbkofiflfcfjfaa.Px
open Go.RowKit Go.Kp Go.St Go.Ser

/-- append of things that are read, nil or not, to a row that the call owns. -/
theorem append_rd {P : Program} {w : World} {ops : Array Oper} {rest : List Oper} {o : Oper} {a : Act} {Q : Exit → Act → World → Prop} (hgd : o.guard = none) (s x : Operand) (t e : TypeId) (zz : Value) (size bytes : Nat)
    (hinfo : (P.info? e).map (fun i => (i.zero, i.size, i.bytes)) = some (some zz, size, bytes)) (ht : P.underlying t = some (.slice e)) (hzs : zz.cells.size = size) (hsz : 0 < size)
    (ho : o.op = .call { callee := .builtin .append, args := #[s, x], argTypes := #[t, t] })
    (base : Nat) (v : Value) (n : Nat) (xs : List Value) (hs : a.eval s = v) (hown : w.ownsRow base e size v n xs)
    (ad : Option Addr) (m c : Nat) (news : List Value) (hx : a.eval x = .slice ad m c) (hn : ad = none → c = 0) (hl : news.length = m * size) (hr : Rd w w.heap.size ad news) (h1 : ∀ u ∈ news, u.oneCell' = true)
    (h63 : n + m ≤ maxLen) (hbytes : (5 * (n + m) + 2048) * bytes ≤ 1125899906842624) (hbase : base ≤ w.heap.size)
    (h : ∀ v' w', w'.ownsRow base e size v' (n + m) (xs ++ news) → w.grownBy w' v.ownBlock → (v'.ownBlock = v.ownBlock ∨ v'.ownBlock = some w.heap.size) → wpList P ops Q rest (a.put o.dst v') w') :
    wpList P ops Q (o :: rest) a w := by
  cases ad with
  | none =>
    have hc := hn rfl
    subst hc
    have h0 : news = [] := by
      rcases hr with hr | ⟨b, off, h, _⟩
      · exact hr
      · cases h
    subst h0
    have hm : m = 0 := by
      rcases Nat.eq_zero_or_pos m with h | h
      · exact h
      · have := Nat.mul_pos h hsz
        simp at hl; omega
    subst hm
    obtain ⟨i0, hi, hz0, hz1, hz2⟩ := info_parts hinfo
    refine wpList_append_own_none hgd s x t ho base e i0 size ht hi v n _ hs hown hx ?_
    exact h v w (by simpa using hown) (World.grownBy.refl _ _) (.inl rfl)
  | some ad =>
    refine append_row hgd s x t e zz size bytes hinfo ht hzs hsz ho base v n xs hs hown ad m c news hx hl (fun j u hu => ?_) h1 h63 hbytes hbase h
    rcases hr with hr | ⟨b, off, h, _, hc⟩
    · rw [hr] at hu; simp at hu
    · cases h
      rw [Go.WideShapes.add_plain]
      exact hc j u hu


theorem later_snoc {x y : Pn} {l : List Pn} : laterB x (l ++ [y]) = (laterB x l || sameAt y x) := by
  unfold laterB; rw [List.any_append]; simp
theorem mid_snoc {L : List Pn} {i k : Nat} {y : Pn} (hy : L[k]? = some y) (hik : i + 1 ≤ k) : (L.take (k + 1)).drop (i + 1) = (L.take k).drop (i + 1) ++ [y] := by
  have hk := (List.getElem?_eq_some_iff.1 hy).1
  rw [take_one hy, List.drop_append_of_le_length (by rw [List.length_take]; omega)]
theorem refGo_cons {out : List Pn} {x : Pn} {l : List Pn} : refGo out (x :: l) = refGo (if laterB x l then out else insL x out) l := rfl
theorem Rd.takeP {w : World} {B : Nat} {a : Option Addr} {l : List Pn} (h : Rd w B a (l.flatMap Pn.cl)) (k : Nat) : Rd w B a ((l.take k).flatMap Pn.cl) := by
  rcases h with h | ⟨b, off, h1, h2, h3⟩
  · left
    have : l = [] := by
      cases l with
      | nil => rfl
      | cons x l => simp at h
    rw [this]; simp
  · refine .inr ⟨b, off, h1, h2, fun j u hu => h3 j u ?_⟩
    have e : l.flatMap Pn.cl = (l.take k).flatMap Pn.cl ++ (l.drop k).flatMap Pn.cl := by rw [← List.flatMap_append, List.take_append_drop]
    rw [e, List.getElem?_append_left (List.getElem?_eq_some_iff.1 hu).1]
    exact hu
theorem Rd.dropP {w : World} {B b off : Nat} {l : List Pn} (h : Rd w B (some ⟨b, off, none⟩) (l.flatMap Pn.cl)) (k : Nat) (hk : k ≤ l.length) : Rd w B (some ⟨b, off + k * 9, none⟩) ((l.drop k).flatMap Pn.cl) := by
  rcases h with h | ⟨b1, off1, h1, h2, h3⟩
  · left
    have : l = [] := by
      cases l with
      | nil => rfl
      | cons x l => simp at h
    rw [this]; simp
  · cases h1
    refine .inr ⟨b, off + k * 9, rfl, h2, fun j u hu => ?_⟩
    have e : l.flatMap Pn.cl = (l.take k).flatMap Pn.cl ++ (l.drop k).flatMap Pn.cl := by rw [← List.flatMap_append, List.take_append_drop]
    have hlen : ((l.take k).flatMap Pn.cl).length = k * 9 := by rw [flat_length Pn.cl 9 Pn.cl_len, List.length_take, Nat.min_eq_left hk]
    have := h3 (k * 9 + j) u (by rw [e, List.getElem?_append_right (by omega), hlen, Nat.add_sub_cancel_left]; exact hu)
    rw [← Nat.add_assoc] at this
    exact this
theorem drop_none {l : List Pn} {k : Nat} (h : l.length ≤ k) : (l.drop k).flatMap Pn.cl = [] := by rw [List.drop_of_length_le h]; rfl
/-- The document's list so far. -/
structure Rl (w wr : World) (L : List Pn) (i : Nat) (vo : Value) (out : List Pn) : Prop where
  go : refGo out (L.drop i) = refGo [] L
  len : out.length ≤ i
  own : wr.ownsRow w.heap.size 92 9 vo out.length (out.flatMap Pn.cl)
  bel : Below w.heap.size w wr
theorem Rl.below {w wr w' : World} {L : List Pn} {i : Nat} {vo : Value} {out : List Pn} (h : Rl w wr L i vo out) (hb : Below wr.heap.size wr w') : Rl w w' L i vo out :=
  ⟨h.go, h.len, owns_keep h.own (fun q _ hq => hb.block q hq), h.bel.trans (hb.mono h.bel.size)⟩

set_option maxRecDepth 100000 in
set_option maxHeartbeats 16000000 in
theorem refLast_any (a : Option Addr) (n cap : Nat) (L : List Pn) (w : World) (hl : L.length = n) (hn : n ≤ 200) (hr : Rd w w.heap.size a (L.flatMap Pn.cl)) :
    Calls Try.prog 47 #[.slice a n cap] w fun e w' => ∃ v, e = .returned v ∧ w'.ownsRow w.heap.size 92 9 v (refGo [] L).length ((refGo [] L).flatMap Pn.cl) ∧ Below w.heap.size w w' := by
  have HL := Lib.hid hl
  have HR := Lib.hid hr
  clear hl hr
  go_enter Try.func47, Try.ntmps47
  go_wp2_with fail
  go_loopw [3, 4, 5, 6, 7, 8] (fun vo vi _ _ _ _ wr => ∃ (i : Nat) (out : List Pn), vi = .int .i64 i ∧ i ≤ n ∧ Rl w wr L i vo out) (fun _ vi _ _ _ _ _ => n - (intOf vi).toNat)
  case atStart => exact ⟨0, [], rfl, Nat.zero_le _, rfl, Nat.zero_le _, World.ownsRow_nil _ _ _ _, by go_grown⟩
  case round =>
    rename World => wr
    obtain ⟨i, out, rfl, hi, hRl⟩ := hrel
    have HRl := Lib.hid hRl
    clear hRl
    have hsz := HRl.out.bel.size
    have hlen := HRl.out.len
    rcases Nat.lt_or_ge i n with hlt | hge
    · obtain ⟨x, hx⟩ : ∃ x, L[i]? = some x := ⟨_, List.getElem?_eq_getElem (by rw [HL.out]; exact hlt)⟩
      have HX := Lib.hid hx
      have HDR := Lib.hid (show L.drop i = x :: L.drop (i + 1) by
        obtain ⟨h1, h2⟩ := List.getElem?_eq_some_iff.1 hx
        rw [← h2]; exact List.drop_eq_getElem_cons h1)
      rcases HR.out with hr | ⟨b, off, rfl, hbl, hcc⟩
      · have h := flat_length Pn.cl 9 Pn.cl_len L
        rw [hr, HL.out] at h
        simp at h
        omega
      have HE := Lib.hid (show ∀ wz, Below w.heap.size w wz → ∀ (k : Nat) y, L[k]? = some y → ∀ j, j < 9 → wz.cell? ⟨b, off + (k * 9 + j), none⟩ = y.cl[j]? from fun wz hz k y hy j hj => (hz.cell (p := ⟨b, off + (k * 9 + j), none⟩) hbl).trans (pn_at hcc k y hy j hj))
      have hbw : b < wr.heap.size := by omega
      clear hcc hx
      have kin : (i : Int) < (n : Int) := by omega
      go_wp2_with fail
      go_loopw [5, 6] (fun vl vk wq => ∃ (k : Nat), vk = .int .i64 k ∧ i + 1 ≤ k ∧ k ≤ n ∧ vl = .bool (laterB x ((L.take k).drop (i + 1))) ∧ Below wr.heap.size wr wq) (fun _ vk _ => n - (intOf vk).toNat)
      case atStart => exact ⟨i + 1, by go_num, Nat.le_refl _, hlt, by rw [List.drop_of_length_le (by rw [List.length_take]; omega)]; rfl, by go_grown⟩
      case round =>
        rename World => wq
        obtain ⟨k, rfl, hk1, hk2, rfl, hQ⟩ := hrel
        have HQ := Lib.hid hQ
        have hsq := hQ.size
        clear hQ
        generalize hlb : laterB x ((L.take k).drop (i + 1)) = lb
        have HLB := Lib.hid hlb
        clear hlb
        have hbq : b < wq.heap.size := by omega
        rcases Nat.lt_or_ge k n with hklt | hkge
        · obtain ⟨y, hy⟩ : ∃ y, L[k]? = some y := ⟨_, List.getElem?_eq_getElem (by rw [HL.out]; exact hklt)⟩
          have HY := Lib.hid hy
          have hWq : Below w.heap.size w wq := HRl.out.bel.trans (HQ.out.mono hsz)
          have ex := HE.out wq hWq i x HX.out
          have ey := HE.out wq hWq k y hy
          clear hy
          have x0 := ex 0 (by omega)
          have x1 := ex 1 (by omega)
          have x2 := ex 2 (by omega)
          have y0 := ey 0 (by omega)
          have y1 := ey 1 (by omega)
          have y2 := ey 2 (by omega)
          clear ex ey hWq
          simp only [← Nat.add_assoc, Nat.add_zero, List.getElem?_cons_zero, List.getElem?_cons_succ] at x0 x1 x2
          simp only [← Nat.add_assoc, Nat.add_zero, List.getElem?_cons_zero, List.getElem?_cons_succ] at y0 y1 y2
          have qin : (k : Int) < (n : Int) := by omega
          go_wp2_with fail
          (refine region_keep (fun _ => True) 24 [(0, true), (1, true), (2, true), (3, true), (4, true), (5, true), (6, true), (7, true), (8, true), (9, true), (10, true), (11, true), (12, true), (13, true), (14, true), (15, true), (16, true), (17, true), (18, true), (19, true), (20, true), (21, true), (22, true), (23, true)] (by kernel_rfl) (fun _ _ d _ _ h => by cases d <;> exact h) (by kernel_rfl) ?_; simp only [withOps, List.getElem?_toArray, List.getElem?_cons_zero, List.getElem?_cons_succ, List.drop_succ_cons, List.drop_zero])
          (iterate 2 (refine keep_quiet (v := ?_) rfl ?_ ?_; rotate_left; (focus (intro w' hw'; go_simp; (try with_reducible rfl); done)); try simp only [Act.put, List.setIfInBounds_toArray, List.set_cons_zero, List.set_cons_succ]))
          cases lb
          · rcases Decidable.em (y.key = x.key) with e | e
            · have hy2 : (y.key.toList == x.key.toList) = true := by rw [e]; simp
              have HEK := Lib.hid e
              clear e
              (iterate 12 (refine keep_quiet (v := ?_) rfl ?_ ?_; rotate_left; (focus (intro w' hw'; go_simp; (try with_reducible rfl); done)); try simp only [Act.put, List.setIfInBounds_toArray, List.set_cons_zero, List.set_cons_succ]))
              (iterate 10 (refine keep_quiet (v := ?_) rfl ?_ ?_; rotate_left; (focus (intro w' hw'; go_simp; (try with_reducible rfl); done)); try simp only [Act.put, List.setIfInBounds_toArray, List.set_cons_zero, List.set_cons_succ]))
              (with_reducible refine plan_end ?_)
              (try simp only [Act.put, List.setIfInBounds_toArray, List.set_cons_zero, List.set_cons_succ])
              rcases Decidable.em (y.s = x.s) with es | es
              · rcases Decidable.em (y.e = x.e) with ee | ee
                · have HS := Lib.hid (show sameAt y x = true from sameAt_iff.2 (by show At.mk y.key y.s y.e = At.mk x.key x.s x.e; rw [HEK.out, es, ee]))
                  go_wp2_with fail
                  go_roundw
                  case rel => exact ⟨k + 1, by go_num, by omega, by omega, by rw [mid_snoc HY.out hk1, later_snoc, HLB.out, HS.out]; rfl, by have h := HQ.out; go_grown⟩
                  case measure => simp [intOf]; omega
                · have HS := Lib.hid (show sameAt y x = false by unfold sameAt; simp [ee])
                  have ee2 : (y.e == x.e) = false := by simpa using ee
                  go_wp2_with fail
                  go_roundw
                  case rel => exact ⟨k + 1, by go_num, by omega, by omega, by rw [mid_snoc HY.out hk1, later_snoc, HLB.out, HS.out]; rfl, by have h := HQ.out; go_grown⟩
                  case measure => simp [intOf]; omega
              · have HS := Lib.hid (show sameAt y x = false by unfold sameAt; simp [es])
                have es2 : (y.s == x.s) = false := by simpa using es
                go_wp2_with fail
                go_roundw
                case rel => exact ⟨k + 1, by go_num, by omega, by omega, by rw [mid_snoc HY.out hk1, later_snoc, HLB.out, HS.out]; rfl, by have h := HQ.out; go_grown⟩
                case measure => simp [intOf]; omega
            · have hy2 : (y.key.toList == x.key.toList) = false := by
                simp only [beq_eq_false_iff_ne]
                exact fun h => e (Tm.toList_inj h)
              have HS := Lib.hid (show sameAt y x = false by unfold sameAt; simp [e])
              clear e
              (iterate 12 (refine keep_quiet (v := ?_) rfl ?_ ?_; rotate_left; (focus (intro w' hw'; go_simp; (try with_reducible rfl); done)); try simp only [Act.put, List.setIfInBounds_toArray, List.set_cons_zero, List.set_cons_succ]))
              (iterate 10 ((with_reducible refine plan_skip ?_ ?_); (focus rfl); try simp only [Act.put, List.setIfInBounds_toArray, List.set_cons_zero, List.set_cons_succ]))
              (with_reducible refine plan_end ?_)
              (try simp only [Act.put, List.setIfInBounds_toArray, List.set_cons_zero, List.set_cons_succ])
              go_wp2_with fail
              go_roundw
              case rel => exact ⟨k + 1, by go_num, by omega, by omega, by rw [mid_snoc HY.out hk1, later_snoc, HLB.out, HS.out]; rfl, by have h := HQ.out; go_grown⟩
              case measure => simp [intOf]; omega
          · (iterate 22 ((with_reducible refine plan_skip ?_ ?_); (focus rfl); try simp only [Act.put, List.setIfInBounds_toArray, List.set_cons_zero, List.set_cons_succ]))
            (with_reducible refine plan_end ?_)
            (try simp only [Act.put, List.setIfInBounds_toArray, List.set_cons_zero, List.set_cons_succ])
            go_wp2_with fail
            go_roundw
            case rel => exact ⟨k + 1, by go_num, by omega, by omega, by rw [mid_snoc HY.out hk1, later_snoc, HLB.out]; rfl, by have h := HQ.out; go_grown⟩
            case measure => simp [intOf]; omega
        · obtain rfl : k = n := by omega
          have hTk : (L.take k).drop (i + 1) = L.drop (i + 1) := by rw [List.take_of_length_le (by rw [HL.out]; exact Nat.le_refl _)]
          have HLB2 := Lib.hid (show laterB x (L.drop (i + 1)) = lb by have h := HLB.out; rwa [hTk] at h)
          clear hTk HLB
          have qin : ¬ (k : Int) < (k : Int) := by omega
          have HRq := Lib.hid (HRl.out.below HQ.out)
          clear HRl HQ
          cases lb
          · have HGO := Lib.hid (show refGo (insL x out) (L.drop (i + 1)) = refGo [] L by
              have h := HRq.out.go
              rw [HDR.out, refGo_cons] at h
              rw [HLB2.out, if_neg (by simp)] at h
              exact h)
            go_wp2_with fail
            have hol := HRq.out.len
            obtain ⟨m, hm⟩ : ∃ m, out.length = m := ⟨_, rfl⟩
            have HMo := Lib.hid hm
            have hown := HRq.out.own
            rw [hm] at hown hol
            obtain ⟨a3, c3, rfl, hr3⟩ := rd9 hown
            have HOW := Lib.hid hown
            have HR3 := Lib.hid hr3
            clear hown hr3 hm hsq
            have hsq := HRq.out.bel.size
            go_loopw [7] (fun vk wz => ∃ (j : Nat), vk = .int .i64 j ∧ j ≤ m ∧ (∀ q (hq : q < out.length), q < j → cA (out[q]).at x.at < 0) ∧ Below wq.heap.size wq wz) (fun vk _ => m - (intOf vk).toNat)
            case atStart => exact ⟨0, rfl, Nat.zero_le _, fun q _ h => by omega, by go_grown⟩
            case round =>
              rename World => wz
              obtain ⟨j, rfl, hj, hlow, hZ⟩ := hrel
              have HLOW := Lib.hid hlow
              have HZ := Lib.hid hZ
              have hsz2 := hZ.size
              have hbz : b < wz.heap.size := by omega
              have hWz := HRq.out.bel.trans (hZ.mono hsq)
              have ex := HE.out wz hWz i x HX.out
              have x0 := ex 0 (by omega)
              have x1 := ex 1 (by omega)
              have x2 := ex 2 (by omega)
              have x3 := ex 3 (by omega)
              have x4 := ex 4 (by omega)
              have x5 := ex 5 (by omega)
              have x6 := ex 6 (by omega)
              have x7 := ex 7 (by omega)
              have x8 := ex 8 (by omega)
              clear hlow hZ ex hWz
              simp only [← Nat.add_assoc, Nat.add_zero, List.getElem?_cons_zero, List.getElem?_cons_succ] at x0 x1 x2 x3 x4 x5 x6 x7 x8
              rcases Nat.lt_or_ge j m with hjm | hjm
              · obtain ⟨p, hp⟩ : ∃ p, out[j]? = some p := ⟨_, List.getElem?_eq_getElem (by rw [HMo.out]; exact hjm)⟩
                have HP := Lib.hid hp
                rcases HR3.out with hr | ⟨b3, off3, rfl, hb3, hc3⟩
                · have h := flat_length Pn.cl 9 Pn.cl_len out
                  rw [hr, HMo.out] at h
                  simp at h
                  omega
                have ep := fun jj hjj => (HZ.out.cell (p := ⟨b3, off3 + (j * 9 + jj), none⟩) hb3).trans (pn_at hc3 j p hp jj hjj)
                have hb3z : b3 < wz.heap.size := by omega
                have p0 := ep 0 (by omega)
                have p1 := ep 1 (by omega)
                have p2 := ep 2 (by omega)
                clear ep hp hc3
                simp only [← Nat.add_assoc, Nat.add_zero, List.getElem?_cons_zero, List.getElem?_cons_succ] at p0 p1 p2
                have jin : (j : Int) < (m : Int) := by omega
                have hd : decide (j < m) = true := decide_eq_true hjm
                go_wp2_with fail
                (refine region_keep (fun _ => True) 27 [(0, true), (1, true), (2, true), (3, true), (4, true), (5, true), (6, true), (7, true), (8, true), (9, true), (10, true), (11, true), (12, true), (13, true), (14, true), (15, true), (16, true), (17, true), (18, true), (19, true), (20, true), (21, true), (22, true), (23, true), (24, true), (25, true), (26, true)] (by kernel_rfl) (fun _ _ d _ _ h => by cases d <;> exact h) (by kernel_rfl) ?_; simp only [withOps, List.getElem?_toArray, List.getElem?_cons_zero, List.getElem?_cons_succ, List.drop_succ_cons, List.drop_zero])
                (iterate 4 (refine keep_quiet (v := ?_) rfl ?_ ?_; rotate_left; (focus (intro w' hw'; go_simp; (try with_reducible rfl); done)); try simp only [Act.put, List.setIfInBounds_toArray, List.set_cons_zero, List.set_cons_succ]))
                (try simp only [hd])
                (iterate 23 (refine keep_quiet (v := ?_) rfl ?_ ?_; rotate_left; (focus (intro w' hw'; go_simp; (try with_reducible rfl); done)); try simp only [Act.put, List.setIfInBounds_toArray, List.set_cons_zero, List.set_cons_succ]))
                (with_reducible refine plan_end ?_)
                (try simp only [Act.put, List.setIfInBounds_toArray, List.set_cons_zero, List.set_cons_succ])
                go_wp2_with fail
                refine (refCompare_any p.at x.at _).mono ?_
                rintro en w4 ⟨rfl, hb4⟩
                have HZ4 := Lib.hid (show Below wq.heap.size wq w4 from by have h := HZ.out; exact bnext (by go_grown) hb4)
                have HPX := Lib.hid (show ∀ (hq : j < out.length), out[j] = p from fun hq => by
                  have h := HP.out
                  rw [List.getElem?_eq_getElem hq] at h
                  injection h)
                have s4 := HZ4.out.size
                have hb4z : b < w4.heap.size := by omega
                clear hb4 x0 x1 x2 x3 x4 x5 x6 x7 x8 p0 p1 p2
                generalize hX : cA p.at x.at = X
                have HXX := Lib.hid hX
                clear hX
                rcases Int.lt_or_le X 0 with hc | hc
                · go_wp2_with fail
                  go_roundw
                  case rel =>
                    refine ⟨j + 1, by go_num, by omega, fun q hq hqj => ?_, HZ4.out⟩
                    rcases Nat.lt_or_ge q j with h | h
                    · exact HLOW.out q hq h
                    · obtain rfl : q = j := by omega
                      rw [HPX.out hq, HXX.out]; exact hc
                  case measure => simp [intOf]; omega
                · have hcn : ¬ X < 0 := by omega
                  have HIN := Lib.hid (insL_at x out j (by rw [HMo.out]; exact hj) HLOW.out (fun h => by rw [HPX.out h, HXX.out]; exact hcn))
                  obtain ⟨rfl, hmc⟩ : off3 = 0 ∧ m ≤ c3 := by
                    rcases HOW.out.2 with ⟨h1, h0⟩ | ⟨g1, c1, cur1, h1, _, _, h4, _⟩
                    · cases h1
                    · cases h1; exact ⟨rfl, h4⟩
                  have ex := HE.out w4 (HRq.out.bel.trans (HZ4.out.mono hsq)) i x HX.out
                  have x0 := ex 0 (by omega)
                  have x1 := ex 1 (by omega)
                  have x2 := ex 2 (by omega)
                  have x3 := ex 3 (by omega)
                  have x4 := ex 4 (by omega)
                  have x5 := ex 5 (by omega)
                  have x6 := ex 6 (by omega)
                  have x7 := ex 7 (by omega)
                  have x8 := ex 8 (by omega)
                  clear ex
                  have hqv := HZ4.out.size
                  have HWv := Lib.hid (HRq.out.bel.trans (HZ4.out.mono hsq))
                  have HRv := Lib.hid ((HR3.out.below HZ4.out).more hqv)
                  have hj0 : (0 : Int) ≤ (j : Int) := by omega
                  have hjc : (j : Int) ≤ (c3 : Int) := by omega
                  have hjm2 : (j : Int) ≤ (m : Int) := by omega
                  have hmc2 : (m : Int) ≤ (c3 : Int) := by omega
                  have hjc3 : j < c3 := by omega
                  go_upto_region 15 with (fail)
                  apply wp_region_lit
                  iterate 4 (go_step; go_step; rename_i KK hKK; (with_reducible refine hKK _ _ ?_); clear hKK KK)
                  refine append_rd rfl (.tmp 83) (.tmp 86) 85 92 _ 9 80 infoP Try.underlying85 rfl (by omega) rfl w4.heap.size (.slice none 0 0) 0 [] rfl (World.ownsRow_nil _ _ _ _) (some ⟨b3, 0, none⟩) j c3 ((out.take j).flatMap Pn.cl) rfl (fun h => by first | rfl | cases h) (by rw [flat_length Pn.cl 9 Pn.cl_len, List.length_take, Nat.min_eq_left (by have := HMo.out; omega)]) (Rd.takeP HRv.out j) Pn.one (by unfold maxLen; omega) (by omega) (Nat.le_refl _) ?_
                  intro v5 w5 ho5 hg5 hv5
                  rw [Nat.zero_add, List.nil_append] at ho5
                  have HO5 := Lib.hid ho5
                  have HB5 := Lib.hid (show Below w4.heap.size w4 w5 from (Below.refl _ _).grown hg5 (Nat.le_refl _) (fun q hq => by cases hq))
                  have s5 := HB5.out.size
                  have HW5 := Lib.hid (HWv.out.trans (HB5.out.mono HWv.out.size))
                  clear ho5 hg5 hv5 x0 x1 x2 x3 x4 x5 x6 x7 x8
                  have ex := HE.out w5 HW5.out i x HX.out
                  have x0 := ex 0 (by omega)
                  have x1 := ex 1 (by omega)
                  have x2 := ex 2 (by omega)
                  have x3 := ex 3 (by omega)
                  have x4 := ex 4 (by omega)
                  have x5 := ex 5 (by omega)
                  have x6 := ex 6 (by omega)
                  have x7 := ex 7 (by omega)
                  have x8 := ex 8 (by omega)
                  clear ex
                  simp only [← Nat.add_assoc, Nat.add_zero, List.getElem?_cons_zero, List.getElem?_cons_succ] at x0 x1 x2 x3 x4 x5 x6 x7 x8
                  have hb5 : b < w5.heap.size := by omega
                  go_upto_region 16 with (fail)
                  apply wp_region_lit
                  iterate 6 (go_step; go_step; rename_i KK hKK; (with_reducible refine hKK _ _ ?_); clear hKK KK)
                  refine append_pane rfl (.tmp 88) (.tmp 93) rfl w4.heap.size v5 j (out.take j) rfl (HO5.out.alloc _) w5.heap.size 1 x rfl (heap_at rfl) (by omega) (by simp; omega) ?_
                  intro v6 w6 ho6 hb6
                  have HO6 := ho6
                  have HB6 := Lib.hid (HB5.out.trans (Below.trans (show Below w4.heap.size w5 (w5.alloc (.cells (valC x) 92 (0, 0))) by go_grown) hb6))
                  have s6 := HB6.out.size
                  have HR6 := Lib.hid (HRv.out.below HB6.out)
                  clear ho6 hb6 x0 x1 x2 x3 x4 x5 x6 x7 x8
                  go_upto_region 17 with (fail)
                  apply wp_region_lit
                  iterate 4 (go_step; go_step; rename_i KK hKK; (with_reducible refine hKK _ _ ?_); clear hKK KK)
                  refine append_rd rfl (.tmp 95) (.tmp 98) 85 92 _ 9 80 infoP Try.underlying85 rfl (by omega) rfl w4.heap.size v6 (j + 1) ((out.take j ++ [x]).flatMap Pn.cl) rfl HO6.out (some ⟨b3, j * 9, none⟩) (m - j) (c3 - j) ((out.drop j).flatMap Pn.cl) rfl (fun h => by first | rfl | cases h) (by rw [flat_length Pn.cl 9 Pn.cl_len, List.length_drop]; have := HMo.out; omega) ((show Rd w6 _ (some ⟨b3, 0 + j * 9, none⟩) _ from Rd.dropP HR6.out j (by have := HMo.out; omega)).more s6 |> fun h => by rw [Nat.zero_add] at h; exact h) Pn.one (by unfold maxLen; omega) (by omega) s6 ?_
                  intro v7 w7 ho7 hg7 hv7
                  have HO7 := Lib.hid (show w7.ownsRow w4.heap.size 92 9 v7 (insL x out).length ((insL x out).flatMap Pn.cl) by
                    have h1 : (insL x out).flatMap Pn.cl = (out.take j ++ [x]).flatMap Pn.cl ++ (out.drop j).flatMap Pn.cl := by rw [HIN.out]; simp
                    have h2 : (insL x out).length = j + 1 + (m - j) := by have h8 := insL_len x out; have h9 := HMo.out; omega
                    rw [h1, h2]
                    exact ho7)
                  have HB7 := Lib.hid (HB6.out.grown hg7 s6 (fun q hq => (HO6.out.lt q hq).1))
                  clear ho7 hg7 hv7
                  go_wp2_with fail
                  go_roundw
                  case rel => exact ⟨i + 1, insL x out, by go_num, by omega, HGO.out, by rw [insL_len, HMo.out]; omega, owns_mono HO7.out HWv.out.size, HWv.out.trans (HB7.out.mono HWv.out.size)⟩
                  case measure => simp [intOf]; omega
              · obtain rfl : j = m := by omega
                have jin : ¬ (j : Int) < (j : Int) := by omega
                have hd : decide (j < j) = false := by simp
                have HIN := Lib.hid (insL_at x out j (by rw [HMo.out]; exact Nat.le_refl _) HLOW.out (fun h => absurd h (by rw [HMo.out]; omega)))
                have hform : (a3 = none ∧ c3 = 0 ∧ j = 0) ∨ ∃ g3, a3 = some ⟨g3, 0, none⟩ ∧ j ≤ c3 := by
                  rcases HOW.out.2 with ⟨h1, h0⟩ | ⟨g1, c1, cur1, h1, _, _, h4, _⟩
                  · injection h1 with h1 h2 h3; exact .inl ⟨h1, h3, h0⟩
                  · injection h1 with h1 h2 h3; subst h3; exact .inr ⟨g1, h1, h4⟩
                go_wp2_with fail
                (refine region_keep (fun _ => True) 27 [(0, true), (1, true), (2, true), (3, true), (4, true), (5, true), (6, true), (7, true), (8, true), (9, true), (10, true), (11, true), (12, true), (13, true), (14, true), (15, true), (16, true), (17, true), (18, true), (19, true), (20, true), (21, true), (22, true), (23, true), (24, true), (25, true), (26, true)] (by kernel_rfl) (fun _ _ d _ _ h => by cases d <;> exact h) (by kernel_rfl) ?_; simp only [withOps, List.getElem?_toArray, List.getElem?_cons_zero, List.getElem?_cons_succ, List.drop_succ_cons, List.drop_zero])
                (iterate 4 (refine keep_quiet (v := ?_) rfl ?_ ?_; rotate_left; (focus (intro w' hw'; go_simp; (try with_reducible rfl); done)); try simp only [Act.put, List.setIfInBounds_toArray, List.set_cons_zero, List.set_cons_succ]))
                (try simp only [hd])
                (iterate 1 (refine keep_quiet (v := ?_) rfl ?_ ?_; rotate_left; (focus (intro w' hw'; go_simp; (try with_reducible rfl); done)); try simp only [Act.put, List.setIfInBounds_toArray, List.set_cons_zero, List.set_cons_succ]))
                (iterate 22 ((with_reducible refine plan_skip ?_ ?_); (focus rfl); try simp only [Act.put, List.setIfInBounds_toArray, List.set_cons_zero, List.set_cons_succ]))
                (with_reducible refine plan_end ?_)
                (try simp only [Act.put, List.setIfInBounds_toArray, List.set_cons_zero, List.set_cons_succ])
                go_upto_region 14 with (fail)
                refine wp_at (fun Z => Below wq.heap.size wq Z) (by have h := HZ.out; go_grown) ?_
                rintro wy hwy
                have HY2 := Lib.hid hwy
                clear hwy
                rcases hform with ⟨rfl, rfl, rfl⟩ | ⟨g3, rfl, hmc⟩
                · simp only [Int.cast_ofNat_Int]
                  have hqv := HY2.out.size
                  have HWv := Lib.hid (HRq.out.bel.trans (HY2.out.mono hsq))
                  have HRv := Lib.hid ((HR3.out.below HY2.out).more hqv)
                  have hj0 : (0 : Int) ≤ 0 := by omega
                  go_upto_region 15 with (fail)
                  apply wp_region_lit
                  iterate 4 (go_step; go_step; rename_i KK hKK; (with_reducible refine hKK _ _ ?_); clear hKK KK)
                  refine append_rd rfl (.tmp 83) (.tmp 86) 85 92 _ 9 80 infoP Try.underlying85 rfl (by omega) rfl wy.heap.size (.slice none 0 0) 0 [] rfl (World.ownsRow_nil _ _ _ _) none 0 0 ((out.take 0).flatMap Pn.cl) rfl (fun h => by first | rfl | cases h) (by rw [flat_length Pn.cl 9 Pn.cl_len, List.length_take, Nat.min_eq_left (by have := HMo.out; omega)]) (Rd.takeP HRv.out 0) Pn.one (by unfold maxLen; omega) (by omega) (Nat.le_refl _) ?_
                  intro v5 w5 ho5 hg5 hv5
                  rw [Nat.zero_add, List.nil_append] at ho5
                  have HO5 := Lib.hid ho5
                  have HB5 := Lib.hid (show Below wy.heap.size wy w5 from (Below.refl _ _).grown hg5 (Nat.le_refl _) (fun q hq => by cases hq))
                  have s5 := HB5.out.size
                  have HW5 := Lib.hid (HWv.out.trans (HB5.out.mono HWv.out.size))
                  clear ho5 hg5 hv5 x0 x1 x2 x3 x4 x5 x6 x7 x8
                  have ex := HE.out w5 HW5.out i x HX.out
                  have x0 := ex 0 (by omega)
                  have x1 := ex 1 (by omega)
                  have x2 := ex 2 (by omega)
                  have x3 := ex 3 (by omega)
                  have x4 := ex 4 (by omega)
                  have x5 := ex 5 (by omega)
                  have x6 := ex 6 (by omega)
                  have x7 := ex 7 (by omega)
                  have x8 := ex 8 (by omega)
                  clear ex
                  simp only [← Nat.add_assoc, Nat.add_zero, List.getElem?_cons_zero, List.getElem?_cons_succ] at x0 x1 x2 x3 x4 x5 x6 x7 x8
                  have hb5 : b < w5.heap.size := by omega
                  go_upto_region 16 with (fail)
                  apply wp_region_lit
                  iterate 6 (go_step; go_step; rename_i KK hKK; (with_reducible refine hKK _ _ ?_); clear hKK KK)
                  refine append_pane rfl (.tmp 88) (.tmp 93) rfl wy.heap.size v5 0 (out.take 0) rfl (HO5.out.alloc _) w5.heap.size 1 x rfl (heap_at rfl) (by omega) (by simp; omega) ?_
                  intro v6 w6 ho6 hb6
                  have HO6 := ho6
                  have HB6 := Lib.hid (HB5.out.trans (Below.trans (show Below wy.heap.size w5 (w5.alloc (.cells (valC x) 92 (0, 0))) by go_grown) hb6))
                  have s6 := HB6.out.size
                  have HR6 := Lib.hid (HRv.out.below HB6.out)
                  clear ho6 hb6 x0 x1 x2 x3 x4 x5 x6 x7 x8
                  go_upto_region 17 with (fail)
                  apply wp_region_lit
                  iterate 4 (go_step; go_step; rename_i KK hKK; (with_reducible refine hKK _ _ ?_); clear hKK KK)
                  refine append_rd rfl (.tmp 95) (.tmp 98) 85 92 _ 9 80 infoP Try.underlying85 rfl (by omega) rfl wy.heap.size v6 (0 + 1) ((out.take 0 ++ [x]).flatMap Pn.cl) rfl HO6.out none 0 0 ((out.drop 0).flatMap Pn.cl) rfl (fun h => by first | rfl | cases h) (by rw [flat_length Pn.cl 9 Pn.cl_len, List.length_drop]; have := HMo.out; omega) (.inl (drop_none (by have := HMo.out; omega))) Pn.one (by unfold maxLen; omega) (by omega) s6 ?_
                  intro v7 w7 ho7 hg7 hv7
                  have HO7 := Lib.hid (show w7.ownsRow wy.heap.size 92 9 v7 (insL x out).length ((insL x out).flatMap Pn.cl) by
                    have h1 : (insL x out).flatMap Pn.cl = (out.take 0 ++ [x]).flatMap Pn.cl ++ (out.drop 0).flatMap Pn.cl := by rw [HIN.out]; simp
                    have h2 : (insL x out).length = 0 + 1 + 0 := by have h8 := insL_len x out; have h9 := HMo.out; omega
                    rw [h1, h2]
                    exact ho7)
                  have HB7 := Lib.hid (HB6.out.grown hg7 s6 (fun q hq => (HO6.out.lt q hq).1))
                  clear ho7 hg7 hv7
                  go_wp2_with fail
                  go_roundw
                  case rel => exact ⟨i + 1, insL x out, by go_num, by omega, HGO.out, by rw [insL_len, HMo.out]; omega, owns_mono HO7.out HWv.out.size, HWv.out.trans (HB7.out.mono HWv.out.size)⟩
                  case measure => simp [intOf]; omega
                · rcases Nat.lt_or_ge j c3 with hjc4 | hjc4
                  · have hqv := HY2.out.size
                    have HWv := Lib.hid (HRq.out.bel.trans (HY2.out.mono hsq))
                    have HRv := Lib.hid ((HR3.out.below HY2.out).more hqv)
                    have hj0 : (0 : Int) ≤ (j : Int) := by omega
                    have hjc : (j : Int) ≤ (c3 : Int) := by omega
                    have hjm2 : (j : Int) ≤ (j : Int) := by omega
                    have hmc2 : (j : Int) ≤ (c3 : Int) := by omega
                    have hjc3 : j < c3 := by omega
                    go_upto_region 15 with (fail)
                    apply wp_region_lit
                    iterate 4 (go_step; go_step; rename_i KK hKK; (with_reducible refine hKK _ _ ?_); clear hKK KK)
                    refine append_rd rfl (.tmp 83) (.tmp 86) 85 92 _ 9 80 infoP Try.underlying85 rfl (by omega) rfl wy.heap.size (.slice none 0 0) 0 [] rfl (World.ownsRow_nil _ _ _ _) (some ⟨g3, 0, none⟩) j c3 ((out.take j).flatMap Pn.cl) rfl (fun h => by first | rfl | cases h) (by rw [flat_length Pn.cl 9 Pn.cl_len, List.length_take, Nat.min_eq_left (by have := HMo.out; omega)]) (Rd.takeP HRv.out j) Pn.one (by unfold maxLen; omega) (by omega) (Nat.le_refl _) ?_
                    intro v5 w5 ho5 hg5 hv5
                    rw [Nat.zero_add, List.nil_append] at ho5
                    have HO5 := Lib.hid ho5
                    have HB5 := Lib.hid (show Below wy.heap.size wy w5 from (Below.refl _ _).grown hg5 (Nat.le_refl _) (fun q hq => by cases hq))
                    have s5 := HB5.out.size
                    have HW5 := Lib.hid (HWv.out.trans (HB5.out.mono HWv.out.size))
                    clear ho5 hg5 hv5 x0 x1 x2 x3 x4 x5 x6 x7 x8
                    have ex := HE.out w5 HW5.out i x HX.out
                    have x0 := ex 0 (by omega)
                    have x1 := ex 1 (by omega)
                    have x2 := ex 2 (by omega)
                    have x3 := ex 3 (by omega)
                    have x4 := ex 4 (by omega)
                    have x5 := ex 5 (by omega)
                    have x6 := ex 6 (by omega)
                    have x7 := ex 7 (by omega)
                    have x8 := ex 8 (by omega)
                    clear ex
                    simp only [← Nat.add_assoc, Nat.add_zero, List.getElem?_cons_zero, List.getElem?_cons_succ] at x0 x1 x2 x3 x4 x5 x6 x7 x8
                    have hb5 : b < w5.heap.size := by omega
                    go_upto_region 16 with (fail)
                    apply wp_region_lit
                    iterate 6 (go_step; go_step; rename_i KK hKK; (with_reducible refine hKK _ _ ?_); clear hKK KK)
                    refine append_pane rfl (.tmp 88) (.tmp 93) rfl wy.heap.size v5 j (out.take j) rfl (HO5.out.alloc _) w5.heap.size 1 x rfl (heap_at rfl) (by omega) (by simp; omega) ?_
                    intro v6 w6 ho6 hb6
                    have HO6 := ho6
                    have HB6 := Lib.hid (HB5.out.trans (Below.trans (show Below wy.heap.size w5 (w5.alloc (.cells (valC x) 92 (0, 0))) by go_grown) hb6))
                    have s6 := HB6.out.size
                    have HR6 := Lib.hid (HRv.out.below HB6.out)
                    clear ho6 hb6 x0 x1 x2 x3 x4 x5 x6 x7 x8
                    go_upto_region 17 with (fail)
                    apply wp_region_lit
                    iterate 4 (go_step; go_step; rename_i KK hKK; (with_reducible refine hKK _ _ ?_); clear hKK KK)
                    refine append_rd rfl (.tmp 95) (.tmp 98) 85 92 _ 9 80 infoP Try.underlying85 rfl (by omega) rfl wy.heap.size v6 (j + 1) ((out.take j ++ [x]).flatMap Pn.cl) rfl HO6.out (some ⟨g3, j * 9, none⟩) 0 (c3 - j) ((out.drop j).flatMap Pn.cl) rfl (fun h => by first | rfl | cases h) (by rw [flat_length Pn.cl 9 Pn.cl_len, List.length_drop]; have := HMo.out; omega) (.inl (drop_none (by have := HMo.out; omega))) Pn.one (by unfold maxLen; omega) (by omega) s6 ?_
                    intro v7 w7 ho7 hg7 hv7
                    have HO7 := Lib.hid (show w7.ownsRow wy.heap.size 92 9 v7 (insL x out).length ((insL x out).flatMap Pn.cl) by
                      have h1 : (insL x out).flatMap Pn.cl = (out.take j ++ [x]).flatMap Pn.cl ++ (out.drop j).flatMap Pn.cl := by rw [HIN.out]; simp
                      have h2 : (insL x out).length = j + 1 + 0 := by have h8 := insL_len x out; have h9 := HMo.out; omega
                      rw [h1, h2]
                      exact ho7)
                    have HB7 := Lib.hid (HB6.out.grown hg7 s6 (fun q hq => (HO6.out.lt q hq).1))
                    clear ho7 hg7 hv7
                    go_wp2_with fail
                    go_roundw
                    case rel => exact ⟨i + 1, insL x out, by go_num, by omega, HGO.out, by rw [insL_len, HMo.out]; omega, owns_mono HO7.out HWv.out.size, HWv.out.trans (HB7.out.mono HWv.out.size)⟩
                    case measure => simp [intOf]; omega
                  · obtain rfl : j = c3 := by omega
                    have hqv := HY2.out.size
                    have HWv := Lib.hid (HRq.out.bel.trans (HY2.out.mono hsq))
                    have HRv := Lib.hid ((HR3.out.below HY2.out).more hqv)
                    have hj0 : (0 : Int) ≤ (j : Int) := by omega
                    have hjc : (j : Int) ≤ (j : Int) := by omega
                    have hjm2 : (j : Int) ≤ (j : Int) := by omega
                    have hmc2 : (j : Int) ≤ (j : Int) := by omega
                    go_upto_region 15 with (fail)
                    apply wp_region_lit
                    iterate 4 (go_step; go_step; rename_i KK hKK; (with_reducible refine hKK _ _ ?_); clear hKK KK)
                    refine append_rd rfl (.tmp 83) (.tmp 86) 85 92 _ 9 80 infoP Try.underlying85 rfl (by omega) rfl wy.heap.size (.slice none 0 0) 0 [] rfl (World.ownsRow_nil _ _ _ _) (some ⟨g3, 0, none⟩) j j ((out.take j).flatMap Pn.cl) rfl (fun h => by first | rfl | cases h) (by rw [flat_length Pn.cl 9 Pn.cl_len, List.length_take, Nat.min_eq_left (by have := HMo.out; omega)]) (Rd.takeP HRv.out j) Pn.one (by unfold maxLen; omega) (by omega) (Nat.le_refl _) ?_
                    intro v5 w5 ho5 hg5 hv5
                    rw [Nat.zero_add, List.nil_append] at ho5
                    have HO5 := Lib.hid ho5
                    have HB5 := Lib.hid (show Below wy.heap.size wy w5 from (Below.refl _ _).grown hg5 (Nat.le_refl _) (fun q hq => by cases hq))
                    have s5 := HB5.out.size
                    have HW5 := Lib.hid (HWv.out.trans (HB5.out.mono HWv.out.size))
                    clear ho5 hg5 hv5 x0 x1 x2 x3 x4 x5 x6 x7 x8
                    have ex := HE.out w5 HW5.out i x HX.out
                    have x0 := ex 0 (by omega)
                    have x1 := ex 1 (by omega)
                    have x2 := ex 2 (by omega)
                    have x3 := ex 3 (by omega)
                    have x4 := ex 4 (by omega)
                    have x5 := ex 5 (by omega)
                    have x6 := ex 6 (by omega)
                    have x7 := ex 7 (by omega)
                    have x8 := ex 8 (by omega)
                    clear ex
                    simp only [← Nat.add_assoc, Nat.add_zero, List.getElem?_cons_zero, List.getElem?_cons_succ] at x0 x1 x2 x3 x4 x5 x6 x7 x8
                    have hb5 : b < w5.heap.size := by omega
                    go_upto_region 16 with (fail)
                    apply wp_region_lit
                    iterate 6 (go_step; go_step; rename_i KK hKK; (with_reducible refine hKK _ _ ?_); clear hKK KK)
                    refine append_pane rfl (.tmp 88) (.tmp 93) rfl wy.heap.size v5 j (out.take j) rfl (HO5.out.alloc _) w5.heap.size 1 x rfl (heap_at rfl) (by omega) (by simp; omega) ?_
                    intro v6 w6 ho6 hb6
                    have HO6 := ho6
                    have HB6 := Lib.hid (HB5.out.trans (Below.trans (show Below wy.heap.size w5 (w5.alloc (.cells (valC x) 92 (0, 0))) by go_grown) hb6))
                    have s6 := HB6.out.size
                    have HR6 := Lib.hid (HRv.out.below HB6.out)
                    clear ho6 hb6 x0 x1 x2 x3 x4 x5 x6 x7 x8
                    go_upto_region 17 with (fail)
                    apply wp_region_lit
                    iterate 4 (go_step; go_step; rename_i KK hKK; (with_reducible refine hKK _ _ ?_); clear hKK KK)
                    refine append_rd rfl (.tmp 95) (.tmp 98) 85 92 _ 9 80 infoP Try.underlying85 rfl (by omega) rfl wy.heap.size v6 (j + 1) ((out.take j ++ [x]).flatMap Pn.cl) rfl HO6.out (some ⟨g3, 0, none⟩) 0 0 ((out.drop j).flatMap Pn.cl) rfl (fun h => by first | rfl | cases h) (by rw [flat_length Pn.cl 9 Pn.cl_len, List.length_drop]; have := HMo.out; omega) (.inl (drop_none (by have := HMo.out; omega))) Pn.one (by unfold maxLen; omega) (by omega) s6 ?_
                    intro v7 w7 ho7 hg7 hv7
                    have HO7 := Lib.hid (show w7.ownsRow wy.heap.size 92 9 v7 (insL x out).length ((insL x out).flatMap Pn.cl) by
                      have h1 : (insL x out).flatMap Pn.cl = (out.take j ++ [x]).flatMap Pn.cl ++ (out.drop j).flatMap Pn.cl := by rw [HIN.out]; simp
                      have h2 : (insL x out).length = j + 1 + 0 := by have h8 := insL_len x out; have h9 := HMo.out; omega
                      rw [h1, h2]
                      exact ho7)
                    have HB7 := Lib.hid (HB6.out.grown hg7 s6 (fun q hq => (HO6.out.lt q hq).1))
                    clear ho7 hg7 hv7
                    go_wp2_with fail
                    go_roundw
                    case rel => exact ⟨i + 1, insL x out, by go_num, by omega, HGO.out, by rw [insL_len, HMo.out]; omega, owns_mono HO7.out HWv.out.size, HWv.out.trans (HB7.out.mono HWv.out.size)⟩
                    case measure => simp [intOf]; omega
          · have HGO := Lib.hid (show refGo out (L.drop (i + 1)) = refGo [] L by
              have h := HRq.out.go
              rw [HDR.out, refGo_cons] at h
              rw [HLB2.out, if_pos rfl] at h
              exact h)
            go_wp2_with fail
            go_roundw
            case rel => exact ⟨i + 1, out, by go_num, by omega, HGO.out, by have := HRq.out.len; omega, HRq.out.own, HRq.out.bel⟩
            case measure => simp [intOf]; omega
    · obtain rfl : i = n := by omega
      have kin : ¬ (i : Int) < (i : Int) := by omega
      have HG := Lib.hid (show refGo [] L = out by have h := HRl.out.go; rw [List.drop_of_length_le (by rw [HL.out]; exact Nat.le_refl _)] at h; exact h.symm)
      go_wp2_with fail
      go_returns
      exact ⟨u3, rfl, by rw [HG.out]; exact HRl.out.own, HRl.out.bel⟩
end Go.Proofs.Ytbkofiflfcfjfaa.Px
