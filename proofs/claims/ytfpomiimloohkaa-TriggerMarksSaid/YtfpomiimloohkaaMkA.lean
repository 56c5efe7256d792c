/- A mark: what is told of windows, and what is left of them; append of what is read; Over of both; the kit's Wins. -/
import Derived.Test.YtfpomiimloohkaaSoF
import Derived.Test.YtfpomiimloohkaaPanes
import Derived.Test.YtfpomiimloohkaaAppR
set_option linter.unusedSimpArgs false
set_option linter.unusedVariables false
namespace Go.Proofs.Ytfpomiimloohkaa
open Go.RowKit Go.Kp Go.So

/-- A window's cells. -/
abbrev Win.cl (x : Win) : List Value := [.int .i64 x.s, .int .i64 x.e, .int .i64 x.h, .int .i64 x.c, .int .i64 x.su, .int .i64 x.mi, .int .i64 x.ma, .int .i64 x.si, .int .i64 x.pa]
theorem Win.len (x : Win) : x.cl.length = 9 := rfl
theorem Pa.len (x : Pa) : x.cells.length = 9 := rfl
theorem infoW : (Try.prog.info? 30).map (fun i => (i.zero, i.size, i.bytes)) = some (some Win.zero.val, 9, 72) := by kernel_rfl
theorem Win.one {l : List Win} : ∀ u ∈ l.flatMap Win.cl, u.oneCell' = true := fun u hu => by
  obtain ⟨z, _, hz⟩ := List.mem_flatMap.1 hu
  simp [Win.cl] at hz
  rcases hz with h | h | h | h | h | h | h | h | h <;> subst h <;> rfl
theorem Pa.one {l : List Pa} : ∀ u ∈ l.flatMap Pa.cells, u.oneCell' = true := fun u hu => by
  obtain ⟨z, _, hz⟩ := List.mem_flatMap.1 hu
  simp [Pa.cells] at hz
  rcases hz with h | h | h | h | h | h | h | h | h <;> subst h <;> rfl

/-- append of things that are read, nil or not, to a row that the call owns. -/
theorem append_rd {P : Program} {w : World} {ops : Array Oper} {rest : List Oper} {o : Oper} {a : Act} {Q : Exit → Act → World → Prop} (hgd : o.guard = none) (s x : Operand) (t e : TypeId) (zz : Value) (size bytes : Nat)
    (hinfo : (P.info? e).map (fun i => (i.zero, i.size, i.bytes)) = some (some zz, size, bytes)) (ht : P.underlying t = some (.slice e)) (hzs : zz.cells.size = size) (hsz : 0 < size)
    (ho : o.op = .call { callee := .builtin .append, args := #[s, x], argTypes := #[t, t] })
    (base : Nat) (v : Value) (n : Nat) (xs : List Value) (hs : a.eval s = v) (hown : w.ownsRow base e size v n xs)
    (ad : Option Addr) (m c : Nat) (news : List Value) (hx : a.eval x = .slice ad m c) (hn : ad = none → c = 0) (hl : news.length = m * size) (hr : Rd w w.heap.size ad news) (h1 : ∀ u ∈ news, u.oneCell' = true)
    (h63 : n + m ≤ maxLen) (hbytes : (5 * (n + m) + 2048) * bytes ≤ 1125899906842624) (hbase : base ≤ w.heap.size)
    (h : ∀ v' w', w'.ownsRow base e size v' (n + m) (xs ++ news) → w.grownBy w' v.ownBlock → (v'.ownBlock = v.ownBlock ∨ v'.ownBlock = some w.heap.size) → wpList P ops Q rest (a.put o.dst v') w') :
    wpList P ops Q (o :: rest) a w := by
  cases ad with
  | none =>
    have hc := hn rfl
    subst hc
    have h0 : news = [] := by
      rcases hr with hr | ⟨b, off, h, _⟩
      · exact hr
      · cases h
    subst h0
    have hm : m = 0 := by
      rcases Nat.eq_zero_or_pos m with h | h
      · exact h
      · have := Nat.mul_pos h hsz
        simp at hl; omega
    subst hm
    obtain ⟨i0, hi, hz0, hz1, hz2⟩ := info_parts hinfo
    refine wpList_append_own_none hgd s x t ho base e i0 size ht hi v n _ hs hown hx ?_
    exact h v w (by simpa using hown) (World.grownBy.refl _ _) (.inl rfl)
  | some ad =>
    refine append_row hgd s x t e zz size bytes hinfo ht hzs hsz ho base v n xs hs hown ad m c news hx hl (fun j u hu => ?_) h1 h63 hbytes hbase h
    rcases hr with hr | ⟨b, off, h, _, hc⟩
    · rw [hr] at hu; simp at hu
    · cases h
      rw [Go.WideShapes.add_plain]
      exact hc j u hu

theorem over_any (s e la m : Int) (w : World) (he : -9223372036854775808 ≤ e ∧ e ≤ 9223372036854775807) (hla : -9223372036854775808 ≤ la ∧ la ≤ 9223372036854775807) (hm : -9223372036854775808 ≤ m ∧ m ≤ 9223372036854775807) :
    Calls Try.prog 31 #[.agg #[.int .i64 s, .int .i64 e], .int .i64 la, .int .i64 m] w (Ret (.bool (decide (e + la ≤ m))) w) := by
  obtain ⟨b, hb⟩ : ∃ b, decide (e + la ≤ m) = b := ⟨_, rfl⟩
  rw [hb]
  have HB := Lib.hid hb
  clear hb
  rcases Int.lt_or_le la 0 with h | h
  · have w1 : IntKind.i64.wrap (9223372036854775807 + la) = 9223372036854775807 + la := by rw [IntKind.wrap_i64]; omega
    rcases Int.lt_or_le (9223372036854775807 + la) m with h2 | h2
    · have H := Lib.hid (show b = true by rw [← HB.out]; simp; omega)
      clear he hla hm
      go_enter Try.func31, Try.ntmps31
      go_wp2
      go_returns
      exact ⟨by rw [H.out]; rfl, by go_grown⟩
    · have w2 : IntKind.i64.wrap (m - la) = m - la := by rw [IntKind.wrap_i64]; omega
      have h3 : ¬ 9223372036854775807 + la < m := by omega
      have H := Lib.hid (show b = decide (e ≤ m - la) by rw [← HB.out]; exact decide_eq_decide.2 (by omega))
      clear he hla hm
      go_enter Try.func31, Try.ntmps31
      go_wp2
      go_returns
      exact ⟨by rw [H.out]; rfl, by go_grown⟩
  · have h' : ¬ la < 0 := by omega
    have w1 : IntKind.i64.wrap (-9223372036854775808 + la) = -9223372036854775808 + la := by rw [IntKind.wrap_i64]; omega
    rcases Int.lt_or_le m (-9223372036854775808 + la) with h2 | h2
    · have H := Lib.hid (show b = false by rw [← HB.out]; simp; omega)
      have h3 : ¬ -9223372036854775808 + la ≤ m := by omega
      clear he hla hm
      go_enter Try.func31, Try.ntmps31
      go_wp2
      go_returns
      exact ⟨by rw [H.out]; rfl, by go_grown⟩
    · have w2 : IntKind.i64.wrap (m - la) = m - la := by rw [IntKind.wrap_i64]; omega
      have H := Lib.hid (show b = decide (e ≤ m - la) by rw [← HB.out]; exact decide_eq_decide.2 (by omega))
      clear he hla hm
      go_enter Try.func31, Try.ntmps31
      go_wp2
      go_returns
      exact ⟨by rw [H.out]; rfl, by go_grown⟩
theorem refOver_any (s e la m : Int) (w : World) (he : -9223372036854775808 ≤ e ∧ e ≤ 9223372036854775807) (hla : -9223372036854775808 ≤ la ∧ la ≤ 9223372036854775807) (hm : -9223372036854775808 ≤ m ∧ m ≤ 9223372036854775807) :
    Calls Try.prog 23 #[.agg #[.int .i64 s, .int .i64 e], .int .i64 la, .int .i64 m] w (Ret (.bool (decide (e + la ≤ m))) w) := by
  obtain ⟨b, hb⟩ : ∃ b, decide (e + la ≤ m) = b := ⟨_, rfl⟩
  rw [hb]
  have HB := Lib.hid hb
  clear hb
  rcases Int.lt_or_le la 0 with h | h
  · have h' : ¬ 0 ≤ la := by omega
    have w1 : IntKind.i64.wrap (9223372036854775807 + la) = 9223372036854775807 + la := by rw [IntKind.wrap_i64]; omega
    rcases Int.lt_or_le (9223372036854775807 + la) m with h2 | h2
    · have H := Lib.hid (show b = true by rw [← HB.out]; simp; omega)
      clear he hla hm
      go_enter Try.func23, Try.ntmps23
      go_wp2
      go_returns
      exact ⟨by rw [H.out]; rfl, by go_grown⟩
    · have w2 : IntKind.i64.wrap (m - la) = m - la := by rw [IntKind.wrap_i64]; omega
      have h3 : ¬ 9223372036854775807 + la < m := by omega
      have H := Lib.hid (show b = decide (e ≤ m - la) by rw [← HB.out]; exact decide_eq_decide.2 (by omega))
      clear he hla hm
      go_enter Try.func23, Try.ntmps23
      go_wp2
      go_returns
      exact ⟨by rw [H.out]; rfl, by go_grown⟩
  · have w1 : IntKind.i64.wrap (-9223372036854775808 + la) = -9223372036854775808 + la := by rw [IntKind.wrap_i64]; omega
    rcases Int.lt_or_le m (-9223372036854775808 + la) with h2 | h2
    · have H := Lib.hid (show b = false by rw [← HB.out]; simp; omega)
      have h3 : ¬ -9223372036854775808 + la ≤ m := by omega
      clear he hla hm
      go_enter Try.func23, Try.ntmps23
      go_wp2
      go_returns
      exact ⟨by rw [H.out]; rfl, by go_grown⟩
    · have w2 : IntKind.i64.wrap (m - la) = m - la := by rw [IntKind.wrap_i64]; omega
      have H := Lib.hid (show b = decide (e ≤ m - la) by rw [← HB.out]; exact decide_eq_decide.2 (by omega))
      clear he hla hm
      go_enter Try.func23, Try.ntmps23
      go_wp2
      go_returns
      exact ⟨by rw [H.out]; rfl, by go_grown⟩
/-- The cells of a row of windows, by place. -/
theorem win_cells {w : World} {b off : Nat} {l : List Win} (hc : ∀ (j : Nat) u, (l.flatMap Win.cl)[j]? = some u → w.cell? ⟨b, off + j, none⟩ = some u) : ∀ k x, l[k]? = some x → ∀ j, j < 9 → w.cell? ⟨b, off + (k * 9 + j), none⟩ = x.cl[j]? := fun k x hx j hj => by
  have h1 := flat_get Win.cl 9 Win.len l k j x hx hj
  have h2 : x.cl[j]? = some (x.cl[j]'(by simpa using hj)) := List.getElem?_eq_getElem _
  rw [h2] at h1 ⊢
  exact hc _ _ h1

set_option maxHeartbeats 1000000 in
theorem wins_any (a a' : Option Addr) (n cap cap' : Nat) (l : List Win) (w : World) (hl : l.length = n) (hn : n ≤ 4611686018427387904) (hr : Rd w w.heap.size a (l.flatMap Win.cl)) (hr' : Rd w w.heap.size a' (l.flatMap Win.cl)) :
    Calls Try.prog 22 #[.slice a n cap, .slice a' n cap'] w (Ret (.bool true) w) := by
  obtain ⟨hnp⟩ : Nonempty (n ≤ 4611686018427387904) := ⟨hn⟩
  rcases Nat.eq_zero_or_pos n with hn0 | hn0
  · subst hn0
    obtain rfl : l = [] := List.eq_nil_of_length_eq_zero hl
    go_enter Try.func22, Try.ntmps22
    go_wp2
    go_rounds 1
    go_returns
    exact ⟨rfl, by go_grown⟩
  · have hne : l.flatMap Win.cl ≠ [] := by
      intro h
      have := flat_length Win.cl 9 Win.len l
      rw [h] at this; simp at this; omega
    rcases hr with hr | ⟨b, off, rfl, hb, hc⟩
    · exact absurd hr hne
    rcases hr' with hr' | ⟨b', off', rfl, hb', hc'⟩
    · exact absurd hr' hne
    have HC := Lib.hid (win_cells hc)
    have HC' := Lib.hid (win_cells hc')
    have HL := Lib.hid hl
    clear hc hc' hl hne
    go_enter Try.func22, Try.ntmps22
    go_wp2
    go_loopw [5] (fun i wr => ∃ k : Nat, k ≤ n ∧ i = .int .i64 k ∧ Below w.heap.size w wr) (fun i _ => n - (intOf i).toNat)
    case atStart => exact ⟨0, Nat.zero_le _, rfl, by go_grown⟩
    case round =>
      obtain ⟨k, hk, rfl, hB⟩ := hrel
      rcases Nat.lt_or_ge k n with hlt | hge
      · obtain ⟨x, hx⟩ : ∃ x, l[k]? = some x := ⟨_, List.getElem?_eq_getElem (by rw [HL.out]; exact hlt)⟩
        have e := fun j hj => (hB.cell (p := ⟨b, off + (k * 9 + j), none⟩) hb).trans (HC.out k x hx j hj)
        have e' := fun j hj => (hB.cell (p := ⟨b', off' + (k * 9 + j), none⟩) hb').trans (HC'.out k x hx j hj)
        have e0 := e 0 (by omega)
        have e1 := e 1 (by omega)
        have e2 := e 2 (by omega)
        have e3 := e 3 (by omega)
        have e4 := e 4 (by omega)
        have e5 := e 5 (by omega)
        have e6 := e 6 (by omega)
        have e7 := e 7 (by omega)
        have e8 := e 8 (by omega)
        have g0 := e' 0 (by omega)
        have g1 := e' 1 (by omega)
        have g2 := e' 2 (by omega)
        have g3 := e' 3 (by omega)
        have g4 := e' 4 (by omega)
        have g5 := e' 5 (by omega)
        have g6 := e' 6 (by omega)
        have g7 := e' 7 (by omega)
        have g8 := e' 8 (by omega)
        clear e e' hx
        simp only [← Nat.add_assoc, Nat.add_zero, List.getElem?_cons_zero, List.getElem?_cons_succ] at e0 e1 e2 e3 e4 e5 e6 e7 e8 g0 g1 g2 g3 g4 g5 g6 g7 g8
        go_wp2_with fail
        (refine region_keep (fun _ => True) 8 [(0, true), (1, true), (2, true), (3, true), (4, true), (5, true), (6, true), (7, true)] (by kernel_rfl) (fun _ _ d _ _ h => by cases d <;> exact h) (by kernel_rfl) ?_; simp only [withOps, List.getElem?_toArray, List.getElem?_cons_zero, List.getElem?_cons_succ, List.drop_succ_cons, List.drop_zero])
        (repeat (refine keep_quiet (v := ?_) rfl ?_ ?_; rotate_left; (focus (intro w' hw'; go_simp; (try with_reducible rfl); done)); try simp only [Act.put, List.setIfInBounds_toArray, List.set_cons_zero, List.set_cons_succ]))
        refine plan_end ?_
        (try simp only [Act.put, List.setIfInBounds_toArray, List.set_cons_zero, List.set_cons_succ])
        go_wp2
        go_roundw
        case rel => exact ⟨k + 1, by omega, by go_num, by go_grown⟩
        case measure => simp [intOf]; omega
      · go_wp2
        go_returns
        exact ⟨rfl, by go_grown⟩
end Go.Proofs.Ytfpomiimloohkaa
