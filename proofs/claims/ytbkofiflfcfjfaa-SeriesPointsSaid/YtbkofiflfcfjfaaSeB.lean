/- Series: appended numbers; the products of the document; roots; Mean and Spread of both. -/
import Derived.Test.YtbkofiflfcfjfaaSeA
import Derived.Test.YtbkofiflfcfjfaaFork
import Derived.Laws.AppendOwnNone
import Derived.Maps.AppendAt
set_option linter.unusedSimpArgs false
set_option linter.unusedVariables false
namespace Go.Kp
open Go.RowKit
/-- append of one thing to a row that the call owns. -/
theorem append_thing {P : Program} {w : World} {ops : Array Oper} {rest : List Oper} {o : Oper} {a : Act} {Q : Exit → Act → World → Prop} (hgd : o.guard = none) (s x : Operand) (t e : TypeId) (z : Value) (sz by' : Nat)
    (ho : o.op = .call { callee := .builtin .append, args := #[s, x], argTypes := #[t, t] }) (hu : P.underlying t = some (.slice e)) (hinf : (P.info? e).map (fun i => (i.zero, i.size, i.bytes)) = some (some z, sz, by'))
    (hz : z.cells.size = sz) (hsz : 0 < sz) (base : Nat) (v : Value) (n : Nat) (xs : List Value) (hs : a.eval s = v) (hown : w.ownsRow base e sz v n xs)
    (g c : Nat) (hx : a.eval x = .slice (some ⟨g, 0, none⟩) 1 c) (ys : List Value) (hy : ys.length = sz) (hcell : ∀ j u, ys[j]? = some u → w.cell? ⟨g, j, none⟩ = some u) (h1 : ∀ u ∈ ys, u.oneCell' = true)
    (hb : (n + 1) * by' ≤ 140737488355328) (hn : n + 1 ≤ 140737488355328) (hbase : base ≤ w.heap.size)
    (h : ∀ v' w', Hid (w'.ownsRow base e sz v' (n + 1) (xs ++ ys)) → Below base w w' → wpList P ops Q rest (a.put o.dst v') w') :
    wpList P ops Q (o :: rest) a w := by
  obtain ⟨i0, hi, hz0, hz1, hz2⟩ := info_parts hinf
  refine wpList_append_own_at w hgd s x t ho base e i0 z sz by' hu hi hz0 hz1 hz2 hz hsz v n xs hs hown ⟨g, 0, none⟩ 1 c ys hx (by rw [Nat.one_mul]; exact hy) ?_ h1 (by unfold maxLen; omega) hb hbase ?_
  · intro j u hu
    rw [Go.WideShapes.add_plain]
    simpa using hcell j u hu
  · intro v' w' k1 k2 _ _
    refine h v' w' k1 (Below.grown (Below.refl _ _) k2 hbase ?_)
    intro kk hkk
    rcases Nat.lt_or_ge kk base with hh | hh
    · exact absurd hkk.symm (owns_far hown hh)
    · exact hh
end Go.Kp
namespace Go.Proofs.Ytbkofiflfcfjfaa
open Go.RowKit Go.Kp Go.Ser

theorem infoF : (Try.prog.info? 25).map (fun i => (i.zero, i.size, i.bytes)) = some (some (.float .f64 0), 1, 8) := by kernel_rfl
/-- append of one number. -/
theorem append_fl {w : World} {ops : Array Oper} {rest : List Oper} {o : Oper} {a : Act} {Q : Exit → Act → World → Prop} (hgd : o.guard = none) (s x : Operand)
    (ho : o.op = .call { callee := .builtin .append, args := #[s, x], argTypes := #[45, 45] })
    (base : Nat) (v : Value) (n : Nat) (xs : List Nat) (hs : a.eval s = v) (hown : w.ownsRow base 25 1 v n (fl xs))
    (g y c : Nat) (hx : a.eval x = .slice (some ⟨g, 0, none⟩) 1 c) (hcell : w.cell? ⟨g, 0, none⟩ = some (.float .f64 y)) (hn : n + 1 ≤ 17592186044416) (hbase : base ≤ w.heap.size)
    (h : ∀ v' w', Hid (w'.ownsRow base 25 1 v' (n + 1) (fl (xs ++ [y]))) → Below base w w' → wpList Try.prog ops Q rest (a.put o.dst v') w') :
    wpList Try.prog ops Q (o :: rest) a w :=
  append_thing hgd s x 45 25 (.float .f64 0) 1 8 ho Try.underlying45 infoF rfl (by omega) base v n (fl xs) hs hown g c hx [.float .f64 y] rfl
    (fun j u hu => by
      match j, hu with
      | 0, hu => simp at hu; subst hu; exact hcell)
    (fun u hu => by simp at hu; subst hu; rfl) (by omega) (by omega) hbase
    (fun v' w' k1 k2 => h v' w' (by rw [fl, List.map_append]; exact k1) k2)
/-- A row that is owned reads as it lies. -/
theorem own_rd {w : World} {base n : Nat} {v : Value} {xs : List Nat} (h : w.ownsRow base 25 1 v n (fl xs)) : ∃ a cap, v = .slice a n cap ∧ xs.length = n ∧ (a = none → n = 0) ∧ Rd w w.heap.size a (fl xs) := by
  have hl : xs.length = n := by have := h.1; simpa using this
  rcases h.2 with ⟨h', rfl⟩ | ⟨g, cap, cur, h1, h2, h3, h4⟩
  · exact ⟨none, 0, h', hl, fun _ => rfl, .inl (by rw [List.eq_nil_of_length_eq_zero hl]; rfl)⟩
  · refine ⟨some ⟨g, 0, none⟩, cap, h1, hl, fun h => (by cases h), ?_⟩
    have hg : g < w.heap.size := Blk.lt (t := 25) (cs := cur) h3
    refine .inr ⟨g, 0, rfl, hg, fun j u hu => ?_⟩
    rw [Nat.zero_add]
    subst h1
    exact (World.ownsRow.cellAt h j (by have := (List.getElem?_eq_some_iff.1 hu).1; simp at this; omega)).trans hu

set_option maxHeartbeats 1000000 in
theorem products_any (a a' : Option Addr) (n cap cap' m m' : Nat) (l l' : List Nat) (w : World) (hl : l.length = n) (hl' : l'.length = n) (hn : n ≤ 1048576) (hr : Rd w w.heap.size a (fl l)) (hr' : Rd w w.heap.size a' (fl l')) :
    Calls Try.prog 41 #[.slice a n cap, .slice a' n cap', .float .f64 m, .float .f64 m'] w fun e w' => ∃ v ps, e = .returned v ∧ ps.length = n ∧ ProdR l l' m m' ps ∧ w'.ownsRow w.heap.size 25 1 v n (fl ps) ∧ Below w.heap.size w w' := by
  obtain ⟨hnp⟩ : Nonempty (n ≤ 4611686018427387904) := ⟨by omega⟩
  rcases Nat.eq_zero_or_pos n with hn0 | hn0
  · subst hn0
    go_enter Try.func41, Try.ntmps41
    go_wp2
    go_rounds 1
    go_returns
    exact ⟨_, [], rfl, rfl, ProdR.nil, World.ownsRow_nil _ _ _ _, by go_grown⟩
  · rcases hr with hr | ⟨b, off, rfl, hb, hc⟩
    · exact absurd hr (fl_ne hl hn0)
    rcases hr' with hr' | ⟨b', off', rfl, hb', hc'⟩
    · exact absurd hr' (fl_ne hl' hn0)
    have HC := Lib.hid hc
    have HL := Lib.hid hl
    have HC' := Lib.hid hc'
    have HL' := Lib.hid hl'
    clear hc hl hc' hl'
    go_enter Try.func41, Try.ntmps41
    go_wp2
    go_loopw [9, 10] (fun s i wr => ∃ k : Nat, ∃ ps : List Nat, k ≤ n ∧ i = .int .i64 k ∧ ps.length = k ∧ ProdR l l' m m' ps ∧ wr.ownsRow w.heap.size 25 1 s k (fl ps) ∧ Below w.heap.size w wr) (fun _ i _ => n - (intOf i).toNat)
    case atStart => exact ⟨0, [], Nat.zero_le _, rfl, rfl, ProdR.nil, World.ownsRow_nil _ _ _ _, by go_grown⟩
    case round =>
      obtain ⟨k, ps, hk, rfl, hpl, hP, hO, hB⟩ := hrel
      have HO := Lib.hid hO
      have HP := Lib.hid hP
      have HPL := Lib.hid hpl
      clear hO hP hpl
      have hsz := hB.size
      rcases Nat.lt_or_ge k n with hlt | hge
      · obtain ⟨x, hx⟩ := some_at HL.out hlt
        obtain ⟨y, hy⟩ := some_at HL'.out hlt
        have e := fl_at hb hB HC.out hx
        have HX := Lib.hid hx
        have HY := Lib.hid hy
        clear hx
        obtain ⟨d, w2, hrun, hres, hw⟩ := sub_any wr x m
        have HB2 := hB.trans (hw.out.below _)
        have e' := fl_at hb' HB2 HC'.out hy
        clear hy
        obtain ⟨d', w3, hrun', hres', hw'⟩ := sub_any w2 y m'
        obtain ⟨p, w4, hrun2, hres2, hw2⟩ := mul_any w3 d d'
        have HB4 := (HB2.trans (hw'.out.below _)).trans (hw2.out.below _)
        have HH : Hid (w4.heap = wr.heap) := Lib.hid (hw2.out.heap.trans (hw'.out.heap.trans hw.out.heap))
        have hs4 := HB4.size
        go_upto_region 7 with (fail)
        apply wp_region_lit
        iterate 5 (go_step; go_step; rename_i KK hKK; (with_reducible refine hKK _ _ ?_); clear hKK KK)
        (with_reducible refine append_fl ?_ (.tmp 31) (.tmp 35) ?_ w.heap.size u9 k ps ?_ ?_ w4.heap.size p 1 ?_ ?_ ?_ ?_ ?_)
        · rfl
        · rfl
        · rfl
        · exact owns_keep HO.out fun g _ hg => by rw [heap_old (by rw [HH.out]; exact hg), HH.out]
        · rfl
        · rw [cell_of_row _ _ _ _ _ _ (heap_at rfl)]; rfl
        · omega
        · simp; omega
        intro v1 w5 ho hb5
        have HB5 : Below w.heap.size w w5 := (show Below w.heap.size w (w4.alloc (Obj.cells #[.float .f64 p] 25)) by go_grown).trans hb5
        clear hb5 HH
        go_wp2_with fail
        go_roundw
        case rel => exact ⟨k + 1, ps ++ [p], by omega, by go_num, by simp [HPL.out], HP.out.snoc (by rw [HPL.out]; exact HX.out) (by rw [HPL.out]; exact HY.out) ⟨d, d', hres.out, hres'.out, hres2.out⟩, ho, HB5⟩
        case measure => simp [intOf]; omega
      · obtain rfl : k = n := by omega
        go_wp2
        go_returns
        exact ⟨_, ps, rfl, HPL.out, HP.out, HO.out, hB⟩

theorem sqrt_call (w : World) (x : Nat) : ∃ r w', (callFunc 49 #[.float .f64 x]).run Try.prog w = .ok (.value (.float .f64 r)) w' ∧ Hid (Root x r) ∧ Hid (Still w w') := by
  obtain ⟨r, w', h1, h2, h3⟩ := run_sqrt (P := Try.prog) w x
  refine ⟨r, w', ?_, Lib.hid h2, Lib.hid h3⟩
  rw [run_callFunc_extern (e := Extern.MathSqrt.sqrt) Try.func49 (by kernel_rfl) (by kernel_rfl) (by kernel_rfl) (by kernel_rfl)]
  rw [h1]
  rfl
theorem sqrt_any (x : Nat) (w : World) : Calls Try.prog 43 #[.float .f64 x] w (FlR (Root x) w) := by
  obtain ⟨r, w2, hrun, hres, hw⟩ := sqrt_call w x
  go_enter Try.func43, Try.ntmps43
  go_wp2
  go_returns
  exact ⟨r, hres.out, rfl, hw.out.below _⟩
end Go.Proofs.Ytbkofiflfcfjfaa
