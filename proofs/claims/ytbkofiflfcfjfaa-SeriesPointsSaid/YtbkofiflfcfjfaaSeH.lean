/- Series: a row made of its bits, with a mark behind; is it as it was; a told row spoilt. -/
import Derived.Test.YtbkofiflfcfjfaaSeG
set_option linter.unusedSimpArgs false
set_option linter.unusedVariables false
namespace Go.Proofs.Ytbkofiflfcfjfaa
open Go.RowKit Go.Kp Go.Ser

theorem frombits (x : Nat) (w : World) : (callFunc 10 #[.int .u64 (x : Int)]).run Try.prog w = .ok (.value (.float .f64 x)) w := by
  rw [run_callFunc_extern (e := Extern.MathFloatBits.float64frombits) Try.func10 (by kernel_rfl) (by kernel_rfl) (by kernel_rfl) (by kernel_rfl)]
  rfl
theorem tobits (x : Nat) (w : World) : (callFunc 42 #[.float .f64 x]).run Try.prog w = .ok (.value (.int .u64 x)) w := by
  rw [run_callFunc_extern (e := Extern.MathFloatBits.float64bits) Try.func42 (by kernel_rfl) (by kernel_rfl) (by kernel_rfl) (by kernel_rfl)]
  rfl
/-- The bits of a row. -/
abbrev us (l : List Nat) : List Value := l.map fun (x : Nat) => Value.int .u64 (x : Int)
theorem us_at {w wr : World} {b off k x : Nat} {l : List Nat} (hb : b < w.heap.size) (hB : Below w.heap.size w wr) (hc : ∀ (j : Nat) u, (us l)[j]? = some u → w.cell? ⟨b, off + j, none⟩ = some u) (hx : l[k]? = some x) :
    wr.cell? ⟨b, off + k, none⟩ = some (.int .u64 x) :=
  (hB.cell (p := ⟨b, off + k, none⟩) hb).trans (hc k _ (by rw [List.getElem?_map, hx]; rfl))
theorem us_ne {l : List Nat} {n : Nat} (hl : l.length = n) (hn : 0 < n) : us l ≠ [] := by
  intro h
  rw [List.map_eq_nil_iff.1 h] at hl; simp at hl; omega

/-- append of one number, told in full. -/
theorem append_fl2 {w : World} {ops : Array Oper} {rest : List Oper} {o : Oper} {a : Act} {Q : Exit → Act → World → Prop} (hgd : o.guard = none) (s x : Operand)
    (ho : o.op = .call { callee := .builtin .append, args := #[s, x], argTypes := #[45, 45] })
    (base : Nat) (v : Value) (n : Nat) (xs : List Nat) (hs : a.eval s = v) (hown : w.ownsRow base 25 1 v n (fl xs))
    (g y c : Nat) (hx : a.eval x = .slice (some ⟨g, 0, none⟩) 1 c) (hcell : w.cell? ⟨g, 0, none⟩ = some (.float .f64 y)) (hn : n + 1 ≤ 17592186044416) (hbase : base ≤ w.heap.size)
    (h : ∀ v' w', Hid (w'.ownsRow base 25 1 v' (n + 1) (fl (xs ++ [y]))) → Hid (w.grownBy w' v.ownBlock) → Hid (v'.ownBlock = v.ownBlock ∨ v'.ownBlock = some w.heap.size) → wpList Try.prog ops Q rest (a.put o.dst v') w') :
    wpList Try.prog ops Q (o :: rest) a w := by
  obtain ⟨i0, hi, hz0, hz1, hz2⟩ := info_parts infoF
  refine wpList_append_own_at w hgd s x 45 ho base 25 i0 (.float .f64 0) 1 8 Try.underlying45 hi hz0 hz1 hz2 rfl (by omega) v n (fl xs) hs hown ⟨g, 0, none⟩ 1 c [.float .f64 y] hx rfl ?_ (fun u hu => by simp at hu; subst hu; rfl) (by unfold maxLen; omega) (by omega) hbase ?_
  · intro j u hu
    rw [Go.WideShapes.add_plain]
    match j, hu with
    | 0, hu => simp at hu; subst hu; simpa using hcell
  · intro v' w' k1 k2 _ k3
    exact h v' w' (by rw [fl, List.map_append]; exact k1) k2 k3

/-- A row, with its mark behind. -/
def Marked (w : World) (g n c : Nat) (l : List Nat) : Prop := l.length = n ∧ n + 1 ≤ c ∧ g < w.heap.size ∧ ∀ (j : Nat) u, (fl (l ++ [4661386143026118656]))[j]? = some u → w.cell? ⟨g, j, none⟩ = some u
theorem Marked.rd {w : World} {g n c : Nat} {l : List Nat} (h : Marked w g n c l) : Rd w w.heap.size (some ⟨g, 0, none⟩) (fl l) :=
  .inr ⟨g, 0, rfl, h.2.2.1, fun j u hu => by
    rw [Nat.zero_add]
    exact h.2.2.2 j u (by rw [fl, List.map_append, List.getElem?_append_left (List.getElem?_eq_some_iff.1 hu).1]; exact hu)⟩
theorem Marked.keep {w w' : World} {g n c : Nat} {l : List Nat} (h : Marked w g n c l) (hs : w.heap.size ≤ w'.heap.size) (hb : w'.heap[g]? = w.heap[g]?) : Marked w' g n c l :=
  ⟨h.1, h.2.1, Nat.lt_of_lt_of_le h.2.2.1 hs, fun j u hu => (World.cell?_of_block (a := ⟨g, j, none⟩) hb).trans (h.2.2.2 j u hu)⟩

set_option maxHeartbeats 1000000 in
theorem row_any (a : Option Addr) (n cap : Nat) (l : List Nat) (w : World) (hl : l.length = n) (hn : n ≤ 1048576) (hr : Rd w w.heap.size a (us l)) :
    Calls Try.prog 21 #[.slice a n cap] w fun e w' => ∃ g c, e = .returned (.slice (some ⟨g, 0, none⟩) n c) ∧ w.heap.size ≤ g ∧ Marked w' g n c l ∧ Below w.heap.size w w' := by
  obtain ⟨hnp⟩ : Nonempty (n ≤ 4611686018427387904) := ⟨by omega⟩
  have hF := frombits
  have HL := Lib.hid hl
  have HR := Lib.hid hr
  clear hl hr
  go_enter Try.func21, Try.ntmps21
  go_wp2
  go_loopw [3, 4] (fun v i wr => ∃ k : Nat, k ≤ n ∧ i = .int .i64 k ∧ wr.ownsRow w.heap.size 25 1 v k (fl (l.take k)) ∧ Below w.heap.size w wr) (fun _ i _ => n - (intOf i).toNat)
  case atStart => exact ⟨0, by omega, by go_num, World.ownsRow_nil _ _ _ _, by go_grown⟩
  case round =>
    obtain ⟨k, hk, rfl, hO, hB⟩ := hrel
    have HO := Lib.hid hO
    clear hO
    have hsz := hB.size
    rcases Nat.lt_or_ge k n with hlt | hge
    · rcases HR.out with hr | ⟨b, off, rfl, hb, hc⟩
      · exact absurd hr (us_ne HL.out (by omega))
      obtain ⟨x, hx⟩ := some_at HL.out hlt
      have e := us_at hb hB hc hx
      have HT := Lib.hid (take_next hx)
      clear hx hc
      go_upto_region 5 with (fail)
      apply wp_region_lit
      iterate 7 (go_step; go_step; rename_i KK hKK; (with_reducible refine hKK _ _ ?_); clear hKK KK)
      (with_reducible refine append_fl ?_ (.tmp 11) (.tmp 17) ?_ w.heap.size u3 k (l.take k) ?_ ?_ wr.heap.size x 1 ?_ ?_ ?_ ?_ ?_)
      · rfl
      · rfl
      · rfl
      · exact HO.out.alloc _
      · rfl
      · rw [cell_of_row _ _ _ _ _ _ (heap_at rfl)]; rfl
      · omega
      · simp; omega
      intro v1 w5 ho hb5
      have HB5 : Below w.heap.size w w5 := (show Below w.heap.size w (wr.alloc (Obj.cells #[.float .f64 x] 25)) by go_grown).trans hb5
      clear hb5
      go_wp2_with fail
      go_roundw
      case rel => exact ⟨k + 1, by omega, by go_num, by rw [HT.out]; exact ho.out, HB5⟩
      case measure => simp [intOf]; omega
    · obtain rfl : k = n := by omega
      have HO2 : Hid (wr.ownsRow w.heap.size 25 1 u3 k (fl l)) := Lib.hid (by have := HO.out; rwa [List.take_of_length_le (by rw [HL.out]; omega)] at this)
      clear HO
      go_upto_region 6 with (fail)
      apply wp_region_lit
      iterate 2 (go_step; go_step; rename_i KK hKK; (with_reducible refine hKK _ _ ?_); clear hKK KK)
      (with_reducible refine append_fl ?_ (.tmp 19) (.tmp 20) ?_ w.heap.size u3 k l ?_ ?_ wr.heap.size 4661386143026118656 1 ?_ ?_ ?_ ?_ ?_)
      · rfl
      · rfl
      · rfl
      · exact HO2.out.alloc _
      · rfl
      · rw [cell_of_row _ _ _ _ _ _ (heap_at rfl)]; rfl
      · omega
      · simp; omega
      intro v1 w5 ho hb5
      have HB5 : Below w.heap.size w w5 := (show Below w.heap.size w (wr.alloc (Obj.cells #[.float .f64 4661386143026118656] 25)) by go_grown).trans hb5
      clear hb5
      obtain ⟨g, c, rfl, hg1, hg2⟩ := World.ownsRow.form ho.out (by omega)
      have hc : k + 1 ≤ c := by
        rcases ho.out.2 with ⟨h, _⟩ | ⟨_, _, _, h, _, _, h2, _⟩
        · cases h
        · cases h; exact h2
      go_wp2_with fail
      go_returns
      exact ⟨g, c, rfl, hg1, ⟨HL.out, hc, hg2, fun j u hu => (ho.out.cellAt j (by have := (List.getElem?_eq_some_iff.1 hu).1; simp [HL.out] at this; omega)).trans hu⟩, HB5⟩

set_option maxHeartbeats 1000000 in
theorem kept_any (g n c : Nat) (a : Option Addr) (cap : Nat) (l : List Nat) (w : World) (hn : n ≤ 1048576) (hM : Marked w g n c l) (hr : Rd w w.heap.size a (us l)) :
    Calls Try.prog 25 #[.slice (some ⟨g, 0, none⟩) n c, .slice a n cap] w (Ret (.bool true) w) := by
  obtain ⟨hnp⟩ : Nonempty (n ≤ 4611686018427387904) := ⟨by omega⟩
  have hF := tobits
  have HR := Lib.hid hr
  have HM := Lib.hid hM
  have eo : FloatKind.f64.format.order 4661386143026118656 4661386143026118656 = some .eq := order_self (by unfold nanP; decide +kernel)
  have em : w.cell? ⟨g, n, none⟩ = some (.float .f64 4661386143026118656) := hM.2.2.2 n _ (by rw [List.getElem?_map, List.getElem?_append_right (by rw [hM.1]; omega), hM.1]; simp)
  obtain ⟨hl, hc, hg, _⟩ := hM
  have HL := Lib.hid hl
  clear hl hr
  go_enter Try.func25, Try.ntmps25
  go_wp2
  clear eo em
  go_loopw [5] (fun i wr => ∃ k : Nat, k ≤ n ∧ i = .int .i64 k ∧ Below w.heap.size w wr) (fun i _ => n - (intOf i).toNat)
  case atStart => exact ⟨0, Nat.zero_le _, rfl, by go_grown⟩
  case round =>
    obtain ⟨k, hk, rfl, hB⟩ := hrel
    rcases Nat.lt_or_ge k n with hlt | hge
    · rcases HR.out with hr | ⟨b, off, rfl, hb, hc⟩
      · exact absurd hr (us_ne HL.out (by omega))
      obtain ⟨x, hx⟩ := some_at HL.out hlt
      have e := us_at hb hB hc hx
      have e1 : wr.cell? ⟨g, k, none⟩ = some (.float .f64 x) := (hB.cell (p := ⟨g, k, none⟩) hg).trans (HM.out.2.2.2 k _ (by rw [List.getElem?_map, List.getElem?_append_left (by rw [HL.out]; exact hlt), hx]; rfl))
      clear hx hc
      go_wp2_with fail
      (refine region_keep (fun _ => True) 21 [(0, true), (1, true), (2, true), (3, true), (4, true), (5, true), (6, true), (7, true), (8, true), (9, true), (10, true), (11, true), (12, true), (13, true), (14, true), (15, true), (16, true), (17, true), (18, true), (19, true), (20, true)] (by kernel_rfl) (fun _ _ d _ _ h => by cases d <;> exact h) (by kernel_rfl) ?_; simp only [withOps, List.getElem?_toArray, List.getElem?_cons_zero, List.getElem?_cons_succ, List.drop_succ_cons, List.drop_zero])
      (iterate 11 (refine keep_quiet (v := ?_) rfl ?_ ?_; rotate_left; (focus (intro w' hw'; go_simp; (try with_reducible rfl); done)); try simp only [Act.put, List.setIfInBounds_toArray, List.set_cons_zero, List.set_cons_succ]))
      (iterate 9 ((with_reducible refine plan_skip ?_ ?_); (focus rfl); try simp only [Act.put, List.setIfInBounds_toArray, List.set_cons_zero, List.set_cons_succ]))
      (iterate 1 (refine keep_quiet (v := ?_) rfl ?_ ?_; rotate_left; (focus (intro w' hw'; go_simp; (try with_reducible rfl); done)); try simp only [Act.put, List.setIfInBounds_toArray, List.set_cons_zero, List.set_cons_succ]))
      (with_reducible refine plan_end ?_)
      (try simp only [Act.put, List.setIfInBounds_toArray, List.set_cons_zero, List.set_cons_succ])
      go_wp2
      go_roundw
      case rel => exact ⟨k + 1, by omega, by go_num, by go_grown⟩
      case measure => simp [intOf]; omega
    · go_wp2
      go_returns
      exact ⟨rfl, hB⟩
end Go.Proofs.Ytbkofiflfcfjfaa
