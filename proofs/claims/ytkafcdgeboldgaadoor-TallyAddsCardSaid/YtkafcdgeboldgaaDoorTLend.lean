/- The kit's LendInts: a copy of a list, with three marks behind it. -/
import Derived.Test.YtkafcdgeboldgaaDoorTInts
import Derived.Test.YtkafcdgeboldgaaDoorFork
import Derived.Laws.AppendOwnNone
import Derived.Maps.AppendAt
import Derived.Deep.Cut
import Derived.Deep.AppendLies
set_option linter.unusedSimpArgs false
set_option linter.unusedVariables false
namespace Go.Proofs.YtkafcdgeboldgaaDoor
open Go.RowKit Go.Kp

theorem info2 : (Tryd.prog.info? 2).map (fun i => (i.zero, i.size, i.bytes)) = some (some (.int .i64 0), 1, 8) := by kernel_rfl
theorem marked_len (l : List Int) : (marked l).length = l.length + 3 := by simp [marked]
theorem marked_at (l : List Int) (k : Nat) (h : k < 3) : (marked l)[l.length + k]? = some (-7000 - (k : Int)) := by
  rw [marked, List.getElem?_append_right (by omega), Nat.add_sub_cancel_left]
  match k, h with
  | 0, _ => rfl
  | 1, _ => rfl
  | 2, _ => rfl
theorem marked_take (l : List Int) (k : Nat) (h : k < 3) : ((marked l).take (l.length + (k + 1))).map (Value.int .i64) = ((marked l).take (l.length + k)).map (Value.int .i64) ++ [.int .i64 (-7000 - (k : Int))] := by
  rw [← Nat.add_assoc, List.take_add_one, marked_at l k h, List.map_append]; rfl

/-- append of numbers that are read, nil or not, to a row that the call owns. -/
theorem append_nums {w : World} {ops : Array Oper} {rest : List Oper} {o : Oper} {a : Act} {Q : Exit → Act → World → Prop} (hgd : o.guard = none) (s x : Operand)
    (ho : o.op = .call { callee := .builtin .append, args := #[s, x], argTypes := #[22, 22] })
    (base : Nat) (v : Value) (n : Nat) (xs : List Value) (hs : a.eval s = v) (hown : w.ownsRow base 2 1 v n xs)
    (ad : Option Addr) (m c : Nat) (l : List Int) (hx : a.eval x = .slice ad m c) (hn : ad = none → c = 0) (hl : l.length = m) (hr : Rd w w.heap.size ad (l.map (Value.int .i64)))
    (hb : n + m ≤ 17592186044416) (hbase : base ≤ w.heap.size)
    (h : ∀ v' w', w'.ownsRow base 2 1 v' (n + m) (xs ++ l.map (Value.int .i64)) → w.grownBy w' v.ownBlock → wpList Tryd.prog ops Q rest (a.put o.dst v') w') :
    wpList Tryd.prog ops Q (o :: rest) a w := by
  obtain ⟨i0, hi, hz0, hz1, hz2⟩ := info_parts info2
  cases ad with
  | none =>
    have h0 : l = [] := by
      rcases hr with hr | ⟨b, off, h, _⟩
      · exact List.map_eq_nil_iff.1 hr
      · cases h
    subst h0
    have hc := hn rfl
    subst hc
    simp at hl
    subst hl
    refine wpList_append_own_none hgd s x 22 ho base 2 i0 1 Tryd.underlying22 hi v n xs hs hown hx ?_
    exact h v w (by simpa using hown) (World.grownBy.refl _ _)
  | some ad =>
    refine wpList_append_own_at w hgd s x 22 ho base 2 i0 _ 1 8 Tryd.underlying22 hi hz0 hz1 hz2 rfl (by omega) v n xs hs hown ad m c (l.map (Value.int .i64)) hx (by simp [hl]) ?_ ?_ (by unfold maxLen; omega) (by omega) hbase ?_
    · intro j u hu
      rcases hr with hr | ⟨b, off, h, _, hc⟩
      · rw [hr] at hu; simp at hu
      · cases h
        rw [Go.WideShapes.add_plain]
        exact hc j u hu
    · intro u hu
      obtain ⟨z, _, rfl⟩ := List.mem_map.1 hu
      rfl
    · intro v' w' h1 h2 _ _
      exact h v' w' h1 h2

set_option maxHeartbeats 2000000 in
theorem lend_any (a : Option Addr) (n cap : Nat) (l : List Int) (w : World) (hl : l.length = n) (hn : n ≤ 17592186043904) (ha : a = none → cap = 0) (hr : Rd w w.heap.size a (l.map (Value.int .i64))) :
    Calls Tryd.prog 10 #[.slice a n cap] w fun e w' => ∃ g c, e = .returned (.slice (some ⟨g, 0, none⟩) n c) ∧ n + 3 ≤ c ∧ g < w'.heap.size ∧
      (∀ (j : Nat) u, ((marked l).map (Value.int .i64))[j]? = some u → w'.cell? ⟨g, j, none⟩ = some u) ∧ Below w.heap.size w w' := by
  have HR := Lib.hid hr
  have HL := Lib.hid hl
  have HA := Lib.hid ha
  clear hr hl ha
  go_enter Tryd.func10, Tryd.ntmps10
  go_upto_region 1 with (fail)
  apply wp_region_lit
  iterate 2 (go_step; go_step; rename_i KK hKK; (with_reducible refine hKK _ _ ?_); clear hKK KK)
  (with_reducible refine append_nums ?_ (.tmp 5) (.tmp 6) ?_ w.heap.size (.slice (some ⟨w.heap.size, 0, none⟩) 0 0) 0 [] ?_ ?_ a n cap l ?_ HA.out HL.out ?_ ?_ ?_ ?_)
  · rfl
  · rfl
  · rfl
  · exact ⟨rfl, .inr ⟨w.heap.size, 0, #[], rfl, Nat.le_refl _, heap_at rfl, Nat.le_refl _, by unfold maxLen; omega, rfl, rfl⟩⟩
  · rfl
  · exact (HR.out.below (by go_grown)).more (by simp)
  · omega
  · simp
  intro v1 w1 ho hg
  rw [Nat.zero_add, List.nil_append] at ho
  have hB1 : Below w.heap.size w w1 := by
    refine Below.grown (show Below w.heap.size w (w.alloc (Obj.cells #[] 2)) by go_grown) hg (by simp) ?_
    intro kk hkk
    simp [Value.ownBlock] at hkk
    omega
  have HO := Lib.hid ho
  clear ho hg
  go_wp2_with fail
  go_loopw [3, 4] (fun v i wr => ∃ k : Nat, k ≤ 3 ∧ i = .int .i64 k ∧ wr.ownsRow w.heap.size 2 1 v (n + k) (((marked l).take (l.length + k)).map (Value.int .i64)) ∧ Below w.heap.size w wr) (fun _ i _ => 3 - (intOf i).toNat)
  case atStart => exact ⟨0, Nat.zero_le _, rfl, by rw [Nat.add_zero, Nat.add_zero, marked, List.take_left]; exact HO.out, hB1⟩
  case round =>
    obtain ⟨k, hk, rfl, ho, hB⟩ := hrel
    have HK := Lib.hid ho
    clear ho
    have hs := hB.size
    rcases Nat.lt_or_ge k 3 with hlt | hge
    · have HM := Lib.hid (marked_take l k hlt)
      go_upto_region 5 with (fail)
      apply wp_region_lit
      iterate 4 (go_step; go_step; rename_i KK hKK; (with_reducible refine hKK _ _ ?_); clear hKK KK)
      (with_reducible refine append_nums ?_ (.tmp 12) (.tmp 15) ?_ w.heap.size u3 (n + k) _ ?_ (HK.out.alloc _) (some ⟨wr.heap.size, 0, none⟩) 1 1 [-7000 - (k : Int)] ?_ (fun h => by cases h) rfl ?_ ?_ ?_ ?_)
      · rfl
      · rfl
      · rfl
      · rfl
      · refine .inr ⟨wr.heap.size, 0, rfl, by simp, fun j u hu => ?_⟩
        rw [cell_of_row _ _ _ _ _ _ (heap_at rfl), Nat.zero_add]
        simpa using hu
      · omega
      · simp; omega
      intro v2 w2 ho2 hg2
      have hB2 : Below w.heap.size w w2 := by
        refine Below.grown (show Below w.heap.size w (wr.alloc (Obj.cells #[.int .i64 (-7000 - (k : Int))] 2)) by go_grown) hg2 (by simp; omega) ?_
        intro kk hkk
        rcases Nat.lt_or_ge kk w.heap.size with h | h
        · exact absurd hkk.symm (owns_far HK.out h)
        · exact h
      have HO2 := Lib.hid ho2
      clear ho2 hg2 hB
      go_wp2_with fail
      go_roundw
      case rel => exact ⟨k + 1, by omega, by go_num, by rw [HM.out]; exact HO2.out, hB2⟩
      case measure => simp [intOf]; omega
    · obtain rfl : k = 3 := by omega
      obtain ⟨g, c, rfl, hg1, hg2⟩ := World.ownsRow.form HK.out (by omega)
      have hc : n + 3 ≤ c := by
        rcases HK.out.2 with ⟨h, _⟩ | ⟨_, _, _, h, _, _, h2, _⟩
        · cases h
        · cases h; exact h2
      go_wp2_with fail
      go_returns
      refine ⟨g, c, rfl, hc, by simpa using hg2, fun j u hu => ?_, by go_grown⟩
      have hm : (marked l).take (l.length + 3) = marked l := by rw [← marked_len]; exact List.take_length
      have HO2 := HK.out
      rw [hm] at HO2
      have hj : j < (n + 3) * 1 := by
        have h1 := (List.getElem?_eq_some_iff.1 hu).1
        have h2 := HO2.1
        omega
      exact (HO2.cellAt j hj).trans hu
end Go.Proofs.YtkafcdgeboldgaaDoor
