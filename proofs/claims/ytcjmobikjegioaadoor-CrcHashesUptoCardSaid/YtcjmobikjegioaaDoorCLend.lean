/- The kit's LendBytes and KeptBytes. -/
import Derived.Test.YtcjmobikjegioaaDoorCEq
import Derived.Test.YtcjmobikjegioaaDoorFork
import Derived.Laws.AppendOwnNone
import Derived.Maps.AppendAt
import Derived.Deep.Cut
import Derived.Deep.AppendLies
set_option linter.unusedSimpArgs false
set_option linter.unusedVariables false
namespace Go.Proofs.YtcjmobikjegioaaDoor
open Go.RowKit Go.Kp

/-- Bytes with the three marks behind them. -/
def marked (l : List UInt8) : List UInt8 := l ++ [165, 166, 167]
theorem marked_len (l : List UInt8) : (marked l).length = l.length + 3 := by simp [marked]
theorem marked_at (l : List UInt8) (k : Nat) (h : k < 3) : (marked l)[l.length + k]? = some (UInt8.ofNat (165 + k)) := by
  rw [marked, List.getElem?_append_right (by omega), Nat.add_sub_cancel_left]
  match k, h with
  | 0, _ => rfl
  | 1, _ => rfl
  | 2, _ => rfl
theorem mark_val (k : Nat) (h : k < 3) : B8 (UInt8.ofNat (165 + k)) = .int .u8 (165 + (k : Int)) := by
  match k, h with
  | 0, _ => rfl
  | 1, _ => rfl
  | 2, _ => rfl
theorem marked_take (l : List UInt8) (k : Nat) (h : k < 3) : ((marked l).take (l.length + (k + 1))).map B8 = ((marked l).take (l.length + k)).map B8 ++ [.int .u8 (165 + (k : Int))] := by
  rw [← Nat.add_assoc, List.take_add_one, marked_at l k h, List.map_append, ← mark_val k h]; rfl

/-- append of bytes that are read, nil or not, to a row that the call owns. -/
theorem append_bytes {w : World} {ops : Array Oper} {rest : List Oper} {o : Oper} {a : Act} {Q : Exit → Act → World → Prop} (hgd : o.guard = none) (s x : Operand)
    (ho : o.op = .call { callee := .builtin .append, args := #[s, x], argTypes := #[24, 24] })
    (base : Nat) (v : Value) (n : Nat) (xs : List Value) (hs : a.eval s = v) (hown : w.ownsRow base 5 1 v n xs)
    (ad : Option Addr) (m c : Nat) (l : List UInt8) (hx : a.eval x = .slice ad m c) (hn : ad = none → c = 0) (hl : l.length = m) (hr : Rd w w.heap.size ad (l.map B8))
    (hb : n + m ≤ 140737488355328) (hbase : base ≤ w.heap.size)
    (h : ∀ v' w', w'.ownsRow base 5 1 v' (n + m) (xs ++ l.map B8) → w.grownBy w' v.ownBlock → (v'.ownBlock = v.ownBlock ∨ v'.ownBlock = some w.heap.size) → wpList Tryd.prog ops Q rest (a.put o.dst v') w') :
    wpList Tryd.prog ops Q (o :: rest) a w := by
  obtain ⟨i0, hi, hz0, hz1, hz2⟩ := info_parts info5
  have key : ∀ (ad : Addr), a.eval x = .slice (some ad) m c → (∀ j u, (l.map B8)[j]? = some u → w.cell? (ad.add j) = some u) → wpList Tryd.prog ops Q (o :: rest) a w := fun ad hx hc => by
    refine wpList_append_own_at w hgd s x 24 ho base 5 i0 _ 1 1 Tryd.underlying24 hi hz0 hz1 hz2 rfl (by omega) v n xs hs hown ad m c (l.map B8) hx (by simp [hl]) hc ?_ (by unfold maxLen; omega) (by omega) hbase ?_
    · intro u hu
      obtain ⟨z, _, rfl⟩ := List.mem_map.1 hu
      rfl
    · intro v' w' h1 h2 _ h4
      exact h v' w' h1 h2 h4
  cases ad with
  | none =>
    have h0 : l = [] := by
      rcases hr with hr | ⟨b, off, h, _⟩
      · exact List.map_eq_nil_iff.1 hr
      · cases h
    subst h0
    have hc := hn rfl
    subst hc
    simp at hl
    subst hl
    refine wpList_append_own_none hgd s x 24 ho base 5 i0 1 Tryd.underlying24 hi v n xs hs hown hx ?_
    exact h v w (by simpa using hown) (World.grownBy.refl _ _) (.inl rfl)
  | some ad =>
    refine key ad hx fun j u hu => ?_
    rcases hr with hr | ⟨b, off, h, _, hc⟩
    · rw [hr] at hu; simp at hu
    · cases h
      rw [Go.WideShapes.add_plain]
      exact hc j u hu

set_option maxHeartbeats 2000000 in
theorem lend_any (a : Option Addr) (n cap : Nat) (l : List UInt8) (w : World) (hl : l.length = n) (hn : n ≤ 140737488351232) (ha : a = none → cap = 0) (hr : Rd w w.heap.size a (l.map B8)) :
    Calls Tryd.prog 11 #[.slice a n cap] w fun e w' => ∃ g c cs, e = .returned (.slice (some ⟨g, 0, none⟩) n c) ∧ n + 3 ≤ c ∧ c ≤ maxLen ∧ w.heap.size ≤ g ∧ Blk w' g 5 cs ∧ cs.size = c ∧
      cs.toList.take (n + 3) = (marked l).map B8 ∧ Below w.heap.size w w' := by
  have HR := Lib.hid hr
  have HL := Lib.hid hl
  have HA := Lib.hid ha
  clear hr hl ha
  go_enter Tryd.func11, Tryd.ntmps11
  go_upto_region 1 with (fail)
  apply wp_region_lit
  iterate 2 (go_step; go_step; rename_i KK hKK; (with_reducible refine hKK _ _ ?_); clear hKK KK)
  (with_reducible refine append_bytes ?_ (.tmp 5) (.tmp 6) ?_ w.heap.size (.slice (some ⟨w.heap.size, 0, none⟩) 0 0) 0 [] ?_ ?_ a n cap l ?_ HA.out HL.out ?_ ?_ ?_ ?_)
  · rfl
  · rfl
  · rfl
  · exact ⟨rfl, .inr ⟨w.heap.size, 0, #[], rfl, Nat.le_refl _, heap_at rfl, Nat.le_refl _, by unfold maxLen; omega, rfl, rfl⟩⟩
  · rfl
  · exact (HR.out.below (by go_grown)).more (by simp)
  · omega
  · simp
  intro v1 w1 ho hg _
  rw [Nat.zero_add, List.nil_append] at ho
  have hB1 : Below w.heap.size w w1 := by
    refine Below.grown (show Below w.heap.size w (w.alloc (Obj.cells #[] 5)) by go_grown) hg (by simp) ?_
    intro kk hkk
    simp [Value.ownBlock] at hkk
    omega
  have HO := Lib.hid ho
  clear ho hg
  go_wp2_with fail
  go_loopw [3, 4] (fun v i wr => ∃ k : Nat, k ≤ 3 ∧ i = .int .i64 k ∧ wr.ownsRow w.heap.size 5 1 v (n + k) (((marked l).take (l.length + k)).map B8) ∧ Below w.heap.size w wr) (fun _ i _ => 3 - (intOf i).toNat)
  case atStart => exact ⟨0, Nat.zero_le _, rfl, by rw [Nat.add_zero, Nat.add_zero, marked, List.take_left]; exact HO.out, hB1⟩
  case round =>
    obtain ⟨k, hk, rfl, ho, hB⟩ := hrel
    have HK := Lib.hid ho
    clear ho
    have hs := hB.size
    rcases Nat.lt_or_ge k 3 with hlt | hge
    · have HM := Lib.hid (marked_take l k hlt)
      have HV := Lib.hid (mark_val k hlt)
      go_upto_region 5 with (fail)
      apply wp_region_lit
      iterate 5 (go_step; go_step; rename_i KK hKK; (with_reducible refine hKK _ _ ?_); clear hKK KK)
      (with_reducible refine append_bytes ?_ (.tmp 12) (.tmp 16) ?_ w.heap.size u3 (n + k) _ ?_ (HK.out.alloc _) (some ⟨wr.heap.size, 0, none⟩) 1 1 [UInt8.ofNat (165 + k)] ?_ (fun h => by cases h) rfl ?_ ?_ ?_ ?_)
      · rfl
      · rfl
      · rfl
      · rfl
      · refine .inr ⟨wr.heap.size, 0, rfl, by simp, fun j u hu => ?_⟩
        rw [cell_of_row _ _ _ _ _ _ (heap_at rfl), Nat.zero_add]
        rw [List.map_cons, List.map_nil, HV.out] at hu
        simpa using hu
      · omega
      · simp; omega
      intro v2 w2 ho2 hg2 _
      rw [List.map_cons, List.map_nil, HV.out] at ho2
      have hB2 : Below w.heap.size w w2 := by
        refine Below.grown (show Below w.heap.size w (wr.alloc (Obj.cells #[.int .u8 (165 + (k : Int))] 5)) by go_grown) hg2 (by simp; omega) ?_
        intro kk hkk
        rcases Nat.lt_or_ge kk w.heap.size with h | h
        · exact absurd hkk.symm (owns_far HK.out h)
        · exact h
      have HO2 := Lib.hid ho2
      clear ho2 hg2 hB
      go_wp2_with fail
      go_roundw
      case rel => exact ⟨k + 1, by omega, by go_num, by rw [HM.out]; exact HO2.out, hB2⟩
      case measure => simp [intOf]; omega
    · obtain ⟨hxl, h0 | ⟨g, c, cs, rfl, hg1, hg2, hg3, hg4, hg5, hg6⟩⟩ := HK.out
      · omega
      have hc : n + 3 ≤ c := by omega
      have hc0 : (n : Int) ≤ (c : Int) := by omega
      have HG := Lib.hid (And.intro hg2 (And.intro hg5 hg6))
      clear hg2 hg5 hg6 hxl
      go_wp2_with fail
      go_returns
      obtain ⟨hg2, hg5, hg6⟩ := HG.out
      have hm : (marked l).take (l.length + k) = marked l := List.take_of_length_le (by rw [marked_len]; omega)
      refine ⟨g, c, cs, rfl, hc, hg4, hg1, hg2, by rw [hg5, Nat.mul_one], ?_, by go_grown⟩
      rw [hm, Nat.mul_one, show k = 3 by omega] at hg6
      exact hg6

theorem str_beq (l l' : List UInt8) : ((strOf l).toList == (strOf l').toList) = decide (l = l') := by
  rw [ByteArray.toList_eq, ByteArray.toList_eq]
  show (l == l') = decide (l = l')
  by_cases h : l = l'
  · subst h; simp
  · simp [h]

theorem bytesEq_any (a a' : Option Addr) (n n' cap cap' : Nat) (l l' : List UInt8) (w : World) (hl : l.length = n) (hl' : l'.length = n') (hr : Rd w w.heap.size a (l.map B8)) (hr' : Rd w w.heap.size a' (l'.map B8)) :
    Calls Tryd.prog 41 #[.slice a n cap, .slice a' n' cap'] w (Ret (.bool (decide (l = l'))) w) := by
  have h1 := conv_rd a n cap l hl w _ hr
  have h2 := conv_rd a' n' cap' l' hl' w _ hr'
  have HE := Lib.hid (str_beq l l')
  clear hr hr' hl hl'
  go_enter Tryd.func41, Tryd.ntmps41
  go_wp2
  go_returns
  exact ⟨congrArg (fun b => Ending.returned (.bool b)) HE.out, by go_grown⟩

/-- What KeptBytes asks: the bytes, and the marks behind them. -/
theorem kept_any (g capm : Nat) (a : Option Addr) (n cap : Nat) (l : List UInt8) (w : World) (hl : l.length = n) (hn : n ≤ 140737488351232) (hcap : n + 3 ≤ capm) (hg : g < w.heap.size)
    (hm : ∀ (j : Nat) u, ((marked l).map B8)[j]? = some u → w.cell? ⟨g, j, none⟩ = some u) (hr : Rd w w.heap.size a (l.map B8)) :
    Calls Tryd.prog 16 #[.slice (some ⟨g, 0, none⟩) n capm, .slice a n cap] w (Ret (.bool true) w) := by
  have e0 : w.cell? ⟨g, n, none⟩ = some (.int .u8 165) := hm n _ (by simp [marked, ← hl])
  have e1 : w.cell? ⟨g, n + 1, none⟩ = some (.int .u8 166) := hm (n + 1) _ (by simp [marked, ← hl])
  have e2 : w.cell? ⟨g, n + 2, none⟩ = some (.int .u8 167) := hm (n + 2) _ (by simp [marked, ← hl])
  have hr2 : Rd w w.heap.size (some ⟨g, 0, none⟩) (l.map B8) := .inr ⟨g, 0, rfl, hg, fun j u hu => by
    rw [Nat.zero_add]
    refine hm j u ?_
    rw [marked, List.map_append, List.getElem?_append_left (List.getElem?_eq_some_iff.1 hu).1]
    exact hu⟩
  have HR := Lib.hid hr
  have HR2 := Lib.hid hr2
  have E0 := Lib.hid e0
  have E1 := Lib.hid e1
  have E2 := Lib.hid e2
  have HL := Lib.hid hl
  have hc1 : (n : Int) + 3 ≤ (capm : Int) := by omega
  clear hm hr hr2 e0 e1 e2 hl
  go_enter Tryd.func16, Tryd.ntmps16
  go_wp2_with fail
  refine (bytesEq_any _ _ n n _ _ l l _ HL.out HL.out HR2.out HR.out).mono ?_
  rintro en w1 ⟨rfl, hb⟩
  rw [decide_eq_true (rfl : l = l)]
  have hB : Below w.heap.size w w1 := bnext (by go_grown) hb
  have e0 := (hB.cell (p := ⟨g, n, none⟩) hg).trans E0.out
  have e1 := (hB.cell (p := ⟨g, n + 1, none⟩) hg).trans E1.out
  have e2 := (hB.cell (p := ⟨g, n + 2, none⟩) hg).trans E2.out
  clear hb
  go_wp2_with fail
  go_rounds 4
  go_returns
  exact ⟨rfl, by go_grown⟩
end Go.Proofs.YtcjmobikjegioaaDoor
