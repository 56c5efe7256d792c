/- Panes of a key. -/
import Derived.Test.YtbkofiflfcfjfaaSqS
set_option linter.unusedSimpArgs false
set_option linter.unusedVariables false
namespace Go.Proofs.Ytbkofiflfcfjfaa.Px
open Go.RowKit Go.Kp Go.St Go.Ser

def ofL (key : ByteArray) (L : List Pn) : List Pn := L.filter fun p => decide (p.key = key)
theorem ofL_snoc {key : ByteArray} {L : List Pn} {x : Pn} : ofL key (L ++ [x]) = ofL key L ++ (if x.key = key then [x] else []) := by
  unfold ofL
  rw [List.filter_append]
  congr 1
  by_cases h : x.key = key <;> simp [List.filter_cons, h]
theorem ofL_len {key : ByteArray} {L : List Pn} : (ofL key L).length ≤ L.length := List.length_filter_le _ _
theorem take_one {α : Type} {L : List α} {k : Nat} {x : α} (h : L[k]? = some x) : L.take (k + 1) = L.take k ++ [x] := by rw [List.take_add_one, h]; rfl
/-- append of one pane. -/
theorem append_pane {w : World} {ops : Array Oper} {rest : List Oper} {o : Oper} {a : Act} {Q : Exit → Act → World → Prop} (hgd : o.guard = none) (s x : Operand)
    (ho : o.op = .call { callee := .builtin .append, args := #[s, x], argTypes := #[85, 85] })
    (base : Nat) (v : Value) (n : Nat) (xs : List Pn) (hs : a.eval s = v) (hown : w.ownsRow base 92 9 v n (xs.flatMap Pn.cl))
    (g c : Nat) (p : Pn) (hx : a.eval x = .slice (some ⟨g, 0, none⟩) 1 c) (hb : Blk w g 92 (valC p)) (hn : n + 1 ≤ 1048576) (hbase : base ≤ w.heap.size)
    (h : ∀ v' w', Hid (w'.ownsRow base 92 9 v' (n + 1) ((xs ++ [p]).flatMap Pn.cl)) → Below base w w' → wpList Try.prog ops Q rest (a.put o.dst v') w') :
    wpList Try.prog ops Q (o :: rest) a w :=
  append_thing hgd s x 85 92 _ 9 80 ho Try.underlying85 infoP rfl (by omega) base v n (xs.flatMap Pn.cl) hs hown g c hx p.cl rfl
    (fun j u hu => (hb.cell j).trans (by simpa using hu)) (fun u hu => Pn.one (l := [p]) u (by simpa using hu)) (by omega) (by omega) hbase (fun v' w' h1 h2 => h v' w' (Lib.hid (by have h3 := h1.out; rw [List.flatMap_append]; simpa using h3)) h2)

set_option maxRecDepth 100000 in
set_option maxHeartbeats 8000000 in
theorem Of_any (a : Option Addr) (n cap : Nat) (key : ByteArray) (L : List Pn) (w : World) (hl : L.length = n) (hn : n ≤ 200) (hr : Rd w w.heap.size a (L.flatMap Pn.cl)) :
    Calls Try.prog 45 #[.slice a n cap, .string key] w fun e w' => ∃ v, e = .returned v ∧ w'.ownsRow w.heap.size 92 9 v (ofL key L).length ((ofL key L).flatMap Pn.cl) ∧ Below w.heap.size w w' := by
  have HL := Lib.hid hl
  have HR := Lib.hid hr
  clear hl hr
  go_enter Try.func45, Try.ntmps45
  go_wp2_with fail
  go_loopw [5, 7, 10] (fun v _ vi wr => ∃ (k : Nat), vi = .int .i64 k ∧ k ≤ n ∧ wr.ownsRow w.heap.size 92 9 v (ofL key (L.take k)).length ((ofL key (L.take k)).flatMap Pn.cl) ∧ Below w.heap.size w wr) (fun _ _ vi _ => n - (intOf vi).toNat)
  case atStart => exact ⟨0, rfl, Nat.zero_le _, World.ownsRow_nil _ _ _ _, by go_grown⟩
  case round =>
    rename World => wr
    obtain ⟨k, rfl, hk, hO, hB⟩ := hrel
    have HO := Lib.hid hO
    have HB := Lib.hid hB
    have hsz := hB.size
    clear hO hB
    rcases Nat.lt_or_ge k n with hlt | hge
    · obtain ⟨x, hx⟩ : ∃ x, L[k]? = some x := ⟨_, List.getElem?_eq_getElem (by rw [HL.out]; exact hlt)⟩
      have HX := Lib.hid hx
      rcases HR.out with hr | ⟨b, off, rfl, hbl, hcc⟩
      · have h := flat_length Pn.cl 9 Pn.cl_len L
        rw [hr, HL.out] at h
        simp at h
        omega
      have e := fun j hj => (HB.out.cell (p := ⟨b, off + (k * 9 + j), none⟩) hbl).trans (pn_at hcc k x hx j hj)
      have hbw : b < wr.heap.size := by omega
      have e0 := e 0 (by omega)
      have e1 := e 1 (by omega)
      have e2 := e 2 (by omega)
      have e3 := e 3 (by omega)
      have e4 := e 4 (by omega)
      have e5 := e 5 (by omega)
      have e6 := e 6 (by omega)
      have e7 := e 7 (by omega)
      have e8 := e 8 (by omega)
      clear e hx hcc
      simp only [← Nat.add_assoc, Nat.add_zero, List.getElem?_cons_zero, List.getElem?_cons_succ] at e0 e1 e2 e3 e4 e5 e6 e7 e8
      have kin : (k : Int) < (n : Int) := by omega
      have hol : (ofL key (L.take k)).length ≤ k := Nat.le_trans ofL_len (by simp; omega)
      go_upto_region 5 with (fail)
      refine wp_at (fun Z => Blk Z wr.heap.size 92 (valC x) ∧ Below wr.heap.size wr Z ∧ Z.heap.size = wr.heap.size + 1) ⟨by simp (disch := (first | omega | (simp only [World.size_alloc, World.size_setCell, World.size_drew] <;> omega) | fail)) only [Blk, heap_old, heap_at, heap_set_same, heap_set_ne, heap_drew', Option.map_some, putO_cells], by go_grown, by simp⟩ ?_
      rintro wz ⟨hZ, hBZ, hSZ⟩
      have HZ := Lib.hid hZ
      have HBZ := Lib.hid (HB.out.trans (hBZ.mono hsz))
      have HOZ := Lib.hid (owns_keep HO.out (fun q _ hq => hBZ.block q hq))
      have cz := hZ.cell
      have lz := hZ.lt
      clear hZ hBZ hSZ e0 e1 e2 e3 e4 e5 e6 e7 e8 HO HB
      rcases Decidable.em (x.key = key) with hxk | hxk
      · have hxk2 : (x.key.toList == key.toList) = true := by rw [hxk]; simp
        have HXK := Lib.hid hxk
        clear hxk
        go_upto_region 6 with (fail)
        apply wp_region_lit
        iterate 3 (go_step; go_step; rename_i KK hKK; (with_reducible refine hKK _ _ ?_); clear hKK KK)
        refine append_pane rfl (.tmp 18) (.tmp 20) rfl w.heap.size u5 _ _ rfl (HOZ.out.alloc _) wz.heap.size 1 x rfl (heap_at rfl) (by omega) (by have := HBZ.out.size; simp; omega) ?_
        intro v5 w5 ho5 hb5
        have HO5 := ho5
        have HB5 := Lib.hid (Below.trans (show Below w.heap.size w (wz.alloc (.cells (valC x) 92 (0, 0))) by have h := HBZ.out; go_grown) hb5)
        clear ho5 hb5 cz lz
        go_wp2_with fail
        go_roundw
        case rel =>
          refine ⟨k + 1, by go_num, by omega, ?_, HB5.out⟩
          rw [take_one HX.out, ofL_snoc, if_pos HXK.out, List.length_append]
          exact HO5.out
        case measure => simp [intOf]; omega
      · have hxk2 : (x.key.toList == key.toList) = false := by
          simp only [beq_eq_false_iff_ne]
          exact fun h => hxk (Tm.toList_inj h)
        have HXK := Lib.hid hxk
        clear hxk
        go_wp2_with fail
        go_roundw
        case rel =>
          refine ⟨k + 1, by go_num, by omega, ?_, HBZ.out⟩
          rw [take_one HX.out, ofL_snoc, if_neg HXK.out, List.append_nil]
          exact HOZ.out
        case measure => simp [intOf]; omega
    · obtain rfl : k = n := by omega
      have hTk : L.take k = L := List.take_of_length_le (by rw [HL.out]; exact Nat.le_refl _)
      rw [hTk] at HO
      clear hTk
      have kin : ¬ (k : Int) < (k : Int) := by omega
      go_wp2_with fail
      go_returns
      exact ⟨u5, rfl, HO.out, HB.out⟩
end Go.Proofs.Ytbkofiflfcfjfaa.Px
