/- TallyJoins: the walk. -/
import Derived.Test.YtkafcdgeboldgaaDoorTJoin
import Derived.Test.YtkafcdgeboldgaaDoorTWorks
import Derived.Test.YtkafcdgeboldgaaDoorFork
import Derived.Laws.AppendOwnNone
import Derived.Maps.AppendAt
import Derived.Deep.AppendLies
import Derived.Deep.Cut
set_option linter.unusedSimpArgs false
set_option linter.unusedVariables false
namespace Go.Proofs.YtkafcdgeboldgaaDoor
open Go.RowKit Go.Kp

theorem info24 : (Tryd.prog.info? 24).map (fun i => (i.zero, i.size, i.bytes)) = some (some (.agg #[.int .i64 0, .int .i64 0, .int .i64 0, .int .i64 0]), 4, 32) := by kernel_rfl
/-- append of tallies that are read, nil or not, to a row that the call owns. -/
theorem append_tallies {w : World} {ops : Array Oper} {rest : List Oper} {o : Oper} {a : Act} {Q : Exit → Act → World → Prop} (hgd : o.guard = none) (s x : Operand)
    (ho : o.op = .call { callee := .builtin .append, args := #[s, x], argTypes := #[32, 32] })
    (base : Nat) (v : Value) (n : Nat) (xs : List Value) (hs : a.eval s = v) (hown : w.ownsRow base 24 4 v n xs)
    (ad : Option Addr) (m c : Nat) (l : List Tally) (hx : a.eval x = .slice ad m c) (hn : ad = none → c = 0) (hl : l.length = m) (hr : Rd w w.heap.size ad (l.flatMap Tally.cells))
    (hb : n + m ≤ 4398046511104) (hbase : base ≤ w.heap.size)
    (h : ∀ v' w', w'.ownsRow base 24 4 v' (n + m) (xs ++ l.flatMap Tally.cells) → w.grownBy w' v.ownBlock → wpList Tryd.prog ops Q rest (a.put o.dst v') w') :
    wpList Tryd.prog ops Q (o :: rest) a w := by
  obtain ⟨i0, hi, hz0, hz1, hz2⟩ := info_parts info24
  cases ad with
  | none =>
    have h0 : l = [] := by
      rcases hr with hr | ⟨b, off, h, _⟩
      · have := flat_length Tally.cells 4 Tally.len l
        rw [hr] at this
        exact List.eq_nil_of_length_eq_zero (by simp at this; omega)
      · cases h
    subst h0
    have hc := hn rfl
    subst hc
    simp at hl
    subst hl
    refine wpList_append_own_none hgd s x 32 ho base 24 i0 4 Tryd.underlying32 hi v n xs hs hown hx ?_
    exact h v w (by simpa using hown) (World.grownBy.refl _ _)
  | some ad =>
    refine wpList_append_own_at w hgd s x 32 ho base 24 i0 _ 4 32 Tryd.underlying32 hi hz0 hz1 hz2 rfl (by omega) v n xs hs hown ad m c (l.flatMap Tally.cells) hx (by rw [flat_length Tally.cells 4 Tally.len, hl]) ?_ ?_ (by unfold maxLen; omega) (by omega) hbase ?_
    · intro j u hu
      rcases hr with hr | ⟨b, off, h, _, hc⟩
      · rw [hr] at hu; simp at hu
      · cases h
        rw [Go.WideShapes.add_plain]
        exact hc j u hu
    · intro u hu
      obtain ⟨z, _, hz⟩ := List.mem_flatMap.1 hu
      simp [Tally.cells] at hz
      rcases hz with h | h | h | h <;> subst h <;> rfl
    · intro v' w' h1 h2 _ _
      exact h v' w' h1 h2

set_option maxHeartbeats 4000000 in
theorem joins (a : Option Addr) (n cap : Nat) (l : List Tally) (w : World) (hl : l.length = n) (hok : ∀ x ∈ l, x.ok) (hn : n ≤ 4398046510976) (ha : a = none → cap = 0) (hr : Rd w w.heap.size a (l.flatMap Tally.cells)) :
    Calls Tryd.prog 4 #[.slice a n cap] w (Ret (.bool true) w) := by
  have HR := Lib.hid hr
  have HL := Lib.hid hl
  have HA := Lib.hid ha
  have HO := Lib.hid hok
  clear hr hl ha hok
  go_enter Tryd.func4, Tryd.ntmps4
  go_upto_region 1 with (fail)
  apply wp_region_lit
  iterate 2 (go_step; go_step; rename_i KK hKK; (with_reducible refine hKK _ _ ?_); clear hKK KK)
  (with_reducible refine append_tallies ?_ (.tmp 6) (.tmp 7) ?_ w.heap.size (.slice (some ⟨w.heap.size, 0, none⟩) 0 0) 0 [] ?_ ?_ a n cap l ?_ HA.out HL.out ?_ ?_ ?_ ?_)
  · rfl
  · rfl
  · rfl
  · exact ⟨rfl, .inr ⟨w.heap.size, 0, #[], rfl, Nat.le_refl _, heap_at rfl, Nat.le_refl _, by unfold maxLen; omega, rfl, rfl⟩⟩
  · rfl
  · exact (HR.out.below (by go_grown)).more (by simp)
  · omega
  · simp
  intro v1 w1 ho hg
  rw [Nat.zero_add, List.nil_append] at ho
  have hB1 : Below w.heap.size w w1 := by
    refine Below.grown (show Below w.heap.size w (w.alloc (Obj.cells #[] 24)) by go_grown) hg (by simp) ?_
    intro kk hkk
    simp [Value.ownBlock] at hkk
    omega
  have HQ := Lib.hid ho
  clear ho hg
  have hs1 := hB1.size
  iterate 2 (go_step; go_step; rename_i KK hKK; (with_reducible refine hKK _ _ ?_); clear hKK KK)
  (with_reducible refine append_tallies ?_ (.tmp 8) (.tmp 10) ?_ w.heap.size v1 n _ ?_ (HQ.out.alloc _) (some ⟨w1.heap.size, 0, none⟩) 1 1 [⟨77, 0, 0, 0⟩] ?_ (fun h => by cases h) rfl ?_ ?_ ?_ ?_)
  · rfl
  · rfl
  · rfl
  · rfl
  · refine .inr ⟨w1.heap.size, 0, rfl, by simp, fun j u hu => ?_⟩
    rw [cell_of_row _ _ _ _ _ _ (heap_at rfl), Nat.zero_add]
    simpa using hu
  · omega
  · simp; omega
  intro v2 w2 ho2 hg2
  have hB2 : Below w.heap.size w w2 := by
    refine Below.grown (show Below w.heap.size w (w1.alloc (Obj.cells #[.int .i64 77, .int .i64 0, .int .i64 0, .int .i64 0] 24)) by go_grown) hg2 (by simp; omega) ?_
    intro kk hkk
    rcases Nat.lt_or_ge kk w.heap.size with h | h
    · exact absurd hkk.symm (owns_far HQ.out h)
    · exact h
  obtain ⟨g, c, rfl, hg1, hgl⟩ := World.ownsRow.form ho2 (by omega)
  have hc : n + 1 ≤ c := by
    rcases ho2.2 with ⟨h, _⟩ | ⟨_, _, _, h, _, _, h2, _⟩
    · cases h
    · cases h; exact h2
  have HM := Lib.hid (show ∀ (j : Nat) u, ((l ++ [Tally.mk 77 0 0 0]).flatMap Tally.cells)[j]? = some u → w2.cell? ⟨g, j, none⟩ = some u from fun j u hu => by
    rw [List.flatMap_append] at hu
    have hj : j < (n + 1) * 4 := by
      have h1 := (List.getElem?_eq_some_iff.1 hu).1
      have h2 := ho2.1
      omega
    exact (ho2.cellAt j hj).trans hu)
  clear ho2 hg2 HQ hB1 hs1
  have hs2 := hB2.size
  go_wp2_with fail
  refine (join_any (some ⟨g, 0, none⟩) n c l _ HL.out HO.out (by omega) (.inr ⟨g, 0, rfl, by simpa using hgl, fun j u hu => ?_⟩)).mono ?_
  · rw [Nat.zero_add]
    refine HM.out j u ?_
    rw [List.flatMap_append, List.getElem?_append_left (List.getElem?_eq_some_iff.1 hu).1]
    exact hu
  rintro en w3 ⟨rfl, hb⟩
  have hB3 : Below w.heap.size w w3 := bnext (by go_grown) hb
  have G3 : w3.heap[g]? = w2.heap[g]? := hb.block g (by simpa using hgl)
  have hg3 : g < w3.heap.size := Nat.lt_of_lt_of_le hgl (by simpa using hb.size)
  have hs3 := hB3.size
  clear hb hB2
  generalize hq : join l = q
  have HQ := Lib.hid hq
  clear hq
  go_wp2_with fail
  go_loopw [5] (fun i wr => ∃ k : Nat, k ≤ n ∧ i = .int .i64 k ∧ Blk wr w3.heap.size 24 q.cells.toArray ∧ wr.heap[g]? = w2.heap[g]? ∧ Below w.heap.size w wr) (fun i _ => n - (intOf i).toNat)
  case atStart =>
    refine ⟨0, Nat.zero_le _, rfl, heap_at rfl, ?_, by go_grown⟩
    simp (disch := (first | omega | (simp only [World.size_alloc, World.size_setCell, World.size_drew] <;> omega) | fail)) only [Blk, heap_old, heap_at, heap_set_same, heap_set_ne, heap_drew', Option.map_some, putO_cells, G3]
  case round =>
    obtain ⟨k, hk, rfl, C1, CG, hB⟩ := hrel
    have d1 := C1.lt
    have c1 := C1.cell
    have hs := hB.size
    have hgr : g < wr.heap.size := by omega
    have cell2 : ∀ k x, (l ++ [Tally.mk 77 0 0 0])[k]? = some x → ∀ j, j < 4 → wr.cell? ⟨g, k * 4 + j, none⟩ = x.cells[j]? := fun k x hx j hj => by
      have h1 := flat_get Tally.cells 4 Tally.len _ k j x hx hj
      have h2 : x.cells[j]? = some (x.cells[j]'(by simpa using hj)) := List.getElem?_eq_getElem _
      rw [h2] at h1 ⊢
      exact (World.cell?_of_block (a := ⟨g, k * 4 + j, none⟩) CG).trans (HM.out _ _ h1)
    have H2 := Lib.hid cell2
    clear cell2
    rcases Nat.lt_or_ge k n with hlt | hge
    · obtain ⟨x, hx⟩ : ∃ x, l[k]? = some x := ⟨_, List.getElem?_eq_getElem (by rw [HL.out]; exact hlt)⟩
      rcases HR.out with hr | ⟨b, off, rfl, hbl, hcc⟩
      · have := flat_length Tally.cells 4 Tally.len l
        rw [hr, HL.out] at this
        simp at this; omega
      have e := fun j (hj : j < 4) => (hB.cell (p := ⟨b, off + (k * 4 + j), none⟩) hbl).trans (hcc (k * 4 + j) _ ((flat_get Tally.cells 4 Tally.len l k j x hx hj).trans (List.getElem?_eq_getElem (by simpa using hj))))
      have g' := H2.out k x (by rw [List.getElem?_append_left (by rw [HL.out]; exact hlt)]; exact hx)
      have e0 := e 0 (by omega)
      have e1 := e 1 (by omega)
      have e2 := e 2 (by omega)
      have e3 := e 3 (by omega)
      have g0 := g' 0 (by omega)
      have g1 := g' 1 (by omega)
      have g2 := g' 2 (by omega)
      have g3 := g' 3 (by omega)
      clear e g' hx hcc hbl
      have hk1 : (k : Int) < (n : Int) + 1 := by omega
      simp only [Tally.cells, ← Nat.add_assoc, Nat.add_zero, List.getElem?_cons_zero, List.getElem?_cons_succ, List.getElem_cons_zero, List.getElem_cons_succ] at e0 e1 e2 e3 g0 g1 g2 g3
      go_wp2_with fail
      (refine region_keep (fun _ => True) 8 [(0, true), (1, true), (2, true), (3, true), (4, true), (5, true), (6, true), (7, true)] (by kernel_rfl) (fun _ _ d _ _ h => by cases d <;> exact h) (by kernel_rfl) ?_; simp only [withOps, List.getElem?_toArray, List.getElem?_cons_zero, List.getElem?_cons_succ, List.drop_succ_cons, List.drop_zero])
      (repeat (refine keep_quiet (v := ?_) rfl ?_ ?_; rotate_left; (focus (intro w' hw'; go_simp; (try with_reducible rfl); done)); try simp only [Act.put, List.setIfInBounds_toArray, List.set_cons_zero, List.set_cons_succ]))
      (with_reducible refine plan_end ?_)
      (try simp only [Act.put, List.setIfInBounds_toArray, List.set_cons_zero, List.set_cons_succ])
      go_wp2_with fail
      go_roundw
      case rel =>
        refine ⟨k + 1, by omega, by go_num, ?_, ?_, by go_grown⟩
        · exact C1
        · exact CG
      case measure => simp [intOf]; omega
    · obtain rfl : k = n := by omega
      have t0 := H2.out k ⟨77, 0, 0, 0⟩ (by rw [List.getElem?_append_right (by rw [HL.out]; exact Nat.le_refl _), HL.out]; simp) 0 (by omega)
      simp only [Nat.add_zero, List.getElem?_cons_zero] at t0
      go_wp2_with fail
      refine wp_at (fun wc => Blk wc w3.heap.size 24 q.cells.toArray ∧ wc.cell? ⟨g, k * 4, none⟩ = some (.int .i64 77) ∧ Below w.heap.size w wc) ⟨C1, t0, hB⟩ ?_
      rintro wc ⟨F1, F2, hBc⟩
      clear C1 CG hB c1 d1 t0 H2 hgr hs
      have c1 := F1.cell
      have m1 := F1.lt
      have mg : g < wc.heap.size := by
        rcases Nat.lt_or_ge g wc.heap.size with h | h
        · exact h
        · simp [World.cell?, Array.getElem?_eq_none h] at F2
      have hs := hBc.size
      (refine region_keep (fun x => x < wc.heap.size) 8 [(0, true), (1, true), (2, false), (3, true), (4, true), (5, true), (6, true), (7, true)] (by kernel_rfl) (fun _ _ d _ _ h => by cases d <;> exact h) (by kernel_rfl) ?_; simp only [withOps, List.getElem?_toArray, List.getElem?_cons_zero, List.getElem?_cons_succ, List.drop_succ_cons, List.drop_zero])
      (repeat (refine keep_quiet (v := ?_) rfl ?_ ?_; rotate_left; (focus (intro w' hw'; go_simp; (try with_reducible rfl); done)); try simp only [Act.put, List.setIfInBounds_toArray, List.set_cons_zero, List.set_cons_succ]))
      (with_reducible refine plan_loud (fun K hK => ?_))
      go_simp
      refine (refJoin_any a k cap l _ HL.out HO.out (by omega) ?_).mono ?_
      · exact (HR.out.below hBc).more hs
      rintro en w5 ⟨rfl, hb⟩
      rw [HQ.out]
      have hB5 : Below wc.heap.size wc w5 := bnext (w := wc) (by go_grown) hb
      have z5 : wc.heap.size ≤ w5.heap.size := hb.size
      refine hK _ _ ((Keep.refl _ _).below hb (fun _ h => h)) ?_
      clear hK K hb
      (try simp only [Act.put, List.setIfInBounds_toArray, List.set_cons_zero, List.set_cons_succ])
      (repeat (refine keep_quiet (v := ?_) rfl ?_ ?_; rotate_left; (focus (intro w' hw'; go_simp; (try with_reducible rfl); done)); try simp only [Act.put, List.setIfInBounds_toArray, List.set_cons_zero, List.set_cons_succ]))
      (with_reducible refine plan_end ?_)
      (try simp only [Act.put, List.setIfInBounds_toArray, List.set_cons_zero, List.set_cons_succ])
      have hB7 : Below w.heap.size w w5 := hBc.trans (hB5.mono hBc.size)
      have F5 : w5.cell? ⟨g, k * 4, none⟩ = some (.int .i64 77) := (hB5.cell (p := ⟨g, k * 4, none⟩) mg).trans F2
      clear F1 F2 c1 hBc hB5
      go_wp2_with fail
      refine (works_any _).mono ?_
      rintro en w9 ⟨rfl, hb⟩
      have hB9 : Below w.heap.size w w9 := bnext (by go_grown) hb
      clear hb
      go_wp2_with fail
      go_returns
      exact ⟨rfl, by go_grown⟩
end Go.Proofs.YtkafcdgeboldgaaDoor
