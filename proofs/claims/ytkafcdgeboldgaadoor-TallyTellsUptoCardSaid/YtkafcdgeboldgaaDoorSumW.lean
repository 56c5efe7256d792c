/- TallyTells: the walk. -/
import Derived.Test.YtkafcdgeboldgaaDoorSumM
import Derived.Test.YtkafcdgeboldgaaDoorCanW
import Derived.Test.YtkafcdgeboldgaaDoorReal
import Derived.Test.YtkafcdgeboldgaaDoorTJoinsW
set_option linter.unusedSimpArgs false
set_option linter.unusedVariables false
namespace Go.Proofs.YtkafcdgeboldgaaDoor
open Go.RowKit Go.Kp
attribute [local go_sem high] eqTally

theorem info2 : (Tryd.prog.info? 2).map (fun i => (i.zero, i.size, i.bytes)) = some (some (.int .i64 0), 1, 8) := by kernel_rfl
/-- append of numbers that are read, nil or not, to a row that the call owns. -/
theorem append_nums {w : World} {ops : Array Oper} {rest : List Oper} {o : Oper} {a : Act} {Q : Exit → Act → World → Prop} (hgd : o.guard = none) (s x : Operand)
    (ho : o.op = .call { callee := .builtin .append, args := #[s, x], argTypes := #[22, 22] })
    (base : Nat) (v : Value) (n : Nat) (xs : List Value) (hs : a.eval s = v) (hown : w.ownsRow base 2 1 v n xs)
    (ad : Option Addr) (c : Nat) (l : List Int) (hx : a.eval x = .slice ad l.length c) (hn : ad = none → c = 0) (hr : Rd w w.heap.size ad (l.map (Value.int .i64)))
    (hb : n + l.length ≤ 17592186044416) (hbase : base ≤ w.heap.size)
    (h : ∀ v' w', w'.ownsRow base 2 1 v' (n + l.length) (xs ++ l.map (Value.int .i64)) → w.grownBy w' v.ownBlock → wpList Tryd.prog ops Q rest (a.put o.dst v') w') :
    wpList Tryd.prog ops Q (o :: rest) a w := by
  obtain ⟨i0, hi, hz0, hz1, hz2⟩ := info_parts info2
  cases ad with
  | none =>
    have h0 : l = [] := by
      rcases hr with hr | ⟨b, off, h, _⟩
      · exact List.map_eq_nil_iff.1 hr
      · cases h
    subst h0
    have hc := hn rfl
    subst hc
    refine wpList_append_own_none hgd s x 22 ho base 2 i0 1 Tryd.underlying22 hi v n xs hs hown hx ?_
    exact h v w (by simpa using hown) (World.grownBy.refl _ _)
  | some ad =>
    refine wpList_append_own_at w hgd s x 22 ho base 2 i0 _ 1 8 Tryd.underlying22 hi hz0 hz1 hz2 rfl (by omega) v n xs hs hown ad l.length c (l.map (Value.int .i64)) hx (by simp) ?_ ?_ (by unfold maxLen; omega) (by omega) hbase ?_
    · intro j u hu
      rcases hr with hr | ⟨b, off, h, _, hc⟩
      · rw [hr] at hu; simp at hu
      · cases h
        rw [Go.WideShapes.add_plain]
        exact hc j u hu
    · intro u hu
      obtain ⟨z, _, hz⟩ := List.mem_map.1 hu
      subst hz; rfl
    · intro v' w' h1 h2 _ _
      exact h v' w' h1 h2

theorem append_nums' {w w0 : World} {ops : Array Oper} {rest : List Oper} {o : Oper} {a : Act} {Q : Exit → Act → World → Prop} (hgd : o.guard = none) (s x : Operand)
    (ho : o.op = .call { callee := .builtin .append, args := #[s, x], argTypes := #[22, 22] })
    (base : Nat) (v : Value) (n : Nat) (l0 : List Int) (hs : a.eval s = v) (hown : w.ownsRow base 2 1 v n (l0.map (Value.int .i64)))
    (ad : Option Addr) (m c : Nat) (l : List Int) (hx : a.eval x = .slice ad m c) (hm : l.length = m) (hn : ad = none → c = 0) (hr : Rd w w.heap.size ad (l.map (Value.int .i64)))
    (hb : n + m ≤ 17592186044416) (hbase : base ≤ w.heap.size) (hB : Below base w0 w)
    (h : ∀ v' w', w'.ownsRow base 2 1 v' (n + m) ((l0 ++ l).map (Value.int .i64)) → Below base w0 w' → wpList Tryd.prog ops Q rest (a.put o.dst v') w') :
    wpList Tryd.prog ops Q (o :: rest) a w := by
  subst hm
  refine append_nums hgd s x ho base v n _ hs hown ad c l hx hn hr hb hbase (fun v' w' h1 h2 => h v' w' (by rw [List.map_append]; exact h1) ?_)
  refine Below.grown hB h2 hbase ?_
  intro kk hkk
  rcases Nat.lt_or_ge kk base with h | h
  · exact absurd hkk.symm (owns_far hown h)
  · exact h

/-- A row that is owned, read. -/
theorem owns_rd {w : World} {base : Nat} {v : Value} {l : List Int} (h : w.ownsRow base 2 1 v l.length (l.map (Value.int .i64))) : ∃ ad cap, v = .slice ad l.length cap ∧ Rd w w.heap.size ad (l.map (Value.int .i64)) := by
  rcases Nat.eq_zero_or_pos l.length with h0 | h0
  · have : l = [] := List.eq_nil_of_length_eq_zero h0
    subst this
    rcases h.2 with ⟨h, _⟩ | ⟨g, cap, cur, h, _⟩
    · exact ⟨none, 0, h, .inl rfl⟩
    · exact ⟨_, cap, h, .inl rfl⟩
  · obtain ⟨g, c, rfl, hg1, hgl⟩ := World.ownsRow.form h h0
    refine ⟨_, c, rfl, .inr ⟨g, 0, rfl, hgl, fun j u hu => ?_⟩⟩
    have hj := (List.getElem?_eq_some_iff.1 hu).1
    rw [Nat.zero_add]
    exact (h.cellAt j (by simpa using hj)).trans hu
theorem of_any' (a : Option Addr) (n cap : Nat) (l : List Int) (w : World) (hn : l.length = n) (hl : n ≤ 9223372036854775807) (hz : ∀ z ∈ l, I64 z) (hr : Rd w w.heap.size a (l.map (Value.int .i64))) :
    Calls Tryd.prog 11 #[.slice a n cap] w (Ret (ofs l).val w) := by
  subst hn
  exact of_any a cap l w hl hz hr

/-- Join of a row in a block. -/
theorem join_row (r : Nat) (l : List Tally) (w : World) (hb : Blk w r 24 (l.flatMap Tally.cells).toArray) (hok : ∀ x ∈ l, x.ok) (hn : l.length ≤ 4611686018427387904) :
    Calls Tryd.prog 17 #[.slice (some ⟨r, 0, none⟩) l.length l.length] w (Ret (join l).val w) := by
  refine join_any (some ⟨r, 0, none⟩) l.length l.length l w rfl hok hn (.inr ⟨r, 0, rfl, hb.lt, fun j u hu => ?_⟩)
  rw [Nat.zero_add, hb.cell j]
  simpa using hu
theorem keep_below {X Y Z : World} (h : Below X.heap.size Y Z) : Keep (fun x => x < X.heap.size) Y Z := fun x hx => h.block x hx
theorem at_world {G : World → Prop} {R : World → Prop} {w : World} (hR : R w) (h : ∀ w', R w' → G w') : G w := h w hR

/-- Tallies in their blocks. -/
def TB (X : World) (ps : List (Nat × Tally)) : Prop := ∀ q ∈ ps, Blk X q.1 24 q.2.cells.toArray
theorem tb_below {X Y : World} {ps : List (Nat × Tally)} (h : TB X ps) (hb : Below X.heap.size X Y) : TB Y ps := fun q hq => Blk.below (h q hq) hb
theorem tb_cell {X : World} {ps : List (Nat × Tally)} (h : TB X ps) {p : Nat} {t : Tally} (hq : (p, t) ∈ ps) : Blk X p 24 t.cells.toArray := h _ hq
theorem tb_more {X : World} {ps : List (Nat × Tally)} (h : TB X ps) {p : Nat} {t : Tally} (hp : Blk X p 24 t.cells.toArray) : TB X ((p, t) :: ps) := by
  intro q hq
  rcases List.mem_cons.1 hq with rfl | hq
  · exact hp
  · exact h q hq

set_option maxRecDepth 20000 in
set_option maxHeartbeats 8000000 in
theorem tells (a b c : Option Addr) (na nb nc ka kb kc : Nat) (la lb lc : List Int) (v : Int) (w : World) (hna : la.length = na) (hnb : lb.length = nb) (hnc : lc.length = nc)
    (hn : na + nb + nc ≤ 3145728) (ha : a = none → ka = 0) (hb : b = none → kb = 0) (hc : c = none → kc = 0)
    (ra : Rd w w.heap.size a (la.map (Value.int .i64))) (rb : Rd w w.heap.size b (lb.map (Value.int .i64))) (rc : Rd w w.heap.size c (lc.map (Value.int .i64)))
    (za : ∀ z ∈ la, I64 z) (zb : ∀ z ∈ lb, I64 z) (zc : ∀ z ∈ lc, I64 z) (hv : I64 v) (hT : Tab w) :
    Calls Tryd.prog 6 #[.agg #[.slice a na ka, .slice b nb kb, .slice c nc kc, .int .i64 v]] w (Ret (.bool true) w) := by
  have HLa := Lib.hid hna
  have HLb := Lib.hid hnb
  have HLc := Lib.hid hnc
  have HN := Lib.hid hn
  have HAa := Lib.hid ha
  have HAb := Lib.hid hb
  have HAc := Lib.hid hc
  have HRa := Lib.hid ra
  have HRb := Lib.hid rb
  have HRc := Lib.hid rc
  have HZa := Lib.hid za
  have HZb := Lib.hid zb
  have HZc := Lib.hid zc
  have HV := Lib.hid hv
  have HT := Lib.hid hT
  clear hna hnb hnc hn ha hb hc ra rb rc za zb zc hv hT
  go_enter Tryd.func6, Tryd.ntmps6
  go_upto_region 1 with (fail)
  (refine wp_at (fun wc => Blk wc w.heap.size 38 #[.slice a na ka, .slice b nb kb, .slice c nc kc, .int .i64 v] ∧ Below w.heap.size w wc) ⟨heap_at rfl, by go_grown⟩ ?_)
  rintro w1 ⟨A, hB⟩
  have cA := A.cell
  have lA := A.lt
  go_wp2_with (go_in)
  (refine region_keep (fun x => x < w1.heap.size) 11 [(0, true), (1, true), (2, true), (3, true), (4, true), (5, true), (6, true), (7, true), (8, true), (9, true), (10, true)] (by kernel_rfl) (fun _ _ d _ _ h => by cases d <;> exact h) (by kernel_rfl) ?_; simp only [withOps, List.getElem?_toArray, List.getElem?_cons_zero, List.getElem?_cons_succ, List.drop_succ_cons, List.drop_zero])
  (iterate 11 (refine keep_quiet (v := ?_) rfl ?_ ?_; rotate_left; (focus (intro w' hw'; go_simp; (try with_reducible rfl); done)); try simp only [Act.put, List.setIfInBounds_toArray, List.set_cons_zero, List.set_cons_succ]))
  (with_reducible refine plan_end ?_)
  (try simp only [Act.put, List.setIfInBounds_toArray, List.set_cons_zero, List.set_cons_succ])
  go_wp2_with fail
  refine (of_any' a na ka la _ HLa.out (by have := HN.out; omega) HZa.out ((HRa.out.below (bnext hB (by go_grown))).more (by have := hB.size; simp; omega))).mono ?_
  rintro en w2 ⟨rfl, hb2⟩
  have hB2 : Below w.heap.size w w2 := bnext hB (bnext (by go_grown) hb2)
  clear hb2 A cA lA hB
  generalize hx : ofs la = x
  have HX := Lib.hid hx
  clear hx
  go_upto_region 3 with (fail)
  (refine wp_at (fun wc => TB wc [(w2.heap.size, x)] ∧ Below w.heap.size w wc) ⟨fun q hq => by obtain rfl := List.mem_singleton.1 hq; exact heap_at rfl, bnext hB2 (by go_grown)⟩ ?_)
  rintro w3 ⟨T3, hB3⟩
  clear hB2
  generalize w2.heap.size = p7 at *
  go_wp2_with fail
  refine (of_any' b nb kb lb _ HLb.out (by have := HN.out; omega) HZb.out ((HRb.out.below (bnext hB3 (by go_grown))).more (by have := hB3.size; simp; omega))).mono ?_
  rintro en w4 ⟨rfl, hb4⟩
  have hB4 : Below w.heap.size w w4 := bnext hB3 (bnext (by go_grown) hb4)
  have T4 := tb_below T3 (bnext (by go_grown) hb4)
  clear hb4 hB3 T3
  generalize hy : ofs lb = y
  have HY := Lib.hid hy
  clear hy
  go_upto_region 4 with (fail)
  (refine wp_at (fun wc => TB wc [(w4.heap.size, y), (p7, x)] ∧ Below w.heap.size w wc) ⟨tb_more (tb_below T4 (by go_grown)) (heap_at rfl), bnext hB4 (by go_grown)⟩ ?_)
  rintro w5 ⟨T5, hB5⟩
  clear hB4 T4
  generalize w4.heap.size = p8 at *
  go_wp2_with fail
  refine (of_any' c nc kc lc _ HLc.out (by have := HN.out; omega) HZc.out ((HRc.out.below (bnext hB5 (by go_grown))).more (by have := hB5.size; simp; omega))).mono ?_
  rintro en w6 ⟨rfl, hb6⟩
  have hB6 : Below w.heap.size w w6 := bnext hB5 (bnext (by go_grown) hb6)
  have T6 := tb_below T5 (bnext (by go_grown) hb6)
  clear hb6 hB5 T5
  generalize hz : ofs lc = z
  have HZ := Lib.hid hz
  clear hz
  go_upto_region 5 with (fail)
  (refine wp_at (fun wc => TB wc [(w6.heap.size, z), (p8, y), (p7, x)] ∧ Below w.heap.size w wc) ⟨tb_more (tb_below T6 (by go_grown)) (heap_at rfl), bnext hB6 (by go_grown)⟩ ?_)
  rintro w7 ⟨T7, hB7⟩
  clear hB6 T6
  generalize w6.heap.size = p9 at *
  have s7 := hB7.size
  apply wp_region_lit
  iterate 2 (go_step; go_step; rename_i KK hKK; (with_reducible refine hKK _ _ ?_); clear hKK KK)
  (with_reducible refine append_nums' (w0 := w7) ?_ (.tmp 34) (.tmp 35) ?_ w7.heap.size (.slice (some ⟨w7.heap.size, 0, none⟩) 0 0) 0 [] ?_ ?_ a na ka la ?_ HLa.out HAa.out ?_ ?_ ?_ ?_ ?_)
  · rfl
  · rfl
  · rfl
  · exact ⟨rfl, .inr ⟨w7.heap.size, 0, #[], rfl, Nat.le_refl _, heap_at rfl, Nat.le_refl _, by unfold maxLen; omega, rfl, rfl⟩⟩
  · rfl
  · exact (HRa.out.below (bnext hB7 (by go_grown))).more (by simp; omega)
  · have := HN.out; omega
  · simp
  · go_grown
  intro v1 w8 ho8 hb8
  rw [Nat.zero_add, List.nil_append] at ho8
  go_step; go_step; rename_i KK hKK; (with_reducible refine hKK _ _ ?_); clear hKK KK
  (with_reducible refine append_nums' (w0 := w7) ?_ (.tmp 36) (.tmp 37) ?_ w7.heap.size v1 na la ?_ ho8 b nb kb lb ?_ HLb.out HAb.out ?_ ?_ hb8.size hb8 ?_)
  · rfl
  · rfl
  · rfl
  · rfl
  · exact (HRb.out.below (bnext hB7 hb8)).more (by have := hb8.size; omega)
  · have := HN.out; omega
  intro v2 w9 ho9 hb9
  clear ho8 hb8
  go_step; go_step; rename_i KK hKK; (with_reducible refine hKK _ _ ?_); clear hKK KK
  (with_reducible refine append_nums' (w0 := w7) ?_ (.tmp 38) (.tmp 39) ?_ w7.heap.size v2 (na + nb) (la ++ lb) ?_ ho9 c nc kc lc ?_ HLc.out HAc.out ?_ ?_ hb9.size hb9 ?_)
  · rfl
  · rfl
  · rfl
  · rfl
  · exact (HRc.out.below (bnext hB7 hb9)).more (by have := hb9.size; omega)
  · have := HN.out; omega
  intro v3 w10 ho10 hb10
  clear ho9 hb9
  have HLl := Lib.hid (show (la ++ lb ++ lc).length = na + nb + nc by rw [List.length_append, List.length_append, HLa.out, HLb.out, HLc.out])
  have HZl := Lib.hid (show ∀ z ∈ la ++ lb ++ lc, I64 z by
    intro z hz
    rcases List.mem_append.1 hz with hz | hz
    · rcases List.mem_append.1 hz with hz | hz
      · exact HZa.out z hz
      · exact HZb.out z hz
    · exact HZc.out z hz)
  obtain ⟨ad, cap, rfl, rl⟩ := owns_rd (by rw [HLl.out]; exact ho10)
  have T10 := tb_below T7 hb10
  have hB10 := bnext hB7 hb10
  have H1 := Lib.hid (show join [x, y] = ofs (la ++ lb) by rw [← HX.out, ← HY.out, join_two])
  have H2 := Lib.hid (show join [y, z] = ofs (lb ++ lc) by rw [← HY.out, ← HZ.out, join_two])
  have H3 := Lib.hid (show join [ofs (la ++ lb), z] = ofs (la ++ lb ++ lc) by rw [← HZ.out, join_two])
  have H4 := Lib.hid (show join [x, ofs (lb ++ lc)] = ofs (la ++ lb ++ lc) by rw [← HX.out, join_two, List.append_assoc])
  have H5 := Lib.hid (show join [z, Tally.zero, y, x, ⟨-3, 9, -9, 9⟩] = ofs (la ++ lb ++ lc) by rw [← HX.out, ← HY.out, ← HZ.out, join_turned])
  have H6 := Lib.hid (show join [ofs (la ++ lb ++ lc), x] = ofs (la ++ lb ++ lc ++ la) by rw [← HX.out, join_two])
  have HG := Lib.hid (good_ofs (la ++ lb ++ lc) HZl.out (by rw [HLl.out]; have := HN.out; omega))
  have K1 := Lib.hid (good_can HG.out (by rw [HLl.out]; have := HN.out; omega) HZl.out)
  have HZm := Lib.hid (show ∀ z ∈ la ++ lb ++ lc ++ la, I64 z by
    intro z hz
    rcases List.mem_append.1 hz with hz | hz
    · exact HZl.out z hz
    · exact HZa.out z hz)
  have HLm := Lib.hid (show (la ++ lb ++ lc ++ la).length ≤ 6291456 by rw [List.length_append, HLl.out, HLa.out]; have := HN.out; omega)
  have K2 := Lib.hid (good_can (good_ofs (la ++ lb ++ lc ++ la) HZm.out (by have := HLm.out; omega)) (by have := HLm.out; omega) HZm.out)
  have K3 := Lib.hid (good_can (good_add HG.out (by rw [HLl.out]; have := HN.out; omega) HV.out) (by rw [HLl.out]; have := HN.out; omega) (by
    intro z hz
    rcases List.mem_append.1 hz with hz | hz
    · exact HZl.out z hz
    · obtain rfl := List.mem_singleton.1 hz; exact HV.out))
  have OX := Lib.hid (show x.ok by rw [← HX.out]; exact ofs_ok la HZa.out)
  have OY := Lib.hid (show y.ok by rw [← HY.out]; exact ofs_ok lb HZb.out)
  have OZ := Lib.hid (show z.ok by rw [← HZ.out]; exact ofs_ok lc HZc.out)
  have O1 := Lib.hid (ofs_ok (la ++ lb) (fun u hu => HZl.out u (List.mem_append_left _ hu)))
  have O2 := Lib.hid (ofs_ok (lb ++ lc) (fun u hu => by
    rcases List.mem_append.1 hu with hu | hu
    · exact HZb.out u hu
    · exact HZc.out u hu))
  have OW := Lib.hid (ofs_ok (la ++ lb ++ lc) HZl.out)
  have OM := Lib.hid (ofs_ok (la ++ lb ++ lc ++ la) HZm.out)
  clear ho10 hb10 T7 hB7 HX HY HZ HRa HRb HRc HAa HAb HAc HZa HZb HZc HLa HLb HLc HZm HLm
  generalize hl : la ++ lb ++ lc = l at *
  rw [HLl.out]
  generalize na + nb + nc = n at *
  go_wp2_with fail
  refine (of_any' ad n cap l _ HLl.out (by have := HN.out; omega) HZl.out ((rl.below (by go_grown)).more (by simp))).mono ?_
  rintro en w11 ⟨rfl, hb11⟩
  have hB11 : Below w10.heap.size w10 w11 := bnext (by go_grown) hb11
  clear hb11
  generalize ofs l = q at *
  go_upto_region 7 with (fail)
  (refine wp_at (fun wc => TB wc [(w11.heap.size, q), (p9, z), (p8, y), (p7, x)] ∧ Below w10.heap.size w10 wc) ⟨tb_more (tb_below T10 (bnext hB11 (by go_grown))) (heap_at rfl), bnext hB11 (by go_grown)⟩ ?_)
  rintro w12 ⟨T12, hB12⟩
  have rl12 := (rl.below hB12).more hB12.size
  have hBB := bnext hB10 hB12
  clear hB11 T10 rl hB10 hB12
  generalize w11.heap.size = p11 at *
  generalize ofs (la ++ lb) = xy at *
  generalize ofs (lb ++ lc) = yz at *
  have g7 := tb_cell T12 (p := p7) (t := x) (by simp)
  have g8 := tb_cell T12 (p := p8) (t := y) (by simp)
  have g9 := tb_cell T12 (p := p9) (t := z) (by simp)
  have c7 := g7.cell
  have c8 := g8.cell
  have c9 := g9.cell
  have l7 := g7.lt
  have l8 := g8.lt
  have l9 := g9.lt
  clear g7 g8 g9
  go_cut [12] from 20 (fun s12 wc => ∃ p : Nat, s12 = .pointer (some ⟨p, 0, none⟩) ∧ Blk wc p 24 q.cells.toArray ∧ Below w12.heap.size w12 wc)
  case first =>
    (refine region_tree (Keep (fun x => x < w12.heap.size)) (Keep.refl _) Keep.trans 9 (.seq [(0, true), (1, true), (4, true)] (.fork 2 7 (.fork 3 7 (.fork 5 7 (.fork 6 7 (.seq [(7, false), (8, false)] .fin) (.seq [(6, false), (8, false)] .fin)) (.seq [(5, false), (6, false), (8, false)] .fin)) (.seq [(3, false), (5, false), (6, false), (8, false)] .fin)) (.seq [(2, false), (3, false), (5, false), (6, false), (8, false)] .fin))) (by kernel_rfl) (fun _ _ d _ _ h => by cases d <;> exact h) (by kernel_rfl) ?_)
    (refine tree_seq ?_; simp only [withOps, List.getElem?_toArray, List.getElem?_cons_zero, List.getElem?_cons_succ])
    (iterate 3 (refine keep_quiet (v := ?_) rfl ?_ ?_; rotate_left; (focus (intro w' hw'; go_simp; (try with_reducible rfl); done)); try simp only [Act.put, List.setIfInBounds_toArray, List.set_cons_zero, List.set_cons_succ]))
    (with_reducible refine plan_end ?_)
    (try simp only [Act.put, List.setIfInBounds_toArray, List.set_cons_zero, List.set_cons_succ])
    refine at_world (R := fun Z => Below w12.heap.size w12 Z) (by go_grown) ?_
    rintro y0 hb0
    refine tree_fork ?_ ?_
    · (simp only [withOps, List.getElem?_toArray, List.getElem?_cons_zero, List.getElem?_cons_succ])
      (try simp only [Act.put, List.setIfInBounds_toArray, List.set_cons_zero, List.set_cons_succ])
      (with_reducible refine plan_loud (fun K hK => ?_))
      go_simp
      refine hK _ _ ?_ ?_
      · have := hb0.size; exact keep_below (by go_grown)
      clear hK K
      refine at_world (R := fun Z => Below w12.heap.size w12 Z ∧ Blk Z y0.heap.size 24 (x.cells ++ y.cells).toArray ∧ w12.heap.size ≤ y0.heap.size) ⟨bnext hb0 (by go_grown), heap_at rfl, hb0.size⟩ ?_
      rintro y1 ⟨hb2, hr4, hr4s⟩
      generalize y0.heap.size = r3 at *
      clear hb0
      (with_reducible refine plan_end ?_)
      (try simp only [Act.put, List.setIfInBounds_toArray, List.set_cons_zero, List.set_cons_succ])
      refine tree_fork ?_ ?_
      · (simp only [withOps, List.getElem?_toArray, List.getElem?_cons_zero, List.getElem?_cons_succ])
        (try simp only [Act.put, List.setIfInBounds_toArray, List.set_cons_zero, List.set_cons_succ])
        (with_reducible refine plan_loud (fun K hK => ?_))
        go_simp
        refine (join_row r3 [x, y] _ hr4 ?_ (by simp)).mono ?_
        · intro u hu; rcases List.mem_cons.1 hu with rfl | hu; exact OX.out; obtain rfl := List.mem_singleton.1 hu; exact OY.out
        rintro en6 y7 ⟨rfl, hc8⟩
        refine hK _ _ ((Keep.refl _ _).below hc8 ?_) ?_
        · intro x hx; have := hb2.size; simp at hx ⊢; omega
        clear hK K
        have hb9 := bnext hb2 hc8
        clear hc8 hb2
        rw [H1.out]
        (with_reducible refine plan_end ?_)
        (try simp only [Act.put, List.setIfInBounds_toArray, List.set_cons_zero, List.set_cons_succ])
        refine tree_fork ?_ ?_
        · (simp only [withOps, List.getElem?_toArray, List.getElem?_cons_zero, List.getElem?_cons_succ])
          (try simp only [Act.put, List.setIfInBounds_toArray, List.set_cons_zero, List.set_cons_succ])
          (with_reducible refine plan_loud (fun K hK => ?_))
          go_simp
          refine hK _ _ ?_ ?_
          · have := hb9.size; exact keep_below (by go_grown)
          clear hK K
          refine at_world (R := fun Z => Below w12.heap.size w12 Z ∧ Blk Z y7.heap.size 24 (xy.cells ++ z.cells).toArray ∧ w12.heap.size ≤ y7.heap.size) ⟨bnext hb9 (by go_grown), heap_at rfl, hb9.size⟩ ?_
          rintro y11 ⟨hb12, hr14, hr14s⟩
          generalize y7.heap.size = r13 at *
          clear hb9
          (with_reducible refine plan_end ?_)
          (try simp only [Act.put, List.setIfInBounds_toArray, List.set_cons_zero, List.set_cons_succ])
          refine tree_fork ?_ ?_
          · (simp only [withOps, List.getElem?_toArray, List.getElem?_cons_zero, List.getElem?_cons_succ])
            (try simp only [Act.put, List.setIfInBounds_toArray, List.set_cons_zero, List.set_cons_succ])
            (with_reducible refine plan_loud (fun K hK => ?_))
            go_simp
            refine (join_row r13 [xy, z] _ hr14 ?_ (by simp)).mono ?_
            · intro u hu; rcases List.mem_cons.1 hu with rfl | hu; exact O1.out; obtain rfl := List.mem_singleton.1 hu; exact OZ.out
            rintro en16 y17 ⟨rfl, hc18⟩
            refine hK _ _ ((Keep.refl _ _).below hc18 ?_) ?_
            · intro x hx; have := hb12.size; simp at hx ⊢; omega
            clear hK K
            have hb19 := bnext hb12 hc18
            clear hc18 hb12
            rw [H3.out]
            (with_reducible refine plan_end ?_)
            (try simp only [Act.put, List.setIfInBounds_toArray, List.set_cons_zero, List.set_cons_succ])
            (refine tree_seq ?_; simp only [withOps, List.getElem?_toArray, List.getElem?_cons_zero, List.getElem?_cons_succ])
            (try simp only [Act.put, List.setIfInBounds_toArray, List.set_cons_zero, List.set_cons_succ])
            (with_reducible refine plan_loud (fun K hK => ?_))
            go_simp
            refine hK _ _ ?_ ?_
            · have := hb19.size; exact keep_below (by go_grown)
            clear hK K
            refine at_world (R := fun Z => Below w12.heap.size w12 Z ∧ Blk Z y17.heap.size 24 Tally.zero.cells.toArray ∧ w12.heap.size ≤ y17.heap.size) ⟨bnext hb19 (by go_grown), heap_at rfl, hb19.size⟩ ?_
            rintro y21 ⟨hb22, ha25, ha25s⟩
            generalize y17.heap.size = q23 at *
            clear hb19
            (try simp only [Act.put, List.setIfInBounds_toArray, List.set_cons_zero, List.set_cons_succ])
            have cS := Blk.cell ha25
            have fS := Blk.free ha25
            have lS := Blk.lt ha25
            (with_reducible refine plan_loud (fun K hK => ?_))
            go_simp
            refine hK _ _ ?_ ?_
            · have := ha25s; exact keep_below (by go_grown)
            clear hK K
            (try simp only [Act.put, List.setIfInBounds_toArray, List.set_cons_zero, List.set_cons_succ])
            ((with_reducible refine plan_end ?_); (with_reducible refine tree_fin ?_); simp only [List.drop_succ_cons, List.drop_zero]; (try simp only [Act.put, List.setIfInBounds_toArray, List.set_cons_zero, List.set_cons_succ]))
            go_wp2_with fail
            go_meet
            case rel =>
              refine ⟨_, rfl, ?_, hb22.trans (by go_grown)⟩
              unfold Blk at ha25; simp (disch := (first | omega | (simp only [World.size_alloc, World.size_setCell, World.size_drew] <;> omega) | fail)) only [Blk, heap_old, heap_at, heap_set_same, heap_set_ne, heap_drew', Option.map_some, putO_cells, ha25]; first | rfl | (simp; done) | skip
          · (simp only [withOps, List.getElem?_toArray, List.getElem?_cons_zero, List.getElem?_cons_succ])
            (try simp only [Act.put, List.setIfInBounds_toArray, List.set_cons_zero, List.set_cons_succ])
            (with_reducible refine plan_loud (fun K hK => ?_))
            go_simp
            refine hK _ _ ?_ ?_
            · have := hb12.size; exact keep_below (by go_grown)
            clear hK K
            refine at_world (R := fun Z => Below w12.heap.size w12 Z ∧ Blk Z y11.heap.size 24 Tally.zero.cells.toArray ∧ w12.heap.size ≤ y11.heap.size ∧ Blk Z r13 24 (xy.cells ++ z.cells).toArray) ⟨bnext hb12 (by go_grown), heap_at rfl, hb12.size, (Blk.below hr14 (by go_grown))⟩ ?_
            rintro y26 ⟨hb27, ha30, ha30s, hr29⟩
            generalize y11.heap.size = q28 at *
            clear hb12 hr14
            (with_reducible refine plan_end ?_)
            (try simp only [Act.put, List.setIfInBounds_toArray, List.set_cons_zero, List.set_cons_succ])
            (refine tree_seq ?_; simp only [withOps, List.getElem?_toArray, List.getElem?_cons_zero, List.getElem?_cons_succ])
            (try simp only [Act.put, List.setIfInBounds_toArray, List.set_cons_zero, List.set_cons_succ])
            (with_reducible refine plan_loud (fun K hK => ?_))
            go_simp
            refine (join_row r13 [xy, z] _ hr29 ?_ (by simp)).mono ?_
            · intro u hu; rcases List.mem_cons.1 hu with rfl | hu; exact O1.out; obtain rfl := List.mem_singleton.1 hu; exact OZ.out
            rintro en31 y32 ⟨rfl, hc33⟩
            refine hK _ _ ((Keep.refl _ _).below hc33 ?_) ?_
            · intro x hx; have := hb27.size; simp at hx ⊢; omega
            clear hK K
            have hb34 := bnext hb27 hc33
            have ha35 := Blk.below ha30 hc33
            clear hc33 hb27 ha30
            rw [H3.out]
            (try simp only [Act.put, List.setIfInBounds_toArray, List.set_cons_zero, List.set_cons_succ])
            have cS := Blk.cell ha35
            have fS := Blk.free ha35
            have lS := Blk.lt ha35
            (with_reducible refine plan_loud (fun K hK => ?_))
            go_simp
            refine hK _ _ ?_ ?_
            · have := ha30s; exact keep_below (by go_grown)
            clear hK K
            (try simp only [Act.put, List.setIfInBounds_toArray, List.set_cons_zero, List.set_cons_succ])
            ((with_reducible refine plan_end ?_); (with_reducible refine tree_fin ?_); simp only [List.drop_succ_cons, List.drop_zero]; (try simp only [Act.put, List.setIfInBounds_toArray, List.set_cons_zero, List.set_cons_succ]))
            go_wp2_with fail
            go_meet
            case rel =>
              refine ⟨_, rfl, ?_, hb34.trans (by go_grown)⟩
              unfold Blk at ha35; simp (disch := (first | omega | (simp only [World.size_alloc, World.size_setCell, World.size_drew] <;> omega) | fail)) only [Blk, heap_old, heap_at, heap_set_same, heap_set_ne, heap_drew', Option.map_some, putO_cells, ha35]; first | rfl | (simp; done) | skip
        · (simp only [withOps, List.getElem?_toArray, List.getElem?_cons_zero, List.getElem?_cons_succ])
          (try simp only [Act.put, List.setIfInBounds_toArray, List.set_cons_zero, List.set_cons_succ])
          (with_reducible refine plan_loud (fun K hK => ?_))
          go_simp
          refine hK _ _ ?_ ?_
          · have := hb9.size; exact keep_below (by go_grown)
          clear hK K
          refine at_world (R := fun Z => Below w12.heap.size w12 Z ∧ Blk Z y7.heap.size 24 Tally.zero.cells.toArray ∧ w12.heap.size ≤ y7.heap.size) ⟨bnext hb9 (by go_grown), heap_at rfl, hb9.size⟩ ?_
          rintro y36 ⟨hb37, ha40, ha40s⟩
          generalize y7.heap.size = q38 at *
          clear hb9
          (with_reducible refine plan_end ?_)
          (try simp only [Act.put, List.setIfInBounds_toArray, List.set_cons_zero, List.set_cons_succ])
          (refine tree_seq ?_; simp only [withOps, List.getElem?_toArray, List.getElem?_cons_zero, List.getElem?_cons_succ])
          (try simp only [Act.put, List.setIfInBounds_toArray, List.set_cons_zero, List.set_cons_succ])
          (with_reducible refine plan_loud (fun K hK => ?_))
          go_simp
          refine hK _ _ ?_ ?_
          · have := hb37.size; exact keep_below (by go_grown)
          clear hK K
          refine at_world (R := fun Z => Below w12.heap.size w12 Z ∧ Blk Z y36.heap.size 24 (xy.cells ++ z.cells).toArray ∧ w12.heap.size ≤ y36.heap.size ∧ Blk Z q38 24 Tally.zero.cells.toArray ∧ w12.heap.size ≤ q38) ⟨bnext hb37 (by go_grown), heap_at rfl, hb37.size, (Blk.below ha40 (by go_grown)), ha40s⟩ ?_
          rintro y41 ⟨hb42, hr44, hr44s, ha45, ha45s⟩
          generalize y36.heap.size = r43 at *
          clear hb37 ha40 ha40s
          (try simp only [Act.put, List.setIfInBounds_toArray, List.set_cons_zero, List.set_cons_succ])
          (with_reducible refine plan_loud (fun K hK => ?_))
          go_simp
          refine (join_row r43 [xy, z] _ hr44 ?_ (by simp)).mono ?_
          · intro u hu; rcases List.mem_cons.1 hu with rfl | hu; exact O1.out; obtain rfl := List.mem_singleton.1 hu; exact OZ.out
          rintro en46 y47 ⟨rfl, hc48⟩
          refine hK _ _ ((Keep.refl _ _).below hc48 ?_) ?_
          · intro x hx; have := hb42.size; simp at hx ⊢; omega
          clear hK K
          have hb49 := bnext hb42 hc48
          have ha50 := Blk.below ha45 hc48
          clear hc48 hb42 ha45
          rw [H3.out]
          (try simp only [Act.put, List.setIfInBounds_toArray, List.set_cons_zero, List.set_cons_succ])
          have cS := Blk.cell ha50
          have fS := Blk.free ha50
          have lS := Blk.lt ha50
          (with_reducible refine plan_loud (fun K hK => ?_))
          go_simp
          refine hK _ _ ?_ ?_
          · have := ha45s; exact keep_below (by go_grown)
          clear hK K
          (try simp only [Act.put, List.setIfInBounds_toArray, List.set_cons_zero, List.set_cons_succ])
          ((with_reducible refine plan_end ?_); (with_reducible refine tree_fin ?_); simp only [List.drop_succ_cons, List.drop_zero]; (try simp only [Act.put, List.setIfInBounds_toArray, List.set_cons_zero, List.set_cons_succ]))
          go_wp2_with fail
          go_meet
          case rel =>
            refine ⟨_, rfl, ?_, hb49.trans (by go_grown)⟩
            unfold Blk at ha50; simp (disch := (first | omega | (simp only [World.size_alloc, World.size_setCell, World.size_drew] <;> omega) | fail)) only [Blk, heap_old, heap_at, heap_set_same, heap_set_ne, heap_drew', Option.map_some, putO_cells, ha50]; first | rfl | (simp; done) | skip
      · (simp only [withOps, List.getElem?_toArray, List.getElem?_cons_zero, List.getElem?_cons_succ])
        (try simp only [Act.put, List.setIfInBounds_toArray, List.set_cons_zero, List.set_cons_succ])
        (with_reducible refine plan_loud (fun K hK => ?_))
        go_simp
        refine hK _ _ ?_ ?_
        · have := hb2.size; exact keep_below (by go_grown)
        clear hK K
        refine at_world (R := fun Z => Below w12.heap.size w12 Z ∧ Blk Z y1.heap.size 24 Tally.zero.cells.toArray ∧ w12.heap.size ≤ y1.heap.size ∧ Blk Z r3 24 (x.cells ++ y.cells).toArray) ⟨bnext hb2 (by go_grown), heap_at rfl, hb2.size, (Blk.below hr4 (by go_grown))⟩ ?_
        rintro y51 ⟨hb52, ha55, ha55s, hr54⟩
        generalize y1.heap.size = q53 at *
        clear hb2 hr4
        (with_reducible refine plan_end ?_)
        (try simp only [Act.put, List.setIfInBounds_toArray, List.set_cons_zero, List.set_cons_succ])
        (refine tree_seq ?_; simp only [withOps, List.getElem?_toArray, List.getElem?_cons_zero, List.getElem?_cons_succ])
        (try simp only [Act.put, List.setIfInBounds_toArray, List.set_cons_zero, List.set_cons_succ])
        (with_reducible refine plan_loud (fun K hK => ?_))
        go_simp
        refine (join_row r3 [x, y] _ hr54 ?_ (by simp)).mono ?_
        · intro u hu; rcases List.mem_cons.1 hu with rfl | hu; exact OX.out; obtain rfl := List.mem_singleton.1 hu; exact OY.out
        rintro en56 y57 ⟨rfl, hc58⟩
        refine hK _ _ ((Keep.refl _ _).below hc58 ?_) ?_
        · intro x hx; have := hb52.size; simp at hx ⊢; omega
        clear hK K
        have hb59 := bnext hb52 hc58
        have ha60 := Blk.below ha55 hc58
        clear hc58 hb52 ha55
        rw [H1.out]
        (try simp only [Act.put, List.setIfInBounds_toArray, List.set_cons_zero, List.set_cons_succ])
        (with_reducible refine plan_loud (fun K hK => ?_))
        go_simp
        refine hK _ _ ?_ ?_
        · have := hb59.size; exact keep_below (by go_grown)
        clear hK K
        refine at_world (R := fun Z => Below w12.heap.size w12 Z ∧ Blk Z y57.heap.size 24 (xy.cells ++ z.cells).toArray ∧ w12.heap.size ≤ y57.heap.size ∧ Blk Z q53 24 Tally.zero.cells.toArray ∧ w12.heap.size ≤ q53) ⟨bnext hb59 (by go_grown), heap_at rfl, hb59.size, (Blk.below ha60 (by go_grown)), ha55s⟩ ?_
        rintro y61 ⟨hb62, hr64, hr64s, ha65, ha65s⟩
        generalize y57.heap.size = r63 at *
        clear hb59 ha60 ha55s
        (try simp only [Act.put, List.setIfInBounds_toArray, List.set_cons_zero, List.set_cons_succ])
        (with_reducible refine plan_loud (fun K hK => ?_))
        go_simp
        refine (join_row r63 [xy, z] _ hr64 ?_ (by simp)).mono ?_
        · intro u hu; rcases List.mem_cons.1 hu with rfl | hu; exact O1.out; obtain rfl := List.mem_singleton.1 hu; exact OZ.out
        rintro en66 y67 ⟨rfl, hc68⟩
        refine hK _ _ ((Keep.refl _ _).below hc68 ?_) ?_
        · intro x hx; have := hb62.size; simp at hx ⊢; omega
        clear hK K
        have hb69 := bnext hb62 hc68
        have ha70 := Blk.below ha65 hc68
        clear hc68 hb62 ha65
        rw [H3.out]
        (try simp only [Act.put, List.setIfInBounds_toArray, List.set_cons_zero, List.set_cons_succ])
        have cS := Blk.cell ha70
        have fS := Blk.free ha70
        have lS := Blk.lt ha70
        (with_reducible refine plan_loud (fun K hK => ?_))
        go_simp
        refine hK _ _ ?_ ?_
        · have := ha65s; exact keep_below (by go_grown)
        clear hK K
        (try simp only [Act.put, List.setIfInBounds_toArray, List.set_cons_zero, List.set_cons_succ])
        ((with_reducible refine plan_end ?_); (with_reducible refine tree_fin ?_); simp only [List.drop_succ_cons, List.drop_zero]; (try simp only [Act.put, List.setIfInBounds_toArray, List.set_cons_zero, List.set_cons_succ]))
        go_wp2_with fail
        go_meet
        case rel =>
          refine ⟨_, rfl, ?_, hb69.trans (by go_grown)⟩
          unfold Blk at ha70; simp (disch := (first | omega | (simp only [World.size_alloc, World.size_setCell, World.size_drew] <;> omega) | fail)) only [Blk, heap_old, heap_at, heap_set_same, heap_set_ne, heap_drew', Option.map_some, putO_cells, ha70]; first | rfl | (simp; done) | skip
    · (simp only [withOps, List.getElem?_toArray, List.getElem?_cons_zero, List.getElem?_cons_succ])
      (try simp only [Act.put, List.setIfInBounds_toArray, List.set_cons_zero, List.set_cons_succ])
      (with_reducible refine plan_loud (fun K hK => ?_))
      go_simp
      refine hK _ _ ?_ ?_
      · have := hb0.size; exact keep_below (by go_grown)
      clear hK K
      refine at_world (R := fun Z => Below w12.heap.size w12 Z ∧ Blk Z y0.heap.size 24 Tally.zero.cells.toArray ∧ w12.heap.size ≤ y0.heap.size) ⟨bnext hb0 (by go_grown), heap_at rfl, hb0.size⟩ ?_
      rintro y71 ⟨hb72, ha75, ha75s⟩
      generalize y0.heap.size = q73 at *
      clear hb0
      (with_reducible refine plan_end ?_)
      (try simp only [Act.put, List.setIfInBounds_toArray, List.set_cons_zero, List.set_cons_succ])
      (refine tree_seq ?_; simp only [withOps, List.getElem?_toArray, List.getElem?_cons_zero, List.getElem?_cons_succ])
      (try simp only [Act.put, List.setIfInBounds_toArray, List.set_cons_zero, List.set_cons_succ])
      (with_reducible refine plan_loud (fun K hK => ?_))
      go_simp
      refine hK _ _ ?_ ?_
      · have := hb72.size; exact keep_below (by go_grown)
      clear hK K
      refine at_world (R := fun Z => Below w12.heap.size w12 Z ∧ Blk Z y71.heap.size 24 (x.cells ++ y.cells).toArray ∧ w12.heap.size ≤ y71.heap.size ∧ Blk Z q73 24 Tally.zero.cells.toArray ∧ w12.heap.size ≤ q73) ⟨bnext hb72 (by go_grown), heap_at rfl, hb72.size, (Blk.below ha75 (by go_grown)), ha75s⟩ ?_
      rintro y76 ⟨hb77, hr79, hr79s, ha80, ha80s⟩
      generalize y71.heap.size = r78 at *
      clear hb72 ha75 ha75s
      (try simp only [Act.put, List.setIfInBounds_toArray, List.set_cons_zero, List.set_cons_succ])
      (with_reducible refine plan_loud (fun K hK => ?_))
      go_simp
      refine (join_row r78 [x, y] _ hr79 ?_ (by simp)).mono ?_
      · intro u hu; rcases List.mem_cons.1 hu with rfl | hu; exact OX.out; obtain rfl := List.mem_singleton.1 hu; exact OY.out
      rintro en81 y82 ⟨rfl, hc83⟩
      refine hK _ _ ((Keep.refl _ _).below hc83 ?_) ?_
      · intro x hx; have := hb77.size; simp at hx ⊢; omega
      clear hK K
      have hb84 := bnext hb77 hc83
      have ha85 := Blk.below ha80 hc83
      clear hc83 hb77 ha80
      rw [H1.out]
      (try simp only [Act.put, List.setIfInBounds_toArray, List.set_cons_zero, List.set_cons_succ])
      (with_reducible refine plan_loud (fun K hK => ?_))
      go_simp
      refine hK _ _ ?_ ?_
      · have := hb84.size; exact keep_below (by go_grown)
      clear hK K
      refine at_world (R := fun Z => Below w12.heap.size w12 Z ∧ Blk Z y82.heap.size 24 (xy.cells ++ z.cells).toArray ∧ w12.heap.size ≤ y82.heap.size ∧ Blk Z q73 24 Tally.zero.cells.toArray ∧ w12.heap.size ≤ q73) ⟨bnext hb84 (by go_grown), heap_at rfl, hb84.size, (Blk.below ha85 (by go_grown)), ha80s⟩ ?_
      rintro y86 ⟨hb87, hr89, hr89s, ha90, ha90s⟩
      generalize y82.heap.size = r88 at *
      clear hb84 ha85 ha80s
      (try simp only [Act.put, List.setIfInBounds_toArray, List.set_cons_zero, List.set_cons_succ])
      (with_reducible refine plan_loud (fun K hK => ?_))
      go_simp
      refine (join_row r88 [xy, z] _ hr89 ?_ (by simp)).mono ?_
      · intro u hu; rcases List.mem_cons.1 hu with rfl | hu; exact O1.out; obtain rfl := List.mem_singleton.1 hu; exact OZ.out
      rintro en91 y92 ⟨rfl, hc93⟩
      refine hK _ _ ((Keep.refl _ _).below hc93 ?_) ?_
      · intro x hx; have := hb87.size; simp at hx ⊢; omega
      clear hK K
      have hb94 := bnext hb87 hc93
      have ha95 := Blk.below ha90 hc93
      clear hc93 hb87 ha90
      rw [H3.out]
      (try simp only [Act.put, List.setIfInBounds_toArray, List.set_cons_zero, List.set_cons_succ])
      have cS := Blk.cell ha95
      have fS := Blk.free ha95
      have lS := Blk.lt ha95
      (with_reducible refine plan_loud (fun K hK => ?_))
      go_simp
      refine hK _ _ ?_ ?_
      · have := ha90s; exact keep_below (by go_grown)
      clear hK K
      (try simp only [Act.put, List.setIfInBounds_toArray, List.set_cons_zero, List.set_cons_succ])
      ((with_reducible refine plan_end ?_); (with_reducible refine tree_fin ?_); simp only [List.drop_succ_cons, List.drop_zero]; (try simp only [Act.put, List.setIfInBounds_toArray, List.set_cons_zero, List.set_cons_succ]))
      go_wp2_with fail
      go_meet
      case rel =>
        refine ⟨_, rfl, ?_, hb94.trans (by go_grown)⟩
        unfold Blk at ha95; simp (disch := (first | omega | (simp only [World.size_alloc, World.size_setCell, World.size_drew] <;> omega) | fail)) only [Blk, heap_old, heap_at, heap_set_same, heap_set_ne, heap_drew', Option.map_some, putO_cells, ha95]; first | rfl | (simp; done) | skip
  case rest =>
    clear c7 c8 c9 l7 l8 l9
    obtain ⟨p12, rfl, g12, hb13⟩ := hcut
    refine at_world (R := fun wc => TB wc [(p12, q), (p11, q), (p9, z), (p8, y), (p7, x)] ∧ Below w12.heap.size w12 wc) ⟨tb_more (tb_below T12 hb13) g12, hb13⟩ ?_
    clear g12 hb13 T12
    rintro w13 ⟨T13, hb13⟩
    go_upto_region 8 with (fail)
    have rl13 := (rl12.below hb13).more hb13.size
    have hBC := bnext hBB hb13
    clear rl12 hBB hb13
    have g7 := tb_cell T13 (p := p7) (t := x) (by simp)
    have g8 := tb_cell T13 (p := p8) (t := y) (by simp)
    have g9 := tb_cell T13 (p := p9) (t := z) (by simp)
    have c7 := g7.cell
    have c8 := g8.cell
    have c9 := g9.cell
    have l7 := g7.lt
    have l8 := g8.lt
    have l9 := g9.lt
    clear g7 g8 g9
    go_cut [13] from 20 (fun s13 wc => ∃ p : Nat, s13 = .pointer (some ⟨p, 0, none⟩) ∧ Blk wc p 24 q.cells.toArray ∧ Below w13.heap.size w13 wc)
    case first =>
      (refine region_tree (Keep (fun x => x < w13.heap.size)) (Keep.refl _) Keep.trans 9 (.seq [(0, true), (1, true), (2, true)] (.fork 3 7 (.fork 4 7 (.fork 5 7 (.fork 6 7 (.seq [(7, false), (8, false)] .fin) (.seq [(6, false), (8, false)] .fin)) (.seq [(5, false), (6, false), (8, false)] .fin)) (.seq [(4, false), (5, false), (6, false), (8, false)] .fin)) (.seq [(3, false), (4, false), (5, false), (6, false), (8, false)] .fin))) (by kernel_rfl) (fun _ _ d _ _ h => by cases d <;> exact h) (by kernel_rfl) ?_)
      (refine tree_seq ?_; simp only [withOps, List.getElem?_toArray, List.getElem?_cons_zero, List.getElem?_cons_succ])
      (iterate 3 (refine keep_quiet (v := ?_) rfl ?_ ?_; rotate_left; (focus (intro w' hw'; go_simp; (try with_reducible rfl); done)); try simp only [Act.put, List.setIfInBounds_toArray, List.set_cons_zero, List.set_cons_succ]))
      (with_reducible refine plan_end ?_)
      (try simp only [Act.put, List.setIfInBounds_toArray, List.set_cons_zero, List.set_cons_succ])
      refine at_world (R := fun Z => Below w13.heap.size w13 Z) (by go_grown) ?_
      rintro y0 hb0
      refine tree_fork ?_ ?_
      · (simp only [withOps, List.getElem?_toArray, List.getElem?_cons_zero, List.getElem?_cons_succ])
        (try simp only [Act.put, List.setIfInBounds_toArray, List.set_cons_zero, List.set_cons_succ])
        (with_reducible refine plan_loud (fun K hK => ?_))
        go_simp
        refine hK _ _ ?_ ?_
        · have := hb0.size; exact keep_below (by go_grown)
        clear hK K
        refine at_world (R := fun Z => Below w13.heap.size w13 Z ∧ Blk Z y0.heap.size 24 (y.cells ++ z.cells).toArray ∧ w13.heap.size ≤ y0.heap.size) ⟨bnext hb0 (by go_grown), heap_at rfl, hb0.size⟩ ?_
        rintro y1 ⟨hb2, hr4, hr4s⟩
        generalize y0.heap.size = r3 at *
        clear hb0
        (with_reducible refine plan_end ?_)
        (try simp only [Act.put, List.setIfInBounds_toArray, List.set_cons_zero, List.set_cons_succ])
        refine tree_fork ?_ ?_
        · (simp only [withOps, List.getElem?_toArray, List.getElem?_cons_zero, List.getElem?_cons_succ])
          (try simp only [Act.put, List.setIfInBounds_toArray, List.set_cons_zero, List.set_cons_succ])
          (with_reducible refine plan_loud (fun K hK => ?_))
          go_simp
          refine (join_row r3 [y, z] _ hr4 ?_ (by simp)).mono ?_
          · intro u hu; rcases List.mem_cons.1 hu with rfl | hu; exact OY.out; obtain rfl := List.mem_singleton.1 hu; exact OZ.out
          rintro en6 y7 ⟨rfl, hc8⟩
          refine hK _ _ ((Keep.refl _ _).below hc8 ?_) ?_
          · intro x hx; have := hb2.size; simp at hx ⊢; omega
          clear hK K
          have hb9 := bnext hb2 hc8
          clear hc8 hb2
          rw [H2.out]
          (with_reducible refine plan_end ?_)
          (try simp only [Act.put, List.setIfInBounds_toArray, List.set_cons_zero, List.set_cons_succ])
          refine tree_fork ?_ ?_
          · (simp only [withOps, List.getElem?_toArray, List.getElem?_cons_zero, List.getElem?_cons_succ])
            (try simp only [Act.put, List.setIfInBounds_toArray, List.set_cons_zero, List.set_cons_succ])
            (with_reducible refine plan_loud (fun K hK => ?_))
            go_simp
            refine hK _ _ ?_ ?_
            · have := hb9.size; exact keep_below (by go_grown)
            clear hK K
            refine at_world (R := fun Z => Below w13.heap.size w13 Z ∧ Blk Z y7.heap.size 24 (x.cells ++ yz.cells).toArray ∧ w13.heap.size ≤ y7.heap.size) ⟨bnext hb9 (by go_grown), heap_at rfl, hb9.size⟩ ?_
            rintro y11 ⟨hb12, hr14, hr14s⟩
            generalize y7.heap.size = r13 at *
            clear hb9
            (with_reducible refine plan_end ?_)
            (try simp only [Act.put, List.setIfInBounds_toArray, List.set_cons_zero, List.set_cons_succ])
            refine tree_fork ?_ ?_
            · (simp only [withOps, List.getElem?_toArray, List.getElem?_cons_zero, List.getElem?_cons_succ])
              (try simp only [Act.put, List.setIfInBounds_toArray, List.set_cons_zero, List.set_cons_succ])
              (with_reducible refine plan_loud (fun K hK => ?_))
              go_simp
              refine (join_row r13 [x, yz] _ hr14 ?_ (by simp)).mono ?_
              · intro u hu; rcases List.mem_cons.1 hu with rfl | hu; exact OX.out; obtain rfl := List.mem_singleton.1 hu; exact O2.out
              rintro en16 y17 ⟨rfl, hc18⟩
              refine hK _ _ ((Keep.refl _ _).below hc18 ?_) ?_
              · intro x hx; have := hb12.size; simp at hx ⊢; omega
              clear hK K
              have hb19 := bnext hb12 hc18
              clear hc18 hb12
              rw [H4.out]
              (with_reducible refine plan_end ?_)
              (try simp only [Act.put, List.setIfInBounds_toArray, List.set_cons_zero, List.set_cons_succ])
              (refine tree_seq ?_; simp only [withOps, List.getElem?_toArray, List.getElem?_cons_zero, List.getElem?_cons_succ])
              (try simp only [Act.put, List.setIfInBounds_toArray, List.set_cons_zero, List.set_cons_succ])
              (with_reducible refine plan_loud (fun K hK => ?_))
              go_simp
              refine hK _ _ ?_ ?_
              · have := hb19.size; exact keep_below (by go_grown)
              clear hK K
              refine at_world (R := fun Z => Below w13.heap.size w13 Z ∧ Blk Z y17.heap.size 24 Tally.zero.cells.toArray ∧ w13.heap.size ≤ y17.heap.size) ⟨bnext hb19 (by go_grown), heap_at rfl, hb19.size⟩ ?_
              rintro y21 ⟨hb22, ha25, ha25s⟩
              generalize y17.heap.size = q23 at *
              clear hb19
              (try simp only [Act.put, List.setIfInBounds_toArray, List.set_cons_zero, List.set_cons_succ])
              have cS := Blk.cell ha25
              have fS := Blk.free ha25
              have lS := Blk.lt ha25
              (with_reducible refine plan_loud (fun K hK => ?_))
              go_simp
              refine hK _ _ ?_ ?_
              · have := ha25s; exact keep_below (by go_grown)
              clear hK K
              (try simp only [Act.put, List.setIfInBounds_toArray, List.set_cons_zero, List.set_cons_succ])
              ((with_reducible refine plan_end ?_); (with_reducible refine tree_fin ?_); simp only [List.drop_succ_cons, List.drop_zero]; (try simp only [Act.put, List.setIfInBounds_toArray, List.set_cons_zero, List.set_cons_succ]))
              go_wp2_with fail
              go_meet
              case rel =>
                refine ⟨_, rfl, ?_, hb22.trans (by go_grown)⟩
                unfold Blk at ha25; simp (disch := (first | omega | (simp only [World.size_alloc, World.size_setCell, World.size_drew] <;> omega) | fail)) only [Blk, heap_old, heap_at, heap_set_same, heap_set_ne, heap_drew', Option.map_some, putO_cells, ha25]; first | rfl | (simp; done) | skip
            · (simp only [withOps, List.getElem?_toArray, List.getElem?_cons_zero, List.getElem?_cons_succ])
              (try simp only [Act.put, List.setIfInBounds_toArray, List.set_cons_zero, List.set_cons_succ])
              (with_reducible refine plan_loud (fun K hK => ?_))
              go_simp
              refine hK _ _ ?_ ?_
              · have := hb12.size; exact keep_below (by go_grown)
              clear hK K
              refine at_world (R := fun Z => Below w13.heap.size w13 Z ∧ Blk Z y11.heap.size 24 Tally.zero.cells.toArray ∧ w13.heap.size ≤ y11.heap.size ∧ Blk Z r13 24 (x.cells ++ yz.cells).toArray) ⟨bnext hb12 (by go_grown), heap_at rfl, hb12.size, (Blk.below hr14 (by go_grown))⟩ ?_
              rintro y26 ⟨hb27, ha30, ha30s, hr29⟩
              generalize y11.heap.size = q28 at *
              clear hb12 hr14
              (with_reducible refine plan_end ?_)
              (try simp only [Act.put, List.setIfInBounds_toArray, List.set_cons_zero, List.set_cons_succ])
              (refine tree_seq ?_; simp only [withOps, List.getElem?_toArray, List.getElem?_cons_zero, List.getElem?_cons_succ])
              (try simp only [Act.put, List.setIfInBounds_toArray, List.set_cons_zero, List.set_cons_succ])
              (with_reducible refine plan_loud (fun K hK => ?_))
              go_simp
              refine (join_row r13 [x, yz] _ hr29 ?_ (by simp)).mono ?_
              · intro u hu; rcases List.mem_cons.1 hu with rfl | hu; exact OX.out; obtain rfl := List.mem_singleton.1 hu; exact O2.out
              rintro en31 y32 ⟨rfl, hc33⟩
              refine hK _ _ ((Keep.refl _ _).below hc33 ?_) ?_
              · intro x hx; have := hb27.size; simp at hx ⊢; omega
              clear hK K
              have hb34 := bnext hb27 hc33
              have ha35 := Blk.below ha30 hc33
              clear hc33 hb27 ha30
              rw [H4.out]
              (try simp only [Act.put, List.setIfInBounds_toArray, List.set_cons_zero, List.set_cons_succ])
              have cS := Blk.cell ha35
              have fS := Blk.free ha35
              have lS := Blk.lt ha35
              (with_reducible refine plan_loud (fun K hK => ?_))
              go_simp
              refine hK _ _ ?_ ?_
              · have := ha30s; exact keep_below (by go_grown)
              clear hK K
              (try simp only [Act.put, List.setIfInBounds_toArray, List.set_cons_zero, List.set_cons_succ])
              ((with_reducible refine plan_end ?_); (with_reducible refine tree_fin ?_); simp only [List.drop_succ_cons, List.drop_zero]; (try simp only [Act.put, List.setIfInBounds_toArray, List.set_cons_zero, List.set_cons_succ]))
              go_wp2_with fail
              go_meet
              case rel =>
                refine ⟨_, rfl, ?_, hb34.trans (by go_grown)⟩
                unfold Blk at ha35; simp (disch := (first | omega | (simp only [World.size_alloc, World.size_setCell, World.size_drew] <;> omega) | fail)) only [Blk, heap_old, heap_at, heap_set_same, heap_set_ne, heap_drew', Option.map_some, putO_cells, ha35]; first | rfl | (simp; done) | skip
          · (simp only [withOps, List.getElem?_toArray, List.getElem?_cons_zero, List.getElem?_cons_succ])
            (try simp only [Act.put, List.setIfInBounds_toArray, List.set_cons_zero, List.set_cons_succ])
            (with_reducible refine plan_loud (fun K hK => ?_))
            go_simp
            refine hK _ _ ?_ ?_
            · have := hb9.size; exact keep_below (by go_grown)
            clear hK K
            refine at_world (R := fun Z => Below w13.heap.size w13 Z ∧ Blk Z y7.heap.size 24 Tally.zero.cells.toArray ∧ w13.heap.size ≤ y7.heap.size) ⟨bnext hb9 (by go_grown), heap_at rfl, hb9.size⟩ ?_
            rintro y36 ⟨hb37, ha40, ha40s⟩
            generalize y7.heap.size = q38 at *
            clear hb9
            (with_reducible refine plan_end ?_)
            (try simp only [Act.put, List.setIfInBounds_toArray, List.set_cons_zero, List.set_cons_succ])
            (refine tree_seq ?_; simp only [withOps, List.getElem?_toArray, List.getElem?_cons_zero, List.getElem?_cons_succ])
            (try simp only [Act.put, List.setIfInBounds_toArray, List.set_cons_zero, List.set_cons_succ])
            (with_reducible refine plan_loud (fun K hK => ?_))
            go_simp
            refine hK _ _ ?_ ?_
            · have := hb37.size; exact keep_below (by go_grown)
            clear hK K
            refine at_world (R := fun Z => Below w13.heap.size w13 Z ∧ Blk Z y36.heap.size 24 (x.cells ++ yz.cells).toArray ∧ w13.heap.size ≤ y36.heap.size ∧ Blk Z q38 24 Tally.zero.cells.toArray ∧ w13.heap.size ≤ q38) ⟨bnext hb37 (by go_grown), heap_at rfl, hb37.size, (Blk.below ha40 (by go_grown)), ha40s⟩ ?_
            rintro y41 ⟨hb42, hr44, hr44s, ha45, ha45s⟩
            generalize y36.heap.size = r43 at *
            clear hb37 ha40 ha40s
            (try simp only [Act.put, List.setIfInBounds_toArray, List.set_cons_zero, List.set_cons_succ])
            (with_reducible refine plan_loud (fun K hK => ?_))
            go_simp
            refine (join_row r43 [x, yz] _ hr44 ?_ (by simp)).mono ?_
            · intro u hu; rcases List.mem_cons.1 hu with rfl | hu; exact OX.out; obtain rfl := List.mem_singleton.1 hu; exact O2.out
            rintro en46 y47 ⟨rfl, hc48⟩
            refine hK _ _ ((Keep.refl _ _).below hc48 ?_) ?_
            · intro x hx; have := hb42.size; simp at hx ⊢; omega
            clear hK K
            have hb49 := bnext hb42 hc48
            have ha50 := Blk.below ha45 hc48
            clear hc48 hb42 ha45
            rw [H4.out]
            (try simp only [Act.put, List.setIfInBounds_toArray, List.set_cons_zero, List.set_cons_succ])
            have cS := Blk.cell ha50
            have fS := Blk.free ha50
            have lS := Blk.lt ha50
            (with_reducible refine plan_loud (fun K hK => ?_))
            go_simp
            refine hK _ _ ?_ ?_
            · have := ha45s; exact keep_below (by go_grown)
            clear hK K
            (try simp only [Act.put, List.setIfInBounds_toArray, List.set_cons_zero, List.set_cons_succ])
            ((with_reducible refine plan_end ?_); (with_reducible refine tree_fin ?_); simp only [List.drop_succ_cons, List.drop_zero]; (try simp only [Act.put, List.setIfInBounds_toArray, List.set_cons_zero, List.set_cons_succ]))
            go_wp2_with fail
            go_meet
            case rel =>
              refine ⟨_, rfl, ?_, hb49.trans (by go_grown)⟩
              unfold Blk at ha50; simp (disch := (first | omega | (simp only [World.size_alloc, World.size_setCell, World.size_drew] <;> omega) | fail)) only [Blk, heap_old, heap_at, heap_set_same, heap_set_ne, heap_drew', Option.map_some, putO_cells, ha50]; first | rfl | (simp; done) | skip
        · (simp only [withOps, List.getElem?_toArray, List.getElem?_cons_zero, List.getElem?_cons_succ])
          (try simp only [Act.put, List.setIfInBounds_toArray, List.set_cons_zero, List.set_cons_succ])
          (with_reducible refine plan_loud (fun K hK => ?_))
          go_simp
          refine hK _ _ ?_ ?_
          · have := hb2.size; exact keep_below (by go_grown)
          clear hK K
          refine at_world (R := fun Z => Below w13.heap.size w13 Z ∧ Blk Z y1.heap.size 24 Tally.zero.cells.toArray ∧ w13.heap.size ≤ y1.heap.size ∧ Blk Z r3 24 (y.cells ++ z.cells).toArray) ⟨bnext hb2 (by go_grown), heap_at rfl, hb2.size, (Blk.below hr4 (by go_grown))⟩ ?_
          rintro y51 ⟨hb52, ha55, ha55s, hr54⟩
          generalize y1.heap.size = q53 at *
          clear hb2 hr4
          (with_reducible refine plan_end ?_)
          (try simp only [Act.put, List.setIfInBounds_toArray, List.set_cons_zero, List.set_cons_succ])
          (refine tree_seq ?_; simp only [withOps, List.getElem?_toArray, List.getElem?_cons_zero, List.getElem?_cons_succ])
          (try simp only [Act.put, List.setIfInBounds_toArray, List.set_cons_zero, List.set_cons_succ])
          (with_reducible refine plan_loud (fun K hK => ?_))
          go_simp
          refine (join_row r3 [y, z] _ hr54 ?_ (by simp)).mono ?_
          · intro u hu; rcases List.mem_cons.1 hu with rfl | hu; exact OY.out; obtain rfl := List.mem_singleton.1 hu; exact OZ.out
          rintro en56 y57 ⟨rfl, hc58⟩
          refine hK _ _ ((Keep.refl _ _).below hc58 ?_) ?_
          · intro x hx; have := hb52.size; simp at hx ⊢; omega
          clear hK K
          have hb59 := bnext hb52 hc58
          have ha60 := Blk.below ha55 hc58
          clear hc58 hb52 ha55
          rw [H2.out]
          (try simp only [Act.put, List.setIfInBounds_toArray, List.set_cons_zero, List.set_cons_succ])
          (with_reducible refine plan_loud (fun K hK => ?_))
          go_simp
          refine hK _ _ ?_ ?_
          · have := hb59.size; exact keep_below (by go_grown)
          clear hK K
          refine at_world (R := fun Z => Below w13.heap.size w13 Z ∧ Blk Z y57.heap.size 24 (x.cells ++ yz.cells).toArray ∧ w13.heap.size ≤ y57.heap.size ∧ Blk Z q53 24 Tally.zero.cells.toArray ∧ w13.heap.size ≤ q53) ⟨bnext hb59 (by go_grown), heap_at rfl, hb59.size, (Blk.below ha60 (by go_grown)), ha55s⟩ ?_
          rintro y61 ⟨hb62, hr64, hr64s, ha65, ha65s⟩
          generalize y57.heap.size = r63 at *
          clear hb59 ha60 ha55s
          (try simp only [Act.put, List.setIfInBounds_toArray, List.set_cons_zero, List.set_cons_succ])
          (with_reducible refine plan_loud (fun K hK => ?_))
          go_simp
          refine (join_row r63 [x, yz] _ hr64 ?_ (by simp)).mono ?_
          · intro u hu; rcases List.mem_cons.1 hu with rfl | hu; exact OX.out; obtain rfl := List.mem_singleton.1 hu; exact O2.out
          rintro en66 y67 ⟨rfl, hc68⟩
          refine hK _ _ ((Keep.refl _ _).below hc68 ?_) ?_
          · intro x hx; have := hb62.size; simp at hx ⊢; omega
          clear hK K
          have hb69 := bnext hb62 hc68
          have ha70 := Blk.below ha65 hc68
          clear hc68 hb62 ha65
          rw [H4.out]
          (try simp only [Act.put, List.setIfInBounds_toArray, List.set_cons_zero, List.set_cons_succ])
          have cS := Blk.cell ha70
          have fS := Blk.free ha70
          have lS := Blk.lt ha70
          (with_reducible refine plan_loud (fun K hK => ?_))
          go_simp
          refine hK _ _ ?_ ?_
          · have := ha65s; exact keep_below (by go_grown)
          clear hK K
          (try simp only [Act.put, List.setIfInBounds_toArray, List.set_cons_zero, List.set_cons_succ])
          ((with_reducible refine plan_end ?_); (with_reducible refine tree_fin ?_); simp only [List.drop_succ_cons, List.drop_zero]; (try simp only [Act.put, List.setIfInBounds_toArray, List.set_cons_zero, List.set_cons_succ]))
          go_wp2_with fail
          go_meet
          case rel =>
            refine ⟨_, rfl, ?_, hb69.trans (by go_grown)⟩
            unfold Blk at ha70; simp (disch := (first | omega | (simp only [World.size_alloc, World.size_setCell, World.size_drew] <;> omega) | fail)) only [Blk, heap_old, heap_at, heap_set_same, heap_set_ne, heap_drew', Option.map_some, putO_cells, ha70]; first | rfl | (simp; done) | skip
      · (simp only [withOps, List.getElem?_toArray, List.getElem?_cons_zero, List.getElem?_cons_succ])
        (try simp only [Act.put, List.setIfInBounds_toArray, List.set_cons_zero, List.set_cons_succ])
        (with_reducible refine plan_loud (fun K hK => ?_))
        go_simp
        refine hK _ _ ?_ ?_
        · have := hb0.size; exact keep_below (by go_grown)
        clear hK K
        refine at_world (R := fun Z => Below w13.heap.size w13 Z ∧ Blk Z y0.heap.size 24 Tally.zero.cells.toArray ∧ w13.heap.size ≤ y0.heap.size) ⟨bnext hb0 (by go_grown), heap_at rfl, hb0.size⟩ ?_
        rintro y71 ⟨hb72, ha75, ha75s⟩
        generalize y0.heap.size = q73 at *
        clear hb0
        (with_reducible refine plan_end ?_)
        (try simp only [Act.put, List.setIfInBounds_toArray, List.set_cons_zero, List.set_cons_succ])
        (refine tree_seq ?_; simp only [withOps, List.getElem?_toArray, List.getElem?_cons_zero, List.getElem?_cons_succ])
        (try simp only [Act.put, List.setIfInBounds_toArray, List.set_cons_zero, List.set_cons_succ])
        (with_reducible refine plan_loud (fun K hK => ?_))
        go_simp
        refine hK _ _ ?_ ?_
        · have := hb72.size; exact keep_below (by go_grown)
        clear hK K
        refine at_world (R := fun Z => Below w13.heap.size w13 Z ∧ Blk Z y71.heap.size 24 (y.cells ++ z.cells).toArray ∧ w13.heap.size ≤ y71.heap.size ∧ Blk Z q73 24 Tally.zero.cells.toArray ∧ w13.heap.size ≤ q73) ⟨bnext hb72 (by go_grown), heap_at rfl, hb72.size, (Blk.below ha75 (by go_grown)), ha75s⟩ ?_
        rintro y76 ⟨hb77, hr79, hr79s, ha80, ha80s⟩
        generalize y71.heap.size = r78 at *
        clear hb72 ha75 ha75s
        (try simp only [Act.put, List.setIfInBounds_toArray, List.set_cons_zero, List.set_cons_succ])
        (with_reducible refine plan_loud (fun K hK => ?_))
        go_simp
        refine (join_row r78 [y, z] _ hr79 ?_ (by simp)).mono ?_
        · intro u hu; rcases List.mem_cons.1 hu with rfl | hu; exact OY.out; obtain rfl := List.mem_singleton.1 hu; exact OZ.out
        rintro en81 y82 ⟨rfl, hc83⟩
        refine hK _ _ ((Keep.refl _ _).below hc83 ?_) ?_
        · intro x hx; have := hb77.size; simp at hx ⊢; omega
        clear hK K
        have hb84 := bnext hb77 hc83
        have ha85 := Blk.below ha80 hc83
        clear hc83 hb77 ha80
        rw [H2.out]
        (try simp only [Act.put, List.setIfInBounds_toArray, List.set_cons_zero, List.set_cons_succ])
        (with_reducible refine plan_loud (fun K hK => ?_))
        go_simp
        refine hK _ _ ?_ ?_
        · have := hb84.size; exact keep_below (by go_grown)
        clear hK K
        refine at_world (R := fun Z => Below w13.heap.size w13 Z ∧ Blk Z y82.heap.size 24 (x.cells ++ yz.cells).toArray ∧ w13.heap.size ≤ y82.heap.size ∧ Blk Z q73 24 Tally.zero.cells.toArray ∧ w13.heap.size ≤ q73) ⟨bnext hb84 (by go_grown), heap_at rfl, hb84.size, (Blk.below ha85 (by go_grown)), ha80s⟩ ?_
        rintro y86 ⟨hb87, hr89, hr89s, ha90, ha90s⟩
        generalize y82.heap.size = r88 at *
        clear hb84 ha85 ha80s
        (try simp only [Act.put, List.setIfInBounds_toArray, List.set_cons_zero, List.set_cons_succ])
        (with_reducible refine plan_loud (fun K hK => ?_))
        go_simp
        refine (join_row r88 [x, yz] _ hr89 ?_ (by simp)).mono ?_
        · intro u hu; rcases List.mem_cons.1 hu with rfl | hu; exact OX.out; obtain rfl := List.mem_singleton.1 hu; exact O2.out
        rintro en91 y92 ⟨rfl, hc93⟩
        refine hK _ _ ((Keep.refl _ _).below hc93 ?_) ?_
        · intro x hx; have := hb87.size; simp at hx ⊢; omega
        clear hK K
        have hb94 := bnext hb87 hc93
        have ha95 := Blk.below ha90 hc93
        clear hc93 hb87 ha90
        rw [H4.out]
        (try simp only [Act.put, List.setIfInBounds_toArray, List.set_cons_zero, List.set_cons_succ])
        have cS := Blk.cell ha95
        have fS := Blk.free ha95
        have lS := Blk.lt ha95
        (with_reducible refine plan_loud (fun K hK => ?_))
        go_simp
        refine hK _ _ ?_ ?_
        · have := ha90s; exact keep_below (by go_grown)
        clear hK K
        (try simp only [Act.put, List.setIfInBounds_toArray, List.set_cons_zero, List.set_cons_succ])
        ((with_reducible refine plan_end ?_); (with_reducible refine tree_fin ?_); simp only [List.drop_succ_cons, List.drop_zero]; (try simp only [Act.put, List.setIfInBounds_toArray, List.set_cons_zero, List.set_cons_succ]))
        go_wp2_with fail
        go_meet
        case rel =>
          refine ⟨_, rfl, ?_, hb94.trans (by go_grown)⟩
          unfold Blk at ha95; simp (disch := (first | omega | (simp only [World.size_alloc, World.size_setCell, World.size_drew] <;> omega) | fail)) only [Blk, heap_old, heap_at, heap_set_same, heap_set_ne, heap_drew', Option.map_some, putO_cells, ha95]; first | rfl | (simp; done) | skip
    case rest =>
      clear c7 c8 c9 l7 l8 l9
      obtain ⟨p13, rfl, g13, hb14⟩ := hcut
      refine at_world (R := fun wc => TB wc [(p13, q), (p12, q), (p11, q), (p9, z), (p8, y), (p7, x)] ∧ Below w13.heap.size w13 wc) ⟨tb_more (tb_below T13 hb14) g13, hb14⟩ ?_
      clear g13 hb14 T13
      rintro w14 ⟨T14, hb14⟩
      have rl14 := (rl13.below hb14).more hb14.size
      have hBD := bnext hBC hb14
      clear rl13 hBC hb14
      have g7 := tb_cell T14 (p := p7) (t := x) (by simp)
      have g8 := tb_cell T14 (p := p8) (t := y) (by simp)
      have g9 := tb_cell T14 (p := p9) (t := z) (by simp)
      have c7 := g7.cell
      have c8 := g8.cell
      have c9 := g9.cell
      go_wp2_with fail
      refine (join_row w14.heap.size [z, Tally.zero, y, x, ⟨-3, 9, -9, 9⟩] _ (heap_at rfl) ?_ (by simp)).mono ?_
      · intro u hu
        rcases List.mem_cons.1 hu with rfl | hu
        · exact OZ.out
        rcases List.mem_cons.1 hu with rfl | hu
        · unfold Tally.ok; decide
        rcases List.mem_cons.1 hu with rfl | hu
        · exact OY.out
        rcases List.mem_cons.1 hu with rfl | hu
        · exact OX.out
        obtain rfl := List.mem_singleton.1 hu
        unfold Tally.ok; decide
      rintro en w15 ⟨rfl, hb15⟩
      rw [H5.out]
      have hB15 : Below w14.heap.size w14 w15 := bnext (by go_grown) hb15
      clear hb15 c7 c8 c9 g7 g8 g9
      go_upto_region 10 with (fail)
      (refine wp_at (fun wc => TB wc [(w15.heap.size, q), (p13, q), (p12, q), (p11, q), (p9, z), (p8, y), (p7, x)] ∧ Below w14.heap.size w14 wc) ⟨tb_more (tb_below T14 (bnext hB15 (by go_grown))) (heap_at rfl), bnext hB15 (by go_grown)⟩ ?_)
      clear hB15 T14
      rintro w16 ⟨T16, hb16⟩
      have rl16 := (rl14.below hb16).more hb16.size
      have hBE := bnext hBD hb16
      clear rl14 hBD hb16
      generalize w15.heap.size = p14 at *
      have hs := (same_iff q q).2 rfl
      have g7 := (tb_cell T16 (p := p7) (t := x) (by simp)).cell
      have g11 := (tb_cell T16 (p := p11) (t := q) (by simp)).cell
      have g12 := (tb_cell T16 (p := p12) (t := q) (by simp)).cell
      have g13 := (tb_cell T16 (p := p13) (t := q) (by simp)).cell
      have g14 := (tb_cell T16 (p := p14) (t := q) (by simp)).cell
      go_wp2_with fail
      refine (can_any q _ OW.out (tab_below HT.out (bnext hBE (by go_grown)))).mono ?_
      rintro en w17 ⟨rfl, hb17⟩
      have hB17 : Below w16.heap.size w16 w17 := bnext (by go_grown) hb17
      have T17 := tb_below T16 hB17
      clear hb17 g7 g11 g12 g13 g14
      rw [K1.out]
      have g7 := (tb_cell T17 (p := p7) (t := x) (by simp)).cell
      have g11 := (tb_cell T17 (p := p11) (t := q) (by simp)).cell
      go_wp2_with fail
      refine (add_any q v _ OW.out HV.out.1 HV.out.2).mono ?_
      rintro en w18 ⟨rfl, hb18⟩
      have hB18 : Below w16.heap.size w16 w18 := bnext hB17 (bnext (by go_grown) hb18)
      have T18 := tb_below T16 hB18
      clear hb18 g7 g11 hB17 T17
      have OA := Lib.hid (add_ok q v OW.out HV.out.1 HV.out.2)
      have KA := Lib.hid (show canB (add q v) = true from K3.out)
      generalize add q v = qa at *
      have g7 := (tb_cell T18 (p := p7) (t := x) (by simp)).cell
      have g11 := (tb_cell T18 (p := p11) (t := q) (by simp)).cell
      go_wp2_with fail
      refine (can_any qa _ OA.out (tab_below HT.out (bnext hBE (bnext hB18 (by go_grown))))).mono ?_
      rintro en w19 ⟨rfl, hb19⟩
      have hB19 : Below w16.heap.size w16 w19 := bnext hB18 (bnext (by go_grown) hb19)
      have T19 := tb_below T16 hB19
      clear hb19 g7 g11 hB18 T18
      rw [KA.out]
      have g7 := (tb_cell T19 (p := p7) (t := x) (by simp)).cell
      have g11 := (tb_cell T19 (p := p11) (t := q) (by simp)).cell
      go_wp2_with fail
      refine (join_row w19.heap.size [q, x] _ (heap_at rfl) ?_ (by simp)).mono ?_
      · intro u hu
        rcases List.mem_cons.1 hu with rfl | hu
        · exact OW.out
        obtain rfl := List.mem_singleton.1 hu
        exact OX.out
      rintro en w20 ⟨rfl, hb20⟩
      have hB20 : Below w16.heap.size w16 w20 := bnext hB19 (bnext (by go_grown) hb20)
      have T20 := tb_below T16 hB20
      clear hb20 g7 g11 hB19 T19
      rw [H6.out]
      generalize ofs (l ++ la) = qm at *
      have g11 := (tb_cell T20 (p := p11) (t := q) (by simp)).cell
      go_wp2_with fail
      refine (can_any qm _ OM.out (tab_below HT.out (bnext hBE (bnext hB20 (by go_grown))))).mono ?_
      rintro en w21 ⟨rfl, hb21⟩
      have hB21 : Below w16.heap.size w16 w21 := bnext hB20 (bnext (by go_grown) hb21)
      have T21 := tb_below T16 hB21
      have rl21 := (rl16.below hB21).more hB21.size
      have hBF := bnext hBE hB21
      clear hb21 g11 hB20 T20 hB21 rl16 hBE T16
      rw [K2.out]
      have g11 := (tb_cell T21 (p := p11) (t := q) (by simp)).cell
      obtain ⟨r, hm, hr⟩ : ∃ r, (∀ W, Calls Tryd.prog 21 #[q.val] W (Ret (.tuple #[.float .f64 r, .bool (decide (0 < n))]) W)) ∧ (0 < n → floatBits .quo .f64 (floatOfInt .f64 q.su) (floatOfInt .f64 q.c) = some r) := by
        have hc := HG.out.1
        rw [HLl.out] at hc
        rcases Nat.eq_zero_or_pos n with h0 | h0
        · refine ⟨0, fun W => ?_, fun h => absurd h (by omega)⟩
          rw [show decide (0 < n) = false by simp; omega]
          exact mean_none q (by omega) W
        · obtain ⟨r, hr⟩ := Flo.quo_some q.su q.c OW.out.2.1 OW.out.1 (by omega)
          refine ⟨r, fun W => ?_, fun _ => hr⟩
          rw [show decide (0 < n) = true by simp; omega]
          exact mean_some q (by omega) r hr W
      have HR := Lib.hid hr
      clear hr
      obtain ⟨ob, hob⟩ : ∃ ob, decide (0 < n) = ob := ⟨_, rfl⟩
      rw [hob] at hm
      have HOB := Lib.hid hob
      clear hob
      go_wp2_with fail
      refine (hm _).mono ?_
      clear hm
      rintro en w22 ⟨rfl, hb22⟩
      have hB22 : Below w21.heap.size w21 w22 := bnext (by go_grown) hb22
      have T22 := tb_below T21 hB22
      have rl22 := (rl21.below hB22).more hB22.size
      have hBG := bnext hBF hB22
      clear hb22 g11 hB22 rl21 hBF T21
      have g11 := (tb_cell T22 (p := p11) (t := q) (by simp)).cell
      go_wp2_with fail
      have HP := Lib.hid (show q.c = n ∧ q.su = sumw l from ⟨by rw [HG.out.1, HLl.out], HG.out.2.2.1⟩)
      clear g11 H1 H2 H3 H4 H5 H6 K1 K2 K3 OX OY OZ O1 O2 OM OA KA hs
      have hn := HN.out
      go_loopw [17, 18, 19] (fun s t i wr => ∃ k : Nat, k ≤ n ∧ i = .int .i64 k ∧ s = .bool ((l.take k).all smallI) ∧ t = .int .i64 (sumw (l.take k)) ∧ Below w22.heap.size w22 wr) (fun _ _ i _ => n - (intOf i).toNat)
      case atStart => exact ⟨0, Nat.zero_le _, rfl, by simp, rfl, by go_grown⟩
      case round =>
        obtain ⟨k, hk, rfl, rfl, rfl, hB⟩ := hrel
        have T := tb_below T22 hB
        have hBr := bnext hBG hB
        rcases Nat.lt_or_ge k n with hlt | hge
        · obtain ⟨u, hu⟩ : ∃ u, l[k]? = some u := ⟨_, List.getElem?_eq_getElem (by rw [HLl.out]; exact hlt)⟩
          rcases rl22 with hr | ⟨b', off, rfl, hbl, hcc⟩
          · have := HLl.out
            rw [List.map_eq_nil_iff.1 hr] at this
            simp at this; omega
          have e0 : wr.cell? ⟨b', off + k, none⟩ = some (.int .i64 u) := (hB.cell (p := ⟨b', off + k, none⟩) hbl).trans (hcc k _ (by rw [List.getElem?_map, hu]; rfl))
          have HS := Lib.hid (sumw_snoc l k u hu)
          have HA := Lib.hid (small_snoc l k u hu)
          clear hu hbl hcc T22
          have hki : (k : Int) < n := by omega
          cases hsm : (l.take k).all smallI with
          | false =>
            have HA2 := Lib.hid (show (l.take (k + 1)).all smallI = false by rw [HA.out, hsm]; rfl)
            generalize sumw (l.take k) = sk at *
            clear HA hsm
            go_wp2_with fail
            go_roundw
            case rel => exact ⟨k + 1, by omega, by go_num, by rw [HA2.out], by rw [HS.out], by go_grown⟩
            case measure => simp [intOf]; omega
          | true =>
            generalize sumw (l.take k) = sk at *
            rcases Int.lt_or_le (-1099511627776) u with h1 | h1
            · rcases Int.lt_or_le u 1099511627776 with h2 | h2
              · have HA2 := Lib.hid (show (l.take (k + 1)).all smallI = true by rw [HA.out, hsm]; unfold smallI; simp [h1, h2])
                clear HA hsm
                go_wp2_with fail
                go_roundw
                case rel => exact ⟨k + 1, by omega, by go_num, by rw [HA2.out], by rw [HS.out], by go_grown⟩
                case measure => simp [intOf]; omega
              · have HA2 := Lib.hid (show (l.take (k + 1)).all smallI = false by rw [HA.out, hsm]; unfold smallI; simp; omega)
                have h2' : ¬ u < 1099511627776 := by omega
                clear HA hsm
                go_wp2_with fail
                go_roundw
                case rel => exact ⟨k + 1, by omega, by go_num, by rw [HA2.out], by rw [HS.out], by go_grown⟩
                case measure => simp [intOf]; omega
            · have HA2 := Lib.hid (show (l.take (k + 1)).all smallI = false by rw [HA.out, hsm]; unfold smallI; simp; omega)
              have h1' : ¬ -1099511627776 < u := by omega
              clear HA hsm
              go_wp2_with fail
              go_roundw
              case rel => exact ⟨k + 1, by omega, by go_num, by rw [HA2.out], by rw [HS.out], by go_grown⟩
              case measure => simp [intOf]; omega
        · obtain rfl : k = n := by omega
          have hl2 : l.take k = l := by rw [← HLl.out, List.take_length]
          rw [hl2]
          clear hl2 T22 rl22 hBG
          have f11 := (tb_cell T (p := p11) (t := q) (by simp)).cell
          obtain ⟨hc, hsu⟩ := HP.out
          have hc' : (q.c == (k : Int)) = true := by simp [hc]
          have hsu' : (q.su == sumw l) = true := by simp [hsu]
          have HC := Lib.hid hc
          clear hc hsu
          have hkd : (decide ((0 : Int) < (k : Int))) = ob := by rw [← HOB.out]; simp
          cases ob with
          | false =>
            have hk0 : ¬ (0 : Int) < (k : Int) := by simpa using hkd
            clear hkd
            go_wp2_with fail
            refine (works_any _).mono ?_
            rintro en w24 ⟨rfl, hb24⟩
            have hB24 := bnext hBr (bnext (by go_grown) hb24)
            clear hb24 f11
            go_wp2_with fail
            go_returns
            exact ⟨rfl, hB24⟩
          | true =>
            have hk0 : (0 : Int) < (k : Int) := by simpa using hkd
            clear hkd
            cases hsm : l.all smallI with
            | false =>
              go_wp2_with fail
              refine (works_any _).mono ?_
              rintro en w24 ⟨rfl, hb24⟩
              have hB24 := bnext hBr (bnext (by go_grown) hb24)
              clear hb24 f11
              go_wp2_with fail
              go_returns
              exact ⟨rfl, hB24⟩
            | true =>
              rcases Int.lt_or_le 4000 (k : Int) with h4 | h4
              · go_wp2_with fail
                refine (works_any _).mono ?_
                rintro en w24 ⟨rfl, hb24⟩
                have hB24 := bnext hBr (bnext (by go_grown) hb24)
                clear hb24 f11
                go_wp2_with fail
                go_returns
                exact ⟨rfl, hB24⟩
              · have h4' : ¬ (4000 : Int) < (k : Int) := by omega
                obtain ⟨r', q1, q2, q3⟩ := good_mean HG.out hsm (by rw [HLl.out]; omega) (by rw [HLl.out]; omega)
                obtain rfl : r' = r := Option.some.inj (q1.symm.trans (HR.out (by omega)))
                have hge : (FloatKind.f64.format.order r' (floatOfInt .f64 q.mi) == some Ordering.gt || FloatKind.f64.format.order r' (floatOfInt .f64 q.mi) == some Ordering.eq) = true := q2
                have hle : (FloatKind.f64.format.order r' (floatOfInt .f64 q.ma) == some Ordering.lt || FloatKind.f64.format.order r' (floatOfInt .f64 q.ma) == some Ordering.eq) = true := q3
                clear q1 q2 q3
                go_wp2_with fail
                refine (works_any _).mono ?_
                rintro en w24 ⟨rfl, hb24⟩
                have hB24 := bnext hBr (bnext (by go_grown) hb24)
                clear hb24 f11
                go_wp2_with fail
                go_returns
                exact ⟨rfl, hB24⟩
end Go.Proofs.YtkafcdgeboldgaaDoor
