/- The document's Heads and All. -/
import Derived.Test.YtolbmjilcngnhaaDoorFrRefR
import Derived.Test.YtolbmjilcngnhaaDoorFrHdM
import Derived.Test.YtolbmjilcngnhaaDoorFrRow
set_option linter.unusedSimpArgs false
set_option linter.unusedVariables false
namespace Go.Proofs.YtolbmjilcngnhaaDoor
open Go.RowKit Go.Kp

theorem own_rdv {w : World} {base : Nat} {e : TypeId} {v : Value} {n : Nat} {xs : List Value} (h : w.ownsRow base e 1 v n xs) : ∃ ad cap, v = .slice ad n cap ∧ xs.length = n ∧ n ≤ cap ∧ cap ≤ maxLen ∧ (ad = none → cap = 0) ∧ Rd w w.heap.size ad xs := by
  have hl : xs.length = n := by simpa using h.1
  rcases h.2 with ⟨h1, h2⟩ | ⟨g, c, cs, rfl, h1, h2, h3, h4, h5, h6⟩
  · refine ⟨none, 0, by rw [h1, h2], hl, by omega, by unfold maxLen; omega, fun _ => rfl, .inl ?_⟩
    exact List.eq_nil_of_length_eq_zero (by omega)
  · refine ⟨_, c, rfl, hl, h3, h4, fun h => (by cases h), .inr ⟨g, 0, rfl, Blk.lt (show Blk w g e cs from h2), fun j u hu => ?_⟩⟩
    have hj : j < n := by have := (List.getElem?_eq_some_iff.1 hu).1; omega
    have e : (cs.toList.take (n * 1))[j]? = some u := by rw [h6]; exact hu
    rw [List.getElem?_take_of_lt (by omega)] at e
    rw [Nat.zero_add]
    exact (Blk.cell (show Blk w g _ cs from h2) j).trans (by simpa using e)

/-- Two worlds between which one row has grown: a row of blocks that lies elsewhere stays. -/
theorem Rws.grown {w w' : World} {lo : Nat} {v : Value} {bs : List Bk} {row : Option Nat} (h : Rws w lo v bs) (hg : w.grownBy w' row) (hv : ∀ g, row = some g → v.ownBlock ≠ some g) (hx : ∀ x ∈ bs, ∀ g, row = some g → x.v.ownBlock ≠ some g) : Rws w' lo v bs := by
  have key : ∀ {e : TypeId} {size : Nat} {u : Value} {n : Nat} {xs : List Value}, w.ownsRow lo e size u n xs → (∀ g, row = some g → u.ownBlock ≠ some g) → w'.ownsRow lo e size u n xs := fun {e size u n xs} h hu => by
    refine ⟨h.1, ?_⟩
    rcases h.2 with h' | ⟨gy, cap, cur, e1, e2, e3, e4⟩
    · exact .inl h'
    · refine .inr ⟨gy, cap, cur, e1, e2, ?_, e4⟩
      have hlt := (h.lt gy (by rw [e1]; rfl)).2
      rw [hg.block gy hlt (fun e => hu gy e.symm (by rw [e1]; rfl))]
      exact e3
  exact ⟨key h.1 hv, fun x hxm => ⟨key (h.2 x hxm).1 (hx x hxm), (h.2 x hxm).2⟩⟩
theorem own_grown {w w' : World} {lo : Nat} {e : TypeId} {size : Nat} {u : Value} {n : Nat} {xs : List Value} {row : Option Nat} (h : w.ownsRow lo e size u n xs) (hg : w.grownBy w' row) (hu : ∀ g, row = some g → u.ownBlock ≠ some g) : w'.ownsRow lo e size u n xs := by
  refine ⟨h.1, ?_⟩
  rcases h.2 with h' | ⟨gy, cap, cur, e1, e2, e3, e4⟩
  · exact .inl h'
  · refine .inr ⟨gy, cap, cur, e1, e2, ?_, e4⟩
    have hlt := (h.lt gy (by rw [e1]; rfl)).2
    rw [hg.block gy hlt (fun e => hu gy e.symm (by rw [e1]; rfl))]
    exact e3

/-- append of one block to a row that the call owns: what else is there stays. -/
theorem append_block2 {w : World} {ops : Array Oper} {rest : List Oper} {o : Oper} {a : Act} {Q : Exit → Act → World → Prop} (hgd : o.guard = none) (s x : Operand)
    (ho : o.op = .call { callee := .builtin .append, args := #[s, x], argTypes := #[43, 43] })
    (lo : Nat) (v : Value) (bs : List Bk) (hs : a.eval s = v) (hR : Rws w lo v bs) (b : Bk) (g : Nat) (hx : a.eval x = .slice (some ⟨g, 0, none⟩) 1 1)
    (hg : Blk w g 35 b.cells.toArray) (hb1 : w.ownsRow lo 5 1 b.v b.l.length (b.l.map B8)) (hb2 : ∀ k, b.v.ownBlock = some k → v.ownBlock ≠ some k)
    (hn : bs.length + 1 ≤ 4398046511104) (hlo : lo ≤ w.heap.size)
    (h : ∀ v' w', Rws w' lo v' (bs ++ [b]) → w.grownBy w' v.ownBlock → (v'.ownBlock = v.ownBlock ∨ v'.ownBlock = some w.heap.size) → wpList Tryd.prog ops Q rest (a.put o.dst v') w') :
    wpList Tryd.prog ops Q (o :: rest) a w := by
  obtain ⟨i0, hi, hz0, hz1, hz2⟩ := info_parts info35
  obtain ⟨ba, bc, hbv, _⟩ := own_slice hb1
  refine wpList_append_own_at w hgd s x 43 ho lo 35 i0 _ 2 32 Tryd.underlying43 hi hz0 hz1 hz2 rfl (by omega) v bs.length _ hs hR.1 ⟨g, 0, none⟩ 1 1 b.cells hx rfl ?_ ?_ (by unfold maxLen; omega) (by omega) hlo ?_
  · intro j u hu
    rw [Go.WideShapes.add_plain, Nat.zero_add, hg.cell]
    simpa using hu
  · intro u hu
    simp only [Bk.cells, List.mem_cons, List.not_mem_nil, or_false] at hu
    rcases hu with rfl | rfl
    · rfl
    · rw [hbv]; rfl
  · intro v' w' h1 h2 _ h4
    have key : ∀ y : Bk, w.ownsRow lo 5 1 y.v y.l.length (y.l.map B8) → (∀ k, y.v.ownBlock = some k → v.ownBlock ≠ some k) → w'.ownsRow lo 5 1 y.v y.l.length (y.l.map B8) ∧ (∀ k, y.v.ownBlock = some k → v'.ownBlock ≠ some k) := fun y hy1 hy2 => by
      refine ⟨own_grown hy1 h2 (fun g hg e => hy2 g e hg), fun k hk => ?_⟩
      rcases h4 with e | e
      · rw [e]; exact hy2 k hk
      · rw [e]
        have := (hy1.lt k hk).2
        intro e'; cases e'; omega
    refine h v' w' ⟨?_, fun y hy => ?_⟩ h2 h4
    · rw [List.length_append, List.flatMap_append]
      simpa using h1
    · rcases List.mem_append.1 hy with hy | hy
      · exact key y (hR.2 y hy).1 (hR.2 y hy).2
      · obtain rfl := List.mem_singleton.1 hy
        exact key _ hb1 hb2

theorem infoInt : (Tryd.prog.info? 3).map (fun i => (i.zero, i.size, i.bytes)) = some (some (.int .i64 0), 1, 8) := by kernel_rfl
/-- append of one number to a row that the call owns. -/
theorem append_int {w : World} {ops : Array Oper} {rest : List Oper} {o : Oper} {a : Act} {Q : Exit → Act → World → Prop} (hgd : o.guard = none) (s x : Operand)
    (ho : o.op = .call { callee := .builtin .append, args := #[s, x], argTypes := #[55, 55] })
    (lo : Nat) (v : Value) (n : Nat) (xs : List Value) (hs : a.eval s = v) (hR : w.ownsRow lo 3 1 v n xs) (z : Int) (g : Nat) (hx : a.eval x = .slice (some ⟨g, 0, none⟩) 1 1)
    (hg : Blk w g 3 #[.int .i64 z]) (hn : n + 1 ≤ 4398046511104) (hlo : lo ≤ w.heap.size)
    (h : ∀ v' w', w'.ownsRow lo 3 1 v' (n + 1) (xs ++ [.int .i64 z]) → w.grownBy w' v.ownBlock → (v'.ownBlock = v.ownBlock ∨ v'.ownBlock = some w.heap.size) → wpList Tryd.prog ops Q rest (a.put o.dst v') w') :
    wpList Tryd.prog ops Q (o :: rest) a w := by
  obtain ⟨i0, hi, hz0, hz1, hz2⟩ := info_parts infoInt
  refine wpList_append_own_at w hgd s x 55 ho lo 3 i0 _ 1 8 Tryd.underlying55 hi hz0 hz1 hz2 rfl (by omega) v n _ hs hR ⟨g, 0, none⟩ 1 1 [.int .i64 z] hx rfl ?_ ?_ (by unfold maxLen; omega) (by omega) hlo fun v' w' h1 h2 _ h4 => h v' w' h1 h2 h4
  · intro j u hu
    rw [Go.WideShapes.add_plain, Nat.zero_add, hg.cell]
    simpa using hu
  · intro u hu
    obtain rfl := List.mem_singleton.1 hu
    rfl

/-- Where the blocks begin, and where the last one ends. -/
def plc (bs : List Bk) : List Value := (List.range (bs.length + 1)).map fun j => .int .i64 (szTo bs j : Nat)
theorem plc_snoc (bs : List Bk) (x : Bk) : plc (bs ++ [x]) = plc bs ++ [.int .i64 (szTo (bs ++ [x]) (bs.length + 1) : Nat)] := by
  unfold plc
  rw [List.length_append, List.length_singleton, List.range_succ, List.map_append]
  congr 1
  refine List.map_congr_left fun j hj => ?_
  have hj : j ≤ bs.length := by have := List.mem_range.1 hj; omega
  unfold szTo
  rw [List.take_append_of_le_length hj]
theorem plc_get (bs : List Bk) (j : Nat) (h : j ≤ bs.length) : (plc bs)[j]? = some (.int .i64 (szTo bs j : Nat)) := by
  unfold plc
  rw [List.getElem?_map, List.getElem?_range (by omega)]; rfl
theorem szTo_all (bs : List Bk) : szTo bs bs.length = (Frm.rowB (bs.map Bk.pair)).length := by unfold szTo; rw [List.take_length]

/-- Rows that lie apart. -/
def Apart (v vp : Value) (bs : List Bk) : Prop := ∀ g, vp.ownBlock = some g → v.ownBlock ≠ some g ∧ ∀ x ∈ bs, x.v.ownBlock ≠ some g

/-- What Heads hands back. -/
def HeadsS (l : List UInt8) (w : World) (en : Ending) (w' : World) : Prop :=
  ∃ v vp bs at_ s, en = .returned (.tuple #[v, vp, .int .i64 (s : Nat)]) ∧ Below w.heap.size w w' ∧ Rws w' w.heap.size v bs ∧ bs.length ≤ at_ ∧ Frm.Heads l (bs.map Bk.pair) at_ s ∧ w'.ownsRow w.heap.size 3 1 vp (bs.length + 1) (plc bs)

set_option maxHeartbeats 4000000 in
theorem Heads_any (a : Option Addr) (n c : Nat) (l : List UInt8) (w : World) (hl : l.length = n) (hn : n ≤ 1099511627776) (hc : n ≤ c) (hcm : c ≤ maxLen) (ha : a = none → c = 0) (hr : Rd w w.heap.size a (l.map B8)) :
    Calls Tryd.prog 29 #[.slice a n c] w (HeadsS l w) := by
  have HR := Lib.hid hr
  have HL := Lib.hid hl
  have HCM := Lib.hid hcm
  have HA := Lib.hid ha
  have hcm2 : c ≤ 9223372036854775807 := hcm
  clear hr hl hcm ha
  go_enter Tryd.func29, Tryd.ntmps29
  go_wp2_with fail
  have hP0 := Lib.hid (show (w.alloc (.cells #[.int .i64 0] 3)).ownsRow w.heap.size 3 1 (.slice (some ⟨w.heap.size, 0, none⟩) 1 1) 1 (plc []) from
    ⟨rfl, .inr ⟨w.heap.size, 1, #[.int .i64 0], rfl, Nat.le_refl _, heap_at rfl, Nat.le_refl _, by unfold maxLen; omega, rfl, rfl⟩⟩)
  go_loopw [5, 6, 7] (fun v p i wr => ∃ (k : Nat) (bs : List Bk), i = .int .i64 k ∧ k ≤ n ∧ bs.length ≤ k ∧ Rws wr w.heap.size v bs ∧ Frm.rowB (bs.map Bk.pair) = l.take k ∧ wr.ownsRow w.heap.size 3 1 p (bs.length + 1) (plc bs) ∧ Apart v p bs ∧ Below w.heap.size w wr) (fun _ _ i _ => n - (intOf i).toNat)
  case atStart => exact ⟨0, [], rfl, Nat.zero_le _, Nat.le_refl _, ⟨World.ownsRow_nil _ _ _ _, fun x hx => by cases hx⟩, rfl, hP0.out, fun g _ => ⟨by simp [Value.ownBlock], fun x hx => by cases hx⟩, by go_grown⟩
  case round =>
    clear hP0
    obtain ⟨k, bs, rfl, hk, hbk, hW, hrow, hp, hap, hB⟩ := hrel
    have HW := Lib.hid hW
    have HRow := Lib.hid hrow
    have HP := Lib.hid hp
    have HAP := Lib.hid hap
    have sB := hB.size
    have hkl : (l.take k).length = k := by rw [List.length_take, HL.out]; omega
    have HKL := Lib.hid hkl
    clear hW hrow hp hap hkl
    rcases Nat.lt_or_ge k n with hlt | hge
    · obtain ⟨b, off, rfl⟩ : ∃ b off, a = some ⟨b, off, none⟩ := by
        rcases HR.out with h | ⟨b, off, h, _⟩
        · have := HL.out
          rw [List.map_eq_nil_iff.1 h] at this
          simp at this; omega
        · exact ⟨b, off, h⟩
      have hdl : (l.drop k).length = n - k := by rw [List.length_drop, HL.out]
      have HDL := Lib.hid hdl
      have HRd := Lib.hid (show Rd w w.heap.size (some ⟨b, off + k, none⟩) ((l.drop k).map B8) from Rd.drop HR.out k)
      have hck : ¬ c = k := by omega
      clear hdl
      go_wp2_with fail
      refine (refRead_any (some ⟨b, off + k, none⟩) (n - k) (c - k) (l.drop k) _ HDL.out (by omega) (by omega) (by have := HCM.out; omega) ((HRd.out.below hB).more sB)).mono ?_
      rintro en w1 ⟨hb1, ⟨t, r, f, e, v1, htr, hlk, rfl, ho1⟩ | ⟨f, e, s, hlk, hs, rfl⟩⟩
      · have HTR := Lib.hid htr
        obtain ⟨body, rest, i1, i2, i3, i4, i5⟩ := Frm.look_inv t r f e hlk
        have HI1 := Lib.hid i1
        have HI3 := Lib.hid i3
        have HI4 := Lib.hid i4
        have HI5 := Lib.hid i5
        have hen : k + (e + 4) ≤ n := by
          have h1 := HDL.out
          rw [htr, HI1.out, List.length_append, ← HI4.out] at h1
          omega
        have hB1 := bnext hB hb1
        have HW1 := Lib.hid (HW.out.below hb1)
        have HP1 := Lib.hid (owns_keep HP.out (fun g _ hg => hb1.block g hg))
        rw [HI3.out] at ho1
        have HOb := Lib.hid (show w1.ownsRow wr.heap.size 5 1 v1 body.length (body.map B8) by rw [HI5.out]; exact ho1)
        have HNE := Lib.hid (show ∀ g, v1.ownBlock = some g → u5.ownBlock ≠ some g from fun g hg he => by
          have h1 := (HOb.out.lt g hg).1
          have h2 := (HW.out.1.lt g he).2
          omega)
        have HNP := Lib.hid (show ∀ g, v1.ownBlock = some g → u6.ownBlock ≠ some g from fun g hg he => by
          have h1 := (HOb.out.lt g hg).1
          have h2 := (HP.out.lt g he).2
          omega)
        obtain ⟨a1, c1, rfl, _⟩ := own_slice ho1
        clear ho1 hb1 HW HP hlk htr i1 i2 i3 i4 i5
        go_upto_region 8 with (fail)
        (refine wp_at (fun wc => Blk wc w1.heap.size 35 #[B8 t, .slice a1 (e - f) c1] ∧ Below w1.heap.size w1 wc) ⟨heap_at rfl, by go_grown⟩ ?_)
        rintro w2 ⟨A2, hb2⟩
        have hB2 := bnext hB1 hb2
        have HW2 := Lib.hid (HW1.out.below hb2)
        have HP2 := Lib.hid (owns_keep HP1.out (fun g _ hg => hb2.block g hg))
        have HOb2 := Lib.hid (owns_mono (owns_keep HOb.out (fun g _ hg => hb2.block g hg)) sB)
        have cA2 := A2.cell
        have s2 := hB2.size
        have lA2 := A2.lt
        clear HW1 HOb hB1 hb2 HP1
        apply wp_region_lit
        iterate 3 (go_step; go_step; rename_i KK hKK; (with_reducible refine hKK _ _ ?_); clear hKK KK)
        (with_reducible refine append_block2 ?_ (.tmp 29) (.tmp 31) ?_ w.heap.size u5 bs ?_ ?_ ⟨t, .slice a1 (e - f) c1, body⟩ w2.heap.size ?_ ?_ ?_ HNE.out ?_ ?_ ?_)
        · rfl
        · rfl
        · rfl
        · exact HW2.out.below (by go_grown)
        · rfl
        · exact heap_at rfl
        · exact owns_keep HOb2.out (fun g _ hg => (show Below w2.heap.size w2 _ by go_grown).block g hg)
        · omega
        · simp; omega
        intro v3 w3 hW3 hg3 hv3
        have hB3 : Below w.heap.size w w3 := (bnext hB2 (by go_grown)).grown hg3 (by simp; omega) (fun kk hkk => (HW2.out.1.lt kk hkk).1)
        have HW3 := Lib.hid hW3
        have HP3 := Lib.hid (own_grown (owns_keep HP2.out (fun g _ hg => (show Below w2.heap.size w2 _ by go_grown).block g hg)) hg3 (fun g hg e' => (HAP.out g e').1 hg))
        have HAP3 := Lib.hid (show Apart v3 u6 (bs ++ [(⟨t, .slice a1 (e - f) c1, body⟩ : Bk)]) from fun g hg => by
          have h2 := (HP2.out.lt g hg).2
          refine ⟨?_, fun x hx => ?_⟩
          · rcases hv3 with h | h
            · rw [h]; exact (HAP.out g hg).1
            · rw [h]; simp; omega
          · rcases List.mem_append.1 hx with hx | hx
            · exact (HAP.out g hg).2 x hx
            · obtain rfl := List.mem_singleton.1 hx
              exact fun e' => HNP.out g e' hg)
        have HR3 := Lib.hid (show Frm.rowB ((bs ++ [(⟨t, .slice a1 (e - f) c1, body⟩ : Bk)]).map Bk.pair) = l.take (k + (e + 4)) by
          rw [List.map_append, HI4.out]
          exact row_next l k _ (t, body) rest HRow.out (by rw [HTR.out]; exact HI1.out))
        have s3 := hB3.size
        clear hW3 HW2 HOb2 cA2 A2 hg3 hv3 HP2 HAP
        have hke : (k : Int) + ((e + 4 : Nat) : Int) = ((k + (e + 4) : Nat) : Int) := by omega
        go_upto_region 10 with (fail)
        apply wp_region_lit
        iterate 3 (go_step; go_step; rename_i KK hKK; (with_reducible refine hKK _ _ ?_); clear hKK KK)
        (with_reducible refine append_int ?_ (.tmp 36) (.tmp 38) ?_ w.heap.size u6 (bs.length + 1) (plc bs) ?_ ?_ ((k + (e + 4) : Nat) : Int) w3.heap.size ?_ ?_ ?_ ?_ ?_)
        · rfl
        · rfl
        · rfl
        · exact owns_keep HP3.out (fun g _ hg => (show Below w3.heap.size w3 _ by go_grown).block g hg)
        · rfl
        · exact heap_at rfl
        · omega
        · simp; omega
        intro v4 w4 ho4 hg4 hv4
        have hB4 : Below w.heap.size w w4 := (bnext hB3 (by go_grown)).grown hg4 (by simp; omega) (fun kk hkk => (HP3.out.lt kk hkk).1)
        have HW4 := Lib.hid (Rws.grown (HW3.out.below (show Below w3.heap.size w3 _ by go_grown)) hg4 (fun g hg => (HAP3.out g hg).1) (fun x hx g hg => (HAP3.out g hg).2 x hx))
        have HAP4 := Lib.hid (show Apart v3 v4 (bs ++ [(⟨t, .slice a1 (e - f) c1, body⟩ : Bk)]) from fun g hg => by
          rcases hv4 with h | h
          · exact HAP3.out g (h ▸ hg)
          · rw [h] at hg
            simp at hg
            refine ⟨fun e' => ?_, fun x hx e' => ?_⟩
            · have := (HW3.out.1.lt g e').2; omega
            · have := ((HW3.out.2 x hx).1.lt g e').2; omega)
        have HP4 := Lib.hid (show w4.ownsRow w.heap.size 3 1 v4 ((bs ++ [(⟨t, .slice a1 (e - f) c1, body⟩ : Bk)]).length + 1) (plc (bs ++ [(⟨t, .slice a1 (e - f) c1, body⟩ : Bk)])) by
          have e1 := szTo_all (bs ++ [(⟨t, .slice a1 (e - f) c1, body⟩ : Bk)])
          rw [HR3.out, List.length_take, HL.out, Nat.min_eq_left hen, List.length_append, List.length_singleton] at e1
          rw [plc_snoc, e1, List.length_append, List.length_singleton]
          exact ho4)
        clear ho4 hg4 hv4 HP3 HW3 HAP3 hB3
        go_wp2_with fail
        go_roundw
        case rel => exact ⟨k + (e + 4), bs ++ [⟨t, .slice a1 (e - f) c1, body⟩], by go_num, hen, by simp; omega, HW4.out, HR3.out, HP4.out, HAP4.out, hB4⟩
        case measure => simp [intOf]; omega
      · have hs' : ((s : Int) == 0) = false := by simp; omega
        have HLK := Lib.hid hlk
        have hB1 := bnext hB hb1
        have HW1 := Lib.hid (HW.out.below hb1)
        have HP1 := Lib.hid (owns_keep HP.out (fun g _ hg => hb1.block g hg))
        have s1 := hB1.size
        clear hlk HW HP
        go_wp2_with fail
        refine bodyPost_ret (v := .tuple #[u5, u6, .int .i64 s]) (by simp [results, Tryd.results29, go_sem]; done) rfl ⟨_, _, bs, k, s, rfl, bnext hB1 (by go_grown), HW1.out.below (by go_grown), hbk, ⟨HRow.out, by rw [HL.out]; exact hk, .inr ⟨hs, by rw [HL.out]; exact hlt, f, e, HLK.out⟩⟩, owns_keep HP1.out (fun g _ hg => (show Below w1.heap.size w1 _ by go_grown).block g hg)⟩
    · obtain rfl : k = n := by omega
      go_wp2_with fail
      refine bodyPost_ret (v := .tuple #[u5, u6, .int .i64 0]) (by simp [results, Tryd.results29, go_sem]; done) rfl ⟨_, _, bs, k, 0, rfl, hB, HW.out, hbk, ⟨HRow.out, by rw [HL.out]; exact Nat.le_refl _, .inl ⟨rfl, HL.out.symm⟩⟩, HP.out⟩
end Go.Proofs.YtolbmjilcngnhaaDoor
