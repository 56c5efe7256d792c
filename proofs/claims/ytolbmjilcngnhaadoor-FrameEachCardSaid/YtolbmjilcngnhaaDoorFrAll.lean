/- The program's All. -/
import Derived.Test.YtolbmjilcngnhaaDoorFrAllM
import Derived.Test.YtolbmjilcngnhaaDoorFrPutsW
import Derived.WalkMore
set_option linter.unusedSimpArgs false
set_option linter.unusedVariables false
namespace Go.Proofs.YtolbmjilcngnhaaDoor
open Go.RowKit Go.Kp

/-- A block in memory: its tag, its body's slice, its body. -/
structure Bk where
  (t : UInt8) (v : Value) (l : List UInt8)
abbrev Bk.cells (x : Bk) : List Value := [B8 x.t, x.v]
abbrev Bk.pair (x : Bk) : UInt8 × List UInt8 := (x.t, x.l)
theorem Bk.len (x : Bk) : x.cells.length = 2 := rfl
/-- A row of blocks that a call owns, each body in a block of its own. -/
def Rws (w : World) (lo : Nat) (v : Value) (bs : List Bk) : Prop :=
  w.ownsRow lo 35 2 v bs.length (bs.flatMap Bk.cells) ∧ ∀ x ∈ bs, w.ownsRow lo 5 1 x.v x.l.length (x.l.map B8) ∧ (∀ g, x.v.ownBlock = some g → v.ownBlock ≠ some g)
theorem Rws.below {w w' : World} {lo : Nat} {v : Value} {bs : List Bk} (h : Rws w lo v bs) (hb : Below w.heap.size w w') : Rws w' lo v bs :=
  ⟨owns_keep h.1 (fun g _ hg => hb.block g hg), fun x hx => ⟨owns_keep (h.2 x hx).1 (fun g _ hg => hb.block g hg), (h.2 x hx).2⟩⟩

theorem info35 : (Tryd.prog.info? 35).map (fun i => (i.zero, i.size, i.bytes)) = some (some (.agg #[.int .u8 0, .slice none 0 0]), 2, 32) := by kernel_rfl

/-- append of one block to a row that the call owns. -/
theorem append_block {w : World} {ops : Array Oper} {rest : List Oper} {o : Oper} {a : Act} {Q : Exit → Act → World → Prop} (hgd : o.guard = none) (s x : Operand)
    (ho : o.op = .call { callee := .builtin .append, args := #[s, x], argTypes := #[43, 43] })
    (lo : Nat) (v : Value) (bs : List Bk) (hs : a.eval s = v) (hR : Rws w lo v bs) (b : Bk) (g : Nat) (hx : a.eval x = .slice (some ⟨g, 0, none⟩) 1 1)
    (hg : Blk w g 35 b.cells.toArray) (hb1 : w.ownsRow lo 5 1 b.v b.l.length (b.l.map B8)) (hb2 : ∀ k, b.v.ownBlock = some k → v.ownBlock ≠ some k)
    (hn : bs.length + 1 ≤ 4398046511104) (hlo : lo ≤ w.heap.size)
    (h : ∀ v' w', Rws w' lo v' (bs ++ [b]) → Below lo w w' → w.heap.size ≤ w'.heap.size → wpList Tryd.prog ops Q rest (a.put o.dst v') w') :
    wpList Tryd.prog ops Q (o :: rest) a w := by
  obtain ⟨i0, hi, hz0, hz1, hz2⟩ := info_parts info35
  obtain ⟨ba, bc, hbv, _⟩ := own_slice hb1
  refine wpList_append_own_at w hgd s x 43 ho lo 35 i0 _ 2 32 Tryd.underlying43 hi hz0 hz1 hz2 rfl (by omega) v bs.length _ hs hR.1 ⟨g, 0, none⟩ 1 1 b.cells hx rfl ?_ ?_ (by unfold maxLen; omega) (by omega) hlo ?_
  · intro j u hu
    rw [Go.WideShapes.add_plain, Nat.zero_add, hg.cell]
    simpa using hu
  · intro u hu
    simp only [Bk.cells, List.mem_cons, List.not_mem_nil, or_false] at hu
    rcases hu with rfl | rfl
    · rfl
    · rw [hbv]; rfl
  · intro v' w' h1 h2 _ h4
    refine h v' w' ⟨?_, fun y hy => ?_⟩ ((Below.refl lo w).grown h2 hlo fun k hk => (hR.1.lt k hk).1) h2.size
    · rw [List.length_append, List.flatMap_append]
      simpa using h1
    · have key : ∀ y : Bk, w.ownsRow lo 5 1 y.v y.l.length (y.l.map B8) → (∀ k, y.v.ownBlock = some k → v.ownBlock ≠ some k) → w'.ownsRow lo 5 1 y.v y.l.length (y.l.map B8) ∧ (∀ k, y.v.ownBlock = some k → v'.ownBlock ≠ some k) := fun y hy1 hy2 => by
        refine ⟨?_, fun k hk => ?_⟩
        · refine ⟨hy1.1, ?_⟩
          rcases hy1.2 with h' | ⟨gy, cap, cur, e1, e2, e3, e4⟩
          · exact .inl h'
          · refine .inr ⟨gy, cap, cur, e1, e2, ?_, e4⟩
            have hlt := (hy1.lt gy (by rw [e1]; rfl)).2
            rw [h2.block gy hlt (fun e => hy2 gy (by rw [e1]; rfl) e.symm)]
            exact e3
        · rcases h4 with e | e
          · rw [e]; exact hy2 k hk
          · rw [e]
            have := (hy1.lt k hk).2
            intro e'; cases e'; omega
      rcases List.mem_append.1 hy with hy | hy
      · exact key y (hR.2 y hy).1 (hR.2 y hy).2
      · obtain rfl := List.mem_singleton.1 hy
        exact key _ hb1 hb2

theorem row_next (l : List UInt8) (at_ : Nat) (bs : List (UInt8 × List UInt8)) (x : UInt8 × List UInt8) (rest : List UInt8) (h : Frm.rowB bs = l.take at_) (hd : l.drop at_ = Frm.frame x.1 x.2 ++ rest) : Frm.rowB (bs ++ [x]) = l.take (at_ + (Frm.frame x.1 x.2).length) := by
  rw [Frm.rowB_snoc, h, List.take_add, hd, List.take_left]

set_option maxHeartbeats 4000000 in
theorem All_any (a : Option Addr) (n c : Nat) (l : List UInt8) (w : World) (hT : Tab w) (hl : l.length = n) (hn : n ≤ 1099511627776) (hc : n ≤ c) (hcm : c ≤ maxLen) (ha : a = none → c = 0) (hr : Rd w w.heap.size a (l.map B8)) :
    Calls Tryd.prog 23 #[.slice a n c] w fun en w' => Below w.heap.size w w' ∧
      ((∃ v bs, en = .returned (.tuple #[v, .int .i64 n, .int .i64 0]) ∧ Rws w' w.heap.size v bs ∧ Frm.rowB (bs.map Bk.pair) = l ∧ bs.length ≤ n) ∨
       (∃ at_ s f e : Nat, ∃ bs, en = .returned (.tuple #[.slice none 0 0, .int .i64 at_, .int .i64 s]) ∧ s ≠ 0 ∧ at_ < n ∧ Frm.look (l.drop at_) = (f, e, s) ∧ Frm.rowB bs = l.take at_)) := by
  have HT := Lib.hid hT
  have HR := Lib.hid hr
  have HL := Lib.hid hl
  have HCM := Lib.hid hcm
  have HA := Lib.hid ha
  have hcm2 : c ≤ 9223372036854775807 := hcm
  clear hT hr hl hcm ha
  go_enter Tryd.func23, Tryd.ntmps23
  go_wp2_with fail
  go_step3
  go_wp2_with fail
  go_step3
  go_wp2_with fail
  go_loopw [5, 6] (fun v i wr => ∃ (k : Nat) (bs : List Bk), i = .int .i64 k ∧ k ≤ n ∧ bs.length ≤ k ∧ Rws wr w.heap.size v bs ∧ Frm.rowB (bs.map Bk.pair) = l.take k ∧ Below w.heap.size w wr) (fun _ i _ => n - (intOf i).toNat)
  case atStart => exact ⟨0, [], rfl, Nat.zero_le _, Nat.le_refl _, ⟨World.ownsRow_nil _ _ _ _, fun x hx => by cases hx⟩, rfl, by go_grown⟩
  case round =>
    obtain ⟨k, bs, rfl, hk, hbk, hW, hrow, hB⟩ := hrel
    have HW := Lib.hid hW
    have HRow := Lib.hid hrow
    have sB := hB.size
    clear hW hrow
    rcases Nat.lt_or_ge k n with hlt | hge
    · have hkn : ((k : Int) == (n : Int)) = false := by simp; omega
      obtain ⟨b, off, rfl⟩ : ∃ b off, a = some ⟨b, off, none⟩ := by
        rcases HR.out with h | ⟨b, off, h, _⟩
        · have := HL.out
          rw [List.map_eq_nil_iff.1 h] at this
          simp at this; omega
        · exact ⟨b, off, h⟩
      have hdl : (l.drop k).length = n - k := by rw [List.length_drop, HL.out]
      obtain ⟨t, r, htr⟩ : ∃ t r, l.drop k = t :: r := by
        match hh : l.drop k with
        | [] => rw [hh] at hdl; simp at hdl; omega
        | t :: r => exact ⟨t, r, rfl⟩
      have HRd := Lib.hid (show Rd w w.heap.size (some ⟨b, off + k, none⟩) ((t :: r).map B8) by rw [← htr]; exact Rd.drop HR.out k)
      rw [htr] at hdl
      have HDL := Lib.hid hdl
      have HTR := Lib.hid htr
      have hck : ¬ c = k := by omega
      clear hdl htr
      obtain ⟨f, e, s, hlk⟩ : ∃ f e s, Frm.look (t :: r) = (f, e, s) := ⟨_, _, _, rfl⟩
      rcases Decidable.em (s = 0) with hs | hs
      · subst hs
        obtain ⟨body, rest, i1, i2, i3, i4, i5⟩ := Frm.look_inv t r f e hlk
        have HLK := Lib.hid hlk
        have HI1 := Lib.hid i1
        have HI3 := Lib.hid i3
        have HI4 := Lib.hid i4
        have HI5 := Lib.hid i5
        have hen : k + (e + 4) ≤ n := by
          have h1 := HDL.out
          rw [HI1.out, List.length_append, ← HI4.out] at h1
          omega
        clear hlk i1 i2 i3 i4 i5
        go_wp2_with fail
        refine (Read_ok (some ⟨b, off + k, none⟩) (n - k) (c - k) t r f e _ (HT.out.below hB HT.out.1) HDL.out (by omega) (by omega) (by have := HCM.out; omega) ((HRd.out.below hB).more sB) HLK.out).mono ?_
        rintro en w1 ⟨v1, rfl, ho1, hb1⟩
        have hB1 := bnext hB hb1
        have HW1 := Lib.hid (HW.out.below hb1)
        rw [HI3.out] at ho1
        have HOb := Lib.hid (show w1.ownsRow wr.heap.size 5 1 v1 body.length (body.map B8) by rw [HI5.out]; exact ho1)
        have HNE := Lib.hid (show ∀ g, v1.ownBlock = some g → u5.ownBlock ≠ some g from fun g hg he => by
          have h1 := (HOb.out.lt g hg).1
          have h2 := (HW.out.1.lt g he).2
          omega)
        obtain ⟨a1, c1, rfl, _⟩ := own_slice ho1
        clear ho1 hb1 HW
        go_upto_region 7 with (fail)
        (refine wp_at (fun wc => Blk wc w1.heap.size 35 #[B8 t, .slice a1 (e - f) c1] ∧ Below w1.heap.size w1 wc) ⟨heap_at rfl, by go_grown⟩ ?_)
        rintro w2 ⟨A2, hb2⟩
        have hB2 := bnext hB1 hb2
        have HW2 := Lib.hid (HW1.out.below hb2)
        have HOb2 := Lib.hid (owns_mono (owns_keep HOb.out (fun g _ hg => hb2.block g hg)) sB)
        have cA2 := A2.cell
        have s2 := hB2.size
        have lA2 := A2.lt
        clear HW1 HOb hB1 hb2
        apply wp_region_lit
        iterate 3 (go_step; go_step; rename_i KK hKK; (with_reducible refine hKK _ _ ?_); clear hKK KK)
        (with_reducible refine append_block ?_ (.tmp 26) (.tmp 28) ?_ w.heap.size u5 bs ?_ ?_ ⟨t, .slice a1 (e - f) c1, body⟩ w2.heap.size ?_ ?_ ?_ HNE.out ?_ ?_ ?_)
        · rfl
        · rfl
        · rfl
        · exact HW2.out.below (by go_grown)
        · rfl
        · exact heap_at rfl
        · exact owns_keep HOb2.out (fun g _ hg => (show Below w2.heap.size w2 _ by go_grown).block g hg)
        · omega
        · simp; omega
        intro v3 w3 hW3 hb3 hs3
        have hB3 : Below w.heap.size w w3 := (bnext hB2 (by go_grown)).trans hb3
        have HW3 := Lib.hid hW3
        have HR3 := Lib.hid (show Frm.rowB ((bs ++ [(⟨t, .slice a1 (e - f) c1, body⟩ : Bk)]).map Bk.pair) = l.take (k + (e + 4)) by
          rw [List.map_append, HI4.out]
          exact row_next l k _ (t, body) rest HRow.out (by rw [HTR.out]; exact HI1.out))
        clear hW3 hb3 HW2 HOb2 cA2 A2
        have hke : (k : Int) + ((e + 4 : Nat) : Int) = ((k + (e + 4) : Nat) : Int) := by omega
        go_wp2_with fail
        go_roundw
        case rel => exact ⟨k + (e + 4), bs ++ [⟨t, .slice a1 (e - f) c1, body⟩], by go_num, hen, by simp; omega, HW3.out, HR3.out, hB3⟩
        case measure => simp [intOf]; omega
      · have hs' : ((s : Int) == 0) = false := by simp; omega
        have HLK := Lib.hid hlk
        clear hlk
        go_wp2_with fail
        refine (Read_err (some ⟨b, off + k, none⟩) (n - k) (c - k) (t :: r) f e s _ (HT.out.below hB HT.out.1) HDL.out (by omega) (by omega) (by have := HCM.out; omega) ((HRd.out.below hB).more sB) HLK.out hs).mono ?_
        rintro en w1 ⟨rfl, hb1⟩
        have hB1 := bnext hB hb1
        clear hb1
        go_wp2_with fail
        rw [Exit.noGoto_ret]
        refine bodyPost_ret (v := .tuple #[.slice none 0 0, .int .i64 k, .int .i64 s]) (by simp [results, Tryd.results23, go_sem]; done) rfl ⟨bnext hB1 (by go_grown), .inr ⟨k, s, f, e, bs.map Bk.pair, rfl, hs, hlt, by rw [HTR.out]; exact HLK.out, HRow.out⟩⟩
    · obtain rfl : k = n := by omega
      go_wp2_with fail
      rw [Exit.noGoto_ret]
      refine bodyPost_ret (v := .tuple #[u5, .int .i64 k, .int .i64 0]) (by simp [results, Tryd.results23, go_sem]; done) rfl ⟨hB, .inl ⟨u5, bs, rfl, HW.out, by rw [HRow.out, ← HL.out, List.take_length], hbk⟩⟩
end Go.Proofs.YtolbmjilcngnhaaDoor
