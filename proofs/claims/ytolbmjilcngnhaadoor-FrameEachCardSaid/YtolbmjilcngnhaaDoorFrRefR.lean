/- The document's Read. -/
import Derived.Test.YtolbmjilcngnhaaDoorFrRefA
set_option linter.unusedSimpArgs false
set_option linter.unusedVariables false
namespace Go.Proofs.YtolbmjilcngnhaaDoor
open Go.RowKit Go.Kp

theorem le4_sum (b0 b1 b2 b3 : UInt8) : ((b0.toNat : Int) + (b1.toNat : Int) * 256 + (b2.toNat : Int) * 65536 + (b3.toNat : Int) * 16777216) = Crc.num (BitVec.ofNat 32 (Crc.le4 b0 b1 b2 b3)) := by
  have h0 := b0.toNat_lt
  have h1 := b1.toNat_lt
  have h2 := b2.toNat_lt
  have h3 := b3.toNat_lt
  unfold Crc.num Crc.le4
  rw [BitVec.toNat_ofNat, Nat.mod_eq_of_lt (by omega)]
  omega

/-- What Read hands back. -/
def ReadS (l : List UInt8) (w : World) (en : Ending) (w' : World) : Prop :=
  Below w.heap.size w w' ∧
    ((∃ t r f e v', l = t :: r ∧ Frm.look (t :: r) = (f, e, 0) ∧ en = .returned (.tuple #[.agg #[B8 t, v'], .int .i64 (e + 4 : Nat), .int .i64 0]) ∧ w'.ownsRow w.heap.size 5 1 v' (e - f) ((((t :: r).drop f).take (e - f)).map B8)) ∨
     (∃ f e s, Frm.look l = (f, e, s) ∧ s ≠ 0 ∧ en = .returned (.tuple #[.agg #[.int .u8 0, .slice none 0 0], .int .i64 0, .int .i64 s])))

set_option maxHeartbeats 4000000 in
theorem refRead_any (a : Option Addr) (n c : Nat) (l : List UInt8) (w : World) (hl : l.length = n) (hn : n ≤ 140737488355328) (hc : n ≤ c) (hcm : c ≤ maxLen) (hr : Rd w w.heap.size a (l.map B8)) :
    Calls Tryd.prog 22 #[.slice a n c] w (ReadS l w) := by
  have HR := Lib.hid hr
  have HL := Lib.hid hl
  have hmx : maxLen = 9223372036854775807 := rfl
  rw [hmx] at hcm
  clear hr hl hmx
  rcases Nat.eq_zero_or_pos n with h0 | h0
  · subst h0
    obtain rfl : l = [] := List.eq_nil_of_length_eq_zero HL.out
    go_enter Tryd.func22, Tryd.ntmps22
    go_wp2_with fail
    have A1 : Blk ((((w.alloc (.cells #[.int .u8 0, .slice none 0 0] 35)).setCell ⟨w.heap.size, 0, none⟩ (.int .u8 0))).setCell ⟨w.heap.size, 1, none⟩ (.slice none 0 0)) w.heap.size 35 #[.int .u8 0, .slice none 0 0] := by simp (disch := (first | omega | (simp only [World.size_alloc, World.size_setCell, World.size_drew] <;> omega) | fail)) only [Blk, heap_old, heap_at, heap_set_same, heap_set_ne, heap_drew', Option.map_some, putO_cells]; rfl
    have q0 := A1.cell 0
    have q1 := A1.cell 1
    refine bodyPost_ret (v := .tuple #[.agg #[.int .u8 0, .slice none 0 0], .int .i64 0, .int .i64 130]) (by simp [results, Tryd.results22, go_sem, q0, q1]; done) rfl ⟨by go_grown, .inr ⟨0, 0, 130, rfl, by omega, rfl⟩⟩
  · obtain ⟨t, r, rfl⟩ : ∃ t r, l = t :: r := by
      match l, HL.out with
      | [], h => simp at h; omega
      | t :: r, _ => exact ⟨t, r, rfl⟩
    obtain ⟨b, off, rfl⟩ : ∃ b off, a = some ⟨b, off, none⟩ := by
      rcases HR.out with h | ⟨b, off, h, _⟩
      · cases h
      · exact ⟨b, off, h⟩
    have lbw : b < w.heap.size := by
      rcases HR.out with h | ⟨b', off', h, hb, _⟩
      · cases h
      · cases h; exact hb
    have hz : ((n : Int) == 0) = false := by simp; omega
    have hrl : r.length = n - 1 := by have := HL.out; simp at this; omega
    have HRL := Lib.hid hrl
    clear hrl
    have HRd := Lib.hid (show Rd w w.heap.size (some ⟨b, off + 1, none⟩) (r.map B8) by simpa using Rd.drop HR.out 1)
    obtain ⟨N, S, E, hP⟩ : ∃ N S E, Frm.lenP 0 0 r = (N, S, E) := ⟨_, _, _, rfl⟩
    have hbd := lenP_bd r 0 0
    rw [hP] at hbd
    simp only at hbd
    rw [HRL.out] at hbd
    have HQ := Lib.hid (show Frm.look (t :: r) = (if E ≠ 0 then (0, 0, E) else if n < 1 + S + N + 4 then (0, 0, 130) else if ((t :: r).drop (1 + S + N)).take 4 ≠ Crc.bytes4 (Crc.more 0#32 ((t :: r).take (1 + S + N))) then (0, 0, 132) else (1 + S, 1 + S + N, 0)) by
      rw [Frm.look, hP, HL.out])
    have HP := Lib.hid hP
    clear hP
    rcases Decidable.em (c = 1) with hc1 | hc1
    · subst hc1
      obtain rfl : n = 1 := by omega
      obtain rfl : r = [] := List.eq_nil_of_length_eq_zero HRL.out
      clear HQ HP
      go_enter Tryd.func22, Tryd.ntmps22
      go_wp2_with fail
      refine (refLength_any _ 0 0 [] _ rfl (by omega) (.inl rfl)).mono ?_
      rintro en w1 ⟨rfl, hb1⟩
      have hB1 : Below w.heap.size w w1 := bnext (by go_grown) hb1
      have A1 : Blk w1 w.heap.size 35 #[.int .u8 0, .slice none 0 0] := Blk.below (by simp (disch := (first | omega | (simp only [World.size_alloc, World.size_setCell, World.size_drew] <;> omega) | fail)) only [Blk, heap_old, heap_at, heap_set_same, heap_set_ne, heap_drew', Option.map_some, putO_cells]) hb1
      have c1 := A1.cell
      have f1 := A1.free
      have l1 := A1.lt
      clear hb1
      rw [show Frm.lenP 0 0 [] = (0, 0, 130) by unfold Frm.lenP; rfl]
      go_wp2_with fail
      have A3 : Blk ((w1.setCell ⟨w.heap.size, 0, none⟩ (.int .u8 0)).setCell ⟨w.heap.size, 1, none⟩ (.slice none 0 0)) w.heap.size 35 #[.int .u8 0, .slice none 0 0] := by (unfold Blk at A1; simp (disch := (first | omega | (simp only [World.size_alloc, World.size_setCell, World.size_drew] <;> omega) | fail)) only [Blk, heap_old, heap_at, heap_set_same, heap_set_ne, heap_drew', Option.map_some, putO_cells, A1]; rfl)
      have q0 := A3.cell 0
      have q1 := A3.cell 1
      refine bodyPost_ret (v := .tuple #[.agg #[.int .u8 0, .slice none 0 0], .int .i64 0, .int .i64 130]) (by simp [results, Tryd.results22, go_sem, q0, q1]; done) rfl ⟨hB1.trans (by go_grown), .inr ⟨0, 0, 130, rfl, by omega, rfl⟩⟩
    · go_enter Tryd.func22, Tryd.ntmps22
      go_wp2_with fail
      refine (refLength_any _ (n - 1) (c - 1) r _ HRL.out (by omega) ((HRd.out.below (by go_grown)).more (by simp))).mono ?_
      rintro en w1 ⟨rfl, hb1⟩
      rw [HP.out]
      have hB1 : Below w.heap.size w w1 := bnext (by go_grown) hb1
      have A1 : Blk w1 w.heap.size 35 #[.int .u8 0, .slice none 0 0] := Blk.below (by simp (disch := (first | omega | (simp only [World.size_alloc, World.size_setCell, World.size_drew] <;> omega) | fail)) only [Blk, heap_old, heap_at, heap_set_same, heap_set_ne, heap_drew', Option.map_some, putO_cells]) hb1
      have HR1 := Lib.hid ((HR.out.below hB1).more hB1.size)
      clear hb1 HR HRd
      rcases Decidable.em (E = 0) with hE | hE
      · subst hE
        simp only [ne_eq, not_true_eq_false, if_false] at HQ
        rcases Nat.lt_or_ge n (1 + S + N + 4) with h2 | h2
        · have HQ2 := Lib.hid (show Frm.look (t :: r) = (0, 0, 130) by rw [HQ.out, if_pos h2])
          clear HQ HP
          have h2' : (n : Int) < 1 + (S : Int) + N + 4 := by omega
          have c1 := A1.cell
          have f1 := A1.free
          have l1 := A1.lt
          go_wp2_with fail
          have A3 : Blk ((w1.setCell ⟨w.heap.size, 0, none⟩ (.int .u8 0)).setCell ⟨w.heap.size, 1, none⟩ (.slice none 0 0)) w.heap.size 35 #[.int .u8 0, .slice none 0 0] := by (unfold Blk at A1; simp (disch := (first | omega | (simp only [World.size_alloc, World.size_setCell, World.size_drew] <;> omega) | fail)) only [Blk, heap_old, heap_at, heap_set_same, heap_set_ne, heap_drew', Option.map_some, putO_cells, A1]; rfl)
          have q0 := A3.cell 0
          have q1 := A3.cell 1
          refine bodyPost_ret (v := .tuple #[.agg #[.int .u8 0, .slice none 0 0], .int .i64 0, .int .i64 130]) (by simp [results, Tryd.results22, go_sem, q0, q1]; done) rfl ⟨hB1.trans (by go_grown), .inr ⟨0, 0, 130, HQ2.out, by omega, rfl⟩⟩
        · have HQ1 := Lib.hid (HQ.out.trans (if_neg (Nat.not_lt.2 h2)))
          clear HQ HP
          obtain ⟨e, he⟩ : ∃ e, 1 + S + N = e := ⟨_, rfl⟩
          rw [he] at HQ1
          have he' : 1 + (S : Int) + (N : Int) = (e : Int) := by omega
          have h2' : ¬ (n : Int) < (e : Int) + 4 := by omega
          have h3 : e + 4 ≤ n := by omega
          have hSe : 1 + S ≤ e := by omega
          obtain ⟨b0, b1, b2, b3, hb4⟩ := four_of (t :: r) e (by rw [HL.out]; omega)
          have HF := Lib.hid hb4
          have htl : ((t :: r).take e).length = e := by rw [List.length_take, HL.out]; omega
          have HTL := Lib.hid htl
          clear hb4 htl he
          go_wp2_with fail
          refine (refSum_any (.slice (some ⟨b, off, none⟩) e c) ((t :: r).take e) _ ⟨some ⟨b, off, none⟩, c, by rw [HTL.out], fun h => (by cases h), by rw [HTL.out]; omega, Rd.take HR1.out _⟩).mono ?_
          rintro en w2 ⟨rfl, hb2⟩
          have hB2 : Below w.heap.size w w2 := bnext hB1 hb2
          have A2 := A1.below hb2
          have HR2 := Lib.hid ((HR1.out.below hb2).more hb2.size)
          clear hb2 HR1 hB1 A1
          generalize hY : Crc.more 0#32 ((t :: r).take e) = Y
          rw [hY] at HQ1
          clear hY
          have H4 := Lib.hid (show Rd w2 w2.heap.size (some ⟨b, off + e, none⟩) ([b0, b1, b2, b3].map B8) by
            have h := Rd.take (Rd.drop HR2.out e) 4
            rw [HF.out] at h
            exact h)
          have lb : b < w2.heap.size := by
            rcases H4.out with h | ⟨b', off', h, hb, _⟩
            · cases h
            · cases h; exact hb
          have hcc : ∀ (j : Nat) u, ([b0, b1, b2, b3].map B8)[j]? = some u → w2.cell? ⟨b, off + e + j, none⟩ = some u := by
            rcases H4.out with h | ⟨b', off', h, _, hc⟩
            · cases h
            · cases h; exact hc
          have e0 : w2.cell? ⟨b, off + e, none⟩ = some (B8 b0) := hcc 0 _ rfl
          have e1 : w2.cell? ⟨b, off + (e + 1), none⟩ = some (B8 b1) := hcc 1 _ rfl
          have e2 : w2.cell? ⟨b, off + (e + 2), none⟩ = some (B8 b2) := hcc 2 _ rfl
          have e3 : w2.cell? ⟨b, off + (e + 3), none⟩ = some (B8 b3) := hcc 3 _ rfl
          have h0 := byte_bd b0
          have h1 := byte_bd b1
          have h2b := byte_bd b2
          have h3b := byte_bd b3
          have w1' : IntKind.i64.wrap ((e : Int) + 1) = (e : Int) + 1 := by rw [IntKind.wrap_i64]; omega
          have w2' : IntKind.i64.wrap ((e : Int) + 2) = (e : Int) + 2 := by rw [IntKind.wrap_i64]; omega
          have w3' : IntKind.i64.wrap ((e : Int) + 3) = (e : Int) + 3 := by rw [IntKind.wrap_i64]; omega
          have i0 : e < n := by omega
          have t2 : ((e : Int) + 2).toNat = e + 2 := by omega
          have t3 : ((e : Int) + 3).toNat = e + 3 := by omega
          have i1 : (0 ≤ (e : Int) + 1 ∧ (e : Int) + 1 < n) = True := by simp; omega
          have i2 : (0 ≤ (e : Int) + 2 ∧ (e : Int) + 2 < n) = True := by simp; omega
          have i3 : (0 ≤ (e : Int) + 3 ∧ (e : Int) + 3 < n) = True := by simp; omega
          clear hcc
          go_wp2_with fail
          (refine region_keep (fun _ => True) 28 [(0, true), (1, true), (2, true), (3, true), (4, true), (5, true), (6, true), (7, true), (8, true), (9, true), (10, true), (11, true), (12, true), (13, true), (14, true), (15, true), (16, true), (17, true), (18, true), (19, true), (20, true), (21, true), (22, true), (23, true), (24, true), (25, true), (26, true), (27, true)] (by kernel_rfl) (fun _ _ d _ _ h => by cases d <;> exact h) (by kernel_rfl) ?_; simp only [withOps, List.getElem?_toArray, List.getElem?_cons_zero, List.getElem?_cons_succ, List.drop_succ_cons, List.drop_zero])
          (iterate 28 (refine keep_quiet (v := ?_) rfl ?_ ?_; rotate_left; (focus (intro w' hw'; go_simp; (try with_reducible rfl); done)); try simp only [Act.put, List.setIfInBounds_toArray, List.set_cons_zero, List.set_cons_succ]))
          (with_reducible refine plan_end ?_)
          (try simp only [Act.put, List.setIfInBounds_toArray, List.set_cons_zero, List.set_cons_succ])
          go_upto_region 11 with (fail)
          rw [le4_sum]
          generalize hX : BitVec.ofNat 32 (Crc.le4 b0 b1 b2 b3) = X
          have HX := Lib.hid hX
          clear hX e0 e1 e2 e3 h0 h1 h2b h3b w1' w2' w3' i0 i1 i2 i3 t2 t3 H4
          rcases Decidable.em (Crc.num Y = Crc.num X) with h5 | h5
          · have HQ2 := Lib.hid (show Frm.look (t :: r) = (1 + S, e, 0) by
              rw [HQ1.out, HF.out, if_neg]
              rw [← HX.out] at h5
              simpa using (sum_eq b0 b1 b2 b3 Y).1 h5.symm)
            have h5' : (Crc.num Y == Crc.num X) = true := by simp [h5]
            have ez : w2.cell? ⟨b, off, none⟩ = some (B8 t) := by
              rcases HR2.out with h | ⟨b', off', h, _, hc⟩
              · cases h
              · cases h; exact hc 0 _ rfl
            have hwr : IntKind.i64.wrap ((e : Int) + 4) = (e : Int) + 4 := by rw [IntKind.wrap_i64]; omega
            have hws : IntKind.i64.wrap (1 + (S : Int)) = 1 + (S : Int) := by rw [IntKind.wrap_i64]; omega
            have j1 : (0 ≤ 1 + (S : Int) ∧ 1 + (S : Int) ≤ (e : Int)) = True := by simp; omega
            have t1 : (1 + (S : Int)).toNat = 1 + S := by omega
            have hn0 : 0 < n := by omega
            have hec : e ≤ c := by omega
            have hfc : 1 + S < c := by omega
            have hfc2 : ¬ c = 1 + S := by omega
            have s1 := hB2.size
            have l1 : w.heap.size < w2.heap.size := A2.lt
            clear HQ1 h5
            go_wp2_with fail
            (refine region_keep (fun x => x < w.heap.size) 13 [(0, true), (1, true), (2, true), (3, true), (4, true), (5, true), (6, true), (7, true), (10, true), (11, true), (8, false), (9, true), (12, false)] (by kernel_rfl) (fun _ _ d _ _ h => by cases d <;> exact h) (by kernel_rfl) ?_; simp only [withOps, List.getElem?_toArray, List.getElem?_cons_zero, List.getElem?_cons_succ, List.drop_succ_cons, List.drop_zero])
            (iterate 10 (refine keep_quiet (v := ?_) rfl ?_ ?_; rotate_left; (focus (intro w' hw'; go_simp; (try with_reducible rfl); done)); try simp only [Act.put, List.setIfInBounds_toArray, List.set_cons_zero, List.set_cons_succ]))
            (with_reducible refine plan_loud (fun K hK => ?_))
            simp only [Region.wanted, if_pos]
            refine wp_append_bytes (.const (.slice none 0 0)) (.tmp 80) rfl (w.heap.size + 1) (.slice none 0 0) 0 [] rfl (World.ownsRow_nil _ _ _ _) (some ⟨b, off + (1 + S), none⟩) (e - (1 + S)) (c - (1 + S)) (((t :: r).drop (1 + S)).take (e - (1 + S))) rfl (fun h => by cases h) (by rw [List.length_take, List.length_drop, HL.out]; omega) ((Rd.take (Rd.drop HR2.out (1 + S)) (e - (1 + S))).below (show Below w2.heap.size w2 w2.drew.drew by go_grown)) (by omega) (show w.heap.size + 1 ≤ w2.heap.size from l1) ?_
            intro v1 w3 ho3 hg3 hv3
            rw [Nat.zero_add, List.nil_append] at ho3
            have hB3 : Below w.heap.size w w3 := (hB2.trans (show Below w.heap.size w2 w2.drew.drew by go_grown)).grown hg3 s1 (fun kk hkk => by simp [Value.ownBlock] at hkk)
            have A3 : Blk w3 w.heap.size 35 #[.int .u8 0, .slice none 0 0] := (hg3.block w.heap.size l1 (by simp [Value.ownBlock])).trans A2
            refine hK _ _ (fun x hx => hg3.block x (Nat.lt_of_lt_of_le hx s1) (by simp [Value.ownBlock])) ?_
            clear hK K hg3 hv3 A2
            obtain ⟨a1, c1, rfl, _⟩ := own_slice ho3
            have HO3 := Lib.hid ho3
            clear ho3
            (try simp only [Act.put, List.setIfInBounds_toArray, List.set_cons_zero, List.set_cons_succ])
            (iterate 1 (refine keep_quiet (v := ?_) rfl ?_ ?_; rotate_left; (focus (intro w' hw'; go_simp; (try with_reducible rfl); done)); try simp only [Act.put, List.setIfInBounds_toArray, List.set_cons_zero, List.set_cons_succ]))
            (with_reducible refine plan_loud (fun K hK => ?_))
            have lA := A3.lt
            have cA := A3.cell
            have fA := A3.free
            go_simp
            refine hK _ _ (fun x hx => (show Below w.heap.size w3 _ by have := hB3.size; go_grown).block x hx) ?_
            clear hK K
            (with_reducible refine plan_end ?_)
            (try simp only [Act.put, List.setIfInBounds_toArray, List.set_cons_zero, List.set_cons_succ])
            have HO4 := Lib.hid (show ((w3.setCell ⟨w.heap.size, 0, none⟩ (.int .u8 (t.toNat : Int))).setCell ⟨w.heap.size, 1, none⟩ (.slice a1 (e - (1 + S)) c1)).ownsRow w.heap.size 5 1 (.slice a1 (e - (1 + S)) c1) (e - (1 + S)) ((((t :: r).drop (1 + S)).take (e - (1 + S))).map B8) by
              refine owns_mono (owns_keep HO3.out (fun x hx _ => ?_)) (Nat.le_succ _)
              rw [heap_set_ne _ _ _ _ _ (by omega), heap_set_ne _ _ _ _ _ (by omega)])
            have A4 : Blk ((w3.setCell ⟨w.heap.size, 0, none⟩ (.int .u8 (t.toNat : Int))).setCell ⟨w.heap.size, 1, none⟩ (.slice a1 (e - (1 + S)) c1)) w.heap.size 35 #[B8 t, .slice a1 (e - (1 + S)) c1] := by
              unfold Blk at A3; simp (disch := (first | omega | (simp only [World.size_alloc, World.size_setCell, World.size_drew] <;> omega) | fail)) only [Blk, heap_old, heap_at, heap_set_same, heap_set_ne, heap_drew', Option.map_some, putO_cells, A3]; rfl
            have q0 := A4.cell 0
            have q1 := A4.cell 1
            clear cA fA
            go_wp2_with fail
            refine bodyPost_ret (v := .tuple #[.agg #[B8 t, .slice a1 (e - (1 + S)) c1], .int .i64 ((e : Int) + 4), .int .i64 0]) (by simp [results, Tryd.results22, go_sem, q0, q1]; done) rfl ⟨hB3.trans (by have := hB3.size; go_grown), .inl ⟨t, r, 1 + S, e, _, rfl, HQ2.out, by simp, HO4.out⟩⟩
          · have HQ2 := Lib.hid (show Frm.look (t :: r) = (0, 0, 132) by
              rw [HQ1.out, HF.out, if_pos]
              rw [← HX.out] at h5
              intro h
              exact h5 ((sum_eq b0 b1 b2 b3 Y).2 h).symm)
            have h5' : (Crc.num Y == Crc.num X) = false := by simp [h5]
            have c1 := A2.cell
            have f1 := A2.free
            have l1 := A2.lt
            clear HQ1 h5
            go_wp2_with fail
            have A3 : Blk ((w2.setCell ⟨w.heap.size, 0, none⟩ (.int .u8 0)).setCell ⟨w.heap.size, 1, none⟩ (.slice none 0 0)) w.heap.size 35 #[.int .u8 0, .slice none 0 0] := by (unfold Blk at A2; simp (disch := (first | omega | (simp only [World.size_alloc, World.size_setCell, World.size_drew] <;> omega) | fail)) only [Blk, heap_old, heap_at, heap_set_same, heap_set_ne, heap_drew', Option.map_some, putO_cells, A2]; rfl)
            have q0 := A3.cell 0
            have q1 := A3.cell 1
            refine bodyPost_ret (v := .tuple #[.agg #[.int .u8 0, .slice none 0 0], .int .i64 0, .int .i64 132]) (by simp [results, Tryd.results22, go_sem, q0, q1]; done) rfl ⟨hB2.trans (by go_grown), .inr ⟨0, 0, 132, HQ2.out, by omega, rfl⟩⟩
      · have HQ2 := Lib.hid (show Frm.look (t :: r) = (0, 0, E) by rw [HQ.out, if_pos hE])
        have hE' : ((E : Int) == 0) = false := by simp; omega
        have c1 := A1.cell
        have f1 := A1.free
        have l1 := A1.lt
        clear HQ HP
        go_wp2_with fail
        have A3 : Blk ((w1.setCell ⟨w.heap.size, 0, none⟩ (.int .u8 0)).setCell ⟨w.heap.size, 1, none⟩ (.slice none 0 0)) w.heap.size 35 #[.int .u8 0, .slice none 0 0] := by (unfold Blk at A1; simp (disch := (first | omega | (simp only [World.size_alloc, World.size_setCell, World.size_drew] <;> omega) | fail)) only [Blk, heap_old, heap_at, heap_set_same, heap_set_ne, heap_drew', Option.map_some, putO_cells, A1]; rfl)
        have q0 := A3.cell 0
        have q1 := A3.cell 1
        refine bodyPost_ret (v := .tuple #[.agg #[.int .u8 0, .slice none 0 0], .int .i64 0, .int .i64 E]) (by simp [results, Tryd.results22, go_sem, q0, q1]; done) rfl ⟨hB1.trans (by go_grown), .inr ⟨0, 0, E, HQ2.out, hE, rfl⟩⟩
end Go.Proofs.YtolbmjilcngnhaaDoor
