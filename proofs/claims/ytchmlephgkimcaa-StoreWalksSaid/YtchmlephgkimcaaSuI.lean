/- Store: the walk of StorePlays. -/
import Derived.Test.YtchmlephgkimcaaSuH
import Derived.WalkMore
import Derived.Deep.CutRange
set_option linter.unusedSimpArgs false
set_option linter.unusedVariables false
namespace Go.Proofs.Ytchmlephgkimcaa
open Go.RowKit Go.Kp Go.St

/-- A call of one of three maps. -/
structure Opr where
  k : Int
  on : Int
  tw : Int
  key : Int
  val : Int
  n : Int
def Opr.cells (s : Opr) : List Value := [.int .i64 s.k, .int .i64 s.on, .int .i64 s.tw, .int .i64 s.key, .int .i64 s.val, .int .i64 s.n]
theorem opr_len (s : Opr) : s.cells.length = 6 := rfl
theorem opr_at {w : World} {B : Nat} {sa : Option Addr} {sc : List Opr} (h : Rd w B sa (sc.flatMap Opr.cells)) {i : Nat} {s : Opr} (hi : sc[i]? = some s) : ∃ b off, sa = some ⟨b, off, none⟩ ∧ b < B ∧ ∀ j, j < 6 → w.cell? ⟨b, off + i * 6 + j, none⟩ = s.cells[j]? := by
  have hl := flat_length Opr.cells 6 opr_len sc
  have h1 := (List.getElem?_eq_some_iff.1 hi).1
  rcases h with h | ⟨b, off, e, hb, hc⟩
  · rw [h] at hl; simp at hl; omega
  · refine ⟨b, off, e, hb, fun j hj => ?_⟩
    have h2 := flat_get Opr.cells 6 opr_len sc i j s hi hj
    have h3 : s.cells[j]? = some (s.cells[j]'(by rw [opr_len]; exact hj)) := List.getElem?_eq_getElem _
    rw [h3] at h2 ⊢
    rw [Nat.add_assoc]
    exact hc _ _ h2
theorem tri_none {k i : Nat} {f : Nat → Nat} (h : i < 3) (hk : k ≤ i) : (tri k f)[i]? = some (.pointer none) := by
  have hk' : ¬ i < k := by omega
  rcases lt_three h with rfl | rfl | rfl <;> simp [tri, pt] <;> omega
/-- The place in an array of three. -/
theorem third (x : Int) : ∃ n : Nat, (wrap64 (x.tmod 3 + 3)).tmod 3 = n ∧ n < 3 := by
  have h := Int.natAbs_tmod x 3
  have h2 := Nat.mod_lt x.natAbs (show 0 < 3 by decide)
  rw [show (3 : Int).natAbs = 3 from rfl] at h
  have h3 : -3 < x.tmod 3 ∧ x.tmod 3 < 3 := by omega
  have h5 : wrap64 (x.tmod 3 + 3) = x.tmod 3 + 3 := by unfold wrap64; omega
  have h4 : (x.tmod 3 + 3).tmod 3 = (x.tmod 3 + 3) % 3 := Int.tmod_eq_emod_of_nonneg (by omega)
  rw [h5]
  exact ⟨((x.tmod 3 + 3) % 3).toNat, by omega, by omega⟩
theorem Pls.made {w : World} {wh : Int} {k m : Nat} {qs gs rs : Nat → Nat} {ts : Nat → Tr} {Z : World} (h : Pls wh w k qs gs rs ts m Z) (hk : k < 3) {w2 : World} {g q : Nat} (hb : Below Z.heap.size Z w2)
    (hM : MapAt (fun w => Blk w q 3 #[.int .i64 wh]) 31 #[.pointer (some ⟨q, 0, none⟩)] (cw wh) w2 g .nil) (hg : Z.heap.size ≤ g) :
    Pls wh w (k + 1) (upd qs k q) (upd gs k g) (upd rs k w2.heap.size) (upd ts k .nil) m (((w2.setCell ⟨w.heap.size, k, none⟩ (.pointer (some ⟨g, 0, none⟩))).setCell ⟨w.heap.size + 1, k, none⟩ (.pointer (some ⟨w2.heap.size, 0, none⟩))).alloc (.cells #[.int .i64 wh, .slice none 0 0] 29)) := by
  have hz : (w2.setCell ⟨w.heap.size, k, none⟩ (.pointer (some ⟨g, 0, none⟩))).heap.size = w2.heap.size := World.size_setCell ..
  have hlr := (h.ref.below hb).lt
  rw [← World.setCell_alloc_past _ _ _ _ (by rw [hz]; exact hlr)]
  refine h.put hk (fun i => by omega) hb hM hg ((Below.refl _ _).alloc (by rw [hz]; exact Nat.le_refl _) _) ⟨none, 0, ?_, ?_, Nat.zero_le _, by decide, fun _ => rfl⟩ hb.size (Nat.zero_le _)
  · exact heap_at hz.symm
  · exact .inl rfl

set_option maxRecDepth 100000 in
set_option maxHeartbeats 8000000 in
theorem plays_any {w : World} (which : Int) (sa : Option Addr) (n cap : Nat) (sc : List Opr) (hwr : IntKind.i64.wrap which = which)
    (hsl : sc.length = n) (hn : n ≤ 4000000000000) (hsr : Rd w w.heap.size sa (sc.flatMap Opr.cells)) :
    Calls Try.prog 5 #[.int .i64 which, .slice sa n cap] w (Ret (.bool true) w) := by
  have HSL := Lib.hid hsl
  have HSR := Lib.hid hsr
  have hb : -5 < which.tmod 5 ∧ which.tmod 5 < 5 := by
    have h := Int.natAbs_tmod which 5
    have h2 := Nat.mod_lt which.natAbs (show 0 < 5 by decide)
    rw [show (5 : Int).natAbs = 5 from rfl] at h
    omega
  clear hsl hsr
  go_enter Try.func5, Try.ntmps5
  go_upto_region 5 with (fail)
  generalize hWH : (which.tmod 5 + 5) % 5 = wh
  clear hWH hb
  (refine wp_at (fun w1 => Pls wh w 0 id id id (fun _ => .nil) 0 w1) ⟨?_, ?_, fun i h => absurd h (Nat.not_lt_zero i), fun i j h => absurd h (Nat.not_lt_zero i), fun i j h => absurd h (Nat.not_lt_zero i), fun i h => absurd h (Nat.not_lt_zero i), fun i h => absurd h (Nat.not_lt_zero i), by go_grown⟩ ?_)
  · show Blk _ _ _ #[.pointer none, .pointer none, .pointer none]
    simp (disch := (first | omega | (simp only [World.size_alloc, World.size_setCell, World.size_drew] <;> omega) | fail)) only [Blk, heap_old, heap_at, heap_set_same, heap_set_ne, heap_drew', Option.map_some, putO_cells]
  · show Blk _ _ _ #[.pointer none, .pointer none, .pointer none]
    simp (disch := (first | omega | (simp only [World.size_alloc, World.size_setCell, World.size_drew] <;> omega) | fail)) only [Blk, heap_old, heap_at, heap_set_same, heap_set_ne, heap_drew', Option.map_some, putO_cells]
  intro w1 hP1
  have HP1 := Lib.hid hP1
  clear hP1
  go_loopw [7] (fun vi wr => ∃ (k : Nat) (qs gs rs : Nat → Nat) (ts : Nat → Tr), vi = .int .i64 k ∧ k ≤ 3 ∧ Pls wh w k qs gs rs ts 0 wr) (fun vi _ => 3 - (intOf vi).toNat)
  case atStart => exact ⟨0, _, _, _, _, rfl, by omega, HP1.out⟩
  case round =>
    rename World => wo
    obtain ⟨k, qs, gs, rs, ts, rfl, hk, hP⟩ := hrel
    have HP := Lib.hid hP
    clear HP1 hP
    rcases Nat.lt_or_ge k 3 with hlt | hge
    · have hk3 : (k : Int) < 3 := by omega
      have lA := HP.out.own.lt
      have lR := HP.out.ref.lt
      go_wp2_with fail
      refine (made_any wh wo).mono ?_
      rintro en w2 ⟨g, q, rfl, hg, hM, hb2⟩
      have c2 := ((HP.out.own.below hb2).cell k).trans (tri_none hlt (Nat.le_refl _))
      have f2 := (HP.out.own.below hb2).free k
      have d2 := ((HP.out.ref.below hb2).cell k).trans (tri_none hlt (Nat.le_refl _))
      have e2 := (HP.out.ref.below hb2).free k
      have lA2 := (HP.out.own.below hb2).lt
      have lR2 := (HP.out.ref.below hb2).lt
      have HM := Lib.hid hM
      have HB2 := Lib.hid hb2
      have HG := Lib.hid hg
      clear hM hb2 hg lA lR
      go_wp2_with fail
      go_roundw
      case rel =>
        refine ⟨k + 1, upd qs k q, upd gs k g, upd rs k w2.heap.size, upd ts k .nil, by go_num, by omega, ?_⟩
        exact Pls.made HP.out hlt HB2.out HM.out HG.out
      case measure => simp [intOf]; omega
    · obtain rfl : k = 3 := by omega
      go_upto_region 11 with (fail)
      (refine wp_at (fun w3 => Pls wh w 3 qs gs rs ts 0 w3) HP.out ?_)
      intro w3 hP3
      have HP3 := Lib.hid hP3
      clear hP3 HP
      go_wp2_with fail
      go_loopw [8] (fun vi wr => ∃ (i : Nat) (qs gs rs : Nat → Nat) (ts : Nat → Tr), vi = .int .i64 i ∧ i ≤ n ∧ Pls wh w 3 qs gs rs ts i wr) (fun vi _ => n - (intOf vi).toNat)
      case atStart => exact ⟨0, _, _, _, _, rfl, by omega, HP3.out⟩
      case round =>
        rename World => wo
        clear HP3
        obtain ⟨i, qs, gs, rs, ts, rfl, hi, hP⟩ := hrel
        have HP := Lib.hid hP
        clear hP
        rcases Nat.lt_or_ge i n with hlt | hge
        · have hin : (i : Int) < (n : Int) := by omega
          have lA := HP.out.own.lt
          have lR := HP.out.ref.lt
          obtain ⟨s, hs⟩ : ∃ s, sc[i]? = some s := ⟨_, List.getElem?_eq_getElem (by rw [HSL.out]; exact hlt)⟩
          obtain ⟨b, off, rfl, hbb, hbc⟩ := opr_at (HSR.out.below HP.out.below) hs
          have hbw : b < wo.heap.size := Nat.lt_of_lt_of_le hbb HP.out.below.size
          have b0 := hbc 0 (by omega)
          have b1 := hbc 1 (by omega)
          have b2 := hbc 2 (by omega)
          have b3 := hbc 3 (by omega)
          have b4 := hbc 4 (by omega)
          have b5 := hbc 5 (by omega)
          simp only [Opr.cells, Nat.add_zero, List.getElem?_cons_zero, List.getElem?_cons_succ] at b0 b1 b2 b3 b4 b5
          clear hbc
          obtain ⟨nn, hnn, hn3⟩ := third s.on
          obtain ⟨tt, htt, ht3⟩ := third s.tw
          have HS := Lib.hid hs
          clear hs
          go_upto_if 56 with (fail)
          clear hnn htt
          have HO := Lib.hid (show Blk (wo.alloc (.cells #[.int .i64 s.k, .int .i64 s.on, .int .i64 s.tw, .int .i64 s.key, .int .i64 s.val, .int .i64 s.n] 45)) wo.heap.size 45 s.cells.toArray from heap_at rfl)
          have HP4 := Lib.hid (HP.out.next (show Below wo.heap.size wo (wo.alloc (.cells #[.int .i64 s.k, .int .i64 s.on, .int .i64 s.tw, .int .i64 s.key, .int .i64 s.val, .int .i64 s.n] 45)) by go_grown))
          (refine wp_at (fun Z => Blk Z wo.heap.size 45 s.cells.toArray ∧ Pls wh w 3 qs gs rs ts i Z) ⟨HO.out, HP4.out⟩ ?_)
          rintro Z ⟨hO, hP⟩
          clear HO HP4 HP
          have HO := Lib.hid hO
          have HP := Lib.hid hP
          clear hO hP b0 b1 b2 b3 b4 b5
          go_cut [10] from 54 to 68 (fun s10 wc => s10 = .int .i64 nn ∧ Blk wc wo.heap.size 45 s.cells.toArray ∧ ∃ qs gs rs ts, Pls wh w 3 qs gs rs ts i wc)
          case first =>
            have k0 := HO.out.cell 0
            simp only [Opr.cells, List.getElem?_toArray, List.getElem?_cons_zero] at k0
            have lO := HO.out.lt
            have lA' := HP.out.own.lt
            have lR' := HP.out.ref.lt
            have g3 := HP.out.gcell ht3
            have r3 := HP.out.rcell ht3
            have fA := HP.out.own.free nn
            go_wp2_with fail
            · (try clear ‹s.k = 10›)
              refine (Copy_any (HP.out.maps tt ht3).own).mono ?_
              rintro en w5 ⟨g', rfl, hg5, hM5, hb5⟩
              have P5 := HP.out.next hb5
              have g5 := P5.gcell hn3
              have f5 := P5.own.free nn
              have r5 := P5.rcell ht3
              have lA5 := P5.own.lt
              have lR5 := P5.ref.lt
              have HP5 := Lib.hid P5
              have HB5 := Lib.hid hb5
              have HG5 := Lib.hid hg5
              have HM5 := Lib.hid hM5
              clear P5 hb5 hg5 hM5 k0 g3 r3 fA lA' lR'
              go_wp2_with fail
              refine (rCopy_any (RefAt.types (HP5.out.maps tt ht3).ref (set_types (n := nn) (v := .pointer (some ⟨g', 0, none⟩)) HP5.out.own (.inl rfl))) (by rw [← T.many_len]; have := HP5.out.few tt ht3; omega)).mono ?_
              rintro en w6 ⟨r', rfl, hr6, hR6, hb6⟩
              rw [World.size_setCell] at hr6 hb6
              have r6 := ((blk_setNe HP5.out.ref (n := nn) (v := .pointer (some ⟨g', 0, none⟩)) (Nat.succ_ne_self w.heap.size)).below (by rw [World.size_setCell]; exact hb6))
              have q6 := (r6.cell nn).trans (tri_get hn3 hn3)
              have f6 := r6.free nn
              have l6 := r6.lt
              have HR6 := Lib.hid hR6
              have HB6 := Lib.hid hb6
              have HG6 := Lib.hid hr6
              have O5 := HO.out.below HB5.out
              have O6 := Lib.hid ((blk_setNe O5 (n := nn) (v := .pointer (some ⟨g', 0, none⟩)) (blk_types O5 HP5.out.own (by decide))).below (by rw [World.size_setCell]; exact hb6))
              clear hr6 hR6 hb6 r6 O5 g5 f5 r5
              go_wp2_with fail
              go_meet
              exact ⟨rfl, blk_setNe O6.out (blk_types O6.out ((blk_setNe HP5.out.ref (n := nn) (v := .pointer (some ⟨g', 0, none⟩)) (Nat.succ_ne_self w.heap.size)).below (by rw [World.size_setCell]; exact HB6.out)) (by decide)), _, _, _, _, HP.out.put hn3 (fun i => by omega) HB5.out HM5.out HG5.out HB6.out HR6.out (Nat.le_trans HB5.out.size HG6.out) (HP.out.few tt ht3)⟩
            · go_meet
              exact ⟨rfl, HO.out, _, _, _, _, HP.out⟩
          case rest =>
            clear HO HP
            obtain ⟨rfl, hO, qs, gs, rs, ts, hP⟩ := hcut
            have HO := Lib.hid hO
            have HP := Lib.hid hP
            have lO := hO.lt
            have lA' := hP.own.lt
            have lR' := hP.ref.lt
            have gN := hP.gcell hn3
            have rN := hP.rcell hn3
            have o0 := hO.cell 0
            have o1 := hO.cell 1
            have o2 := hO.cell 2
            have o3 := hO.cell 3
            have o4 := hO.cell 4
            have o5 := hO.cell 5
            simp only [Opr.cells, List.getElem?_toArray, List.getElem?_cons_zero, List.getElem?_cons_succ] at o0 o1 o2 o3 o4 o5
            clear hO hP
            have hn3i : (nn : Int) < 3 := by omega
            go_upto_region 20 with (fail)
            (refine region_keep (fun b => b = w.heap.size ∨ b = w.heap.size + 1 ∨ b = wo.heap.size) 22 [(0, true), (1, true), (2, true), (3, true), (4, true), (5, true), (6, true), (7, true), (8, true), (9, true), (10, true), (11, true), (12, false), (13, true), (14, true), (15, true), (16, true), (17, true), (18, true), (19, true), (20, true), (21, true)] (by kernel_rfl) (fun _ _ d _ _ h => by cases d <;> exact h) (by kernel_rfl) ?_; simp only [withOps, List.getElem?_toArray, List.getElem?_cons_zero, List.getElem?_cons_succ, List.drop_succ_cons, List.drop_zero])
            (iterate 12 (refine keep_quiet (v := ?_) rfl ?_ ?_; rotate_left; (focus (intro w' hw'; go_simp; (try with_reducible rfl); done)); try simp only [Act.put, List.setIfInBounds_toArray, List.set_cons_zero, List.set_cons_succ]))
            (with_reducible refine plan_loud (fun K hK => ?_))
            go_simp
            have HPD := Lib.hid (HP.out.next (show Below wc.heap.size wc wc.drew from (Below.refl _ _).drew))
            refine (step_any (HPD.out.maps nn hn3) s.k s.on s.tw s.key s.val s.n (by have := HP.out.few nn hn3; omega)).mono ?_
            rintro en w6 ⟨rfl, t', hB6, hm6, hT6⟩
            have P6 := HPD.out.turn hn3 hB6 hT6 (Nat.le_trans hm6 (Nat.succ_le_succ (HP.out.few nn hn3)))
            have O6 : Blk w6 wo.heap.size 45 s.cells.toArray := by
              obtain ⟨a, hg, _⟩ := (HPD.out.maps nn hn3).own.cells
              obtain ⟨_, _, hr, _⟩ := (HPD.out.maps nn hn3).ref
              exact (blk_stays hg hr hT6 (show Blk wc.drew _ _ _ from HO.out) (fun e => absurd e (by decide)) (fun e => absurd e (by decide))).trans HO.out
            refine hK _ _ (fun b hb => ?_) ?_
            · rcases hb with rfl | rfl | rfl
              · exact P6.own.trans HP.out.own.symm
              · exact P6.ref.trans HP.out.ref.symm
              · exact O6.trans HO.out.symm
            clear hK K
            have HP6 := Lib.hid P6
            have HO6 := Lib.hid O6
            have gN := P6.gcell hn3
            have rN := P6.rcell hn3
            have lA6 := P6.own.lt
            have lR6 := P6.ref.lt
            clear P6 O6 hB6 hm6 hT6 HPD HO HP o0 o1 o2 o3 o4 o5 lO lA' lR'
            (try simp only [Act.put, List.setIfInBounds_toArray, List.set_cons_zero, List.set_cons_succ])
            (repeat (refine keep_quiet (v := ?_) rfl ?_ ?_; rotate_left; (focus (intro w' hw'; go_simp; (try with_reducible rfl); done)); try simp only [Act.put, List.setIfInBounds_toArray, List.set_cons_zero, List.set_cons_succ]))
            (with_reducible refine plan_end ?_)
            (try simp only [Act.put, List.setIfInBounds_toArray, List.set_cons_zero, List.set_cons_succ])
            go_wp2_with fail
            refine (whole_any (HP6.out.maps nn hn3).own (HP6.out.maps nn hn3).ref rfl (by have := HP6.out.few nn hn3; omega)).mono ?_
            rintro en w7 ⟨rfl, hb7⟩
            have HP7 := Lib.hid (HP6.out.next hb7)
            clear hb7 HP6
            go_wp2_with fail
            go_roundw
            case rel =>
              (repeat apply Exists.intro)
              exact ⟨⟨i + 1, qs, gs, rs, upd ts nn t', by go_num, by omega, HP7.out⟩, rfl⟩
            case measure => simp [intOf]; omega
        · obtain rfl : i = n := by omega
          go_upto_region 22 with (fail)
          (refine wp_at (fun w3 => Pls wh w 3 qs gs rs ts i w3) HP.out ?_)
          intro w4 hP4
          have HP4 := Lib.hid hP4
          clear hP4 HP
          go_wp2_with fail
          go_loopw [12] (fun vi wr => ∃ (j : Nat), vi = .int .i64 j ∧ j ≤ 3 ∧ Pls wh w 3 qs gs rs ts i wr) (fun vi _ => 3 - (intOf vi).toNat)
          case atStart => exact ⟨0, rfl, by omega, HP4.out⟩
          case round =>
            rename World => wq
            clear HP4
            obtain ⟨j, rfl, hj, hP⟩ := hrel
            have HP := Lib.hid hP
            clear hP
            rcases Nat.lt_or_ge j 3 with hlt | hge
            · have hj3i : (j : Int) < 3 := by omega
              have lA := HP.out.own.lt
              have lR := HP.out.ref.lt
              have gN := HP.out.gcell hlt
              have rN := HP.out.rcell hlt
              go_upto_region 25 with (fail)
              (refine region_keep (fun b => b = w.heap.size ∨ b = w.heap.size + 1) 6 [(0, true), (1, true), (2, true), (3, true), (4, true), (5, true)] (by kernel_rfl) (fun _ _ d _ _ h => by cases d <;> exact h) (by kernel_rfl) ?_; simp only [withOps, List.getElem?_toArray, List.getElem?_cons_zero, List.getElem?_cons_succ, List.drop_succ_cons, List.drop_zero])
              (repeat (refine keep_quiet (v := ?_) rfl ?_ ?_; rotate_left; (focus (intro w' hw'; go_simp; (try with_reducible rfl); done)); try simp only [Act.put, List.setIfInBounds_toArray, List.set_cons_zero, List.set_cons_succ]))
              (with_reducible refine plan_end ?_)
              (try simp only [Act.put, List.setIfInBounds_toArray, List.set_cons_zero, List.set_cons_succ])
              go_wp2_with fail
              have HPD := Lib.hid (HP.out.next (show Below wq.heap.size wq wq.drew from (Below.refl _ _).drew))
              refine (whole_any (HPD.out.maps j hlt).own (HPD.out.maps j hlt).ref rfl (by have := HP.out.few j hlt; omega)).mono ?_
              rintro en w5 ⟨rfl, hb5⟩
              have HP5 := Lib.hid (HPD.out.next hb5)
              clear hb5 HPD HP gN rN lA lR
              go_wp2_with fail
              go_roundw
              case rel =>
                (repeat apply Exists.intro)
                exact ⟨⟨j + 1, by go_num, by omega, HP5.out⟩, rfl⟩
              case measure => simp [intOf]; omega
            · obtain rfl : j = 3 := by omega
              have HB := Lib.hid HP.out.below
              clear HP
              go_wp2_with fail
              refine (nothing_any (w := wq) (m := none) (.inl rfl)).mono ?_
              rintro en w5 ⟨rfl, hb5⟩
              have HB5 := Lib.hid (bnext HB.out hb5)
              clear hb5
              go_wp2_with fail
              refine (nothing_any (m := some ⟨w5.heap.size, 0, none⟩) (.inr ⟨_, rfl, heap_at rfl⟩)).mono ?_
              rintro en w6 ⟨rfl, hb6⟩
              have HB6 := Lib.hid (bnext HB5.out (bnext (by go_grown) hb6))
              clear hb6
              go_wp2_with fail
              refine (works_any w6).mono ?_
              rintro en w7 ⟨rfl, hb7⟩
              have HB7 := Lib.hid (bnext HB6.out hb7)
              clear hb7
              go_wp2_with fail
              go_returns
              exact ⟨rfl, HB7.out⟩
end Go.Proofs.Ytchmlephgkimcaa
