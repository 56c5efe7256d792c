/- The program's Each: what its closure hands out. -/
import Derived.Test.YtolbmjilcngnhaaDoorRf
import Derived.WalkSpells
import Derived.Test.YtolbmjilcngnhaaDoorFrBackW
set_option linter.unusedSimpArgs false
set_option linter.unusedVariables false
namespace Go.Frm
open Go
/-- The next frame is the next block of those with which bytes begin. -/
theorem heads_next {l : List UInt8} {ps bs : List (UInt8 × List UInt8)} {a b s : Nat} {t : UInt8} {body R : List UInt8} (hn : l.length ≤ 268435456) (h : Heads l ps b s) (hr : rowB bs = l.take a) (ha : a ≤ l.length)
    (hd : l.drop a = frame t body ++ R) : ps.take bs.length = bs ∧ ps[bs.length]? = some (t, body) := by
  have hl : (frame t body).length + R.length = l.length - a := by rw [← List.length_append, ← hd, List.length_drop]
  have h2 : rowB (bs ++ [(t, body)]) = l.take (a + (frame t body).length) := by
    rw [rowB_snoc, hr, List.take_add, hd, List.take_left]
  have key : (∃ ds, ps = (bs ++ [(t, body)]) ++ ds) → ps.take bs.length = bs ∧ ps[bs.length]? = some (t, body) := fun ⟨ds, e⟩ => by
    rw [e, List.append_assoc, List.take_left]
    exact ⟨rfl, by rw [List.getElem?_append_right (Nat.le_refl _), Nat.sub_self]; rfl⟩
  rcases Nat.le_total (a + (frame t body).length) b with hab | hab
  · rcases rowB_next hn h2 h.1 hab h.2.1 with ⟨e, _⟩ | ⟨y, ds, e, _⟩
    · exact key ⟨[], by rw [e, List.append_nil]⟩
    · exact key ⟨y :: ds, e⟩
  · rcases rowB_next hn h.1 h2 hab (by omega) with ⟨e, _⟩ | ⟨y, ds, _, hy, h4, h5⟩
    · exact key ⟨[], by rw [← e, List.append_nil]⟩
    · exfalso
      rcases h.2.2 with ⟨_, h6⟩ | ⟨h6, _, f, e, h7⟩
      · omega
      · exact h6 (look_not hy h4 h7)
end Go.Frm
namespace Go.Proofs.YtolbmjilcngnhaaDoor
open Go.RowKit Go.Kp Go.Shelf
attribute [local go_sem] Oper.semAt_some

set_option maxHeartbeats 1000000 in
theorem Clone_any (g n c : Nat) (l : List UInt8) (w : World) (hl : l.length = n) (hn : n ≤ 1099511627776) (hr : Rd w w.heap.size (some ⟨g, 0, none⟩) (l.map B8)) :
    Calls Tryd.prog 40 #[.slice (some ⟨g, 0, none⟩) n c] w fun e w' => ∃ v, e = .returned v ∧ w'.ownsRow w.heap.size 5 1 v n (l.map B8) ∧ Below w.heap.size w w' := by
  have HL := Lib.hid hl
  have HR := Lib.hid hr
  have hs := fun w0 => Lib.run_eql_slice_nil (P := Tryd.prog) w0 22 5 (some ⟨g, 0, none⟩) n c 0 0 Tryd.underlying22
  clear hl hr
  have HE0 := Lib.hid (show (w.alloc (.cells #[] 5)).ownsRow w.heap.size 5 1 (.slice (some ⟨w.heap.size, 0, none⟩) 0 0) 0 (([] : List UInt8).map B8) from ⟨rfl, .inr ⟨w.heap.size, 0, #[], rfl, Nat.le_refl _, heap_at rfl, Nat.le_refl _, by unfold maxLen; omega, rfl, rfl⟩⟩)
  have HE1 := Lib.hid (show Own w.heap.size w (w.alloc (.cells #[] 5)) (.slice (some ⟨w.heap.size, 0, none⟩) 0 0) (.slice (some ⟨w.heap.size, 0, none⟩) 0 0) from ⟨by go_grown, fun x hx _ => heap_old hx, .inl rfl⟩)
  go_enter Tryd.func40, Tryd.ntmps40
  go_upto_region 3 with (fail)
  apply wp_region_lit
  iterate 2 (go_step; go_step; rename_i KK hKK; (with_reducible refine hKK _ _ ?_); clear hKK KK)
  (with_reducible refine append_own (w0 := w) ?_ (.tmp 5) (.tmp 6) ?_ w.heap.size (.slice (some ⟨w.heap.size, 0, none⟩) 0 0) (.slice (some ⟨w.heap.size, 0, none⟩) 0 0) 0 [] ?_ HE0.out (some ⟨g, 0, none⟩) n c l ?_ (fun h => by cases h) HL.out ((HR.out.below (by go_grown)).more (by simp)) ?_ (Nat.le_refl _) HE1.out ?_)
  · rfl
  · rfl
  · rfl
  · rfl
  · omega
  intro v2 w2 ho2 hg2
  rw [Nat.zero_add, List.nil_append] at ho2
  have HO2 := Lib.hid ho2
  have hB2 := hg2.1
  clear ho2 hg2
  go_wp2_with fail
  go_returns
  exact ⟨_, rfl, HO2.out, hB2⟩

set_option maxHeartbeats 1000000 in
theorem Each_any (g n c : Nat) (l : List UInt8) (w : World) (hl : l.length = n) (hn : n ≤ 1099511627776) (hr : Rd w w.heap.size (some ⟨g, 0, none⟩) (l.map B8)) :
    Calls Tryd.prog 30 #[.slice (some ⟨g, 0, none⟩) n c] w fun e w' => ∃ v, e = .returned (.func (.func 41) #[] #[.pointer (some ⟨w.heap.size, 0, none⟩)]) ∧ Blk w' w.heap.size 22 #[v] ∧ w'.ownsRow (w.heap.size + 1) 5 1 v n (l.map B8) ∧ Below w.heap.size w w' := by
  have HL := Lib.hid hl
  have HR := Lib.hid hr
  clear hl hr
  go_enter Tryd.func30, Tryd.ntmps30
  go_wp2_with fail
  refine (Clone_any g n c l _ HL.out hn ((HR.out.below (by go_grown)).more (by simp))).mono ?_
  rintro en w1 ⟨v, rfl, ho, hb⟩
  rw [World.size_alloc] at ho
  have A1 : Blk w1 w.heap.size 22 #[.slice (some ⟨g, 0, none⟩) n c] := Blk.below (heap_at rfl) hb
  have hB := bnext (show Below w.heap.size w (w.alloc (.cells #[.slice (some ⟨g, 0, none⟩) n c] 22)) by go_grown) hb
  obtain ⟨a1, c1, rfl, _⟩ := own_slice ho
  have HO := Lib.hid ho
  have lA := A1.lt
  have cA := A1.cell
  have fA := A1.free
  clear hb ho
  go_wp2_with fail
  go_returns
  refine ⟨_, rfl, ?_, owns_keep HO.out (fun x hx _ => ?_), hB.trans (by go_grown)⟩
  · unfold Blk at A1; simp (disch := (first | omega | (simp only [World.size_alloc, World.size_setCell, World.size_drew] <;> omega) | fail)) only [Blk, heap_old, heap_at, heap_set_same, heap_set_ne, heap_drew', Option.map_some, putO_cells, A1]; rfl
  · rw [heap_set_ne _ _ _ _ _ (by omega)]

theorem rd_block {w w' : World} {B : Nat} {a : Option Addr} {ys : List Value} (h : Rd w B a ys) (hk : ∀ g off, a = some ⟨g, off, none⟩ → w'.heap[g]? = w.heap[g]?) : Rd w' B a ys := by
  rcases h with h | ⟨b, off, h1, h2, h3⟩
  · exact .inl h
  · exact .inr ⟨b, off, h1, h2, fun j u hu => (World.cell?_of_block (a := ⟨b, off + j, none⟩) (hk b off h1)).trans (h3 j u hu)⟩
theorem tab_block {w w' : World} (h : Tab w) (hs : w.heap.size ≤ w'.heap.size) (hk : w'.heap[0]? = w.heap[0]?) : Tab w' :=
  ⟨Nat.lt_of_lt_of_le h.1 hs, fun i n hi => (World.cell?_of_block (a := ⟨0, i, none⟩) hk).trans (h.2 i n hi)⟩

/-- An event: a place and a block. -/
abbrev Ev := Nat × Bk
def EvT (l : List UInt8) (B0 : Nat) (pre : List Ev) (x : Ev) (Pv : Nat → Prop) (W : World) : Prop :=
  Frm.rowB (pre.map fun e => e.2.pair) = l.take x.1 ∧ x.1 ≤ l.length ∧ x.2.l.length ≤ 268435456 ∧ (∃ R, l.drop x.1 = Frm.frame x.2.t x.2.l ++ R) ∧ W.ownsRow B0 5 1 x.2.v x.2.l.length (x.2.l.map B8) ∧ (∀ g, x.2.v.ownBlock = some g → ¬ Pv g) ∧ ∀ k, Pv k → k < W.heap.size
def EvS (l : List UInt8) (xs : List Ev) : Prop := ∃ a s, Frm.Heads l (xs.map fun e => e.2.pair) a s
def evArgs (e : Ev) : Array Value := #[.int .i64 e.1, .agg #[B8 e.2.t, e.2.v]]

set_option maxHeartbeats 4000000 in
theorem each_seq (m : Nat) (bb : Nat) (ab : Option Addr) (n cb : Nat) (l : List UInt8) (B0 : Nat) (Ro : Nat → Prop) (W : World) (hT : Tab W) (hA : Blk W bb 22 #[.slice ab n cb]) (hl : l.length = n) (hn : n ≤ 268435456) (hc : n ≤ cb) (hcm : cb ≤ maxLen)
    (hr : Rd W W.heap.size ab (l.map B8)) (h0 : Ro 0) (hb : Ro bb) (hab : ∀ g off, ab = some ⟨g, off, none⟩ → l ≠ [] → Ro g) (hB0 : B0 ≤ W.heap.size) (hRs : ∀ k, Ro k → k < W.heap.size) :
    SeqM Fence.wide m Tryd.prog 41 #[.pointer (some ⟨bb, 0, none⟩)] evArgs (EvT l B0) (EvS l) (fun _ => True) (fun _ => False) Ro W := by
  intro rl J Jx hJ hJx hY hJ0
  have HY := Lib.hid hY
  have HT := Lib.hid hT
  have HA := Lib.hid hA
  have HL := Lib.hid hl
  have HR := Lib.hid hr
  have HCM := Lib.hid hcm
  have HJ := Lib.hid hJ
  have hcm2 : cb ≤ 9223372036854775807 := hcm
  clear hY hT hA hl hr hcm hJ
  refine callsIn_of_wp Tryd.func41 rfl trivial ?_ rfl
  simp only [Tryd.ntmps41, List.size_toArray, List.length_cons, List.length_nil, Nat.reduceAdd, Nat.reduceSub, Array.replicate_succ, Array.replicate_zero, List.push_toArray, List.append_toArray, List.nil_append, List.cons_append]
  gi_wp2
  gi_loopw [3] (fun i wr => ∃ (k : Nat) (pre : List Ev), i = .int .i64 k ∧ k ≤ n ∧ Frm.rowB (pre.map fun e => e.2.pair) = l.take k ∧ J pre (fun _ => False) wr ∧ W.heap.size ≤ wr.heap.size ∧ ∀ b : Nat, Ro b → wr.heap[b]? = W.heap[b]?) (fun i _ => n - (intOf i).toNat)
  case atStart => exact ⟨0, [], rfl, Nat.zero_le _, rfl, hJ0, Nat.le_refl _, fun _ _ => rfl⟩
  case round =>
    clear hJ0
    obtain ⟨k, pre, rfl, hk, hrow, hj, hs, hro⟩ := hrel
    have HRow := Lib.hid hrow
    have HJr := Lib.hid hj
    have HRo := Lib.hid hro
    have A1 : Blk wr bb 22 #[.slice ab n cb] := (hro bb hb).trans HA.out
    have c1 : wr.cell? ⟨bb, 0, none⟩ = some (.slice ab n cb) := A1.cell 0
    have HTr := Lib.hid (tab_block HT.out hs (hro 0 h0))
    have HRr := Lib.hid (show Rd wr W.heap.size ab (l.map B8) by
      by_cases hl0 : l = []
      · exact .inl (by rw [hl0]; rfl)
      · exact rd_block HR.out (fun g off e => hro g (hab g off e hl0)))
    clear hrow hj hro
    rcases Nat.lt_or_ge k n with hlt | hge
    · obtain ⟨b, off, rfl⟩ : ∃ b off, ab = some ⟨b, off, none⟩ := by
        rcases HR.out with h | ⟨b, off, h, _⟩
        · have := HL.out
          rw [List.map_eq_nil_iff.1 h] at this
          simp at this; omega
        · exact ⟨b, off, h⟩
      have hdl : (l.drop k).length = n - k := by rw [List.length_drop, HL.out]
      obtain ⟨t, r, htr⟩ : ∃ t r, l.drop k = t :: r := by
        match hh : l.drop k with
        | [] => rw [hh] at hdl; simp at hdl; omega
        | t :: r => exact ⟨t, r, rfl⟩
      have HRd := Lib.hid (show Rd wr W.heap.size (some ⟨b, off + k, none⟩) ((t :: r).map B8) by rw [← htr]; exact Rd.drop HRr.out k)
      rw [htr] at hdl
      have HDL := Lib.hid hdl
      have HTR := Lib.hid htr
      have hck : ¬ cb = k := by omega
      clear hdl htr
      obtain ⟨f, e, s, hlk⟩ : ∃ f e s, Frm.look (t :: r) = (f, e, s) := ⟨_, _, _, rfl⟩
      rcases Decidable.em (s = 0) with hs0 | hs0
      · subst hs0
        obtain ⟨body, rest, i1, i2, i3, i4, i5⟩ := Frm.look_inv t r f e hlk
        have HLK := Lib.hid hlk
        have HI1 := Lib.hid i1
        have HI2 := Lib.hid i2
        have HI3 := Lib.hid i3
        have HI4 := Lib.hid i4
        have HI5 := Lib.hid i5
        have hen : k + (e + 4) ≤ n := by
          have h1 := HDL.out
          rw [HI1.out, List.length_append, ← HI4.out] at h1
          omega
        clear hlk i1 i2 i3 i4 i5
        gi_wp2_with fail
        refine ⟨trivial, fun h => (by cases h), (callsIn_wide.2 (Read_ok (some ⟨b, off + k, none⟩) (n - k) (cb - k) t r f e _ HTr.out HDL.out (by omega) (by omega) (by have := HCM.out; omega) (HRd.out.more hs) HLK.out)).mono ?_⟩
        rintro en w1 ⟨v1, rfl, ho1, hb1⟩
        rw [HI3.out] at ho1
        have ho1' : w1.ownsRow wr.heap.size 5 1 v1 body.length (body.map B8) := by rw [HI5.out]; exact ho1
        have hj1 := HJ.out pre (fun _ => False) (fun _ => False) wr (w1.alloc (.cells #[B8 t, v1] 35)) HJr.out ((Fr.next hb1).alloc _) (fun _ h => h.elim)
        have hT1 : EvT l B0 pre (k, ⟨t, v1, body⟩) (fun _ => False) (w1.alloc (.cells #[B8 t, v1] 35)) :=
          ⟨HRow.out, by rw [HL.out]; exact hk, HI2.out, ⟨rest, by rw [HTR.out]; exact HI1.out⟩, owns_mono (ho1'.alloc _) (Nat.le_trans hB0 hs), (fun _ _ h => h.elim), fun _ h => h.elim⟩
        obtain ⟨fn, tmps, assign, bodyc, hy, hRd⟩ := HY.out pre (k, ⟨t, v1, body⟩) _ _ hj1 hT1
        have HRD := Lib.hid hRd
        have HRo1 := Lib.hid (show ∀ x : Nat, Ro x → (w1.alloc (.cells #[B8 t, v1] 35)).heap[x]? = W.heap[x]? from fun x hx => by
          have h1 := HRo.out x hx
          have h2 := Nat.lt_of_lt_of_le (hRs x hx) hs
          exact ((heap_old (Nat.lt_of_lt_of_le h2 hb1.size)).trans (hb1.block x h2)).trans h1)
        have s1 := hb1.size
        obtain ⟨a1, cc1, rfl, _⟩ := own_slice ho1
        dsimp only [evArgs] at hy
        clear ho1 ho1' hj1 hT1 hRd hb1 c1 A1
        gi_wp2_with fail
        refine ⟨fun h => (by cases h), HRD.out.mono ?_⟩
        rintro en w2 (⟨rfl, hj2, hk2⟩ | ⟨rfl, hjx⟩)
        · have HJ2 := Lib.hid hj2
          have s2 := hk2.1
          rw [World.size_alloc] at s2
          have HRo2 := Lib.hid (show ∀ x : Nat, Ro x → w2.heap[x]? = W.heap[x]? from fun x hx => (hk2.2 x (.inr hx)).trans (HRo1.out x hx))
          have HR3 := Lib.hid (show Frm.rowB ((pre ++ [((k, ⟨t, .slice a1 (e - f) cc1, body⟩) : Ev)]).map fun e => e.2.pair) = l.take (k + (e + 4)) by
            rw [List.map_append, HI4.out]
            exact row_next l k _ (t, body) rest HRow.out (by rw [HTR.out]; exact HI1.out))
          have hke : (k : Int) + ((e + 4 : Nat) : Int) = ((k + (e + 4) : Nat) : Int) := by omega
          clear hj2 hk2 hy
          gi_wp2_with fail
          go_roundw
          case rel => exact ⟨k + (e + 4), _, by go_num, hen, HR3.out, HJ2.out, by omega, HRo2.out⟩
          case measure => simp [intOf]; omega
        · have HJX := Lib.hid hjx
          clear hjx hy
          gi_wp2_with fail
          refine bodyPost_ret (results_none rfl _ _ _) rfl ⟨⟨_, rfl⟩, .inr ⟨_, _, trivial, HJX.out⟩⟩
      · have hs' : ((s : Int) != 0) = true := by simp; omega
        have HLK := Lib.hid hlk
        clear hlk
        gi_wp2_with fail
        refine ⟨trivial, fun h => (by cases h), (callsIn_wide.2 (Read_err (some ⟨b, off + k, none⟩) (n - k) (cb - k) (t :: r) f e s _ HTr.out HDL.out (by omega) (by omega) (by have := HCM.out; omega) (HRd.out.more hs) HLK.out hs0)).mono ?_⟩
        rintro en w1 ⟨rfl, hb1⟩
        have hj1 := HJ.out pre (fun _ => False) (fun _ => False) wr _ HJr.out ((Fr.next hb1).alloc (.cells #[.int .u8 0, .slice none 0 0] 35)) (fun _ h => h.elim)
        clear c1 A1
        gi_wp2_with fail
        refine ⟨fun f h => (by cases h), ?_⟩
        go_at_K
        gi_wp2_with fail
        refine bodyPost_ret (results_none rfl _ _ _) rfl ⟨⟨_, rfl⟩, .inl ⟨pre, _, ⟨k, s, HRow.out, by rw [HL.out]; exact hk, .inr ⟨hs0, by rw [HL.out]; exact hlt, f, e, by rw [HTR.out]; exact HLK.out⟩⟩, hj1⟩⟩
    · obtain rfl : k = n := by omega
      gi_wp2_with fail
      go_end0
      exact ⟨⟨_, rfl⟩, .inl ⟨pre, _, ⟨k, 0, HRow.out, by rw [HL.out]; exact Nat.le_refl _, .inl ⟨rfl, HL.out.symm⟩⟩, HJr.out⟩⟩
end Go.Proofs.YtolbmjilcngnhaaDoor
