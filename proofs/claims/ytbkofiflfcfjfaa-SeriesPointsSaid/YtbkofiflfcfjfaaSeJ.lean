/- Series: tones, of both. -/
import Derived.Test.YtbkofiflfcfjfaaSeI
import Derived.Laws.Cover3
set_option linter.unusedSimpArgs false
set_option linter.unusedVariables false
namespace Go.Proofs.Ytbkofiflfcfjfaa
open Go.RowKit Go.Kp Go.Ser

/-- Returned: a tone's two parts. -/
def CxR (R : Nat → Nat → Prop) (w : World) (e : Ending) (w' : World) : Prop := ∃ u v, R u v ∧ e = .returned (.complex .f64 u v) ∧ Below w.heap.size w w'
def TwoR (R : Nat → Nat → Prop) (w : World) (e : Ending) (w' : World) : Prop := ∃ u v, R u v ∧ e = .returned (.tuple #[.float .f64 u, .float .f64 v]) ∧ Below w.heap.size w w'

set_option maxHeartbeats 2000000 in
theorem tone_any (a : Option Addr) (n cap x y : Nat) (l : List Nat) (w : World) (hl : l.length = n) (hn : n ≤ 1048576) (hr : Rd w w.heap.size a (fl l)) :
    Calls Try.prog 24 #[.slice a n cap, .complex .f64 x y] w (CxR (ToneR x y l) w) := by
  obtain ⟨hnp⟩ : Nonempty (n ≤ 4611686018427387904) := ⟨by omega⟩
  have HL := Lib.hid hl
  have HR := Lib.hid hr
  clear hl hr
  go_enter Try.func24, Try.ntmps24
  go_wp2
  go_loopw [5, 6, 9] (fun a b i wr => ∃ k u v : Nat, k ≤ n ∧ i = .int .i64 ((k : Int) - 1) ∧ a = .float .f64 u ∧ b = .float .f64 v ∧ ToneR x y (l.drop k) u v ∧ Below w.heap.size w wr) (fun _ _ i _ => (intOf i + 1).toNat)
  case atStart => exact ⟨n, 0, 0, Nat.le_refl _, by go_num, rfl, rfl, by rw [List.drop_eq_nil_of_le (by rw [HL.out]; omega)]; exact ⟨rfl, rfl⟩, by go_grown⟩
  case round =>
    obtain ⟨k, u, v, hk, hi, rfl, rfl, hT, hB⟩ := hrel
    have HT := Lib.hid hT
    clear hT
    cases k with
    | zero =>
      obtain rfl : u9 = .int .i64 (-1) := by rw [hi]; rfl
      clear hi
      go_wp2
      go_returns
      exact ⟨u, v, by simpa using HT.out, rfl, hB⟩
    | succ j =>
      obtain rfl : u9 = .int .i64 (j : Int) := by rw [hi]; congr 1; omega
      clear hi
      rcases HR.out with hr | ⟨b, off, rfl, hb, hc⟩
      · exact absurd hr (fl_ne HL.out (by omega))
      obtain ⟨z, hz⟩ := some_at HL.out (show j < n by omega)
      have e := fl_at hb hB hc hz
      have HZ := Lib.hid hz
      clear hz hc
      obtain ⟨p1, w1, r1, s1, t1⟩ := mul_any wr u x
      obtain ⟨p2, w2, r2, s2, t2⟩ := mul_any w1 v y
      obtain ⟨p3, w3, r3, s3, t3⟩ := sub_any w2 p1 p2
      obtain ⟨p4, w4, r4, s4, t4⟩ := mul_any w3 u y
      obtain ⟨p5, w5, r5, s5, t5⟩ := mul_any w4 v x
      obtain ⟨p6, w6, r6, s6, t6⟩ := add_any w5 p4 p5
      have e6 := t6.out.cell (t5.out.cell (t4.out.cell (t3.out.cell (t2.out.cell (t1.out.cell e)))))
      clear e
      obtain ⟨p7, w7, r7, s7, t7⟩ := add_any w6 p3 z
      have HB := Lib.hid (((((((hB.trans (t1.out.below _)).trans (t2.out.below _)).trans (t3.out.below _)).trans (t4.out.below _)).trans (t5.out.below _)).trans (t6.out.below _)).trans (t7.out.below _))
      go_wp2
      go_roundw
      case rel => exact ⟨j, p7, p6, by omega, by go_num, rfl, rfl, ToneR.step HZ.out HT.out ⟨p1, p2, p4, p5, p3, s1.out, s2.out, s4.out, s5.out, s3.out, s7.out, s6.out⟩, HB.out⟩
      case measure => simp [intOf]

set_option maxHeartbeats 2000000 in
theorem refTone_any (a : Option Addr) (n cap x y : Nat) (l : List Nat) (w : World) (hl : l.length = n) (hn : n ≤ 1048576) (hr : Rd w w.heap.size a (fl l)) :
    Calls Try.prog 23 #[.slice a n cap, .float .f64 x, .float .f64 y] w (TwoR (ToneR x y l) w) := by
  obtain ⟨hnp⟩ : Nonempty (n ≤ 4611686018427387904) := ⟨by omega⟩
  have HL := Lib.hid hl
  have HR := Lib.hid hr
  clear hl hr
  go_enter Try.func23, Try.ntmps23
  go_wp2
  go_loopw [8, 9, 10] (fun a b i wr => ∃ k u v : Nat, k ≤ n ∧ i = .int .i64 ((k : Int) - 1) ∧ a = .float .f64 u ∧ b = .float .f64 v ∧ ToneR x y (l.drop k) u v ∧ Below w.heap.size w wr) (fun _ _ i _ => (intOf i + 1).toNat)
  case atStart => exact ⟨n, 0, 0, Nat.le_refl _, by go_num, rfl, rfl, by rw [List.drop_eq_nil_of_le (by rw [HL.out]; omega)]; exact ⟨rfl, rfl⟩, by go_grown⟩
  case round =>
    obtain ⟨k, u, v, hk, hi, rfl, rfl, hT, hB⟩ := hrel
    have HT := Lib.hid hT
    clear hT
    cases k with
    | zero =>
      obtain rfl : u10 = .int .i64 (-1) := by rw [hi]; rfl
      clear hi
      go_wp2
      refine bodyPost_ret (v := .tuple #[.float .f64 u, .float .f64 v]) (by simp [results, Try.results23, go_sem]; done) rfl ⟨u, v, by simpa using HT.out, rfl, hB⟩
    | succ j =>
      obtain rfl : u10 = .int .i64 (j : Int) := by rw [hi]; congr 1; omega
      clear hi
      rcases HR.out with hr | ⟨b, off, rfl, hb, hc⟩
      · exact absurd hr (fl_ne HL.out (by omega))
      obtain ⟨z, hz⟩ := some_at HL.out (show j < n by omega)
      have e := fl_at hb hB hc hz
      have HZ := Lib.hid hz
      clear hz hc
      obtain ⟨p1, w1, r1, s1, t1⟩ := mul_any wr u x
      obtain ⟨p2, w2, r2, s2, t2⟩ := mul_any w1 v y
      obtain ⟨p4, w4, r4, s4, t4⟩ := mul_any w2 u y
      obtain ⟨p5, w5, r5, s5, t5⟩ := mul_any w4 v x
      obtain ⟨p3, w3, r3, s3, t3⟩ := sub_any w5 p1 p2
      have e6 := t3.out.cell (t5.out.cell (t4.out.cell (t2.out.cell (t1.out.cell e))))
      clear e
      obtain ⟨p7, w7, r7, s7, t7⟩ := add_any w3 p3 z
      obtain ⟨p6, w6, r6, s6, t6⟩ := add_any w7 p4 p5
      have HB := Lib.hid (((((((hB.trans (t1.out.below _)).trans (t2.out.below _)).trans (t4.out.below _)).trans (t5.out.below _)).trans (t3.out.below _)).trans (t7.out.below _)).trans (t6.out.below _))
      go_wp2
      go_roundw
      case rel => exact ⟨j, p7, p6, by omega, by go_num, rfl, rfl, ToneR.step HZ.out HT.out ⟨p1, p2, p4, p5, p3, s1.out, s2.out, s4.out, s5.out, s3.out, s7.out, s6.out⟩, HB.out⟩
      case measure => simp [intOf]

/-- Complex numbers, one behind the other. -/
abbrev cxs (l : List (Nat × Nat)) : List Value := l.map fun p => Value.complex .f64 p.1 p.2
theorem infoC : (Try.prog.info? 64).map (fun i => (i.zero, i.size, i.bytes)) = some (some (.complex .f64 0 0), 1, 16) := by kernel_rfl
theorem append_cx {w : World} {ops : Array Oper} {rest : List Oper} {o : Oper} {a : Act} {Q : Exit → Act → World → Prop} (hgd : o.guard = none) (s x : Operand)
    (ho : o.op = .call { callee := .builtin .append, args := #[s, x], argTypes := #[63, 63] })
    (base : Nat) (v : Value) (n : Nat) (xs : List (Nat × Nat)) (hs : a.eval s = v) (hown : w.ownsRow base 64 1 v n (cxs xs))
    (g c : Nat) (y : Nat × Nat) (hx : a.eval x = .slice (some ⟨g, 0, none⟩) 1 c) (hcell : w.cell? ⟨g, 0, none⟩ = some (.complex .f64 y.1 y.2)) (hn : n + 1 ≤ 1048576) (hbase : base ≤ w.heap.size)
    (h : ∀ v' w', Hid (w'.ownsRow base 64 1 v' (n + 1) (cxs (xs ++ [y]))) → Below base w w' → wpList Try.prog ops Q rest (a.put o.dst v') w') :
    wpList Try.prog ops Q (o :: rest) a w :=
  append_thing hgd s x 63 64 (.complex .f64 0 0) 1 16 ho Try.underlying63 infoC rfl (by omega) base v n (cxs xs) hs hown g c hx [.complex .f64 y.1 y.2] rfl
    (fun j u hu => by
      match j, hu with
      | 0, hu => simp at hu; subst hu; exact hcell)
    (fun u hu => by simp at hu; subst hu; rfl) (by omega) (by omega) hbase
    (fun v' w' k1 k2 => h v' w' (by rw [cxs, List.map_append]; exact k1) k2)

set_option maxHeartbeats 2000000 in
theorem tones_any (a a' : Option Addr) (n cap m cap' : Nat) (l : List Nat) (zs : List (Nat × Nat)) (w : World) (hl : l.length = n) (hn : n ≤ 1048576) (hz : zs.length = m) (hm : m ≤ 1048575) (hr : Rd w w.heap.size a (fl l)) (hr' : Rd w w.heap.size a' (cxs zs)) :
    Calls Try.prog 22 #[.slice a n cap, .slice a' m cap'] w fun e w' => ∃ v os, e = .returned v ∧ os.length = m ∧ (∀ (i : Nat) z o, zs[i]? = some z → os[i]? = some o → ToneR z.1 z.2 l o.1 o.2) ∧ w'.ownsRow w.heap.size 64 1 v m (cxs os) ∧ Below w.heap.size w w' := by
  obtain ⟨hnp⟩ : Nonempty (m ≤ 4611686018427387904) := ⟨by omega⟩
  have HL := Lib.hid hl
  have HR := Lib.hid hr
  have HZ := Lib.hid hz
  have HR' := Lib.hid hr'
  clear hl hr hz hr'
  go_enter Try.func22, Try.ntmps22
  go_wp2
  go_loopw [5, 10] (fun x i wr => ∃ k : Nat, ∃ os : List (Nat × Nat), k ≤ m ∧ i = .int .i64 k ∧ os.length = k ∧ (∀ (i : Nat) z o, zs[i]? = some z → os[i]? = some o → ToneR z.1 z.2 l o.1 o.2) ∧ wr.ownsRow w.heap.size 64 1 x k (cxs os) ∧ Below w.heap.size w wr) (fun _ i _ => m - (intOf i).toNat)
  case atStart => exact ⟨0, [], Nat.zero_le _, rfl, rfl, fun i z o _ h => by simp at h, World.ownsRow_nil _ _ _ _, by go_grown⟩
  case round =>
    obtain ⟨k, os, hk, rfl, hol, hT, hO, hB⟩ := hrel
    have HT := Lib.hid hT
    have HO := Lib.hid hO
    have HOL := Lib.hid hol
    clear hT hO hol
    have hsz := hB.size
    rcases Nat.lt_or_ge k m with hlt | hge
    · rcases HR'.out with hr | ⟨b, off, rfl, hb, hc⟩
      · have := HZ.out; rw [List.map_eq_nil_iff.1 hr] at this; simp at this; omega
      obtain ⟨z, hz⟩ : ∃ z, zs[k]? = some z := ⟨_, List.getElem?_eq_getElem (by rw [HZ.out]; exact hlt)⟩
      have e : wr.cell? ⟨b, off + k, none⟩ = some (.complex .f64 z.1 z.2) := (hB.cell (p := ⟨b, off + k, none⟩) hb).trans (hc k _ (by rw [List.getElem?_map, hz]; rfl))
      have HK := Lib.hid hz
      clear hz hc
      have HR1 := Lib.hid ((HR.out.below hB).more hB.size)
      go_wp2_with fail
      refine (tone_any _ n _ _ _ l _ HL.out hn HR1.out).mono ?_
      rintro en w1 ⟨u, v, hT1, rfl, hb1⟩
      have HT1 := Lib.hid hT1
      have HB1 := bnext hB hb1
      have HO1 := Lib.hid (owns_keep HO.out fun g _ hg => hb1.block g hg)
      have hs1 := HB1.size
      clear hT1 hb1
      dsimp only
      rename_i KK hKK
      (with_reducible refine hKK _ _ ?_)
      clear hKK KK
      go_step; go_step; rename_i KK hKK; (with_reducible refine hKK _ _ ?_); clear hKK KK
      (with_reducible refine append_cx ?_ (.tmp 14) (.tmp 18) ?_ w.heap.size u5 k os ?_ ?_ w1.heap.size 1 (u, v) ?_ ?_ ?_ ?_ ?_)
      · rfl
      · rfl
      · rfl
      · exact HO1.out.alloc _
      · rfl
      · rw [cell_of_row _ _ _ _ _ _ (heap_at rfl)]; rfl
      · omega
      · simp; omega
      intro v1 w5 ho hb5
      have HB5 : Below w.heap.size w w5 := (show Below w.heap.size w (w1.alloc (Obj.cells #[.complex .f64 u v] 64)) by go_grown).trans hb5
      clear hb5
      go_wp2_with fail
      go_roundw
      case rel =>
        refine ⟨k + 1, os ++ [(u, v)], by omega, by go_num, by simp [HOL.out], fun i z' o hz ho => ?_, ho, HB5⟩
        rcases Nat.lt_trichotomy i os.length with hi | rfl | hi
        · rw [List.getElem?_append_left hi] at ho
          exact HT.out i z' o hz ho
        · rw [HOL.out, HK.out] at hz
          simp at ho
          cases hz; subst ho
          exact HT1.out
        · rw [List.getElem?_eq_none (by simp; omega)] at ho; cases ho
      case measure => simp [intOf]; omega
    · obtain rfl : k = m := by omega
      go_wp2
      go_returns
      exact ⟨_, os, rfl, HOL.out, HT.out, HO.out, hB⟩
end Go.Proofs.Ytbkofiflfcfjfaa
