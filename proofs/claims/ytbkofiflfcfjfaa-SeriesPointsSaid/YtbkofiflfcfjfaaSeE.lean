/- Series: means that move along, of both. -/
import Derived.Test.YtbkofiflfcfjfaaSeD
set_option linter.unusedSimpArgs false
set_option linter.unusedVariables false
namespace Go.Proofs.Ytbkofiflfcfjfaa
open Go.RowKit Go.Kp Go.Ser

/-- Returned: a new row of so many numbers of which R holds, and an error's number. -/
def RowE (R : List Nat → Prop) (m : Nat) (k : Int) (w : World) (e : Ending) (w' : World) : Prop := ∃ v o, e = .returned (.tuple #[v, .int .i64 k]) ∧ o.length = m ∧ R o ∧ w'.ownsRow w.heap.size 25 1 v m (fl o) ∧ Below w.heap.size w w'
theorem RowE.none {R : List Nat → Prop} {k : Int} {w w' : World} {e : Ending} (he : e = .returned (.tuple #[.slice none 0 0, .int .i64 k])) (h : R []) (hb : Below w.heap.size w w') : RowE R 0 k w e w' :=
  ⟨_, [], he, rfl, h, World.ownsRow_nil _ _ _ _, hb⟩

/-- A part of a row. -/
theorem rd_part {w wr : World} {b off k m : Nat} {l : List Nat} (hb : b < w.heap.size) (hB : Below w.heap.size w wr) (hc : ∀ (j : Nat) u, (fl l)[j]? = some u → w.cell? ⟨b, off + j, none⟩ = some u) : Rd wr wr.heap.size (some ⟨b, off + k, none⟩) (fl ((l.drop k).take m)) := by
  refine .inr ⟨b, off + k, rfl, Nat.lt_of_lt_of_le hb hB.size, fun j u hu => ?_⟩
  rw [(hB.cell (p := ⟨b, off + k + j, none⟩) hb), Nat.add_assoc]
  refine hc (k + j) u ?_
  have hj : j < m := by have := (List.getElem?_eq_some_iff.1 hu).1; simp at this; omega
  rw [List.getElem?_map, List.getElem?_take_of_lt hj, List.getElem?_drop] at hu
  rw [List.getElem?_map]; exact hu

theorem moving_bad (a : Option Addr) (n cap : Nat) (W : Int) (l : List Nat) (w : World) (hW : W < 1) :
    Calls Try.prog 30 #[.slice a n cap, .int .i64 W] w (RowE (MovR l W.toNat) 0 2 w) := by
  go_enter Try.func30, Try.ntmps30
  go_wp2
  refine bodyPost_ret (v := .tuple #[.slice none 0 0, .int .i64 2]) (by simp [results, Try.results30, go_sem]; done) rfl (RowE.none rfl MovR.nil (by go_grown))
theorem refMoving_bad (a : Option Addr) (n cap : Nat) (W : Int) (l : List Nat) (w : World) (hW : W < 1) :
    Calls Try.prog 31 #[.slice a n cap, .int .i64 W] w (RowE (MovR l W.toNat) 0 2 w) := by
  go_enter Try.func31, Try.ntmps31
  go_wp2
  refine bodyPost_ret (v := .tuple #[.slice none 0 0, .int .i64 2]) (by simp [results, Try.results31, go_sem]; done) rfl (RowE.none rfl MovR.nil (by go_grown))

set_option maxHeartbeats 2000000 in
theorem moving_ok (a : Option Addr) (n cap W : Nat) (l : List Nat) (w : World) (hl : l.length = n) (hn : n ≤ 1048576) (hcap : n ≤ cap) (hW : 1 ≤ W) (hW2 : W ≤ 9223372036854775807) (hr : Rd w w.heap.size a (fl l)) :
    Calls Try.prog 30 #[.slice a n cap, .int .i64 W] w (RowE (MovR l W) (n + 1 - W) 0 w) := by
  have hW1 : ¬ (W : Int) < 1 := by omega
  rcases Nat.lt_or_ge n W with hlt | hge
  · have e : n + 1 - W = 0 := by omega
    rw [e]
    clear e hl hr
    go_enter Try.func30, Try.ntmps30
    go_wp2
    go_rounds 1
    refine bodyPost_ret (v := .tuple #[.slice none 0 0, .int .i64 0]) (by simp [results, Try.results30, go_sem]; done) rfl (RowE.none rfl MovR.nil (by go_grown))
  · rcases hr with hr | ⟨b, off, rfl, hb, hc⟩
    · exact absurd hr (fl_ne hl (by omega))
    have HC := Lib.hid hc
    have HL := Lib.hid hl
    clear hc hl hW2
    go_enter Try.func30, Try.ntmps30
    go_wp2
    go_loopw [6, 7] (fun v i wr => ∃ k : Nat, ∃ o : List Nat, W + k ≤ n + 1 ∧ i = .int .i64 ((W : Int) + k) ∧ o.length = k ∧ MovR l W o ∧ wr.ownsRow w.heap.size 25 1 v k (fl o) ∧ Below w.heap.size w wr) (fun _ i _ => n + 1 - (intOf i).toNat)
    case atStart => exact ⟨0, [], by omega, by go_num, rfl, MovR.nil, World.ownsRow_nil _ _ _ _, by go_grown⟩
    case round =>
      obtain ⟨k, o, hk, rfl, hol, hM, hO, hB⟩ := hrel
      have HO := Lib.hid hO
      have HM := Lib.hid hM
      have HOL := Lib.hid hol
      clear hO hM hol
      have hsz := hB.size
      rcases Nat.lt_or_ge n (W + k) with hgt | hle
      · obtain ⟨hkn⟩ : Nonempty (n + 1 - W = k) := ⟨by omega⟩
        have HK := Lib.hid hkn
        clear hkn
        go_wp2_with fail
        refine bodyPost_ret (v := .tuple #[u6, .int .i64 0]) (by simp [results, Try.results30, go_sem]; done) rfl ⟨u6, o, rfl, by rw [HK.out]; exact HOL.out, HM.out, by rw [HK.out]; exact HO.out, hB⟩
      · have HRd := Lib.hid (rd_part (k := k) (m := W) hb hB HC.out)
        have HLen : Hid (((l.drop k).take W).length = W) := Lib.hid (by simp [HL.out]; omega)
        go_wp2_with fail
        refine (mean_any _ W _ ((l.drop k).take W) _ HLen.out (by omega) HRd.out).mono ?_
        rintro en w1 ⟨r, hr, rfl, hb1⟩
        have HR := Lib.hid hr
        have HB1 := bnext hB hb1
        have HO1 := Lib.hid (owns_keep HO.out fun g _ hg => hb1.block g hg)
        have hs1 := HB1.size
        clear hr hb1
        dsimp only
        rename_i KK hKK
        (with_reducible refine hKK _ _ ?_)
        clear hKK KK
        go_step; go_step; rename_i KK hKK; (with_reducible refine hKK _ _ ?_); clear hKK KK
        (with_reducible refine append_fl ?_ (.tmp 17) (.tmp 25) ?_ w.heap.size u6 k o ?_ ?_ w1.heap.size r 1 ?_ ?_ ?_ ?_ ?_)
        · rfl
        · rfl
        · rfl
        · exact HO1.out.alloc _
        · rfl
        · rw [cell_of_row _ _ _ _ _ _ (heap_at rfl)]; rfl
        · omega
        · simp; omega
        intro v1 w5 ho hb5
        have HB5 : Below w.heap.size w w5 := (show Below w.heap.size w (w1.alloc (Obj.cells #[.float .f64 r] 25)) by go_grown).trans hb5
        clear hb5
        go_wp2_with fail
        go_roundw
        case rel => exact ⟨k + 1, o ++ [r], by omega, by go_num, by simp [HOL.out], HM.out.snoc (by rw [HOL.out]; exact HR.out), ho, HB5⟩
        case measure => simp [intOf]; omega
end Go.Proofs.Ytbkofiflfcfjfaa
