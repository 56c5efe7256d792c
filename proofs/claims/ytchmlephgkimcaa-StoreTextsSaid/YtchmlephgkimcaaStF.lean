/- Store: none, Len, Get, Place, At of a map. -/
import Derived.Test.YtchmlephgkimcaaStE
import Derived.BigQuiet
set_option linter.unusedSimpArgs false
set_option linter.unusedVariables false
namespace Go.Proofs.Ytchmlephgkimcaa
open Go.RowKit Go.Kp Go.St

theorem func_nil (id : Nat) (caps : Array Value) (w : World) : (binOp .eql 72 (.func (.func id) #[] caps) .nilFunc).run Try.prog w = .ok (.bool false) w := by kernel_rfl
/-- A map that holds this tree. -/
structure MapAt (S : World → Prop) (id : Nat) (caps : Array Value) (c : Int → Int → Int) (w : World) (g : Nat) (t : Tr) : Prop where
  last : Lasting S
  lastM : ∀ w w' g cs, S w → Blk w g 75 cs → w.grownBy w' (some g) → S w'
  cmp : CmpF S id caps c
  ord : Ord c
  holds : S w
  srt : Sorted c t.toL
  few : t.many ≤ 4611686018427386000
  cells : ∃ a, Blk w g 75 #[.func (.func id) #[] caps, .pointer a] ∧ TreeAt w t a
section
variable {S : World → Prop} {id : Nat} {caps : Array Value} {c : Int → Int → Int} {w : World} {g : Nat} {t : Tr}
theorem MapAt.below (h : MapAt S id caps c w g t) {w' : World} (hb : Below w.heap.size w w') : MapAt S id caps c w' g t := by
  obtain ⟨a, h1, h2⟩ := h.cells
  exact ⟨h.last, h.lastM, h.cmp, h.ord, h.last _ _ h.holds hb, h.srt, h.few, a, h1.below hb, h2.below hb⟩

theorem none_any (a : Option Addr) (f : Value) (h : (∃ caps id, f = .func (.func id) #[] caps)) (w : World) (hg : Blk w g 75 #[f, .pointer a]) :
    Calls Try.prog 40 #[.pointer (some ⟨g, 0, none⟩)] w fun e w' => e = .returned (.bool false) ∧ w' = w := by
  obtain ⟨caps, id, rfl⟩ := h
  have hf := func_nil id caps
  have cG := hg.cell 0
  clear hg
  go_enter Try.func40, Try.ntmps40
  go_wp2
  go_returns
  exact ⟨rfl, rfl⟩

set_option maxHeartbeats 1000000 in
theorem Len_any (hM : MapAt S id caps c w g t) : Calls Try.prog 38 #[.pointer (some ⟨g, 0, none⟩)] w fun e w' => e = .returned (.int .i64 t.many) ∧ w' = w := by
  obtain ⟨a, hg, ht⟩ := hM.cells
  have HT := Lib.hid ht
  have HG := Lib.hid hg
  have cG := hg.cell 1
  clear hM ht hg
  go_enter Try.func38, Try.ntmps38
  go_wp2_with fail
  refine (none_any a _ ⟨_, _, rfl⟩ _ HG.out).mono ?_
  rintro en w_ ⟨rfl, hw_⟩
  obtain rfl : w = w_ := hw_.symm
  go_wp2_with fail
  refine (many_any t a _ HT.out).mono ?_
  rintro en w_ ⟨rfl, hw_⟩
  obtain rfl : w = w_ := hw_.symm
  go_wp2_with fail
  go_returns
  exact ⟨rfl, rfl⟩

/-- Returned: a number and whether it is there. -/
def GetE (n : Int) (b : Bool) (w : World) (e : Ending) (w' : World) : Prop := e = .returned (.tuple #[.int .i64 n, .bool b]) ∧ Below w.heap.size w w'

set_option maxRecDepth 100000 in
set_option maxHeartbeats 4000000 in
theorem Get_any (hM : MapAt S id caps c w g t) (key : Int) : Calls Try.prog 39 #[.pointer (some ⟨g, 0, none⟩), .int .i64 key] w (GetE ((getL c key t.toL).getD 0) (getL c key t.toL).isSome w) := by
  obtain ⟨a, hg, ht⟩ := hM.cells
  have HT := Lib.hid ht
  have HG := Lib.hid hg
  have HM := Lib.hid hM
  have cG := hg.cell
  have qG := hg.lt
  obtain ⟨hcf, hcc⟩ := hM.cmp
  have HCF := Lib.hid hcf
  have HCC := Lib.hid hcc
  clear hM ht hg hcc hcf
  go_enter Try.func39, Try.ntmps39
  go_wp2_with fail
  refine (none_any a _ ⟨_, _, rfl⟩ _ HG.out).mono ?_
  rintro en w_ ⟨rfl, hw_⟩
  obtain rfl : w = w_ := hw_.symm
  go_wp2_with fail
  clear cG
  go_loopw [7] (fun n wr => ∃ (sub : Tr) (a : Option Addr), n = .pointer a ∧ TreeAt wr sub a ∧ Sorted c sub.toL ∧ getL c key sub.toL = getL c key t.toL ∧ Below w.heap.size w wr) (fun n wr => sizeAt wr n)
  case atStart => exact ⟨t, a, rfl, HT.out, HM.out.srt, rfl, by go_grown⟩
  case round =>
    obtain ⟨sub, a', rfl, hT, hs, hgl, hB⟩ := hrel
    have HGL := Lib.hid hgl
    have HS := Lib.hid hs
    have HT' := Lib.hid hT
    clear hgl hs
    cases sub with
    | nil =>
      obtain rfl : a' = none := hT
      have hn : Hid (getL c key t.toL = none) := Lib.hid (by rw [← HGL.out]; rfl)
      go_wp2
      refine bodyPost_ret (v := .tuple #[.int .i64 0, .bool false]) (by simp [results, Try.results39, go_sem]; done) rfl ⟨by rw [hn.out]; rfl, hB⟩
    | node l k v r =>
      obtain ⟨b, al, ar, rfl, hBk, hl, hr⟩ := hT
      have HBk := Lib.hid hBk
      have HL := Lib.hid hl
      have HR := Lib.hid hr
      have cB := hBk.cell
      have qB := hBk.lt
      have hG' := HG.out.below hB
      have cG := hG'.cell
      have qG := hG'.lt
      have hcf := HCF.out
      have HW := Lib.hid (HM.out.last _ _ HM.out.holds hB)
      have HP := Lib.hid (Sorted.parts (show Sorted c (l.toL ++ (k, v) :: r.toL) from HS.out))
      have ht1 := HM.out.ord.turn key k
      have ht2 := HM.out.ord.turn k key
      have HGlt : Hid (c key k < 0 → getL c key l.toL = getL c key t.toL) := Lib.hid fun h => by
        rw [← HGL.out]
        exact (getL_left (p := (k, v)) (by show 0 < c k key; omega)).symm
      have HGgt : Hid (0 < c key k → getL c key r.toL = getL c key t.toL) := Lib.hid fun h => by
        rw [← HGL.out]
        have hl := left_lt HM.out.ord (show Sorted c (l.toL ++ (k, v) :: r.toL) from HS.out) (key := key) (by show c k key ≤ 0; omega)
        show _ = getL c key (l.toL ++ (k, v) :: r.toL)
        rw [getL_right hl]
        simp only [getL]
        rw [if_pos (by omega)]
      have HGeq : Hid (c key k = 0 → getL c key t.toL = some v) := Lib.hid fun h => by
        rw [← HGL.out]
        have hl := left_lt HM.out.ord (show Sorted c (l.toL ++ (k, v) :: r.toL) from HS.out) (key := key) (by show c k key ≤ 0; omega)
        show getL c key (l.toL ++ (k, v) :: r.toL) = _
        rw [getL_right hl]
        simp only [getL]
        rw [if_neg (by omega), if_pos (by omega)]
      clear hBk hl hr hG' ht1 ht2
      go_wp2_with fail
      (refine region_keep (fun x => x < wr.heap.size) 9 [(0, true), (1, true), (2, true), (3, true), (4, true), (5, true), (6, true), (7, true), (8, true)] (by kernel_rfl) (fun _ _ d _ _ h => by cases d <;> exact h) (by kernel_rfl) ?_; simp only [withOps, List.getElem?_toArray, List.getElem?_cons_zero, List.getElem?_cons_succ, List.drop_succ_cons, List.drop_zero])
      (iterate 9 (refine keep_quiet (v := ?_) rfl ?_ ?_; rotate_left; (focus (intro w' hw'; go_simp; (try with_reducible rfl); done)); try simp only [Act.put, List.setIfInBounds_toArray, List.set_cons_zero, List.set_cons_succ]))
      (with_reducible refine plan_end ?_)
      (try simp only [Act.put, List.setIfInBounds_toArray, List.set_cons_zero, List.set_cons_succ])
      go_wp2_with fail
      refine (HCC.out key k wr.drew (HM.out.last.drew HW.out)).mono ?_
      rintro en w_ ⟨rfl, hw_⟩
      obtain rfl : wr.drew = w_ := hw_.symm
      clear hcf
      generalize hX : c key k = X at *
      have HX := Lib.hid hX
      clear hX
      rcases Int.lt_trichotomy X 0 with h | h | h
      · go_wp2
        go_roundw
        case rel => exact ⟨l, al, rfl, HL.out.drew, HP.out.1, HGlt.out h, hB.drew⟩
        case measure => rw [sizeAt_eq HL.out.drew, sizeAt_eq HT'.out]; simp only [T.many]; omega
      · have he := Lib.hid (HGeq.out h)
        subst h
        go_wp2
        refine bodyPost_ret (v := .tuple #[.int .i64 v, .bool true]) (by simp [results, Try.results39, go_sem]; done) rfl ⟨by rw [he.out]; rfl, hB.drew⟩
      · have h2 : ¬ X < 0 := by omega
        go_wp2
        go_roundw
        case rel => exact ⟨r, ar, rfl, HR.out.drew, HP.out.2.1, HGgt.out h, hB.drew⟩
        case measure => rw [sizeAt_eq HR.out.drew, sizeAt_eq HT'.out]; simp only [T.many]; omega
end
end Go.Proofs.Ytchmlephgkimcaa
