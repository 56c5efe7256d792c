/- Store: whole: a map tells all of its pairs. -/
import Derived.Test.YtchmlephgkimcaaStU
import Derived.Test.YtchmlephgkimcaaStV
set_option linter.unusedSimpArgs false
set_option linter.unusedVariables false
namespace Go.Proofs.Ytchmlephgkimcaa
open Go.RowKit Go.Kp Go.St

theorem lasting_true : Lasting (fun _ => True) := fun _ _ _ _ => trivial
set_option maxRecDepth 100000 in
set_option maxHeartbeats 4000000 in
theorem whole_any {S : World → Prop} {id : Nat} {caps : Array Value} {c : Int → Int → Int} {w : World} {g : Nat} {t : Tr} {wh : Int} {r : Nat} {L : List (Int × Int)} (hM : MapAt S id caps c w g t) (hR : RefAt w wh r L) (hL : L = t.toL) (hmany : t.many ≤ 8796093022208) :
    Calls Try.prog 16 #[.pointer (some ⟨g, 0, none⟩), .pointer (some ⟨r, 0, none⟩)] w (Ret (.bool true) w) := by
  have HM := Lib.hid hM
  obtain ⟨a, cap, hr, hrow, hc1, hc2, hc3⟩ := hR
  have hlen : L.length = t.many := by rw [hL, T.many_len]
  have HL := Lib.hid hL
  have HLE := Lib.hid hlen
  rw [hlen] at hr
  obtain ⟨n, hn⟩ : ∃ n, t.many = n := ⟨_, rfl⟩
  rw [hn] at hr
  have HN := Lib.hid hn
  have HMY := Lib.hid hmany
  have HRow := Lib.hid hrow
  have hnn : ((n : Int) == (n : Int)) = true := by simp
  have cR := hr.cell
  have qR := hr.lt
  clear hM hr hrow hc1 hc2 hc3 hL hlen hn hmany
  go_enter Try.func16, Try.ntmps16
  go_wp2_with fail
  (refine region_keep (fun b => b < w.heap.size) 15 [(0, true), (2, true), (3, true), (4, true), (5, true), (6, true), (1, false), (7, true), (8, true), (9, true), (11, true), (12, true), (13, true), (14, true), (10, false)] (by kernel_rfl) (fun _ _ d _ _ h => by cases d <;> exact h) (by kernel_rfl) ?_; simp only [withOps, List.getElem?_toArray, List.getElem?_cons_zero, List.getElem?_cons_succ, List.drop_succ_cons, List.drop_zero])
  (iterate 6 (refine keep_quiet (v := ?_) rfl ?_ ?_; rotate_left; (focus (intro w' hw'; go_simp; (try with_reducible rfl); done)); try simp only [Act.put, List.setIfInBounds_toArray, List.set_cons_zero, List.set_cons_succ]))
  (with_reducible refine plan_loud (fun K hK => ?_))
  go_simp
  refine (Len_any (HM.out.below (show Below w.heap.size w w.drew from (Below.refl _ _).drew))).mono ?_
  rintro en w_ ⟨rfl, hw_⟩
  obtain rfl : w.drew = w_ := hw_.symm
  rw [HN.out]
  refine hK _ _ (Keep.refl _ _) ?_
  clear hK K
  (try simp only [Act.put, List.setIfInBounds_toArray, List.set_cons_zero, List.set_cons_succ])
  (iterate 7 (refine keep_quiet (v := ?_) rfl ?_ ?_; rotate_left; (focus (intro w' hw'; go_simp; (try with_reducible rfl); done)); try simp only [Act.put, List.setIfInBounds_toArray, List.set_cons_zero, List.set_cons_succ]))
  (with_reducible refine plan_loud (fun K hK => ?_))
  go_simp
  refine (All_any g w.drew).mono ?_
  rintro en w1 ⟨bm, bb, bo, rfl, hW, hb⟩
  have hB : Below w.heap.size w w1 := bnext (show Below w.heap.size w w.drew from (Below.refl _ _).drew) hb
  refine hK _ _ (fun x hx => hb.block x hx) ?_
  clear hK K
  have HW := Lib.hid hW
  have HB := Lib.hid hB
  clear hW hb hB
  (try simp only [Act.put, List.setIfInBounds_toArray, List.set_cons_zero, List.set_cons_succ])
  (with_reducible refine plan_end ?_)
  (try simp only [Act.put, List.setIfInBounds_toArray, List.set_cons_zero, List.set_cons_succ])
  go_wp2_with fail
  obtain ⟨ra, hg, ht⟩ := HM.out.cells
  have hlw := lwalk_any HW.out lasting_true _ ⟨_, _, rfl⟩ t ra (hg.below HB.out) (ht.below HB.out) (mono_all t) HMY.out a cap 0 L (by rw [told_all]; exact HL.out) (HRow.out.below HB.out).rd (by rw [HLE.out]; exact HMY.out)
  rw [HLE.out, HN.out] at hlw
  refine hlw.mono ?_
  rintro en w2 ⟨rfl, hb2⟩
  have HB2 := Lib.hid (bnext HB.out hb2)
  clear hlw hb2 hg ht
  go_wp2_with fail
  go_returns
  exact ⟨rfl, HB2.out⟩
end Go.Proofs.Ytchmlephgkimcaa
