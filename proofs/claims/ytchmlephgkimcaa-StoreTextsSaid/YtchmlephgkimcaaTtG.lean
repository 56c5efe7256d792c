/- Store: Place and At of a map. -/
import Derived.Test.YtchmlephgkimcaaTtF
set_option linter.unusedSimpArgs false
set_option linter.unusedVariables false
namespace Go.Proofs.Ytchmlephgkimcaa.Tx
open Go.RowKit Go.Kp Go.St

theorem placeL_le (c : Kx → Kx → Int) (key : Kx) : ∀ l : List (Kx × Vx), placeL c key l ≤ l.length
  | [] => Nat.le_refl _
  | p :: l => by
    have := placeL_le c key l
    simp only [placeL, List.length_cons]
    split <;> omega
section
variable {S : World → Prop} {id : Nat} {caps : Array Value} {c : Kx → Kx → Int} {w : World} {g : Nat} {t : Tr}

set_option maxRecDepth 100000 in
set_option maxHeartbeats 4000000 in
theorem Place_any (hM : MapAt S id caps c w g t) (key : Kx) : Calls Try.prog 24 #[.pointer (some ⟨g, 0, none⟩), .string key] w (GetE (placeL c key t.toL : Nat) (getL c key t.toL).isSome w) := by
  obtain ⟨a, hg, ht⟩ := hM.cells
  have HT := Lib.hid ht
  have HG := Lib.hid hg
  have HM := Lib.hid hM
  have cG := hg.cell
  have qG := hg.lt
  have hfew := hM.few
  have hle := placeL_le c key t.toL
  rw [← T.many_len] at hle
  obtain ⟨hcf, hcc⟩ := hM.cmp
  have HCF := Lib.hid hcf
  have HCC := Lib.hid hcc
  clear hM ht hg hcc hcf
  go_enter Try.func24, Try.ntmps24
  go_wp2_with fail
  refine (none_any a _ ⟨_, _, rfl⟩ _ HG.out).mono ?_
  rintro en w_ ⟨rfl, hw_⟩
  obtain rfl : w = w_ := hw_.symm
  go_wp2_with fail
  clear cG
  go_loopw [6, 7] (fun P n wr => ∃ (p : Nat) (sub : Tr) (a : Option Addr), P = .int .i64 p ∧ n = .pointer a ∧ TreeAt wr sub a ∧ Sorted c sub.toL ∧ getL c key sub.toL = getL c key t.toL ∧ p + placeL c key sub.toL = placeL c key t.toL ∧ Below w.heap.size w wr) (fun _ n wr => sizeAt wr n)
  case atStart => exact ⟨0, t, a, rfl, rfl, HT.out, HM.out.srt, rfl, by omega, by go_grown⟩
  case round =>
    obtain ⟨p, sub, a', rfl, rfl, hT, hs, hgl, hpl, hB⟩ := hrel
    have HGL := Lib.hid hgl
    have HS := Lib.hid hs
    have HT' := Lib.hid hT
    have HPL := Lib.hid hpl
    have hp0 : p ≤ 4611686018427386000 := by omega
    clear hgl hs hpl
    cases sub with
    | nil =>
      obtain rfl : a' = none := hT
      have hn : Hid (getL c key t.toL = none) := Lib.hid (by rw [← HGL.out]; rfl)
      have hn2 : Hid (placeL c key t.toL = p) := Lib.hid (by rw [← HPL.out]; rfl)
      go_wp2
      refine bodyPost_ret (v := .tuple #[.int .i64 p, .bool false]) (by simp [results, Try.results24, go_sem]; done) rfl ⟨by rw [hn.out, hn2.out]; rfl, hB⟩
    | node l k v r =>
      obtain ⟨b, al, ar, rfl, hBk, hl, hr⟩ := hT
      have HBk := Lib.hid hBk
      have HL := Lib.hid hl
      have HR := Lib.hid hr
      have cB := hBk.cell
      have qB := hBk.lt
      have hG' := HG.out.below hB
      have cG := hG'.cell
      have qG := hG'.lt
      have hcf := HCF.out
      have HW := Lib.hid (HM.out.last _ _ HM.out.holds hB)
      have HP := Lib.hid (Sorted.parts (show Sorted c (l.toL ++ (k, v) :: r.toL) from HS.out))
      have ht1 := HM.out.ord.turn key k
      have ht2 := HM.out.ord.turn k key
      have hlL : 0 ≤ c key k → ∀ q ∈ l.toL, c q.1 key < 0 := fun h => left_lt HM.out.ord (show Sorted c (l.toL ++ (k, v) :: r.toL) from HS.out) (key := key) (by show c k key ≤ 0; omega)
      have hsubL : (T.node l k v r).toL = l.toL ++ (k, v) :: r.toL := rfl
      have hlm := T.many_len l
      have HGlt : Hid (c key k < 0 → getL c key l.toL = getL c key t.toL ∧ p + placeL c key l.toL = placeL c key t.toL) := Lib.hid fun h => by
        rw [← HGL.out, ← HPL.out, hsubL, getL_left (p := (k, v)) (by show 0 < c k key; omega), placeL_left (p := (k, v)) (by show 0 ≤ c k key; omega)]
        exact ⟨rfl, rfl⟩
      have HGgt : Hid (0 < c key k → getL c key r.toL = getL c key t.toL ∧ p + l.many + 1 + placeL c key r.toL = placeL c key t.toL) := Lib.hid fun h => by
        rw [← HGL.out, ← HPL.out, hsubL, getL_right (hlL (by omega)), placeL_right (hlL (by omega))]
        simp only [getL, placeL]
        rw [if_pos (by omega), if_pos (by omega)]
        exact ⟨rfl, by omega⟩
      have HGeq : Hid (c key k = 0 → getL c key t.toL = some v ∧ p + l.many = placeL c key t.toL) := Lib.hid fun h => by
        rw [← HGL.out, ← HPL.out, hsubL, getL_right (hlL (by omega)), placeL_right (hlL (by omega))]
        simp only [getL, placeL]
        rw [if_neg (by omega), if_pos (by omega), if_neg (by omega)]
        exact ⟨rfl, by omega⟩
      clear hBk hl hr hG' ht1 ht2 hlL hsubL hlm
      go_wp2_with fail
      (refine region_keep (fun x => x < wr.heap.size) 9 [(0, true), (1, true), (2, true), (3, true), (4, true), (5, true), (6, true), (7, true), (8, true)] (by kernel_rfl) (fun _ _ d _ _ h => by cases d <;> exact h) (by kernel_rfl) ?_; simp only [withOps, List.getElem?_toArray, List.getElem?_cons_zero, List.getElem?_cons_succ, List.drop_succ_cons, List.drop_zero])
      (iterate 9 (refine keep_quiet (v := ?_) rfl ?_ ?_; rotate_left; (focus (intro w' hw'; go_simp; (try with_reducible rfl); done)); try simp only [Act.put, List.setIfInBounds_toArray, List.set_cons_zero, List.set_cons_succ]))
      (with_reducible refine plan_end ?_)
      (try simp only [Act.put, List.setIfInBounds_toArray, List.set_cons_zero, List.set_cons_succ])
      go_wp2_with fail
      refine (HCC.out key k wr.drew (HM.out.last.drew HW.out)).mono ?_
      rintro en w_ ⟨rfl, hw_⟩
      obtain rfl : wr.drew = w_ := hw_.symm
      clear hcf
      generalize hX : c key k = X at *
      have HX := Lib.hid hX
      clear hX
      rcases Int.lt_trichotomy X 0 with h | h | h
      · go_wp2
        go_roundw
        case rel => exact ⟨p, l, al, rfl, rfl, HL.out.drew, HP.out.1, (HGlt.out h).1, (HGlt.out h).2, hB.drew⟩
        case measure => rw [sizeAt_eq HL.out.drew, sizeAt_eq HT'.out]; simp only [T.many]; omega
      · have he := Lib.hid (HGeq.out h)
        have hb3 : p + l.many ≤ 4611686018427386000 := by have := he.out.2; omega
        subst h
        go_wp2_with fail
        refine (many_any l al _ HL.out.drew).mono ?_
        rintro en w_ ⟨rfl, hw_⟩
        obtain rfl : wr.drew = w_ := hw_.symm
        go_wp2_with fail
        refine bodyPost_ret (v := .tuple #[.int .i64 ((p : Int) + l.many), .bool true]) (by simp [results, Try.results24, go_sem]; done) rfl ⟨by rw [he.out.1, ← he.out.2]; rfl, hB.drew⟩
      · have h2 : ¬ X < 0 := by omega
        have h3 : ¬ X = 0 := by omega
        have hb3 : p + l.many + 1 ≤ 4611686018427386000 := by have := (HGgt.out h).2; omega
        go_wp2_with fail
        refine (many_any l al _ HL.out.drew).mono ?_
        rintro en w_ ⟨rfl, hw_⟩
        obtain rfl : wr.drew = w_ := hw_.symm
        go_wp2_with fail
        go_roundw
        case rel => exact ⟨p + l.many + 1, r, ar, by go_num, rfl, HR.out.drew, HP.out.2.1, (HGgt.out h).1, (HGgt.out h).2, hB.drew⟩
        case measure => rw [sizeAt_eq HR.out.drew, sizeAt_eq HT'.out]; simp only [T.many]; omega

/-- Returned: a pair and whether it is there. -/
def AtE (k : Kx) (v : Vx) (b : Bool) (w : World) (e : Ending) (w' : World) : Prop := e = .returned (.tuple #[.string k, .slice v.a v.n v.c, .bool b]) ∧ Below w.heap.size w w'
set_option maxRecDepth 100000 in
set_option maxHeartbeats 4000000 in
theorem At_out (hM : MapAt S id caps c w g t) (N : Int) (hN : N < 0 ∨ (t.many : Int) ≤ N) : Calls Try.prog 23 #[.pointer (some ⟨g, 0, none⟩), .int .i64 N] w (AtE ⟨#[]⟩ Sl.zero false w) := by
  have HM := Lib.hid hM
  clear hM
  rcases hN with hN | hN
  · go_enter Try.func23, Try.ntmps23
    go_wp2
    refine bodyPost_ret (v := .tuple #[.string ⟨#[]⟩, .slice none 0 0, .bool false]) (by simp [results, Try.results23, go_sem]; done) rfl ⟨rfl, by go_grown⟩
  · have h0 : ¬ N < (t.many : Int) := by omega
    have h1 : 0 ≤ N := by omega
    go_enter Try.func23, Try.ntmps23
    go_wp2_with fail
    refine (Len_any HM.out).mono ?_
    rintro en w_ ⟨rfl, hw_⟩
    obtain rfl : w = w_ := hw_.symm
    go_wp2_with fail
    refine bodyPost_ret (v := .tuple #[.string ⟨#[]⟩, .slice none 0 0, .bool false]) (by simp [results, Try.results23, go_sem]; done) rfl ⟨rfl, by go_grown⟩
set_option maxRecDepth 100000 in
set_option maxHeartbeats 4000000 in
theorem At_in (hM : MapAt S id caps c w g t) (N : Nat) (k0 : Kx) (v0 : Vx) (hN : t.toL[N]? = some (k0, v0)) : Calls Try.prog 23 #[.pointer (some ⟨g, 0, none⟩), .int .i64 N] w (AtE k0 v0 true w) := by
  have HM := Lib.hid hM
  obtain ⟨a, hg, ht⟩ := hM.cells
  have HT := Lib.hid ht
  have HG := Lib.hid hg
  have cG := hg.cell
  have qG := hg.lt
  have hfew := hM.few
  have HN := Lib.hid hN
  have hlt : N < t.many := by rw [T.many_len]; exact (List.getElem?_eq_some_iff.1 hN).1
  have hltI : (N : Int) < (t.many : Int) := by omega
  clear hM ht hg hN
  go_enter Try.func23, Try.ntmps23
  go_wp2_with fail
  refine (Len_any HM.out).mono ?_
  rintro en w_ ⟨rfl, hw_⟩
  obtain rfl : w = w_ := hw_.symm
  go_wp2_with fail
  clear cG
  go_loopw [1, 7] (fun P n wr => ∃ (p : Nat) (sub : Tr) (a : Option Addr), P = .int .i64 p ∧ n = .pointer a ∧ TreeAt wr sub a ∧ sub.toL[p]? = some (k0, v0) ∧ sub.many ≤ t.many ∧ Below w.heap.size w wr) (fun _ n wr => sizeAt wr n)
  case atStart => exact ⟨N, t, a, rfl, rfl, HT.out, HN.out, Nat.le_refl _, by go_grown⟩
  case round =>
    obtain ⟨p, sub, a', rfl, rfl, hT, hp, hsm, hB⟩ := hrel
    have HP := Lib.hid hp
    have HT' := Lib.hid hT
    have hplt : p < sub.many := by rw [T.many_len]; exact (List.getElem?_eq_some_iff.1 hp).1
    clear hp
    cases sub with
    | nil => simp [T.many] at hplt
    | node l k v r =>
      obtain ⟨b, al, ar, rfl, hBk, hl, hr⟩ := hT
      have HL := Lib.hid hl
      have HR := Lib.hid hr
      have HBk := Lib.hid hBk
      have cB := hBk.cell
      have qB := hBk.lt
      have hlm := T.many_len l
      have hmm : l.many + r.many + 1 ≤ 4611686018427386000 := by have : (T.node l k v r).many = l.many + r.many + 1 := rfl; omega
      have hplt' : p < l.many + r.many + 1 := hplt
      have hsm' : l.many + r.many + 1 ≤ t.many := hsm
      have HPl : Hid (p < l.many → l.toL[p]? = some (k0, v0)) := Lib.hid fun h => by
        have := HP.out
        rwa [show (T.node l k v r).toL = l.toL ++ (k, v) :: r.toL from rfl, List.getElem?_append_left (by omega)] at this
      have HPr : Hid (∀ d : Nat, p = l.many + 1 + d → r.toL[d]? = some (k0, v0)) := Lib.hid fun d h => by
        have := HP.out
        rw [show (T.node l k v r).toL = l.toL ++ (k, v) :: r.toL from rfl, List.getElem?_append_right (by omega), show p - l.toL.length = d + 1 by omega] at this
        simpa using this
      have HPe : Hid (p = l.many → k = k0 ∧ v = v0) := Lib.hid fun h => by
        have := HP.out
        rw [show (T.node l k v r).toL = l.toL ++ (k, v) :: r.toL from rfl, List.getElem?_append_right (by omega), show p - l.toL.length = 0 by omega] at this
        simpa using this
      clear hBk hl hr hplt hsm hlm
      go_wp2_with fail
      refine (many_any l al _ HL.out).mono ?_
      rintro en w_ ⟨rfl, hw_⟩
      obtain rfl : wr = w_ := hw_.symm
      rcases Nat.lt_trichotomy p l.many with h | h | h
      · go_wp2
        go_roundw
        case rel => exact ⟨p, l, al, rfl, rfl, HL.out, HPl.out h, by omega, hB⟩
        case measure => rw [sizeAt_eq HL.out, sizeAt_eq HT'.out]; simp only [T.many]; omega
      · obtain ⟨rfl, rfl⟩ := HPe.out h
        have h2 : ¬ (p : Int) < (l.many : Int) := by omega
        have h3 : ¬ (l.many : Int) < (p : Int) := by omega
        go_wp2_with fail
        (refine region_keep (fun x => x < wr.heap.size) 9 [(0, true), (1, true), (2, true), (3, true), (4, true), (5, true), (6, true), (7, true), (8, true)] (by kernel_rfl) (fun _ _ d _ _ h => by cases d <;> exact h) (by kernel_rfl) ?_; simp only [withOps, List.getElem?_toArray, List.getElem?_cons_zero, List.getElem?_cons_succ, List.drop_succ_cons, List.drop_zero])
        (iterate 9 (refine keep_quiet (v := ?_) rfl ?_ ?_; rotate_left; (focus (intro w' hw'; go_simp; (try with_reducible rfl); done)); try simp only [Act.put, List.setIfInBounds_toArray, List.set_cons_zero, List.set_cons_succ]))
        (with_reducible refine plan_end ?_)
        (try simp only [Act.put, List.setIfInBounds_toArray, List.set_cons_zero, List.set_cons_succ])
        go_wp2
        refine bodyPost_ret (v := .tuple #[.string k, .slice v.a v.n v.c, .bool true]) (by simp [results, Try.results23, go_sem]; done) rfl ⟨rfl, hB.drew⟩
      · obtain ⟨d, hd⟩ : ∃ d : Nat, p = l.many + 1 + d := ⟨p - l.many - 1, by omega⟩
        have h2 : ¬ (p : Int) < (l.many : Int) := by omega
        have h3 : (l.many : Int) < (p : Int) := by omega
        have HD := Lib.hid hd
        clear hd
        go_wp2_with fail
        go_roundw
        case rel => exact ⟨d, r, ar, by have := HD.out; congr 1; omega, rfl, HR.out, HPr.out d HD.out, by omega, hB⟩
        case measure => rw [sizeAt_eq HR.out, sizeAt_eq HT'.out]; simp only [T.many]; omega
end
end Go.Proofs.Ytchmlephgkimcaa.Tx
