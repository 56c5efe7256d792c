/- Store: Put, Take, Copy of a map; new maps. -/
import Derived.Test.YtchmlephgkimcaaTtH
set_option linter.unusedSimpArgs false
set_option linter.unusedVariables false
namespace Go.Proofs.Ytchmlephgkimcaa.Tx
open Go.RowKit Go.Kp Go.St
section
variable {S : World → Prop} {id : Nat} {caps : Array Value} {c : Kx → Kx → Int} {w : World} {g : Nat} {t : Tr}

theorem blk_types {w : World} {b g : Nat} {ty ty' : TypeId} {cs cs' : Array Value} (h : Blk w b ty cs) (h' : Blk w g ty' cs') (hn : ty ≠ ty') : b ≠ g := by
  intro e
  subst e
  have := h.symm.trans h'
  injection this with this
  injection this with _ h2
  exact hn h2
/-- What a tree is, it stays, whatever a map's block turns into. -/
theorem TreeAt.grown {w' : World} {a : Option Addr} {cs : Array Value} (h : TreeAt w t a) (hg : Blk w g 91 cs) (hb : w.grownBy w' (some g)) : TreeAt w' t a :=
  h.same fun b cs' hB => hb.block b hB.lt fun e => blk_types hB hg (by decide) (by injection e)
/-- A map stays, whatever another one turns into. -/
theorem MapAt.grown {g' : Nat} (h : MapAt S id caps c w g t) {w' : World} {cs : Array Value} (hg : Blk w g' 91 cs) (hb : w.grownBy w' (some g')) (hne : g ≠ g') : MapAt S id caps c w' g t := by
  obtain ⟨a, h1, h2⟩ := h.cells
  exact ⟨h.last, h.lastM, h.cmp, h.ord, h.lastM _ _ _ _ h.holds hg hb, h.srt, h.few, a, h1.grown hb (fun e => hne (by injection e)), h2.grown hg hb⟩

set_option maxRecDepth 100000 in
set_option maxHeartbeats 4000000 in
theorem Put_any (hM : MapAt S id caps c w g t) (key : Kx) (val : Vx) (hN : t.many + 1 ≤ 4611686018427386000) : Calls Try.prog 18 #[.pointer (some ⟨g, 0, none⟩), .string key, .slice val.a val.n val.c] w fun e w' =>
    e = .returned (.tuple #[.slice ((getL c key t.toL).getD Sl.zero).a ((getL c key t.toL).getD Sl.zero).n ((getL c key t.toL).getD Sl.zero).c, .bool (getL c key t.toL).isSome, .int .i64 0]) ∧ MapAt S id caps c w' g (put c key val t) ∧ w.grownBy w' (some g) := by
  have HM := Lib.hid hM
  clear hM
  generalize hG0 : (getL c key t.toL).getD Sl.zero = G0
  generalize hG1 : (getL c key t.toL).isSome = G1
  have HG0 := Lib.hid hG0
  have HG1 := Lib.hid hG1
  clear hG0 hG1
  go_enter Try.func18, Try.ntmps18
  go_wp2_with fail
  refine (Get_any HM.out key).mono ?_
  rintro en w1 ⟨rfl, hb1⟩
  have HM1 := Lib.hid (HM.out.below hb1)
  have HB1 := Lib.hid hb1
  clear hb1
  rw [HG0.out, HG1.out]
  obtain ⟨a, hg, ht⟩ := HM1.out.cells
  have HG := Lib.hid hg
  have HT := Lib.hid ht
  have cG := hg.cell
  have qG := hg.lt
  clear hg ht
  go_wp2_with fail
  refine (none_any a _ ⟨_, _, rfl⟩ _ HG.out).mono ?_
  rintro en w_ ⟨rfl, hw_⟩
  obtain rfl : w1 = w_ := hw_.symm
  go_wp2_with fail
  refine (put_any S HM.out.last id caps c HM.out.cmp g a key val t a _ HM1.out.holds HG.out HT.out (by omega)).mono ?_
  rintro en w3 ⟨p3, rfl, hT3, hb3⟩
  have HT3 := Lib.hid hT3
  have hG3 := HG.out.below hb3
  have HG3 := Lib.hid hG3
  have c3 := hG3.cell
  have f3 := hG3.free
  have q3 := hG3.lt
  have HS3 := Lib.hid (HM.out.last _ _ HM1.out.holds hb3)
  have HB3 := Lib.hid (bnext HB1.out hb3)
  clear hT3 hG3 hb3 cG qG
  go_wp2_with fail
  refine bodyPost_ret (v := .tuple #[.slice G0.a G0.n G0.c, .bool G1, .int .i64 0]) (by simp [results, Try.results18, go_sem]; done) rfl ⟨rfl, ?_, ?_⟩
  · have hgr : w3.grownBy (w3.setCell ⟨g, 1, none⟩ (.pointer p3)) (some g) := grown_set (World.grownBy.refl _ _)
    refine ⟨HM.out.last, HM.out.lastM, HM.out.cmp, HM.out.ord, HM.out.lastM _ _ _ _ HS3.out HG3.out hgr, ?_, ?_, p3, ?_, HT3.out.grown HG3.out hgr⟩
    · rw [toL_put HM.out.ord t HM.out.srt]; exact sorted_putL HM.out.ord HM.out.srt
    · have := many_put c key val t; omega
    · have hB := HG3.out
      unfold Blk at hB ⊢
      simp (disch := (first | omega | (simp only [World.size_alloc, World.size_setCell, World.size_drew] <;> omega) | fail)) only [Blk, heap_old, heap_at, heap_set_same, heap_set_ne, heap_drew', Option.map_some, putO_cells, hB]
      simp
  · exact grown_set (grown_of_below HB3.out (some g))

theorem has_of_get (ho : Ord c) (key : Kx) : ∀ {t : Tr}, Sorted c t.toL → (getL c key t.toL).isSome = true → Has c key t
  | .nil, _, h => by cases h
  | .node l k v r, hs, h => by
    have hp := Sorted.parts (show Sorted c (l.toL ++ (k, v) :: r.toL) from hs)
    have t1 := ho.turn key k
    have t2 := ho.turn k key
    unfold Has
    have h' : (getL c key (l.toL ++ (k, v) :: r.toL)).isSome = true := h
    split
    · rw [getL_left (p := (k, v)) (by show 0 < c k key; omega)] at h'
      exact has_of_get ho key hp.1 h'
    · split
      · rw [getL_right (left_lt ho (show Sorted c (l.toL ++ (k, v) :: r.toL) from hs) (key := key) (by show c k key ≤ 0; omega))] at h'
        simp only [getL] at h'
        rw [if_pos (by omega)] at h'
        exact has_of_get ho key hp.2.1 h'
      · trivial
theorem takeL_none (ho : Ord c) (key : Kx) {l : List (Kx × Vx)} (hs : Sorted c l) (h : getL c key l = none) : takeL c key l = l := by
  induction l with
  | nil => rfl
  | cons p l ih =>
    simp only [getL] at h
    simp only [takeL]
    split at h
    · rename_i h1
      rw [if_pos h1, ih (List.pairwise_cons.1 hs).2 h]
    · rename_i h1
      split at h
      · cases h
      · rename_i h2
        rw [if_neg h1, if_neg h2]

/-- What is left of a tree. -/
def takeT (c : Kx → Kx → Int) (key : Kx) (t : Tr) : Tr := if (getL c key t.toL).isSome then take c key t else t
theorem toL_takeT (ho : Ord c) (key : Kx) (hs : Sorted c t.toL) : (takeT c key t).toL = takeL c key t.toL := by
  unfold takeT
  split
  · exact toL_take ho t hs
  · rename_i h
    exact (takeL_none ho key hs (by simpa using h)).symm

set_option maxRecDepth 100000 in
set_option maxHeartbeats 4000000 in
theorem Take_any (hM : MapAt S id caps c w g t) (key : Kx) : Calls Try.prog 19 #[.pointer (some ⟨g, 0, none⟩), .string key] w fun e w' =>
    e = .returned (.tuple #[.slice ((getL c key t.toL).getD Sl.zero).a ((getL c key t.toL).getD Sl.zero).n ((getL c key t.toL).getD Sl.zero).c, .bool (getL c key t.toL).isSome]) ∧ MapAt S id caps c w' g (takeT c key t) ∧ w.grownBy w' (some g) := by
  have HM := Lib.hid hM
  clear hM
  generalize hG0 : (getL c key t.toL).getD Sl.zero = G0
  have HG0 := Lib.hid hG0
  clear hG0
  cases hG1 : (getL c key t.toL).isSome with
  | false =>
    have HG1 := Lib.hid hG1
    clear hG1
    go_enter Try.func19, Try.ntmps19
    go_wp2_with fail
    refine (Get_any HM.out key).mono ?_
    rintro en w1 ⟨rfl, hb1⟩
    have HM1 := Lib.hid (HM.out.below hb1)
    have HB1 := Lib.hid hb1
    clear hb1
    rw [HG0.out, HG1.out]
    go_wp2_with fail
    refine bodyPost_ret (v := .tuple #[.slice G0.a G0.n G0.c, .bool false]) (by simp [results, Try.results19, go_sem]; done) rfl ⟨rfl, ?_, grown_of_below HB1.out _⟩
    unfold takeT; rw [HG1.out]; exact HM1.out
  | true =>
    have HG1 := Lib.hid hG1
    clear hG1
    go_enter Try.func19, Try.ntmps19
    go_wp2_with fail
    refine (Get_any HM.out key).mono ?_
    rintro en w1 ⟨rfl, hb1⟩
    have HM1 := Lib.hid (HM.out.below hb1)
    have HB1 := Lib.hid hb1
    clear hb1
    rw [HG0.out, HG1.out]
    obtain ⟨a, hg, ht⟩ := HM1.out.cells
    have HG := Lib.hid hg
    have HT := Lib.hid ht
    have cG := hg.cell
    have qG := hg.lt
    have hfew := HM.out.few
    clear hg ht
    go_wp2_with fail
    refine (take_any S HM.out.last id caps c HM.out.cmp g a key t a _ HM1.out.holds HG.out HT.out (by omega) (has_of_get HM.out.ord key HM.out.srt HG1.out)).mono ?_
    rintro en w3 ⟨p3, rfl, hT3, hb3⟩
    have HT3 := Lib.hid hT3
    have hG3 := HG.out.below hb3
    have HG3 := Lib.hid hG3
    have c3 := hG3.cell
    have f3 := hG3.free
    have q3 := hG3.lt
    have HS3 := Lib.hid (HM.out.last _ _ HM1.out.holds hb3)
    have HB3 := Lib.hid (bnext HB1.out hb3)
    clear hT3 hG3 hb3 cG qG
    go_wp2_with fail
    refine bodyPost_ret (v := .tuple #[.slice G0.a G0.n G0.c, .bool true]) (by simp [results, Try.results19, go_sem]; done) rfl ⟨rfl, ?_, ?_⟩
    · have hgr : w3.grownBy (w3.setCell ⟨g, 1, none⟩ (.pointer p3)) (some g) := grown_set (World.grownBy.refl _ _)
      have het : takeT c key t = take c key t := by unfold takeT; rw [HG1.out]; rfl
      rw [het]
      refine ⟨HM.out.last, HM.out.lastM, HM.out.cmp, HM.out.ord, HM.out.lastM _ _ _ _ HS3.out HG3.out hgr, ?_, ?_, p3, ?_, HT3.out.grown HG3.out hgr⟩
      · rw [toL_take HM.out.ord t HM.out.srt]; exact sorted_takeL HM.out.srt
      · have h1 := T.many_len (take c key t)
        have h2 := T.many_len t
        have h3 := (takeL_sub (c := c) (key := key) (l := t.toL)).length_le
        rw [← toL_take HM.out.ord t HM.out.srt] at h3
        omega
      · have hB := HG3.out
        unfold Blk at hB ⊢
        simp (disch := (first | omega | (simp only [World.size_alloc, World.size_setCell, World.size_drew] <;> omega) | fail)) only [Blk, heap_old, heap_at, heap_set_same, heap_set_ne, heap_drew', Option.map_some, putO_cells, hB]
        simp
    · exact grown_set (grown_of_below HB3.out (some g))

end

theorem lasting_blk (q : Nat) (ty : TypeId) (cs : Array Value) : Lasting (fun w => Blk w q ty cs) := fun _ _ h hb => h.below hb
theorem lastM_blk (q : Nat) (ty : TypeId) (cs : Array Value) (hn : ty ≠ 91) : ∀ (w w' : World) (g : Nat) (cs' : Array Value), Blk w q ty cs → Blk w g 91 cs' → w.grownBy w' (some g) → Blk w' q ty cs :=
  fun w w' g cs' h hg hb => h.grown hb fun e => blk_types h hg hn (by injection e)

theorem of_any (w : World) : Calls Try.prog 17 #[] w fun e w' =>
    ∃ g, e = .returned (.pointer (some ⟨g, 0, none⟩)) ∧ w.heap.size ≤ g ∧ MapAt (fun _ => True) 50 #[] Tm.str w' g .nil ∧ Below w.heap.size w w' := by
  go_enter Try.func17, Try.ntmps17
  go_wp2
  go_returns
  exact ⟨_, rfl, Nat.le_refl _, ⟨fun _ _ _ _ => trivial, fun _ _ _ _ _ _ _ => trivial, of_cmp, str_ord, trivial, List.Pairwise.nil, Nat.zero_le _, none, heap_at rfl, rfl⟩, by go_grown⟩
end Go.Proofs.Ytchmlephgkimcaa.Tx
