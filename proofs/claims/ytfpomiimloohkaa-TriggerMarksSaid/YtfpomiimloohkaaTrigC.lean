/- One more; what tell does to a window. -/
import Derived.Test.YtfpomiimloohkaaTrigB
import Derived.Test.YtfpomiimloohkaaPlan
import Derived.Deep.RegionHeld3
import Derived.Deep.AppendLies
set_option linter.unusedSimpArgs false
set_option linter.unusedVariables false
namespace Go.Proofs.Ytfpomiimloohkaa
open Go.RowKit Go.Kp

def more (n : Int) : Int := if 9007199254740992 ≤ n then 9007199254740992 else n + 1
theorem more_min (n : Int) : min n 9007199254740991 + 1 = more n := by unfold more; split <;> omega
theorem more_bd (n : Int) (h : -9223372036854775808 ≤ n) : -9223372036854775808 ≤ more n ∧ more n ≤ 9223372036854775807 := by unfold more; split <;> omega

theorem more_any (n : Int) (w : World) (h1 : -9223372036854775808 ≤ n) (h2 : n ≤ 9223372036854775807) :
    Calls Try.prog 29 #[.int .i64 n] w (Ret (.int .i64 (more n)) w) := by
  have H := Lib.hid (more_min n)
  go_enter Try.func29, Try.ntmps29
  go_wp2
  all_goals go_ret
  all_goals exact ⟨ret_int (by have := H.out; omega), by go_grown⟩

theorem refMore_any (n : Int) (w : World) (h1 : -9223372036854775808 ≤ n) (h2 : n ≤ 9223372036854775807) :
    Calls Try.prog 27 #[.int .i64 n] w (Ret (.int .i64 (more n)) w) := by
  by_cases h : 9007199254740992 ≤ n
  · have H := Lib.hid (show more n = 9007199254740992 from if_pos h)
    go_enter Try.func27, Try.ntmps27
    go_wp2
    go_ret
    exact ⟨by rw [H.out]; rfl, by go_grown⟩
  · have H := Lib.hid (show more n = n + 1 from if_neg h)
    have h' : n < 9007199254740992 := by omega
    go_enter Try.func27, Try.ntmps27
    go_wp2
    go_ret
    exact ⟨by rw [H.out]; rfl, by go_grown⟩

theorem info37 : (Try.prog.info? 37).map (fun i => (i.zero, i.size, i.bytes)) = some (some (.agg #[.string .empty, .int .i64 0, .int .i64 0, .int .i64 0, .int .i64 0, .int .i64 0, .int .i64 0, .int .i64 0, .int .i64 0]), 9, 80) := by kernel_rfl

/-- The window behind a pane. -/
def told (x : Win) (di : Bool) : Win :=
  { x with pa := more x.pa, si := 0, c := if di then 0 else x.c, su := if di then 0 else x.su, mi := if di then 0 else x.mi, ma := if di then 0 else x.ma }
/-- The pane's cells. -/
def paneOf (key : ByteArray) (x : Win) (kind : Int) : List Value :=
  [.string key, .int .i64 x.s, .int .i64 x.e, .int .i64 kind, .int .i64 x.pa, .int .i64 x.c, .int .i64 x.su, .int .i64 x.mi, .int .i64 x.ma]
def Win.ok (x : Win) : Prop := (-9223372036854775808 ≤ x.s ∧ x.s ≤ 9223372036854775807) ∧ (-9223372036854775808 ≤ x.e ∧ x.e ≤ 9223372036854775807) ∧ (-9223372036854775808 ≤ x.h ∧ x.h ≤ 9223372036854775807) ∧
  (-9223372036854775808 ≤ x.c ∧ x.c ≤ 9223372036854775807) ∧ (-9223372036854775808 ≤ x.su ∧ x.su ≤ 9223372036854775807) ∧ (-9223372036854775808 ≤ x.mi ∧ x.mi ≤ 9223372036854775807) ∧
  (-9223372036854775808 ≤ x.ma ∧ x.ma ≤ 9223372036854775807) ∧ (-9223372036854775808 ≤ x.si ∧ x.si ≤ 9223372036854775807) ∧ (-9223372036854775808 ≤ x.pa ∧ x.pa ≤ 9223372036854775807)

/-- The block of a told window: its cells and its panes. -/
abbrev Win.blk (x : Win) (v : Value) : Array Value := #[.int .i64 x.s, .int .i64 x.e, .int .i64 x.h, .int .i64 x.c, .int .i64 x.su, .int .i64 x.mi, .int .i64 x.ma, .int .i64 x.si, .int .i64 x.pa, v]
theorem told_cells_f (x : Win) (v : Value) : ((((x.blk (Value.slice none 0 0)).setIfInBounds 9 v).setIfInBounds 8 (.int .i64 (more x.pa))).setIfInBounds 7 (.int .i64 0)) = (told x false).blk v := by
  simp [told]
theorem told_cells_t (x : Win) (v : Value) : ((((((((x.blk (Value.slice none 0 0)).setIfInBounds 9 v).setIfInBounds 8 (.int .i64 (more x.pa))).setIfInBounds 7 (.int .i64 0)).setIfInBounds 3 (.int .i64 0)).setIfInBounds 4 (.int .i64 0)).setIfInBounds 5 (.int .i64 0)).setIfInBounds 6 (.int .i64 0)) = (told x true).blk v := by
  simp [told]

/-- What tell leaves: the window behind the pane, and the pane in a row of its own; nothing else has changed. -/
def Told (g : Nat) (key : ByteArray) (x : Win) (kind : Int) (di : Bool) (w w' : World) : Prop :=
  ∃ v, w'.heap[g]? = some (.cells ((told x di).blk v) 65 (0, 0)) ∧ w'.ownsRow w.heap.size 37 9 v 1 (paneOf key x kind) ∧ w.grownBy w' (some g)

set_option maxHeartbeats 1000000 in
theorem tell_any (g : Nat) (key : ByteArray) (x : Win) (kind : Int) (di : Bool) (w : World) (hx : x.ok) (hg : w.heap[g]? = some (.cells (x.blk (Value.slice none 0 0)) 65 (0, 0))) :
    Calls Try.prog 25 #[.pointer (some ⟨g, 0, none⟩), .string key, .int .i64 kind, .bool di] w fun e w' => e = .returned (.tuple #[]) ∧ Told g key x kind di w w' := by
  obtain ⟨i0, hi, hz0, hz1, hz2⟩ := info_parts info37
  have hlt : g < w.heap.size := by
    rcases Nat.lt_or_ge g w.heap.size with h | h
    · exact h
    · rw [Array.getElem?_eq_none h] at hg; cases hg
  obtain ⟨_, _, _, _, _, _, _, _, ⟨p1, p2⟩⟩ := hx
  have c0 : ∀ j u, (x.blk (Value.slice none 0 0))[j]? = some u → w.cell? ⟨g, j, none⟩ = some u := fun j u hu => by
    have h : w.cell? ⟨g, j, none⟩ = (x.blk (Value.slice none 0 0))[j]? := cell_of_row w g j _ _ _ hg
    exact h.trans hu
  have k0 := c0 0 _ rfl
  have k1 := c0 1 _ rfl
  have k3 := c0 3 _ rfl
  have k4 := c0 4 _ rfl
  have k5 := c0 5 _ rfl
  have k6 := c0 6 _ rfl
  have k8 := c0 8 _ rfl
  have k9 := c0 9 _ rfl
  have kf : ∀ j, w.frozen? ⟨g, j, none⟩ = false := fun j => by simp [World.frozen?, hg]
  clear c0
  go_enter Try.func25, Try.ntmps25
  go_wp2
  refine region_keep (fun b => b < w.heap.size) 25 [(0, true), (1, true), (2, true), (3, true), (4, true), (5, true), (6, true), (7, true), (8, true), (9, true), (10, true), (11, true), (12, true), (13, true), (14, true), (15, true), (16, true), (17, true), (18, true), (19, true), (20, true), (21, true), (22, true), (23, false), (24, false)] (by kernel_rfl) (fun _ _ d _ _ h => by cases d <;> exact h) (by kernel_rfl) ?_
  simp only [withOps, List.getElem?_toArray, List.getElem?_cons_zero, List.getElem?_cons_succ, List.drop_succ_cons, List.drop_zero]
  repeat (refine keep_quiet (v := ?_) rfl ?_ ?_; rotate_left; (focus (intro w' hw'; go_simp; (try with_reducible rfl); done)); simp only [Act.put, List.setIfInBounds_toArray, List.set_cons_zero, List.set_cons_succ])
  refine plan_loud (fun K hK => ?_)
  go_simp
  refine hK _ _ ((Keep.refl _ _).alloc (fun x hx => hx) _) ?_
  clear hK K
  try simp only [Act.put, List.setIfInBounds_toArray, List.set_cons_zero, List.set_cons_succ]
  refine plan_loud (fun K hK => ?_)
  refine step_append_lies _ (by rfl) _ _ _ (by rfl) w.heap.size 37 i0 _ 9 80 Try.underlying46 hi hz0 hz1 hz2 rfl (by omega) (.slice none 0 0) 0 [] (by rfl) (World.ownsRow_nil _ _ _ _)
        ⟨w.heap.size, 0, none⟩ 1 1 (paneOf key x kind) (by rfl) (by rfl) (World.news_of_block (cs := (paneOf key x kind).toArray) (t := 37) (fr := (0, 0)) (heap_alloc_new w _)) (by simp [Value.oneCell', paneOf])
        (by omega) (by unfold maxLen; omega) (by omega) (by simp) (w.heap.size + 1) (by simp) ?_
  intro gg cap w1 hown1 hgrow hat hlt1
  refine hK _ _ ((Keep.refl _ _).grown hgrow (fun x hx => by simp; omega) (fun x hx => by simp [Value.ownBlock])) ?_
  clear hK K
  refine plan_end ?_
  try simp only [Act.put, List.setIfInBounds_toArray, List.set_cons_zero, List.set_cons_succ]
  have hg1 : w1.heap[g]? = some (.cells (x.blk (Value.slice none 0 0)) 65 (0, 0)) := ((hgrow.block g (by simp; omega) (by simp [Value.ownBlock])).trans (Below.heap_alloc w _ g hlt)).trans hg
  have hz : g < w1.heap.size := by have := hgrow.size; simp at this; omega
  have d : ∀ j u, (x.blk (Value.slice none 0 0))[j]? = some u → w1.cell? ⟨g, j, none⟩ = some u := fun j u hu => (cell_of_row w1 g j _ _ _ hg1).trans hu
  have d3 := d 3 _ rfl
  have d4 := d 4 _ rfl
  have d5 := d 5 _ rfl
  have d6 := d 6 _ rfl
  have d7 := d 7 _ rfl
  have d8 := d 8 _ rfl
  have d9 := d 9 _ rfl
  have df : ∀ j, w1.frozen? ⟨g, j, none⟩ = false := fun j => by simp [World.frozen?, hg1]
  clear d k0 k1 k3 k4 k5 k6 k8 k9 kf
  have hgr1 : w.grownBy w1 (some g) := grown_trans (grown_drew (grown_alloc (World.grownBy.refl w _) _)) hgrow (fun k hk => by cases hk)
  clear hgrow
  simp only [Nat.zero_add, List.nil_append] at hown1
  cases di
  · go_wp2_with (go_at_call 29; refine (more_any _ _ p1 p2).mono ?_; rintro e w2 ⟨rfl, hb2⟩; obtain ⟨hc2, hf2⟩ := bcell hb2; have hz2 : g < w2.heap.size := (by have := hb2.size; simp at this; omega))
    go_end0
    have e1 := (heap_setCell_same _ g 7 _ _ (.int .i64 0) (heap_setCell_same _ g 8 _ _ (.int .i64 (more x.pa)) ((hb2.block g (by simpa using hz)).trans (heap_setCell_same w1 g 9 _ _ (.slice (some ⟨gg, 0, none⟩) 1 cap) hg1))))
    rw [told_cells_f] at e1
    have e2 := (ownsRow_setCell_below (ownsRow_setCell_below ((ownsRow_setCell_below hown1 (show (⟨g, 9, none⟩ : Addr).block < _ from hlt) (.slice (some ⟨gg, 0, none⟩) 1 cap)).kept (grown_of_below hb2 none) (.inr (by simp [Value.ownBlock]))) (show (⟨g, 8, none⟩ : Addr).block < _ from hlt) (.int .i64 (more x.pa))) (show (⟨g, 7, none⟩ : Addr).block < _ from hlt) (.int .i64 0))
    exact ⟨rfl, _, e1, e2, (grown_set (grown_set (grown_below (grown_set hgr1) hb2)))⟩
  · go_wp2_with (go_at_call 29; refine (more_any _ _ p1 p2).mono ?_; rintro e w2 ⟨rfl, hb2⟩; obtain ⟨hc2, hf2⟩ := bcell hb2; have hz2 : g < w2.heap.size := (by have := hb2.size; simp at this; omega))
    go_end0
    have e1 := (heap_setCell_same _ g 6 _ _ (.int .i64 0) (heap_setCell_same _ g 5 _ _ (.int .i64 0) (heap_setCell_same _ g 4 _ _ (.int .i64 0) (heap_setCell_same _ g 3 _ _ (.int .i64 0) (heap_setCell_same _ g 7 _ _ (.int .i64 0) (heap_setCell_same _ g 8 _ _ (.int .i64 (more x.pa)) ((hb2.block g (by simpa using hz)).trans (heap_setCell_same w1 g 9 _ _ (.slice (some ⟨gg, 0, none⟩) 1 cap) hg1))))))))
    rw [told_cells_t] at e1
    have e2 := (ownsRow_setCell_below (ownsRow_setCell_below (ownsRow_setCell_below (ownsRow_setCell_below (ownsRow_setCell_below (ownsRow_setCell_below ((ownsRow_setCell_below hown1 (show (⟨g, 9, none⟩ : Addr).block < _ from hlt) (.slice (some ⟨gg, 0, none⟩) 1 cap)).kept (grown_of_below hb2 none) (.inr (by simp [Value.ownBlock]))) (show (⟨g, 8, none⟩ : Addr).block < _ from hlt) (.int .i64 (more x.pa))) (show (⟨g, 7, none⟩ : Addr).block < _ from hlt) (.int .i64 0)) (show (⟨g, 3, none⟩ : Addr).block < _ from hlt) (.int .i64 0)) (show (⟨g, 4, none⟩ : Addr).block < _ from hlt) (.int .i64 0)) (show (⟨g, 5, none⟩ : Addr).block < _ from hlt) (.int .i64 0)) (show (⟨g, 6, none⟩ : Addr).block < _ from hlt) (.int .i64 0))
    exact ⟨rfl, _, e1, e2, (grown_set (grown_set (grown_set (grown_set (grown_set (grown_set (grown_below (grown_set hgr1) hb2)))))))⟩

end Go.Proofs.Ytfpomiimloohkaa
