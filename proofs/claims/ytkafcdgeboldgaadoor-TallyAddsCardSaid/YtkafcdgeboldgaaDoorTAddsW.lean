/- TallyAdds: the walk. -/
import Derived.Test.YtkafcdgeboldgaaDoorTLend
import Derived.Test.YtkafcdgeboldgaaDoorTWorks
set_option linter.unusedSimpArgs false
set_option linter.unusedVariables false
namespace Go.Proofs.YtkafcdgeboldgaaDoor
open Go.RowKit Go.Kp

set_option maxHeartbeats 4000000 in
theorem adds (a : Option Addr) (n cap : Nat) (l : List Int) (t : Tally) (v : Int) (w : World) (hl : l.length = n) (hn : n ≤ 17592186043904) (ha : a = none → cap = 0) (hr : Rd w w.heap.size a (l.map (Value.int .i64))) (hz : ∀ z ∈ l, I64 z) (ht : t.ok) (hv : I64 v) :
    Calls Tryd.prog 3 #[.slice a n cap, t.val, .int .i64 v] w (Ret (.bool true) w) := by
  have HR := Lib.hid hr
  have HL := Lib.hid hl
  have HA := Lib.hid ha
  have HZ := Lib.hid hz
  have HT := Lib.hid ht
  have HV := Lib.hid hv
  clear hr hl ha hz ht hv
  go_enter Tryd.func3, Tryd.ntmps3
  go_wp2_with fail
  refine (lend_any a n cap l _ HL.out hn HA.out ((HR.out.below (by go_grown)).more (by simp))).mono ?_
  rintro en w1 ⟨g, c, rfl, hc, hg, hm, hb⟩
  have hB1 : Below w.heap.size w w1 := bnext (by go_grown) hb
  have A1 : Blk w1 w.heap.size 24 t.cells.toArray := Blk.below (by simp (disch := (first | omega | (simp only [World.size_alloc, World.size_setCell, World.size_drew] <;> omega) | fail)) only [Blk, heap_old, heap_at, heap_set_same, heap_set_ne, heap_drew', Option.map_some, putO_cells]) hb
  clear hb
  have HM := Lib.hid hm
  clear hm
  have HM0 := Lib.hid (show ∀ (j : Nat) u, (l.map (Value.int .i64))[j]? = some u → w1.cell? ⟨g, j, none⟩ = some u from fun j u hu => HM.out j u (by rw [marked, List.map_append, List.getElem?_append_left (List.getElem?_eq_some_iff.1 hu).1]; exact hu))
  have l1 := A1.lt
  go_wp2_with fail
  obtain rfl := HL.out
  refine (of_any (some ⟨g, 0, none⟩) c l _ (by omega) HZ.out (.inr ⟨g, 0, rfl, hg, fun j u hu => by rw [Nat.zero_add]; exact HM0.out j u hu⟩)).mono ?_
  rintro en w2 ⟨rfl, hb⟩
  have hB2 : Below w.heap.size w w2 := bnext (by go_grown) hb
  have A2 : Blk w2 w.heap.size 24 t.cells.toArray := Blk.below (by unfold Blk at A1; simp (disch := (first | omega | (simp only [World.size_alloc, World.size_setCell, World.size_drew] <;> omega) | fail)) only [Blk, heap_old, heap_at, heap_set_same, heap_set_ne, heap_drew', Option.map_some, putO_cells, A1]) hb
  have G2 : w2.heap[g]? = w1.heap[g]? := hb.block g hg
  have hg2 : g < w2.heap.size := Nat.lt_of_lt_of_le hg hb.size
  clear hb A1 l1 hB1
  generalize hq : ofs l = q
  have HQ := Lib.hid hq
  clear hq
  have l2 := A2.lt
  go_wp2_with fail
  have HK0 := Lib.hid (And.intro hg2 G2)
  go_loopw [10] (fun i wr => ∃ k : Nat, k ≤ l.length ∧ i = .int .i64 k ∧ Blk wr w.heap.size 24 t.cells.toArray ∧ Blk wr w2.heap.size 24 q.cells.toArray ∧ Blk wr (w2.heap.size + 1) 24 (ofs (l.take k)).cells.toArray ∧
      wr.heap[g]? = w1.heap[g]? ∧ Below w.heap.size w wr) (fun i _ => l.length - (intOf i).toNat)
  case atStart =>
    refine ⟨0, Nat.zero_le _, rfl, ?_, ?_, heap_at (by simp), ?_, by go_grown⟩
    · unfold Blk at A2; simp (disch := (first | omega | (simp only [World.size_alloc, World.size_setCell, World.size_drew] <;> omega) | fail)) only [Blk, heap_old, heap_at, heap_set_same, heap_set_ne, heap_drew', Option.map_some, putO_cells, A2]
    · exact (heap_old (by simp)).trans (heap_at rfl)
    · simp (disch := (first | omega | (simp only [World.size_alloc, World.size_setCell, World.size_drew] <;> omega) | fail)) only [Blk, heap_old, heap_at, heap_set_same, heap_set_ne, heap_drew', Option.map_some, putO_cells, G2]
  case round =>
    obtain ⟨k, hk, rfl, C1, C2, C3, CG, hB⟩ := hrel
    clear A2 hB2
    have d1 := C1.lt
    have d2 := C2.lt
    have d3 := C3.lt
    have c3 := C3.cell
    have f3 := C3.free
    have hgr : g < wr.heap.size := by omega
    have hw2 : w.heap.size ≤ wr.heap.size := hB.size
    rcases Nat.lt_or_ge k l.length with hlt | hge
    · obtain ⟨z, hz⟩ : ∃ z, l[k]? = some z := ⟨_, List.getElem?_eq_getElem hlt⟩
      have zI := HZ.out z (List.mem_of_getElem? hz)
      have tok := Lib.hid (ofs_ok (l.take k) (fun y hy => HZ.out y (List.mem_of_mem_take hy)))
      have HS := Lib.hid (ofs_snoc l k z hz)
      have e0 : wr.cell? ⟨g, k, none⟩ = some (.int .i64 z) := (World.cell?_of_block (a := ⟨g, k, none⟩) CG).trans (HM0.out k _ (by rw [List.getElem?_map, hz]; rfl))
      clear hz
      generalize ofs (l.take k) = r at *
      go_wp2_with fail
      (refine region_keep (fun x => x < wr.heap.size) 6 [(0, true), (1, true), (2, true), (3, true), (4, true), (5, false)] (by kernel_rfl) (fun _ _ d _ _ h => by cases d <;> exact h) (by kernel_rfl) ?_; simp only [withOps, List.getElem?_toArray, List.getElem?_cons_zero, List.getElem?_cons_succ, List.drop_succ_cons, List.drop_zero])
      (repeat (refine keep_quiet (v := ?_) rfl ?_ ?_; rotate_left; (focus (intro w' hw'; go_simp; (try with_reducible rfl); done)); try simp only [Act.put, List.setIfInBounds_toArray, List.set_cons_zero, List.set_cons_succ]))
      (with_reducible refine plan_loud (fun K hK => ?_))
      go_simp
      refine (add_any r z _ tok.out zI.1 zI.2).mono ?_
      rintro en w3 ⟨rfl, hb⟩
      refine hK _ _ ((Keep.refl _ _).below hb (fun _ h => h)) ?_
      clear hK K
      (with_reducible refine plan_end ?_)
      (try simp only [Act.put, List.setIfInBounds_toArray, List.set_cons_zero, List.set_cons_succ])
      have hB3 : Below w.heap.size w w3 := bnext (by go_grown) hb
      have E1 : Blk w3 w.heap.size 24 t.cells.toArray := Blk.below (by unfold Blk at C1; simp (disch := (first | omega | (simp only [World.size_alloc, World.size_setCell, World.size_drew] <;> omega) | fail)) only [Blk, heap_old, heap_at, heap_set_same, heap_set_ne, heap_drew', Option.map_some, putO_cells, C1]) hb
      have E2 : Blk w3 w2.heap.size 24 q.cells.toArray := Blk.below (by unfold Blk at C2; simp (disch := (first | omega | (simp only [World.size_alloc, World.size_setCell, World.size_drew] <;> omega) | fail)) only [Blk, heap_old, heap_at, heap_set_same, heap_set_ne, heap_drew', Option.map_some, putO_cells, C2]) hb
      have E3 : Blk w3 (w2.heap.size + 1) 24 r.cells.toArray := Blk.below (by unfold Blk at C3; simp (disch := (first | omega | (simp only [World.size_alloc, World.size_setCell, World.size_drew] <;> omega) | fail)) only [Blk, heap_old, heap_at, heap_set_same, heap_set_ne, heap_drew', Option.map_some, putO_cells, C3]) hb
      have EG : w3.heap[g]? = w1.heap[g]? := (hb.block g (by simpa using hgr)).trans CG
      have s3 := hb.size
      simp at s3
      clear C1 C2 C3 CG c3 f3 hb hB e0
      have c3 := E3.cell
      have f3 := E3.free
      have d3' := E3.lt
      go_wp2_with fail
      go_roundw
      case rel =>
        refine ⟨k + 1, by omega, by go_num, ?_, ?_, ?_, ?_, by go_grown⟩
        · unfold Blk at E1; simp (disch := (first | omega | (simp only [World.size_alloc, World.size_setCell, World.size_drew] <;> omega) | fail)) only [Blk, heap_old, heap_at, heap_set_same, heap_set_ne, heap_drew', Option.map_some, putO_cells, E1]
        · unfold Blk at E2; simp (disch := (first | omega | (simp only [World.size_alloc, World.size_setCell, World.size_drew] <;> omega) | fail)) only [Blk, heap_old, heap_at, heap_set_same, heap_set_ne, heap_drew', Option.map_some, putO_cells, E2]
        · rw [HS.out]
          unfold Blk at E3; simp (disch := (first | omega | (simp only [World.size_alloc, World.size_setCell, World.size_drew] <;> omega) | fail)) only [Blk, heap_old, heap_at, heap_set_same, heap_set_ne, heap_drew', Option.map_some, putO_cells, E3]; simp; done
        · simp (disch := (first | omega | (simp only [World.size_alloc, World.size_setCell, World.size_drew] <;> omega) | fail)) only [Blk, heap_old, heap_at, heap_set_same, heap_set_ne, heap_drew', Option.map_some, putO_cells, EG]
      case measure => simp [intOf]; omega
    · obtain rfl : k = l.length := by omega
      rw [List.take_length, HQ.out] at C3
      clear c3 f3
      go_wp2_with fail
      refine (refOf_any a cap l _ (by omega) HZ.out ((HR.out.below hB).more hw2)).mono ?_
      rintro en w4 ⟨rfl, hb⟩
      rw [HQ.out]
      have hB4 : Below w.heap.size w w4 := bnext (by go_grown) hb
      have E1 : Blk w4 w.heap.size 24 t.cells.toArray := Blk.below (by unfold Blk at C1; simp (disch := (first | omega | (simp only [World.size_alloc, World.size_setCell, World.size_drew] <;> omega) | fail)) only [Blk, heap_old, heap_at, heap_set_same, heap_set_ne, heap_drew', Option.map_some, putO_cells, C1]) hb
      have E2 : Blk w4 w2.heap.size 24 q.cells.toArray := Blk.below (by unfold Blk at C2; simp (disch := (first | omega | (simp only [World.size_alloc, World.size_setCell, World.size_drew] <;> omega) | fail)) only [Blk, heap_old, heap_at, heap_set_same, heap_set_ne, heap_drew', Option.map_some, putO_cells, C2]) hb
      have E3 : Blk w4 (w2.heap.size + 1) 24 q.cells.toArray := Blk.below (by unfold Blk at C3; simp (disch := (first | omega | (simp only [World.size_alloc, World.size_setCell, World.size_drew] <;> omega) | fail)) only [Blk, heap_old, heap_at, heap_set_same, heap_set_ne, heap_drew', Option.map_some, putO_cells, C3]) hb
      have EG : w4.heap[g]? = w1.heap[g]? := (hb.block g (by simpa using hgr)).trans CG
      have hg4 : g < w4.heap.size := Nat.lt_of_lt_of_le hgr (by simpa using hb.size)
      clear C1 C2 C3 CG hb hB
      have e1 := E1.lt
      have e3 := E3.lt
      go_wp2_with fail
      refine wp_at (fun wc => Blk wc w.heap.size 24 t.cells.toArray ∧ Blk wc w2.heap.size 24 q.cells.toArray ∧ Blk wc (w2.heap.size + 1) 24 q.cells.toArray ∧ Blk wc w4.heap.size 24 q.cells.toArray ∧ wc.heap[g]? = w1.heap[g]? ∧ Below w.heap.size w wc) ⟨?_, ?_, ?_, ?_, ?_, by go_grown⟩ ?_
      · unfold Blk at E1; simp (disch := (first | omega | (simp only [World.size_alloc, World.size_setCell, World.size_drew] <;> omega) | fail)) only [Blk, heap_old, heap_at, heap_set_same, heap_set_ne, heap_drew', Option.map_some, putO_cells, E1]
      · unfold Blk at E2; simp (disch := (first | omega | (simp only [World.size_alloc, World.size_setCell, World.size_drew] <;> omega) | fail)) only [Blk, heap_old, heap_at, heap_set_same, heap_set_ne, heap_drew', Option.map_some, putO_cells, E2]
      · unfold Blk at E3; simp (disch := (first | omega | (simp only [World.size_alloc, World.size_setCell, World.size_drew] <;> omega) | fail)) only [Blk, heap_old, heap_at, heap_set_same, heap_set_ne, heap_drew', Option.map_some, putO_cells, E3]
      · exact heap_at rfl
      · simp (disch := (first | omega | (simp only [World.size_alloc, World.size_setCell, World.size_drew] <;> omega) | fail)) only [Blk, heap_old, heap_at, heap_set_same, heap_set_ne, heap_drew', Option.map_some, putO_cells, EG]
      rintro wc ⟨F1, F2, F3, F4, FG, hBc⟩
      clear E1 E2 E3 EG hB4
      have c1 := F1.cell
      have c2 := F2.cell
      have c3 := F3.cell
      have c4 := F4.cell
      have m1 := F1.lt
      have m2 := F2.lt
      have m3 := F3.lt
      have m4 := F4.lt
      have mg : g < wc.heap.size := by omega
      (refine region_keep (fun x => x < wc.heap.size) 20 [(0, true), (1, true), (2, true), (3, true), (4, true), (5, true), (6, true), (7, true), (8, true), (9, true), (10, true), (12, true), (13, true), (11, false), (14, false), (15, true), (16, true), (17, true), (18, true), (19, true)] (by kernel_rfl) (fun _ _ d _ _ h => by cases d <;> exact h) (by kernel_rfl) ?_; simp only [withOps, List.getElem?_toArray, List.getElem?_cons_zero, List.getElem?_cons_succ, List.drop_succ_cons, List.drop_zero])
      (repeat (refine keep_quiet (v := ?_) rfl ?_ ?_; rotate_left; (focus (intro w' hw'; go_simp; (try with_reducible rfl); done)); try simp only [Act.put, List.setIfInBounds_toArray, List.set_cons_zero, List.set_cons_succ]))
      (with_reducible refine plan_loud (fun K hK => ?_))
      go_simp
      refine (add_any t v _ HT.out HV.out.1 HV.out.2).mono ?_
      rintro en w5 ⟨rfl, hb⟩
      have z5 : wc.heap.size ≤ w5.heap.size := hb.size
      have hB5 : Below wc.heap.size wc w5 := bnext (w := wc) (by go_grown) hb
      refine hK _ _ ((Keep.refl _ _).below hb (fun _ h => h)) ?_
      clear hK K hb
      (try simp only [Act.put, List.setIfInBounds_toArray, List.set_cons_zero, List.set_cons_succ])
      (with_reducible refine plan_loud (fun K hK => ?_))
      go_simp
      refine (refAdd_any t v _ HT.out HV.out.1 HV.out.2).mono ?_
      rintro en w6 ⟨rfl, hb⟩
      have hB6 : Below wc.heap.size wc w6 := hB5.trans (hb.mono z5)
      refine hK _ _ ((Keep.refl _ _).below hb (fun _ h => Nat.lt_of_lt_of_le h z5)) ?_
      clear hK K hb
      (try simp only [Act.put, List.setIfInBounds_toArray, List.set_cons_zero, List.set_cons_succ])
      (repeat (refine keep_quiet (v := ?_) rfl ?_ ?_; rotate_left; (focus (intro w' hw'; go_simp; (try with_reducible rfl); done)); try simp only [Act.put, List.setIfInBounds_toArray, List.set_cons_zero, List.set_cons_succ]))
      (with_reducible refine plan_end ?_)
      (try simp only [Act.put, List.setIfInBounds_toArray, List.set_cons_zero, List.set_cons_succ])
      have hB7 : Below w.heap.size w w6 := hBc.trans (hB6.mono hBc.size)
      have GG : w6.heap[g]? = w1.heap[g]? := (hB6.block g mg).trans FG
      have mg6 : g < w6.heap.size := Nat.lt_of_lt_of_le mg hB6.size
      clear F1 F2 F3 F4 FG hBc c1 c2 c3 c4 hB5 hB6
      go_wp2_with fail
      refine (kept_any g c a l.length cap l _ rfl (by omega) hc mg6 (fun j u hu => (World.cell?_of_block (a := ⟨g, j, none⟩) GG).trans (HM.out j u hu)) ((HR.out.below hB7).more hB7.size)).mono ?_
      rintro en w8 ⟨rfl, hb⟩
      have hB8 : Below w.heap.size w w8 := bnext (by go_grown) hb
      clear hb
      go_wp2_with fail
      refine (works_any _).mono ?_
      rintro en w9 ⟨rfl, hb⟩
      have hB9 : Below w.heap.size w w9 := bnext (by go_grown) hb
      clear hb
      go_wp2_with fail
      go_returns
      exact ⟨rfl, by go_grown⟩
end Go.Proofs.YtkafcdgeboldgaaDoor
