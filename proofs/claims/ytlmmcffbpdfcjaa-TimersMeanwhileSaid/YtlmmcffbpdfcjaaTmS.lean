/- Set. -/
import Derived.Test.YtlmmcffbpdfcjaaTmDn
import Derived.Laws.AppendOwnNone
import Derived.Test.YtlmmcffbpdfcjaaApp
set_option linter.unusedSimpArgs false
set_option linter.unusedVariables false
namespace Go.Proofs.Ytlmmcffbpdfcjaa
open Go.RowKit Go.Kp Go.ChangeMaps

/-- A queue of the timers L. -/
structure Tq (w : World) (q m : Nat) (v : Value) (L : List Tm.T) (M : Tm.T → Option Nat) : Prop where
  raw : Raw w q m v L M
  full : Tm.Full M L
  heap : Tm.Heap L
/-- The queue alone has turned; its heap may lie elsewhere. -/
structure Turn (w w' : World) (q m : Nat) (v v' : Value) : Prop where
  fr : Fr (foot q m v) w w'
  own : v'.ownBlock = v.ownBlock ∨ ∀ g, v'.ownBlock = some g → w.heap.size ≤ g
theorem Turn.foot {w w' : World} {q m : Nat} {v v' : Value} (h : Turn w w' q m v v') : ∀ b, foot q m v' b → foot q m v b ∨ w.heap.size ≤ b := by
  rintro b (e | e | e)
  · exact .inl (.inl e)
  · exact .inl (.inr (.inl e))
  · rcases h.own with h1 | h1
    · exact .inl (.inr (.inr (h1 ▸ e)))
    · exact .inr (h1 b e)
theorem Turn.refl {w : World} {q m : Nat} {v : Value} : Turn w w q m v v := ⟨Fr.refl _ _, .inl rfl⟩
theorem Turn.trans {w w1 w2 : World} {q m : Nat} {v v1 v2 : Value} (h : Turn w w1 q m v v1) (k : Turn w1 w2 q m v1 v2) : Turn w w2 q m v v2 := by
  refine ⟨⟨k.fr.os.trans h.fr.os, k.fr.tape.trans h.fr.tape, k.fr.output.trans h.fr.output, Nat.le_trans h.fr.size k.fr.size, fun b hb hn => ?_⟩, ?_⟩
  · refine (k.fr.block b (Nat.lt_of_lt_of_le hb h.fr.size) (fun hf => ?_)).trans (h.fr.block b hb hn)
    rcases h.foot b hf with h1 | h1
    · exact hn h1
    · omega
  · rcases k.own with h1 | h1
    · rcases h.own with h2 | h2
      · exact .inl (h1.trans h2)
      · exact .inr fun g hg => h2 g (h1 ▸ hg)
    · exact .inr fun g hg => Nat.le_trans h.fr.size (h1 g hg)
theorem Turn.next {w w1 w2 : World} {q m : Nat} {v v1 : Value} (h : Turn w w1 q m v v1) (k : Below w1.heap.size w1 w2) : Turn w w2 q m v v1 := h.trans ⟨Fr.next k, .inl rfl⟩
theorem Turn.of {w w1 : World} {q m : Nat} {v : Value} (k : Below w.heap.size w w1) : Turn w w1 q m v v := ⟨Fr.next k, .inl rfl⟩
theorem Tq.below {w w' : World} {q m : Nat} {v : Value} {L : List Tm.T} {M : Tm.T → Option Nat} (h : Tq w q m v L M) (hb : Below w.heap.size w w') : Tq w' q m v L M := ⟨h.raw.below hb, h.full, h.heap⟩
theorem Tq.same {w w' : World} {q m : Nat} {v : Value} {L : List Tm.T} {M : Tm.T → Option Nat} (h : Tq w q m v L M) (hk : ∀ b, foot q m v b → w'.heap[b]? = w.heap[b]?) : Tq w' q m v L M := ⟨h.raw.same hk, h.full, h.heap⟩

theorem info25 : (Try.prog.info? 25).map (fun i => (i.zero, i.size, i.bytes)) = some (some (.agg #[.int .i64 0, .string ⟨#[]⟩, .int .i64 0, .int .i64 0]), 4, 40) := by kernel_rfl

theorem below_drewN {B : Nat} {w w1 : World} (h : Below B w w1) (n : Nat) : Below B w (w1.drewN n) := ⟨h.os, h.tape, h.output, h.size, h.block⟩
/-- append of timers that are read, nil or not, to a row that the call owns. -/
theorem wp_append_tms {w : World} {o : Oper} {a : Act} {K : Act → World → Prop} {Q : Exit → Act → World → Prop} (s x : Operand)
    (ho : o.op = .call { callee := .builtin .append, args := #[s, x], argTypes := #[29, 29] })
    (base : Nat) (v : Value) (n : Nat) (l0 : List Tm.T) (hs : a.eval s = v) (hown : w.ownsRow base 25 4 v n (l0.flatMap cT))
    (ad : Option Addr) (m c : Nat) (l : List Tm.T) (hx : a.eval x = .slice ad m c) (hn : ad = none → c = 0) (hl : l.length = m) (hr : Rd w w.heap.size ad (l.flatMap cT))
    (hb : n + m ≤ 5000000000000) (hbase : base ≤ w.heap.size)
    (h : ∀ v' w', w'.ownsRow base 25 4 v' (n + m) ((l0 ++ l).flatMap cT) → w.grownBy w' v.ownBlock → (v'.ownBlock = v.ownBlock ∨ v'.ownBlock = some w.heap.size) → K (a.put o.dst v') w') :
    o.wp Try.prog a w K Q := by
  obtain ⟨i0, hi, hz0, hz1, hz2⟩ := info_parts info25
  have key : ∀ (ad : Addr), a.eval x = .slice (some ad) m c → (∀ j u, (l.flatMap cT)[j]? = some u → w.cell? (ad.add j) = some u) → o.wp Try.prog a w K Q := fun ad hx hc => by
    obtain ⟨v', w', hr, h2, h3, h5⟩ := append_wide (P := Try.prog) (w := w) base 29 o.type 25 i0 _ 4 40 Try.underlying29 hi hz0 hz1 hz2 rfl (by omega) v n _ hown ad m c (l.flatMap cT) (by rw [flat_length cT 4 cT_len, hl]) hc (fun u hu => by
      obtain ⟨z, _, hz⟩ := List.mem_flatMap.1 hu
      simp [cT] at hz
      rcases hz with h | h | h | h <;> subst h <;> rfl) (by unfold maxLen; omega) (by omega) hbase
    unfold Oper.wp execOp
    simp only [ho, resolve, invoke, builtin, Sem.run_bind, Sem.run_pure, Result.andThen_ok, List.map_toArray, List.map_cons, List.map_nil, hs, hx, hr]
    exact h v' w' (by rw [List.flatMap_append]; exact h2) h3 h5
  cases ad with
  | none =>
    have h0 : l = [] := by
      rcases hr with hr | ⟨b, off, h, _⟩
      · have := flat_length cT 4 cT_len l
        rw [hr] at this
        exact List.eq_nil_of_length_eq_zero (by simp at this; omega)
      · cases h
    subst h0
    have hc := hn rfl
    subst hc
    simp at hl
    subst hl
    have hrun := run_append_owned_none (P := Try.prog) (w := w) base 29 o.type 25 i0 4 Try.underlying29 hi v n _ hown
    unfold Oper.wp
    simp [execOp, ho, resolve, invoke, builtin, hs, hx, hrun, Result.andThen]
    exact h v w (by simpa using hown) (World.grownBy.refl _ _) (.inl rfl)
  | some ad =>
    refine key ad hx fun j u hu => ?_
    rcases hr with hr | ⟨b, off, h, _, hc⟩
    · rw [hr] at hu; simp at hu
    · cases h
      rw [Go.WideShapes.add_plain]
      exact hc j u hu
theorem append_tms {w : World} {ops : Array Oper} {rest : List Oper} {o : Oper} {a : Act} {Q : Exit → Act → World → Prop} (hgd : o.guard = none) (s x : Operand)
    (ho : o.op = .call { callee := .builtin .append, args := #[s, x], argTypes := #[29, 29] })
    (base : Nat) (v : Value) (n : Nat) (l0 : List Tm.T) (hs : a.eval s = v) (hown : w.ownsRow base 25 4 v n (l0.flatMap cT))
    (ad : Option Addr) (m c : Nat) (l : List Tm.T) (hx : a.eval x = .slice ad m c) (hn : ad = none → c = 0) (hl : l.length = m) (hr : Rd w w.heap.size ad (l.flatMap cT))
    (hb : n + m ≤ 5000000000000) (hbase : base ≤ w.heap.size)
    (h : ∀ v' w', w'.ownsRow base 25 4 v' (n + m) ((l0 ++ l).flatMap cT) → w.grownBy w' v.ownBlock → (v'.ownBlock = v.ownBlock ∨ v'.ownBlock = some w.heap.size) → wpList Try.prog ops Q rest (a.put o.dst v') w') :
    wpList Try.prog ops Q (o :: rest) a w :=
  wpList_plain hgd fun K' hK' => wp_append_tms s x ho base v n l0 hs hown ad m c l hx hn hl hr hb hbase fun v' w' h1 h2 h3 => hK' _ _ (h v' w' h1 h2 h3)

/-- What Set leaves. -/
def SetP (w w' : World) (q m : Nat) (v : Value) (L : List Tm.T) (t : Tm.T) : Prop := ∃ v' L' M', Tq w' q m v' L' M' ∧ L'.Perm (if t ∈ L then L else t :: L) ∧ Turn w w' q m v v'

theorem Full_look {M : Tm.T → Option Nat} {L : List Tm.T} (h : Tm.Full M L) (t : Tm.T) : (M t).isSome = decide (t ∈ L) := by
  by_cases ht : t ∈ L
  · obtain ⟨j, hj, _⟩ := h.has ht
    simp [hj, ht]
  · simp [h.none ht, ht]

theorem heap_of {L : List Tm.T} {i : Nat} (h : Tm.Hole L i) (he : 0 < i → Tm.Edge L i) (hk : Tm.Kids L i) : Tm.Heap L := by
  intro j hj
  by_cases e : j = i
  · subst e; exact he hj
  · by_cases e2 : (j - 1) / 2 = i
    · exact hk j hj e2
    · exact h.far j hj e e2

/-- The heap is one timer longer, and the queue's block says so. -/
theorem Raw.snoc {w3 W3 w4 : World} {q m : Nat} {v v' : Value} {L : List Tm.T} {M : Tm.T → Option Nat} {t : Tm.T} (h : Raw w3 q m v L M) (hb : Below w3.heap.size w3 W3) (hg : W3.grownBy w4 v.ownBlock)
    (ho : w4.ownsRow 0 25 4 v' (L.length + 1) ((L ++ [t]).flatMap cT)) (hv : v'.ownBlock = v.ownBlock ∨ v'.ownBlock = some W3.heap.size) (ht : Ok t) (hlen : L.length < 5000000000000) :
    Raw (w4.setCell ⟨q, 0, none⟩ v') q m v' (L ++ [t]) M ∧ Turn w3 (w4.setCell ⟨q, 0, none⟩ v') q m v v' ∧ ∀ b, b < w3.heap.size → b ≠ q → v.ownBlock ≠ some b → (w4.setCell ⟨q, 0, none⟩ v').heap[b]? = w3.heap[b]? := by
  have h4 : ∀ b, b < w3.heap.size → v.ownBlock ≠ some b → w4.heap[b]? = w3.heap[b]? := fun b hlt hne => (hg.block b (Nat.lt_of_lt_of_le hlt hb.size) (fun e => hne e.symm)).trans (hb.block b hlt)
  have h5 : ∀ b, b < w3.heap.size → b ≠ q → v.ownBlock ≠ some b → (w4.setCell ⟨q, 0, none⟩ v').heap[b]? = w3.heap[b]? := fun b hlt hq hne => (heap_set_ne _ _ _ _ _ hq).trans (h4 b hlt hne)
  have hq4 : w4.heap[q]? = some (.cells #[v, .map (some m)] 59 (0, 0)) := (h4 q h.bq.lt h.vq).trans h.bq
  have hvq : v'.ownBlock ≠ some q := by
    rcases hv with e | e
    · rw [e]; exact h.vq
    · rw [e]; intro e2; have := h.bq.lt; have := hb.size; cases e2; omega
  have hvm : v'.ownBlock ≠ some m := by
    rcases hv with e | e
    · rw [e]; exact h.vm
    · rw [e]; intro e2; have := h.bm.lt; have := hb.size; cases e2; omega
  refine ⟨⟨?_, ?_, h.bm.same (h5 m h.bm.lt (fun e => h.qm e.symm) h.vm), h.qm, hvq, hvm, fun x hx => ?_, by simp; omega⟩, ⟨⟨?_, ?_, ?_, ?_, ?_⟩, ?_⟩, h5⟩
  · unfold Blk
    rw [heap_set_same, hq4]
    rfl
  · rw [List.length_append]
    exact owns_same ho fun b hb2 => heap_set_ne _ _ _ _ _ (fun e => hvq (by rw [hb2, e]))
  · rcases List.mem_append.1 hx with h1 | h1
    · exact h.ok x h1
    · simp at h1; rw [h1]; exact ht
  · exact hg.os.trans hb.os
  · exact hg.tape.trans hb.tape
  · exact hg.output.trans hb.output
  · rw [World.size_setCell]; exact Nat.le_trans hb.size hg.size
  · intro b hlt hn
    exact h5 b hlt (fun e => hn (.inl e)) (fun e => hn (.inr (.inr e)))
  · rcases hv with e | e
    · exact .inl e
    · exact .inr fun g hg2 => by rw [e] at hg2; cases hg2; exact hb.size

set_option maxHeartbeats 2000000 in
theorem Set_any {w : World} {q m : Nat} {v : Value} {L : List Tm.T} {M : Tm.T → Option Nat} (h : Tq w q m v L M) (t : Tm.T) (ht : Ok t) (hlen : L.length < 5000000000000) :
    Calls Try.prog 27 #[ptr q, vT t] w fun en w' => en = .returned (.tuple #[.bool (decide (t ∉ L)), .int .i64 0]) ∧ SetP w w' q m v L t := by
  have H := Lib.hid h
  clear h
  go_enter Try.func27, Try.ntmps27
  go_upto_region 1 with (fail)
  (refine wp_at (fun w1 => Blk w1 w.heap.size 25 (cT t).toArray ∧ Below w.heap.size w w1) ⟨heap_at rfl, by go_grown⟩ ?_)
  rintro w1 ⟨A, hB1⟩
  have H1 := Lib.hid (H.out.below hB1)
  go_wp2_with fail
  refine (none_any H1.out.raw).mono ?_
  rintro en w2 ⟨rfl, hb2⟩
  have H2 := Lib.hid (H1.out.below hb2)
  have HT2 := Lib.hid (show Turn w w2 q m v v from (Turn.of hB1).next hb2)
  have A2 : Blk w2 w.heap.size 25 (cT t).toArray := A.below hb2
  clear hB1 hb2 A
  have lA := A2.lt
  have a0 := A2.cell 0
  have a1 := A2.cell 1
  have a2 := A2.cell 2
  have a3 := A2.cell 3
  have q0 := H2.out.raw.bq.cell 0
  have q1 := H2.out.raw.bq.cell 1
  simp only [List.getElem?_toArray, List.getElem?_cons_zero, List.getElem?_cons_succ] at a0 a1 a2 a3 q0 q1
  have hlook := fun n => (H2.out.raw.bm.same (w' := w2.drewN n) rfl).look ht
  rw [Full_look H2.out.full t] at hlook
  go_upto_region 3 with (fail)
  go_quiet (fail)
  have hA3 : Blk (w2.drewN nq) w.heap.size 25 (cT t).toArray := A2
  have HB3 := Lib.hid (below_drewN (Below.refl w2.heap.size w2) nq)
  by_cases hin : t ∈ L
  · have hd : decide (t ∈ L) = true := by simp [hin]
    simp only [hd]
    have HIN := Lib.hid hin
    clear hin hd
    go_wp2_with fail
    go_returns
    exact ⟨by simp [HIN.out], v, L, M, H2.out.below HB3.out, by rw [if_pos HIN.out], HT2.out.next HB3.out⟩
  · have hd : decide (t ∈ L) = false := by simp [hin]
    simp only [hd]
    have H3 := Lib.hid (H2.out.below HB3.out)
    have HT3 := Lib.hid (HT2.out.next HB3.out)
    have HIN := Lib.hid hin
    clear a0 a1 a2 a3 q0 q1 hlook A2 lA hd hin
    go_upto_region 6 with (fail)
    (refine wp_at (fun w3 => Tq w3 q m v L M ∧ Turn w w3 q m v v ∧ Blk w3 w.heap.size 25 (cT t).toArray) ⟨H3.out, HT3.out, hA3⟩ ?_)
    clear H3 HT3 hA3
    rintro w3 ⟨hQ3, hT3, A⟩
    have H3 := Lib.hid hQ3
    have HT3 := Lib.hid hT3
    clear hQ3 hT3
    have lA := A.lt
    have a0 := A.cell 0
    have a1 := A.cell 1
    have a2 := A.cell 2
    have a3 := A.cell 3
    have q0 := H3.out.raw.bq.cell 0
    simp only [List.getElem?_toArray, List.getElem?_cons_zero, List.getElem?_cons_succ] at a0 a1 a2 a3 q0
    go_wp2_with (go_in)
    (refine region_keep (fun b => b = q ∨ b = w.heap.size) 8 [(0, true), (1, true), (2, true), (3, true), (4, true), (5, true), (6, false), (7, false)] (by kernel_rfl) (fun _ _ d _ _ h => by cases d <;> exact h) (by kernel_rfl) ?_; simp only [withOps, List.getElem?_toArray, List.getElem?_cons_zero, List.getElem?_cons_succ, List.drop_succ_cons, List.drop_zero])
    (iterate 6 (refine keep_quiet (v := ?_) rfl ?_ ?_; rotate_left; (focus (intro w' hw'; go_simp; (try with_reducible rfl); done)); try simp only [Act.put, List.setIfInBounds_toArray, List.set_cons_zero, List.set_cons_succ]))
    (with_reducible refine plan_loud (fun K hK => ?_))
    go_simp
    refine hK _ _ ?_ ?_
    · exact (Keep.refl _ _).alloc (by have := H3.out.raw.bq.lt; rintro b (rfl | rfl) <;> simpa using (by assumption)) _
    clear hK K
    (try simp only [Act.put, List.setIfInBounds_toArray, List.set_cons_zero, List.set_cons_succ])
    (with_reducible refine plan_loud (fun K hK => ?_))
    simp only [Region.wanted, if_pos]
    refine wp_append_tms (.tmp 24) (.tmp 26) rfl 0 v L.length L rfl (H3.out.raw.bv.alloc _) (some ⟨w3.heap.size, 0, none⟩) 1 1 [t] rfl (fun h => by cases h) rfl ?_ (by omega) (Nat.zero_le _) ?_
    · exact .inr ⟨w3.heap.size, 0, rfl, by simp, fun j u hu => by
        rw [Nat.zero_add]
        have hb : Blk ((w3.alloc (.cells (cT t).toArray 25 (0, 0))).drew) w3.heap.size 25 (cT t).toArray := heap_at rfl
        exact (hb.cell j).trans (by simpa using hu)⟩
    intro v' w4 ho4 hg4 hv4
    have hb3 : Below w3.heap.size w3 ((w3.alloc (.cells (cT t).toArray 25 (0, 0))).drew) := by go_grown
    have HS := Lib.hid (Raw.snoc H3.out.raw hb3 hg4 ho4 hv4 ht hlen)
    have hk4 : ∀ b, b < w3.heap.size → v.ownBlock ≠ some b → w4.heap[b]? = w3.heap[b]? := fun b h1 h2 => (hg4.block b (Nat.lt_of_lt_of_le h1 hb3.size) (fun e => h2 e.symm)).trans (hb3.block b h1)
    have Q4 : Blk w4 q 59 #[v, .map (some m)] := (hk4 q H3.out.raw.bq.lt H3.out.raw.vq).trans H3.out.raw.bq
    have hvt : v.ownBlock ≠ some w.heap.size := fun e => by
      have := (H.out.raw.bv.lt _ e).2
      omega
    have hqt : w.heap.size ≠ q := by
      have := H.out.raw.bq.lt
      omega
    refine hK _ _ ?_ ?_
    · rintro b (rfl | rfl)
      · exact hg4.block _ (by have := H3.out.raw.bq.lt; simp; omega) (fun e => H3.out.raw.vq e.symm)
      · exact hg4.block _ (by simp; omega) (fun e => hvt e.symm)
    clear hK K
    (with_reducible refine plan_end ?_)
    (try simp only [Act.put, List.setIfInBounds_toArray, List.set_cons_zero, List.set_cons_succ])
    obtain ⟨g4, cap4, rfl, _⟩ := ho4.form (by omega)
    clear ho4 hg4 hv4 hb3 a0 a1 a2 a3 q0
    have lq := Q4.lt
    have fq := Q4.free 0
    have cq := Q4.cell 0
    go_upto_region 7 with (fail)
    (refine wp_at (fun w5 => Raw w5 q m (.slice (some ⟨g4, 0, none⟩) (L.length + 1) cap4) (L ++ [t]) M ∧ Turn w w5 q m v (.slice (some ⟨g4, 0, none⟩) (L.length + 1) cap4)) ⟨HS.out.1, HT3.out.trans HS.out.2.1⟩ ?_)
    rintro w5 ⟨hR5, hT5⟩
    have H5 := Lib.hid hR5
    have HT5 := Lib.hid hT5
    have q0 := hR5.bq.cell 0
    simp only [List.getElem?_toArray, List.getElem?_cons_zero, List.getElem?_cons_succ] at q0
    clear hR5 hT5 cq fq lq Q4 hk4 HS
    go_wp2_with fail
    obtain ⟨hU, hK0, hN⟩ := Tm.Heap.snoc H3.out.heap H3.out.full t HIN.out
    refine (up_any H5.out L.length t hU.at_ hU.hole hU.place hN).mono ?_
    rintro en w6 ⟨rfl, L', i', M', hup⟩
    have hfin : SetP w w6 q m v L t := ⟨_, L', M', ⟨hup.raw, hup.full, heap_of hup.hole hup.edge (hup.kids hK0)⟩, by
      rw [if_neg HIN.out]
      exact hup.perm.trans (List.perm_append_singleton t L), HT5.out.trans ⟨hup.fr, .inl rfl⟩⟩
    clear hU hK0 hN hup
    go_wp2_with fail
    go_returns
    exact ⟨by simp [HIN.out], hfin⟩
end Go.Proofs.Ytlmmcffbpdfcjaa
