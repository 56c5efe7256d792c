/- The program's Read. -/
import Derived.Test.YtolbmjilcngnhaaDoorFrG
set_option linter.unusedSimpArgs false
set_option linter.unusedVariables false
namespace Go.Proofs.YtolbmjilcngnhaaDoor
open Go.RowKit Go.Kp

/-- append of bytes, as an operation by itself. -/
theorem wp_append_bytes {w : World} {o : Oper} {a : Act} {K : Act → World → Prop} {Q : Exit → Act → World → Prop} (s x : Operand)
    (ho : o.op = .call { callee := .builtin .append, args := #[s, x], argTypes := #[22, 22] })
    (base : Nat) (v : Value) (n : Nat) (xs : List Value) (hs : a.eval s = v) (hown : w.ownsRow base 5 1 v n xs)
    (ad : Option Addr) (m c : Nat) (l : List UInt8) (hx : a.eval x = .slice ad m c) (hn : ad = none → c = 0) (hl : l.length = m) (hr : Rd w w.heap.size ad (l.map B8))
    (hb : n + m ≤ 140737488355328) (hbase : base ≤ w.heap.size)
    (h : ∀ v' w', w'.ownsRow base 5 1 v' (n + m) (xs ++ l.map B8) → w.grownBy w' v.ownBlock → (v'.ownBlock = v.ownBlock ∨ v'.ownBlock = some w.heap.size) → K (a.put o.dst v') w') :
    o.wp Tryd.prog a w K Q := by
  obtain ⟨i0, hi, hz0, hz1, hz2⟩ := info_parts info8
  have key : ∀ (ad : Addr), a.eval x = .slice (some ad) m c → (∀ j u, (l.map B8)[j]? = some u → w.cell? (ad.add j) = some u) → o.wp Tryd.prog a w K Q := fun ad hx hc => by
    obtain ⟨v', w', hr, h2, h3, h4, h5⟩ := run_append_own_at (P := Tryd.prog) w base 22 o.type 5 i0 _ 1 1 Tryd.underlying22 hi hz0 hz1 hz2 rfl (by omega) v n xs hown ad m c (l.map B8) (by simp [hl]) hc (fun u hu => by obtain ⟨z, _, rfl⟩ := List.mem_map.1 hu; rfl) (by unfold maxLen; omega) (by omega) hbase
    unfold Oper.wp execOp
    simp only [ho, resolve, invoke, builtin, Sem.run_bind, Sem.run_pure, Result.andThen_ok, List.map_toArray, List.map_cons, List.map_nil, hs, hx, hr]
    exact h v' w' h2 h3 h5
  cases ad with
  | none =>
    have h0 : l = [] := by
      rcases hr with hr | ⟨b, off, h, _⟩
      · exact List.map_eq_nil_iff.1 hr
      · cases h
    subst h0
    have hc := hn rfl
    subst hc
    simp at hl
    subst hl
    have hrun := run_append_owned_none (P := Tryd.prog) (w := w) base 22 o.type 5 i0 1 Tryd.underlying22 hi v n xs hown
    unfold Oper.wp
    simp [execOp, ho, resolve, invoke, builtin, hs, hx, hrun, Result.andThen]
    exact h v w (by simpa using hown) (World.grownBy.refl _ _) (.inl rfl)
  | some ad =>
    refine key ad hx fun j u hu => ?_
    rcases hr with hr | ⟨b, off, h, _, hc⟩
    · rw [hr] at hu; simp at hu
    · cases h
      rw [Go.WideShapes.add_plain]
      exact hc j u hu

theorem look_bd (l : List UInt8) (f e : Nat) (h : Frm.look l = (f, e, 0)) : 1 ≤ f ∧ f ≤ e ∧ e + 4 ≤ l.length := by
  unfold Frm.look at h
  split at h
  · simp at h
  · rename_i x r
    split at h
    · rename_i hh
      simp only [Prod.mk.injEq] at h
      exact absurd h.2.2 hh
    · split at h
      · simp at h
      · rename_i h2
        split at h
        · simp at h
        · simp only [Prod.mk.injEq, and_true] at h
          simp only [List.length_cons] at h2 ⊢
          omega

set_option maxHeartbeats 2000000 in
theorem Read_ok (a : Option Addr) (n c : Nat) (t : UInt8) (r : List UInt8) (f e : Nat) (w : World) (hT : Tab w) (hl : (t :: r).length = n) (hn : n ≤ 140737488355328) (hc : n ≤ c) (hcm : c ≤ maxLen) (hr : Rd w w.heap.size a ((t :: r).map B8))
    (hq : Frm.look (t :: r) = (f, e, 0)) :
    Calls Tryd.prog 20 #[.slice a n c] w fun en w' => ∃ v', en = .returned (.tuple #[.agg #[B8 t, v'], .int .i64 (e + 4 : Nat), .int .i64 0]) ∧ w'.ownsRow w.heap.size 5 1 v' (e - f) ((((t :: r).drop f).take (e - f)).map B8) ∧ Below w.heap.size w w' := by
  have HT := Lib.hid hT
  have HR := Lib.hid hr
  have HL := Lib.hid hl
  obtain ⟨hf1, hf2, hf3⟩ := look_bd _ _ _ hq
  rw [hl] at hf3
  have HQ := Lib.hid hq
  have HCM := Lib.hid hcm
  have hmx : maxLen = 9223372036854775807 := rfl
  rw [hmx] at hcm
  obtain ⟨b, off, rfl⟩ : ∃ b off, a = some ⟨b, off, none⟩ := by
    rcases hr with h | ⟨b, off, h, _⟩
    · cases h
    · exact ⟨b, off, h⟩
  have e0 : w.cell? ⟨b, off, none⟩ = some (B8 t) ∧ b < w.heap.size := by
    rcases hr with h | ⟨b', off', h, hb, hh⟩
    · cases h
    · cases h
      exact ⟨hh 0 _ rfl, hb⟩
  clear hT hr hl hq hmx
  go_enter Tryd.func20, Tryd.ntmps20
  go_wp2_with fail
  refine (look_any _ n c (t :: r) _ (HT.out.next (by go_grown)) HL.out hn hc HCM.out ((HR.out.below (by go_grown)).more (by simp))).mono ?_
  rintro en w1 ⟨rfl, hb1⟩
  rw [HQ.out]
  have hB1 : Below w.heap.size w w1 := bnext (by go_grown) hb1
  have A1 : Blk w1 w.heap.size 35 #[.int .u8 0, .slice none 0 0] := Blk.below (by simp (disch := (first | omega | (simp only [World.size_alloc, World.size_setCell, World.size_drew] <;> omega) | fail)) only [Blk, heap_old, heap_at, heap_set_same, heap_set_ne, heap_drew', Option.map_some, putO_cells]) hb1
  have HR1 := Lib.hid (HR.out.below hB1)
  have e1 : w1.cell? ⟨b, off, none⟩ = some (B8 t) := (hB1.cell (p := ⟨b, off, none⟩) e0.2).trans e0.1
  have lb := e0.2
  have s1 := hB1.size
  have l1 := A1.lt
  have hwr : IntKind.i64.wrap ((e : Int) + 4) = (e : Int) + 4 := by rw [IntKind.wrap_i64]; omega
  have hn0 : 0 < n := by omega
  have hec : e ≤ c := by omega
  have hfc : f < c := by omega
  have hfc2 : ¬ c = f := by omega
  clear hb1 e0 HR
  go_wp2_with (go_in)
  (refine region_keep (fun x => x < w.heap.size) 12 [(0, true), (1, true), (2, true), (3, true), (4, true), (5, true), (6, true), (9, true), (10, true), (7, false), (8, true), (11, false)] (by kernel_rfl) (fun _ _ d _ _ h => by cases d <;> exact h) (by kernel_rfl) ?_; simp only [withOps, List.getElem?_toArray, List.getElem?_cons_zero, List.getElem?_cons_succ, List.drop_succ_cons, List.drop_zero])
  (iterate 9 (refine keep_quiet (v := ?_) rfl ?_ ?_; rotate_left; (focus (intro w' hw'; go_simp; (try with_reducible rfl); done)); try simp only [Act.put, List.setIfInBounds_toArray, List.set_cons_zero, List.set_cons_succ]))
  (with_reducible refine plan_loud (fun K hK => ?_))
  simp only [Region.wanted, if_pos]
  refine wp_append_bytes (.const (.slice none 0 0)) (.tmp 24) rfl (w.heap.size + 1) (.slice none 0 0) 0 [] rfl (World.ownsRow_nil _ _ _ _) (some ⟨b, off + f, none⟩) (e - f) (c - f) (((t :: r).drop f).take (e - f)) rfl (fun h => by cases h) (by rw [List.length_take, List.length_drop, HL.out]; omega) ((Rd.take (Rd.drop HR1.out f) (e - f)).below (show Below w.heap.size w1 w1.drew by go_grown) |>.more s1) (by omega) (by show w.heap.size + 1 ≤ w1.heap.size; omega) ?_
  intro v1 w2 ho2 hg2 hv2
  rw [Nat.zero_add, List.nil_append] at ho2
  have hB2 : Below w.heap.size w w2 := (hB1.trans (show Below w.heap.size w1 w1.drew by go_grown)).grown hg2 s1 (fun kk hkk => by simp [Value.ownBlock] at hkk)
  have A2 : Blk w2 w.heap.size 35 #[.int .u8 0, .slice none 0 0] := (hg2.block w.heap.size l1 (by simp [Value.ownBlock])).trans A1
  refine hK _ _ (fun x hx => hg2.block x (Nat.lt_of_lt_of_le hx s1) (by simp [Value.ownBlock])) ?_
  clear hK K hg2 hv2 A1
  obtain ⟨a1, c1, rfl, _⟩ := own_slice ho2
  have HO2 := Lib.hid ho2
  clear ho2
  (try simp only [Act.put, List.setIfInBounds_toArray, List.set_cons_zero, List.set_cons_succ])
  (iterate 1 (refine keep_quiet (v := ?_) rfl ?_ ?_; rotate_left; (focus (intro w' hw'; go_simp; (try with_reducible rfl); done)); try simp only [Act.put, List.setIfInBounds_toArray, List.set_cons_zero, List.set_cons_succ]))
  (with_reducible refine plan_loud (fun K hK => ?_))
  have lA := A2.lt
  have cA := A2.cell
  have fA := A2.free
  go_simp
  refine hK _ _ (fun x hx => (show Below w.heap.size w2 _ by have := hB2.size; go_grown).block x hx) ?_
  clear hK K
  (with_reducible refine plan_end ?_)
  (try simp only [Act.put, List.setIfInBounds_toArray, List.set_cons_zero, List.set_cons_succ])
  have HO3 := Lib.hid (show ((w2.setCell ⟨w.heap.size, 0, none⟩ (.int .u8 (t.toNat : Int))).setCell ⟨w.heap.size, 1, none⟩ (.slice a1 (e - f) c1)).ownsRow w.heap.size 5 1 (.slice a1 (e - f) c1) (e - f) ((((t :: r).drop f).take (e - f)).map B8) by
    refine owns_mono (owns_keep HO2.out (fun x hx _ => ?_)) (Nat.le_succ _)
    rw [heap_set_ne _ _ _ _ _ (by omega), heap_set_ne _ _ _ _ _ (by omega)])
  have A3 : Blk ((w2.setCell ⟨w.heap.size, 0, none⟩ (.int .u8 (t.toNat : Int))).setCell ⟨w.heap.size, 1, none⟩ (.slice a1 (e - f) c1)) w.heap.size 35 #[B8 t, .slice a1 (e - f) c1] := by
    unfold Blk at A2; simp (disch := (first | omega | (simp only [World.size_alloc, World.size_setCell, World.size_drew] <;> omega) | fail)) only [Blk, heap_old, heap_at, heap_set_same, heap_set_ne, heap_drew', Option.map_some, putO_cells, A2]; rfl
  have q0 := A3.cell 0
  have q1 := A3.cell 1
  clear cA fA
  go_wp2_with fail
  refine bodyPost_ret (v := .tuple #[.agg #[B8 t, .slice a1 (e - f) c1], .int .i64 ((e : Int) + 4), .int .i64 0]) (by simp [results, Tryd.results20, go_sem, q0, q1]; done) rfl ⟨_, by simp, HO3.out, hB2.trans (by have := hB2.size; go_grown)⟩

set_option maxHeartbeats 1000000 in
theorem Read_err (a : Option Addr) (n c : Nat) (l : List UInt8) (f e s : Nat) (w : World) (hT : Tab w) (hl : l.length = n) (hn : n ≤ 140737488355328) (hc : n ≤ c) (hcm : c ≤ maxLen) (hr : Rd w w.heap.size a (l.map B8))
    (hq : Frm.look l = (f, e, s)) (hs : s ≠ 0) :
    Calls Tryd.prog 20 #[.slice a n c] w (Ret (.tuple #[.agg #[.int .u8 0, .slice none 0 0], .int .i64 0, .int .i64 s]) w) := by
  have HT := Lib.hid hT
  have HR := Lib.hid hr
  have HL := Lib.hid hl
  have HQ := Lib.hid hq
  have HCM := Lib.hid hcm
  have hs' : ((s : Int) == 0) = false := by simp; omega
  clear hT hr hl hq hcm
  go_enter Tryd.func20, Tryd.ntmps20
  go_wp2_with fail
  refine (look_any _ n c l _ (HT.out.next (by go_grown)) HL.out hn hc HCM.out ((HR.out.below (by go_grown)).more (by simp))).mono ?_
  rintro en w1 ⟨rfl, hb1⟩
  rw [HQ.out]
  have hB1 : Below w.heap.size w w1 := bnext (by go_grown) hb1
  have A1 : Blk w1 w.heap.size 35 #[.int .u8 0, .slice none 0 0] := Blk.below (by simp (disch := (first | omega | (simp only [World.size_alloc, World.size_setCell, World.size_drew] <;> omega) | fail)) only [Blk, heap_old, heap_at, heap_set_same, heap_set_ne, heap_drew', Option.map_some, putO_cells]) hb1
  have s1 := hB1.size
  have l1 := A1.lt
  have c1 := A1.cell
  have f1 := A1.free
  clear hb1 HR
  go_wp2_with fail
  have A3 : Blk ((w1.setCell ⟨w.heap.size, 0, none⟩ (.int .u8 0)).setCell ⟨w.heap.size, 1, none⟩ (.slice none 0 0)) w.heap.size 35 #[.int .u8 0, .slice none 0 0] := by
    unfold Blk at A1; simp (disch := (first | omega | (simp only [World.size_alloc, World.size_setCell, World.size_drew] <;> omega) | fail)) only [Blk, heap_old, heap_at, heap_set_same, heap_set_ne, heap_drew', Option.map_some, putO_cells, A1]; rfl
  have q0 := A3.cell 0
  have q1 := A3.cell 1
  refine bodyPost_ret (v := .tuple #[.agg #[.int .u8 0, .slice none 0 0], .int .i64 0, .int .i64 s]) (by simp [results, Tryd.results20, go_sem, q0, q1]; done) rfl ⟨rfl, hB1.trans (by go_grown)⟩
end Go.Proofs.YtolbmjilcngnhaaDoor
