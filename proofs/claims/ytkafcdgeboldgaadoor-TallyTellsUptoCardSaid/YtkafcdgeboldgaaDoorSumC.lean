/- TallyTells: THE CARD. What is proved: Rows.TallyTellsUptoCardSaid: for every input of at most 1048576 values the law returns true, and what was there reads as it did; condition: the table math/bits.deBruijn64tab holds what the program's text lays (tied by the given text). -/
import Derived.Test.YtkafcdgeboldgaaDoorSumW
import Derived.Test.YtkafcdgeboldgaaDoorTLaw
import Derived.Lib.SmallJoins
set_option linter.unusedSimpArgs false
set_option linter.unusedVariables false
namespace Go.Proofs.YtkafcdgeboldgaaDoor
open Go.ChangeShapes Go.WideShapes Go.ChangeAt Go.RowKit Go.Kp

theorem bulk_pos {H : Type} (d : DataW H) : 1 ≤ Rows.uptoBulk d := by
  cases d with
  | lit l => cases l <;> simp [Rows.uptoBulk]
  | nil => simp [Rows.uptoBulk]
  | ptr d => simp [Rows.uptoBulk]
  | slice elems spare => simp [Rows.uptoBulk]
  | agg parts => simp [Rows.uptoBulk]
  | iface t d => simp [Rows.uptoBulk]
  | map entries => simp [Rows.uptoBulk]
  | held h => simp [Rows.uptoBulk]
theorem bulk_len {H : Type} (l : List (DataW H)) : l.length ≤ Rows.uptoBulkAll l := by
  induction l with
  | nil => simp [Rows.uptoBulkAll]
  | cons x r ih => have := bulk_pos x; simp only [Rows.uptoBulkAll, List.length_cons]; omega
theorem bulk_bound {H : Type} {l : List (DataW H)} (hk : Rows.uptoSmall H l = true) : Rows.uptoBulkAll l ≤ 1048576 := of_decide_eq_true hk
theorem list4 {α : Type} {cs : List α} (h : cs.length = 4) : ∃ a b c d, cs = [a, b, c, d] := by
  match cs, h with
  | [a, b, c, d], _ => exact ⟨a, b, c, d, rfl⟩
theorem cell_in {w : World} {b o : Nat} {v : Value} (h : w.cell? ⟨b, o, none⟩ = some v) : b < w.heap.size := by
  rcases Nat.lt_or_ge b w.heap.size with h1 | h1
  · exact h1
  · simp [World.cell?, Array.getElem?_eq_none h1] at h

/-- Numbers in a struct. -/
theorem nums_at {H : Type} {enc : TypeId × Value → H} {w : World} {base f : Nat} {spare : Nat → Bool} {held : Bool} {cs : List Value} {y : DataW H × List MemPlace} (hf : DataW.trod enc Tryd.prog w base spare held f 22 cs = some y) :
    ∃ (a : Option Addr) (cap : Nat) (l : List Int), cs = [.slice a l.length cap] ∧ (a = none → cap = 0) ∧ Rd w w.heap.size a (l.map (Value.int .i64)) ∧ (∀ z ∈ l, I64 z) ∧ l.length ≤ Rows.uptoBulk y.1 := by
  have hc : Tryd.prog.cellsOf 2 = 1 := by kernel_rfl
  rcases open_ints Tryd.underlying22 Tryd.underlying2 hc hf with ⟨hcs, _⟩ | ⟨a', n, cap, zs, hcs, hnc, hl, hm, hz, hx, hcell, hwf⟩
  · subst hcs
    exact ⟨none, 0, [], rfl, fun _ => rfl, .inl rfl, by simp, Nat.zero_le _⟩
  · subst hcs
    have hn : n ≤ zs.length := by rw [hz]; split <;> omega
    refine ⟨some a', cap, zs.take n, by simp [Nat.min_eq_left hn], fun h => (by cases h), ?_, fun z hz => wf_i64 (hwf z (List.mem_of_mem_take hz)), ?_⟩
    · rcases Nat.eq_zero_or_pos n with h0 | h0
      · subst h0; exact .inl (by simp)
      · obtain ⟨b, off, rfl, hc⟩ := ints_at hcell (by omega)
        refine .inr ⟨b, off, rfl, cell_in (hc 0 (by omega)), fun j u hu => ?_⟩
        have hj : j < n := by
          have := (List.getElem?_eq_some_iff.1 hu).1
          simp at this; omega
        rw [hc j (by omega)]
        rw [List.getElem?_map, List.getElem?_take_of_lt hj, List.getElem?_eq_getElem (show j < zs.length by omega)] at hu
        rw [← hu, List.getD_eq_getElem?_getD, List.getElem?_eq_getElem (show j < zs.length by omega)]
        rfl
    · have := bulk_len (lits (H := H) .i64 (zs.take n))
      simp only [lits, List.length_map, List.length_take, Nat.min_eq_left hn] at this
      rw [hx]
      simp only [Rows.uptoBulk, lits, List.length_take, Nat.min_eq_left hn]; omega

theorem open_parts {H : Type} {enc : TypeId × Value → H} {w : World} {base b0 : Nat} {spare : Nat → Bool} {held : Bool} {r : Reach} {v : Value} {d : DataW H} {p : List MemPlace} (hv : Value.okWide Tryd.prog w r b0 38 v) (h : DataW.Trod enc Tryd.prog w base spare held 38 v d p)
    (hk : Rows.uptoBulk d ≤ 1048576) :
    ∃ (a b c : Option Addr) (ka kb kc : Nat) (la lb lc : List Int) (n : Int), v = .agg #[.slice a la.length ka, .slice b lb.length kb, .slice c lc.length kc, .int .i64 n] ∧ la.length + lb.length + lc.length ≤ 3145728 ∧
      (a = none → ka = 0) ∧ (b = none → kb = 0) ∧ (c = none → kc = 0) ∧ Rd w w.heap.size a (la.map (Value.int .i64)) ∧ Rd w w.heap.size b (lb.map (Value.int .i64)) ∧ Rd w w.heap.size c (lc.map (Value.int .i64)) ∧
      (∀ z ∈ la, I64 z) ∧ (∀ z ∈ lb, I64 z) ∧ (∀ z ∈ lc, I64 z) ∧ I64 n := by
  obtain ⟨cs, rfl, _⟩ := okWide_struct Tryd.underlying38 hv
  obtain ⟨f, hf⟩ := h
  obtain ⟨l⟩ := cs
  obtain ⟨y0, y1, y2, y3, m, hy, hl, h0, h1, h2, h3⟩ := Go.Joins.trod_struct4 Tryd.underlying38 hf
  obtain ⟨a, b, c, e, rfl⟩ := list4 (hl.trans (show Tryd.prog.cellsOf 38 = 4 by kernel_rfl))
  have e1 : Tryd.prog.cellsOf 2 = 1 := by kernel_rfl
  have e2 : Tryd.prog.cellsOf 22 = 1 := by kernel_rfl
  simp only [e1, e2, List.drop_zero, List.drop_succ_cons, List.take_succ_cons, List.take_zero] at h0 h1 h2 h3
  obtain ⟨aa, ka, la, q0, na, ra, za, ba⟩ := nums_at h0
  obtain ⟨ab, kb, lb, q1, nb, rb, zb, bb⟩ := nums_at h1
  obtain ⟨ac, kc, lc, q2, nc, rc, zc, bc⟩ := nums_at h2
  obtain ⟨n, q3, _, hn⟩ := DataW.trod_int Tryd.underlying2 h3
  have q0' : [a] = [Value.slice aa la.length ka] := q0
  have q1' : [b] = [Value.slice ab lb.length kb] := q1
  have q2' : [c] = [Value.slice ac lc.length kc] := q2
  have q3' : [e] = [Value.int .i64 n] := q3
  obtain rfl := List.head_eq_of_cons_eq q0'
  obtain rfl := List.head_eq_of_cons_eq q1'
  obtain rfl := List.head_eq_of_cons_eq q2'
  obtain rfl := List.head_eq_of_cons_eq q3'
  have hd : d = DataW.agg [y0.fst, y1.fst, y2.fst, y3.fst] := congrArg Prod.fst hy
  subst hd
  simp only [Rows.uptoBulk, Rows.uptoBulkAll] at hk
  exact ⟨aa, ab, ac, ka, kb, kc, la, lb, lc, n, rfl, by omega, na, nb, nc, ra, rb, rc, za, zb, zc, wf_i64 hn⟩

theorem tab_all : ∀ j, j < 64 → tabNums.getD j 0 = ((Lib.deBruijn64tab.getD j 0 : Nat) : Int) := by decide +kernel
theorem tab_laid {W : World} (h : laidMetH Tryd.prog Rows.tallyMostRow.laid W) : Tab W := fun j hj => by
  have h1 := (table h).cell gTab j (by simpa [tabNums] using hj)
  rw [tab_all j hj] at h1
  exact h1

theorem tells_contract (H : Type) (enc : TypeId × Value → H) (W : World) (base : Nat) (args : Array Value) (ds gs : List (DataW H)) (before : List MemPlace)
    (hval : ∀ (j : Nat) t v, Tryd.f6.params[j]? = some t → args[j]? = some v → Value.okWide Tryd.prog W .any base t v)
    (hW : DataW.Whole enc Tryd.prog Tryd.f6.params.toList Rows.tallyTellsSpec.vars false W args.toList ds gs before) (hL : laidMetH Tryd.prog Rows.tallyTellsRow.laid W)
    (hk : Rows.uptoSmall H (ds ++ gs) = true)
    (hsz0 : (DataW.weightsEach Tryd.prog (Tryd.f6.params.toList ++ Rows.tallyTellsSpec.plain.varTypes Tryd.prog) (ds ++ gs)).all (· ≤ reachBytes) = true) :
    Calls Tryd.prog 6 args W fun e W' => ∃ v, e = .returned v ∧ Rows.tallyTellsSpec.post enc Tryd.prog Tryd.f6 false true false false W args v W' := by
  have hW' := hW
  have hT := tab_laid hL
  obtain ⟨p, q, hA0, hV, rfl, hfz, hnd⟩ := hW
  have hA : DataW.TrodAll enc Tryd.prog W 0 (fun _ => true) true Tryd.f6.params.toList args.toList ds p := hA0
  have hsz : (DataW.weightsEach Tryd.prog (Tryd.f6.params.toList ++ Rows.tallyTellsSpec.plain.varTypes Tryd.prog) (ds ++ gs)).all (· ≤ reachBytes) = true := hsz0
  clear hsz0
  rw [Tryd.params6] at hA hval hsz
  obtain ⟨v0, vs0, d0, ds0, p0, q0, hargs, rfl, rfl, h0, r0⟩ := trodAll_cons hA
  obtain ⟨rfl, rfl, rfl⟩ := trodAll_nil r0
  obtain rfl : args = #[v0] := by cases args; simp_all
  obtain ⟨rfl, rfl⟩ := trodVars_none hV
  have hk0 : Rows.uptoBulk d0 ≤ 1048576 := by
    have h := bulk_bound hk
    simp only [Rows.uptoBulkAll, List.cons_append, List.append_assoc] at h
    omega
  obtain ⟨a, b, c, ka, kb, kc, la, lb, lc, n, rfl, hn, na, nb, nc, ra, rb, rc, za, zb, zc, zn⟩ := open_parts (hval 0 _ v0 rfl rfl) h0 hk0
  refine (tells a b c _ _ _ ka kb kc la lb lc n W rfl rfl rfl hn na nb nc ra rb rc za zb zc zn hT).mono fun e W' ⟨he, bel⟩ => ?_
  subst he
  exact ⟨_, rfl, post_true laidOut hW' rfl rfl (by kernel_rfl) rfl Tryd.underlying4 bel⟩

theorem tells_laid (os : Os) : laidMet Tryd.prog Rows.tallyTellsUptoRow.laid ((laidWorld os).forCall (fun _ _ => 0) ⟨#[], #[.agg #[.slice none 0 0, .slice none 0 0, .slice none 0 0, .int .i64 0]], []⟩).memory :=
  laidMet_of_run' 8 (by kernel_rfl) (by kernel_rfl)
theorem tells_reads (os : Os) {H : Type} (enc : TypeId × Value → H) : ∃ places, DataW.whole enc Tryd.prog ((laidWorld os).forCall (fun _ _ => 0) ⟨#[], #[.agg #[.slice none 0 0, .slice none 0 0, .slice none 0 0, .int .i64 0]], []⟩).memory Tryd.f6.params.toList Rows.tallyTellsSpec.vars false #[Value.agg #[.slice none 0 0, .slice none 0 0, .slice none 0 0, .int .i64 0]].toList 8 = some ([.agg [.nil, .nil, .nil, .lit (.int .i64 0)]], [], places) :=
  ⟨[], by kernel_rfl⟩

set_option maxRecDepth 100000 in
theorem tells_lifted (os : Os) (started : os.Started) (H : Type) (enc : TypeId × Value → H) (F : Stop.Interp) :
    ReturnsInHanded {} Tryd.checked os 6 .any ((Rows.OpenSpec.upto Rows.tallyTellsSpec).preRow enc Tryd.prog Tryd.f6 Rows.tallyTellsUptoRow.domain false Rows.tallyTellsUptoRow.laid) (((Rows.OpenSpec.upto Rows.tallyTellsSpec).at F).post enc Tryd.prog Tryd.f6 false true false false) := by
  obtain ⟨places, hx⟩ := tells_reads os enc
  refine returnsInHanded_of_row (C := Tryd.checked) (s := Rows.OpenSpec.upto Rows.tallyTellsSpec) own started (by kernel_rfl) Tryd.func6
    (witness_row_at (enc := enc) (C := Tryd.checked) false (laidWorld os) #[.agg #[.slice none 0 0, .slice none 0 0, .slice none 0 0, .int .i64 0]] rfl (by kernel_rfl) (by kernel_rfl) (by kernel_rfl)
      (OpenSpec.preRow_of_cond 8 hx (by kernel_rfl) (fun k hk => by cases hk; kernel_rfl) (by kernel_rfl) (tells_laid os))) ?_
  intro W base args ds gs before hval hW _ hcond hsz hL _ _
  exact tells_contract H enc W base args ds gs before hval hW hL (hcond _ rfl) hsz

theorem tells_said : Rows.TallyTellsUptoSaid :=
  OpenClaim.holds_of_cond 6 Tryd.f6 rfl rfl rfl rfl rfl rfl rfl ⟨rfl, rfl, rfl, rfl, rfl⟩ rfl rfl rfl rfl rfl (by kernel_rfl) Tryd.func6 (by kernel_rfl)
    (of_decide_eq_true (by kernel_rfl)) (by unfold Func.isWrapper; first | (rw [if_pos (by decide +kernel)]; kernel_rfl) | (rw [if_neg (by decide +kernel)]; exact ⟨rfl, rfl⟩))
    (fun os started H enc _ F => by rw [OpenClaim.pre_eq_preRow]; exact tells_lifted os started H enc F)

theorem tells_plain (f : FuncId) (fn : Func) (hf : Tryd.pinned.checked.prog.funcNamed "keepsake/keepsakelaw08.TallyTells" = some f) (hfn : Tryd.pinned.checked.prog.funcs[f]? = some fn) :
    false = Tryd.pinned.checked.prog.looks [] ∧ ∀ (j : Nat) t, fn.params[j]? = some t → Tryd.pinned.checked.prog.wantsStandIn t = false := by
  obtain rfl : f = 6 := Option.some.inj ((show Tryd.prog.funcNamed "keepsake/keepsakelaw08.TallyTells" = some 6 by kernel_rfl).symm.trans hf) |>.symm
  obtain rfl : fn = Tryd.f6 := (Option.some.inj (Tryd.func6.symm.trans hfn)).symm
  refine ⟨by kernel_rfl, fun j t ht => ?_⟩
  rw [Tryd.params6] at ht
  have h : t = 38 := by simpa using Array.mem_of_getElem? ht
  subst h
  exact (show Tryd.prog.wantsStandIn 38 = false by kernel_rfl)

theorem tells_card : Rows.TallyTellsUptoCardSaid :=
  Claim7.holds_tied_plain_at .later [] _ _ _ _ tells_said (fun _ h => by cases h) (by kernel_rfl) (fun _ h => by cases h) tallyTellsUpto_row_tie rfl ⟨rfl, rfl⟩ (by kernel_rfl) rfl tells_plain (by kernel_rfl)
#print axioms tells_card
end Go.Proofs.YtkafcdgeboldgaaDoor
