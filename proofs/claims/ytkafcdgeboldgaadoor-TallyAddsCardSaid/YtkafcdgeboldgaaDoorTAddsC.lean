/- TallyAdds: THE CARD. What is proved: Rows.TallyAddsCardSaid: for every input the law returns true, and what was there reads as it did; condition: the table math/bits.deBruijn64tab holds what the program's text lays (tied by the given text). -/
import Derived.Test.YtkafcdgeboldgaaDoorTAddsW
import Derived.Test.YtkafcdgeboldgaaDoorTMost
import Derived.Test.YtkafcdgeboldgaaDoorTLaw
import Derived.SizedLaws
set_option linter.unusedSimpArgs false
set_option linter.unusedVariables false
namespace Go.Proofs.YtkafcdgeboldgaaDoor
open Go.ChangeShapes Go.WideShapes Go.ChangeAt Go.RowKit Go.Kp

/-- A slice of numbers among the arguments, opened. -/
theorem open_nums {H : Type} {enc : TypeId × Value → H} {w : World} {base b0 : Nat} {spare : Nat → Bool} {held : Bool} {t : TypeId} (ht : Tryd.prog.underlying t = some (.slice 2)) {r : Reach} {v : Value} {d : DataW H} {p : List MemPlace} (hv : Value.okWide Tryd.prog w r b0 t v) (h : DataW.Trod enc Tryd.prog w base spare held t v d p) :
    ∃ (a : Option Addr) (cap : Nat) (zs : List Int), v = .slice a zs.length cap ∧ (a = none → cap = 0) ∧ Rd w w.heap.size a (zs.map (Value.int .i64)) ∧ (∀ z ∈ zs, I64 z) ∧ (zs.length = 0 ∨ ∃ elems sp, d = .slice elems sp ∧ elems.length = zs.length) := by
  obtain ⟨a, n, cap, rfl⟩ := okWide_slice ht hv
  obtain ⟨f, hf⟩ := h
  have hc : Tryd.prog.cellsOf 2 = 1 := by kernel_rfl
  rcases open_ints ht Tryd.underlying2 hc hf with ⟨hcs, _⟩ | ⟨a', n', cap', zs, hcs, _, hl, hm, hz, hx, hcell, hwf⟩
  · simp [Value.cells] at hcs
    obtain ⟨rfl, rfl, rfl⟩ := hcs
    exact ⟨none, 0, [], rfl, fun _ => rfl, .inl rfl, by simp, .inl rfl⟩
  · simp [Value.cells] at hcs
    obtain ⟨rfl, rfl, rfl⟩ := hcs
    have hn : n ≤ zs.length := by rw [hz]; split <;> omega
    simp only [Prod.mk.injEq] at hx
    refine ⟨some a', cap, zs.take n, by simp [Nat.min_eq_left hn], fun h => (by cases h), ?_, fun z hz => wf_i64 (hwf z (List.mem_of_mem_take hz)), .inr ⟨_, _, hx.1, by simp [lits]⟩⟩
    rcases Nat.eq_zero_or_pos n with h0 | h0
    · subst h0; exact .inl (by simp)
    · obtain ⟨b, off, rfl, hc⟩ := ints_at hcell (by omega)
      refine .inr ⟨b, off, rfl, cell_lt (hc 0 (by omega)), fun j u hu => ?_⟩
      have hj : j < n := by
        have := (List.getElem?_eq_some_iff.1 hu).1
        simp at this; omega
      rw [hc j (by omega)]
      rw [List.getElem?_map, List.getElem?_take_of_lt hj, List.getElem?_eq_getElem (show j < zs.length by omega)] at hu
      rw [← hu, List.getD_eq_getElem?_getD, List.getElem?_eq_getElem (show j < zs.length by omega)]
      rfl

theorem adds_contract (H : Type) (enc : TypeId × Value → H) (W : World) (base : Nat) (args : Array Value) (ds gs : List (DataW H)) (before : List MemPlace)
    (hval : ∀ (j : Nat) t v, Tryd.f3.params[j]? = some t → args[j]? = some v → Value.okWide Tryd.prog W .any base t v)
    (hW : DataW.Whole enc Tryd.prog Tryd.f3.params.toList Rows.tallyAddsSpec.vars false W args.toList ds gs before) (hsz0 : (DataW.weightsEach Tryd.prog (Tryd.f3.params.toList ++ Rows.tallyAddsSpec.plain.varTypes Tryd.prog) (ds ++ gs)).all (· ≤ reachBytes) = true) :
    Calls Tryd.prog 3 args W fun e W' => ∃ v, e = .returned v ∧ Rows.tallyAddsSpec.post enc Tryd.prog Tryd.f3 false true false false W args v W' := by
  have hW' := hW
  obtain ⟨p, q, hA0, hV, rfl, hfz, hnd⟩ := hW
  have hA : DataW.TrodAll enc Tryd.prog W 0 (fun _ => true) true Tryd.f3.params.toList args.toList ds p := hA0
  have hsz : (DataW.weightsEach Tryd.prog (Tryd.f3.params.toList ++ Rows.tallyAddsSpec.plain.varTypes Tryd.prog) (ds ++ gs)).all (· ≤ reachBytes) = true := hsz0
  clear hsz0
  rw [Tryd.params3] at hA hval hsz
  obtain ⟨v0, vs0, d0, ds0, p0, q0, hargs, rfl, rfl, h0, r0⟩ := trodAll_cons hA
  obtain ⟨v1, vs1, d1, ds1, p1, q1, rfl, rfl, rfl, h1, r1⟩ := trodAll_cons r0
  obtain ⟨v2, vs2, d2, ds2, p2, q2, rfl, rfl, rfl, h2, r2⟩ := trodAll_cons r1
  obtain ⟨rfl, rfl, rfl⟩ := trodAll_nil r2
  obtain rfl : args = #[v0, v1, v2] := by cases args; simp_all
  obtain ⟨rfl, rfl⟩ := trodVars_none hV
  obtain ⟨a, cap, zs, rfl, ha, hr, hz, hd⟩ := open_nums Tryd.underlying22 (hval 0 _ v0 rfl rfl) h0
  obtain ⟨t, rfl, ht⟩ := open_tally (hval 1 _ v1 rfl rfl) h1
  obtain ⟨n, rfl, rfl, rfl, hn⟩ := open_int Tryd.underlying2 (hval 2 _ v2 rfl rfl) h2
  have hb8 : Tryd.prog.bytesOf 2 = 8 := by kernel_rfl
  have hlen : zs.length ≤ 17592186043904 := by
    rcases hd with hd | ⟨elems, spare, hd, he⟩
    · omega
    · subst hd
      have := sized_slice hsz (j := 0) (t := 22) (e := 2) rfl rfl Tryd.underlying22
      rw [hb8] at this
      simp only [reachBytes] at this
      omega
  refine (adds a _ cap zs t n W rfl hlen ha hr hz ht (wf_i64 hn)).mono fun e W' ⟨he, bel⟩ => ?_
  subst he
  exact ⟨_, rfl, post_true laidOut hW' rfl rfl (by kernel_rfl) rfl Tryd.underlying4 bel⟩

theorem adds_laid (os : Os) : laidMet Tryd.prog Rows.tallyAddsRow.laid ((laidWorld os).forCall (fun _ _ => 0) ⟨#[], #[.slice none 0 0, .agg #[.int .i64 0, .int .i64 0, .int .i64 0, .int .i64 0], .int .i64 0], []⟩).memory :=
  laidMet_of_run' 8 (by kernel_rfl) (by kernel_rfl)
theorem adds_reads (os : Os) {H : Type} (enc : TypeId × Value → H) : ∃ places, DataW.whole enc Tryd.prog ((laidWorld os).forCall (fun _ _ => 0) ⟨#[], #[.slice none 0 0, .agg #[.int .i64 0, .int .i64 0, .int .i64 0, .int .i64 0], .int .i64 0], []⟩).memory Tryd.f3.params.toList Rows.tallyAddsSpec.vars false #[Value.slice none 0 0, .agg #[.int .i64 0, .int .i64 0, .int .i64 0, .int .i64 0], .int .i64 0].toList 8 = some ([.nil, .agg [.lit (.int .i64 0), .lit (.int .i64 0), .lit (.int .i64 0), .lit (.int .i64 0)], .lit (.int .i64 0)], [], places) :=
  ⟨[], by kernel_rfl⟩

set_option maxRecDepth 100000 in
theorem adds_lifted (os : Os) (started : os.Started) (H : Type) (enc : TypeId × Value → H) (F : Stop.Interp) :
    ReturnsInHanded {} Tryd.checked os 3 .any ((OpenSpec.ofChange Rows.tallyAddsSpec).preRow enc Tryd.prog Tryd.f3 Rows.tallyAddsRow.domain false Rows.tallyAddsRow.laid) (((OpenSpec.ofChange Rows.tallyAddsSpec).at F).post enc Tryd.prog Tryd.f3 false true false false) := by
  obtain ⟨places, hx⟩ := adds_reads os enc
  refine returnsInHanded_of_row (C := Tryd.checked) (s := OpenSpec.ofChange Rows.tallyAddsSpec) own started (by kernel_rfl) Tryd.func3
    (witness_row_at (enc := enc) (C := Tryd.checked) false (laidWorld os) #[.slice none 0 0, .agg #[.int .i64 0, .int .i64 0, .int .i64 0, .int .i64 0], .int .i64 0] rfl (by kernel_rfl) (by kernel_rfl) (by kernel_rfl)
      (OpenSpec.preRow_of_cond 8 hx (by kernel_rfl) (fun k hk => by cases hk) (by kernel_rfl) (adds_laid os))) ?_
  intro W base args ds gs before hval hW _ _ hsz _ _ _
  exact adds_contract H enc W base args ds gs before hval hW hsz

theorem adds_said : Rows.TallyAddsSaid :=
  OpenClaim.holds_of_cond 3 Tryd.f3 rfl rfl rfl rfl rfl rfl rfl ⟨rfl, rfl, rfl, rfl, rfl⟩ rfl rfl rfl rfl rfl (by kernel_rfl) Tryd.func3 (by kernel_rfl)
    (of_decide_eq_true (by kernel_rfl)) (by unfold Func.isWrapper; first | (rw [if_pos (by decide +kernel)]; kernel_rfl) | (rw [if_neg (by decide +kernel)]; exact ⟨rfl, rfl⟩))
    (fun os started H enc _ F => by rw [OpenClaim.pre_eq_preRow]; exact adds_lifted os started H enc F)

theorem adds_plain (f : FuncId) (fn : Func) (hf : Tryd.pinned.checked.prog.funcNamed "keepsake/keepsakelaw08.TallyAdds" = some f) (hfn : Tryd.pinned.checked.prog.funcs[f]? = some fn) :
    false = Tryd.pinned.checked.prog.looks [] ∧ ∀ (j : Nat) t, fn.params[j]? = some t → Tryd.pinned.checked.prog.wantsStandIn t = false := by
  obtain rfl : f = 3 := Option.some.inj ((show Tryd.prog.funcNamed "keepsake/keepsakelaw08.TallyAdds" = some 3 by kernel_rfl).symm.trans hf) |>.symm
  obtain rfl : fn = Tryd.f3 := (Option.some.inj (Tryd.func3.symm.trans hfn)).symm
  refine ⟨by kernel_rfl, fun j t ht => ?_⟩
  rw [Tryd.params3] at ht
  have h : t = 22 ∨ t = 24 ∨ t = 2 := by simpa using Array.mem_of_getElem? ht
  rcases h with rfl | rfl | rfl
  · exact (show Tryd.prog.wantsStandIn 22 = false by kernel_rfl)
  · exact (show Tryd.prog.wantsStandIn 24 = false by kernel_rfl)
  · exact (show Tryd.prog.wantsStandIn 2 = false by kernel_rfl)

theorem adds_card : Rows.TallyAddsCardSaid :=
  Claim7.holds_tied_plain_at .later [] _ _ _ _ adds_said (fun _ h => by cases h) (by kernel_rfl) (fun _ h => by cases h) tallyAdds_row_tie rfl ⟨rfl, rfl⟩ (by kernel_rfl) rfl adds_plain (by kernel_rfl)
#print axioms adds_card
end Go.Proofs.YtkafcdgeboldgaaDoor
