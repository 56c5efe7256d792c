/- CrcBytes: THE CARD. What is proved: Rows.CrcBytesCardSaid: for every input the law returns true, and what was there reads as it did; condition: the table crc.fours holds what the program's text lays (tied by the given text). -/
import Derived.Test.YtcjmobikjegioaaDoorCBytes
import Derived.Test.YtcjmobikjegioaaDoorCLaw
set_option linter.unusedSimpArgs false
set_option linter.unusedVariables false
namespace Go.Proofs.YtcjmobikjegioaaDoor
open Go.ChangeShapes Go.WideShapes Go.ChangeAt Go.RowKit Go.Kp

theorem bytesL_contract (H : Type) (enc : TypeId × Value → H) (W : World) (base : Nat) (args : Array Value) (ds gs : List (DataW H)) (before : List MemPlace)
    (hval : ∀ (j : Nat) t v, Tryd.f7.params[j]? = some t → args[j]? = some v → Value.okWide Tryd.prog W .any base t v)
    (hW : DataW.Whole enc Tryd.prog Tryd.f7.params.toList Rows.crcBytesSpec.vars false W args.toList ds gs before) (hL : laidMetH Tryd.prog Rows.crcSumsRow.laid W)
    (hsz0 : (DataW.weightsEach Tryd.prog (Tryd.f7.params.toList ++ Rows.crcBytesSpec.plain.varTypes Tryd.prog) (ds ++ gs)).all (· ≤ reachBytes) = true) :
    Calls Tryd.prog 7 args W fun e W' => ∃ v, e = .returned v ∧ Rows.crcBytesSpec.post enc Tryd.prog Tryd.f7 false true false false W args v W' := by
  have hW' := hW
  have hT := tab_of hL
  obtain ⟨p, q, hA0, hV, rfl, hfz, hnd⟩ := hW
  have hA : DataW.TrodAll enc Tryd.prog W 0 (fun _ => true) true Tryd.f7.params.toList args.toList ds p := hA0
  have hsz : (DataW.weightsEach Tryd.prog (Tryd.f7.params.toList ++ Rows.crcBytesSpec.plain.varTypes Tryd.prog) (ds ++ gs)).all (· ≤ reachBytes) = true := hsz0
  clear hsz0
  rw [Tryd.params7] at hA hval hsz
  obtain ⟨v0, vs0, d0, ds0, p0, q0, hargs, rfl, rfl, h0, r0⟩ := trodAll_cons hA
  obtain ⟨v1, vs1, d1, ds1, p1, q1, rfl, rfl, rfl, h1, r1⟩ := trodAll_cons r0
  obtain ⟨rfl, rfl, rfl⟩ := trodAll_nil r1
  obtain rfl : args = #[v0, v1] := by cases args; simp_all
  obtain ⟨rfl, rfl⟩ := trodVars_none hV
  obtain ⟨n0, rfl, rfl, rfl, hn0⟩ := open_int Tryd.underlying23 (hval 0 _ v0 rfl rfl) h0
  obtain ⟨x0, rfl⟩ := Crc.num_of n0 (wf_u32 hn0).1 (wf_u32 hn0).2
  obtain ⟨a1, c1, l1, rfl, ha1, hc1, hr1, hd1⟩ := open_text (hval 1 _ v1 rfl rfl) h1
  have hb1 : l1.length ≤ 140737488351232 := by
    rcases hd1 with hd | ⟨elems, spare, hd, he⟩
    · omega
    · subst hd
      have := sized_slice hsz (j := 1) (t := 24) (e := 5) rfl rfl Tryd.underlying24
      rw [show Tryd.prog.bytesOf 5 = 1 by kernel_rfl] at this
      simp only [reachBytes] at this
      omega
  refine (bytes_law x0 a1 c1 l1 W hT hr1 hc1 hb1).mono fun e W' ⟨he, bel⟩ => ?_
  subst he
  exact ⟨_, rfl, post_true laidOut hW' rfl rfl (by kernel_rfl) rfl Tryd.underlying4 bel⟩

theorem bytesL_laid (os : Os) : laidMet Tryd.prog Rows.crcBytesRow.laid ((laidWorld os).forCall (fun _ _ => 0) ⟨#[], #[.int .u32 0, .slice none 0 0], []⟩).memory :=
  laidMet_of_run' 8 (by kernel_rfl) (by kernel_rfl)
theorem bytesL_reads (os : Os) {H : Type} (enc : TypeId × Value → H) : ∃ places, DataW.whole enc Tryd.prog ((laidWorld os).forCall (fun _ _ => 0) ⟨#[], #[.int .u32 0, .slice none 0 0], []⟩).memory Tryd.f7.params.toList Rows.crcBytesSpec.vars false #[Value.int .u32 0, .slice none 0 0].toList 8 = some ([.lit (.int .u32 0), .nil], [], places) :=
  ⟨[], by kernel_rfl⟩

set_option maxRecDepth 100000 in
theorem bytesL_lifted (os : Os) (started : os.Started) (H : Type) (enc : TypeId × Value → H) (F : Stop.Interp) :
    ReturnsInHanded {} Tryd.checked os 7 .any ((OpenSpec.ofChange Rows.crcBytesSpec).preRow enc Tryd.prog Tryd.f7 Rows.crcBytesRow.domain false Rows.crcBytesRow.laid) (((OpenSpec.ofChange Rows.crcBytesSpec).at F).post enc Tryd.prog Tryd.f7 false true false false) := by
  obtain ⟨places, hx⟩ := bytesL_reads os enc
  refine returnsInHanded_of_row (C := Tryd.checked) (s := OpenSpec.ofChange Rows.crcBytesSpec) own started (by kernel_rfl) Tryd.func7
    (witness_row_at (enc := enc) (C := Tryd.checked) false (laidWorld os) #[.int .u32 0, .slice none 0 0] rfl (by kernel_rfl) (by kernel_rfl) (by kernel_rfl)
      (OpenSpec.preRow_of_cond 8 hx (by kernel_rfl) (fun k hk => by cases hk) (by kernel_rfl) (bytesL_laid os))) ?_
  intro W base args ds gs before hval hW _ _ hsz hL _ _
  exact bytesL_contract H enc W base args ds gs before hval hW hL hsz

theorem bytesL_said : Rows.CrcBytesSaid :=
  OpenClaim.holds_of_cond 7 Tryd.f7 rfl rfl rfl rfl rfl rfl rfl ⟨rfl, rfl, rfl, rfl, rfl⟩ rfl rfl rfl rfl rfl (by kernel_rfl) Tryd.func7 (by kernel_rfl)
    (of_decide_eq_true (by kernel_rfl)) (by unfold Func.isWrapper; first | (rw [if_pos (by decide +kernel)]; kernel_rfl) | (rw [if_neg (by decide +kernel)]; exact ⟨rfl, rfl⟩))
    (fun os started H enc _ F => by rw [OpenClaim.pre_eq_preRow]; exact bytesL_lifted os started H enc F)

theorem bytesL_plain (f : FuncId) (fn : Func) (hf : Tryd.pinned.checked.prog.funcNamed "keepsake/keepsakelaw02.CrcBytes" = some f) (hfn : Tryd.pinned.checked.prog.funcs[f]? = some fn) :
    false = Tryd.pinned.checked.prog.looks [] ∧ ∀ (j : Nat) t, fn.params[j]? = some t → Tryd.pinned.checked.prog.wantsStandIn t = false := by
  obtain rfl : f = 7 := Option.some.inj ((show Tryd.prog.funcNamed "keepsake/keepsakelaw02.CrcBytes" = some 7 by kernel_rfl).symm.trans hf) |>.symm
  obtain rfl : fn = Tryd.f7 := (Option.some.inj (Tryd.func7.symm.trans hfn)).symm
  refine ⟨by kernel_rfl, fun j t ht => ?_⟩
  rw [Tryd.params7] at ht
  have h : t = 23 ∨ t = 24 := by simpa using Array.mem_of_getElem? ht
  rcases h with rfl | rfl
  · exact (show Tryd.prog.wantsStandIn 23 = false by kernel_rfl)
  · exact (show Tryd.prog.wantsStandIn 24 = false by kernel_rfl)

theorem bytesL_card : Rows.CrcBytesCardSaid :=
  Claim7.holds_tied_plain_at .later [] _ _ _ _ bytesL_said (fun _ h => by cases h) (by kernel_rfl) (fun _ h => by cases h) crcBytes_row_tie rfl ⟨rfl, rfl⟩ (by kernel_rfl) rfl bytesL_plain (by kernel_rfl)
#print axioms bytesL_card
end Go.Proofs.YtcjmobikjegioaaDoor
