/- TallyJoins: THE CARD. What is proved: Rows.TallyJoinsCardSaid: for every input the law returns true, and what was there reads as it did; condition: the table math/bits.deBruijn64tab holds what the program's text lays (tied by the given text). -/
import Derived.Test.YtkafcdgeboldgaaDoorTJoinsW
import Derived.Test.YtkafcdgeboldgaaDoorTMost
import Derived.Test.YtkafcdgeboldgaaDoorTLaw
import Derived.SizedLaws
set_option linter.unusedSimpArgs false
set_option linter.unusedVariables false
namespace Go.Proofs.YtkafcdgeboldgaaDoor
open Go.ChangeShapes Go.WideShapes Go.ChangeAt Go.RowKit Go.Kp

/-- A slice of tallies among the arguments, opened. -/
theorem open_tallies {H : Type} {enc : TypeId × Value → H} {w : World} {base b0 : Nat} {spare : Nat → Bool} {held : Bool} {r : Reach} {v : Value} {d : DataW H} {p : List MemPlace} (hv : Value.okWide Tryd.prog w r b0 32 v) (h : DataW.Trod enc Tryd.prog w base spare held 32 v d p) :
    ∃ (a : Option Addr) (cap : Nat) (zs : List Tally), v = .slice a zs.length cap ∧ (a = none → cap = 0) ∧ Rd w w.heap.size a (zs.flatMap Tally.cells) ∧ (∀ z ∈ zs, z.ok) ∧ (zs.length = 0 ∨ ∃ elems sp, d = .slice elems sp ∧ elems.length = zs.length) := by
  obtain ⟨a, n, cap, rfl⟩ := okWide_slice Tryd.underlying32 hv
  obtain ⟨f, hf⟩ := h
  have hc4 : Tryd.prog.cellsOf 24 = 4 := by kernel_rfl
  rcases DataW.trod_slice Tryd.underlying32 hf with ⟨hcs, _⟩ | ⟨a', n', cap', elems, rest, m, _, hcs, hx, hb, hl, hm, hlen, hel, hsp, hns⟩
  · simp [Value.cells] at hcs
    obtain ⟨rfl, rfl, rfl⟩ := hcs
    exact ⟨none, 0, [], rfl, fun _ => rfl, .inl rfl, by simp, .inl rfl⟩
  · simp [Value.cells] at hcs
    obtain ⟨rfl, rfl, rfl⟩ := hcs
    simp only [Prod.mk.injEq] at hx
    have each : ∀ i : Fin n, ∃ t : Tally, t.ok ∧ ∀ j, j < 4 → w.cell? ((a'.add (i * 4)).add j) = t.cells[j]? := fun i => by
      have h1 := hel i i.isLt
      rw [List.getElem?_eq_getElem (by rw [hlen]; exact i.isLt), hc4, Option.bind_eq_some_iff] at h1
      obtain ⟨cs, h2, h3⟩ := h1
      have E := trod_flat laidOut 4 m 24 _ _ _ flat24 (of_decide_eq_true (by kernel_rfl)) h3
      have hl : cs.length = 4 := E.1
      match cs, hl, E, h2 with
      | [a0, a1, a2, a3], _, E, h2 =>
        obtain ⟨n0, rfl, k0⟩ := E.int 0 rfl rfl Tryd.underlying2
        obtain ⟨n1, rfl, k1⟩ := E.int 1 rfl rfl Tryd.underlying2
        obtain ⟨n2, rfl, k2⟩ := E.int 2 rfl rfl Tryd.underlying2
        obtain ⟨n3, rfl, k3⟩ := E.int 3 rfl rfl Tryd.underlying2
        exact ⟨⟨n0, n1, n2, n3⟩, ⟨wf_i64 k0, wf_i64 k1, wf_i64 k2, wf_i64 k3⟩, fun j hj => (World.cells?_some h2).2.2 j hj⟩
    let tf : Fin n → Tally := fun i => Classical.choose (each i)
    have htf : ∀ i : Fin n, (tf i).ok ∧ ∀ j, j < 4 → w.cell? ((a'.add (i * 4)).add j) = (tf i).cells[j]? := fun i => Classical.choose_spec (each i)
    have hlz : (List.ofFn tf).length = n := List.length_ofFn
    refine ⟨some a', cap, List.ofFn tf, by rw [hlz], fun h => (by cases h), ?_, ?_, .inr ⟨_, _, hx.1, by rw [List.length_map, hlz, hlen]⟩⟩
    · rcases Nat.eq_zero_or_pos n with h0 | h0
      · subst h0; exact .inl (by simp)
      · obtain ⟨b, off, sp⟩ := a'
        have c0 := (htf ⟨0, h0⟩).2 0 (by omega)
        obtain rfl : sp = none := by
          have := World.cell?_spot c0
          simpa [Addr.add] using this
        simp only [Go.WideShapes.add_plain] at htf c0
        refine .inr ⟨b, off, rfl, cell_lt c0, fun j u hu => ?_⟩
        have hj : j < n * 4 := by
          have h1 := (List.getElem?_eq_some_iff.1 hu).1
          rw [flat_length Tally.cells 4 Tally.len, hlz] at h1
          exact h1
        have hi : j / 4 < n := by omega
        have h1 := flat_get Tally.cells 4 Tally.len (List.ofFn tf) (j / 4) (j % 4) (tf ⟨j / 4, hi⟩) (by rw [List.getElem?_eq_getElem (by rw [hlz]; exact hi)]; simp) (by omega)
        have h2 := (htf ⟨j / 4, hi⟩).2 (j % 4) (by omega)
        rw [show j / 4 * 4 + j % 4 = j by omega, hu] at h1
        rw [← h1] at h2
        have h3 : off + j / 4 * 4 + j % 4 = off + j := by omega
        simp only at h2
        rw [h3] at h2
        exact h2
    · intro z hz
      obtain ⟨i, rfl⟩ := List.mem_ofFn.1 hz
      exact (htf i).1

theorem joins_contract (H : Type) (enc : TypeId × Value → H) (W : World) (base : Nat) (args : Array Value) (ds gs : List (DataW H)) (before : List MemPlace)
    (hval : ∀ (j : Nat) t v, Tryd.f4.params[j]? = some t → args[j]? = some v → Value.okWide Tryd.prog W .any base t v)
    (hW : DataW.Whole enc Tryd.prog Tryd.f4.params.toList Rows.tallyJoinsSpec.vars false W args.toList ds gs before) (hsz0 : (DataW.weightsEach Tryd.prog (Tryd.f4.params.toList ++ Rows.tallyJoinsSpec.plain.varTypes Tryd.prog) (ds ++ gs)).all (· ≤ reachBytes) = true) :
    Calls Tryd.prog 4 args W fun e W' => ∃ v, e = .returned v ∧ Rows.tallyJoinsSpec.post enc Tryd.prog Tryd.f4 false true false false W args v W' := by
  have hW' := hW
  obtain ⟨p, q, hA0, hV, rfl, hfz, hnd⟩ := hW
  have hA : DataW.TrodAll enc Tryd.prog W 0 (fun _ => true) true Tryd.f4.params.toList args.toList ds p := hA0
  have hsz : (DataW.weightsEach Tryd.prog (Tryd.f4.params.toList ++ Rows.tallyJoinsSpec.plain.varTypes Tryd.prog) (ds ++ gs)).all (· ≤ reachBytes) = true := hsz0
  clear hsz0
  rw [Tryd.params4] at hA hval hsz
  obtain ⟨v0, vs0, d0, ds0, p0, q0, hargs, rfl, rfl, h0, r0⟩ := trodAll_cons hA
  obtain ⟨rfl, rfl, rfl⟩ := trodAll_nil r0
  obtain rfl : args = #[v0] := by cases args; simp_all
  obtain ⟨rfl, rfl⟩ := trodVars_none hV
  obtain ⟨a, cap, zs, rfl, ha, hr, hz, hd⟩ := open_tallies (hval 0 _ v0 rfl rfl) h0
  have hb8 : Tryd.prog.bytesOf 24 = 32 := by kernel_rfl
  have hlen : zs.length ≤ 4398046510976 := by
    rcases hd with hd | ⟨elems, spare, hd, he⟩
    · omega
    · subst hd
      have := sized_slice hsz (j := 0) (t := 32) (e := 24) rfl rfl Tryd.underlying32
      rw [hb8] at this
      simp only [reachBytes] at this
      omega
  refine (joins a _ cap zs W rfl hz hlen ha hr).mono fun e W' ⟨he, bel⟩ => ?_
  subst he
  exact ⟨_, rfl, post_true laidOut hW' rfl rfl (by kernel_rfl) rfl Tryd.underlying4 bel⟩

theorem joins_laid (os : Os) : laidMet Tryd.prog Rows.tallyJoinsRow.laid ((laidWorld os).forCall (fun _ _ => 0) ⟨#[], #[.slice none 0 0], []⟩).memory :=
  laidMet_of_run' 8 (by kernel_rfl) (by kernel_rfl)
theorem joins_reads (os : Os) {H : Type} (enc : TypeId × Value → H) : ∃ places, DataW.whole enc Tryd.prog ((laidWorld os).forCall (fun _ _ => 0) ⟨#[], #[.slice none 0 0], []⟩).memory Tryd.f4.params.toList Rows.tallyJoinsSpec.vars false #[Value.slice none 0 0].toList 8 = some ([.nil], [], places) :=
  ⟨[], by kernel_rfl⟩

set_option maxRecDepth 100000 in
theorem joins_lifted (os : Os) (started : os.Started) (H : Type) (enc : TypeId × Value → H) (F : Stop.Interp) :
    ReturnsInHanded {} Tryd.checked os 4 .any ((OpenSpec.ofChange Rows.tallyJoinsSpec).preRow enc Tryd.prog Tryd.f4 Rows.tallyJoinsRow.domain false Rows.tallyJoinsRow.laid) (((OpenSpec.ofChange Rows.tallyJoinsSpec).at F).post enc Tryd.prog Tryd.f4 false true false false) := by
  obtain ⟨places, hx⟩ := joins_reads os enc
  refine returnsInHanded_of_row (C := Tryd.checked) (s := OpenSpec.ofChange Rows.tallyJoinsSpec) own started (by kernel_rfl) Tryd.func4
    (witness_row_at (enc := enc) (C := Tryd.checked) false (laidWorld os) #[.slice none 0 0] rfl (by kernel_rfl) (by kernel_rfl) (by kernel_rfl)
      (OpenSpec.preRow_of_cond 8 hx (by kernel_rfl) (fun k hk => by cases hk) (by kernel_rfl) (joins_laid os))) ?_
  intro W base args ds gs before hval hW _ _ hsz _ _ _
  exact joins_contract H enc W base args ds gs before hval hW hsz

theorem joins_said : Rows.TallyJoinsSaid :=
  OpenClaim.holds_of_cond 4 Tryd.f4 rfl rfl rfl rfl rfl rfl rfl ⟨rfl, rfl, rfl, rfl, rfl⟩ rfl rfl rfl rfl rfl (by kernel_rfl) Tryd.func4 (by kernel_rfl)
    (of_decide_eq_true (by kernel_rfl)) (by unfold Func.isWrapper; first | (rw [if_pos (by decide +kernel)]; kernel_rfl) | (rw [if_neg (by decide +kernel)]; exact ⟨rfl, rfl⟩))
    (fun os started H enc _ F => by rw [OpenClaim.pre_eq_preRow]; exact joins_lifted os started H enc F)

theorem joins_plain (f : FuncId) (fn : Func) (hf : Tryd.pinned.checked.prog.funcNamed "keepsake/keepsakelaw08.TallyJoins" = some f) (hfn : Tryd.pinned.checked.prog.funcs[f]? = some fn) :
    false = Tryd.pinned.checked.prog.looks [] ∧ ∀ (j : Nat) t, fn.params[j]? = some t → Tryd.pinned.checked.prog.wantsStandIn t = false := by
  obtain rfl : f = 4 := Option.some.inj ((show Tryd.prog.funcNamed "keepsake/keepsakelaw08.TallyJoins" = some 4 by kernel_rfl).symm.trans hf) |>.symm
  obtain rfl : fn = Tryd.f4 := (Option.some.inj (Tryd.func4.symm.trans hfn)).symm
  refine ⟨by kernel_rfl, fun j t ht => ?_⟩
  rw [Tryd.params4] at ht
  obtain rfl : t = 32 := by simpa using Array.mem_of_getElem? ht
  exact (show Tryd.prog.wantsStandIn 32 = false by kernel_rfl)

theorem joins_card : Rows.TallyJoinsCardSaid :=
  Claim7.holds_tied_plain_at .later [] _ _ _ _ joins_said (fun _ h => by cases h) (by kernel_rfl) (fun _ h => by cases h) tallyJoins_row_tie rfl ⟨rfl, rfl⟩ (by kernel_rfl) rfl joins_plain (by kernel_rfl)
#print axioms joins_card
end Go.Proofs.YtkafcdgeboldgaaDoor
