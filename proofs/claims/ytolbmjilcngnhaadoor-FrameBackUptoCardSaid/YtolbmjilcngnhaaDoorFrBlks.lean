/- A list of blocks among the arguments. -/
import Derived.Test.YtolbmjilcngnhaaDoorFrTxt
import Derived.Test.YtolbmjilcngnhaaDoorFrRow
import Derived.Lib.SmallJoins
set_option linter.unusedSimpArgs false
set_option linter.unusedVariables false
namespace Go.Proofs.YtolbmjilcngnhaaDoor
open Go.ChangeShapes Go.WideShapes Go.ChangeAt Go.RowKit Go.Kp

theorem block_at {H : Type} {enc : TypeId × Value → H} {w : World} {base f : Nat} {spare : Nat → Bool} {held : Bool} {cs : List Value} {y : DataW H × List MemPlace} (hf : DataW.trod enc Tryd.prog w base spare held f 35 cs = some y) :
    ∃ x : Bk, cs = x.cells ∧ x.rd w w.heap.size ∧ ∃ d0 d1, y.1 = .agg [d0, d1] ∧ (x.l.length = 0 ∨ ∃ elems sp, d1 = .slice elems sp ∧ elems.length = x.l.length) := by
  obtain ⟨y0, y1, k, rfl, hl, h0, h1⟩ := trod_struct2 Tryd.underlying35 hf
  obtain ⟨x0, x1, rfl⟩ : ∃ x0 x1, cs = [x0, x1] := by
    have hl : cs.length = 2 := hl.trans (show Tryd.prog.cellsOf 35 = 2 by kernel_rfl)
    match cs, hl with
    | [a, b], _ => exact ⟨a, b, rfl⟩
  have e1 : Tryd.prog.cellsOf 5 = 1 := by kernel_rfl
  have e2 : Tryd.prog.cellsOf 22 = 1 := by kernel_rfl
  simp only [e1, e2, List.drop_zero, List.drop_succ_cons, List.take_succ_cons, List.take_zero] at h0 h1
  obtain ⟨n, q0, _, hn⟩ := DataW.trod_int Tryd.underlying5 h0
  obtain ⟨a, cap, l, q1, ha, hc, hm, hr, hd⟩ := text_at h1
  have q0' : [x0] = [Value.int .u8 n] := q0
  have q1' : [x1] = [Value.slice a l.length cap] := q1
  obtain rfl := List.head_eq_of_cons_eq q0'
  obtain rfl := List.head_eq_of_cons_eq q1'
  obtain ⟨t, rfl⟩ := byte_of hn
  exact ⟨⟨t, .slice a l.length cap, l⟩, rfl, ⟨a, cap, rfl, ha, hr⟩, _, _, rfl, hd⟩

theorem weights_mem {H : Type} (P : Program) (e : TypeId) : ∀ (l : List (DataW H)) (x : DataW H), x ∈ l → ∀ z ∈ x.weights P e, z ∈ DataW.weightsAll P e l
  | [], x, h, _, _ => by cases h
  | y :: l, x, h, z, hz => by
    rw [DataW.weightsAll]
    rcases List.mem_cons.1 h with rfl | h
    · exact List.mem_append_left _ hz
    · exact List.mem_append_right _ (weights_mem P e l x h z hz)
theorem weights_each {H : Type} (P : Program) : ∀ (ts : List TypeId) (ds : List (DataW H)) (j : Nat) (t : TypeId) (d : DataW H), ts[j]? = some t → ds[j]? = some d → ∀ z ∈ d.weights P t, z ∈ DataW.weightsEach P ts ds
  | [], _, _, _, _, h, _, _, _ => by simp at h
  | _ :: _, [], _, _, _, _, h, _, _ => by simp at h
  | t :: ts, d :: ds, 0, t', d', h, k, z, hz => by
    simp at h k
    subst h; subst k
    rw [DataW.weightsEach]; exact List.mem_append_left _ hz
  | t :: ts, d :: ds, j + 1, t', d', h, k, z, hz => by
    rw [DataW.weightsEach]
    exact List.mem_append_right _ (weights_each P ts ds j t' d' (by simpa using h) (by simpa using k) z hz)

theorem open_blocks {H : Type} {enc : TypeId × Value → H} {w : World} {base b0 : Nat} {spare : Nat → Bool} {held : Bool} {r : Reach} {v : Value} {d : DataW H} {p : List MemPlace} (hv : Value.okWide Tryd.prog w r b0 43 v) (h : DataW.Trod enc Tryd.prog w base spare held 43 v d p)
    {ts : List TypeId} {ds : List (DataW H)} (hsz : (DataW.weightsEach Tryd.prog ts ds).all (· ≤ reachBytes) = true) {j : Nat} (hts : ts[j]? = some 43) (hds : ds[j]? = some d) :
    ∃ (a : Option Addr) (cap : Nat) (bs : List Bk), v = .slice a bs.length cap ∧ bs.length ≤ 4398046511104 ∧ Rd w w.heap.size a (bs.flatMap Bk.cells) ∧ (∀ x ∈ bs, x.rd w w.heap.size ∧ x.l.length ≤ 140737488351232) ∧ (a = none → cap = 0) := by
  obtain ⟨a, n, cap, rfl⟩ := okWide_slice Tryd.underlying43 hv
  obtain ⟨f, hf⟩ := h
  have hc2 : Tryd.prog.cellsOf 35 = 2 := by kernel_rfl
  have hw : ∀ z ∈ d.weights Tryd.prog 43, z ≤ reachBytes := fun z hz => by
    have h1 := weights_each Tryd.prog ts ds j _ _ hts hds z hz
    have h2 := List.all_eq_true.1 hsz z h1
    simpa using h2
  rcases Deep.open_slice Tryd.underlying43 hf with ⟨hcs, _⟩ | ⟨a', n', cap', m, g, D, Pl, hcs, hb, hl, hm, hmm, hx, he⟩
  · simp [Value.cells] at hcs
    obtain ⟨rfl, rfl, rfl⟩ := hcs
    exact ⟨none, 0, [], rfl, by simp, .inl rfl, by simp, fun _ => rfl⟩
  · simp [Value.cells] at hcs
    obtain ⟨rfl, rfl, rfl⟩ := hcs
    simp only [Prod.mk.injEq] at hx
    obtain ⟨rfl, _⟩ := hx
    have hnm : n ≤ m := by rw [hmm]; split <;> omega
    have hwe : ∀ i, i < n → ∀ z ∈ (D i).weights Tryd.prog 35, z ≤ reachBytes := fun i hi z hz => by
      refine hw z ?_
      rw [DataW.weights, Tryd.underlying43]
      exact List.mem_cons_of_mem _ (List.mem_append_left _ (weights_mem _ _ _ (D i) (List.mem_map.2 ⟨i, by simpa using hi, rfl⟩) z hz))
    have hn : n ≤ 4398046511104 := by
      have h1 := hw _ (by rw [DataW.weights, Tryd.underlying43]; exact List.mem_cons_self)
      rw [show Tryd.prog.bytesOf 35 = 32 by kernel_rfl] at h1
      simp only [List.length_map, List.length_range, reachBytes] at h1
      omega
    have each : ∀ i, i < n → ∃ t : Bk, (∀ j, j < 2 → w.cell? ((a'.add (i * 2)).add j) = t.cells[j]?) ∧ t.rd w w.heap.size ∧ t.l.length ≤ 140737488351232 := fun i hi => by
      obtain ⟨cs, h2, h3⟩ := he i (by omega)
      rw [hc2] at h2
      obtain ⟨t, rfl, h4, d0, d1, h5, h6⟩ := block_at h3
      refine ⟨t, fun j hj => (World.cells?_some h2).2.2 j hj, h4, ?_⟩
      rcases h6 with h6 | ⟨elems, sp, rfl, h6⟩
      · omega
      · have h7 := hwe i hi ((elems.length + sp.length) * Tryd.prog.bytesOf 5) (by
          have h5 : D i = .agg [d0, .slice elems sp] := h5
          rw [h5, DataW.weights, Tryd.underlying35]
          refine weights_each Tryd.prog _ _ 1 22 (.slice elems sp) rfl rfl _ ?_
          rw [DataW.weights, Tryd.underlying22]
          exact List.mem_cons_self)
        rw [show Tryd.prog.bytesOf 5 = 1 by kernel_rfl] at h7
        simp only [reachBytes] at h7
        omega
    haveI : Inhabited Bk := ⟨⟨0, .slice none 0 0, []⟩⟩
    obtain ⟨tf, htf⟩ := Deep.choose_lt each
    have hlz : ((List.range n).map tf).length = n := by simp
    refine ⟨some a', cap, (List.range n).map tf, by rw [hlz], by rw [hlz]; exact hn, ?_, ?_, fun h => by cases h⟩
    · rcases Nat.eq_zero_or_pos n with h0 | h0
      · subst h0; exact .inl (by simp)
      · obtain ⟨b, off, sp⟩ := a'
        have c0 := (htf 0 h0).1 0 (by omega)
        obtain rfl : sp = none := by
          have := World.cell?_spot c0
          simpa [Addr.add] using this
        simp only [Go.WideShapes.add_plain] at htf c0
        refine .inr ⟨b, off, rfl, block_lt_of_cell c0, fun j u hu => ?_⟩
        have hj : j < n * 2 := by
          have h1 := (List.getElem?_eq_some_iff.1 hu).1
          rw [flat_length Bk.cells 2 Bk.len, hlz] at h1
          exact h1
        have hi : j / 2 < n := by omega
        have h1 := flat_get Bk.cells 2 Bk.len ((List.range n).map tf) (j / 2) (j % 2) (tf (j / 2)) (by simp [hi]) (by omega)
        have h2 := (htf (j / 2) hi).1 (j % 2) (by omega)
        rw [show j / 2 * 2 + j % 2 = j by omega, hu] at h1
        rw [← h1] at h2
        have h3 : off + j / 2 * 2 + j % 2 = off + j := by omega
        rw [h3] at h2
        exact h2
    · intro x hx
      obtain ⟨i, hi, rfl⟩ := List.mem_map.1 hx
      have hin : i < n := by simpa using hi
      exact (htf i hin).2
end Go.Proofs.YtolbmjilcngnhaaDoor
