/- The table of fours and the arguments of this seat's laws. -/
import Derived.Test.YtolbmjilcngnhaaDoorFrK
import Derived.Test.YtolbmjilcngnhaaDoorOpen
import Derived.Test.YtolbmjilcngnhaaDoorCards
import Derived.Test.YtolbmjilcngnhaaDoorTie
import Derived.WalkKit
import Derived.ProofKit
import Derived.OpenShut
import Derived.Deep.DeepHandedRow
import Derived.Lib.LaidTab
import Derived.SizedLaws
set_option linter.unusedSimpArgs false
set_option linter.unusedVariables false
namespace Go.Proofs.YtolbmjilcngnhaaDoor
open Go.ChangeShapes Go.WideShapes Go.ChangeAt Go.RowKit Go.Kp

theorem own : ownKnob Tryd.prog.godebug = none := by kernel_rfl
theorem laidOut : laidOutB Tryd.prog = true := by kernel_rfl
theorem gTab : Tryd.prog.globalNamed "keepsake/crc.fours" = some 0 := by kernel_rfl
theorem gTabType : (Tryd.prog.globals[0]?).map (·.type) = some 86 := by kernel_rfl
theorem cellsTab : Tryd.prog.cellsOf 86 = 16 := by kernel_rfl
theorem cells32 : Tryd.prog.cellsOf 36 = 1 := by kernel_rfl
theorem fours_eq : Crc.fours = [0, 274646895, 549293790, 820201905, 1098587580, 1361435347, 1640403810, 1905808397, 2197175160, 2460548119, 2722870694, 2987750089, 3280807620, 3553878443, 3811616794, 4084100981] := rfl
theorem table {W : World} (h : laidMetH Tryd.prog Rows.framePutsRow.laid W) : Lib.TabIs Tryd.prog W "keepsake/crc.fours" .u32 Crc.fours :=
  Lib.tabIs_of_head (rest := []) gTab gTabType Tryd.underlying86 Tryd.underlying36 cells32 cellsTab h
theorem tab_of {W : World} (h : laidMetH Tryd.prog Rows.framePutsRow.laid W) : Tab W := by
  have H := table h
  have hc : ∀ (i : Nat) n, Crc.fours[i]? = some n → W.cell? ⟨0, i, none⟩ = some (.int .u32 n) := fun i n hn => by
    have hi : i < 16 := (List.getElem?_eq_some_iff.1 hn).1
    have := H.cell gTab i hi
    rw [this]
    rw [List.getD_eq_getElem?_getD, hn]; rfl
  refine ⟨?_, hc⟩
  rcases Nat.lt_or_ge 0 W.heap.size with h0 | h0
  · exact h0
  · have := hc 0 0 rfl
    simp [World.cell?, Array.getElem?_eq_none h0] at this

/-- A world for the witness: the settled one, the table holding what its initialiser lays. -/
noncomputable def laidWorld (os : Os) : World :=
  { World.holding Tryd.prog os ⟨#[], #[], []⟩ with heap := (World.holding Tryd.prog os ⟨#[], #[], []⟩).heap.modify 0 fun
      | .cells _ t frozen => .cells #[.int .u32 0, .int .u32 274646895, .int .u32 549293790, .int .u32 820201905, .int .u32 1098587580, .int .u32 1361435347, .int .u32 1640403810, .int .u32 1905808397, .int .u32 2197175160, .int .u32 2460548119, .int .u32 2722870694, .int .u32 2987750089, .int .u32 3280807620, .int .u32 3553878443, .int .u32 3811616794, .int .u32 4084100981] t frozen
      | o => o }

theorem wf_u32 {n : Int} (h : (Lit.int .u32 n).wf = true) : 0 ≤ n ∧ n < 4294967296 := by
  simp only [Lit.wf, Bool.and_eq_true, decide_eq_true_eq] at h
  have e1 : IntKind.u32.min = 0 := by decide +kernel
  have e2 : IntKind.u32.max = 4294967295 := by decide +kernel
  rw [e1, e2] at h
  omega
theorem wf_u8 {n : Int} (h : (Lit.int .u8 n).wf = true) : 0 ≤ n ∧ n < 256 := by
  simp only [Lit.wf, Bool.and_eq_true, decide_eq_true_eq] at h
  have e1 : IntKind.u8.min = 0 := by decide +kernel
  have e2 : IntKind.u8.max = 255 := by decide +kernel
  rw [e1, e2] at h
  omega

/-- Numbers that fit a byte are bytes. -/
theorem to_bytes : ∀ (zs : List Int), (∀ z ∈ zs, 0 ≤ z ∧ z < 256) → ∃ l : List UInt8, l.length = zs.length ∧ zs.map (Value.int .u8) = l.map B8
  | [], _ => ⟨[], rfl, rfl⟩
  | z :: zs, h => by
    obtain ⟨l, h1, h2⟩ := to_bytes zs fun y hy => h y (List.mem_cons_of_mem _ hy)
    have hz := h z List.mem_cons_self
    refine ⟨UInt8.ofNat z.toNat :: l, by simp [h1], ?_⟩
    have e : ((UInt8.ofNat z.toNat).toNat : Int) = z := by
      have : (UInt8.ofNat z.toNat).toNat = z.toNat := by simp; omega
      rw [this]; omega
    rw [List.map_cons, List.map_cons, h2]
    show Value.int .u8 z :: _ = Value.int .u8 ((UInt8.ofNat z.toNat).toNat : Int) :: _
    rw [e]

/-- A slice of bytes among the arguments, opened. -/
theorem open_text {H : Type} {enc : TypeId × Value → H} {w : World} {base b0 : Nat} {spare : Nat → Bool} {held : Bool} {r : Reach} {v : Value} {d : DataW H} {p : List MemPlace} (hv : Value.okWide Tryd.prog w r b0 22 v) (h : DataW.Trod enc Tryd.prog w base spare held 22 v d p) :
    ∃ (a : Option Addr) (cap : Nat) (l : List UInt8), v = .slice a l.length cap ∧ (a = none → cap = 0) ∧ l.length ≤ cap ∧ Rd w w.heap.size a (l.map B8) ∧ (l.length = 0 ∨ ∃ elems sp, d = .slice elems sp ∧ elems.length = l.length) := by
  obtain ⟨a, n, cap, rfl⟩ := okWide_slice Tryd.underlying22 hv
  obtain ⟨f, hf⟩ := h
  have hc : Tryd.prog.cellsOf 5 = 1 := by kernel_rfl
  rcases open_ints Tryd.underlying22 Tryd.underlying5 hc hf with ⟨hcs, _⟩ | ⟨a', n', cap', zs, hcs, hnc, hl, hm, hz, hx, hcell, hwf⟩
  · simp [Value.cells] at hcs
    obtain ⟨rfl, rfl, rfl⟩ := hcs
    exact ⟨none, 0, [], rfl, fun _ => rfl, by simp, .inl rfl, .inl rfl⟩
  · simp [Value.cells] at hcs
    obtain ⟨rfl, rfl, rfl⟩ := hcs
    have hn : n ≤ zs.length := by rw [hz]; split <;> omega
    simp only [Prod.mk.injEq] at hx
    obtain ⟨l, hll, hlm⟩ := to_bytes (zs.take n) fun z hz => wf_u8 (hwf z (List.mem_of_mem_take hz))
    have hl2 : l.length = n := by rw [hll]; simp [Nat.min_eq_left hn]
    refine ⟨some a', cap, l, by rw [hl2], fun h => (by cases h), by omega, ?_, .inr ⟨_, _, hx.1, by simp [lits]; omega⟩⟩
    rw [← hlm]
    rcases Nat.eq_zero_or_pos n with h0 | h0
    · subst h0; exact .inl (by simp)
    · obtain ⟨b, off, rfl, hc⟩ := ints_at hcell (by omega)
      refine .inr ⟨b, off, rfl, block_lt_of_cell (hc 0 (by omega)), fun j u hu => ?_⟩
      have hj : j < n := by
        have := (List.getElem?_eq_some_iff.1 hu).1
        simp at this; omega
      rw [hc j (by omega)]
      rw [List.getElem?_map, List.getElem?_take_of_lt hj, List.getElem?_eq_getElem (show j < zs.length by omega)] at hu
      rw [← hu, List.getD_eq_getElem?_getD, List.getElem?_eq_getElem (show j < zs.length by omega)]
      rfl
end Go.Proofs.YtolbmjilcngnhaaDoor
