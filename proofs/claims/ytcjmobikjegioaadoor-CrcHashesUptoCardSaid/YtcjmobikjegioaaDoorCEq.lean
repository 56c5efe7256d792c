/- Arrays that are compared; bytes as strings. -/
import Derived.Test.YtcjmobikjegioaaDoorCSums
import Derived.ChangeKeysEq
import Derived.Stop.BytesEq
import Derived.Laws.BytesArg
set_option linter.unusedSimpArgs false
set_option linter.unusedVariables false
namespace Go.Proofs.YtcjmobikjegioaaDoor
open Go.RowKit Go.Kp

theorem size8 (w : World) : (sizeOf 5).run Tryd.prog w = .ok 1 w := by kernel_rfl
theorem eq4 (xs ys : List UInt8) (hx : xs.length = 4) (hy : ys.length = 4) (w : World) :
    (Op.equalIn 10000 38 (.agg (xs.map B8).toArray) (.agg (ys.map B8).toArray)).run Tryd.prog w = .ok (xs == ys) w :=
  run_equalIn_bytes w 9998 38 5 4 Tryd.underlying38 Tryd.underlying5 size8 xs ys hx hy

section
variable {P : Program} (w : World)
theorem eqItems_self (d : Nat) (e : TypeId) (he : P.underlying e = some (.int .u32)) (l : List Int) : ∀ is : List Nat, (∀ i ∈ is, i < l.length) →
    (Op.eqItems (d + 1) e 1 (l.map (Value.int .u32)).toArray (l.map (Value.int .u32)).toArray is).run P w = .ok true w := by
  intro is
  induction is with
  | nil => intro _; simp [Op.eqItems]
  | cons i is ih =>
    intro h
    have hi := h i List.mem_cons_self
    have px : (part e (l.map (Value.int .u32)).toArray (i * 1)).run P w = .ok (.int .u32 l[i]) w := by
      simp [part, isAgg, run_underlying he, hi]
    simp only [Op.eqItems, Sem.run_bind, px, Result.andThen_ok, run_equalIn_int w d e .u32 .u32 _ _ he]
    simpa using ih fun j hj => h j (List.mem_cons_of_mem _ hj)
end
theorem eq256 (l : List Int) (hl : l.length = 256) (w : World) :
    (Op.equalIn 10000 44 (.agg (l.map (Value.int .u32)).toArray) (.agg (l.map (Value.int .u32)).toArray)).run Tryd.prog w = .ok true w := by
  obtain ⟨i, hi⟩ : ∃ i, Tryd.prog.info? 23 = some i := Option.isSome_iff_exists.1 (by kernel_rfl)
  have h := run_equalIn_array (P := Tryd.prog) w 9999 (t := 44) (e := 23) (n := 256) (i := i) (l.map (Value.int .u32)).toArray (l.map (Value.int .u32)).toArray Tryd.underlying44 hi
  rw [h, show Tryd.prog.cellsOf 23 = 1 by kernel_rfl]
  exact eqItems_self w 9998 23 Tryd.underlying23 l _ fun i hi => by rw [hl]; simpa using hi

/-- Bytes as a string. -/
def strOf (l : List UInt8) : ByteArray := ⟨l.toArray⟩
theorem strOf_nums (l : List UInt8) : strOfNums (l.map fun b => (b.toNat : Int)) = strOf l := by
  unfold strOfNums strOf
  congr 1
  simp [Function.comp_def]
theorem strOf_eq (a b : List UInt8) : (strOf a = strOf b) ↔ a = b := by
  unfold strOf
  constructor
  · intro h; injection h with h; simpa using h
  · rintro rfl; rfl
theorem conv_text (b off n cap : Nat) (l : List UInt8) (hl : l.length = n) (w : World) (hc : ∀ (j : Nat) u, (l.map B8)[j]? = some u → w.cell? ⟨b, off + j, none⟩ = some u) :
    (convert 24 9 (.slice (some ⟨b, off, none⟩) n cap)).run Tryd.prog w = .ok (.string (strOf l)) w := by
  rw [← strOf_nums]
  refine run_convert_bytes_arg w 24 5 Tryd.underlying24 Tryd.underlying5 b off n cap _ (by simpa using hl) (fun i hi => ?_) 9 Tryd.underlying9
  have hi' : i < l.length := by omega
  rw [hc i (B8 l[i]) (by simp [hi'])]
  simp [hi']
theorem conv_nil (n cap : Nat) (w : World) : (convert 24 9 (.slice none n cap)).run Tryd.prog w = .ok (.string (strOf [])) w :=
  run_convert_bytes_nil w 24 5 Tryd.underlying24 Tryd.underlying5 n cap 9 Tryd.underlying9
theorem conv_rd (a : Option Addr) (n cap : Nat) (l : List UInt8) (hl : l.length = n) (w : World) (B : Nat) (hr : Rd w B a (l.map B8)) :
    (convert 24 9 (.slice a n cap)).run Tryd.prog w = .ok (.string (strOf l)) w := by
  rcases hr with hr | ⟨b, off, rfl, _, hc⟩
  · obtain rfl : l = [] := List.map_eq_nil_iff.1 hr
    cases a with
    | none => exact conv_nil n cap w
    | some a =>
      obtain ⟨b, off, st⟩ := a
      simp at hl
      subst hl
      rw [run_convert_bytes_string w _ _ _ _ _ _ Tryd.underlying24 Tryd.underlying5 Tryd.underlying9]
      simp [Conv.bytesToString, loadCells, strOf]
      rfl
  · exact conv_text b off n cap l hl w hc
end Go.Proofs.YtcjmobikjegioaaDoor
