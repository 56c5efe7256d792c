/- Texts and their sums: More and Sum, the program's and the document's. -/
import Derived.Test.YtcjmobikjegioaaDoorCA
set_option linter.unusedSimpArgs false
set_option linter.unusedVariables false
namespace Go.Proofs.YtcjmobikjegioaaDoor
open Go.RowKit Go.Kp

/-- The value is a slice of just these bytes, below block B. -/
def Txt (w : World) (B : Nat) (v : Value) (l : List UInt8) : Prop :=
  ∃ a cap, v = .slice a l.length cap ∧ (a = none → cap = 0) ∧ l.length ≤ 281474976710656 ∧ Rd w B a (l.map B8)
theorem Txt.below {w w' : World} {B : Nat} {v : Value} {l : List UInt8} (h : Txt w B v l) (hb : Below B w w') : Txt w' B v l := by
  obtain ⟨a, cap, h1, h2, h3, h4⟩ := h
  exact ⟨a, cap, h1, h2, h3, h4.below hb⟩
theorem Txt.more {w : World} {B B' : Nat} {v : Value} {l : List UInt8} (h : Txt w B v l) (hB : B ≤ B') : Txt w B' v l := by
  obtain ⟨a, cap, h1, h2, h3, h4⟩ := h
  exact ⟨a, cap, h1, h2, h3, h4.more hB⟩
theorem Txt.next {w w' : World} {v : Value} {l : List UInt8} (h : Txt w w.heap.size v l) (hb : Below w.heap.size w w') : Txt w' w'.heap.size v l := (h.below hb).more hb.size

theorem rd_byte {w : World} {b off : Nat} {l : List UInt8} (hc : ∀ (j : Nat) u, (l.map B8)[j]? = some u → w.cell? ⟨b, off + j, none⟩ = some u) {k : Nat} {z : UInt8} (hz : l[k]? = some z) : w.cell? ⟨b, off + k, none⟩ = some (B8 z) :=
  hc k _ (by rw [List.getElem?_map, hz]; rfl)

theorem raw_snoc (s : BitVec 32) (l : List UInt8) (k : Nat) (z : UInt8) (h : l[k]? = some z) : Crc.raw s (l.take (k + 1)) = Crc.eight (Crc.raw s (l.take k) ^^^ Crc.wide z) := by
  rw [List.take_add_one, h, Crc.raw_append]; rfl
theorem byte_bd (z : UInt8) : (0 : Int) ≤ z.toNat ∧ (z.toNat : Int) < 256 := by have := z.toNat_lt; omega

attribute [local go_sem high] Crc.bits_not Crc.bits_not_max Crc.bits_xor_byte

set_option maxHeartbeats 1000000 in
theorem more_any (s : BitVec 32) (v : Value) (l : List UInt8) (w : World) (hT : Tab w) (hv : Txt w w.heap.size v l) :
    Calls Tryd.prog 14 #[U s, v] w (Ret (U (Crc.more s l)) w) := by
  obtain ⟨a, cap, rfl, _, hl, hr⟩ := hv
  generalize hn : l.length = n at hl ⊢
  have HN := Lib.hid hn
  have HR := Lib.hid hr
  have HT := Lib.hid hT
  clear hn hr hT
  go_enter Tryd.func14, Tryd.ntmps14
  go_wp2_with fail
  go_loopw [0, 11] (fun t i wr => ∃ k : Nat, k ≤ n ∧ i = .int .i64 k ∧ t = U (Crc.raw (~~~s) (l.take k)) ∧ Below w.heap.size w wr) (fun _ i _ => n - (intOf i).toNat)
  case atStart => exact ⟨0, Nat.zero_le _, rfl, rfl, by go_grown⟩
  case round =>
    obtain ⟨k, hk, rfl, rfl, hB⟩ := hrel
    rcases Nat.lt_or_ge k n with hlt | hge
    · obtain ⟨z, hz⟩ : ∃ z, l[k]? = some z := ⟨_, List.getElem?_eq_getElem (by rw [HN.out]; exact hlt)⟩
      have HS := Lib.hid (raw_snoc (~~~s) l k z hz)
      have zb := byte_bd z
      rcases HR.out with hr | ⟨b, off, rfl, hbl, hc⟩
      · have := HN.out
        rw [List.map_eq_nil_iff.1 hr] at this
        simp at this; omega
      · have e0 : wr.cell? ⟨b, off + k, none⟩ = some (B8 z) := (hB.cell (p := ⟨b, off + k, none⟩) hbl).trans (rd_byte hc hz)
        clear hz hbl hc
        generalize Crc.raw (~~~s) (l.take k) = r at *
        go_wp2_with fail
        refine (eight_any _ _ (HT.out.next hB)).mono ?_
        rintro en w1 ⟨rfl, hb1⟩
        have hB1 : Below w.heap.size w w1 := bnext (by go_grown) hb1
        clear hb1 hB e0
        go_wp2_with fail
        go_roundw
        case rel => exact ⟨k + 1, by omega, by go_num, by rw [HS.out], by go_grown⟩
        case measure => simp [intOf]; omega
    · obtain rfl : k = n := by omega
      have ht : l.take k = l := by rw [← HN.out]; exact List.take_length
      go_wp2_with fail
      go_returns
      exact ⟨rfl, by go_grown⟩

set_option maxHeartbeats 1000000 in
theorem refMore_any (s : BitVec 32) (v : Value) (l : List UInt8) (w : World) (hv : Txt w w.heap.size v l) :
    Calls Tryd.prog 15 #[U s, v] w (Ret (U (Crc.more s l)) w) := by
  obtain ⟨a, cap, rfl, _, hl, hr⟩ := hv
  generalize hn : l.length = n at hl ⊢
  have HN := Lib.hid hn
  have HR := Lib.hid hr
  clear hn hr
  go_enter Tryd.func15, Tryd.ntmps15
  go_wp2_with fail
  refine (turned_any _ _).mono ?_
  rintro en w0 ⟨rfl, hb0⟩
  have hB0 : Below w.heap.size w w0 := bnext (by go_grown) hb0
  clear hb0
  go_wp2_with fail
  go_loopw [5, 6] (fun t i wr => ∃ k : Nat, k ≤ n ∧ i = .int .i64 k ∧ t = U (Crc.raw (~~~s) (l.take k)) ∧ Below w.heap.size w wr) (fun _ i _ => n - (intOf i).toNat)
  case atStart => exact ⟨0, Nat.zero_le _, rfl, rfl, by go_grown⟩
  case round =>
    obtain ⟨k, hk, rfl, rfl, hB⟩ := hrel
    rcases Nat.lt_or_ge k n with hlt | hge
    · obtain ⟨z, hz⟩ : ∃ z, l[k]? = some z := ⟨_, List.getElem?_eq_getElem (by rw [HN.out]; exact hlt)⟩
      have HS := Lib.hid (raw_snoc (~~~s) l k z hz)
      have zb := byte_bd z
      rcases HR.out with hr | ⟨b, off, rfl, hbl, hc⟩
      · have := HN.out
        rw [List.map_eq_nil_iff.1 hr] at this
        simp at this; omega
      · have e0 : wr.cell? ⟨b, off + k, none⟩ = some (B8 z) := (hB.cell (p := ⟨b, off + k, none⟩) hbl).trans (rd_byte hc hz)
        clear hz hbl hc
        generalize Crc.raw (~~~s) (l.take k) = r at *
        go_wp2_with fail
        refine (refEight_any _ _).mono ?_
        rintro en w1 ⟨rfl, hb1⟩
        have hB1 : Below w.heap.size w w1 := bnext (by go_grown) hb1
        clear hb1 hB e0
        go_wp2_with fail
        go_roundw
        case rel => exact ⟨k + 1, by omega, by go_num, by rw [HS.out], by go_grown⟩
        case measure => simp [intOf]; omega
    · obtain rfl : k = n := by omega
      have ht : l.take k = l := by rw [← HN.out]; exact List.take_length
      go_wp2_with fail
      refine (turned_any _ _).mono ?_
      rintro en w1 ⟨rfl, hb1⟩
      have hB1 : Below w.heap.size w w1 := bnext (by go_grown) hb1
      clear hb1
      go_wp2_with fail
      go_returns
      exact ⟨rfl, by go_grown⟩

theorem refSum_any (v : Value) (l : List UInt8) (w : World) (hv : Txt w w.heap.size v l) :
    Calls Tryd.prog 13 #[v] w (Ret (U (Crc.more 0#32 l)) w) := by
  have HV := Lib.hid hv
  clear hv
  go_enter Tryd.func13, Tryd.ntmps13
  go_wp2_with fail
  refine (refMore_any 0#32 _ l _ (HV.out.next (by go_grown))).mono ?_
  rintro en w0 ⟨rfl, hb0⟩
  have hB0 : Below w.heap.size w w0 := bnext (by go_grown) hb0
  clear hb0
  go_wp2_with fail
  go_returns
  exact ⟨rfl, by go_grown⟩

/-- A slice of texts. -/
def Txts (w : World) (B : Nat) (a : Option Addr) (vs : List Value) (ls : List (List UInt8)) : Prop :=
  vs.length = ls.length ∧ Rd w B a vs ∧ ∀ (k : Nat) v l, vs[k]? = some v → ls[k]? = some l → Txt w B v l
theorem Txts.below {w w' : World} {B : Nat} {a : Option Addr} {vs : List Value} {ls : List (List UInt8)} (h : Txts w B a vs ls) (hb : Below B w w') : Txts w' B a vs ls :=
  ⟨h.1, h.2.1.below hb, fun k v l h1 h2 => (h.2.2 k v l h1 h2).below hb⟩
theorem Txts.more {w : World} {B B' : Nat} {a : Option Addr} {vs : List Value} {ls : List (List UInt8)} (h : Txts w B a vs ls) (hB : B ≤ B') : Txts w B' a vs ls :=
  ⟨h.1, h.2.1.more hB, fun k v l h1 h2 => (h.2.2 k v l h1 h2).more hB⟩
theorem flatten_snoc (ls : List (List UInt8)) (k : Nat) (l : List UInt8) (h : ls[k]? = some l) : (ls.take (k + 1)).flatten = (ls.take k).flatten ++ l := by
  rw [List.take_add_one, h]; simp

set_option maxHeartbeats 1000000 in
theorem sum_any (a : Option Addr) (n cap : Nat) (vs : List Value) (ls : List (List UInt8)) (w : World) (hT : Tab w) (hl : ls.length = n) (hn : n ≤ 281474976710656) (hv : Txts w w.heap.size a vs ls) :
    Calls Tryd.prog 12 #[.slice a n cap] w (Ret (U (Crc.more 0#32 ls.flatten)) w) := by
  have HN := Lib.hid hl
  have HV := Lib.hid hv
  have HT := Lib.hid hT
  obtain ⟨hnp⟩ : Nonempty (n ≤ 281474976710656) := ⟨hn⟩
  clear hl hv hT
  go_enter Tryd.func12, Tryd.ntmps12
  go_wp2_with fail
  go_loopw [3, 8] (fun t i wr => ∃ k : Nat, k ≤ n ∧ i = .int .i64 k ∧ t = U (Crc.more 0#32 (ls.take k).flatten) ∧ Below w.heap.size w wr) (fun _ i _ => n - (intOf i).toNat)
  case atStart => exact ⟨0, Nat.zero_le _, rfl, by rw [List.take_zero]; exact congrArg (Value.int .u32) Crc.more_nil.symm, by go_grown⟩
  case round =>
    obtain ⟨k, hk, rfl, rfl, hB⟩ := hrel
    rcases Nat.lt_or_ge k n with hlt | hge
    · obtain ⟨l, hz⟩ : ∃ z, ls[k]? = some z := ⟨_, List.getElem?_eq_getElem (by rw [HN.out]; exact hlt)⟩
      obtain ⟨v, hv⟩ : ∃ z, vs[k]? = some z := ⟨_, List.getElem?_eq_getElem (by rw [HV.out.1, HN.out]; exact hlt)⟩
      have HX := Lib.hid (HV.out.2.2 k v l hv hz)
      have HS := Lib.hid (show Crc.more 0#32 (ls.take (k + 1)).flatten = Crc.more (Crc.more 0#32 (ls.take k).flatten) l by rw [flatten_snoc ls k l hz, Crc.more_append])
      rcases HV.out.2.1 with hr | ⟨b, off, rfl, hbl, hc⟩
      · rw [hr] at hv; simp at hv
      · have e0 : wr.cell? ⟨b, off + k, none⟩ = some v := (hB.cell (p := ⟨b, off + k, none⟩) hbl).trans (hc k _ hv)
        obtain ⟨va, vn, vc, rfl⟩ : ∃ va vn vc, v = .slice va vn vc := by
          obtain ⟨va, vc, h, _⟩ := HX.out
          exact ⟨va, _, vc, h⟩
        clear hz hv hbl hc
        generalize Crc.more 0#32 (ls.take k).flatten = r at *
        go_wp2_with fail
        refine (more_any r _ l _ (HT.out.next hB) (HX.out.next hB)).mono ?_
        rintro en w1 ⟨rfl, hb1⟩
        have hB1 : Below w.heap.size w w1 := bnext (by go_grown) hb1
        clear hb1 hB e0
        go_wp2_with fail
        go_roundw
        case rel => exact ⟨k + 1, by omega, by go_num, by rw [HS.out], by go_grown⟩
        case measure => simp [intOf]; omega
    · obtain rfl : k = n := by omega
      have ht : ls.take k = ls := by rw [← HN.out]; exact List.take_length
      go_wp2_with fail
      go_returns
      exact ⟨ret_int (by rw [ht]), by go_grown⟩
end Go.Proofs.YtcjmobikjegioaaDoor
