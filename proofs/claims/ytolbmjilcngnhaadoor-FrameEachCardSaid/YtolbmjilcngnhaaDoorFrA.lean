/- The words of this seat (numbers of 32 bits, texts, the table of fours) and the program's sums; bytes as strings; append of bytes. -/
import Derived.Test.YtolbmjilcngnhaaDoorProg
import Derived.Test.YtolbmjilcngnhaaDoorPlan
import Derived.Test.YtolbmjilcngnhaaDoorBase
import Derived.Test.YtolbmjilcngnhaaDoorCrc
import Derived.Test.YtolbmjilcngnhaaDoorFork
import Derived.Stop.BytesEq
import Derived.Laws.BytesArg
import Derived.Laws.AppendOwnNone
import Derived.Maps.AppendAt
import Derived.Deep.Cut
import Derived.Deep.AppendLies
set_option linter.unusedSimpArgs false
set_option linter.unusedVariables false
namespace Go.Proofs.YtolbmjilcngnhaaDoor
open Go.RowKit Go.Kp

/-- A number of 32 bits, a byte, as values. -/
abbrev U (x : BitVec 32) : Value := .int .u32 (Crc.num x)
abbrev B8 (b : UInt8) : Value := .int .u8 (b.toNat : Int)

/-- The table of fours lies where it lies. -/
def Tab (w : World) : Prop := 0 < w.heap.size ∧ ∀ (i : Nat) n, Crc.fours[i]? = some n → w.cell? ⟨0, i, none⟩ = some (.int .u32 n)
theorem Tab.below {w w' : World} {B : Nat} (h : Tab w) (hb : Below B w w') (hB : 0 < B) : Tab w' :=
  ⟨Nat.lt_of_lt_of_le h.1 hb.size, fun i n hn => (hb.cell (p := ⟨0, i, none⟩) hB).trans (h.2 i n hn)⟩
theorem Tab.next {w w' : World} (h : Tab w) (hb : Below w.heap.size w w') : Tab w' := h.below hb h.1

theorem wrap_u32_in (n : Int) (h0 : 0 ≤ n) (h1 : n < 4294967296) : IntKind.u32.wrap n = n := by
  rw [IntKind.wrap_u32']; omega

attribute [local go_sem high] Crc.bits_and15 Crc.bits_xor Crc.bits_xor_shr4

theorem eight_any (x : BitVec 32) (w : World) (hT : Tab w) :
    Calls Tryd.prog 49 #[U x] w (Ret (U (Crc.eight x)) w) := by
  have e1 := hT.2 _ _ (Crc.fours_and x)
  have e2 := hT.2 _ _ (Crc.fours_and (Crc.steps 4 x))
  have b1 := Crc.and15_lt x
  have b2 := Crc.and15_lt (Crc.steps 4 x)
  have b3 := Crc.num_nonneg (x &&& 15#32)
  have b4 := Crc.num_nonneg (Crc.steps 4 x &&& 15#32)
  have s1 : Crc.steps 4 (x &&& 15#32) ^^^ (x >>> 4) = Crc.steps 4 x := (Crc.steps_four x).symm
  have s2 := Crc.eight_two x
  clear hT
  go_enter Tryd.func49, Tryd.ntmps49
  go_wp2
  go_returns
  exact ⟨rfl, by go_grown⟩

/-- The value is a slice of just these bytes, below block B. -/
def Txt (w : World) (B : Nat) (v : Value) (l : List UInt8) : Prop :=
  ∃ a cap, v = .slice a l.length cap ∧ (a = none → cap = 0) ∧ l.length ≤ 281474976710656 ∧ Rd w B a (l.map B8)
theorem Txt.below {w w' : World} {B : Nat} {v : Value} {l : List UInt8} (h : Txt w B v l) (hb : Below B w w') : Txt w' B v l := by
  obtain ⟨a, cap, h1, h2, h3, h4⟩ := h
  exact ⟨a, cap, h1, h2, h3, h4.below hb⟩
theorem Txt.more {w : World} {B B' : Nat} {v : Value} {l : List UInt8} (h : Txt w B v l) (hB : B ≤ B') : Txt w B' v l := by
  obtain ⟨a, cap, h1, h2, h3, h4⟩ := h
  exact ⟨a, cap, h1, h2, h3, h4.more hB⟩
theorem Txt.next {w w' : World} {v : Value} {l : List UInt8} (h : Txt w w.heap.size v l) (hb : Below w.heap.size w w') : Txt w' w'.heap.size v l := (h.below hb).more hb.size

theorem rd_byte {w : World} {b off : Nat} {l : List UInt8} (hc : ∀ (j : Nat) u, (l.map B8)[j]? = some u → w.cell? ⟨b, off + j, none⟩ = some u) {k : Nat} {z : UInt8} (hz : l[k]? = some z) : w.cell? ⟨b, off + k, none⟩ = some (B8 z) :=
  hc k _ (by rw [List.getElem?_map, hz]; rfl)

theorem raw_snoc (s : BitVec 32) (l : List UInt8) (k : Nat) (z : UInt8) (h : l[k]? = some z) : Crc.raw s (l.take (k + 1)) = Crc.eight (Crc.raw s (l.take k) ^^^ Crc.wide z) := by
  rw [List.take_add_one, h, Crc.raw_append]; rfl
theorem byte_bd (z : UInt8) : (0 : Int) ≤ z.toNat ∧ (z.toNat : Int) < 256 := by have := z.toNat_lt; omega

attribute [local go_sem high] Crc.bits_not Crc.bits_not_max Crc.bits_xor_byte

set_option maxHeartbeats 1000000 in
theorem more_any (s : BitVec 32) (v : Value) (l : List UInt8) (w : World) (hT : Tab w) (hv : Txt w w.heap.size v l) :
    Calls Tryd.prog 48 #[U s, v] w (Ret (U (Crc.more s l)) w) := by
  obtain ⟨a, cap, rfl, _, hl, hr⟩ := hv
  generalize hn : l.length = n at hl ⊢
  have HN := Lib.hid hn
  have HR := Lib.hid hr
  have HT := Lib.hid hT
  clear hn hr hT
  go_enter Tryd.func48, Tryd.ntmps48
  go_wp2_with fail
  go_loopw [0, 11] (fun t i wr => ∃ k : Nat, k ≤ n ∧ i = .int .i64 k ∧ t = U (Crc.raw (~~~s) (l.take k)) ∧ Below w.heap.size w wr) (fun _ i _ => n - (intOf i).toNat)
  case atStart => exact ⟨0, Nat.zero_le _, rfl, rfl, by go_grown⟩
  case round =>
    obtain ⟨k, hk, rfl, rfl, hB⟩ := hrel
    rcases Nat.lt_or_ge k n with hlt | hge
    · obtain ⟨z, hz⟩ : ∃ z, l[k]? = some z := ⟨_, List.getElem?_eq_getElem (by rw [HN.out]; exact hlt)⟩
      have HS := Lib.hid (raw_snoc (~~~s) l k z hz)
      have zb := byte_bd z
      rcases HR.out with hr | ⟨b, off, rfl, hbl, hc⟩
      · have := HN.out
        rw [List.map_eq_nil_iff.1 hr] at this
        simp at this; omega
      · have e0 : wr.cell? ⟨b, off + k, none⟩ = some (B8 z) := (hB.cell (p := ⟨b, off + k, none⟩) hbl).trans (rd_byte hc hz)
        clear hz hbl hc
        generalize Crc.raw (~~~s) (l.take k) = r at *
        go_wp2_with fail
        refine (eight_any _ _ (HT.out.next hB)).mono ?_
        rintro en w1 ⟨rfl, hb1⟩
        have hB1 : Below w.heap.size w w1 := bnext (by go_grown) hb1
        clear hb1 hB e0
        go_wp2_with fail
        go_roundw
        case rel => exact ⟨k + 1, by omega, by go_num, by rw [HS.out], by go_grown⟩
        case measure => simp [intOf]; omega
    · obtain rfl : k = n := by omega
      have ht : l.take k = l := by rw [← HN.out]; exact List.take_length
      go_wp2_with fail
      go_returns
      exact ⟨rfl, by go_grown⟩

/-- A slice of texts. -/
def Txts (w : World) (B : Nat) (a : Option Addr) (vs : List Value) (ls : List (List UInt8)) : Prop :=
  vs.length = ls.length ∧ Rd w B a vs ∧ ∀ (k : Nat) v l, vs[k]? = some v → ls[k]? = some l → Txt w B v l
theorem Txts.below {w w' : World} {B : Nat} {a : Option Addr} {vs : List Value} {ls : List (List UInt8)} (h : Txts w B a vs ls) (hb : Below B w w') : Txts w' B a vs ls :=
  ⟨h.1, h.2.1.below hb, fun k v l h1 h2 => (h.2.2 k v l h1 h2).below hb⟩
theorem Txts.more {w : World} {B B' : Nat} {a : Option Addr} {vs : List Value} {ls : List (List UInt8)} (h : Txts w B a vs ls) (hB : B ≤ B') : Txts w B' a vs ls :=
  ⟨h.1, h.2.1.more hB, fun k v l h1 h2 => (h.2.2 k v l h1 h2).more hB⟩
theorem flatten_snoc (ls : List (List UInt8)) (k : Nat) (l : List UInt8) (h : ls[k]? = some l) : (ls.take (k + 1)).flatten = (ls.take k).flatten ++ l := by
  rw [List.take_add_one, h]; simp

set_option maxHeartbeats 1000000 in
theorem sum_any (a : Option Addr) (n cap : Nat) (vs : List Value) (ls : List (List UInt8)) (w : World) (hT : Tab w) (hl : ls.length = n) (hn : n ≤ 281474976710656) (hv : Txts w w.heap.size a vs ls) :
    Calls Tryd.prog 43 #[.slice a n cap] w (Ret (U (Crc.more 0#32 ls.flatten)) w) := by
  have HN := Lib.hid hl
  have HV := Lib.hid hv
  have HT := Lib.hid hT
  obtain ⟨hnp⟩ : Nonempty (n ≤ 281474976710656) := ⟨hn⟩
  clear hl hv hT
  go_enter Tryd.func43, Tryd.ntmps43
  go_wp2_with fail
  go_loopw [3, 8] (fun t i wr => ∃ k : Nat, k ≤ n ∧ i = .int .i64 k ∧ t = U (Crc.more 0#32 (ls.take k).flatten) ∧ Below w.heap.size w wr) (fun _ i _ => n - (intOf i).toNat)
  case atStart => exact ⟨0, Nat.zero_le _, rfl, by rw [List.take_zero]; exact congrArg (Value.int .u32) Crc.more_nil.symm, by go_grown⟩
  case round =>
    obtain ⟨k, hk, rfl, rfl, hB⟩ := hrel
    rcases Nat.lt_or_ge k n with hlt | hge
    · obtain ⟨l, hz⟩ : ∃ z, ls[k]? = some z := ⟨_, List.getElem?_eq_getElem (by rw [HN.out]; exact hlt)⟩
      obtain ⟨v, hv⟩ : ∃ z, vs[k]? = some z := ⟨_, List.getElem?_eq_getElem (by rw [HV.out.1, HN.out]; exact hlt)⟩
      have HX := Lib.hid (HV.out.2.2 k v l hv hz)
      have HS := Lib.hid (show Crc.more 0#32 (ls.take (k + 1)).flatten = Crc.more (Crc.more 0#32 (ls.take k).flatten) l by rw [flatten_snoc ls k l hz, Crc.more_append])
      rcases HV.out.2.1 with hr | ⟨b, off, rfl, hbl, hc⟩
      · rw [hr] at hv; simp at hv
      · have e0 : wr.cell? ⟨b, off + k, none⟩ = some v := (hB.cell (p := ⟨b, off + k, none⟩) hbl).trans (hc k _ hv)
        obtain ⟨va, vn, vc, rfl⟩ : ∃ va vn vc, v = .slice va vn vc := by
          obtain ⟨va, vc, h, _⟩ := HX.out
          exact ⟨va, _, vc, h⟩
        clear hz hv hbl hc
        generalize Crc.more 0#32 (ls.take k).flatten = r at *
        go_wp2_with fail
        refine (more_any r _ l _ (HT.out.next hB) (HX.out.next hB)).mono ?_
        rintro en w1 ⟨rfl, hb1⟩
        have hB1 : Below w.heap.size w w1 := bnext (by go_grown) hb1
        clear hb1 hB e0
        go_wp2_with fail
        go_roundw
        case rel => exact ⟨k + 1, by omega, by go_num, by rw [HS.out], by go_grown⟩
        case measure => simp [intOf]; omega
    · obtain rfl : k = n := by omega
      have ht : ls.take k = ls := by rw [← HN.out]; exact List.take_length
      go_wp2_with fail
      go_returns
      exact ⟨ret_int (by rw [ht]), by go_grown⟩
theorem from_four (b off : Nat) (cap : Nat) (b0 b1 b2 b3 : UInt8) (w : World) (hr : Rd w w.heap.size (some ⟨b, off, none⟩) [B8 b0, B8 b1, B8 b2, B8 b3]) :
    Calls Tryd.prog 46 #[.slice (some ⟨b, off, none⟩) 4 cap] w (Ret (.tuple #[U (BitVec.ofNat 32 (Crc.le4 b0 b1 b2 b3)), .bool true]) w) := by
  rcases hr with hr | ⟨b', off', h, hb, hc⟩
  · cases hr
  cases h
  have e0 : w.cell? ⟨b, off, none⟩ = some (B8 b0) := hc 0 _ rfl
  have e1 : w.cell? ⟨b, off + 1, none⟩ = some (B8 b1) := hc 1 _ rfl
  have e2 : w.cell? ⟨b, off + 2, none⟩ = some (B8 b2) := hc 2 _ rfl
  have e3 : w.cell? ⟨b, off + 3, none⟩ = some (B8 b3) := hc 3 _ rfl
  have h0 := byte_bd b0
  have h1 := byte_bd b1
  have h2 := byte_bd b2
  have h3 := byte_bd b3
  clear hc
  go_enter Tryd.func46, Tryd.ntmps46
  go_wp2_with fail
  (refine region_keep (fun _ => True) 21 [(0, true), (1, true), (2, true), (3, true), (4, true), (5, true), (6, true), (7, true), (8, true), (9, true), (10, true), (11, true), (12, true), (13, true), (14, true), (15, true), (16, true), (17, true), (18, true), (19, true), (20, true)] (by kernel_rfl) (fun _ _ d _ _ h => by cases d <;> exact h) (by kernel_rfl) ?_; simp only [withOps, List.getElem?_toArray, List.getElem?_cons_zero, List.getElem?_cons_succ, List.drop_succ_cons, List.drop_zero])
  (iterate 21 (refine keep_quiet (v := ?_) rfl ?_ ?_; rotate_left; (focus (intro w' hw'; go_simp; (try with_reducible rfl); done)); try simp only [Act.put, List.setIfInBounds_toArray, List.set_cons_zero, List.set_cons_succ]))
  (with_reducible refine plan_end ?_)
  (try simp only [Act.put, List.setIfInBounds_toArray, List.set_cons_zero, List.set_cons_succ])
  go_wp2_with fail
  go_ret2
  exact ⟨congrArg (fun n => Ending.returned (.tuple #[.int .u32 n, .bool true])) (Crc.u32_or4 b0 b1 b2 b3), by go_grown⟩

theorem from_not (a : Option Addr) (n cap : Nat) (w : World) (hn : n ≠ 4) (hn2 : n ≤ 281474976710656) :
    Calls Tryd.prog 46 #[.slice a n cap] w (Ret (.tuple #[.int .u32 0, .bool false]) w) := by
  have hd : ¬ ((n : Int) = 4) := by omega
  go_enter Tryd.func46, Tryd.ntmps46
  go_wp2
  go_ret2
  exact ⟨rfl, by go_grown⟩

/-- A sum's bytes as a value. -/
def bytesVal (s : BitVec 32) : Value := .agg #[B8 (Crc.byteAt s 0), B8 (Crc.byteAt s 1), B8 (Crc.byteAt s 2), B8 (Crc.byteAt s 3)]

theorem bytes_any (s : BitVec 32) (w : World) :
    Calls Tryd.prog 42 #[U s] w (Ret (bytesVal s) w) := by
  have h0 := Crc.num_nonneg s
  have e0 := Lib.hid (Crc.num_byte0 s)
  have e1 := Lib.hid (Crc.num_byte1 s)
  have e2 := Lib.hid (Crc.num_byte2 s)
  have e3 := Lib.hid (Crc.num_byte3 s)
  go_enter Tryd.func42, Tryd.ntmps42
  go_wp2
  refine bodyPost_ret (v := bytesVal s) (by simp [results, Tryd.results42, go_sem, bytesVal, e0.out, e1.out, e2.out, e3.out]) rfl ⟨rfl, by go_grown⟩

/-- Bytes as a string. -/
def strOf (l : List UInt8) : ByteArray := ⟨l.toArray⟩
theorem strOf_nums (l : List UInt8) : strOfNums (l.map fun b => (b.toNat : Int)) = strOf l := by
  unfold strOfNums strOf
  congr 1
  simp [Function.comp_def]
theorem strOf_eq (a b : List UInt8) : (strOf a = strOf b) ↔ a = b := by
  unfold strOf
  constructor
  · intro h; injection h with h; simpa using h
  · rintro rfl; rfl
theorem conv_text (b off n cap : Nat) (l : List UInt8) (hl : l.length = n) (w : World) (hc : ∀ (j : Nat) u, (l.map B8)[j]? = some u → w.cell? ⟨b, off + j, none⟩ = some u) :
    (convert 22 9 (.slice (some ⟨b, off, none⟩) n cap)).run Tryd.prog w = .ok (.string (strOf l)) w := by
  rw [← strOf_nums]
  refine run_convert_bytes_arg w 22 5 Tryd.underlying22 Tryd.underlying5 b off n cap _ (by simpa using hl) (fun i hi => ?_) 9 Tryd.underlying9
  have hi' : i < l.length := by omega
  rw [hc i (B8 l[i]) (by simp [hi'])]
  simp [hi']
theorem conv_nil (n cap : Nat) (w : World) : (convert 22 9 (.slice none n cap)).run Tryd.prog w = .ok (.string (strOf [])) w :=
  run_convert_bytes_nil w 22 5 Tryd.underlying22 Tryd.underlying5 n cap 9 Tryd.underlying9
theorem conv_rd (a : Option Addr) (n cap : Nat) (l : List UInt8) (hl : l.length = n) (w : World) (B : Nat) (hr : Rd w B a (l.map B8)) :
    (convert 22 9 (.slice a n cap)).run Tryd.prog w = .ok (.string (strOf l)) w := by
  rcases hr with hr | ⟨b, off, rfl, _, hc⟩
  · obtain rfl : l = [] := List.map_eq_nil_iff.1 hr
    cases a with
    | none => exact conv_nil n cap w
    | some a =>
      obtain ⟨b, off, st⟩ := a
      simp at hl
      subst hl
      rw [run_convert_bytes_string w _ _ _ _ _ _ Tryd.underlying22 Tryd.underlying5 Tryd.underlying9]
      simp [Conv.bytesToString, loadCells, strOf]
      rfl
  · exact conv_text b off n cap l hl w hc
theorem info8 : (Tryd.prog.info? 5).map (fun i => (i.zero, i.size, i.bytes)) = some (some (.int .u8 0), 1, 1) := by kernel_rfl
/-- append of bytes that are read, nil or not, to a row that the call owns. -/
theorem append_bytes {w : World} {ops : Array Oper} {rest : List Oper} {o : Oper} {a : Act} {Q : Exit → Act → World → Prop} (hgd : o.guard = none) (s x : Operand)
    (ho : o.op = .call { callee := .builtin .append, args := #[s, x], argTypes := #[22, 22] })
    (base : Nat) (v : Value) (n : Nat) (xs : List Value) (hs : a.eval s = v) (hown : w.ownsRow base 5 1 v n xs)
    (ad : Option Addr) (m c : Nat) (l : List UInt8) (hx : a.eval x = .slice ad m c) (hn : ad = none → c = 0) (hl : l.length = m) (hr : Rd w w.heap.size ad (l.map B8))
    (hb : n + m ≤ 140737488355328) (hbase : base ≤ w.heap.size)
    (h : ∀ v' w', w'.ownsRow base 5 1 v' (n + m) (xs ++ l.map B8) → w.grownBy w' v.ownBlock → (v'.ownBlock = v.ownBlock ∨ v'.ownBlock = some w.heap.size) → wpList Tryd.prog ops Q rest (a.put o.dst v') w') :
    wpList Tryd.prog ops Q (o :: rest) a w := by
  obtain ⟨i0, hi, hz0, hz1, hz2⟩ := info_parts info8
  have key : ∀ (ad : Addr), a.eval x = .slice (some ad) m c → (∀ j u, (l.map B8)[j]? = some u → w.cell? (ad.add j) = some u) → wpList Tryd.prog ops Q (o :: rest) a w := fun ad hx hc => by
    refine wpList_append_own_at w hgd s x 22 ho base 5 i0 _ 1 1 Tryd.underlying22 hi hz0 hz1 hz2 rfl (by omega) v n xs hs hown ad m c (l.map B8) hx (by simp [hl]) hc ?_ (by unfold maxLen; omega) (by omega) hbase ?_
    · intro u hu
      obtain ⟨z, _, rfl⟩ := List.mem_map.1 hu
      rfl
    · intro v' w' h1 h2 _ h4
      exact h v' w' h1 h2 h4
  cases ad with
  | none =>
    have h0 : l = [] := by
      rcases hr with hr | ⟨b, off, h, _⟩
      · exact List.map_eq_nil_iff.1 hr
      · cases h
    subst h0
    have hc := hn rfl
    subst hc
    simp at hl
    subst hl
    refine wpList_append_own_none hgd s x 22 ho base 5 i0 1 Tryd.underlying22 hi v n xs hs hown hx ?_
    exact h v w (by simpa using hown) (World.grownBy.refl _ _) (.inl rfl)
  | some ad =>
    refine key ad hx fun j u hu => ?_
    rcases hr with hr | ⟨b, off, h, _, hc⟩
    · rw [hr] at hu; simp at hu
    · cases h
      rw [Go.WideShapes.add_plain]
      exact hc j u hu

end Go.Proofs.YtolbmjilcngnhaaDoor
