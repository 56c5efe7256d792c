/- append to a row that a call owns, up to the bound of memory itself: no program in sight. -/
import Derived.Test.YtbkofiflfcfjfaaBase
import Derived.Maps.AppendAt
import Derived.Laws.AppendOwnNone
set_option linter.unusedSimpArgs false
set_option linter.unusedVariables false
namespace Go.Kp
open Go.RowKit

/-- By how much a slice grows at most: a quarter and a bit. -/
theorem nextcap_quarter {need old : Nat} (h : old < need) : 4 * Builtin.nextslicecap need old ≤ 5 * need + 2048 := by
  unfold Builtin.nextslicecap
  split
  · omega
  · split
    · omega
    · rw [growBy_four]
      repeat' split
      all_goals omega
/-- So many bytes as may be asked of a slice that is to grow. -/
theorem grow_fits {need old bytes : Nat} (h : old < need) (hb : (5 * need + 2048) * bytes ≤ 1125899906842624) : Builtin.nextslicecap need old * bytes ≤ 281474976710656 := by
  have h1 := Nat.mul_le_mul_right bytes (nextcap_quarter h)
  rw [Nat.mul_assoc] at h1
  omega

variable {P : Program} {w : World}
/-- What a row is when it has been made anew, whatever stood there before. -/
theorem made_row (base : Nat) (e : TypeId) (z : Value) (size : Nat) (hz : z.cells.size = size) (k old : Nat) (ys : List Value) (hy : ys.length = k * size) (hk : k ≤ maxLen) (hb : base ≤ w.heap.size) (row : Option Nat) :
    (w.drew.alloc (.cells (ys.toArray ++ Builtin.zeroCells z.cells (grownCap w k old e - k)) e)).ownsRow base e size (.slice (some ⟨w.heap.size, 0, none⟩) k (grownCap w k old e)) k ys ∧
    w.grownBy (w.drew.alloc (.cells (ys.toArray ++ Builtin.zeroCells z.cells (grownCap w k old e - k)) e)) row := by
  have hge := grownCap_ge w k old e
  have e1 : k * size + (grownCap w k old e - k) * size = grownCap w k old e * size := by rw [← Nat.add_mul, Nat.add_sub_cancel' hge]
  refine ⟨⟨hy, .inr ⟨w.heap.size, grownCap w k old e, _, rfl, hb, heap_alloc_new w.drew _, hge, grownCap_le_maxLen w k old e hk, ?_, ?_⟩⟩, rfl, rfl, rfl, by simp, fun x hx _ => heap_old (w := w.drew) hx⟩
  · rw [Array.size_append, size_zeroCells, hz, List.size_toArray, hy]; exact e1
  · rw [Array.toList_append, ← hy]; exact List.take_left

theorem append_wide (base : Nat) (t ty e : TypeId) (i : TypeInfo) (z : Value) (size bytes : Nat) (ht : P.underlying t = some (.slice e)) (hi : P.info? e = some i) (hz : i.zero = some z)
    (hsize : i.size = size) (hby : i.bytes = bytes) (hzs : z.cells.size = size) (hsz : 0 < size) (v : Value) (n : Nat) (xs : List Value) (hown : w.ownsRow base e size v n xs)
    (a : Addr) (m c : Nat) (news : List Value) (hl : news.length = m * size) (hnews : ∀ j u, news[j]? = some u → w.cell? (a.add j) = some u) (h1 : ∀ u ∈ news, u.oneCell' = true)
    (h63 : n + m ≤ maxLen) (hbytes : (5 * (n + m) + 2048) * bytes ≤ 1125899906842624) (hbase : base ≤ w.heap.size) :
    ∃ v' w', (Builtin.append_ #[t, t] ty #[v, .slice (some a) m c]).run P w = .ok v' w' ∧ w'.ownsRow base e size v' (n + m) (xs ++ news) ∧ w.grownBy w' v.ownBlock ∧ (v'.ownBlock = v.ownBlock ∨ v'.ownBlock = some w.heap.size) := by
  cases hsize
  cases hby
  have h64 : n + m ≤ 9223372036854775807 := by unfold maxLen at h63; omega
  have hxs := hown.1
  have hsum : (xs ++ news).length = (n + m) * i.size := by rw [List.length_append, hxs, hl, ← Nat.add_mul]
  rcases hown.2 with ⟨rfl, rfl⟩ | ⟨g, cap, cur, rfl, hbg, hg, hnc, hcm, hcs, htake⟩
  · obtain rfl : xs = [] := List.eq_nil_of_length_eq_zero (by rw [hxs, Nat.zero_mul])
    rcases Nat.eq_zero_or_pos m with rfl | hm
    · obtain rfl : news = [] := List.eq_nil_of_length_eq_zero (by rw [hl, Nat.zero_mul])
      exact ⟨.slice none 0 0, w, by simp [Builtin.append_, run_underlying ht, sizeOf, typeInfo, hi, Builtin.lenOf, Builtin.firstCells, loadCells, loadCellsFrom], World.ownsRow_nil w base e i.size, World.grownBy.refl _ _, .inl rfl⟩
    · have hr := run_append_nil (P := P) w t ty e i z ht hi hz a m c news hl hnews hm (by omega) (by
        have h2 := Nat.mul_le_mul_right i.bytes (show 4 * m ≤ 5 * (0 + m) + 2048 by omega)
        rw [Nat.mul_assoc] at h2
        omega)
      obtain ⟨k1, k2⟩ := made_row (w := w) base e z i.size hzs m 0 news hl (by omega) hbase (Value.ownBlock (.slice none 0 0))
      refine ⟨_, _, hr, ?_, k2, .inr rfl⟩
      rw [Nat.zero_add, List.nil_append]; exact k1
  · rcases Nat.lt_or_ge cap (n + m) with hgt | hle
    · have hr := run_append_grow (P := P) w t ty e i z ht hi hz ⟨g, 0, none⟩ n cap xs hxs (hown.cells rfl) a m c news hl hnews hgt (by omega) (grow_fits hgt hbytes)
      obtain ⟨k1, k2⟩ := made_row (w := w) base e z i.size hzs (n + m) cap (xs ++ news) hsum h63 hbase (Value.ownBlock (.slice (some ⟨g, 0, none⟩) n cap))
      have e1 : xs.toArray ++ news.toArray = (xs ++ news).toArray := by simp
      rw [e1] at hr
      exact ⟨_, _, hr, k1, k2, .inr rfl⟩
    · have hfit : n * i.size + news.length ≤ cur.size := by rw [hl, hcs, ← Nat.add_mul]; exact Nat.mul_le_mul_right _ hle
      have hr := run_append_room (P := P) w t ty e i ht hi g n cap cur hg a m c news hl hnews h1 hle hfit
      refine ⟨_, _, hr, ⟨hsum, .inr ⟨g, cap, _, rfl, hbg, setRow_heap w g cur _ e _ hg, hle, hcm, ?_, ?_⟩⟩, ⟨rfl, rfl, rfl, by simp, fun k _ hk => setRow_other w g k _ fun h => hk (by rw [h]; rfl)⟩, .inl rfl⟩
      · rw [List.size_toArray]
        simp only [List.length_append, List.length_take, List.length_drop, Array.length_toList]
        omega
      · rw [← hsum, htake]
        exact List.take_left
end Go.Kp
