/- A sum's four bytes, and back. -/
import Derived.Test.YtcjmobikjegioaaDoorCD
set_option linter.unusedSimpArgs false
set_option linter.unusedVariables false
namespace Go.Proofs.YtcjmobikjegioaaDoor
open Go.RowKit Go.Kp

theorem from_four (b off : Nat) (cap : Nat) (b0 b1 b2 b3 : UInt8) (w : World) (hr : Rd w w.heap.size (some ⟨b, off, none⟩) [B8 b0, B8 b1, B8 b2, B8 b3]) :
    Calls Tryd.prog 25 #[.slice (some ⟨b, off, none⟩) 4 cap] w (Ret (.tuple #[U (BitVec.ofNat 32 (Crc.le4 b0 b1 b2 b3)), .bool true]) w) := by
  rcases hr with hr | ⟨b', off', h, hb, hc⟩
  · cases hr
  cases h
  have e0 : w.cell? ⟨b, off, none⟩ = some (B8 b0) := hc 0 _ rfl
  have e1 : w.cell? ⟨b, off + 1, none⟩ = some (B8 b1) := hc 1 _ rfl
  have e2 : w.cell? ⟨b, off + 2, none⟩ = some (B8 b2) := hc 2 _ rfl
  have e3 : w.cell? ⟨b, off + 3, none⟩ = some (B8 b3) := hc 3 _ rfl
  have h0 := byte_bd b0
  have h1 := byte_bd b1
  have h2 := byte_bd b2
  have h3 := byte_bd b3
  clear hc
  go_enter Tryd.func25, Tryd.ntmps25
  go_wp2_with fail
  (refine region_keep (fun _ => True) 21 [(0, true), (1, true), (2, true), (3, true), (4, true), (5, true), (6, true), (7, true), (8, true), (9, true), (10, true), (11, true), (12, true), (13, true), (14, true), (15, true), (16, true), (17, true), (18, true), (19, true), (20, true)] (by kernel_rfl) (fun _ _ d _ _ h => by cases d <;> exact h) (by kernel_rfl) ?_; simp only [withOps, List.getElem?_toArray, List.getElem?_cons_zero, List.getElem?_cons_succ, List.drop_succ_cons, List.drop_zero])
  (iterate 21 (refine keep_quiet (v := ?_) rfl ?_ ?_; rotate_left; (focus (intro w' hw'; go_simp; (try with_reducible rfl); done)); try simp only [Act.put, List.setIfInBounds_toArray, List.set_cons_zero, List.set_cons_succ]))
  (with_reducible refine plan_end ?_)
  (try simp only [Act.put, List.setIfInBounds_toArray, List.set_cons_zero, List.set_cons_succ])
  go_wp2_with fail
  go_ret2
  exact ⟨congrArg (fun n => Ending.returned (.tuple #[.int .u32 n, .bool true])) (Crc.u32_or4 b0 b1 b2 b3), by go_grown⟩

theorem from_not (a : Option Addr) (n cap : Nat) (w : World) (hn : n ≠ 4) (hn2 : n ≤ 281474976710656) :
    Calls Tryd.prog 25 #[.slice a n cap] w (Ret (.tuple #[.int .u32 0, .bool false]) w) := by
  have hd : ¬ ((n : Int) = 4) := by omega
  go_enter Tryd.func25, Tryd.ntmps25
  go_wp2
  go_ret2
  exact ⟨rfl, by go_grown⟩

/-- A sum's bytes as a value. -/
def bytesVal (s : BitVec 32) : Value := .agg #[B8 (Crc.byteAt s 0), B8 (Crc.byteAt s 1), B8 (Crc.byteAt s 2), B8 (Crc.byteAt s 3)]

theorem bytes_any (s : BitVec 32) (w : World) :
    Calls Tryd.prog 24 #[U s] w (Ret (bytesVal s) w) := by
  have h0 := Crc.num_nonneg s
  have e0 := Lib.hid (Crc.num_byte0 s)
  have e1 := Lib.hid (Crc.num_byte1 s)
  have e2 := Lib.hid (Crc.num_byte2 s)
  have e3 := Lib.hid (Crc.num_byte3 s)
  go_enter Tryd.func24, Tryd.ntmps24
  go_wp2
  refine bodyPost_ret (v := bytesVal s) (by simp [results, Tryd.results24, go_sem, bytesVal, e0.out, e1.out, e2.out, e3.out]) rfl ⟨rfl, by go_grown⟩

theorem refBytes_any (s : BitVec 32) (w : World) :
    Calls Tryd.prog 26 #[U s] w (Ret (bytesVal s) w) := by
  have h0 := Crc.num_nonneg s
  have e0 := Lib.hid (Crc.num_byte0 s)
  have e1 := Lib.hid (Crc.num_byte1 s)
  have e2 := Lib.hid (Crc.num_byte2 s)
  have e3 := Lib.hid (Crc.num_byte3 s)
  have e4 := Lib.hid (Crc.num_byte3' s)
  have e5 := Lib.hid (show ((Crc.byteAt s 3).toNat : Int) % 256 = ((Crc.byteAt s 3).toNat : Int) by have := byte_bd (Crc.byteAt s 3); omega)
  go_enter Tryd.func26, Tryd.ntmps26
  go_wp2
  refine bodyPost_ret (v := bytesVal s) (by simp [results, Tryd.results26, go_sem, bytesVal, Int.tdiv_eq_ediv_of_nonneg h0, e0.out, e1.out, e2.out, e3.out, e4.out, e5.out]) rfl ⟨rfl, by go_grown⟩
end Go.Proofs.YtcjmobikjegioaaDoor
