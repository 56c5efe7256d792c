/- CrcCarries: the walk. -/
import Derived.Test.YtcjmobikjegioaaDoorCG
set_option linter.unusedSimpArgs false
set_option linter.unusedVariables false
namespace Go.Proofs.YtcjmobikjegioaaDoor
open Go.RowKit Go.Kp

set_option maxHeartbeats 2000000 in
theorem carries (a b : BitVec 32) (n : Int) (w : World) (hT : Tab w) (h1 : -9223372036854775808 ≤ n) (h2 : n ≤ 9223372036854775807) :
    Calls Tryd.prog 4 #[U a, U b, .int .i64 n] w (Ret (.bool true) w) := by
  have HT := Lib.hid hT
  clear hT
  go_enter Tryd.func4, Tryd.ntmps4
  go_wp2_with fail
  refine (carry_any a n _ ?_ h1 h2).mono ?_
  · exact HT.out.next (by go_grown)
  rintro en w1 ⟨rfl, hb⟩
  have hB1 : Below w.heap.size w w1 := bnext (by go_grown) hb
  clear hb
  go_wp2_with fail
  refine (refCarry_any a n _ h1 h2).mono ?_
  rintro en w2 ⟨rfl, hb⟩
  have hB2 : Below w.heap.size w w2 := bnext (by go_grown) hb
  clear hb hB1
  generalize Crc.steps (8 * n.toNat) a = x
  go_wp2_with fail
  refine (zeros_any n _ ?_ h1 h2).mono ?_
  · exact HT.out.next (by go_grown)
  rintro en w3 ⟨rfl, hb⟩
  have hB3 : Below w.heap.size w w3 := bnext (by go_grown) hb
  clear hb hB2
  go_wp2_with fail
  refine (refZeros_any n _ h1 h2).mono ?_
  rintro en w4 ⟨rfl, hb⟩
  have hB4 : Below w.heap.size w w4 := bnext (by go_grown) hb
  clear hb hB3
  go_wp2_with fail
  refine (join_any a b n _ ?_ h1 h2).mono ?_
  · exact HT.out.next (by go_grown)
  rintro en w5 ⟨rfl, hb⟩
  have hB5 : Below w.heap.size w w5 := bnext (by go_grown) hb
  clear hb hB4
  go_wp2_with fail
  refine (refJoin_any a b n _ h1 h2).mono ?_
  rintro en w6 ⟨rfl, hb⟩
  have hB6 : Below w.heap.size w w6 := bnext (by go_grown) hb
  clear hb hB5
  generalize Crc.steps (8 * n.toNat) a ^^^ b = y
  go_wp2_with fail
  refine (works_any _ ?_).mono ?_
  · exact HT.out.next (by go_grown)
  rintro en w7 ⟨rfl, hb⟩
  have hB7 : Below w.heap.size w w7 := bnext (by go_grown) hb
  clear hb hB6
  go_wp2_with fail
  go_returns
  exact ⟨rfl, by go_grown⟩
end Go.Proofs.YtcjmobikjegioaaDoor
