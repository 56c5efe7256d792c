/- One step of the law's script, of any kind but the seventh. -/
import Derived.Test.YtlmmcffbpdfcjaaTmStp3
set_option linter.unusedSimpArgs false
set_option linter.unusedVariables false
namespace Go.Proofs.Ytlmmcffbpdfcjaa
open Go.RowKit Go.Kp Go.ChangeMaps

theorem step_plain {w : World} {B gw k : Nat} {cs : Array Value} (G : Blk w gw 45 cs) (hcs : cs.size = 6) (x : Qr) (X : x.ok w B) (ck : cs[k]? = some (ptr x.q)) (dk : cs[2 + k]? = some x.lv) (hk : k < 2) (hgf : ¬ x.foot gw) (hgl : x.lv.ownBlock ≠ some gw) (hB : B ≤ w.heap.size)
    (s : Stp) (hs : s.ok) (hon : s.on % 2 = k) (hlen : x.S.length < 5000000000000) (h7 : s.kind ≠ 7) :
    Calls Try.prog 19 #[ptr gw, s.val] w fun en w' => en = .returned (.bool true) ∧ ∃ x', StepP w w' B gw k cs x x' (s.next x.S) := by
  by_cases h1 : s.kind = 1
  · rw [show s.next x.S = Tm.set x.S s.t by simp [Stp.next, h1]]
    exact step_set G hcs x X ck dk hk hgf hgl hB s hs hon hlen h1
  by_cases h2 : s.kind = 2
  · rw [show s.next x.S = Tm.drop x.S s.t by simp [Stp.next, h2]]
    exact step_drop G hcs x X ck dk hk hgf hgl hB s hs hon hlen h2
  by_cases h3 : s.kind = 3
  · rw [show s.next x.S = Tm.set (Tm.drop x.S s.t) s.u by simp [Stp.next, h3]]
    exact step_move G hcs x X ck dk hk hgf hgl hB s hs hon hlen h3
  by_cases h5 : s.kind = 5
  · rw [show s.next x.S = x.S.drop (Tm.due x.S s.upto) by simp [Stp.next, h5]]
    exact step_due G hcs x X ck dk hk hgf hgl hB s hs hon hlen h5
  rw [show s.next x.S = x.S by simp [Stp.next, h1, h2, h3, h5]]
  by_cases h4 : s.kind = 4
  · exact step_tell G hcs x X ck dk hk hgf hgl hB s hs hon hlen h4
  by_cases h6 : s.kind = 6
  · exact step_all G hcs x X ck dk hk hgf hgl hB s hs hon hlen h6
  exact step_none G hcs x X ck dk hk hgf hgl hB s hs hon hlen ⟨h1, h2, h3, h4, h5, h6, h7⟩
theorem next_length (s : Stp) (S : List Tm.T) : (s.next S).length ≤ S.length + 1 := by
  unfold Stp.next
  have h1 := Tm.set_length S s.t
  have h2 := Tm.drop_length S s.t
  have h3 := Tm.set_length (Tm.drop S s.t) s.u
  repeat' split
  all_goals first | omega | (simp; omega)
end Go.Proofs.Ytlmmcffbpdfcjaa
