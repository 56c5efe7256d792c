/- Windows, jobs; the small functions of trigger: OnTime, Due, the two tests. -/
import Derived.Test.YtfpomiimloohkaaProg
import Derived.Test.YtfpomiimloohkaaBase
set_option linter.unusedSimpArgs false
set_option linter.unusedVariables false
namespace Go.Proofs.Ytfpomiimloohkaa
open Go.RowKit Go.Kp

structure Win where
  (s e h c su mi ma si pa : Int)
abbrev Win.cells (x : Win) : Array Value := #[.int .i64 x.s, .int .i64 x.e, .int .i64 x.h, .int .i64 x.c, .int .i64 x.su, .int .i64 x.mi, .int .i64 x.ma, .int .i64 x.si, .int .i64 x.pa]
abbrev Win.val (x : Win) : Value := .agg x.cells
structure Conf where
  (gr so ki sz sl off ga la ea : Int) 
  di : Bool
abbrev Conf.val (x : Conf) : Value := .agg #[.int .i64 x.gr, .int .i64 x.so, .int .i64 x.ki, .int .i64 x.sz, .int .i64 x.sl, .int .i64 x.off, .int .i64 x.ga, .int .i64 x.la, .int .i64 x.ea, .bool x.di]
theorem onTime_any (x : Win) (fr to : Int) (w : World) :
    Calls Try.prog 10 #[x.val, .int .i64 fr, .int .i64 to] w (Ret (.bool (decide (fr < x.e) && decide (x.e ≤ to))) w) := by
  go_enter Try.func10, Try.ntmps10
  go_wp2
  all_goals go_ret
  all_goals refine ⟨?_, by go_grown⟩
  all_goals simp [*]
  omega

theorem due_any (s e m : Int) (w : World) :
    Calls Try.prog 35 #[.agg #[.int .i64 s, .int .i64 e], .int .i64 m] w (Ret (.bool (decide (e ≤ m))) w) := by
  go_enter Try.func35, Try.ntmps35
  go_wp2
  go_ret
  exact ⟨rfl, by go_grown⟩

theorem tests1_any (x : Win) (c : Conf) (m : Int) (w : World) :
    Calls Try.prog 34 #[c.val, x.val, .int .i64 m] w (Ret (.bool (decide (x.e ≤ m))) w) := by
  go_enter Try.func34, Try.ntmps34
  go_wp2_with (go_at_call 35; refine (due_any _ _ _ _).mono ?_; rintro e w1 ⟨rfl, hb1⟩)
  go_ret
  exact ⟨rfl, bnext (by go_grown) hb1⟩

theorem tests2_any (x : Win) (c : Conf) (m : Int) (w : World) :
    Calls Try.prog 36 #[c.val, x.val, .int .i64 m] w (Ret (.bool (c.ea != 0 && decide (c.ea ≤ x.si))) w) := by
  go_enter Try.func36, Try.ntmps36
  go_wp2
  all_goals go_ret
  all_goals refine ⟨?_, by go_grown⟩
  all_goals simp [*]

theorem tests_any (w : World) :
    Calls Try.prog 24 #[] w (Ret (.agg #[.nilFunc, .func (.func 36) #[] #[], .nilFunc, .func (.func 34) #[] #[]]) w) := by
  go_enter Try.func24, Try.ntmps24
  go_wp2
  go_returns
  exact ⟨rfl, by go_grown⟩

end Go.Proofs.Ytfpomiimloohkaa
