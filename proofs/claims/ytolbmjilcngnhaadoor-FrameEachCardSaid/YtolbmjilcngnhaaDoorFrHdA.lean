/- Read and All of both, in one form. -/
import Derived.Test.YtolbmjilcngnhaaDoorFrSpo
set_option linter.unusedSimpArgs false
set_option linter.unusedVariables false
namespace Go.Proofs.YtolbmjilcngnhaaDoor
open Go.RowKit Go.Kp

/-- What reading the first frame gives: its tag, its body, its length, what is wrong. -/
def readF (l : List UInt8) : UInt8 × List UInt8 × Nat × Nat :=
  if (Frm.look l).2.2 = 0 then (l.headD 0, (l.drop (Frm.look l).1).take ((Frm.look l).2.1 - (Frm.look l).1), (Frm.look l).2.1 + 4, 0) else (0, [], 0, (Frm.look l).2.2)
def ReadT (q : UInt8 × List UInt8 × Nat × Nat) (w : World) (en : Ending) (w' : World) : Prop :=
  ∃ v, en = .returned (.tuple #[.agg #[B8 q.1, v], .int .i64 q.2.2.1, .int .i64 q.2.2.2]) ∧ w'.ownsRow w.heap.size 5 1 v q.2.1.length (q.2.1.map B8) ∧ Below w.heap.size w w'
theorem readT_of {l : List UInt8} {w : World} {en : Ending} {w' : World} (h : ReadS l w en w') : ReadT (readF l) w en w' := by
  obtain ⟨hb, ⟨t, r, f, e, v, rfl, h1, h2, h3⟩ | ⟨f, e, s, h1, h2, h3⟩⟩ := h
  · have hq : readF (t :: r) = (t, ((t :: r).drop f).take (e - f), e + 4, 0) := by unfold readF; rw [h1]; rfl
    have hn : (((t :: r).drop f).take (e - f)).length = e - f := by have := h3.1; simpa using this
    rw [hq]
    refine ⟨v, h2, ?_, hb⟩
    show World.ownsRow _ _ _ _ _ (((t :: r).drop f).take (e - f)).length _
    rw [hn]; exact h3
  · have hq : readF l = (0, [], 0, s) := by unfold readF; rw [h1]; exact if_neg h2
    rw [hq]
    exact ⟨_, h3, World.ownsRow_nil _ _ _ _, hb⟩
theorem Read_any (a : Option Addr) (n c : Nat) (l : List UInt8) (w : World) (hT : Tab w) (hl : l.length = n) (hn : n ≤ 140737488355328) (hc : n ≤ c) (hcm : c ≤ maxLen) (hr : Rd w w.heap.size a (l.map B8)) :
    Calls Tryd.prog 20 #[.slice a n c] w (ReadT (readF l) w) := by
  obtain ⟨f, e, s, hlk⟩ : ∃ f e s, Frm.look l = (f, e, s) := ⟨_, _, _, rfl⟩
  rcases Decidable.em (s = 0) with hs | hs
  · subst hs
    obtain ⟨t, r, rfl⟩ : ∃ t r, l = t :: r := by
      match l, hlk with
      | [], h => simp [Frm.look] at h
      | t :: r, _ => exact ⟨t, r, rfl⟩
    exact (Read_ok a n c t r f e w hT hl hn hc hcm hr hlk).mono fun en w' ⟨v, h1, h2, h3⟩ => readT_of ⟨h3, .inl ⟨t, r, f, e, v, rfl, hlk, h1, h2⟩⟩
  · exact (Read_err a n c l f e s w hT hl hn hc hcm hr hlk hs).mono fun en w' ⟨h1, h2⟩ => readT_of ⟨h2, .inr ⟨f, e, s, hlk, hs, h1⟩⟩

/-- What All hands back. -/
def AllS (l : List UInt8) (w : World) (en : Ending) (w' : World) : Prop :=
  ∃ v cs ps at_ s, en = .returned (.tuple #[v, .int .i64 (at_ : Nat), .int .i64 (s : Nat)]) ∧ Below w.heap.size w w' ∧ Frm.Heads l ps at_ s ∧ Rws w' w.heap.size v cs ∧ cs.map Bk.pair = (if s = 0 then ps else []) ∧ cs.length ≤ l.length
theorem Rws_nil (w : World) (lo : Nat) : Rws w lo (.slice none 0 0) [] := ⟨World.ownsRow_nil _ _ _ _, fun x hx => by cases hx⟩
theorem All_heads (a : Option Addr) (n c : Nat) (l : List UInt8) (w : World) (hT : Tab w) (hl : l.length = n) (hn : n ≤ 1099511627776) (hc : n ≤ c) (hcm : c ≤ maxLen) (ha : a = none → c = 0) (hr : Rd w w.heap.size a (l.map B8)) :
    Calls Tryd.prog 23 #[.slice a n c] w (AllS l w) :=
  (All_any a n c l w hT hl hn hc hcm ha hr).mono fun en w' ⟨hb, h⟩ => by
    rcases h with ⟨v, bs, h1, h2, h3, h4⟩ | ⟨at_, s, f, e, bs, h1, h2, h3, h4, h5⟩
    · exact ⟨v, bs, bs.map Bk.pair, n, 0, h1, hb, ⟨by rw [h3, ← hl, List.take_length], by omega, .inl ⟨rfl, hl.symm⟩⟩, h2, rfl, by omega⟩
    · exact ⟨_, [], bs, at_, s, h1, hb, ⟨h5, by omega, .inr ⟨h2, by omega, f, e, h4⟩⟩, Rws_nil _ _, by rw [if_neg h2]; rfl, Nat.zero_le _⟩

set_option maxHeartbeats 2000000 in
theorem refAll_any (a : Option Addr) (n c : Nat) (l : List UInt8) (w : World) (hl : l.length = n) (hn : n ≤ 1099511627776) (hc : n ≤ c) (hcm : c ≤ maxLen) (ha : a = none → c = 0) (hr : Rd w w.heap.size a (l.map B8)) :
    Calls Tryd.prog 24 #[.slice a n c] w (AllS l w) := by
  have HL := Lib.hid hl
  have HR := Lib.hid hr
  have HA := Lib.hid ha
  have HCM := Lib.hid hcm
  clear hl hr ha hcm
  go_enter Tryd.func24, Tryd.ntmps24
  go_wp2_with fail
  refine (Heads_any a n c l _ HL.out hn hc HCM.out HA.out HR.out).mono ?_
  rintro en w1 ⟨v, vp, bs, at_, s, rfl, hB, hW, hbl, hH, hP⟩
  obtain ⟨a1, c1, rfl, _⟩ := own_slice hW.1
  obtain ⟨ap, cp, rfl, hpl, _, _, _, hpr⟩ := own_rdv hP
  have HW := Lib.hid hW
  have HH := Lib.hid hH
  have hat : at_ ≤ n := by have := hH.2.1; rw [HL.out] at this; exact this
  have HS := Lib.hid (show szTo bs bs.length = at_ by rw [szTo_all, hH.1, List.length_take, HL.out]; omega)
  have hbn : bs.length ≤ n := by omega
  rcases Decidable.em (s = 0) with hs | hs
  · subst hs
    obtain rfl : at_ = n := by
      rcases hH.2.2 with ⟨_, h⟩ | ⟨h, _⟩
      · rw [h, HL.out]
      · exact absurd rfl h
    clear hW hH hP hpr hpl
    go_wp2_with fail
    refine bodyPost_ret (v := .tuple #[.slice a1 bs.length c1, .int .i64 at_, .int .i64 0]) (by simp [results, Tryd.results24, go_sem]; done) rfl ⟨_, bs, _, at_, 0, rfl, hB, HH.out, HW.out, rfl, by rw [HL.out]; exact hbn⟩
  · have hs' : ((s : Int) == 0) = false := by simp; omega
    have hs2 : ((s : Int) != 0) = true := by simp; omega
    obtain ⟨g, off, rfl, hg, hc⟩ : ∃ g off, ap = some ⟨g, off, none⟩ ∧ g < w1.heap.size ∧ ∀ (j : Nat) u, (plc bs)[j]? = some u → w1.cell? ⟨g, off + j, none⟩ = some u := by
      rcases hpr with h | h
      · rw [h] at hpl; simp at hpl
      · exact h
    have e0 : w1.cell? ⟨g, off + bs.length, none⟩ = some (.int .i64 at_) := (hc bs.length _ (plc_get bs bs.length (Nat.le_refl _))).trans (by rw [HS.out])
    have hi : bs.length < bs.length + 1 := by omega
    have hi2 : (bs.length : Int) < (bs.length : Int) + 1 := by omega
    clear hW hH hP hpl hc
    generalize hbs : bs.length = bn at *
    go_wp2_with fail
    go_quiet (fail)
    go_wp2_with fail
    refine bodyPost_ret (v := .tuple #[.slice none 0 0, .int .i64 at_, .int .i64 s]) (by simp [results, Tryd.results24, go_sem]; done) rfl ⟨_, [], _, at_, s, rfl, below_drewN hB _, HH.out, Rws_nil _ _, by rw [if_neg hs]; rfl, Nat.zero_le _⟩
end Go.Proofs.YtolbmjilcngnhaaDoor
