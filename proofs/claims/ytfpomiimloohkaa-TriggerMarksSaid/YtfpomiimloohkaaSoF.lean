/- The sort's walks: symMerge of any rows; the whole stable sort. -/
import Derived.Test.YtfpomiimloohkaaSoE
set_option linter.unusedSimpArgs false
set_option linter.unusedVariables false
namespace Go.Proofs.Ytfpomiimloohkaa
open Go.RowKit Go.Kp Go.So

theorem symMerge_any {g N : Nat} (cap : Nat) (hN : N ≤ 4611686018427387000) : ∀ (k a m b : Nat) (d : Nat → Pa) (w : World), b - a ≤ k → Row w g N d → a < m → m < b → b ≤ N → Up Pa.e d a m → Up Pa.e d m b → SymOk g N cap a m b d w
  | 0, a, m, b, d, w, hk, h, ham, hmb, hbN, hA, hB => by omega
  | k + 1, a, m, b, d, w, hk, h, ham, hmb, hbN, hA, hB => by
    rcases Nat.lt_or_ge (a + 1) m with h1 | h1
    · rcases Nat.lt_or_ge (m + 1) b with h2 | h2
      · exact sym3_any h cap a m b h1 h2 hbN hN hA hB fun a' m' b' d' w' e0 e1 e2 e3 e4 e5 e6 => symMerge_any cap hN k a' m' b' d' w' (by omega) e1 e2 e3 e4 e5 e6
      · have e : b = m + 1 := by omega
        subst e
        exact sym2_any h cap a m h1 hbN hN hA
    · have e : m = a + 1 := by omega
      subst e
      rcases Nat.lt_or_ge (a + 2) b with h2 | h2
      · exact sym1_any h cap a b (by omega) hbN hN hB
      · exact sym1_any h cap a b hmb hbN hN hB

/-- All pieces of twenty. -/
theorem bls_first {d d' : Nat → Pa} {a N : Nat} (q : Nat) (hq : a = q * 20) (hlo : ∀ p, (p + 1) * 20 ≤ a → Up Pa.e d (p * 20) ((p + 1) * 20)) (hb : N < a + 20) (hU : Up Pa.e d' a N) (hS : St Pa.e d d' a N) : Bls Pa.e d' 20 N := by
  intro p
  by_cases hc : (p + 1) * 20 ≤ a
  · exact ((hlo p hc).same fun i _ h2 => hS.off i (.inl (by omega))).sub (Nat.le_refl _) (Nat.min_le_left _ _)
  · by_cases hp : p = q
    · subst hp; rw [← hq]; exact hU.sub (Nat.le_refl _) (Nat.min_le_right _ _)
    · intro i j e1 e2 e3
      have := Nat.min_le_right ((p + 1) * 20) N
      omega

set_option maxRecDepth 100000 in
set_option maxHeartbeats 16000000 in
theorem stable_any {w : World} {g N : Nat} {d : Nat → Pa} (h : Row w g N d) (cap : Nat) (hN : N ≤ 1152921504606846000) :
    Calls Try.prog 38 #[.slice (some ⟨g, 0, none⟩) N cap, .int .i64 N, cmpV] w fun e w' => e = .returned (.tuple #[]) ∧ ∃ d', Row w' g N d' ∧ Up Pa.e d' 0 N ∧ St Pa.e d d' 0 N ∧ Fr (fun b => b = g) w w' := by
  have H := Lib.hid h
  clear h
  go_enter Try.func38, Try.ntmps38
  go_wp2_with fail
  go_loopw [7, 8] (fun vi vj wr => ∃ (a b q : Nat) (d1 : Nat → Pa), vi = .int .i64 a ∧ vj = .int .i64 b ∧ a + 20 = b ∧ a = q * 20 ∧ a ≤ N ∧ Row wr g N d1 ∧ (∀ p, (p + 1) * 20 ≤ a → Up Pa.e d1 (p * 20) ((p + 1) * 20)) ∧ St Pa.e d d1 0 N ∧ Fr (fun b => b = g) w wr) (fun vi _ _ => N - (intOf vi).toNat)
  case atStart => exact ⟨0, 20, 0, d, rfl, rfl, rfl, rfl, Nat.zero_le _, H.out, fun p hp => by omega, St.refl _ _ _, Fr.refl _ _⟩
  case round =>
    rename World => wr
    obtain ⟨a, b, q, d1, rfl, rfl, hab, haq, haN, hR, hL, hS, hF⟩ := hrel
    have HR := Lib.hid hR
    have HL := Lib.hid hL
    have HS := Lib.hid hS
    have HF := Lib.hid hF
    have HAQ := Lib.hid haq
    clear hR hL hS hF haq
    rcases Nat.lt_or_ge N b with hlt | hge
    · have h1 : ¬ (b : Int) ≤ (N : Int) := by omega
      go_upto_region 6 with (fail)
      go_wp2_with fail
      refine (insertion_any HR.out cap a N haN (Nat.le_refl _) (by omega)).mono ?_
      rintro en w2 ⟨rfl, d2, hR2, hU2, hS2, hF2⟩
      have HB := Lib.hid (bls_first q HAQ.out HL.out (by omega) hU2 hS2)
      have HS2 := Lib.hid (HS.out.trans (hS2.wide (Nat.zero_le _) haN (Nat.le_refl _)))
      have HR2 := Lib.hid hR2
      have HF2 := Lib.hid (HF.out.trans hF2)
      clear hR2 hU2 hS2 hF2
      go_wp2_with fail
      clear HL HS HF HR H HAQ
      go_loopw [6, 7, 8, 9] (fun v6 v7 v8 v9 wr => ∃ (s : Nat) (d3 : Nat → Pa), v6 = .int .i64 s ∧ 1 ≤ s ∧ s ≤ 2305843009213692010 ∧ Row wr g N d3 ∧ Bls Pa.e d3 s N ∧ St Pa.e d d3 0 N ∧ Fr (fun b => b = g) w wr) (fun v6 _ _ _ _ => N - (intOf v6).toNat)
      case atStart => exact ⟨20, d2, rfl, by omega, by omega, HR2.out, HB.out, HS2.out, HF2.out⟩
      case round =>
        rename World => wq
        obtain ⟨s, d3, rfl, hs1, hsN, hR, hB, hS, hF⟩ := hrel
        have HR := Lib.hid hR
        have HB3 := Lib.hid hB
        have HS := Lib.hid hS
        have HF := Lib.hid hF
        clear hR hB hS hF HR2 HB HS2 HF2
        rcases Nat.lt_or_ge s N with hsl | hsg
        · have hsl' : (s : Int) < (N : Int) := by omega
          obtain ⟨u, hu⟩ : ∃ u, 2 * s = u := ⟨_, rfl⟩
          have eu : 2 * (s : Int) = (u : Int) := by omega
          have wu := wrap_nat (show u ≤ 4611686018427387904 by omega)
          have HU := Lib.hid hu
          clear hu
          go_wp2_with fail
          go_loopw [7, 8] (fun vi vj wr => ∃ (a b : Nat) (d4 : Nat → Pa), vi = .int .i64 a ∧ vj = .int .i64 b ∧ b = a + 2 * s ∧ a ≤ N ∧ Row wr g N d4 ∧ Pass Pa.e d4 s N a ∧ St Pa.e d d4 0 N ∧ Fr (fun b => b = g) w wr) (fun vi _ _ => N - (intOf vi).toNat)
          case atStart => exact ⟨0, u, d3, rfl, rfl, by have := HU.out; omega, Nat.zero_le _, HR.out, Pass.start HB3.out hs1, HS.out, HF.out⟩
          case round =>
            rename World => wi
            obtain ⟨a, b, d4, rfl, rfl, hab, haN, hR, hP, hS, hF⟩ := hrel
            have HR4 := Lib.hid hR
            have HP := Lib.hid hP
            have HS4 := Lib.hid hS
            have HF4 := Lib.hid hF
            have HAB := Lib.hid hab
            have hbb : b ≤ 4611686018427385000 := by omega
            clear hR hP hS hF hab HR HB3 HS HF
            obtain ⟨m, hm⟩ : ∃ m, a + s = m := ⟨_, rfl⟩
            have em : (a : Int) + (s : Int) = (m : Int) := by omega
            have wm := wrap_nat (show m ≤ 4611686018427387904 by omega)
            have HM := Lib.hid hm
            clear hm
            rcases Nat.lt_or_ge N b with hlt | hge
            · have h1 : ¬ (b : Int) ≤ (N : Int) := by omega
              rcases Nat.lt_or_ge m N with hmN | hmN
              · have hmN' : (m : Int) < (N : Int) := by omega
                go_upto_region 15 with (fail)
                go_wp2_with fail
                have hab := HAB.out
                have hm := HM.out
                have hp := HP.out.two (by omega)
                rw [Nat.min_eq_right (by omega), hm] at hp
                refine (symMerge_any (d := d4) cap (by omega) (N - a) a m N _ (Nat.le_refl _) HR4.out (by omega) hmN (Nat.le_refl _) hp.1 hp.2).mono ?_
                rintro en w5 ⟨rfl, d5, hR5, hU5, hS5, hF5⟩
                have HB5 := Lib.hid (HP.out.last (by omega) hU5 hS5 haN)
                have HS5 := Lib.hid (HS4.out.trans (hS5.wide (Nat.zero_le _) haN (Nat.le_refl _)))
                have HR5 := Lib.hid hR5
                have HF5 := Lib.hid (HF4.out.trans hF5)
                clear hR5 hU5 hS5 hF5 hab hm hp
                go_wp2_with fail
                go_roundw
                case rel => exact ⟨2 * s, d5, by go_num, by omega, by omega, HR5.out, HB5.out, HS5.out, HF5.out⟩
                case measure => simp [intOf]; omega
              · have hmN' : ¬ (m : Int) < (N : Int) := by omega
                go_wp2_with fail
                go_roundw
                case rel => 
                  have hab := HAB.out
                  have hm := HM.out
                  exact ⟨2 * s, d4, by go_num, by omega, by omega, HR4.out, HP.out.last (by omega) (HP.out.one (by omega) haN) (St.refl _ _ _) haN, HS4.out, HF4.out⟩
                case measure => simp [intOf]; omega
            · have h1 : (b : Int) ≤ (N : Int) := by omega
              obtain ⟨c, hc⟩ : ∃ c, b + u = c := ⟨_, rfl⟩
              have ec : (b : Int) + (u : Int) = (c : Int) := by omega
              have wc := wrap_nat (show c ≤ 4611686018427387904 by have := HU.out; omega)
              have HC := Lib.hid hc
              clear hc
              go_upto_region 10 with (fail)
              go_wp2_with fail
              have hab := HAB.out
              have hm := HM.out
              have hp := HP.out.two (by omega)
              rw [Nat.min_eq_left (by omega), ← hab, hm] at hp
              refine (symMerge_any (d := d4) cap (by omega) (b - a) a m b _ (Nat.le_refl _) HR4.out (by omega) (by omega) hge hp.1 hp.2).mono ?_
              rintro en w5 ⟨rfl, d5, hR5, hU5, hS5, hF5⟩
              have HP5 := Lib.hid (HP.out.next (d' := d5) (by rw [← hab]; exact hU5) (by rw [← hab]; exact hS5))
              have HS5 := Lib.hid (HS4.out.trans (hS5.wide (Nat.zero_le _) (by omega) hge))
              have HR5 := Lib.hid hR5
              have HF5 := Lib.hid (HF4.out.trans hF5)
              clear hR5 hU5 hS5 hF5 hab hm hp
              go_wp2_with fail
              go_roundw
              case rel =>
                have hab := HAB.out
                have hP5 := HP5.out
                rw [← hab] at hP5
                exact ⟨b, c, d5, rfl, rfl, by have := HC.out; have := HU.out; omega, hge, HR5.out, hP5, HS5.out, HF5.out⟩
              case measure => have := HAB.out; simp [intOf]; omega
        · have hsl' : ¬ (s : Int) < (N : Int) := by omega
          go_wp2_with fail
          go_returns
          exact ⟨rfl, d3, HR.out, HB3.out.all hsg, HS.out, HF.out⟩
    · have h1 : (b : Int) ≤ (N : Int) := by omega
      obtain ⟨c, hc⟩ : ∃ c, b + 20 = c := ⟨_, rfl⟩
      have ec : (b : Int) + 20 = (c : Int) := by omega
      have wc := wrap_nat (show c ≤ 4611686018427387904 by omega)
      have HC := Lib.hid hc
      clear hc
      go_wp2_with fail
      refine (insertion_any HR.out cap a b (by omega) hge (by omega)).mono ?_
      rintro en w2 ⟨rfl, d2, hR2, hU2, hS2, hF2⟩
      have HU2 := Lib.hid hU2
      have HS2 := Lib.hid hS2
      have HR2 := Lib.hid hR2
      have HF2 := Lib.hid (HF.out.trans hF2)
      clear hR2 hU2 hS2 hF2
      go_wp2_with fail
      go_roundw
      case rel =>
        have hq := HAQ.out
        refine ⟨b, c, q + 1, d2, rfl, rfl, HC.out, by omega, hge, HR2.out, fun p hp => ?_, HS.out.trans (HS2.out.wide (Nat.zero_le _) (by omega) hge), HF2.out⟩
        by_cases hc : (p + 1) * 20 ≤ a
        · exact (HL.out p hc).same fun i _ h2 => HS2.out.off i (.inl (by omega))
        · have e : p = q := by omega
          subst e
          rw [show p * 20 = a by omega, show (p + 1) * 20 = b by omega]
          exact HU2.out
      case measure => simp [intOf]; omega
set_option maxRecDepth 100000 in
set_option maxHeartbeats 16000000 in
theorem sort_any {w : World} {g N : Nat} {d : Nat → Pa} (h : Row w g N d) (cap : Nat) (hN : N ≤ 1152921504606846000) :
    Calls Try.prog 32 #[.slice (some ⟨g, 0, none⟩) N cap, cmpV] w fun e w' => e = .returned (.tuple #[]) ∧ ∃ d', Row w' g N d' ∧ Up Pa.e d' 0 N ∧ St Pa.e d d' 0 N ∧ Fr (fun b => b = g) w w' := by
  have H := Lib.hid h
  clear h
  go_enter Try.func32, Try.ntmps32
  go_wp2_with fail
  refine (stable_any H.out cap hN).mono ?_
  rintro en w2 ⟨rfl, d2, hR2, hU2, hS2, hF2⟩
  have HR2 := Lib.hid (And.intro hR2 (And.intro hU2 (And.intro hS2 hF2)))
  clear hR2 hU2 hS2 hF2
  go_wp2_with fail
  go_returns
  exact ⟨rfl, d2, HR2.out⟩
end Go.Proofs.Ytfpomiimloohkaa
