/- The document's Set and Drop: what they compute. -/
import Derived.Test.YtlmmcffbpdfcjaaTmT
import Derived.Test.YtlmmcffbpdfcjaaTmAgM
set_option linter.unusedSimpArgs false
set_option linter.unusedVariables false
namespace Go.Proofs.Ytlmmcffbpdfcjaa
open Go.RowKit Go.Kp Go.ChangeMaps

attribute [local go_sem high] eqT neqT

theorem Rd.front {w : World} {B : Nat} {a : Option Addr} {l : List Tm.T} (h : Rd w B a (l.flatMap cT)) (k : Nat) : Rd w B a ((l.take k).flatMap cT) := by
  rcases h with h | ⟨b, off, h1, h2, h3⟩
  · refine .inl ?_
    have h4 := flat_length cT 4 cT_len l
    rw [h] at h4
    have : l = [] := List.eq_nil_of_length_eq_zero (by simp at h4; omega)
    subst this
    simp
  · refine .inr ⟨b, off, h1, h2, fun j u hu => h3 j u ?_⟩
    have h4 : (l.flatMap cT) = (l.take k).flatMap cT ++ (l.drop k).flatMap cT := by rw [← List.flatMap_append, List.take_append_drop]
    rw [h4, List.getElem?_append_left (List.getElem?_eq_some_iff.1 hu).1]
    exact hu
theorem Rd.back {w : World} {B : Nat} {b off : Nat} {l : List Tm.T} (h : Rd w B (some ⟨b, off, none⟩) (l.flatMap cT)) (k : Nat) (hk : k ≤ l.length) : Rd w B (some ⟨b, off + k * 4, none⟩) ((l.drop k).flatMap cT) := by
  rcases h with h | ⟨b', off', h1, h2, h3⟩
  · refine .inl ?_
    have h4 := flat_length cT 4 cT_len l
    rw [h] at h4
    have : l = [] := List.eq_nil_of_length_eq_zero (by simp at h4; omega)
    subst this
    simp
  · cases h1
    refine .inr ⟨b, _, rfl, h2, fun j u hu => ?_⟩
    have h4 : (l.flatMap cT) = (l.take k).flatMap cT ++ (l.drop k).flatMap cT := by rw [← List.flatMap_append, List.take_append_drop]
    have h5 := flat_length cT 4 cT_len (l.take k)
    rw [List.length_take, Nat.min_eq_left hk] at h5
    rw [Nat.add_assoc]
    refine h3 (k * 4 + j) u ?_
    rw [h4, List.getElem?_append_right (by omega), h5, Nat.add_sub_cancel_left]
    exact hu

theorem Rd.back_nil {w : World} {B : Nat} {a : Option Addr} {l : List Tm.T} (h : l.flatMap cT = []) (k : Nat) : Rd w B a ((l.drop k).flatMap cT) := by
  refine .inl ?_
  have h4 := flat_length cT 4 cT_len l
  rw [h] at h4
  have : l = [] := List.eq_nil_of_length_eq_zero (by simp at h4; omega)
  subst this
  simp
/-- The front and the back of a list. -/
def backA (a : Option Addr) (k c : Nat) : Option Addr := if c = k then a else a.map fun a => a.add (k * 4)
theorem cut_front (a : Option Addr) (n c k : Nat) (hk : k ≤ c) (w : World) : (Instr.slice 29 (.slice a n c) none (some (.int .i64 k)) none).run Try.prog w = .ok (.slice a k c) w := by
  rw [run_slice_h w 29 a n c (by kernel_rfl) .i64 k (by omega) (by omega)]
  have : (sizeOf (Try.prog.elem 29)).run Try.prog w = .ok 4 w := by go_simp
  rw [this]
  simp only [Result.andThen_ok, Int.toNat_natCast, sliced]
  cases a with
  | none => simp
  | some a => obtain ⟨b, o, e⟩ := a; cases e <;> simp [Addr.add]
theorem cut_back (a : Option Addr) (n c k : Nat) (hk : k ≤ n) (w : World) : (Instr.slice 29 (.slice a n c) (some (.int .i64 k)) none none).run Try.prog w = .ok (.slice (backA a k c) (n - k) (c - k)) w := by
  rw [run_slice_l w 29 a n c (by kernel_rfl) .i64 k (by omega) (by omega)]
  have : (sizeOf (Try.prog.elem 29)).run Try.prog w = .ok 4 w := by go_simp
  rw [this]
  simp only [Result.andThen_ok, Int.toNat_natCast, sliced, backA]
theorem Rd.backA {w : World} {B : Nat} {a : Option Addr} {l : List Tm.T} {c : Nat} (h : Rd w B a (l.flatMap cT)) (k : Nat) (hk : k ≤ l.length) (hc : l.length ≤ c) : Rd w B (backA a k c) ((l.drop k).flatMap cT) := by
  unfold Proofs.Ytlmmcffbpdfcjaa.backA
  by_cases e : c = k
  · refine .inl ?_
    rw [List.drop_eq_nil_of_le (by omega)]; rfl
  · rw [if_neg e]
    rcases h with h | ⟨b, off, rfl, h2, h3⟩
    · exact Rd.back_nil h k
    · rw [Option.map_some, Go.WideShapes.add_plain]
      exact Rd.back (.inr ⟨b, off, rfl, h2, h3⟩) k hk

/-- What a call that makes a list answers: this one, in new memory, or what was handed in. -/
def MadeP (w w' : World) (B : Nat) (v v' : Value) (l : List Tm.T) : Prop :=
  w'.ownsRow B 25 4 v' l.length (l.flatMap cT) ∧ (v' = v ∨ ∀ g, v'.ownBlock = some g → w.heap.size ≤ g) ∧ Below w.heap.size w w'

theorem owns_below {w w' : World} {B : Nat} {e : TypeId} {size : Nat} {v : Value} {n : Nat} {xs : List Value} (h : w.ownsRow B e size v n xs) (hb : Below w.heap.size w w') : w'.ownsRow B e size v n xs :=
  owns_same h fun b hv => hb.block b (h.lt b hv).2

theorem owns_cap {w : World} {B : Nat} {e : TypeId} {size : Nat} {a : Option Addr} {n c : Nat} {xs : List Value} (h : w.ownsRow B e size (.slice a n c) n xs) : n ≤ c := by
  rcases h.2 with ⟨h1, h2⟩ | ⟨g, cap, cur, h1, _, _, h2, _⟩
  · omega
  · cases h1; exact h2

set_option maxHeartbeats 2000000 in
theorem Set_ref {w : World} (B : Nat) (v : Value) (l : List Tm.T) (t : Tm.T) (hown : w.ownsRow B 25 4 v l.length (l.flatMap cT)) (hB : B ≤ w.heap.size) (hs : l.Pairwise Tm.lt) (hn : l.length < 5000000000000) :
    Calls Try.prog 18 #[v, vT t] w fun en w' => ∃ v', en = .returned v' ∧ MadeP w w' B v v' (Tm.set l t) := by
  obtain ⟨a, c, rfl, hr, hnil⟩ := rd_row hown
  have HO := Lib.hid hown
  have HR := Lib.hid hr
  have HS := Lib.hid hs
  have HNI := Lib.hid hnil
  have HBB := Lib.hid hB
  have hp := Tm.place_le l t
  have hlc := owns_cap hown
  clear hown hr hs hnil hB
  obtain ⟨n, hln⟩ : ∃ n, l.length = n := ⟨_, rfl⟩
  have HL := Lib.hid hln
  rw [hln] at hp hn hlc ⊢
  clear hln
  go_enter Try.func18, Try.ntmps18
  go_upto_region 1 with (fail)
  (refine wp_at (fun w1 => Blk w1 w.heap.size 25 (cT t).toArray ∧ Below w.heap.size w w1) ⟨heap_at rfl, by go_grown⟩ ?_)
  rintro w1 ⟨A, hB1⟩
  have lA := A.lt
  have a0 := A.cell 0
  have a1 := A.cell 1
  have a2 := A.cell 2
  have a3 := A.cell 3
  simp only [List.getElem?_toArray, List.getElem?_cons_zero, List.getElem?_cons_succ] at a0 a1 a2 a3
  go_wp2_with fail
  refine (Has_ref a n c l t _ HL.out (by omega) ((HR.out.below hB1).more hB1.size) HS.out).mono ?_
  rintro en w2 ⟨rfl, hb2⟩
  have hB2 := bnext hB1 hb2
  have A2 := A.below hb2
  have HB2 := Lib.hid hB2
  clear hb2 hB1 hB2 a0 a1 a2 a3 A lA
  by_cases hin : t ∈ l
  · have hd : decide (t ∈ l) = true := by simp [hin]
    have hfin : MadeP w w2 B (.slice a n c) (.slice a n c) (Tm.set l t) := by
      unfold Tm.set
      rw [if_pos hin]
      refine ⟨?_, .inl rfl, HB2.out⟩
      have h := owns_below HO.out HB2.out
      rw [HL.out] at h ⊢
      exact h
    rw [hd]
    clear hd hin
    go_wp2_with fail
    go_returns
    exact ⟨_, rfl, hfin⟩
  · have hd : decide (t ∈ l) = false := by simp [hin]
    have HIN := Lib.hid hin
    have lA := A2.lt
    have a0 := A2.cell 0
    have a1 := A2.cell 1
    have a2 := A2.cell 2
    have a3 := A2.cell 3
    simp only [List.getElem?_toArray, List.getElem?_cons_zero, List.getElem?_cons_succ] at a0 a1 a2 a3
    rw [hd]
    clear hd hin
    go_wp2_with fail
    refine (place_any a n c l t _ HL.out (by omega) ((HR.out.below HB2.out).more HB2.out.size)).mono ?_
    rintro en w3 ⟨rfl, hb3⟩
    have A3 := A2.below hb3
    have HB3 := Lib.hid (bnext HB2.out hb3)
    have HPL := Lib.hid (show Tm.ins l t = l.take (Tm.place l t) ++ [t] ++ l.drop (Tm.place l t) by unfold Tm.ins; simp)
    clear hb3 a0 a1 a2 a3 lA A2
    have HR3 := Lib.hid (HR.out.below HB3.out)
    generalize hk : Tm.place l t = k at *
    have hsz3 := HB3.out.size
    have hcf := fun w => cut_front a n c k (by omega) w
    have hcb := fun w => cut_back a n c k hp w
    go_upto_region 5 with (fail)
    apply wp_region_lit
    iterate 4 (go_step; go_step; rename_i KK hKK; (with_reducible refine hKK _ _ ?_); clear hKK KK)
    refine append_tms rfl (.tmp 14) (.tmp 17) rfl w.heap.size (.slice none 0 0) 0 [] rfl (World.ownsRow_nil _ _ _ _) a k c (l.take k) rfl HNI.out (by rw [List.length_take, HL.out]; omega) ?_ (by omega) hsz3 ?_
    · exact (Rd.front HR3.out k).more hsz3
    intro v4 w4 ho4 hg4 hv4
    rw [Nat.zero_add, List.nil_append] at ho4
    have hb4 : Below w3.heap.size w3 w4 := below_of_grown hg4 (fun k hk => by cases hk)
    have A4 := A3.below hb4
    have HB4 := Lib.hid (bnext HB3.out hb4)
    have HR4 := Lib.hid (HR3.out.below (hb4.mono hsz3))
    have HO4 := Lib.hid ho4
    have hsz4 := HB4.out.size
    clear hb4 hg4 hv4 ho4 hsz3
    (try simp only [Act.put, List.setIfInBounds_toArray, List.set_cons_zero, List.set_cons_succ])
    go_upto_region 6 with (fail)
    have lA := A4.lt
    have a0 := A4.cell 0
    have a1 := A4.cell 1
    have a2 := A4.cell 2
    have a3 := A4.cell 3
    simp only [List.getElem?_toArray, List.getElem?_cons_zero, List.getElem?_cons_succ] at a0 a1 a2 a3
    apply wp_region_lit
    iterate 3 (go_step; go_step; rename_i KK hKK; (with_reducible refine hKK _ _ ?_); clear hKK KK)
    refine append_tms rfl (.tmp 19) (.tmp 21) rfl w.heap.size v4 k (l.take k) rfl (HO4.out.alloc _) (some ⟨w4.heap.size, 0, none⟩) 1 1 [t] rfl (fun h => by cases h) rfl ?_ (by omega) (by simp; omega) ?_
    · exact .inr ⟨w4.heap.size, 0, rfl, by simp, fun j u hu => by
        rw [Nat.zero_add]
        have hb : Blk (w4.alloc (.cells (cT t).toArray 25 (0, 0))) w4.heap.size 25 (cT t).toArray := heap_at rfl
        exact (hb.cell j).trans (by simpa using hu)⟩
    intro v5 w5 ho5 hg5 hv5
    have hB5 : Below w.heap.size w w5 := by
      refine (HB4.out.trans ((show Below w4.heap.size w4 (w4.alloc (.cells (cT t).toArray 25 (0, 0))) by go_grown).mono hsz4)).grown hg5 (by simp; omega) (fun k hk => (HO4.out.lt k hk).1)
    have HB5 := Lib.hid hB5
    have HR5 := Lib.hid (HR.out.below hB5)
    have HO5 := Lib.hid ho5
    have hsz5 := hB5.size
    clear hB5 hg5 hv5 ho5 hsz4 a0 a1 a2 a3 lA A4 HR4 A3
    (try simp only [Act.put, List.setIfInBounds_toArray, List.set_cons_zero, List.set_cons_succ])
    go_upto_region 7 with (fail)
    apply wp_region_lit
    iterate 4 (go_step; go_step; rename_i KK hKK; (with_reducible refine hKK _ _ ?_); clear hKK KK)
    refine append_tms rfl (.tmp 23) (.tmp 26) rfl w.heap.size v5 (k + 1) (l.take k ++ [t]) rfl HO5.out (backA a k c) (n - k) (c - k) (l.drop k) rfl ?_ (by rw [List.length_drop, HL.out]) ?_ (by omega) hsz5 ?_
    · intro h
      unfold backA at h
      split at h
      · omega
      · have := HNI.out (by simpa using h); omega
    · exact (Rd.backA HR5.out k (by rw [HL.out]; exact hp) (by rw [HL.out]; exact hlc)).more hsz5
    intro v6 w6 ho6 hg6 hv6
    have hB6 : Below w.heap.size w w6 := HB5.out.grown hg6 hsz5 (fun k hk => (HO5.out.lt k hk).1)
    have hlen : k + 1 + (n - k) = (Tm.set l t).length := by
      unfold Tm.set
      rw [if_neg HIN.out, Tm.ins_length, HL.out]; omega
    have hset : Tm.set l t = l.take k ++ [t] ++ l.drop k := by
      unfold Tm.set
      rw [if_neg HIN.out, HPL.out]
    have hfin : MadeP w w6 B (.slice a n c) v6 (Tm.set l t) := by
      rw [hlen, ← hset] at ho6
      exact ⟨owns_mono ho6 HBB.out, .inr fun g hg => (ho6.lt g hg).1, hB6⟩
    have HF := Lib.hid hfin
    clear hfin hset hlen hB6 hv6 hg6 ho6
    (try simp only [Act.put, List.setIfInBounds_toArray, List.set_cons_zero, List.set_cons_succ])
    go_wp2_with fail
    go_returns
    exact ⟨_, rfl, HF.out⟩

set_option maxHeartbeats 2000000 in
theorem Drop_ref {w : World} (B : Nat) (v : Value) (l : List Tm.T) (t : Tm.T) (hown : w.ownsRow B 25 4 v l.length (l.flatMap cT)) (hB : B ≤ w.heap.size) (hn : l.length ≤ 5000000000000) :
    Calls Try.prog 34 #[v, vT t] w fun en w' => ∃ v', en = .returned v' ∧ MadeP w w' B v v' (Tm.drop l t) := by
  obtain ⟨a, c, rfl, hr, hnil⟩ := rd_row hown
  have HR := Lib.hid hr
  have HBB := Lib.hid hB
  clear hown hr hnil hB
  obtain ⟨n, hln⟩ : ∃ n, l.length = n := ⟨_, rfl⟩
  have HL := Lib.hid hln
  rw [hln] at hn ⊢
  clear hln
  go_enter Try.func34, Try.ntmps34
  go_wp2_with fail
  go_loopw [5, 6] (fun vo vi wr => ∃ k : Nat, vi = .int .i64 k ∧ k ≤ n ∧ wr.ownsRow w.heap.size 25 4 vo (Tm.drop (l.take k) t).length ((Tm.drop (l.take k) t).flatMap cT) ∧ Blk wr w.heap.size 25 (cT t).toArray ∧ (∀ b, vo.ownBlock = some b → w.heap.size < b) ∧ Below w.heap.size w wr) (fun _ vi _ => n - (intOf vi).toNat)
  case atStart => exact ⟨0, rfl, Nat.zero_le _, World.ownsRow_nil _ _ _ _, heap_at rfl, (fun b h => by cases h), by go_grown⟩
  case round =>
    obtain ⟨k, rfl, hk, ho, A, hA, hB⟩ := hrel
    have HO := Lib.hid ho
    have HA := Lib.hid hA
    have HB := Lib.hid hB
    have HR1 := Lib.hid (HR.out.below hB)
    have lA := A.lt
    have a0 := A.cell 0
    have a1 := A.cell 1
    have a2 := A.cell 2
    have a3 := A.cell 3
    simp only [List.getElem?_toArray, List.getElem?_cons_zero, List.getElem?_cons_succ] at a0 a1 a2 a3
    rcases Nat.lt_or_ge k n with hlt | hge
    · obtain ⟨b, off, rfl, hb, hc⟩ := rd_tms HR1.out (by rw [HL.out]; omega)
      obtain ⟨x, hx⟩ : ∃ x, l[k]? = some x := ⟨_, List.getElem?_eq_getElem (by rw [HL.out]; exact hlt)⟩
      obtain ⟨c0, c1, c2, c3⟩ := cells4 hc hx
      have hb' : b < wr.heap.size := Nat.lt_of_lt_of_le hb HB.out.size
      have HX := Lib.hid (show l.take (k + 1) = l.take k ++ [x] by rw [List.take_add_one, hx]; rfl)
      have hdl := Tm.drop_length (l.take k) t
      rw [List.length_take, HL.out] at hdl
      clear hc hx hB ho hA
      go_wp2_with (go_in)
      (refine region_keep (fun k => k < wr.heap.size) 5 [(0, true), (1, true), (2, true), (3, true), (4, true)] (by kernel_rfl) (fun _ _ d _ _ h => by cases d <;> exact h) (by kernel_rfl) ?_; simp only [withOps, List.getElem?_toArray, List.getElem?_cons_zero, List.getElem?_cons_succ, List.drop_succ_cons, List.drop_zero])
      (iterate 5 (refine keep_quiet (v := ?_) rfl ?_ ?_; rotate_left; (focus (intro w' hw'; go_simp; (try with_reducible rfl); done)); try simp only [Act.put, List.setIfInBounds_toArray, List.set_cons_zero, List.set_cons_succ]))
      (with_reducible refine plan_end ?_)
      (try simp only [Act.put, List.setIfInBounds_toArray, List.set_cons_zero, List.set_cons_succ])
      by_cases he : x = t
      · have hd : decide (x = t) = true := by simp [he]
        have hst : Tm.drop (l.take (k + 1)) t = Tm.drop (l.take k) t := by
          rw [HX.out]
          unfold Tm.drop
          rw [List.filter_append]
          simp [he]
        have HST := Lib.hid hst
        clear he hst
        have hne := fun w => neqT x t w
        simp only [hd, Bool.not_true] at hne
        clear hd
        go_wp2_with fail
        go_roundw
        case rel => exact ⟨k + 1, by go_num, by omega, by rw [HST.out]; exact owns_below HO.out (below_drewN (Below.refl _ _) 1), A, HA.out, below_drewN HB.out 1⟩
        case measure => simp [intOf]; omega
      · have hd : decide (x = t) = false := by simp [he]
        have hst : Tm.drop (l.take (k + 1)) t = Tm.drop (l.take k) t ++ [x] := by
          rw [HX.out]
          unfold Tm.drop
          rw [List.filter_append]
          simp [he]
        have HST := Lib.hid hst
        clear he hst
        have hne := fun w => neqT x t w
        simp only [hd, Bool.not_false] at hne
        clear hd
        go_upto_region 6 with (fail)
        apply wp_region_lit
        iterate 6 (go_step; go_step; rename_i KK hKK; (with_reducible refine hKK _ _ ?_); clear hKK KK)
        have hsz := HB.out.size
        refine append_tms rfl (.tmp 19) (.tmp 24) rfl w.heap.size u5 _ (Tm.drop (l.take k) t) rfl (HO.out.alloc _) (some ⟨wr.heap.size, 0, none⟩) 1 1 [x] rfl (fun h => by cases h) rfl ?_ (by omega) (by simp; omega) ?_
        · exact .inr ⟨wr.heap.size, 0, rfl, by simp, fun j u hu => by
            rw [Nat.zero_add]
            have hb : Blk (wr.drew.alloc (.cells (cT x).toArray 25 (0, 0))) wr.heap.size 25 (cT x).toArray := heap_at rfl
            exact (hb.cell j).trans (by simpa using hu)⟩
        intro v4 w4 ho4 hg4 hv4
        have hB4 : Below w.heap.size w w4 := by
          refine (HB.out.trans ((show Below wr.heap.size wr (wr.drew.alloc (.cells (cT x).toArray 25 (0, 0))) by go_grown).mono hsz)).grown hg4 (by simp; omega) (fun k hk => (HO.out.lt k hk).1)
        have A4 : Blk w4 w.heap.size 25 (cT t).toArray := (hg4.block _ (by simp; omega) (fun e => by have := HA.out _ e.symm; omega)).trans (A.below (w' := wr.drew.alloc (.cells (cT x).toArray 25 (0, 0))) (by go_grown))
        have hA4 : ∀ b, v4.ownBlock = some b → w.heap.size < b := fun b hb => by
          rcases hv4 with e | e
          · exact HA.out b (e ▸ hb)
          · rw [e] at hb; cases hb; simp; omega
        rw [show (Tm.drop (l.take k) t).length + 1 = (Tm.drop (l.take (k + 1)) t).length by rw [HST.out]; simp, ← HST.out] at ho4
        have HO4 := Lib.hid ho4
        have HA4 := Lib.hid hA4
        have HB4 := Lib.hid hB4
        clear ho4 hA4 hB4 hg4 hv4 a0 a1 a2 a3 c0 c1 c2 c3 hne
        (try simp only [Act.put, List.setIfInBounds_toArray, List.set_cons_zero, List.set_cons_succ])
        go_wp2_with fail
        go_roundw
        case rel => exact ⟨k + 1, by go_num, by omega, HO4.out, A4, HA4.out, HB4.out⟩
        case measure => simp [intOf]; omega
    · obtain rfl : k = n := by omega
      have hfin : MadeP w wr B (.slice a k c) u5 (Tm.drop l t) := by
        have h := HO.out
        rw [List.take_of_length_le (by rw [HL.out]; exact Nat.le_refl _)] at h
        exact ⟨owns_mono h HBB.out, .inr fun g hg => (h.lt g hg).1, HB.out⟩
      have HF := Lib.hid hfin
      clear hfin hB ho hA a0 a1 a2 a3
      go_wp2_with fail
      go_returns
      exact ⟨_, rfl, HF.out⟩
end Go.Proofs.Ytlmmcffbpdfcjaa
