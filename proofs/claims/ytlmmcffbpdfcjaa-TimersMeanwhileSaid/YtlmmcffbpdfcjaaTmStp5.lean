/- One step of the law's script: the queue is put aside, and goes on as its copy. -/
import Derived.Test.YtlmmcffbpdfcjaaTmStp4
import Derived.Test.YtlmmcffbpdfcjaaAppR
set_option linter.unusedSimpArgs false
set_option linter.unusedVariables false
namespace Go.Proofs.Ytlmmcffbpdfcjaa
open Go.RowKit Go.Kp Go.ChangeMaps

/-- What the seventh kind of a step leaves. -/
def CopyP (w w' : World) (B gw k : Nat) (cs : Array Value) (x : Qr) (no : Nat) (xsO xsW : List Value) (vold vwas : Value) : Prop :=
  ∃ z : Qr, Tq w' z.q z.m z.v z.L z.M ∧ (∀ t, t ∈ z.L ↔ t ∈ x.S) ∧ z.S = x.S ∧ z.lv = x.lv ∧ (∀ b, z.foot b → w.heap.size ≤ b) ∧
    ((20 ≤ no ∧ Blk w' gw 45 (cs.setIfInBounds k (ptr z.q)) ∧ Fr (fun b => b = gw) w w') ∨
      (no < 20 ∧ ∃ vold' vwas' lv2, Blk w' gw 45 (((cs.setIfInBounds 4 vold').setIfInBounds 5 vwas').setIfInBounds k (ptr z.q)) ∧
        w'.ownsRow B 30 1 vold' (no + 1) (xsO ++ [ptr x.q]) ∧ w'.ownsRow B 29 1 vwas' (no + 1) (xsW ++ [lv2]) ∧ w'.ownsRow w.heap.size 25 4 lv2 x.S.length (x.S.flatMap cT) ∧
        (vold'.ownBlock = vold.ownBlock ∨ ∀ n, vold'.ownBlock = some n → w.heap.size ≤ n) ∧ (vwas'.ownBlock = vwas.ownBlock ∨ ∀ n, vwas'.ownBlock = some n → w.heap.size ≤ n) ∧
        (∀ n, vold'.ownBlock = some n → vwas'.ownBlock ≠ some n) ∧ (∀ n, lv2.ownBlock = some n → vold'.ownBlock ≠ some n ∧ vwas'.ownBlock ≠ some n ∧ ¬ z.foot n) ∧ (∀ n, vold'.ownBlock = some n ∨ vwas'.ownBlock = some n → ¬ z.foot n) ∧
        Fr (fun b => b = gw ∨ vold.ownBlock = some b ∨ vwas.ownBlock = some b) w w'))

theorem infoP : (Try.prog.info? 30).map (fun i => (i.zero, i.size, i.bytes)) = some (some (.pointer none), 1, 8) := by kernel_rfl
theorem infoS : (Try.prog.info? 29).map (fun i => (i.zero, i.size, i.bytes)) = some (some (.slice none 0 0), 1, 24) := by kernel_rfl

set_option maxRecDepth 100000 in
set_option maxHeartbeats 8000000 in
theorem step_copy {w : World} {B gw k : Nat} {cs : Array Value} (G : Blk w gw 45 cs) (hcs : cs.size = 6) (x : Qr) (X : x.ok w B) (ck : cs[k]? = some (ptr x.q)) (dk : cs[2 + k]? = some x.lv) (hk : k < 2) (hgf : ¬ x.foot gw) (hgl : x.lv.ownBlock ≠ some gw) (hB : B ≤ w.heap.size)
    (s : Stp) (hs : s.ok) (hon : s.on % 2 = k) (hlen : x.S.length < 5000000000000) (hkd : s.kind = 7)
    (no : Nat) (xsO xsW : List Value) (vold vwas : Value) (c4 : cs[4]? = some vold) (c5 : cs[5]? = some vwas) (ro : w.ownsRow B 30 1 vold no xsO) (rw_ : w.ownsRow B 29 1 vwas no xsW)
    (ho : ∀ n, vold.ownBlock = some n → n ≠ gw ∧ vwas.ownBlock ≠ some n ∧ ¬ x.foot n ∧ x.lv.ownBlock ≠ some n) (hw : ∀ n, vwas.ownBlock = some n → n ≠ gw ∧ ¬ x.foot n ∧ x.lv.ownBlock ≠ some n) (hno : no ≤ 22) :
    Calls Try.prog 19 #[ptr gw, s.val] w fun en w' => en = .returned (.bool true) ∧ CopyP w w' B gw k cs x no xsO xsW vold vwas := by
  obtain ⟨ao, co, rfl, hro0⟩ : ∃ ao co, vold = .slice ao no co ∧ True := by
    rcases ro.2 with ⟨h1, h2⟩ | ⟨g, cap, cur, h1, _⟩
    · exact ⟨none, 0, by rw [h1, h2], trivial⟩
    · exact ⟨_, _, h1, trivial⟩
  obtain ⟨aw, cw, rfl, _⟩ : ∃ aw cw, vwas = .slice aw no cw ∧ True := by
    rcases rw_.2 with ⟨h1, h2⟩ | ⟨g, cap, cur, h1, _⟩
    · exact ⟨none, 0, by rw [h1, h2], trivial⟩
    · exact ⟨_, _, h1, trivial⟩
  clear hro0
  obtain ⟨kind, on, leave, t, u, upto⟩ := s
  obtain ⟨q, m, v, L, M, S, lv⟩ := x
  dsimp only at hon hkd hlen ck dk hgf hgl ⊢
  subst hkd
  have XL := X.list
  dsimp only at XL
  obtain ⟨a, c, rfl, hr, hnil⟩ := rd_row XL
  have hLS : L.length = S.length := len_of_mem X.tq.full.nodup (Tm.sorted_nodup X.sorted) X.mem
  have hlc := owns_cap XL
  have HX := Lib.hid X
  have HS := Lib.hid hs
  have HR := Lib.hid hr
  have HNI := Lib.hid hnil
  have HGF := Lib.hid hgf
  have HGL := Lib.hid hgl
  have hB' := hB
  obtain ⟨n, hn⟩ : ∃ n, S.length = n := ⟨_, rfl⟩
  have HN := Lib.hid hn
  rw [hn] at dk hlen hLS hlc
  have hm := on_mod on
  rw [hon] at hm
  have hm1 : wrap64 (on.tmod 2 + 2) = on.tmod 2 + 2 := by
    have := tmod2 on
    unfold wrap64
    omega
  have hm2 : (wrap64 (on.tmod 2 + 2)).tmod 2 = k := by rw [hm1]; exact hm
  clear X XL hs hr hnil hgf hgl hB hn hon hm hm1
  go_enter Try.func19, Try.ntmps19
  go_upto_region 2 with (fail)
  (refine wp_at (fun w1 => Blk w1 w.heap.size 50 (Stp.cells ⟨7, on, leave, t, u, upto⟩).toArray ∧ Below w.heap.size w w1) ⟨heap_at rfl, by go_grown⟩ ?_)
  rintro w1 ⟨A, hB1⟩
  have G1 := G.below hB1
  have HT1 := Lib.hid (HX.out.tq.below hB1)
  have HO1 := Lib.hid (show w1.ownsRow B 25 4 (.slice a n c) n (S.flatMap cT) by have h := owns_below HX.out.list hB1; dsimp only at h; rw [HN.out] at h; exact h)
  have HOF := Lib.hid (show ∀ b, (Value.slice a n c).ownBlock = some b → ¬ foot q m v b by have h := HX.out.off; dsimp only at h; rw [HN.out] at h; exact h)
  have HR1 := Lib.hid ((HR.out.below hB1).more hB1.size)
  have HB1 := Lib.hid hB1
  have gq := (G1.cell k).trans ck
  have gl := (G1.cell (2 + k)).trans dk
  have lA := A.lt
  have lG := G1.lt
  have sz1 := hB1.size
  clear hB1
  have s0 := A.cell 0
  simp only [List.getElem?_toArray, List.getElem?_cons_zero, List.getElem?_cons_succ] at s0
  have HHO := Lib.hid ho
  have HHW := Lib.hid hw
  have HRO1 := Lib.hid (owns_below ro HB1.out)
  have HRW1 := Lib.hid (owns_below rw_ HB1.out)
  have k4 := (G1.cell 4).trans c4
  have k5 := (G1.cell 5).trans c5
  have HRO0 := Lib.hid ro
  have HRW0 := Lib.hid rw_
  clear ho hw ro rw_
  rcases Nat.lt_or_ge no 20 with hlt | hge
  · have hi : ((no : Int) < 20) := by omega
    go_upto_region 40 with (fail)
    apply wp_region_lit
    iterate 7 (go_step; go_step; rename_i KK hKK; (with_reducible refine hKK _ _ ?_); clear hKK KK)
    have hb1 : Below w1.heap.size w1 (w1.alloc (.cells #[ptr q] 30 (0, 0))) := by go_grown
    refine append_row rfl (.tmp 236) (.tmp 238) 42 30 (.pointer none) 1 8 infoP Try.underlying42 rfl (by omega) rfl B (.slice ao no co) no xsO rfl (HRO1.out.alloc _) ⟨w1.heap.size, 0, none⟩ 1 1 [ptr q] rfl rfl ?_ ?_ (by unfold maxLen; omega) (by omega) (by simp; omega) ?_
    · intro j u hu
      rw [Go.WideShapes.add_plain, Nat.zero_add]
      have hb : Blk (w1.alloc (.cells #[ptr q] 30 (0, 0))) w1.heap.size 30 #[ptr q] := heap_at rfl
      exact (hb.cell j).trans (by simpa using hu)
    · intro u hu; simp at hu; subst hu; rfl
    intro vo2 w2 ho2 hg2 hv2
    obtain ⟨go2, co2, hvo2, _⟩ := ho2.form (by omega)
    have HVO := Lib.hid (show vo2.ownBlock = (Value.slice ao no co).ownBlock ∨ ∀ n, vo2.ownBlock = some n → w1.heap.size ≤ n from hv2.imp id fun e n hn => by rw [e] at hn; cases hn; simp)
    have hk2 : ∀ b, b < w1.heap.size → (Value.slice ao no co).ownBlock ≠ some b → w2.heap[b]? = w1.heap[b]? := fun b h1 h2 => (hg2.block b (Nat.lt_of_lt_of_le h1 hb1.size) (fun e => h2 e.symm)).trans (hb1.block b h1)
    have s2' : w1.heap.size < w2.heap.size := Nat.lt_of_lt_of_le (by simp) hg2.size
    have G2 : Blk w2 gw 45 cs := (hk2 gw lG (fun e => (HHO.out _ e).1 rfl)).trans G1
    have HT2 := Lib.hid (HT1.out.same fun b hf => hk2 b (HT1.out.raw.lt b hf) fun e => (HHO.out b e).2.2.1 hf)
    have HL2 := Lib.hid (show w2.ownsRow B 25 4 (.slice a n c) n (S.flatMap cT) from owns_same HO1.out fun b hb => hk2 b (HO1.out.lt b hb).2 fun e => by
      have h := (HHO.out b e).2.2.2
      rw [HN.out] at h
      exact h hb)
    have HW2 := Lib.hid (show w2.ownsRow B 29 1 (.slice aw no cw) no xsW from owns_same HRW1.out fun b hb => hk2 b (HRW1.out.lt b hb).2 fun e => (HHO.out b e).2.1 hb)
    have HRO2 := Lib.hid ho2
    have HF2 := Lib.hid (show Fr (fun b => b = gw ∨ (Value.slice ao no co).ownBlock = some b ∨ (Value.slice aw no cw).ownBlock = some b) w w2 from
      ⟨hg2.os.trans (hb1.os.trans HB1.out.os), hg2.tape.trans (hb1.tape.trans HB1.out.tape), hg2.output.trans (hb1.output.trans HB1.out.output), by omega, fun b hb hn => (hk2 b (by omega) fun e => hn (.inr (.inl e))).trans (HB1.out.block b hb)⟩)
    have hvog : vo2.ownBlock ≠ some gw := fun e => by
      rcases HVO.out with h | h
      · rw [h] at e; exact (HHO.out _ e).1 rfl
      · have := h _ e; omega
    have HVG := Lib.hid hvog
    have HV4 := Lib.hid (show ∀ n, vo2.ownBlock = some n → n < w2.heap.size from fun n hn => (ho2.lt n hn).2)
    subst hvo2
    have lG2 := G2.lt
    have f2 := G2.free 4
    have g2 := (G2.cell 4).trans c4
    clear ho2 hg2 hv2 hk2 hb1 hvog gq gl k4 k5
    (try simp only [Act.put, List.setIfInBounds_toArray, List.set_cons_zero, List.set_cons_succ])
    go_upto_region 41 with (fail)
    (refine wp_at (fun w3 => Blk w3 gw 45 (cs.setIfInBounds 4 (.slice (some ⟨go2, 0, none⟩) (no + 1) co2)) ∧ Tq w3 q m v L M ∧ w3.ownsRow B 25 4 (.slice a n c) n (S.flatMap cT) ∧ w3.ownsRow B 29 1 (.slice aw no cw) no xsW ∧ w3.ownsRow B 30 1 (.slice (some ⟨go2, 0, none⟩) (no + 1) co2) (no + 1) (xsO ++ [ptr q]) ∧
      Fr (fun b => b = gw ∨ (Value.slice ao no co).ownBlock = some b ∨ (Value.slice aw no cw).ownBlock = some b) w w3 ∧ w3.heap.size = w2.heap.size) ?_ ?_)
    · have hg : ∀ b, b ≠ gw → (w2.setCell ⟨gw, 4, none⟩ (.slice (some ⟨go2, 0, none⟩) (no + 1) co2)).heap[b]? = w2.heap[b]? := fun b hb => heap_set_ne _ _ _ _ _ hb
      refine ⟨?_, HT2.out.same fun b hf => hg b fun e => HGF.out (e ▸ hf), owns_same HL2.out fun b hb => hg b fun e => ?_, owns_same HW2.out fun b hb => hg b fun e => (HHW.out b hb).1 e, owns_same HRO2.out fun b hb => hg b fun e => HVG.out (e ▸ hb), HF2.out.set _ (.inl rfl), World.size_setCell _ _ _⟩
      · unfold Blk at G2 ⊢
        rw [heap_set_same, G2]
        rfl
      · subst e
        have h := HGL.out
        rw [HN.out] at h
        exact h hb
    rintro w3 ⟨G3, hT3, hL3, hW3, hO3, hF3, hz3⟩
    have HT3 := Lib.hid hT3
    have HL3 := Lib.hid hL3
    have HW3 := Lib.hid hW3
    have HO3 := Lib.hid hO3
    have HF3 := Lib.hid hF3
    obtain ⟨a', c', ea, hr3, hnil3⟩ := rd_row hL3
    cases ea
    have HR3 := Lib.hid hr3
    have lG3 := G3.lt
    have k5 : w3.cell? ⟨gw, 5, none⟩ = some (.slice aw no cw) := (G3.cell 5).trans (by rw [Array.getElem?_setIfInBounds_ne (by omega)]; exact c5)
    clear HT2 HL2 HW2 HRO2 HF2 G2 f2 g2 hT3 hL3 hW3 hO3 hF3 hr3
    go_wp2_with (go_in)
    (refine region_keep (fun b => b = gw) 9 [(0, true), (1, true), (2, true), (3, true), (4, true), (5, true), (6, false), (7, false), (8, false)] (by kernel_rfl) (fun _ _ d _ _ h => by cases d <;> exact h) (by kernel_rfl) ?_; simp only [withOps, List.getElem?_toArray, List.getElem?_cons_zero, List.getElem?_cons_succ, List.drop_succ_cons, List.drop_zero])
    (iterate 6 (refine keep_quiet (v := ?_) rfl ?_ ?_; rotate_left; (focus (intro w' hw'; go_simp; (try with_reducible rfl); done)); try simp only [Act.put, List.setIfInBounds_toArray, List.set_cons_zero, List.set_cons_succ]))
    (with_reducible refine plan_loud (fun K hK => ?_))
    simp only [Region.wanted, if_pos]
    refine wp_append_tms (.const (.slice none 0 0)) (.tmp 247) rfl w3.heap.size (.slice none 0 0) 0 [] rfl (World.ownsRow_nil _ _ _ _) a n c S rfl hnil3 HN.out HR3.out (by omega) (Nat.le_refl _) ?_
    intro v4 w4 ho4 hg4 _
    rw [Nat.zero_add, List.nil_append] at ho4
    have hb4 : Below w3.heap.size w3 w4 := below_of_grown (b := w4) (a := w3) ⟨hg4.os, hg4.tape, hg4.output, hg4.size, hg4.block⟩ (fun k hk => by cases hk)
    refine hK _ _ (fun b hb => hb4.block b (by rw [hb]; exact lG3)) ?_
    clear hK K
    obtain ⟨a4, c4', hv4, _⟩ := rd_row ho4
    subst hv4
    have HO4 := Lib.hid ho4
    have HC4 := Lib.hid (show ∀ i, (Value.slice a4 n c4').ownBlock = some i → i < w4.heap.size from fun i hi => (ho4.lt i hi).2)
    have HB4 := Lib.hid hb4
    have sz4 := hb4.size
    clear hb4 hg4 ho4
    (try simp only [Act.put, List.setIfInBounds_toArray, List.set_cons_zero, List.set_cons_succ])
    (with_reducible refine plan_loud (fun K hK => ?_))
    go_simp
    refine hK _ _ ?_ ?_
    · exact (Keep.refl _ _).alloc (by rintro b rfl; omega) _
    clear hK K
    (try simp only [Act.put, List.setIfInBounds_toArray, List.set_cons_zero, List.set_cons_succ])
    (with_reducible refine plan_loud (fun K hK => ?_))
    simp only [Region.wanted, if_pos]
    have hb5 : Below w4.heap.size w4 (w4.alloc (.cells #[.slice a4 n c4'] 29 (0, 0))) := by go_grown
    refine wp_append_row (.tmp 246) (.tmp 249) 43 29 (.slice none 0 0) 1 24 infoS Try.underlying43 rfl (by omega) rfl B (.slice aw no cw) no xsW rfl ((owns_below HW3.out HB4.out).alloc _) ⟨w4.heap.size, 0, none⟩ 1 1 [.slice a4 n c4'] rfl rfl ?_ ?_ (by unfold maxLen; omega) (by omega) (by simp; omega) ?_
    · intro j u hu
      rw [Go.WideShapes.add_plain, Nat.zero_add]
      have hb : Blk (w4.alloc (.cells #[.slice a4 n c4'] 29 (0, 0))) w4.heap.size 29 #[.slice a4 n c4'] := heap_at rfl
      exact (hb.cell j).trans (by simpa using hu)
    · intro u hu; simp at hu; subst hu; rfl
    intro vw5 w5 ho5 hg5 hv5
    obtain ⟨gw5, cw5, hvw5, _⟩ := ho5.form (by omega)
    have hk5 : ∀ b, b < w3.heap.size → (Value.slice aw no cw).ownBlock ≠ some b → w5.heap[b]? = w3.heap[b]? := fun b h1 h2 => ((hg5.block b (by have := hb5.size; omega) (fun e => h2 e.symm)).trans (hb5.block b (by omega))).trans (HB4.out.block b h1)
    have hk5' : ∀ b, b < w4.heap.size → (Value.slice aw no cw).ownBlock ≠ some b → w5.heap[b]? = w4.heap[b]? := fun b h1 h2 => (hg5.block b (by have := hb5.size; omega) (fun e => h2 e.symm)).trans (hb5.block b h1)
    have hwl : ∀ b, (Value.slice aw no cw).ownBlock = some b → b < w.heap.size := fun b hb => (HRW0.out.lt b hb).2
    have s5' : w4.heap.size < w5.heap.size := Nat.lt_of_lt_of_le (by simp) hg5.size
    have szw : w.heap.size ≤ w3.heap.size := by omega
    have hwg : (Value.slice aw no cw).ownBlock ≠ some gw := fun e => (HHW.out _ e).1 rfl
    refine hK _ _ (fun b hb => by subst hb; exact (hg5.block _ (by have := hb5.size; omega) (fun e => hwg e.symm)).trans rfl) ?_
    clear hK K
    have HVW := Lib.hid (show vw5.ownBlock = (Value.slice aw no cw).ownBlock ∨ ∀ n, vw5.ownBlock = some n → w4.heap.size ≤ n from hv5.imp id fun e n hn => by rw [e] at hn; cases hn; simp)
    have G5 : Blk w5 gw 45 (cs.setIfInBounds 4 (.slice (some ⟨go2, 0, none⟩) (no + 1) co2)) := (hk5 gw lG3 hwg).trans G3
    have HT5 := Lib.hid (HT3.out.same fun b hf => hk5 b (HT3.out.raw.lt b hf) fun e => (HHW.out b e).2.1 hf)
    have hvold : ∀ b, (Value.slice (some ⟨go2, 0, none⟩) (no + 1) co2).ownBlock = some b → (Value.slice aw no cw).ownBlock ≠ some b := fun b hb e => by
      rcases HVO.out with h | h
      · rw [h] at hb; exact (HHO.out b hb).2.1 e
      · have := h b hb; have := hwl b e; omega
    have HVOW := Lib.hid hvold
    have HO5 := Lib.hid (owns_same HO3.out fun b hb => hk5 b (HO3.out.lt b hb).2 (hvold b hb))
    have HC5 := Lib.hid (show w5.ownsRow w3.heap.size 25 4 (.slice a4 n c4') n (S.flatMap cT) from owns_same HO4.out fun b hb => hk5' b (HO4.out.lt b hb).2 fun e => by
      have := (HO4.out.lt b hb).1; have := hwl b e; omega)
    have HW5 := Lib.hid ho5
    have HF5 := Lib.hid (show Fr (fun b => b = gw ∨ (Value.slice ao no co).ownBlock = some b ∨ (Value.slice aw no cw).ownBlock = some b) w w5 from
      HF3.out.trans ⟨hg5.os.trans (hb5.os.trans HB4.out.os), hg5.tape.trans (hb5.tape.trans HB4.out.tape), hg5.output.trans (hb5.output.trans HB4.out.output), by omega, fun b hb hn => hk5 b hb fun e => hn (.inr (.inr e))⟩)
    have hvwg : vw5.ownBlock ≠ some gw := fun e => by
      rcases HVW.out with h | h
      · rw [h] at e; exact hwg e
      · have := h _ e; omega
    have HVWG := Lib.hid hvwg
    subst hvw5
    have lG5 := G5.lt
    have f5 := G5.free 5
    have g5 : w5.cell? ⟨gw, 5, none⟩ = some (.slice aw no cw) := (G5.cell 5).trans (by rw [Array.getElem?_setIfInBounds_ne (by omega)]; exact c5)
    clear ho5 hg5 hv5 hk5 hk5' hb5 hvwg hvold k5
    (with_reducible refine plan_end ?_)
    (try simp only [Act.put, List.setIfInBounds_toArray, List.set_cons_zero, List.set_cons_succ])
    go_upto_region 42 with (fail)
    (refine wp_at (fun w6 => Blk w6 gw 45 ((cs.setIfInBounds 4 (.slice (some ⟨go2, 0, none⟩) (no + 1) co2)).setIfInBounds 5 (.slice (some ⟨gw5, 0, none⟩) (no + 1) cw5)) ∧ Tq w6 q m v L M ∧ w6.ownsRow B 30 1 (.slice (some ⟨go2, 0, none⟩) (no + 1) co2) (no + 1) (xsO ++ [ptr q]) ∧ w6.ownsRow B 29 1 (.slice (some ⟨gw5, 0, none⟩) (no + 1) cw5) (no + 1) (xsW ++ [.slice a4 n c4']) ∧ w6.ownsRow w3.heap.size 25 4 (.slice a4 n c4') n (S.flatMap cT) ∧
      Fr (fun b => b = gw ∨ (Value.slice ao no co).ownBlock = some b ∨ (Value.slice aw no cw).ownBlock = some b) w w6 ∧ w6.heap.size = w5.heap.size) ?_ ?_)
    · have hg : ∀ b, b ≠ gw → (w5.setCell ⟨gw, 5, none⟩ (.slice (some ⟨gw5, 0, none⟩) (no + 1) cw5)).heap[b]? = w5.heap[b]? := fun b hb => heap_set_ne _ _ _ _ _ hb
      refine ⟨?_, HT5.out.same fun b hf => hg b fun e => HGF.out (e ▸ hf), owns_same HO5.out fun b hb => hg b fun e => HVG.out (e ▸ hb), owns_same HW5.out fun b hb => hg b fun e => HVWG.out (e ▸ hb), owns_same HC5.out fun b hb => hg b fun e => ?_, HF5.out.set _ (.inl rfl), World.size_setCell _ _ _⟩
      · unfold Blk at G5 ⊢
        rw [heap_set_same, G5]
        rfl
      · have := (HC5.out.lt b hb).1
        omega
    rintro w6 ⟨G6, hT6, hO6, hW6, hC6, hF6, hz6⟩
    have HT6 := Lib.hid hT6
    have HO6 := Lib.hid hO6
    have HW6 := Lib.hid hW6
    have HC6 := Lib.hid hC6
    have HF6 := Lib.hid hF6
    clear G5 f5 g5 HT5 HO5 HW5 HC5 HF5 hT6 hO6 hW6 hC6 hF6 HR3 HL3 HO3 HF3 HT3 HW3
    have lG6 := G6.lt
    go_wp2_with (go_in)
    (refine region_keep (fun b => b = gw) 6 [(0, true), (1, true), (2, true), (4, true), (5, true), (3, false)] (by kernel_rfl) (fun _ _ d _ _ h => by cases d <;> exact h) (by kernel_rfl) ?_; simp only [withOps, List.getElem?_toArray, List.getElem?_cons_zero, List.getElem?_cons_succ, List.drop_succ_cons, List.drop_zero])
    (iterate 5 (refine keep_quiet (v := ?_) rfl ?_ ?_; rotate_left; (focus (intro w' hw'; go_simp; (try with_reducible rfl); done)); try simp only [Act.put, List.setIfInBounds_toArray, List.set_cons_zero, List.set_cons_succ]))
    (with_reducible refine plan_loud (fun K hK => ?_))
    go_simp
    refine (Copy_any (HT6.out.same (w' := w6.drew) fun _ _ => rfl)).mono ?_
    rintro en w7 ⟨q', m', v', L', M', rfl, hN, hb7⟩
    refine hK _ _ (fun b hb => hb7.block b (by rw [hb]; exact lG6)) ?_
    clear hK K
    have HN7 := Lib.hid (show NewP w6.heap.size w7 q' m' v' L' M' L from hN)
    have HB7 := Lib.hid (show Below w6.heap.size w6 w7 from bnext (by go_grown) hb7)
    have G7 := G6.below HB7.out
    have s7 := HB7.out.size
    clear hN hb7
    have lG7 := G7.lt
    have f7 := G7.free k
    have g7 : w7.cell? ⟨gw, k, none⟩ = some (ptr q) := (G7.cell k).trans (by rw [Array.getElem?_setIfInBounds_ne (by omega), Array.getElem?_setIfInBounds_ne (by omega)]; exact ck)
    (with_reducible refine plan_end ?_)
    (try simp only [Act.put, List.setIfInBounds_toArray, List.set_cons_zero, List.set_cons_succ])
    go_upto_region 43 with (fail)
    (refine wp_at (fun w8 => w8 = w7.setCell ⟨gw, k, none⟩ (ptr q')) rfl ?_)
    intro w8 hw8
    have G8 : Blk w8 gw 45 (Array.setIfInBounds ((cs.setIfInBounds 4 (.slice (some ⟨go2, 0, none⟩) (no + 1) co2)).setIfInBounds 5 (.slice (some ⟨gw5, 0, none⟩) (no + 1) cw5)) k (ptr q')) := by
      rw [hw8]
      unfold Blk at G7 ⊢
      rw [heap_set_same, G7]
      rfl
    have h8 : ∀ b, b < w6.heap.size → b ≠ gw → w8.heap[b]? = w6.heap[b]? := fun b h1 h2 => by rw [hw8, heap_set_ne _ _ _ _ _ h2]; exact HB7.out.block b h1
    have s8 : w8.heap.size = w7.heap.size := by rw [hw8, World.size_setCell]
    have HE8 := Lib.hid (show w8.os = w6.os ∧ w8.tape = w6.tape ∧ w8.output = w6.output by rw [hw8]; exact ⟨HB7.out.os, HB7.out.tape, HB7.out.output⟩)
    have HF8 := Lib.hid HN7.out.2.2
    have HQ8 := Lib.hid (show Tq w8 q' m' v' L' M' from HN7.out.1.same fun b hf => by
      rw [hw8, heap_set_ne _ _ _ _ _ (fun e => by have := HN7.out.2.2 b hf; omega)])
    have HM8 := Lib.hid (show ∀ t, t ∈ L' ↔ t ∈ S from fun t => (HN7.out.2.1 t).trans (HX.out.mem t))
    have g8 : w8.cell? ⟨gw, k, none⟩ = some (ptr q') := (G8.cell k).trans (by rw [Array.getElem?_setIfInBounds_self_of_lt]; first | (simp only [Array.size_setIfInBounds]; omega) | omega)
    have lG8 := G8.lt
    clear hw8 f7 g7 G7
    go_wp2_with fail
    have hfin : CopyP w w8 B gw k cs ⟨q, m, v, L, M, S, .slice a S.length c⟩ no xsO xsW (.slice ao no co) (.slice aw no cw) := by
      refine ⟨⟨q', m', v', L', M', S, .slice a S.length c⟩, HQ8.out, HM8.out, rfl, rfl, fun b hb => by have := HF8.out b hb; omega, .inr ⟨hlt, .slice (some ⟨go2, 0, none⟩) (no + 1) co2, .slice (some ⟨gw5, 0, none⟩) (no + 1) cw5, .slice a4 n c4', G8, owns_same HO6.out fun b hb => h8 b (HO6.out.lt b hb).2 fun e => HVG.out (e ▸ hb), owns_same HW6.out fun b hb => h8 b (HW6.out.lt b hb).2 fun e => HVWG.out (e ▸ hb), ?_, ?_, ?_, ?_, ?_, ?_, ?_⟩⟩
      · dsimp only
        rw [HN.out]
        exact owns_mono (owns_same HC6.out fun b hb => h8 b (HC6.out.lt b hb).2 fun e => by have := (HC6.out.lt b hb).1; omega) szw
      · exact HVO.out.imp id fun h n hn => by have := h n hn; omega
      · exact HVW.out.imp id fun h n hn => by have := h n hn; omega
      · intro n hn hn2
        rcases HVW.out with h | h
        · rw [h] at hn2; exact HVOW.out n hn hn2
        · have := h n hn2
          rcases HVO.out with h3 | h3
          · rw [h3] at hn
            have := (HRO0.out.lt n hn).2
            omega
          · have h4 := (HO6.out.lt n hn).2
            have h5 := HV4.out n hn
            omega
      · intro n hn
        have h1 := (HC6.out.lt n hn).1
        have h2 := HC4.out n hn
        refine ⟨fun e => by have := HV4.out n e; omega, fun e => ?_, fun hf => by have := HF8.out n hf; have := (HC6.out.lt n hn).2; omega⟩
        rcases HVW.out with h | h
        · rw [h] at e
          have := hwl n e
          omega
        · have := h n e; omega
      · rintro n (hn | hn) hf
        · have := HF8.out n hf; have := (HO6.out.lt n hn).2; omega
        · have := HF8.out n hf; have := (HW6.out.lt n hn).2; omega
      · exact HF6.out.trans ⟨HE8.out.1, HE8.out.2.1, HE8.out.2.2, by omega, fun b hb hn => h8 b hb fun e => hn (.inl e)⟩
    go_returns
    exact ⟨rfl, hfin⟩
  · have hi : ¬ ((no : Int) < 20) := by omega
    go_upto_region 42 with (fail)
    (refine wp_at (fun w6 => Blk w6 gw 45 cs ∧ Tq w6 q m v L M ∧ Fr (fun b => b = gw) w w6 ∧ w6.heap.size = w1.heap.size) ⟨G1, HT1.out, Fr.next HB1.out, rfl⟩ ?_)
    rintro w6 ⟨G6, hT6, hF6, hz6⟩
    have HT6 := Lib.hid hT6
    have HF6 := Lib.hid hF6
    clear hT6 hF6 gq gl k4 k5
    have lG6 := G6.lt
    go_wp2_with (go_in)
    (refine region_keep (fun b => b = gw) 6 [(0, true), (1, true), (2, true), (4, true), (5, true), (3, false)] (by kernel_rfl) (fun _ _ d _ _ h => by cases d <;> exact h) (by kernel_rfl) ?_; simp only [withOps, List.getElem?_toArray, List.getElem?_cons_zero, List.getElem?_cons_succ, List.drop_succ_cons, List.drop_zero])
    (iterate 5 (refine keep_quiet (v := ?_) rfl ?_ ?_; rotate_left; (focus (intro w' hw'; go_simp; (try with_reducible rfl); done)); try simp only [Act.put, List.setIfInBounds_toArray, List.set_cons_zero, List.set_cons_succ]))
    (with_reducible refine plan_loud (fun K hK => ?_))
    go_simp
    refine (Copy_any (HT6.out.same (w' := w6.drew) fun _ _ => rfl)).mono ?_
    rintro en w7 ⟨q', m', v', L', M', rfl, hN, hb7⟩
    refine hK _ _ (fun b hb => hb7.block b (by rw [hb]; exact lG6)) ?_
    clear hK K
    have HN7 := Lib.hid (show NewP w6.heap.size w7 q' m' v' L' M' L from hN)
    have HB7 := Lib.hid (show Below w6.heap.size w6 w7 from bnext (by go_grown) hb7)
    have G7 := G6.below HB7.out
    have s7 := HB7.out.size
    clear hN hb7
    have lG7 := G7.lt
    have f7 := G7.free k
    have g7 : w7.cell? ⟨gw, k, none⟩ = some (ptr q) := (G7.cell k).trans (by exact ck)
    (with_reducible refine plan_end ?_)
    (try simp only [Act.put, List.setIfInBounds_toArray, List.set_cons_zero, List.set_cons_succ])
    go_upto_region 43 with (fail)
    (refine wp_at (fun w8 => w8 = w7.setCell ⟨gw, k, none⟩ (ptr q')) rfl ?_)
    intro w8 hw8
    have G8 : Blk w8 gw 45 (Array.setIfInBounds cs k (ptr q')) := by
      rw [hw8]
      unfold Blk at G7 ⊢
      rw [heap_set_same, G7]
      rfl
    have h8 : ∀ b, b < w6.heap.size → b ≠ gw → w8.heap[b]? = w6.heap[b]? := fun b h1 h2 => by rw [hw8, heap_set_ne _ _ _ _ _ h2]; exact HB7.out.block b h1
    have s8 : w8.heap.size = w7.heap.size := by rw [hw8, World.size_setCell]
    have HE8 := Lib.hid (show w8.os = w6.os ∧ w8.tape = w6.tape ∧ w8.output = w6.output by rw [hw8]; exact ⟨HB7.out.os, HB7.out.tape, HB7.out.output⟩)
    have HF8 := Lib.hid HN7.out.2.2
    have HQ8 := Lib.hid (show Tq w8 q' m' v' L' M' from HN7.out.1.same fun b hf => by
      rw [hw8, heap_set_ne _ _ _ _ _ (fun e => by have := HN7.out.2.2 b hf; omega)])
    have HM8 := Lib.hid (show ∀ t, t ∈ L' ↔ t ∈ S from fun t => (HN7.out.2.1 t).trans (HX.out.mem t))
    have g8 : w8.cell? ⟨gw, k, none⟩ = some (ptr q') := (G8.cell k).trans (by rw [Array.getElem?_setIfInBounds_self_of_lt]; first | (simp only [Array.size_setIfInBounds]; omega) | omega)
    have lG8 := G8.lt
    clear hw8 f7 g7 G7
    go_wp2_with fail
    have hfin : CopyP w w8 B gw k cs ⟨q, m, v, L, M, S, .slice a S.length c⟩ no xsO xsW (.slice ao no co) (.slice aw no cw) := by
      refine ⟨⟨q', m', v', L', M', S, .slice a S.length c⟩, HQ8.out, HM8.out, rfl, rfl, fun b hb => by have := HF8.out b hb; omega, .inl ⟨hge, G8, ?_⟩⟩
      exact HF6.out.trans ⟨HE8.out.1, HE8.out.2.1, HE8.out.2.2, by omega, fun b hb hn => h8 b hb hn⟩
    go_returns
    exact ⟨rfl, hfin⟩

end Go.Proofs.Ytlmmcffbpdfcjaa
