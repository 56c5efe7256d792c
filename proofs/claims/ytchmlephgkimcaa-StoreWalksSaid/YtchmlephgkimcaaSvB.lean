/- Store: StoreWalks: one going over, in whose rounds the map turns (frames laid out by mkfr.py). -/
import Derived.Test.YtchmlephgkimcaaSvA
import Derived.WalkMore
set_option linter.unusedSimpArgs false
set_option linter.unusedVariables false
namespace Go.Proofs.Ytchmlephgkimcaa
open Go.RowKit Go.Kp Go.St Go.Shelf
attribute [local go_sem] Oper.semAt_some
abbrev ptr (b : Nat) : Value := .pointer (some ⟨b, 0, none⟩)

set_option maxRecDepth 100000 in
set_option maxHeartbeats 16000000 in
theorem over_any (Q : Exit → Act → World → Prop) {w : World} {wh : Int} {q g r b5 b7 b8 b12 b15 bn N0 ns at_ B : Nat} {t : Tr} (sa : Option Addr) (caps : Nat) (sc : List Opr) (ds : List Deferred) {S' : World → Prop} {id' : Nat} {caps' : Array Value} {p : Int → Bool} {back : Bool} {bm bb bo : Nat} {av : Option Addr} {cv : Nat} {L : List (Int × Int)} {u0 u1 u2 u3 u4 u6 u9 u10 u11 u13 u14 u17 u18 u19 u20 u21 u22 u23 u24 u25 u26 u27 u28 u29 u30 u31 u32 u33 u34 u35 u36 u37 u38 u39 u40 u41 u42 u43 u44 u45 u46 u47 u48 u49 u50 u51 u52 u53 u54 u55 u56 u57 u58 u59 u60 u61 u62 u63 u64 u65 u66 u67 u68 u69 u70 u71 u72 u73 u74 u75 u76 u77 u78 u79 u80 u81 u82 u83 u84 u85 u86 u87 u88 u89 u90 u91 u92 u93 u94 u95 u96 u97 u98 u99 u100 u101 u102 u103 u104 u105 u106 u107 u109 u110 u111 u112 u113 u114 u115 u116 u117 u118 u119 u120 u121 u122 u123 u124 u125 u126 u127 u128 u129 u130 u131 u132 u133 u134 u135 u136 u137 u138 u139 u140 u141 u142 u143 u144 u145 u146 u147 u148 u149 u150 u151 u152 u153 u154 u155 u156 u157 u158 u159 u160 u161 u162 u163 u164 u165 u166 u167 u168 : Value}
    (hB : Bm wh w q g r t) (hm : t.many ≤ N0 + min at_ ns) (hN : N0 + ns ≤ 4000000000000) (hat : at_ ≤ 60000000000000)
    (c5 : Blk w b5 23 #[.slice sa ns caps]) (c7 : Blk w b7 24 #[ptr g]) (c8 : Blk w b8 26 #[ptr r]) (c12 : Blk w b12 3 #[.int .i64 (at_ : Int)])
    (c15 : Blk w b15 27 #[.slice av L.length cv]) (cn : Blk w bn 3 #[.int .i64 0]) (hqn : q ≠ bn) (hqc : q ≠ b12) (hcn : b12 ≠ bn)
    (hrow : RowAt w av L) (hL : L = told p back t) (hmo : Mono p back t) (hW : Wk S' id' caps' p back g bm bb bo w) (hS : ∀ W' t', Fr (WkM g r b12 bn w.heap.size) w W' → Bm wh W' q g r t' → S' W')
    (hsl : sc.length = ns) (hsr : Rd w B sa (sc.flatMap Opr.cells)) (hBo : B ≤ g ∧ B ≤ r ∧ B ≤ b12 ∧ B ≤ bn ∧ B ≤ w.heap.size)
    (hK : ∀ (W' : World) (D : Nat), WkC wh q g r b12 bn N0 ns at_ w L.length W' → W'.heap[D]? = some (.deferred (some [])) → D = w.heap.size → Q .normal { tmps := #[u0, u1, u2, u3, u4, ptr b5, u6, ptr b7, ptr b8, u9, u10, u11, ptr b12, u13, u14, ptr b15, ptr bn, u17, u18, u19, u20, u21, u22, u23, u24, u25, u26, u27, u28, u29, u30, u31, u32, u33, u34, u35, u36, u37, u38, u39, u40, u41, u42, u43, u44, u45, u46, u47, u48, u49, u50, u51, u52, u53, u54, u55, u56, u57, u58, u59, u60, u61, u62, u63, u64, u65, u66, u67, u68, u69, u70, u71, u72, u73, u74, u75, u76, u77, u78, u79, u80, u81, u82, u83, u84, u85, u86, u87, u88, u89, u90, u91, u92, u93, u94, u95, u96, u97, u98, u99, u100, u101, u102, u103, u104, u105, u106, u107, wkV bm bb bo, u109, u110, u111, u112, u113, u114, u115, u116, u117, u118, u119, u120, u121, u122, u123, u124, u125, u126, u127, u128, u129, u130, u131, u132, u133, u134, u135, u136, u137, u138, u139, u140, u141, u142, u143, u144, u145, u146, u147, u148, u149, u150, u151, u152, u153, u154, u155, u156, u157, u158, u159, u160, u161, u162, u163, u164, u165, u166, u167, u168], defers := { target := .collected D, args := #[] } :: ds } W') :
    (theBlock Try.f3 4).wp Try.prog Q { tmps := #[u0, u1, u2, u3, u4, ptr b5, u6, ptr b7, ptr b8, u9, u10, u11, ptr b12, u13, u14, ptr b15, ptr bn, u17, u18, u19, u20, u21, u22, u23, u24, u25, u26, u27, u28, u29, u30, u31, u32, u33, u34, u35, u36, u37, u38, u39, u40, u41, u42, u43, u44, u45, u46, u47, u48, u49, u50, u51, u52, u53, u54, u55, u56, u57, u58, u59, u60, u61, u62, u63, u64, u65, u66, u67, u68, u69, u70, u71, u72, u73, u74, u75, u76, u77, u78, u79, u80, u81, u82, u83, u84, u85, u86, u87, u88, u89, u90, u91, u92, u93, u94, u95, u96, u97, u98, u99, u100, u101, u102, u103, u104, u105, u106, u107, wkV bm bb bo, u109, u110, u111, u112, u113, u114, u115, u116, u117, u118, u119, u120, u121, u122, u123, u124, u125, u126, u127, u128, u129, u130, u131, u132, u133, u134, u135, u136, u137, u138, u139, u140, u141, u142, u143, u144, u145, u146, u147, u148, u149, u150, u151, u152, u153, u154, u155, u156, u157, u158, u159, u160, u161, u162, u163, u164, u165, u166, u167, u168], defers := ds } w := by
  simp only [theBlock, Try.f3, blockOf, Nat.reduceEqDiff, if_false, if_true, reduceCtorEq, ite_false, ite_true, Option.getD_some]
  have HB := Lib.hid hB
  have HC5 := Lib.hid c5
  have HC7 := Lib.hid c7
  have HC8 := Lib.hid c8
  have HC15 := Lib.hid c15
  have HC12 := Lib.hid c12
  have HCN := Lib.hid cn
  have HNE := Lib.hid (And.intro hqn (And.intro hqc hcn))
  have HROW := Lib.hid hrow
  have HLT := Lib.hid hL
  have HMO := Lib.hid hmo
  have HW := Lib.hid hW
  have HS := Lib.hid hS
  have HSL := Lib.hid hsl
  have HSR := Lib.hid hsr
  have HBO := Lib.hid hBo
  have HKK := Lib.hid hK
  have HTL := Lib.hid (told_len p back t)
  have HM := Lib.hid hm
  clear hB hm c5 c7 c8 c12 c15 cn hqn hqc hcn hrow hL hmo hW hS hsl hsr hBo hK
  obtain ⟨n, hn⟩ : ∃ n, L.length = n := ⟨_, rfl⟩
  have hnle : n ≤ 4000000000000 := by rw [← hn, HLT.out]; have := HTL.out; have := HM.out; omega
  have HNL := Lib.hid hn
  clear hn
  have HLTS := Lib.hid (show ∀ b, b = g ∨ b = r ∨ b = b12 ∨ b = bn → b < w.heap.size by
    obtain ⟨⟨cg, hg⟩, ⟨cr, hr⟩, hq⟩ := HB.out.gblk
    rintro b (rfl | rfl | rfl | rfl)
    · exact hg.lt
    · exact hr.lt
    · exact HC12.out.lt
    · exact HCN.out.lt)
  go_wp2_with fail
  refine (wpIn_wide (n := 6)).1 ?_
  refine wpIn_rangeFunc_L rfl (by decide) (gf := 66) (lb := #[.pointer (some ⟨bm, 0, none⟩), .pointer (some ⟨bb, 0, none⟩), .pointer (some ⟨bo, 0, none⟩)]) rfl trivial (enters_of Try.func66 (by kernel_rfl) rfl)
    (encs := wkArgs) (T := WkT L) (S := fun xs => xs = L) (Sp := fun _ => True) (Pf := fun _ => False) (Ro := fun _ => False) (K := WkK S' w bb bo back id' caps')
    (fun W' hW' => by
      obtain ⟨ra, hg, ht⟩ := HB.out.own.cells
      rw [HLT.out]
      exact walk_seq _ HW.out.out bm bb bo g back t ra _ ⟨_, _, rfl⟩ (HW.out.bm.below hW') (hg.below hW') ht HMO.out (by have := HM.out; omega))
    (fun _ h => h.elim) (fun _ h => h.elim) (fun _ => rfl)
    (fun pre Pv W => WkI wh q g r b12 bn N0 ns at_ w pre.length Pv W)
    (fun c pre Pv W => False)
    ?stab ?stabx ?keep ?start ?round ?done ?stop
  case stab => exact fun pre Pv Pv' W W' hI hf hP => hI.stab hf hP
  case stabx => exact fun _ _ _ _ _ _ h => h.elim
  case stop => exact fun _ _ _ _ _ _ _ h => h.elim
  case start => exact wki_start HB.out HM.out HC12.out HCN.out
  case keep =>
    intro pre Pv W hI
    have hC := hI.core
    obtain ⟨t', h1, h2⟩ := hC.st
    obtain ⟨⟨cg, hg⟩, ⟨cr, hr⟩, hq⟩ := HB.out.gblk
    have keep : ∀ b ty cs, Blk w b ty cs → ty ≠ 75 → ty ≠ 29 → ty ≠ 3 → W.heap[b]? = w.heap[b]? := fun b ty cs hB n1 n2 n3 => by
      refine hC.fr.block b hB.lt fun hh => ?_
      rcases hh with rfl | rfl | rfl | rfl | hh
      · exact blk_types hB hg n1 rfl
      · exact blk_types hB hr n2 rfl
      · exact blk_types hB HC12.out n3 rfl
      · exact blk_types hB HCN.out n3 rfl
      · have := hB.lt; omega
    exact ⟨HS.out W t' hC.fr h1, hC.fr.size, fun b cs hB => keep _ _ _ hB (by decide) (by decide) (by decide), (keep _ _ _ HW.out.bb (by decide) (by decide) (by decide)).trans HW.out.bb, (keep _ _ _ HW.out.bo (by decide) (by decide) (by decide)).trans HW.out.bo⟩
  case done =>
    rintro D xs Pv W hD rfl hI hK
    gi_wp2_with fail
    exact HKK.out _ _ hI.core hK hD
  case round =>
    rintro rl pre x Pv W hrl hrs hp1 hp2 hrec hdef hI ⟨⟨R, hSR⟩, hPl⟩
    subst hrl
    obtain ⟨k, hk⟩ : ∃ k, pre.length = k := ⟨_, rfl⟩
    have hx : L[k]? = some x := by rw [hSR, ← hk]; simp
    have hkn : k < n := by rw [← HNL.out]; exact (List.getElem?_eq_some_iff.1 hx).1
    rw [hk] at hI
    have HI := Lib.hid hI
    have HPL := Lib.hid hPl
    have HREC := Lib.hid hrec
    have HDEF := Lib.hid hdef
    have HRS := Lib.hid hrs
    have HP1 := Lib.hid hp1
    have HKP := Lib.hid hk
    clear hrec hdef hPl hSR hI hrs hp1 hp2 hk
    obtain ⟨xk, xv⟩ := x
    dsimp only [wkArgs]
    gi_wp2_with fail
    refine ⟨trivial, trivial, fun W2 hO hlr => ?_⟩
    have HLR := Lib.hid hlr
    have HO := Lib.hid hO
    have hC2 := HI.out.busy hO
    have hz2 := hC2.fr.size
    have same : ∀ b ty cs, Blk w b ty cs → ty ≠ 75 → ty ≠ 29 → ty ≠ 3 → Blk W2 b ty cs := fun b ty cs hB n1 n2 n3 => by
      obtain ⟨⟨cg, hg⟩, ⟨cr, hr⟩, hq⟩ := HB.out.gblk
      refine (hC2.fr.block b hB.lt fun hh => ?_).trans hB
      rcases hh with rfl | rfl | rfl | rfl | hh
      · exact blk_types hB hg n1 rfl
      · exact blk_types hB hr n2 rfl
      · exact blk_types hB HC12.out n3 rfl
      · exact blk_types hB HCN.out n3 rfl
      · have := hB.lt; omega
    have D5 := same _ _ _ HC5.out (by decide) (by decide) (by decide)
    have D7 := same _ _ _ HC7.out (by decide) (by decide) (by decide)
    have D8 := same _ _ _ HC8.out (by decide) (by decide) (by decide)
    have D15 := same _ _ _ HC15.out (by decide) (by decide) (by decide)
    have HSA := Lib.hid same
    clear same
    obtain ⟨vb, vo, vcs, rfl, hvb, hvc⟩ : ∃ b off cs, av = some ⟨b, off, none⟩ ∧ Blk w b 43 cs ∧ ∀ j u, (prs L)[j]? = some u → cs[off + j]? = some u := by
      rcases HROW.out with h | h
      · rw [h] at hx; simp at hx
      · exact h
    have hvb2 := HSA.out _ _ _ hvb (by decide) (by decide) (by decide)
    have e0 : W2.cell? ⟨vb, vo + k * 2, none⟩ = some (.int .i64 xk) := (hvb2.cell _).trans (hvc _ _ (prs_at hx).1)
    have e1 : W2.cell? ⟨vb, vo + k * 2 + 1, none⟩ = some (.int .i64 xv) := (hvb2.cell _).trans (by rw [Nat.add_assoc]; exact hvc _ _ (prs_at hx).2)
    have d5 := D5.cell 0
    have d7 := D7.cell 0
    have d8 := D8.cell 0
    have d15 := D15.cell 0
    rw [HNL.out] at d15
    have l5 := D5.lt
    have l7 := D7.lt
    have l8 := D8.lt
    have l15 := D15.lt
    have ct := hC2.ct.cell 0
    have cf := hC2.ct.free 0
    have cl := hC2.ct.lt
    have nt := hC2.n.cell 0
    have nf := hC2.n.free 0
    have nl := hC2.n.lt
    simp only [List.getElem?_toArray, List.getElem?_cons_zero] at d5 d7 d8 d15 ct nt
    have HC2 := Lib.hid hC2
    have n5 : ¬ b5 = bn := blk_types D5 hC2.n (by decide)
    have n7 : ¬ b7 = bn := blk_types D7 hC2.n (by decide)
    have n8 : ¬ b8 = bn := blk_types D8 hC2.n (by decide)
    have n12 : ¬ b12 = bn := HNE.out.2.2
    have hd : decide (n ≤ k) = false := by simp; omega
    have hk' : ¬ (n : Int) ≤ k := by omega
    have HD5 := Lib.hid D5
    have HD7 := Lib.hid D7
    have HD8 := Lib.hid D8
    clear hO hlr hC2 hvb hvc hvb2 D5 D7 D8 D15 hx
    generalize hak : at_ + k = ak at *
    have hakn : ak ≤ 64000000000000 := by omega
    have HAK := Lib.hid hak
    clear hak
    rcases Nat.lt_or_ge ak ns with hal | hag
    · obtain ⟨z, hz⟩ : ∃ z, sc[ak]? = some z := ⟨_, List.getElem?_eq_getElem (by rw [HSL.out]; exact hal)⟩
      have hbW : Below B w W2 := HC2.out.fr.below (fun b hb => by
        have hbo := HBO.out
        rcases hb with rfl | rfl | rfl | rfl | hb
        · exact hbo.1
        · exact hbo.2.1
        · exact hbo.2.2.1
        · exact hbo.2.2.2.1
        · omega) HBO.out.2.2.2.2
      obtain ⟨sb, so, rfl, hsb, hsc⟩ := opr_at (HSR.out.below hbW) hz
      have hsW : sb < W2.heap.size := by have := HBO.out.2.2.2.2; omega
      have hsn : ¬ sb = bn := by have := HBO.out.2.2.2.1; omega
      have hal' : decide (ak < ns) = true := by simp; omega
      have hal2 : (ak : Int) < ns := by omega
      have b0 := hsc 0 (by omega)
      have b1 := hsc 1 (by omega)
      have b2 := hsc 2 (by omega)
      have b3 := hsc 3 (by omega)
      have b4 := hsc 4 (by omega)
      have b5' := hsc 5 (by omega)
      simp only [Opr.cells, Nat.add_zero, List.getElem?_cons_zero, List.getElem?_cons_succ] at b0 b1 b2 b3 b4 b5'
      clear hz hbW hsc
      rcases Decidable.em (z.k = 10) with h10 | h10
      · rw [h10] at b0
        clear h10
        gi_wp2_with fail
        (refine region_keep_round _ _ (fun _ => True) 19 [(0, true), (1, true), (2, true), (3, true), (4, true), (5, true), (6, true), (7, true), (8, true), (9, true), (10, true), (11, true), (12, true), (13, true), (14, true), (15, true), (16, true), (17, true), (18, true)] (by kernel_rfl) (by kernel_rfl) (fun _ _ d _ _ h => by cases d <;> exact h) (by kernel_rfl) ?_; simp only [withOps, List.getElem?_toArray, List.getElem?_cons_zero, List.getElem?_cons_succ, List.drop_succ_cons, List.drop_zero])
        (iterate 13 (refine keep_quiet (v := ?_) rfl ?_ ?_; rotate_left; (focus (intro w' hw'; go_simp; (try with_reducible rfl); done)); try simp only [Act.put, List.setIfInBounds_toArray, List.set_cons_zero, List.set_cons_succ]))
        (iterate 6 ((with_reducible refine plan_skip ?_ ?_); (focus rfl); try simp only [Act.put, List.setIfInBounds_toArray, List.set_cons_zero, List.set_cons_succ]))
        (with_reducible refine plan_end ?_)
        (try simp only [Act.put, List.setIfInBounds_toArray, List.set_cons_zero, List.set_cons_succ])
        go_wp2_with fail
        simp only [noOut_normal, Exit.then]
        go_at_K
        gi_wp2_with fail
        obtain ⟨t', hB2, hm2⟩ := HC2.out.st
        have hm3 := HAK.out
        refine over_fin (k := k) HKP.out HI.out HO.out HLR.out HPL.out HP1.out HRS.out HLTS.out (HC2.out.round HNE.out.1 HNE.out.2.1 HNE.out.2.2 (W3 := W2.setCell ⟨bn, 0, none⟩ (.int .i64 ((k + 1 : Nat) : Int))) (W4 := (W2.setCell ⟨bn, 0, none⟩ (.int .i64 ((k + 1 : Nat) : Int))).drew) (t'' := t') ?_ ?_ rfl ((Fr.refl _ _).drew) ?_) ?_
        · exact Bm.most (w := W2) hB2 (heap_set_ne _ _ _ _ _ HNE.out.1) fun b ty cs hb hty => heap_set_ne _ _ _ _ _ (blk_types hb HC2.out.n (by rcases hty with rfl | rfl | rfl | rfl <;> decide))
        · omega
        · have e1 : ((k + 1 : Nat) : Int) = (k : Int) + 1 := by omega
          have e2 : ((at_ + (k + 1) : Nat) : Int) = (ak : Int) + 1 := by omega
          rw [e1, e2]
          rfl
        · exact (((Fr.refl _ _).set _ (.inr (.inr (.inr rfl)))).set _ (.inr (.inr (.inl rfl)))).drew
      · have hz10 : (z.k != 10) = true := by simpa using h10
        have h10' : ¬ z.k = 10 := h10
        clear h10
        gi_wp2_with fail
        (refine region_keep_round _ _ (fun _ => True) 19 [(0, true), (1, true), (2, true), (3, true), (4, true), (5, true), (6, true), (7, true), (8, true), (9, true), (10, true), (11, true), (12, true), (13, true), (14, true), (15, true), (16, true), (17, true), (18, true)] (by kernel_rfl) (by kernel_rfl) (fun _ _ d _ _ h => by cases d <;> exact h) (by kernel_rfl) ?_; simp only [withOps, List.getElem?_toArray, List.getElem?_cons_zero, List.getElem?_cons_succ, List.drop_succ_cons, List.drop_zero])
        (iterate 19 (refine keep_quiet (v := ?_) rfl ?_ ?_; rotate_left; (focus (intro w' hw'; go_simp; (try with_reducible rfl); done)); try simp only [Act.put, List.setIfInBounds_toArray, List.set_cons_zero, List.set_cons_succ]))
        (with_reducible refine plan_end ?_)
        (try simp only [Act.put, List.setIfInBounds_toArray, List.set_cons_zero, List.set_cons_succ])
        go_wp2_with fail
        obtain ⟨t', hB2, hm2⟩ := HC2.out.st
        have hm3 := HAK.out
        have e1 : ((k + 1 : Nat) : Int) = (k : Int) + 1 := by omega
        have e2 : ((at_ + (k + 1) : Nat) : Int) = (ak : Int) + 1 := by omega
        have E1 := Lib.hid e1
        have E2 := Lib.hid e2
        have hB3 : Bm wh (W2.setCell ⟨bn, 0, none⟩ (.int .i64 ((k : Int) + 1))).drew q g r t' := Bm.most (w := W2) hB2 (heap_set_ne _ _ _ _ _ HNE.out.1) fun b ty cs hb hty => heap_set_ne _ _ _ _ _ (blk_types hb HC2.out.n (by rcases hty with rfl | rfl | rfl | rfl <;> decide))
        refine (step_any hB3 z.k z.on z.tw z.key z.val z.n (by omega)).mono ?_
        rintro en W4 ⟨rfl, t'', hB4, hm4, hT4⟩
        obtain ⟨⟨cg, hg3⟩, ⟨cr, hr3⟩, _⟩ := hB3.gblk
        have c3 : Blk (W2.setCell ⟨bn, 0, none⟩ (.int .i64 ((k : Int) + 1))).drew b12 3 #[.int .i64 (ak : Int)] := by
          have h := HC2.out.ct
          rw [HAK.out] at h
          exact blk_setNe h HNE.out.2.2
        have c4 := (blk_stays hg3 hr3 hT4 c3 (fun e => absurd e (by decide)) (fun e => absurd e (by decide))).trans c3
        have c4c := Blk.cell c4 0
        have c4f := Blk.free c4 0
        have c4l := Blk.lt c4
        simp only [List.getElem?_toArray, List.getElem?_cons_zero] at c4c
        have HB4 := Lib.hid hB4
        have HT4 := Lib.hid hT4
        have HM4 := Lib.hid (show t''.many ≤ N0 + min (at_ + (k + 1)) ns by omega)
        clear hB4 hT4 hm4 hB3 hg3 hr3 c3 c4 e1 e2 hB2 hm2 hm3
        go_wp2_with fail
        simp only [noOut_normal, Exit.then]
        go_at_K
        gi_wp2_with fail
        have e1 := E1.out
        have e2 := E2.out
        refine over_fin (k := k) HKP.out HI.out HO.out HLR.out HPL.out HP1.out HRS.out HLTS.out (HC2.out.round HNE.out.1 HNE.out.2.1 HNE.out.2.2 (W3 := W2.setCell ⟨bn, 0, none⟩ (.int .i64 ((k + 1 : Nat) : Int))) (W4 := W4) (t'' := t'') HB4.out HM4.out rfl ?_ ?_) ?_
        · rw [e1]
          exact ((Fr.refl _ _).drew).trans HT4.out
        · rw [e2]
        · exact (((Fr.refl _ _).set _ (.inr (.inr (.inr rfl)))).trans (((Fr.refl _ _).drew).trans (HT4.out.mono fun b _ h => h.elim .inl fun h => .inr (.inl h)))).set _ (.inr (.inr (.inl rfl)))
    · have hal' : decide (ak < ns) = false := by simp; omega
      have hal2 : ¬ (ak : Int) < ns := by omega
      gi_wp2_with fail
      (refine region_keep_round _ _ (fun _ => True) 19 [(0, true), (1, true), (2, true), (3, true), (4, true), (5, true), (6, true), (7, true), (8, true), (9, true), (10, true), (11, true), (12, true), (13, true), (14, true), (15, true), (16, true), (17, true), (18, true)] (by kernel_rfl) (by kernel_rfl) (fun _ _ d _ _ h => by cases d <;> exact h) (by kernel_rfl) ?_; simp only [withOps, List.getElem?_toArray, List.getElem?_cons_zero, List.getElem?_cons_succ, List.drop_succ_cons, List.drop_zero])
      (iterate 5 (refine keep_quiet (v := ?_) rfl ?_ ?_; rotate_left; (focus (intro w' hw'; go_simp; (try with_reducible rfl); done)); try simp only [Act.put, List.setIfInBounds_toArray, List.set_cons_zero, List.set_cons_succ]))
      (iterate 6 ((with_reducible refine plan_skip ?_ ?_); (focus rfl); try simp only [Act.put, List.setIfInBounds_toArray, List.set_cons_zero, List.set_cons_succ]))
      (iterate 2 (refine keep_quiet (v := ?_) rfl ?_ ?_; rotate_left; (focus (intro w' hw'; go_simp; (try with_reducible rfl); done)); try simp only [Act.put, List.setIfInBounds_toArray, List.set_cons_zero, List.set_cons_succ]))
      (iterate 6 ((with_reducible refine plan_skip ?_ ?_); (focus rfl); try simp only [Act.put, List.setIfInBounds_toArray, List.set_cons_zero, List.set_cons_succ]))
      (with_reducible refine plan_end ?_)
      (try simp only [Act.put, List.setIfInBounds_toArray, List.set_cons_zero, List.set_cons_succ])
      go_wp2_with fail
      simp only [noOut_normal, Exit.then]
      go_at_K
      gi_wp2_with fail
      obtain ⟨t', hB2, hm2⟩ := HC2.out.st
      have hm3 := HAK.out
      refine over_fin (k := k) HKP.out HI.out HO.out HLR.out HPL.out HP1.out HRS.out HLTS.out (HC2.out.round HNE.out.1 HNE.out.2.1 HNE.out.2.2 (W3 := W2.setCell ⟨bn, 0, none⟩ (.int .i64 ((k + 1 : Nat) : Int))) (W4 := (W2.setCell ⟨bn, 0, none⟩ (.int .i64 ((k + 1 : Nat) : Int))).drew) (t'' := t') ?_ ?_ rfl ((Fr.refl _ _).drew) ?_) ?_
      · exact Bm.most (w := W2) hB2 (heap_set_ne _ _ _ _ _ HNE.out.1) fun b ty cs hb hty => heap_set_ne _ _ _ _ _ (blk_types hb HC2.out.n (by rcases hty with rfl | rfl | rfl | rfl <;> decide))
      · omega
      · have e1 : ((k + 1 : Nat) : Int) = (k : Int) + 1 := by omega
        have e2 : ((at_ + (k + 1) : Nat) : Int) = (ak : Int) + 1 := by omega
        rw [e1, e2]
        rfl
      · exact (((Fr.refl _ _).set _ (.inr (.inr (.inr rfl)))).set _ (.inr (.inr (.inl rfl)))).drew
end Go.Proofs.Ytchmlephgkimcaa
