/- Store: StoreWalks: the three turns (printed by mksvd.py). -/
import Derived.Test.YtchmlephgkimcaaSvC
import Derived.WalkMore
import Derived.Deep.CutBlock
set_option linter.unusedSimpArgs false
set_option linter.unusedVariables false
namespace Go.Proofs.Ytchmlephgkimcaa
open Go.RowKit Go.Kp Go.St Go.Shelf
attribute [local go_sem] Oper.semAt_some

theorem row_of_ref {w : World} {wh : Int} {r : Nat} {L : List (Int × Int)} (h : RefAt w wh r L) : ∃ a cap, Blk w r 29 #[.int .i64 wh, .slice a L.length cap] ∧ RowAt w a L ∧ (a = none → cap = 0) := by
  obtain ⟨a, cap, h1, h2, _, _, h3⟩ := h
  exact ⟨a, cap, h1, h2, h3⟩

set_option maxRecDepth 100000 in
set_option maxHeartbeats 16000000 in
theorem turn0_any (Q : Exit → Act → World → Prop) {w : World} {wh fm : Int} {q g r b5 b7 b8 b11 b12 N0 ns at_ B : Nat} {y : Ws} {t : Tr} (tv : Int) (hj : tv.tmod 3 = 0) (sa : Option Addr) (caps : Nat) (sc : List Opr) (ds : List Deferred) {u0 u1 u2 u3 u4 u6 u9 u14 u15 u16 u17 u18 u19 u20 u21 u22 u23 u24 u25 u26 u27 u28 u29 u30 u31 u32 u33 u34 u35 u36 u37 u38 u39 u40 u41 u42 u43 u44 u45 u46 u47 u48 u49 u50 u51 u52 u53 u54 u55 u56 u57 u58 u59 u60 u61 u62 u63 u64 u65 u66 u67 u68 u69 u70 u71 u72 u73 u74 u75 u76 u77 u78 u79 u80 u81 u82 u83 u84 u85 u86 u87 u88 u89 u90 u91 u92 u93 u94 u95 u96 u97 u98 u99 u100 u101 u102 u103 u104 u105 u106 u107 u108 u109 u110 u111 u112 u113 u114 u115 u116 u117 u118 u119 u120 u121 u122 u123 u124 u125 u126 u127 u128 u129 u130 u131 u132 u133 u134 u135 u136 u137 u138 u139 u140 u141 u142 u143 u144 u145 u146 u147 u148 u149 u150 u151 u152 u153 u154 u155 u156 u157 u158 u159 u160 u161 u162 u163 u164 u165 u166 u167 u168 : Value}
    (hB : Bm wh w q g r t) (hm : t.many ≤ N0 + min at_ ns) (hN : N0 + ns ≤ 4000000000000) (hat : at_ ≤ 60000000000000)
    (hS : StS wh fm q g r b5 b7 b8 b11 b12 y (.slice sa ns caps) w) (c12 : Blk w b12 3 #[.int .i64 (at_ : Int)])
    (hsl : sc.length = ns) (hsr : Rd w B sa (sc.flatMap Opr.cells)) (hBo : B ≤ g ∧ B ≤ r ∧ B ≤ b12 ∧ B ≤ w.heap.size)
    (hK : ∀ (x14 x15 x16 x82 x83 x84 x85 x86 x87 x88 x89 x90 x91 x92 x93 x94 x95 x96 x97 x98 x99 x100 x101 x102 x103 x104 x105 x106 x107 x108 x159 x160 x161 x162 : Value) (w' : World) (D : Nat), TurnP wh q g r b12 N0 ns at_ w w' D → Q .normal { tmps := #[u0, u1, u2, u3, u4, ptr b5, u6, ptr b7, ptr b8, u9, .int .i64 fm, ptr b11, ptr b12, .int .i64 tv, x14, x15, x16, u17, u18, u19, u20, u21, u22, u23, u24, u25, u26, u27, u28, u29, u30, u31, u32, u33, u34, u35, u36, u37, u38, u39, u40, u41, u42, u43, u44, u45, u46, u47, u48, u49, u50, u51, u52, u53, u54, u55, u56, u57, u58, u59, u60, u61, u62, u63, u64, u65, u66, u67, u68, u69, u70, u71, u72, u73, u74, u75, u76, u77, u78, u79, u80, u81, x82, x83, x84, x85, x86, x87, x88, x89, x90, x91, x92, x93, x94, x95, x96, x97, x98, x99, x100, x101, x102, x103, x104, x105, x106, x107, x108, u109, u110, u111, u112, u113, u114, u115, u116, u117, u118, u119, u120, u121, u122, u123, u124, u125, u126, u127, u128, u129, u130, u131, u132, u133, u134, u135, u136, u137, u138, u139, u140, u141, u142, u143, u144, u145, u146, u147, u148, u149, u150, u151, u152, u153, u154, u155, u156, u157, u158, x159, x160, x161, x162, u163, u164, u165, u166, u167, u168], defers := { target := .collected D, args := #[] } :: ds } w') :
    (theBlock Try.f3 3).wp Try.prog Q { tmps := #[u0, u1, u2, u3, u4, ptr b5, u6, ptr b7, ptr b8, u9, .int .i64 fm, ptr b11, ptr b12, .int .i64 tv, u14, u15, u16, u17, u18, u19, u20, u21, u22, u23, u24, u25, u26, u27, u28, u29, u30, u31, u32, u33, u34, u35, u36, u37, u38, u39, u40, u41, u42, u43, u44, u45, u46, u47, u48, u49, u50, u51, u52, u53, u54, u55, u56, u57, u58, u59, u60, u61, u62, u63, u64, u65, u66, u67, u68, u69, u70, u71, u72, u73, u74, u75, u76, u77, u78, u79, u80, u81, u82, u83, u84, u85, u86, u87, u88, u89, u90, u91, u92, u93, u94, u95, u96, u97, u98, u99, u100, u101, u102, u103, u104, u105, u106, u107, u108, u109, u110, u111, u112, u113, u114, u115, u116, u117, u118, u119, u120, u121, u122, u123, u124, u125, u126, u127, u128, u129, u130, u131, u132, u133, u134, u135, u136, u137, u138, u139, u140, u141, u142, u143, u144, u145, u146, u147, u148, u149, u150, u151, u152, u153, u154, u155, u156, u157, u158, u159, u160, u161, u162, u163, u164, u165, u166, u167, u168], defers := ds } w := by
  simp only [theBlock, Try.f3, blockOf, Nat.reduceEqDiff, if_false, if_true, reduceCtorEq, ite_false, ite_true, Option.getD_some]
  have HB := Lib.hid hB
  have HM := Lib.hid hm
  have HS := Lib.hid hS
  have HC12 := Lib.hid c12
  have HSL := Lib.hid hsl
  have HSR := Lib.hid hsr
  have HBO := Lib.hid hBo
  have HKK := Lib.hid hK
  have c8 := hS.c8.cell 0
  have c11 := hS.c11.cell 0
  have l8 := hS.c8.lt
  have l11 := hS.c11.lt
  simp only [List.getElem?_toArray, List.getElem?_cons_zero, List.getElem?_cons_succ] at c8 c11
  have hfn := wk_nil #[.pointer (some ⟨y.bm0, 0, none⟩), .pointer (some ⟨y.bb0, 0, none⟩), .pointer (some ⟨y.bo0, 0, none⟩)]
  obtain ⟨ra, rc, hrb, hrr, hrn⟩ := row_of_ref hB.ref
  have HRR := Lib.hid hrr
  have HRN := Lib.hid hrn
  have hty : t.toL.length = t.many := (T.many_len t).symm
  rw [hty] at hrb
  have HTY := Lib.hid hty
  have c1 := hrb.cell 1
  have lr := hrb.lt
  simp only [List.getElem?_toArray, List.getElem?_cons_zero, List.getElem?_cons_succ] at c1
  clear hB hm hS c12 hsl hsr hBo hK hrb hrr hrn hty
  go_upto_region 22 with (fail)
  clear hfn
  apply wp_region_lit
  iterate 5 (go_step; go_step; rename_i KK hKK; (with_reducible refine hKK _ _ ?_); clear hKK KK)
  refine append_prs rfl (.tmp 88) (.tmp 92) rfl w.heap.size _ 0 [] rfl (own_empty w) ra t.many rc t.toL rfl HRN.out HTY.out (HRR.out.below (show Below w.heap.size w (w.alloc (.cells #[] 43)) by go_grown)).rd (by have := HM.out; omega) (by simp) ?_
  intro v2 w2 ho2 hg2 _
  rw [Nat.zero_add, List.nil_append] at ho2
  have hb2 : Below w.heap.size w w2 := (show Below w.heap.size w (w.alloc (.cells #[] 43)) by go_grown).grown hg2 (by simp) (fun k hk => by cases hk; exact Nat.le_refl _)
  obtain ⟨a2, c2, rfl, hr2, _, _, hn2⟩ := RowAt.of_own ho2
  have hty2 := HTY.out
  rw [hty2]
  have HR2 := Lib.hid hr2
  have HB2 := Lib.hid hb2
  have S2 := Lib.hid (HS.out.below HB.out HC12.out hb2)
  have M2 := Lib.hid (HB.out.below hb2)
  clear ho2 hg2 hb2 hr2 hn2 hty2 c8 c11 c1 l8 l11 lr
  (try simp only [Act.put, List.setIfInBounds_toArray, List.set_cons_zero, List.set_cons_succ])
  go_upto_block 4 with (fail)
  clear hj
  (refine wp_at (fun wL => Blk wL w2.heap.size 27 #[.slice a2 t.toL.length c2] ∧ RowAt wL a2 t.toL ∧ Blk wL (w2.heap.size + 1) 3 #[.int .i64 0] ∧ Below w2.heap.size w2 wL) ⟨?_, ?_, ?_, ?_⟩ ?_)
  · rw [HTY.out]; simp (disch := (first | omega | (simp only [World.size_alloc, World.size_setCell, World.size_drew] <;> omega) | fail)) only [Blk, heap_old, heap_at, heap_set_same, heap_set_ne, heap_drew', Option.map_some, putO_cells]
  · exact HR2.out.below (by go_grown)
  · simp (disch := (first | omega | (simp only [World.size_alloc, World.size_setCell, World.size_drew] <;> omega) | fail)) only [Blk, heap_old, heap_at, heap_set_same, heap_set_ne, heap_drew', Option.map_some, putO_cells]
  · go_grown
  rintro wL ⟨C15, CR, CN, hbL⟩
  obtain ⟨bn, hbn⟩ : ∃ bn, w2.heap.size + 1 = bn := ⟨_, rfl⟩
  rw [hbn] at CN
  have HBN := Lib.hid (show w2.heap.size ≤ bn by omega)
  try rw [hbn]
  clear hbn
  have HTO := Lib.hid (show t.toL = told (fun _ => false) false t from (told_all t).symm)
  have HMO := Lib.hid (mono_all t)
  obtain ⟨av, hav⟩ : ∃ av, a2 = av := ⟨_, rfl⟩
  obtain ⟨cv, hcv⟩ : ∃ cv, c2 = cv := ⟨_, rfl⟩
  rw [hav] at C15 CR
  rw [hcv] at C15
  clear hav hcv HR2
  have HSO := Lib.hid (show ∀ W' t', Fr (WkM g r b12 bn wL.heap.size) wL W' → Bm wh W' q g r t' → True from fun _ _ _ _ => trivial)
  have HC15 := Lib.hid C15
  have HCR := Lib.hid CR
  have HCN := Lib.hid CN
  have HBL := Lib.hid (HB2.out.trans (hbL.mono HB2.out.size))
  have hz2 := HB2.out.size
  have SL := Lib.hid (HS.out.below HB.out HC12.out HBL.out)
  have ML := Lib.hid (HB.out.below HBL.out)
  have K12 := Lib.hid (HC12.out.below HBL.out)
  have lt12 := HC12.out.lt
  have hq := HB.out.gblk
  have ltq := hq.2.2.lt
  have ltg : g < w.heap.size := by obtain ⟨⟨_, h⟩, _⟩ := hq; exact h.lt
  have ltr : r < w.heap.size := by obtain ⟨_, ⟨_, h⟩, _⟩ := hq; exact h.lt
  have hbo := HBO.out
  have hbn := HBN.out
  have ltk1 : y.xk1 < w.heap.size := HS.out.w1.so.2.2.1.lt
  have ltk2 : y.xk2 < w.heap.size := HS.out.w2.so.2.2.1.lt
  have hzL := HBL.out.size
  clear hq C15 CR CN hbL S2 M2
  (with_reducible refine wp_of_eq (c' := theBlock Try.f3 4) (by kernel_rfl) ?_)
  refine over_any _ (w := wL) (B := B) sa caps sc ds (S' := _) ML.out HM.out hN hat SL.out.c5 SL.out.c7 SL.out.c8 K12.out HC15.out HCN.out (by omega) SL.out.ne.1 (by omega) HCR.out HTO.out HMO.out SL.out.w0 (fun _ _ _ _ => trivial) HSL.out (HSR.out.below (HBL.out.mono (by omega))) ⟨hbo.1, hbo.2.1, hbo.2.2.1, by omega, by omega⟩ ?_
  intro W' D hC hD hDe
  have C15' : Blk W' w2.heap.size 27 #[.slice av t.toL.length cv] := by
    refine (hC.fr.block _ HC15.out.lt fun hh => ?_).trans HC15.out
    rcases hh with hh | hh | hh | hh | hh
    · omega
    · omega
    · omega
    · exact blk_types HC15.out HCN.out (by decide) hh
    · have := HC15.out.lt; omega
  obtain ⟨nL, hnL⟩ : ∃ nL, t.toL.length = nL := ⟨_, rfl⟩
  rw [hnL] at hC C15'
  have e15 := C15'.cell 0
  have en := hC.n.cell 0
  simp only [List.getElem?_toArray, List.getElem?_cons_zero] at e15 en
  have HC := Lib.hid hC
  have HD := Lib.hid hD
  have HDE := Lib.hid hDe
  have HNL := Lib.hid hnL
  clear hC hD hDe C15' hnL
  go_wp2_with fail
  refine HKK.out _ _ _ _ _ _ _ _ _ _ _ _ _ _ _ _ _ _ _ _ _ _ _ _ _ _ _ _ _ _ _ _ _ _ W' D ⟨?_, ?_, HD.out, by rw [HDE.out]; exact hzL⟩
  · obtain ⟨t', h1, h2⟩ := HC.out.st
    have h3 := told_len (fun _ => false) false t
    rw [← HTO.out, HNL.out] at h3
    exact ⟨t', at_ + nL, h1, h2, by have := HM.out; omega, HC.out.ct⟩
  · have hf := HC.out.fr
    refine ⟨hf.os.trans HBL.out.os, hf.tape.trans HBL.out.tape, hf.output.trans HBL.out.output, Nat.le_trans hzL hf.size, fun b hb hn => ?_⟩
    refine (hf.block b (by omega) fun hh => ?_).trans (HBL.out.block b hb)
    rcases hh with hh | hh | hh | hh | hh
    · exact hn (.inl hh)
    · exact hn (.inr (.inl hh))
    · exact hn (.inr (.inr hh))
    · omega
    · omega

set_option maxRecDepth 100000 in
set_option maxHeartbeats 16000000 in
theorem turn1_any (Q : Exit → Act → World → Prop) {w : World} {wh fm : Int} {q g r b5 b7 b8 b11 b12 N0 ns at_ B : Nat} {y : Ws} {t : Tr} (tv : Int) (hj : tv.tmod 3 = 1) (sa : Option Addr) (caps : Nat) (sc : List Opr) (ds : List Deferred) {u0 u1 u2 u3 u4 u6 u9 u14 u15 u16 u17 u18 u19 u20 u21 u22 u23 u24 u25 u26 u27 u28 u29 u30 u31 u32 u33 u34 u35 u36 u37 u38 u39 u40 u41 u42 u43 u44 u45 u46 u47 u48 u49 u50 u51 u52 u53 u54 u55 u56 u57 u58 u59 u60 u61 u62 u63 u64 u65 u66 u67 u68 u69 u70 u71 u72 u73 u74 u75 u76 u77 u78 u79 u80 u81 u82 u83 u84 u85 u86 u87 u88 u89 u90 u91 u92 u93 u94 u95 u96 u97 u98 u99 u100 u101 u102 u103 u104 u105 u106 u107 u108 u109 u110 u111 u112 u113 u114 u115 u116 u117 u118 u119 u120 u121 u122 u123 u124 u125 u126 u127 u128 u129 u130 u131 u132 u133 u134 u135 u136 u137 u138 u139 u140 u141 u142 u143 u144 u145 u146 u147 u148 u149 u150 u151 u152 u153 u154 u155 u156 u157 u158 u159 u160 u161 u162 u163 u164 u165 u166 u167 u168 : Value}
    (hB : Bm wh w q g r t) (hm : t.many ≤ N0 + min at_ ns) (hN : N0 + ns ≤ 4000000000000) (hat : at_ ≤ 60000000000000)
    (hS : StS wh fm q g r b5 b7 b8 b11 b12 y (.slice sa ns caps) w) (c12 : Blk w b12 3 #[.int .i64 (at_ : Int)])
    (hsl : sc.length = ns) (hsr : Rd w B sa (sc.flatMap Opr.cells)) (hBo : B ≤ g ∧ B ≤ r ∧ B ≤ b12 ∧ B ≤ w.heap.size)
    (hK : ∀ (x14 x15 x16 x82 x83 x84 x85 x86 x87 x88 x89 x90 x91 x92 x93 x94 x95 x96 x97 x98 x99 x100 x101 x102 x103 x104 x105 x106 x107 x108 x159 x160 x161 x162 : Value) (w' : World) (D : Nat), TurnP wh q g r b12 N0 ns at_ w w' D → Q .normal { tmps := #[u0, u1, u2, u3, u4, ptr b5, u6, ptr b7, ptr b8, u9, .int .i64 fm, ptr b11, ptr b12, .int .i64 tv, x14, x15, x16, u17, u18, u19, u20, u21, u22, u23, u24, u25, u26, u27, u28, u29, u30, u31, u32, u33, u34, u35, u36, u37, u38, u39, u40, u41, u42, u43, u44, u45, u46, u47, u48, u49, u50, u51, u52, u53, u54, u55, u56, u57, u58, u59, u60, u61, u62, u63, u64, u65, u66, u67, u68, u69, u70, u71, u72, u73, u74, u75, u76, u77, u78, u79, u80, u81, x82, x83, x84, x85, x86, x87, x88, x89, x90, x91, x92, x93, x94, x95, x96, x97, x98, x99, x100, x101, x102, x103, x104, x105, x106, x107, x108, u109, u110, u111, u112, u113, u114, u115, u116, u117, u118, u119, u120, u121, u122, u123, u124, u125, u126, u127, u128, u129, u130, u131, u132, u133, u134, u135, u136, u137, u138, u139, u140, u141, u142, u143, u144, u145, u146, u147, u148, u149, u150, u151, u152, u153, u154, u155, u156, u157, u158, x159, x160, x161, x162, u163, u164, u165, u166, u167, u168], defers := { target := .collected D, args := #[] } :: ds } w') :
    (theBlock Try.f3 3).wp Try.prog Q { tmps := #[u0, u1, u2, u3, u4, ptr b5, u6, ptr b7, ptr b8, u9, .int .i64 fm, ptr b11, ptr b12, .int .i64 tv, u14, u15, u16, u17, u18, u19, u20, u21, u22, u23, u24, u25, u26, u27, u28, u29, u30, u31, u32, u33, u34, u35, u36, u37, u38, u39, u40, u41, u42, u43, u44, u45, u46, u47, u48, u49, u50, u51, u52, u53, u54, u55, u56, u57, u58, u59, u60, u61, u62, u63, u64, u65, u66, u67, u68, u69, u70, u71, u72, u73, u74, u75, u76, u77, u78, u79, u80, u81, u82, u83, u84, u85, u86, u87, u88, u89, u90, u91, u92, u93, u94, u95, u96, u97, u98, u99, u100, u101, u102, u103, u104, u105, u106, u107, u108, u109, u110, u111, u112, u113, u114, u115, u116, u117, u118, u119, u120, u121, u122, u123, u124, u125, u126, u127, u128, u129, u130, u131, u132, u133, u134, u135, u136, u137, u138, u139, u140, u141, u142, u143, u144, u145, u146, u147, u148, u149, u150, u151, u152, u153, u154, u155, u156, u157, u158, u159, u160, u161, u162, u163, u164, u165, u166, u167, u168], defers := ds } w := by
  simp only [theBlock, Try.f3, blockOf, Nat.reduceEqDiff, if_false, if_true, reduceCtorEq, ite_false, ite_true, Option.getD_some]
  have HB := Lib.hid hB
  have HM := Lib.hid hm
  have HS := Lib.hid hS
  have HC12 := Lib.hid c12
  have HSL := Lib.hid hsl
  have HSR := Lib.hid hsr
  have HBO := Lib.hid hBo
  have HKK := Lib.hid hK
  have c8 := hS.c8.cell 0
  have c11 := hS.c11.cell 1
  have l8 := hS.c8.lt
  have l11 := hS.c11.lt
  simp only [List.getElem?_toArray, List.getElem?_cons_zero, List.getElem?_cons_succ] at c8 c11
  have hfn := wk_nil #[.pointer (some ⟨y.bm1, 0, none⟩), .pointer (some ⟨y.bb1, 0, none⟩), .pointer (some ⟨y.bo1, 0, none⟩)]
  obtain ⟨ra, rc, hrb, hrr, hrn⟩ := row_of_ref hB.ref
  have HRR := Lib.hid hrr
  have HRN := Lib.hid hrn
  have hty : t.toL.length = t.many := (T.many_len t).symm
  rw [hty] at hrb
  have HTY := Lib.hid hty
  have c1 := hrb.cell 1
  have lr := hrb.lt
  simp only [List.getElem?_toArray, List.getElem?_cons_zero, List.getElem?_cons_succ] at c1
  clear hB hm hS c12 hsl hsr hBo hK hrb hrr hrn hty
  go_upto_region 22 with (fail)
  clear hfn
  apply wp_region_lit
  iterate 5 (go_step; go_step; rename_i KK hKK; (with_reducible refine hKK _ _ ?_); clear hKK KK)
  refine append_prs rfl (.tmp 88) (.tmp 92) rfl w.heap.size _ 0 [] rfl (own_empty w) ra t.many rc t.toL rfl HRN.out HTY.out (HRR.out.below (show Below w.heap.size w (w.alloc (.cells #[] 43)) by go_grown)).rd (by have := HM.out; omega) (by simp) ?_
  intro v2 w2 ho2 hg2 _
  rw [Nat.zero_add, List.nil_append] at ho2
  have hb2 : Below w.heap.size w w2 := (show Below w.heap.size w (w.alloc (.cells #[] 43)) by go_grown).grown hg2 (by simp) (fun k hk => by cases hk; exact Nat.le_refl _)
  obtain ⟨a2, c2, rfl, hr2, _, _, hn2⟩ := RowAt.of_own ho2
  have hty2 := HTY.out
  rw [hty2]
  have HR2 := Lib.hid hr2
  have HB2 := Lib.hid hb2
  have S2 := Lib.hid (HS.out.below HB.out HC12.out hb2)
  have M2 := Lib.hid (HB.out.below hb2)
  clear ho2 hg2 hb2 hr2 hn2 hty2 c8 c11 c1 l8 l11 lr
  (try simp only [Act.put, List.setIfInBounds_toArray, List.set_cons_zero, List.set_cons_succ])
  go_upto_region 24 with (fail)
  (refine wp_at (fun w3 => Blk w3 w2.heap.size 27 #[.slice a2 t.many c2] ∧ Below w2.heap.size w2 w3) ⟨by simp (disch := (first | omega | (simp only [World.size_alloc, World.size_setCell, World.size_drew] <;> omega) | fail)) only [Blk, heap_old, heap_at, heap_set_same, heap_set_ne, heap_drew', Option.map_some, putO_cells], by go_grown⟩ ?_)
  rintro w3 ⟨C3, hb3⟩
  have HC3 := Lib.hid C3
  have HB3 := Lib.hid (HB2.out.trans (hb3.mono HB2.out.size))
  have S3 := Lib.hid (HS.out.below HB.out HC12.out HB3.out)
  have M3 := Lib.hid (HB.out.below HB3.out)
  have hz23 := hb3.size
  have c8 := S3.out.c8.cell 0
  have l8 := S3.out.c8.lt
  have l15 := C3.lt
  simp only [List.getElem?_toArray, List.getElem?_cons_zero, List.getElem?_cons_succ] at c8
  have HB23 := Lib.hid hb3
  clear C3 hb3
  have hbE : Below w3.heap.size w3 (w3.alloc (.cells #[] 43)) := by go_grown
  have HBE := Lib.hid hbE
  have hzE : (w3.alloc (.cells #[] 43)).heap.size = w3.heap.size + 1 := World.size_alloc _ _
  have hl3 : w3.heap.size < (w3.alloc (.cells #[] 43)).heap.size := by rw [hzE]; omega
  clear hbE
  apply wp_region_lit
  iterate 3 (go_step; go_step; rename_i KK hKK; (with_reducible refine hKK _ _ ?_); clear hKK KK)
  obtain ⟨LF, hLF⟩ : ∃ LF, t.toL.drop (placeL (cw wh) fm t.toL) = LF := ⟨_, rfl⟩
  have HLF := Lib.hid hLF
  have HTO := Lib.hid (show LF = told (fun k => decide (cw wh k fm < 0)) false t by rw [told_from HB.out.own.ord HB.out.own.srt]; exact hLF.symm)
  have HLL := Lib.hid (show LF.length ≤ t.many by rw [HTO.out]; exact told_len _ _ _)
  have HMO := Lib.hid (mono_from HB.out.own.ord (key := fm) HB.out.own.srt)
  clear hLF
  go_step
  go_step
  refine (rFrom_any (M3.out.below HBE.out).ref fm (by have := HM.out; have := HTY.out; omega)).mono ?_
  rintro en w5 ⟨a5, c5, rfl, hrow5, h51, h52, hn5, hb5⟩
  clear h51 h52
  rw [HLF.out] at hrow5 ⊢
  have hz5 := hb5.size
  have HO5 := Lib.hid (own_keptN (own_empty w3) fun k hk => by cases hk; exact hb5.block _ hl3)
  have HB5 := Lib.hid (HBE.out.trans (hb5.mono (by omega)))
  have HC5 := Lib.hid (HC3.out.below HB5.out)
  have HR5 := Lib.hid hrow5
  have HN5 := Lib.hid hn5
  clear hrow5 hn5 hb5
  dsimp only
  rename_i KK hKK
  (with_reducible refine hKK _ _ ?_)
  clear hKK KK
  refine append_prs rfl (.tmp 97) (.tmp 100) rfl w3.heap.size _ 0 [] rfl HO5.out a5 LF.length c5 LF rfl HN5.out rfl HR5.out.rd (by have := HM.out; have := HLL.out; omega) (by omega) ?_
  intro v6 w6 ho6 hg6 _
  rw [Nat.zero_add, List.nil_append] at ho6
  have hb6 : Below w3.heap.size w5 w6 := ((Below.refl w3.heap.size w5).grown hg6 (by omega) (fun k hk => by cases hk; exact Nat.le_refl _))
  obtain ⟨a6, c6, rfl, hr6, _, _, _⟩ := RowAt.of_own ho6
  have HB6 := Lib.hid (HB5.out.trans hb6)
  have C6 := HC3.out.below HB6.out
  have f6 := C6.free 0
  have g6 := C6.cell 0
  have l6 := C6.lt
  simp only [List.getElem?_toArray, List.getElem?_cons_zero] at g6
  have HC6 := Lib.hid C6
  have HR6 := Lib.hid hr6
  clear ho6 hg6 hb6 hr6 C6 HO5 HC5 HR5 HN5
  (try simp only [Act.put, List.setIfInBounds_toArray, List.set_cons_zero, List.set_cons_succ])
  go_upto_block 4 with (fail)
  (refine wp_at (fun wL => Blk wL w2.heap.size 27 #[.slice a6 LF.length c6] ∧ RowAt wL a6 LF ∧ Blk wL w6.heap.size 3 #[.int .i64 0] ∧ Below w2.heap.size w2 wL) ?_ ?_)
  · have h1 := blk_set (n := 0) (v := .slice a6 LF.length c6) HC6.out
    refine ⟨h1.below (by go_grown), (HR6.out.same fun b cs hB => heap_set_ne _ _ _ _ _ (blk_types hB HC6.out (by decide))).below (by go_grown), heap_at (World.size_setCell ..).symm, ?_⟩
    have h2 := HB23.out.trans (HB6.out.mono HB23.out.size)
    exact (h2.setCell (p := ⟨w2.heap.size, 0, none⟩) (Nat.le_refl _) _).alloc (by rw [World.size_setCell]; exact h2.size) _
  rintro wL ⟨C15, CR, CN, hbL⟩
  have HBN := Lib.hid (show w2.heap.size ≤ w6.heap.size by have := HB6.out.size; omega)
  obtain ⟨bn, hbn⟩ : ∃ bn, w6.heap.size = bn := ⟨_, rfl⟩
  rw [hbn] at CN HBN
  rw [hbn]
  clear hbn
  obtain ⟨av, hav⟩ : ∃ av, a6 = av := ⟨_, rfl⟩
  obtain ⟨cv, hcv⟩ : ∃ cv, c6 = cv := ⟨_, rfl⟩
  rw [hav] at C15 CR
  rw [hcv] at C15
  clear hav hcv HR2
  have HSO := Lib.hid (show ∀ W' t', Fr (WkM g r b12 bn wL.heap.size) wL W' → Bm wh W' q g r t' → True from fun _ _ _ _ => trivial)
  have HC15 := Lib.hid C15
  have HCR := Lib.hid CR
  have HCN := Lib.hid CN
  have HBL := Lib.hid (HB2.out.trans (hbL.mono HB2.out.size))
  have hz2 := HB2.out.size
  have SL := Lib.hid (HS.out.below HB.out HC12.out HBL.out)
  have ML := Lib.hid (HB.out.below HBL.out)
  have K12 := Lib.hid (HC12.out.below HBL.out)
  have lt12 := HC12.out.lt
  have hq := HB.out.gblk
  have ltq := hq.2.2.lt
  have ltg : g < w.heap.size := by obtain ⟨⟨_, h⟩, _⟩ := hq; exact h.lt
  have ltr : r < w.heap.size := by obtain ⟨_, ⟨_, h⟩, _⟩ := hq; exact h.lt
  have hbo := HBO.out
  have hbn := HBN.out
  have ltk1 : y.xk1 < w.heap.size := HS.out.w1.so.2.2.1.lt
  have ltk2 : y.xk2 < w.heap.size := HS.out.w2.so.2.2.1.lt
  have hzL := HBL.out.size
  clear hq C15 CR CN hbL S2 M2
  (with_reducible refine wp_of_eq (c' := theBlock Try.f3 4) (by kernel_rfl) ?_)
  refine over_any _ (w := wL) (B := B) sa caps sc ds (S' := _) ML.out HM.out hN hat SL.out.c5 SL.out.c7 SL.out.c8 K12.out HC15.out HCN.out (by omega) SL.out.ne.1 (by omega) HCR.out HTO.out HMO.out SL.out.w1 (so_over SL.out.w1.so ML.out K12.out HCN.out SL.out.ne.2.1 (by omega)) HSL.out (HSR.out.below (HBL.out.mono (by omega))) ⟨hbo.1, hbo.2.1, hbo.2.2.1, by omega, by omega⟩ ?_
  intro W' D hC hD hDe
  have C15' : Blk W' w2.heap.size 27 #[.slice av LF.length cv] := by
    refine (hC.fr.block _ HC15.out.lt fun hh => ?_).trans HC15.out
    rcases hh with hh | hh | hh | hh | hh
    · omega
    · omega
    · omega
    · exact blk_types HC15.out HCN.out (by decide) hh
    · have := HC15.out.lt; omega
  obtain ⟨nL, hnL⟩ : ∃ nL, LF.length = nL := ⟨_, rfl⟩
  rw [hnL] at hC C15'
  have e15 := C15'.cell 0
  have en := hC.n.cell 0
  simp only [List.getElem?_toArray, List.getElem?_cons_zero] at e15 en
  have HC := Lib.hid hC
  have HD := Lib.hid hD
  have HDE := Lib.hid hDe
  have HNL := Lib.hid hnL
  clear hC hD hDe C15' hnL
  go_wp2_with fail
  refine HKK.out _ _ _ _ _ _ _ _ _ _ _ _ _ _ _ _ _ _ _ _ _ _ _ _ _ _ _ _ _ _ _ _ _ _ W' D ⟨?_, ?_, HD.out, by rw [HDE.out]; exact hzL⟩
  · obtain ⟨t', h1, h2⟩ := HC.out.st
    have h3 := told_len (fun k => decide (cw wh k fm < 0)) false t
    rw [← HTO.out, HNL.out] at h3
    exact ⟨t', at_ + nL, h1, h2, by have := HM.out; omega, HC.out.ct⟩
  · have hf := HC.out.fr
    refine ⟨hf.os.trans HBL.out.os, hf.tape.trans HBL.out.tape, hf.output.trans HBL.out.output, Nat.le_trans hzL hf.size, fun b hb hn => ?_⟩
    refine (hf.block b (by omega) fun hh => ?_).trans (HBL.out.block b hb)
    rcases hh with hh | hh | hh | hh | hh
    · exact hn (.inl hh)
    · exact hn (.inr (.inl hh))
    · exact hn (.inr (.inr hh))
    · omega
    · omega

set_option maxRecDepth 100000 in
set_option maxHeartbeats 16000000 in
theorem turn2_any (Q : Exit → Act → World → Prop) {w : World} {wh fm : Int} {q g r b5 b7 b8 b11 b12 N0 ns at_ B : Nat} {y : Ws} {t : Tr} (tv : Int) (hj : tv.tmod 3 = 2) (sa : Option Addr) (caps : Nat) (sc : List Opr) (ds : List Deferred) {u0 u1 u2 u3 u4 u6 u9 u14 u15 u16 u17 u18 u19 u20 u21 u22 u23 u24 u25 u26 u27 u28 u29 u30 u31 u32 u33 u34 u35 u36 u37 u38 u39 u40 u41 u42 u43 u44 u45 u46 u47 u48 u49 u50 u51 u52 u53 u54 u55 u56 u57 u58 u59 u60 u61 u62 u63 u64 u65 u66 u67 u68 u69 u70 u71 u72 u73 u74 u75 u76 u77 u78 u79 u80 u81 u82 u83 u84 u85 u86 u87 u88 u89 u90 u91 u92 u93 u94 u95 u96 u97 u98 u99 u100 u101 u102 u103 u104 u105 u106 u107 u108 u109 u110 u111 u112 u113 u114 u115 u116 u117 u118 u119 u120 u121 u122 u123 u124 u125 u126 u127 u128 u129 u130 u131 u132 u133 u134 u135 u136 u137 u138 u139 u140 u141 u142 u143 u144 u145 u146 u147 u148 u149 u150 u151 u152 u153 u154 u155 u156 u157 u158 u159 u160 u161 u162 u163 u164 u165 u166 u167 u168 : Value}
    (hB : Bm wh w q g r t) (hm : t.many ≤ N0 + min at_ ns) (hN : N0 + ns ≤ 4000000000000) (hat : at_ ≤ 60000000000000)
    (hS : StS wh fm q g r b5 b7 b8 b11 b12 y (.slice sa ns caps) w) (c12 : Blk w b12 3 #[.int .i64 (at_ : Int)])
    (hsl : sc.length = ns) (hsr : Rd w B sa (sc.flatMap Opr.cells)) (hBo : B ≤ g ∧ B ≤ r ∧ B ≤ b12 ∧ B ≤ w.heap.size)
    (hK : ∀ (x14 x15 x16 x82 x83 x84 x85 x86 x87 x88 x89 x90 x91 x92 x93 x94 x95 x96 x97 x98 x99 x100 x101 x102 x103 x104 x105 x106 x107 x108 x159 x160 x161 x162 : Value) (w' : World) (D : Nat), TurnP wh q g r b12 N0 ns at_ w w' D → Q .normal { tmps := #[u0, u1, u2, u3, u4, ptr b5, u6, ptr b7, ptr b8, u9, .int .i64 fm, ptr b11, ptr b12, .int .i64 tv, x14, x15, x16, u17, u18, u19, u20, u21, u22, u23, u24, u25, u26, u27, u28, u29, u30, u31, u32, u33, u34, u35, u36, u37, u38, u39, u40, u41, u42, u43, u44, u45, u46, u47, u48, u49, u50, u51, u52, u53, u54, u55, u56, u57, u58, u59, u60, u61, u62, u63, u64, u65, u66, u67, u68, u69, u70, u71, u72, u73, u74, u75, u76, u77, u78, u79, u80, u81, x82, x83, x84, x85, x86, x87, x88, x89, x90, x91, x92, x93, x94, x95, x96, x97, x98, x99, x100, x101, x102, x103, x104, x105, x106, x107, x108, u109, u110, u111, u112, u113, u114, u115, u116, u117, u118, u119, u120, u121, u122, u123, u124, u125, u126, u127, u128, u129, u130, u131, u132, u133, u134, u135, u136, u137, u138, u139, u140, u141, u142, u143, u144, u145, u146, u147, u148, u149, u150, u151, u152, u153, u154, u155, u156, u157, u158, x159, x160, x161, x162, u163, u164, u165, u166, u167, u168], defers := { target := .collected D, args := #[] } :: ds } w') :
    (theBlock Try.f3 3).wp Try.prog Q { tmps := #[u0, u1, u2, u3, u4, ptr b5, u6, ptr b7, ptr b8, u9, .int .i64 fm, ptr b11, ptr b12, .int .i64 tv, u14, u15, u16, u17, u18, u19, u20, u21, u22, u23, u24, u25, u26, u27, u28, u29, u30, u31, u32, u33, u34, u35, u36, u37, u38, u39, u40, u41, u42, u43, u44, u45, u46, u47, u48, u49, u50, u51, u52, u53, u54, u55, u56, u57, u58, u59, u60, u61, u62, u63, u64, u65, u66, u67, u68, u69, u70, u71, u72, u73, u74, u75, u76, u77, u78, u79, u80, u81, u82, u83, u84, u85, u86, u87, u88, u89, u90, u91, u92, u93, u94, u95, u96, u97, u98, u99, u100, u101, u102, u103, u104, u105, u106, u107, u108, u109, u110, u111, u112, u113, u114, u115, u116, u117, u118, u119, u120, u121, u122, u123, u124, u125, u126, u127, u128, u129, u130, u131, u132, u133, u134, u135, u136, u137, u138, u139, u140, u141, u142, u143, u144, u145, u146, u147, u148, u149, u150, u151, u152, u153, u154, u155, u156, u157, u158, u159, u160, u161, u162, u163, u164, u165, u166, u167, u168], defers := ds } w := by
  simp only [theBlock, Try.f3, blockOf, Nat.reduceEqDiff, if_false, if_true, reduceCtorEq, ite_false, ite_true, Option.getD_some]
  have HB := Lib.hid hB
  have HM := Lib.hid hm
  have HS := Lib.hid hS
  have HC12 := Lib.hid c12
  have HSL := Lib.hid hsl
  have HSR := Lib.hid hsr
  have HBO := Lib.hid hBo
  have HKK := Lib.hid hK
  have c8 := hS.c8.cell 0
  have c11 := hS.c11.cell 2
  have l8 := hS.c8.lt
  have l11 := hS.c11.lt
  simp only [List.getElem?_toArray, List.getElem?_cons_zero, List.getElem?_cons_succ] at c8 c11
  have hfn := wk_nil #[.pointer (some ⟨y.bm2, 0, none⟩), .pointer (some ⟨y.bb2, 0, none⟩), .pointer (some ⟨y.bo2, 0, none⟩)]
  obtain ⟨ra, rc, hrb, hrr, hrn⟩ := row_of_ref hB.ref
  have HRR := Lib.hid hrr
  have HRN := Lib.hid hrn
  have hty : t.toL.length = t.many := (T.many_len t).symm
  rw [hty] at hrb
  have HTY := Lib.hid hty
  have c1 := hrb.cell 1
  have lr := hrb.lt
  simp only [List.getElem?_toArray, List.getElem?_cons_zero, List.getElem?_cons_succ] at c1
  clear hB hm hS c12 hsl hsr hBo hK hrb hrr hrn hty
  go_upto_region 22 with (fail)
  clear hfn
  apply wp_region_lit
  iterate 5 (go_step; go_step; rename_i KK hKK; (with_reducible refine hKK _ _ ?_); clear hKK KK)
  refine append_prs rfl (.tmp 88) (.tmp 92) rfl w.heap.size _ 0 [] rfl (own_empty w) ra t.many rc t.toL rfl HRN.out HTY.out (HRR.out.below (show Below w.heap.size w (w.alloc (.cells #[] 43)) by go_grown)).rd (by have := HM.out; omega) (by simp) ?_
  intro v2 w2 ho2 hg2 _
  rw [Nat.zero_add, List.nil_append] at ho2
  have hb2 : Below w.heap.size w w2 := (show Below w.heap.size w (w.alloc (.cells #[] 43)) by go_grown).grown hg2 (by simp) (fun k hk => by cases hk; exact Nat.le_refl _)
  obtain ⟨a2, c2, rfl, hr2, _, _, hn2⟩ := RowAt.of_own ho2
  have hty2 := HTY.out
  rw [hty2]
  have HR2 := Lib.hid hr2
  have HB2 := Lib.hid hb2
  have S2 := Lib.hid (HS.out.below HB.out HC12.out hb2)
  have M2 := Lib.hid (HB.out.below hb2)
  clear ho2 hg2 hb2 hr2 hn2 hty2 c8 c11 c1 l8 l11 lr
  (try simp only [Act.put, List.setIfInBounds_toArray, List.set_cons_zero, List.set_cons_succ])
  go_upto_region 26 with (fail)
  (refine wp_at (fun w3 => Blk w3 w2.heap.size 27 #[.slice a2 t.many c2] ∧ Below w2.heap.size w2 w3) ⟨by simp (disch := (first | omega | (simp only [World.size_alloc, World.size_setCell, World.size_drew] <;> omega) | fail)) only [Blk, heap_old, heap_at, heap_set_same, heap_set_ne, heap_drew', Option.map_some, putO_cells], by go_grown⟩ ?_)
  rintro w3 ⟨C3, hb3⟩
  have HC3 := Lib.hid C3
  have HB3 := Lib.hid (HB2.out.trans (hb3.mono HB2.out.size))
  have S3 := Lib.hid (HS.out.below HB.out HC12.out HB3.out)
  have M3 := Lib.hid (HB.out.below HB3.out)
  have hz23 := hb3.size
  have c8 := S3.out.c8.cell 0
  have l8 := S3.out.c8.lt
  have l15 := C3.lt
  simp only [List.getElem?_toArray, List.getElem?_cons_zero, List.getElem?_cons_succ] at c8
  have HB23 := Lib.hid hb3
  clear C3 hb3
  obtain ⟨LF, hLF⟩ : ∃ LF, (t.toL.take (placeL (cw wh) fm t.toL + if (getL (cw wh) fm t.toL).isSome then 1 else 0)).reverse = LF := ⟨_, rfl⟩
  have HLF := Lib.hid hLF
  have HTO := Lib.hid (show LF = told (fun k => decide (0 < cw wh k fm)) true t by rw [told_back HB.out.own.ord HB.out.own.srt]; exact hLF.symm)
  have HLL := Lib.hid (show LF.length ≤ t.many by rw [HTO.out]; exact told_len _ _ _)
  have HMO := Lib.hid (mono_back HB.out.own.ord (key := fm) HB.out.own.srt)
  clear hLF
  go_wp2_with fail
  refine (rBack_any M3.out.ref fm (by have := HM.out; have := HTY.out; omega)).mono ?_
  rintro en w6 ⟨a6, c6, rfl, hr6, _, _, _, hb6⟩
  rw [HLF.out] at hr6 ⊢
  have HB6 := Lib.hid hb6
  have C6 := HC3.out.below HB6.out
  have f6 := C6.free 0
  have g6 := C6.cell 0
  have l6 := C6.lt
  simp only [List.getElem?_toArray, List.getElem?_cons_zero] at g6
  have HC6 := Lib.hid C6
  have HR6 := Lib.hid hr6
  clear hb6 hr6 C6
  go_upto_block 4 with (fail)
  (refine wp_at (fun wL => Blk wL w2.heap.size 27 #[.slice a6 LF.length c6] ∧ RowAt wL a6 LF ∧ Blk wL w6.heap.size 3 #[.int .i64 0] ∧ Below w2.heap.size w2 wL) ?_ ?_)
  · have h1 := blk_set (n := 0) (v := .slice a6 LF.length c6) HC6.out
    refine ⟨h1.below (by go_grown), (HR6.out.same fun b cs hB => heap_set_ne _ _ _ _ _ (blk_types hB HC6.out (by decide))).below (by go_grown), heap_at (World.size_setCell ..).symm, ?_⟩
    have h2 := HB23.out.trans (HB6.out.mono HB23.out.size)
    exact (h2.setCell (p := ⟨w2.heap.size, 0, none⟩) (Nat.le_refl _) _).alloc (by rw [World.size_setCell]; exact h2.size) _
  rintro wL ⟨C15, CR, CN, hbL⟩
  have HBN := Lib.hid (show w2.heap.size ≤ w6.heap.size by have := HB6.out.size; omega)
  obtain ⟨bn, hbn⟩ : ∃ bn, w6.heap.size = bn := ⟨_, rfl⟩
  rw [hbn] at CN HBN
  rw [hbn]
  clear hbn
  obtain ⟨av, hav⟩ : ∃ av, a6 = av := ⟨_, rfl⟩
  obtain ⟨cv, hcv⟩ : ∃ cv, c6 = cv := ⟨_, rfl⟩
  rw [hav] at C15 CR
  rw [hcv] at C15
  clear hav hcv HR2
  have HSO := Lib.hid (show ∀ W' t', Fr (WkM g r b12 bn wL.heap.size) wL W' → Bm wh W' q g r t' → True from fun _ _ _ _ => trivial)
  have HC15 := Lib.hid C15
  have HCR := Lib.hid CR
  have HCN := Lib.hid CN
  have HBL := Lib.hid (HB2.out.trans (hbL.mono HB2.out.size))
  have hz2 := HB2.out.size
  have SL := Lib.hid (HS.out.below HB.out HC12.out HBL.out)
  have ML := Lib.hid (HB.out.below HBL.out)
  have K12 := Lib.hid (HC12.out.below HBL.out)
  have lt12 := HC12.out.lt
  have hq := HB.out.gblk
  have ltq := hq.2.2.lt
  have ltg : g < w.heap.size := by obtain ⟨⟨_, h⟩, _⟩ := hq; exact h.lt
  have ltr : r < w.heap.size := by obtain ⟨_, ⟨_, h⟩, _⟩ := hq; exact h.lt
  have hbo := HBO.out
  have hbn := HBN.out
  have ltk1 : y.xk1 < w.heap.size := HS.out.w1.so.2.2.1.lt
  have ltk2 : y.xk2 < w.heap.size := HS.out.w2.so.2.2.1.lt
  have hzL := HBL.out.size
  clear hq C15 CR CN hbL S2 M2
  (with_reducible refine wp_of_eq (c' := theBlock Try.f3 4) (by kernel_rfl) ?_)
  refine over_any _ (w := wL) (B := B) sa caps sc ds (S' := _) ML.out HM.out hN hat SL.out.c5 SL.out.c7 SL.out.c8 K12.out HC15.out HCN.out (by omega) SL.out.ne.1 (by omega) HCR.out HTO.out HMO.out SL.out.w2 (so_over SL.out.w2.so ML.out K12.out HCN.out SL.out.ne.2.2 (by omega)) HSL.out (HSR.out.below (HBL.out.mono (by omega))) ⟨hbo.1, hbo.2.1, hbo.2.2.1, by omega, by omega⟩ ?_
  intro W' D hC hD hDe
  have C15' : Blk W' w2.heap.size 27 #[.slice av LF.length cv] := by
    refine (hC.fr.block _ HC15.out.lt fun hh => ?_).trans HC15.out
    rcases hh with hh | hh | hh | hh | hh
    · omega
    · omega
    · omega
    · exact blk_types HC15.out HCN.out (by decide) hh
    · have := HC15.out.lt; omega
  obtain ⟨nL, hnL⟩ : ∃ nL, LF.length = nL := ⟨_, rfl⟩
  rw [hnL] at hC C15'
  have e15 := C15'.cell 0
  have en := hC.n.cell 0
  simp only [List.getElem?_toArray, List.getElem?_cons_zero] at e15 en
  have HC := Lib.hid hC
  have HD := Lib.hid hD
  have HDE := Lib.hid hDe
  have HNL := Lib.hid hnL
  clear hC hD hDe C15' hnL
  go_wp2_with fail
  refine HKK.out _ _ _ _ _ _ _ _ _ _ _ _ _ _ _ _ _ _ _ _ _ _ _ _ _ _ _ _ _ _ _ _ _ _ W' D ⟨?_, ?_, HD.out, by rw [HDE.out]; exact hzL⟩
  · obtain ⟨t', h1, h2⟩ := HC.out.st
    have h3 := told_len (fun k => decide (0 < cw wh k fm)) true t
    rw [← HTO.out, HNL.out] at h3
    exact ⟨t', at_ + nL, h1, h2, by have := HM.out; omega, HC.out.ct⟩
  · have hf := HC.out.fr
    refine ⟨hf.os.trans HBL.out.os, hf.tape.trans HBL.out.tape, hf.output.trans HBL.out.output, Nat.le_trans hzL hf.size, fun b hb hn => ?_⟩
    refine (hf.block b (by omega) fun hh => ?_).trans (HBL.out.block b hb)
    rcases hh with hh | hh | hh | hh | hh
    · exact hn (.inl hh)
    · exact hn (.inr (.inl hh))
    · exact hn (.inr (.inr hh))
    · omega
    · omega
end Go.Proofs.Ytchmlephgkimcaa
