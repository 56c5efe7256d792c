/- TimersAgree: the round's region, in two pieces. -/
import Derived.Test.YtlmmcffbpdfcjaaTmT2
import Derived.Test.YtlmmcffbpdfcjaaPart
import Derived.WalkMore
set_option linter.unusedSimpArgs false
set_option linter.unusedVariables false
namespace Go.Proofs.Ytlmmcffbpdfcjaa
open Go.RowKit Go.Kp Go.ChangeMaps

attribute [local go_sem high] eqT neqT

set_option maxRecDepth 100000 in
set_option maxHeartbeats 8000000 in
theorem agree20_first (Q : Exit → Act → World → Prop) (hQ : PanicStays Q) {w16 : World} {qc mc g1 g2 c1 c2 b16 m B1 B2 : Nat} {v' : Value} {C one : List Tm.T} {M' : Tm.T → Option Nat} {last : Int} {i : Nat} {r : Tm.T} (hi0 : i = 0)
    (hT16 : Tq w16 qc mc v' C M') (hr16 : w16.ownsRow B1 25 4 (.slice (some ⟨g1, 0, none⟩) m c1) m (one.flatMap cT)) (hs16 : w16.ownsRow B2 25 4 (.slice (some ⟨g2, 0, none⟩) m c2) m (one.flatMap cT))
    (A16 : Blk w16 b16 25 (cT r).toArray) (hnf : ∀ b, (b = g1 ∨ b = g2 ∨ b = b16) → ¬ foot qc mc v' b) (hx : one[i]? = some r) (hmm : one.length = m) (hmb : m ≤ 1048576) (hxC : r ∈ C) (hxo : Ok r) (hdue : r.a ≤ last)
    {u0 u1 u2 u3 u4 u5 u6 u8 u9 u10 u11 u18 u19 u20 u21 u22 u23 u24 u25 u26 u27 u28 u29 u30 u31 u32 u33 u34 u35 u36 u37 u38 u39 u40 u41 u42 u43 u44 u45 u46 u47 u48 u49 u50 u51 u52 u53 u54 u55 u56 u57 u58 u59 u60 u61 u62 u63 u64 u65 u66 u67 u68 u69 u70 u71 u72 u73 u74 u75 u76 u77 u78 u79 u80 u81 u82 u83 u84 u85 u86 u87 u88 u89 u90 u91 u92 u93 u94 u95 u96 u97 u98 u99 u100 u101 u102 u103 u104 u105 u106 u107 u108 u109 u110 u111 u112 u113 u114 u115 u116 u117 u118 u119 u120 u121 u122 u123 u124 u125 u126 u127 u128 u129 u130 u131 u132 u133 u134 u135 u136 u137 u138 u139 u140 u141 u142 u143 u144 u145 u146 u147 u148 u149 u150 u151 u152 u153 u154 u155 u156 u157 u158 u159 u160 u161 u162 u163 u164 u165 u166 u167 u168 u169 u170 u171 u172 u173 u174 u175 u176 u177 u178 u179 u180 u181 u182 u183 u184 u185 u186 u187 u188 u189 u190 u191 u192 u193 u194 u195 u196 u197 u198 u199 : Value}
    (hK : ∀ (x104 x105 x106 x107 x108 x109 x110 x111 x112 x113 x114 x115 x116 x117 x118 x119 x120 x121 x122 x123 x124 x125 x126 x127 x128 x129 x130 x131 x132 x133 x134 x135 x136 x137 x138 x139 x140 x141 x142 x143 x144 x145 x146 x147 x148 x149 x150 x151 x152 x153 x154 x155 x156 x157 x158 x159 x160 x161 x162 x163 x164 x165 x166 x167 x168 : Value) (w20 : World) (v20 : Value) (C20 : List Tm.T) (M20 : Tm.T → Option Nat), Tq w20 qc mc v20 C20 M20 → Turn w16 w20 qc mc v' v20 → C20.Perm (C.erase r) → Q .normal { tmps := #[u0, u1, u2, u3, u4, u5, u6, .int .i64 last, u8, u9, u10, u11, ptr qc, .slice (some ⟨g1, 0, none⟩) m c1, .slice (some ⟨g2, 0, none⟩) m c2, .int .i64 0, .pointer (some ⟨b16, 0, none⟩), .bool true, u18, u19, u20, u21, u22, u23, u24, u25, u26, u27, u28, u29, u30, u31, u32, u33, u34, u35, u36, u37, u38, u39, u40, u41, u42, u43, u44, u45, u46, u47, u48, u49, u50, u51, u52, u53, u54, u55, u56, u57, u58, u59, u60, u61, u62, u63, u64, u65, u66, u67, u68, u69, u70, u71, u72, u73, u74, u75, u76, u77, u78, u79, u80, u81, u82, u83, u84, u85, u86, u87, u88, u89, u90, u91, u92, u93, u94, u95, u96, u97, u98, u99, u100, u101, u102, u103, x104, x105, x106, x107, x108, x109, x110, x111, x112, x113, x114, x115, x116, x117, x118, x119, x120, x121, x122, x123, x124, x125, x126, x127, x128, x129, x130, x131, x132, x133, x134, x135, x136, x137, x138, x139, x140, x141, x142, x143, x144, x145, x146, x147, x148, x149, x150, x151, x152, x153, x154, x155, x156, x157, x158, x159, x160, x161, x162, x163, x164, x165, x166, x167, x168, .bool false, u170, u171, u172, u173, u174, u175, u176, u177, u178, u179, u180, u181, u182, u183, u184, u185, u186, u187, u188, u189, u190, u191, u192, u193, u194, u195, u196, u197, u198, u199], defers := [] } w20) :
    (theRegion Try.f4 20).wp Try.prog Q { tmps := #[u0, u1, u2, u3, u4, u5, u6, .int .i64 last, u8, u9, u10, u11, ptr qc, .slice (some ⟨g1, 0, none⟩) m c1, .slice (some ⟨g2, 0, none⟩) m c2, .int .i64 0, .pointer (some ⟨b16, 0, none⟩), .bool true, u18, u19, u20, u21, u22, u23, u24, u25, u26, u27, u28, u29, u30, u31, u32, u33, u34, u35, u36, u37, u38, u39, u40, u41, u42, u43, u44, u45, u46, u47, u48, u49, u50, u51, u52, u53, u54, u55, u56, u57, u58, u59, u60, u61, u62, u63, u64, u65, u66, u67, u68, u69, u70, u71, u72, u73, u74, u75, u76, u77, u78, u79, u80, u81, u82, u83, u84, u85, u86, u87, u88, u89, u90, u91, u92, u93, u94, u95, u96, u97, u98, u99, u100, u101, u102, u103, u104, u105, u106, u107, u108, u109, u110, u111, u112, u113, u114, u115, u116, u117, u118, u119, u120, u121, u122, u123, u124, u125, u126, u127, u128, u129, u130, u131, u132, u133, u134, u135, u136, u137, u138, u139, u140, u141, u142, u143, u144, u145, u146, u147, u148, u149, u150, u151, u152, u153, u154, u155, u156, u157, u158, u159, u160, u161, u162, u163, u164, u165, u166, u167, u168, u169, u170, u171, u172, u173, u174, u175, u176, u177, u178, u179, u180, u181, u182, u183, u184, u185, u186, u187, u188, u189, u190, u191, u192, u193, u194, u195, u196, u197, u198, u199], defers := [] } w16 := by
  simp only [theRegion, Try.f4, regionOf, Nat.reduceEqDiff, if_false, if_true, reduceCtorEq, ite_false, ite_true, Option.getD_some, List.append_eq, List.cons_append, List.nil_append]
  subst hi0
  obtain ⟨p0, p1, p2, p3⟩ := row_cells hr16 hmm hx
  obtain ⟨d0, d1, d2, d3⟩ := row_cells hs16 hmm hx
  have him : 0 < m := by have := (List.getElem?_eq_some_iff.1 hx).1; omega
  have lg1 := (hr16.lt g1 rfl).2
  have lg2 := (hs16.lt g2 rfl).2
  have lA := A16.lt
  have HT16 := Lib.hid hT16
  have a0 := A16.cell 0
  have a1 := A16.cell 1
  have a2 := A16.cell 2
  have a3 := A16.cell 3
  simp only [List.getElem?_toArray, List.getElem?_cons_zero, List.getElem?_cons_succ] at a0 a1 a2 a3
  have HR16 := Lib.hid hr16
  have hgt : decide (last < r.a) = false := by simp; omega
  have HINC := Lib.hid (show decide (r ∈ C) = true by simpa using hxC)
  have HSS := Lib.hid (show ∀ b, (b = g1 ∨ b = g2 ∨ b = b16) → b < w16.heap.size by rintro b (rfl | rfl | rfl) <;> assumption)
  have HNF := Lib.hid hnf
  have HMM := Lib.hid hmm
  have HX := Lib.hid hx
  have HXO := Lib.hid hxo
  have HKK := Lib.hid hK
  clear hT16 hr16 hs16 hnf hmm hx hxo hxC hdue hK
  have HBW := Lib.hid (below_drewN (Below.refl w16.heap.size w16) 1)
  clear HR16
  (refine region_keep (fun b => b = g1 ∨ b = g2 ∨ b = b16) 64 [(0, true), (1, true), (2, true), (3, true), (4, true), (5, true), (6, true), (7, true), (8, true), (9, true), (10, true), (11, true), (12, true), (13, true), (14, true), (15, true), (16, true), (17, true), (18, true), (19, true), (20, true), (21, true), (22, true), (23, true), (24, true), (25, true), (26, true), (27, true), (28, true), (29, true), (30, true), (31, true), (32, true), (33, true), (34, true), (35, true), (36, true), (37, true), (38, true), (39, true), (40, false), (41, true), (42, true), (43, true), (44, true), (45, true), (46, true), (47, false), (48, true), (49, true), (50, true), (51, true), (52, true), (53, false), (54, true), (55, true), (56, true), (57, true), (58, true), (59, false), (60, true), (61, true), (62, true), (63, true)] (by kernel_rfl) hQ (by kernel_rfl) ?_; simp only [withOps, List.getElem?_toArray, List.getElem?_cons_zero, List.getElem?_cons_succ, List.drop_succ_cons, List.drop_zero])
  (iterate 31 (refine keep_quiet (v := ?_) rfl ?_ ?_; rotate_left; (focus (intro w' hw'; go_simp; (try with_reducible rfl); done)); try simp only [Act.put, List.setIfInBounds_toArray, List.set_cons_zero, List.set_cons_succ]))
  (iterate 9 ((with_reducible refine plan_skip ?_ ?_); (focus rfl); try simp only [Act.put, List.setIfInBounds_toArray, List.set_cons_zero, List.set_cons_succ]))
  (with_reducible refine plan_loud (fun K hK => ?_))
  go_simp
  (with_reducible refine hK _ _ (Keep.refl _ _) ?_)
  clear hK K
  (try simp only [Act.put, List.setIfInBounds_toArray, List.set_cons_zero, List.set_cons_succ])
  (iterate 1 ((with_reducible refine plan_skip ?_ ?_); (focus rfl); try simp only [Act.put, List.setIfInBounds_toArray, List.set_cons_zero, List.set_cons_succ]))
  (iterate 5 (refine keep_quiet (v := ?_) rfl ?_ ?_; rotate_left; (focus (intro w' hw'; go_simp; (try with_reducible rfl); done)); try simp only [Act.put, List.setIfInBounds_toArray, List.set_cons_zero, List.set_cons_succ]))
  (with_reducible refine plan_loud (fun K hK => ?_))
  go_simp
  refine (Has_any (HT16.out.below HBW.out) r HXO.out).mono ?_
  rintro en w17 ⟨rfl, hb17⟩
  rw [HINC.out]
  have hB17 : Below w16.heap.size w16 w17 := bnext HBW.out hb17
  refine hK _ _ (fun b hb => (hb17.block b (Nat.lt_of_lt_of_le (HSS.out b hb) HBW.out.size))) ?_
  clear hK K
  have A17 := A16.below hB17
  have HT17 := Lib.hid (HT16.out.below hB17)
  have HTU17 := Lib.hid (show Turn w16 w17 qc mc v' v' from Turn.of hB17)
  clear a0 a1 a2 a3
  have a0 := A17.cell 0
  have a1 := A17.cell 1
  have a2 := A17.cell 2
  have a3 := A17.cell 3
  simp only [List.getElem?_toArray, List.getElem?_cons_zero, List.getElem?_cons_succ] at a0 a1 a2 a3
  (try simp only [Act.put, List.setIfInBounds_toArray, List.set_cons_zero, List.set_cons_succ])
  (iterate 5 (refine keep_quiet (v := ?_) rfl ?_ ?_; rotate_left; (focus (intro w' hw'; go_simp; (try with_reducible rfl); done)); try simp only [Act.put, List.setIfInBounds_toArray, List.set_cons_zero, List.set_cons_succ]))
  (with_reducible refine plan_loud (fun K hK => ?_))
  go_simp
  refine (Drop_any HT17.out r HXO.out).mono ?_
  rintro en w18 ⟨rfl, v18, C18, M18, hT18, hp18, hTU18⟩
  rw [HINC.out]
  have hk18 : ∀ b, (b = g1 ∨ b = g2 ∨ b = b16) → w18.heap[b]? = w17.heap[b]? := fun b hb => hTU18.fr.block b (Nat.lt_of_lt_of_le (HSS.out b hb) hB17.size) (HNF.out b hb)
  refine hK _ _ hk18 ?_
  clear hK K
  have A18 : Blk w18 b16 25 (cT r).toArray := (hk18 _ (.inr (.inr rfl))).trans A17
  have HT18 := Lib.hid hT18
  have HTU18 := Lib.hid (HTU17.out.trans hTU18)
  have HPR := Lib.hid hp18
  have HOUT := Lib.hid (show decide (r ∈ C18) = false by
    have : r ∉ C18 := fun h => by
      have := (hp18.mem_iff).1 h
      rw [HT16.out.full.nodup.mem_erase_iff] at this
      exact this.1 rfl
    simpa using this)
  have hs17 : w17.heap.size ≤ w18.heap.size := hTU18.fr.size
  clear a0 a1 a2 a3 hT18 hp18 hTU18
  have a0 := A18.cell 0
  have a1 := A18.cell 1
  have a2 := A18.cell 2
  have a3 := A18.cell 3
  simp only [List.getElem?_toArray, List.getElem?_cons_zero, List.getElem?_cons_succ] at a0 a1 a2 a3
  have lA18 := A18.lt
  (try simp only [Act.put, List.setIfInBounds_toArray, List.set_cons_zero, List.set_cons_succ])
  (iterate 5 (refine keep_quiet (v := ?_) rfl ?_ ?_; rotate_left; (focus (intro w' hw'; go_simp; (try with_reducible rfl); done)); try simp only [Act.put, List.setIfInBounds_toArray, List.set_cons_zero, List.set_cons_succ]))
  (with_reducible refine plan_loud (fun K hK => ?_))
  go_simp
  refine (Has_any HT18.out r HXO.out).mono ?_
  rintro en w19 ⟨rfl, hb19⟩
  rw [HOUT.out]
  refine hK _ _ (fun b hb => hb19.block b (by have := hB17.size; have := HSS.out b hb; omega)) ?_
  clear hK K
  have A19 := A18.below hb19
  have HT19 := Lib.hid (HT18.out.below hb19)
  have HTU19 := Lib.hid (HTU18.out.next hb19)
  clear a0 a1 a2 a3 hb19
  have a0 := A19.cell 0
  have a1 := A19.cell 1
  have a2 := A19.cell 2
  have a3 := A19.cell 3
  simp only [List.getElem?_toArray, List.getElem?_cons_zero, List.getElem?_cons_succ] at a0 a1 a2 a3
  (try simp only [Act.put, List.setIfInBounds_toArray, List.set_cons_zero, List.set_cons_succ])
  (iterate 4 (refine keep_quiet (v := ?_) rfl ?_ ?_; rotate_left; (focus (intro w' hw'; go_simp; (try with_reducible rfl); done)); try simp only [Act.put, List.setIfInBounds_toArray, List.set_cons_zero, List.set_cons_succ]))
  (with_reducible refine plan_end ?_)
  (try simp only [Act.put, List.setIfInBounds_toArray, List.set_cons_zero, List.set_cons_succ])
  go_wp2_with fail
  refine (Drop_any HT19.out r HXO.out).mono ?_
  rintro en w20 ⟨rfl, v20, C20, M20, hT20, hp20, hTU20⟩
  rw [HOUT.out]
  have hP20 : C20.Perm (C.erase r) := by
    have h2 : r ∉ C18 := by simpa using HOUT.out
    rw [List.erase_of_not_mem h2] at hp20
    exact hp20.trans HPR.out
  have hTU := HTU19.out.trans hTU20
  clear a0 a1 a2 a3 p0 p1 p2 p3 d0 d1 d2 d3 hk18 hp20 hTU20
  go_wp2_with fail
  exact HKK.out _ _ _ _ _ _ _ _ _ _ _ _ _ _ _ _ _ _ _ _ _ _ _ _ _ _ _ _ _ _ _ _ _ _ _ _ _ _ _ _ _ _ _ _ _ _ _ _ _ _ _ _ _ _ _ _ _ _ _ _ _ _ _ _ _ _ _ _ _ hT20 hTU hP20

set_option maxRecDepth 100000 in
set_option maxHeartbeats 8000000 in
theorem agree20_next (Q : Exit → Act → World → Prop) (hQ : PanicStays Q) {w16 : World} {qc mc g1 g2 c1 c2 b16 m B1 B2 : Nat} {v' : Value} {C one : List Tm.T} {M' : Tm.T → Option Nat} {last : Int} {i : Nat} {r : Tm.T} {k : Nat} {y : Tm.T} (hk : i = k + 1) (hy : one[k]? = some y) (hyr : Tm.cmp y r < 0)
    (hT16 : Tq w16 qc mc v' C M') (hr16 : w16.ownsRow B1 25 4 (.slice (some ⟨g1, 0, none⟩) m c1) m (one.flatMap cT)) (hs16 : w16.ownsRow B2 25 4 (.slice (some ⟨g2, 0, none⟩) m c2) m (one.flatMap cT))
    (A16 : Blk w16 b16 25 (cT r).toArray) (hnf : ∀ b, (b = g1 ∨ b = g2 ∨ b = b16) → ¬ foot qc mc v' b) (hx : one[i]? = some r) (hmm : one.length = m) (hmb : m ≤ 1048576) (hxC : r ∈ C) (hxo : Ok r) (hdue : r.a ≤ last)
    {u0 u1 u2 u3 u4 u5 u6 u8 u9 u10 u11 u18 u19 u20 u21 u22 u23 u24 u25 u26 u27 u28 u29 u30 u31 u32 u33 u34 u35 u36 u37 u38 u39 u40 u41 u42 u43 u44 u45 u46 u47 u48 u49 u50 u51 u52 u53 u54 u55 u56 u57 u58 u59 u60 u61 u62 u63 u64 u65 u66 u67 u68 u69 u70 u71 u72 u73 u74 u75 u76 u77 u78 u79 u80 u81 u82 u83 u84 u85 u86 u87 u88 u89 u90 u91 u92 u93 u94 u95 u96 u97 u98 u99 u100 u101 u102 u103 u104 u105 u106 u107 u108 u109 u110 u111 u112 u113 u114 u115 u116 u117 u118 u119 u120 u121 u122 u123 u124 u125 u126 u127 u128 u129 u130 u131 u132 u133 u134 u135 u136 u137 u138 u139 u140 u141 u142 u143 u144 u145 u146 u147 u148 u149 u150 u151 u152 u153 u154 u155 u156 u157 u158 u159 u160 u161 u162 u163 u164 u165 u166 u167 u168 u169 u170 u171 u172 u173 u174 u175 u176 u177 u178 u179 u180 u181 u182 u183 u184 u185 u186 u187 u188 u189 u190 u191 u192 u193 u194 u195 u196 u197 u198 u199 : Value}
    (hK : ∀ (x104 x105 x106 x107 x108 x109 x110 x111 x112 x113 x114 x115 x116 x117 x118 x119 x120 x121 x122 x123 x124 x125 x126 x127 x128 x129 x130 x131 x132 x133 x134 x135 x136 x137 x138 x139 x140 x141 x142 x143 x144 x145 x146 x147 x148 x149 x150 x151 x152 x153 x154 x155 x156 x157 x158 x159 x160 x161 x162 x163 x164 x165 x166 x167 x168 : Value) (w20 : World) (v20 : Value) (C20 : List Tm.T) (M20 : Tm.T → Option Nat), Tq w20 qc mc v20 C20 M20 → Turn w16 w20 qc mc v' v20 → C20.Perm (C.erase r) → Q .normal { tmps := #[u0, u1, u2, u3, u4, u5, u6, .int .i64 last, u8, u9, u10, u11, ptr qc, .slice (some ⟨g1, 0, none⟩) m c1, .slice (some ⟨g2, 0, none⟩) m c2, .int .i64 i, .pointer (some ⟨b16, 0, none⟩), .bool true, u18, u19, u20, u21, u22, u23, u24, u25, u26, u27, u28, u29, u30, u31, u32, u33, u34, u35, u36, u37, u38, u39, u40, u41, u42, u43, u44, u45, u46, u47, u48, u49, u50, u51, u52, u53, u54, u55, u56, u57, u58, u59, u60, u61, u62, u63, u64, u65, u66, u67, u68, u69, u70, u71, u72, u73, u74, u75, u76, u77, u78, u79, u80, u81, u82, u83, u84, u85, u86, u87, u88, u89, u90, u91, u92, u93, u94, u95, u96, u97, u98, u99, u100, u101, u102, u103, x104, x105, x106, x107, x108, x109, x110, x111, x112, x113, x114, x115, x116, x117, x118, x119, x120, x121, x122, x123, x124, x125, x126, x127, x128, x129, x130, x131, x132, x133, x134, x135, x136, x137, x138, x139, x140, x141, x142, x143, x144, x145, x146, x147, x148, x149, x150, x151, x152, x153, x154, x155, x156, x157, x158, x159, x160, x161, x162, x163, x164, x165, x166, x167, x168, .bool false, u170, u171, u172, u173, u174, u175, u176, u177, u178, u179, u180, u181, u182, u183, u184, u185, u186, u187, u188, u189, u190, u191, u192, u193, u194, u195, u196, u197, u198, u199], defers := [] } w20) :
    (theRegion Try.f4 20).wp Try.prog Q { tmps := #[u0, u1, u2, u3, u4, u5, u6, .int .i64 last, u8, u9, u10, u11, ptr qc, .slice (some ⟨g1, 0, none⟩) m c1, .slice (some ⟨g2, 0, none⟩) m c2, .int .i64 i, .pointer (some ⟨b16, 0, none⟩), .bool true, u18, u19, u20, u21, u22, u23, u24, u25, u26, u27, u28, u29, u30, u31, u32, u33, u34, u35, u36, u37, u38, u39, u40, u41, u42, u43, u44, u45, u46, u47, u48, u49, u50, u51, u52, u53, u54, u55, u56, u57, u58, u59, u60, u61, u62, u63, u64, u65, u66, u67, u68, u69, u70, u71, u72, u73, u74, u75, u76, u77, u78, u79, u80, u81, u82, u83, u84, u85, u86, u87, u88, u89, u90, u91, u92, u93, u94, u95, u96, u97, u98, u99, u100, u101, u102, u103, u104, u105, u106, u107, u108, u109, u110, u111, u112, u113, u114, u115, u116, u117, u118, u119, u120, u121, u122, u123, u124, u125, u126, u127, u128, u129, u130, u131, u132, u133, u134, u135, u136, u137, u138, u139, u140, u141, u142, u143, u144, u145, u146, u147, u148, u149, u150, u151, u152, u153, u154, u155, u156, u157, u158, u159, u160, u161, u162, u163, u164, u165, u166, u167, u168, u169, u170, u171, u172, u173, u174, u175, u176, u177, u178, u179, u180, u181, u182, u183, u184, u185, u186, u187, u188, u189, u190, u191, u192, u193, u194, u195, u196, u197, u198, u199], defers := [] } w16 := by
  simp only [theRegion, Try.f4, regionOf, Nat.reduceEqDiff, if_false, if_true, reduceCtorEq, ite_false, ite_true, Option.getD_some, List.append_eq, List.cons_append, List.nil_append]
  obtain ⟨p0, p1, p2, p3⟩ := row_cells hr16 hmm hx
  obtain ⟨d0, d1, d2, d3⟩ := row_cells hs16 hmm hx
  have him : i < m := by have := (List.getElem?_eq_some_iff.1 hx).1; omega
  have lg1 := (hr16.lt g1 rfl).2
  have lg2 := (hs16.lt g2 rfl).2
  have lA := A16.lt
  have HT16 := Lib.hid hT16
  have a0 := A16.cell 0
  have a1 := A16.cell 1
  have a2 := A16.cell 2
  have a3 := A16.cell 3
  simp only [List.getElem?_toArray, List.getElem?_cons_zero, List.getElem?_cons_succ] at a0 a1 a2 a3
  have HR16 := Lib.hid hr16
  have hgt : decide (last < r.a) = false := by simp; omega
  have HINC := Lib.hid (show decide (r ∈ C) = true by simpa using hxC)
  have HSS := Lib.hid (show ∀ b, (b = g1 ∨ b = g2 ∨ b = b16) → b < w16.heap.size by rintro b (rfl | rfl | rfl) <;> assumption)
  have HNF := Lib.hid hnf
  have HMM := Lib.hid hmm
  have HX := Lib.hid hx
  have HXO := Lib.hid hxo
  have HKK := Lib.hid hK
  clear hT16 hr16 hs16 hnf hmm hx hxo hxC hdue hK
  obtain ⟨f0, f1, f2, f3⟩ := row_cells HR16.out HMM.out hy
  have hkm : k < m := by omega
  have hwk : IntKind.i64.wrap ((i : Int) - 1) = (k : Int) := by rw [IntKind.wrap_i64]; omega
  have hyr' : decide (0 ≤ Tm.cmp y r) = false := by simp; exact hyr
  have hip : decide ((0 : Int) < (i : Int)) = true := by simp; omega
  have hip2 : decide (0 < i) = true := by simp; omega
  clear hy hk
  (refine region_keep (fun b => b = g1 ∨ b = g2 ∨ b = b16) 64 [(0, true), (1, true), (2, true), (3, true), (4, true), (5, true), (6, true), (7, true), (8, true), (9, true), (10, true), (11, true), (12, true), (13, true), (14, true), (15, true), (16, true), (17, true), (18, true), (19, true), (20, true), (21, true), (22, true), (23, true), (24, true), (25, true), (26, true), (27, true), (28, true), (29, true), (30, true), (31, true), (32, true), (33, true), (34, true), (35, true), (36, true), (37, true), (38, true), (39, true), (40, false), (41, true), (42, true), (43, true), (44, true), (45, true), (46, true), (47, false), (48, true), (49, true), (50, true), (51, true), (52, true), (53, false), (54, true), (55, true), (56, true), (57, true), (58, true), (59, false), (60, true), (61, true), (62, true), (63, true)] (by kernel_rfl) hQ (by kernel_rfl) ?_; simp only [withOps, List.getElem?_toArray, List.getElem?_cons_zero, List.getElem?_cons_succ, List.drop_succ_cons, List.drop_zero])
  (iterate 40 (refine keep_quiet (v := ?_) rfl ?_ ?_; rotate_left; (focus (intro w' hw'; go_simp; (try with_reducible rfl); done)); try simp only [Act.put, List.setIfInBounds_toArray, List.set_cons_zero, List.set_cons_succ]))
  (with_reducible refine plan_loud (fun K hK => ?_))
  go_simp
  refine (Compare_any y r _).mono ?_
  rintro en wz ⟨rfl, hbz⟩
  refine hK _ _ (fun b hb => hbz.block b (HSS.out b hb)) ?_
  clear hK K
  have hBz : Below w16.heap.size w16 wz := bnext (by go_grown) hbz
  have HBW := Lib.hid hBz
  have Az := A16.below hBz
  clear hbz a0 a1 a2 a3 HR16 f0 f1 f2 f3
  have a0 := Az.cell 0
  have a1 := Az.cell 1
  have a2 := Az.cell 2
  have a3 := Az.cell 3
  simp only [List.getElem?_toArray, List.getElem?_cons_zero, List.getElem?_cons_succ] at a0 a1 a2 a3
  (try simp only [Act.put, List.setIfInBounds_toArray, List.set_cons_zero, List.set_cons_succ])
  (iterate 1 (refine keep_quiet (v := ?_) rfl ?_ ?_; rotate_left; (focus (intro w' hw'; go_simp; (try with_reducible rfl); done)); try simp only [Act.put, List.setIfInBounds_toArray, List.set_cons_zero, List.set_cons_succ]))
  (iterate 5 (refine keep_quiet (v := ?_) rfl ?_ ?_; rotate_left; (focus (intro w' hw'; go_simp; (try with_reducible rfl); done)); try simp only [Act.put, List.setIfInBounds_toArray, List.set_cons_zero, List.set_cons_succ]))
  (with_reducible refine plan_loud (fun K hK => ?_))
  go_simp
  refine (Has_any (HT16.out.below HBW.out) r HXO.out).mono ?_
  rintro en w17 ⟨rfl, hb17⟩
  rw [HINC.out]
  have hB17 : Below w16.heap.size w16 w17 := bnext HBW.out hb17
  refine hK _ _ (fun b hb => (hb17.block b (Nat.lt_of_lt_of_le (HSS.out b hb) HBW.out.size))) ?_
  clear hK K
  have A17 := A16.below hB17
  have HT17 := Lib.hid (HT16.out.below hB17)
  have HTU17 := Lib.hid (show Turn w16 w17 qc mc v' v' from Turn.of hB17)
  clear a0 a1 a2 a3
  have a0 := A17.cell 0
  have a1 := A17.cell 1
  have a2 := A17.cell 2
  have a3 := A17.cell 3
  simp only [List.getElem?_toArray, List.getElem?_cons_zero, List.getElem?_cons_succ] at a0 a1 a2 a3
  (try simp only [Act.put, List.setIfInBounds_toArray, List.set_cons_zero, List.set_cons_succ])
  (iterate 5 (refine keep_quiet (v := ?_) rfl ?_ ?_; rotate_left; (focus (intro w' hw'; go_simp; (try with_reducible rfl); done)); try simp only [Act.put, List.setIfInBounds_toArray, List.set_cons_zero, List.set_cons_succ]))
  (with_reducible refine plan_loud (fun K hK => ?_))
  go_simp
  refine (Drop_any HT17.out r HXO.out).mono ?_
  rintro en w18 ⟨rfl, v18, C18, M18, hT18, hp18, hTU18⟩
  rw [HINC.out]
  have hk18 : ∀ b, (b = g1 ∨ b = g2 ∨ b = b16) → w18.heap[b]? = w17.heap[b]? := fun b hb => hTU18.fr.block b (Nat.lt_of_lt_of_le (HSS.out b hb) hB17.size) (HNF.out b hb)
  refine hK _ _ hk18 ?_
  clear hK K
  have A18 : Blk w18 b16 25 (cT r).toArray := (hk18 _ (.inr (.inr rfl))).trans A17
  have HT18 := Lib.hid hT18
  have HTU18 := Lib.hid (HTU17.out.trans hTU18)
  have HPR := Lib.hid hp18
  have HOUT := Lib.hid (show decide (r ∈ C18) = false by
    have : r ∉ C18 := fun h => by
      have := (hp18.mem_iff).1 h
      rw [HT16.out.full.nodup.mem_erase_iff] at this
      exact this.1 rfl
    simpa using this)
  have hs17 : w17.heap.size ≤ w18.heap.size := hTU18.fr.size
  clear a0 a1 a2 a3 hT18 hp18 hTU18
  have a0 := A18.cell 0
  have a1 := A18.cell 1
  have a2 := A18.cell 2
  have a3 := A18.cell 3
  simp only [List.getElem?_toArray, List.getElem?_cons_zero, List.getElem?_cons_succ] at a0 a1 a2 a3
  have lA18 := A18.lt
  (try simp only [Act.put, List.setIfInBounds_toArray, List.set_cons_zero, List.set_cons_succ])
  (iterate 5 (refine keep_quiet (v := ?_) rfl ?_ ?_; rotate_left; (focus (intro w' hw'; go_simp; (try with_reducible rfl); done)); try simp only [Act.put, List.setIfInBounds_toArray, List.set_cons_zero, List.set_cons_succ]))
  (with_reducible refine plan_loud (fun K hK => ?_))
  go_simp
  refine (Has_any HT18.out r HXO.out).mono ?_
  rintro en w19 ⟨rfl, hb19⟩
  rw [HOUT.out]
  refine hK _ _ (fun b hb => hb19.block b (by have := hB17.size; have := HSS.out b hb; omega)) ?_
  clear hK K
  have A19 := A18.below hb19
  have HT19 := Lib.hid (HT18.out.below hb19)
  have HTU19 := Lib.hid (HTU18.out.next hb19)
  clear a0 a1 a2 a3 hb19
  have a0 := A19.cell 0
  have a1 := A19.cell 1
  have a2 := A19.cell 2
  have a3 := A19.cell 3
  simp only [List.getElem?_toArray, List.getElem?_cons_zero, List.getElem?_cons_succ] at a0 a1 a2 a3
  (try simp only [Act.put, List.setIfInBounds_toArray, List.set_cons_zero, List.set_cons_succ])
  (iterate 4 (refine keep_quiet (v := ?_) rfl ?_ ?_; rotate_left; (focus (intro w' hw'; go_simp; (try with_reducible rfl); done)); try simp only [Act.put, List.setIfInBounds_toArray, List.set_cons_zero, List.set_cons_succ]))
  (with_reducible refine plan_end ?_)
  (try simp only [Act.put, List.setIfInBounds_toArray, List.set_cons_zero, List.set_cons_succ])
  go_wp2_with fail
  refine (Drop_any HT19.out r HXO.out).mono ?_
  rintro en w20 ⟨rfl, v20, C20, M20, hT20, hp20, hTU20⟩
  rw [HOUT.out]
  have hP20 : C20.Perm (C.erase r) := by
    have h2 : r ∉ C18 := by simpa using HOUT.out
    rw [List.erase_of_not_mem h2] at hp20
    exact hp20.trans HPR.out
  have hTU := HTU19.out.trans hTU20
  clear a0 a1 a2 a3 p0 p1 p2 p3 d0 d1 d2 d3 hk18 hp20 hTU20
  go_wp2_with fail
  exact HKK.out _ _ _ _ _ _ _ _ _ _ _ _ _ _ _ _ _ _ _ _ _ _ _ _ _ _ _ _ _ _ _ _ _ _ _ _ _ _ _ _ _ _ _ _ _ _ _ _ _ _ _ _ _ _ _ _ _ _ _ _ _ _ _ _ _ _ _ _ _ hT20 hTU hP20
end Go.Proofs.Ytlmmcffbpdfcjaa
