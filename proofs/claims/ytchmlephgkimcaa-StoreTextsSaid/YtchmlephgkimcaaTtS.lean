/- Store: StoreTexts: what From and Back tell is counted (printed by mktts.py). -/
import Derived.Test.YtchmlephgkimcaaTtQ
import Derived.WalkMore
import Derived.Laws.Cover1
set_option linter.unusedSimpArgs false
set_option linter.unusedVariables false
namespace Go.Proofs.Ytchmlephgkimcaa.Tx
open Go.RowKit Go.Kp Go.St Go.Shelf
attribute [local go_sem] Oper.semAt_some

theorem told_out {p : Kx → Bool} {back : Bool} {t : Tr} {q : Kx × Vx} (h : q ∈ told p back t) : p q.1 = false := by
  have := (List.mem_filter.1 h).2
  simpa using this

set_option maxRecDepth 100000 in
set_option maxHeartbeats 16000000 in
theorem from_cnt (Q : Exit → Act → World → Prop) {w : World} {g b5 b25 : Nat} {t : Tr} (key : ByteArray) (m0 : Nat) (ds : List Deferred) {S' : World → Prop} {id' : Nat} {caps' : Array Value} {p : Kx → Bool} {bm bb bo : Nat} {u0 u1 u2 u3 u4 u6 u7 u8 u9 u10 u11 u12 u13 u14 u15 u16 u17 u18 u19 u20 u21 u22 u23 u24 u26 u27 u28 u29 u30 u31 u32 u33 u34 u35 u36 u37 u38 u39 u40 u41 u42 u43 u44 u45 u46 u47 u48 u49 u50 u51 u52 u53 u54 u55 u56 u57 u58 u59 u60 u61 u62 u63 u64 u65 u66 u67 u68 u69 u70 u71 u72 u73 u74 u75 u76 u77 u78 u79 u80 u81 u82 u83 u84 u85 u86 u87 u88 u89 u90 u91 u92 u93 u94 u95 u96 u97 u98 u99 u100 u101 u102 u103 u104 u105 u106 u107 u108 u109 u110 u111 u112 u113 u114 u115 u116 u117 u118 u119 u120 u121 u122 u123 u124 u125 u126 u127 u128 u129 u130 u131 u132 u133 u134 u135 u136 u137 u138 u139 u140 u141 u142 u143 u144 u145 u146 u147 u148 u149 u150 u151 u152 u153 u154 u155 u156 u157 u158 u159 u160 u161 u162 u163 u164 u165 u166 u167 u168 u169 u170 u171 u172 u173 u174 u175 u176 u177 u178 u179 u180 u181 u182 u183 u184 u186 u187 u188 u189 u190 u191 u192 u193 u194 u195 u196 u197 u198 u199 u200 u201 u202 u203 u204 u205 u206 u207 u208 u209 u210 u211 u212 u213 u214 u215 : Value}
    (hM : MapS w g t) (hmany : t.many ≤ 8796093022208) (hm0 : m0 ≤ 8796093022208) (c5 : Blk w b5 9 #[.string key]) (c25 : Blk w b25 3 #[.int .i64 (m0 : Int)])
    (hW : Wk S' id' caps' p false g bm bb bo w) (hmo : Mono p false t) (hS : ∀ W', Fr (fun b => b = b25 ∨ w.heap.size ≤ b) w W' → S' W') (hcond : ∀ q ∈ told p false t, Op.bytesLess q.1.toList key.toList = false)
    (hK : ∀ (W' : World) (D : Nat), Fr (fun b => b = b25 ∨ w.heap.size ≤ b) w W' → Blk W' b25 3 #[.int .i64 ((m0 + (told p false t).length : Nat) : Int)] → W'.heap[D]? = some (.deferred (some [])) → D = w.heap.size → Q .normal { tmps := #[u0, u1, u2, u3, u4, ptr b5, u6, u7, u8, u9, u10, u11, u12, u13, u14, u15, u16, u17, u18, u19, u20, u21, u22, u23, u24, ptr b25, u26, u27, u28, u29, u30, u31, u32, u33, u34, u35, u36, u37, u38, u39, u40, u41, u42, u43, u44, u45, u46, u47, u48, u49, u50, u51, u52, u53, u54, u55, u56, u57, u58, u59, u60, u61, u62, u63, u64, u65, u66, u67, u68, u69, u70, u71, u72, u73, u74, u75, u76, u77, u78, u79, u80, u81, u82, u83, u84, u85, u86, u87, u88, u89, u90, u91, u92, u93, u94, u95, u96, u97, u98, u99, u100, u101, u102, u103, u104, u105, u106, u107, u108, u109, u110, u111, u112, u113, u114, u115, u116, u117, u118, u119, u120, u121, u122, u123, u124, u125, u126, u127, u128, u129, u130, u131, u132, u133, u134, u135, u136, u137, u138, u139, u140, u141, u142, u143, u144, u145, u146, u147, u148, u149, u150, u151, u152, u153, u154, u155, u156, u157, u158, u159, u160, u161, u162, u163, u164, u165, u166, u167, u168, u169, u170, u171, u172, u173, u174, u175, u176, u177, u178, u179, u180, u181, u182, u183, u184, wkV bm bb bo, u186, u187, u188, u189, u190, u191, u192, u193, u194, u195, u196, u197, u198, u199, u200, u201, u202, u203, u204, u205, u206, u207, u208, u209, u210, u211, u212, u213, u214, u215], defers := { target := .collected D, args := #[] } :: ds } W') :
    (theBlock Try.f4 6).wp Try.prog Q { tmps := #[u0, u1, u2, u3, u4, ptr b5, u6, u7, u8, u9, u10, u11, u12, u13, u14, u15, u16, u17, u18, u19, u20, u21, u22, u23, u24, ptr b25, u26, u27, u28, u29, u30, u31, u32, u33, u34, u35, u36, u37, u38, u39, u40, u41, u42, u43, u44, u45, u46, u47, u48, u49, u50, u51, u52, u53, u54, u55, u56, u57, u58, u59, u60, u61, u62, u63, u64, u65, u66, u67, u68, u69, u70, u71, u72, u73, u74, u75, u76, u77, u78, u79, u80, u81, u82, u83, u84, u85, u86, u87, u88, u89, u90, u91, u92, u93, u94, u95, u96, u97, u98, u99, u100, u101, u102, u103, u104, u105, u106, u107, u108, u109, u110, u111, u112, u113, u114, u115, u116, u117, u118, u119, u120, u121, u122, u123, u124, u125, u126, u127, u128, u129, u130, u131, u132, u133, u134, u135, u136, u137, u138, u139, u140, u141, u142, u143, u144, u145, u146, u147, u148, u149, u150, u151, u152, u153, u154, u155, u156, u157, u158, u159, u160, u161, u162, u163, u164, u165, u166, u167, u168, u169, u170, u171, u172, u173, u174, u175, u176, u177, u178, u179, u180, u181, u182, u183, u184, wkV bm bb bo, u186, u187, u188, u189, u190, u191, u192, u193, u194, u195, u196, u197, u198, u199, u200, u201, u202, u203, u204, u205, u206, u207, u208, u209, u210, u211, u212, u213, u214, u215], defers := ds } w := by
  simp only [theBlock, Try.f4, blockOf, Nat.reduceEqDiff, if_false, if_true, reduceCtorEq, ite_false, ite_true, Option.getD_some]
  have HM := Lib.hid hM
  have HC5 := Lib.hid c5
  have HC25 := Lib.hid c25
  have HW := Lib.hid hW
  have HMO := Lib.hid hmo
  have HS := Lib.hid hS
  have HCD := Lib.hid hcond
  have HKK := Lib.hid hK
  have HTL := Lib.hid (told_len p false t)
  have hn5 : ¬ b5 = b25 := blk_types c5 c25 (by decide)
  have HLB := Lib.hid (show b25 < w.heap.size from c25.lt)
  clear hM c5 c25 hW hmo hS hcond hK
  go_wp2_with fail
  refine (wpIn_wide (n := 6)).1 ?_
  refine wpIn_rangeFunc_L rfl (by decide) (gf := 71) (lb := #[.pointer (some ⟨bm, 0, none⟩), .pointer (some ⟨bb, 0, none⟩), .pointer (some ⟨bo, 0, none⟩)]) rfl trivial (enters_of Try.func71 (by kernel_rfl) rfl)
    (encs := wkArgs) (T := WkT (told p false t)) (S := fun xs => xs = told p false t) (Sp := fun _ => True) (Pf := fun _ => False) (Ro := fun _ => False) (K := WkK S' w bb bo false id' caps')
    (fun W' hW' => by
      obtain ⟨ra, hg, ht⟩ := HM.out.cells
      exact walk_seq _ HW.out.out bm bb bo g false t ra _ ⟨_, _, rfl⟩ (HW.out.bm.below hW') (hg.below hW') ht HMO.out hmany)
    (fun _ h => h.elim) (fun _ h => h.elim) (fun _ => rfl)
    (fun pre Pv W => (∀ k, Pv k → w.heap.size ≤ k) ∧ Fr (fun b => b = b25 ∨ w.heap.size ≤ b) w W ∧ Blk W b25 3 #[.int .i64 ((m0 + pre.length : Nat) : Int)])
    (fun c pre Pv W => False)
    ?stab ?stabx ?keep ?start ?round ?done ?stop
  case stab =>
    rintro pre Pv Pv' W W' ⟨h1, h2, h3⟩ hf hP
    have hs := h2.size
    have hl := HLB.out
    refine ⟨fun k hk => (hP k hk).elim (h1 k) (fun h => by omega), h2.trans (hf.mono fun k _ h => h.elim (fun h => .inr (h1 k h)) (fun h => .inr (by omega))), ?_⟩
    exact (hf.block _ h3.lt (fun h => h.elim (fun h => by have := h1 _ h; omega) (fun h => by omega))).trans h3
  case stabx => exact fun _ _ _ _ _ _ h => h.elim
  case stop => exact fun _ _ _ _ _ _ _ h => h.elim
  case start => exact ⟨fun _ h => h.elim, Fr.refl _ _, HC25.out⟩
  case keep =>
    rintro pre Pv W ⟨h1, h2, h3⟩
    have keep : ∀ b ty cs, Blk w b ty cs → ty ≠ 3 → W.heap[b]? = w.heap[b]? := fun b ty cs hB n2 => by
      refine h2.block b hB.lt fun hh => ?_
      rcases hh with rfl | hh
      · exact blk_types hB HC25.out n2 rfl
      · have := hB.lt; omega
    exact ⟨HS.out W h2, h2.size, fun b cs hB => keep _ _ _ hB (by decide), (keep _ _ _ HW.out.bb (by decide)).trans HW.out.bb, (keep _ _ _ HW.out.bo (by decide)).trans HW.out.bo⟩
  case done =>
    rintro D xs Pv W hD rfl ⟨h1, h2, h3⟩ hK
    gi_wp2_with fail
    exact HKK.out _ _ h2 h3 hK hD
  case round =>
    rintro rl pre x Pv W hrl hrs hp1 hp2 hrec hdef ⟨hPv, hF, hN⟩ ⟨⟨R, hSR⟩, hPl⟩
    subst hrl
    obtain ⟨k, hk⟩ : ∃ k, pre.length = k := ⟨_, rfl⟩
    rw [hk] at hN
    have hkm : m0 + k ≤ 17592186044416 := by
      have h1 := HTL.out
      rw [hSR] at h1
      simp at h1
      omega
    have HXM := Lib.hid (show x ∈ told p false t by rw [hSR]; simp)
    obtain ⟨xk, xv⟩ := x
    obtain ⟨xa, xn, xc⟩ := xv
    have hc1 := HCD.out _ HXM.out
    dsimp only at hc1
    have HPL := Lib.hid hPl
    have HF := Lib.hid hF
    have HPV := Lib.hid hPv
    have HP1 := Lib.hid hp1
    have HKP := Lib.hid hk
    have HRS := Lib.hid hrs
    have HNN := Lib.hid hN
    clear hrec hdef hPl hSR hF hPv hp1 hk hp2 hrs hN
    dsimp only [wkArgs]
    gi_wp2_with fail
    refine ⟨trivial, trivial, fun W2 hO hlr => ?_⟩
    have hl := HLB.out
    have hz := HF.out.size
    have HO := Lib.hid hO
    have D5 : Blk W2 b5 9 #[.string key] := by
      have hl5 := HC5.out.lt
      exact (hO.at (by omega)).trans ((HF.out.block b5 hl5 (fun hh => hh.elim hn5 (fun h => by omega))).trans HC5.out)
    have D25 : Blk W2 b25 3 #[.int .i64 ((m0 + k : Nat) : Int)] := (hO.at (by omega)).trans HNN.out
    have d5 := D5.cell 0
    have d25 := D25.cell 0
    have f25 := D25.free 0
    have l5 := D5.lt
    have l25 := D25.lt
    simp only [List.getElem?_toArray, List.getElem?_cons_zero] at d5 d25
    have HD25 := Lib.hid D25
    obtain ⟨mk, hmk⟩ : ∃ mk, m0 + k = mk := ⟨_, rfl⟩
    rw [hmk] at hkm d25
    have HMK := Lib.hid hmk
    clear hO hlr D5 D25 hmk
    gi_wp2_with fail
    have hO := HO.out
    have hz2 := hO.2
    have hrs := HRS.out
    have hF5 : Fr (fun b => b = b25) W2 (W2.setCell ⟨b25, 0, none⟩ (.int .i64 ((mk : Int) + 1))) := (Fr.refl _ _).set _ rfl
    have keep : ∀ b, b ≠ b25 → (W2.setCell ⟨b25, 0, none⟩ (.int .i64 ((mk : Int) + 1))).heap[b]? = W2.heap[b]? := fun b hb => heap_set_ne _ _ _ _ _ hb
    refine ⟨keep _ (by omega), keep _ (by omega), ⟨by rw [World.size_setCell]; omega, fun b hb => ?_⟩, HPV.out, ?_, ?_⟩
    · have hb := hb.elim id False.elim
      have := HPV.out b hb
      exact (keep b (by omega)).trans (hO.at fun e => HP1.out (e ▸ hb))
    · exact (HF.out.trans (hO.1.mono fun b _ h => .inr (by omega))).trans (hF5.mono fun b _ h => .inl h)
    · rw [List.length_append, List.length_singleton, HKP.out]
      have e : ((m0 + (k + 1) : Nat) : Int) = (mk : Int) + 1 := by have := HMK.out; omega
      rw [e]
      exact blk_set HD25.out

set_option maxRecDepth 100000 in
set_option maxHeartbeats 16000000 in
theorem back_cnt (Q : Exit → Act → World → Prop) {w : World} {g b5 b25 : Nat} {t : Tr} (key : ByteArray) (m0 : Nat) (ds : List Deferred) {S' : World → Prop} {id' : Nat} {caps' : Array Value} {p : Kx → Bool} {bm bb bo : Nat} {u0 u1 u2 u3 u4 u6 u7 u8 u9 u10 u11 u12 u13 u14 u15 u16 u17 u18 u19 u20 u21 u22 u23 u24 u26 u27 u28 u29 u30 u31 u32 u33 u34 u35 u36 u37 u38 u39 u40 u41 u42 u43 u44 u45 u46 u47 u48 u49 u50 u51 u52 u53 u54 u55 u56 u57 u58 u59 u60 u61 u62 u63 u64 u65 u66 u67 u68 u69 u70 u71 u72 u73 u74 u75 u76 u77 u78 u79 u80 u81 u82 u83 u84 u85 u86 u87 u88 u89 u90 u91 u92 u93 u94 u95 u96 u97 u98 u99 u100 u101 u102 u103 u104 u105 u106 u107 u108 u109 u110 u111 u112 u113 u114 u115 u116 u117 u118 u119 u120 u121 u122 u123 u124 u125 u126 u127 u128 u129 u130 u131 u132 u133 u134 u135 u136 u137 u138 u139 u140 u141 u142 u143 u144 u145 u146 u147 u148 u149 u150 u151 u152 u153 u154 u155 u156 u157 u158 u159 u160 u161 u162 u163 u164 u165 u166 u167 u168 u169 u170 u171 u172 u173 u174 u175 u176 u177 u178 u179 u180 u181 u182 u183 u184 u185 u186 u187 u188 u189 u190 u191 u192 u194 u195 u196 u197 u198 u199 u200 u201 u202 u203 u204 u205 u206 u207 u208 u209 u210 u211 u212 u213 u214 u215 : Value}
    (hM : MapS w g t) (hmany : t.many ≤ 8796093022208) (hm0 : m0 ≤ 8796093022208) (c5 : Blk w b5 9 #[.string key]) (c25 : Blk w b25 3 #[.int .i64 (m0 : Int)])
    (hW : Wk S' id' caps' p true g bm bb bo w) (hmo : Mono p true t) (hS : ∀ W', Fr (fun b => b = b25 ∨ w.heap.size ≤ b) w W' → S' W') (hcond : ∀ q ∈ told p true t, (Op.bytesLess q.1.toList key.toList || q.1.toList == key.toList) = true)
    (hK : ∀ (W' : World) (D : Nat), Fr (fun b => b = b25 ∨ w.heap.size ≤ b) w W' → Blk W' b25 3 #[.int .i64 ((m0 + (told p true t).length : Nat) : Int)] → W'.heap[D]? = some (.deferred (some [])) → D = w.heap.size → Q .normal { tmps := #[u0, u1, u2, u3, u4, ptr b5, u6, u7, u8, u9, u10, u11, u12, u13, u14, u15, u16, u17, u18, u19, u20, u21, u22, u23, u24, ptr b25, u26, u27, u28, u29, u30, u31, u32, u33, u34, u35, u36, u37, u38, u39, u40, u41, u42, u43, u44, u45, u46, u47, u48, u49, u50, u51, u52, u53, u54, u55, u56, u57, u58, u59, u60, u61, u62, u63, u64, u65, u66, u67, u68, u69, u70, u71, u72, u73, u74, u75, u76, u77, u78, u79, u80, u81, u82, u83, u84, u85, u86, u87, u88, u89, u90, u91, u92, u93, u94, u95, u96, u97, u98, u99, u100, u101, u102, u103, u104, u105, u106, u107, u108, u109, u110, u111, u112, u113, u114, u115, u116, u117, u118, u119, u120, u121, u122, u123, u124, u125, u126, u127, u128, u129, u130, u131, u132, u133, u134, u135, u136, u137, u138, u139, u140, u141, u142, u143, u144, u145, u146, u147, u148, u149, u150, u151, u152, u153, u154, u155, u156, u157, u158, u159, u160, u161, u162, u163, u164, u165, u166, u167, u168, u169, u170, u171, u172, u173, u174, u175, u176, u177, u178, u179, u180, u181, u182, u183, u184, u185, u186, u187, u188, u189, u190, u191, u192, wkV bm bb bo, u194, u195, u196, u197, u198, u199, u200, u201, u202, u203, u204, u205, u206, u207, u208, u209, u210, u211, u212, u213, u214, u215], defers := { target := .collected D, args := #[] } :: ds } W') :
    (theBlock Try.f4 8).wp Try.prog Q { tmps := #[u0, u1, u2, u3, u4, ptr b5, u6, u7, u8, u9, u10, u11, u12, u13, u14, u15, u16, u17, u18, u19, u20, u21, u22, u23, u24, ptr b25, u26, u27, u28, u29, u30, u31, u32, u33, u34, u35, u36, u37, u38, u39, u40, u41, u42, u43, u44, u45, u46, u47, u48, u49, u50, u51, u52, u53, u54, u55, u56, u57, u58, u59, u60, u61, u62, u63, u64, u65, u66, u67, u68, u69, u70, u71, u72, u73, u74, u75, u76, u77, u78, u79, u80, u81, u82, u83, u84, u85, u86, u87, u88, u89, u90, u91, u92, u93, u94, u95, u96, u97, u98, u99, u100, u101, u102, u103, u104, u105, u106, u107, u108, u109, u110, u111, u112, u113, u114, u115, u116, u117, u118, u119, u120, u121, u122, u123, u124, u125, u126, u127, u128, u129, u130, u131, u132, u133, u134, u135, u136, u137, u138, u139, u140, u141, u142, u143, u144, u145, u146, u147, u148, u149, u150, u151, u152, u153, u154, u155, u156, u157, u158, u159, u160, u161, u162, u163, u164, u165, u166, u167, u168, u169, u170, u171, u172, u173, u174, u175, u176, u177, u178, u179, u180, u181, u182, u183, u184, u185, u186, u187, u188, u189, u190, u191, u192, wkV bm bb bo, u194, u195, u196, u197, u198, u199, u200, u201, u202, u203, u204, u205, u206, u207, u208, u209, u210, u211, u212, u213, u214, u215], defers := ds } w := by
  simp only [theBlock, Try.f4, blockOf, Nat.reduceEqDiff, if_false, if_true, reduceCtorEq, ite_false, ite_true, Option.getD_some]
  have HM := Lib.hid hM
  have HC5 := Lib.hid c5
  have HC25 := Lib.hid c25
  have HW := Lib.hid hW
  have HMO := Lib.hid hmo
  have HS := Lib.hid hS
  have HCD := Lib.hid hcond
  have HKK := Lib.hid hK
  have HTL := Lib.hid (told_len p true t)
  have hn5 : ¬ b5 = b25 := blk_types c5 c25 (by decide)
  have HLB := Lib.hid (show b25 < w.heap.size from c25.lt)
  clear hM c5 c25 hW hmo hS hcond hK
  go_wp2_with fail
  refine (wpIn_wide (n := 6)).1 ?_
  refine wpIn_rangeFunc_L rfl (by decide) (gf := 71) (lb := #[.pointer (some ⟨bm, 0, none⟩), .pointer (some ⟨bb, 0, none⟩), .pointer (some ⟨bo, 0, none⟩)]) rfl trivial (enters_of Try.func71 (by kernel_rfl) rfl)
    (encs := wkArgs) (T := WkT (told p true t)) (S := fun xs => xs = told p true t) (Sp := fun _ => True) (Pf := fun _ => False) (Ro := fun _ => False) (K := WkK S' w bb bo true id' caps')
    (fun W' hW' => by
      obtain ⟨ra, hg, ht⟩ := HM.out.cells
      exact walk_seq _ HW.out.out bm bb bo g true t ra _ ⟨_, _, rfl⟩ (HW.out.bm.below hW') (hg.below hW') ht HMO.out hmany)
    (fun _ h => h.elim) (fun _ h => h.elim) (fun _ => rfl)
    (fun pre Pv W => (∀ k, Pv k → w.heap.size ≤ k) ∧ Fr (fun b => b = b25 ∨ w.heap.size ≤ b) w W ∧ Blk W b25 3 #[.int .i64 ((m0 + pre.length : Nat) : Int)])
    (fun c pre Pv W => False)
    ?stab ?stabx ?keep ?start ?round ?done ?stop
  case stab =>
    rintro pre Pv Pv' W W' ⟨h1, h2, h3⟩ hf hP
    have hs := h2.size
    have hl := HLB.out
    refine ⟨fun k hk => (hP k hk).elim (h1 k) (fun h => by omega), h2.trans (hf.mono fun k _ h => h.elim (fun h => .inr (h1 k h)) (fun h => .inr (by omega))), ?_⟩
    exact (hf.block _ h3.lt (fun h => h.elim (fun h => by have := h1 _ h; omega) (fun h => by omega))).trans h3
  case stabx => exact fun _ _ _ _ _ _ h => h.elim
  case stop => exact fun _ _ _ _ _ _ _ h => h.elim
  case start => exact ⟨fun _ h => h.elim, Fr.refl _ _, HC25.out⟩
  case keep =>
    rintro pre Pv W ⟨h1, h2, h3⟩
    have keep : ∀ b ty cs, Blk w b ty cs → ty ≠ 3 → W.heap[b]? = w.heap[b]? := fun b ty cs hB n2 => by
      refine h2.block b hB.lt fun hh => ?_
      rcases hh with rfl | hh
      · exact blk_types hB HC25.out n2 rfl
      · have := hB.lt; omega
    exact ⟨HS.out W h2, h2.size, fun b cs hB => keep _ _ _ hB (by decide), (keep _ _ _ HW.out.bb (by decide)).trans HW.out.bb, (keep _ _ _ HW.out.bo (by decide)).trans HW.out.bo⟩
  case done =>
    rintro D xs Pv W hD rfl ⟨h1, h2, h3⟩ hK
    gi_wp2_with fail
    exact HKK.out _ _ h2 h3 hK hD
  case round =>
    rintro rl pre x Pv W hrl hrs hp1 hp2 hrec hdef ⟨hPv, hF, hN⟩ ⟨⟨R, hSR⟩, hPl⟩
    subst hrl
    obtain ⟨k, hk⟩ : ∃ k, pre.length = k := ⟨_, rfl⟩
    rw [hk] at hN
    have hkm : m0 + k ≤ 17592186044416 := by
      have h1 := HTL.out
      rw [hSR] at h1
      simp at h1
      omega
    have HXM := Lib.hid (show x ∈ told p true t by rw [hSR]; simp)
    obtain ⟨xk, xv⟩ := x
    obtain ⟨xa, xn, xc⟩ := xv
    have hc1 := HCD.out _ HXM.out
    dsimp only at hc1
    have HPL := Lib.hid hPl
    have HF := Lib.hid hF
    have HPV := Lib.hid hPv
    have HP1 := Lib.hid hp1
    have HKP := Lib.hid hk
    have HRS := Lib.hid hrs
    have HNN := Lib.hid hN
    clear hrec hdef hPl hSR hF hPv hp1 hk hp2 hrs hN
    dsimp only [wkArgs]
    gi_wp2_with fail
    refine ⟨trivial, trivial, fun W2 hO hlr => ?_⟩
    have hl := HLB.out
    have hz := HF.out.size
    have HO := Lib.hid hO
    have D5 : Blk W2 b5 9 #[.string key] := by
      have hl5 := HC5.out.lt
      exact (hO.at (by omega)).trans ((HF.out.block b5 hl5 (fun hh => hh.elim hn5 (fun h => by omega))).trans HC5.out)
    have D25 : Blk W2 b25 3 #[.int .i64 ((m0 + k : Nat) : Int)] := (hO.at (by omega)).trans HNN.out
    have d5 := D5.cell 0
    have d25 := D25.cell 0
    have f25 := D25.free 0
    have l5 := D5.lt
    have l25 := D25.lt
    simp only [List.getElem?_toArray, List.getElem?_cons_zero] at d5 d25
    have HD25 := Lib.hid D25
    obtain ⟨mk, hmk⟩ : ∃ mk, m0 + k = mk := ⟨_, rfl⟩
    rw [hmk] at hkm d25
    have HMK := Lib.hid hmk
    clear hO hlr D5 D25 hmk
    gi_wp2_with fail
    have hO := HO.out
    have hz2 := hO.2
    have hrs := HRS.out
    have hF5 : Fr (fun b => b = b25) W2 (W2.setCell ⟨b25, 0, none⟩ (.int .i64 ((mk : Int) + 1))) := (Fr.refl _ _).set _ rfl
    have keep : ∀ b, b ≠ b25 → (W2.setCell ⟨b25, 0, none⟩ (.int .i64 ((mk : Int) + 1))).heap[b]? = W2.heap[b]? := fun b hb => heap_set_ne _ _ _ _ _ hb
    refine ⟨keep _ (by omega), keep _ (by omega), ⟨by rw [World.size_setCell]; omega, fun b hb => ?_⟩, HPV.out, ?_, ?_⟩
    · have hb := hb.elim id False.elim
      have := HPV.out b hb
      exact (keep b (by omega)).trans (hO.at fun e => HP1.out (e ▸ hb))
    · exact (HF.out.trans (hO.1.mono fun b _ h => .inr (by omega))).trans (hF5.mono fun b _ h => .inl h)
    · rw [List.length_append, List.length_singleton, HKP.out]
      have e : ((m0 + (k + 1) : Nat) : Int) = (mk : Int) + 1 := by have := HMK.out; omega
      rw [e]
      exact blk_set HD25.out
end Go.Proofs.Ytchmlephgkimcaa.Tx
