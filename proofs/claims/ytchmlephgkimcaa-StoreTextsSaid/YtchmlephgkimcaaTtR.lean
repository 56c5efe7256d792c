/- Store: StoreTexts: all is gone over (frames laid out by mkfr.py). -/
import Derived.Test.YtchmlephgkimcaaTtQ
import Derived.WalkMore
import Derived.Laws.Cover1
import Derived.Lib.Builder
set_option linter.unusedSimpArgs false
set_option linter.unusedVariables false
namespace Go.Proofs.Ytchmlephgkimcaa.Tx
open Go.RowKit Go.Kp Go.St Go.Shelf
attribute [local go_sem] Oper.semAt_some
theorem info_int : ∃ j, Try.prog.info? 3 = some j := by
  cases h : Try.prog.info? 3 with
  | some j => exact ⟨j, rfl⟩
  | none =>
    have h2 : (Try.prog.info? 3).isSome = true := by kernel_rfl
    rw [h] at h2; cases h2
theorem ptr_neq (b : Nat) (w : World) : (binOp .neq 64 (.pointer (some ⟨b, 0, none⟩)) (.pointer (some ⟨b, 0, none⟩))).run Try.prog w = .ok (.bool false) w := by
  obtain ⟨j, hj⟩ := info_int
  exact Lib.run_neq_ptr_same (P := Try.prog) (w := w) (j := j) ⟨b, 0, none⟩ Try.underlying64 hj

set_option maxRecDepth 100000 in
set_option maxHeartbeats 16000000 in
theorem all_any (Q : Exit → Act → World → Prop) {w : World} {g b3 b7 b8 b14 b15 n B B0 : Nat} {t : Tr} (ka : Option Addr) (kc : Nat) (ks : List ByteArray) (lv : Value) (ls : List Nat) (ds : List Deferred) {bm bb bo : Nat} {u0 u1 u2 u4 u5 u6 u9 u10 u11 u12 u13 u16 u17 u18 u19 u20 u21 u22 u23 u24 u25 u26 u27 u28 u29 u30 u31 u32 u33 u34 u35 u36 u37 u38 u39 u40 u41 u42 u43 u44 u45 u46 u47 u48 u49 u50 u51 u52 u53 u54 u55 u56 u57 u58 u59 u60 u61 u62 u63 u64 u65 u66 u67 u68 u69 u70 u71 u72 u73 u74 u75 u76 u77 u78 u79 u80 u81 u83 u84 u85 u86 u87 u88 u89 u90 u91 u92 u93 u94 u95 u96 u97 u98 u99 u100 u101 u102 u103 u104 u105 u106 u107 u108 u109 u110 u111 u112 u113 u114 u115 u116 u117 u118 u119 u120 u121 u122 u123 u124 u125 u126 u127 u128 u129 u130 u131 u132 u133 u134 u135 u136 u137 u138 u139 u140 u141 u142 u143 u144 u145 u146 u147 u148 u149 u150 u151 u152 u153 u154 u155 u156 u157 u158 u159 u160 u161 u162 u163 u164 u165 u166 u167 u168 u169 u170 u171 u172 u173 u174 u175 u176 u177 u178 u179 u180 u181 u182 u183 u184 u185 u186 u187 u188 u189 u190 u191 u192 u193 u194 u195 u196 u197 u198 u199 u200 u201 u202 u203 u204 u205 u206 u207 u208 u209 u210 u211 u212 u213 u214 u215 : Value}
    (hM : MapS w g t) (hmany : t.many ≤ 8796093022208) (c3 : Blk w b3 49 #[.slice ka n kc]) (hks : ks.length = n) (hkr : Rd w B ka (ss ks)) (c7 : Blk w b7 50 #[ptr g]) (c8 : Blk w b8 52 #[lv])
    (hrow : w.ownsRow B0 22 1 lv n (ls.map one)) (hls : Lists w ls) (hgood : Good ks ls t.toL) (hn : n ≤ 8796093022208)
    (c14 : Blk w b14 3 #[.int .i64 0]) (c15 : Blk w b15 9 #[.string ⟨#[]⟩]) (hB : B ≤ b14 ∧ B ≤ b15 ∧ B ≤ w.heap.size) (h14 : ∀ b ∈ ls, b ≠ b14)
    (hW : Wk (fun _ => True) 55 #[] (fun _ => false) false g bm bb bo w)
    (hK : ∀ (W' : World) (D : Nat), Fr (fun b => b = b14 ∨ b = b15 ∨ w.heap.size ≤ b) w W' → Blk W' b14 3 #[.int .i64 (t.many : Int)] → W'.heap[D]? = some (.deferred (some [])) → D = w.heap.size → Q .normal { tmps := #[u0, u1, u2, ptr b3, u4, u5, u6, ptr b7, ptr b8, u9, u10, u11, u12, u13, ptr b14, ptr b15, u16, u17, u18, u19, u20, u21, u22, u23, u24, u25, u26, u27, u28, u29, u30, u31, u32, u33, u34, u35, u36, u37, u38, u39, u40, u41, u42, u43, u44, u45, u46, u47, u48, u49, u50, u51, u52, u53, u54, u55, u56, u57, u58, u59, u60, u61, u62, u63, u64, u65, u66, u67, u68, u69, u70, u71, u72, u73, u74, u75, u76, u77, u78, u79, u80, u81, wkV bm bb bo, u83, u84, u85, u86, u87, u88, u89, u90, u91, u92, u93, u94, u95, u96, u97, u98, u99, u100, u101, u102, u103, u104, u105, u106, u107, u108, u109, u110, u111, u112, u113, u114, u115, u116, u117, u118, u119, u120, u121, u122, u123, u124, u125, u126, u127, u128, u129, u130, u131, u132, u133, u134, u135, u136, u137, u138, u139, u140, u141, u142, u143, u144, u145, u146, u147, u148, u149, u150, u151, u152, u153, u154, u155, u156, u157, u158, u159, u160, u161, u162, u163, u164, u165, u166, u167, u168, u169, u170, u171, u172, u173, u174, u175, u176, u177, u178, u179, u180, u181, u182, u183, u184, u185, u186, u187, u188, u189, u190, u191, u192, u193, u194, u195, u196, u197, u198, u199, u200, u201, u202, u203, u204, u205, u206, u207, u208, u209, u210, u211, u212, u213, u214, u215], defers := { target := .collected D, args := #[] } :: ds } W') :
    (theBlock Try.f4 4).wp Try.prog Q { tmps := #[u0, u1, u2, ptr b3, u4, u5, u6, ptr b7, ptr b8, u9, u10, u11, u12, u13, ptr b14, ptr b15, u16, u17, u18, u19, u20, u21, u22, u23, u24, u25, u26, u27, u28, u29, u30, u31, u32, u33, u34, u35, u36, u37, u38, u39, u40, u41, u42, u43, u44, u45, u46, u47, u48, u49, u50, u51, u52, u53, u54, u55, u56, u57, u58, u59, u60, u61, u62, u63, u64, u65, u66, u67, u68, u69, u70, u71, u72, u73, u74, u75, u76, u77, u78, u79, u80, u81, wkV bm bb bo, u83, u84, u85, u86, u87, u88, u89, u90, u91, u92, u93, u94, u95, u96, u97, u98, u99, u100, u101, u102, u103, u104, u105, u106, u107, u108, u109, u110, u111, u112, u113, u114, u115, u116, u117, u118, u119, u120, u121, u122, u123, u124, u125, u126, u127, u128, u129, u130, u131, u132, u133, u134, u135, u136, u137, u138, u139, u140, u141, u142, u143, u144, u145, u146, u147, u148, u149, u150, u151, u152, u153, u154, u155, u156, u157, u158, u159, u160, u161, u162, u163, u164, u165, u166, u167, u168, u169, u170, u171, u172, u173, u174, u175, u176, u177, u178, u179, u180, u181, u182, u183, u184, u185, u186, u187, u188, u189, u190, u191, u192, u193, u194, u195, u196, u197, u198, u199, u200, u201, u202, u203, u204, u205, u206, u207, u208, u209, u210, u211, u212, u213, u214, u215], defers := ds } w := by
  simp only [theBlock, Try.f4, blockOf, Nat.reduceEqDiff, if_false, if_true, reduceCtorEq, ite_false, ite_true, Option.getD_some]
  have HM := Lib.hid hM
  have HC3 := Lib.hid c3
  have HC7 := Lib.hid c7
  have HC8 := Lib.hid c8
  have HC14 := Lib.hid c14
  have HC15 := Lib.hid c15
  have HKS := Lib.hid hks
  have HKR := Lib.hid hkr
  have HROW := Lib.hid hrow
  have HLS := Lib.hid hls
  have HGD := Lib.hid hgood
  have HB := Lib.hid hB
  have H14 := Lib.hid h14
  have HW := Lib.hid hW
  have HKK := Lib.hid hK
  have HTL := Lib.hid (T.many_len t)
  have hmn := hmany
  have hn14 : ¬ b15 = b14 := blk_types c15 c14 (by decide)
  have HL14 := Lib.hid (show b14 < w.heap.size ∧ b15 < w.heap.size from ⟨c14.lt, c15.lt⟩)
  clear hM c3 c7 c8 c14 c15 hks hkr hrow hls hgood hB h14 hW hK
  obtain ⟨m, hm⟩ : ∃ m, t.many = m := ⟨_, rfl⟩
  have HMN := Lib.hid hm
  rw [hm] at hmn
  clear hm
  go_wp2_with fail
  refine (wpIn_wide (n := 6)).1 ?_
  refine wpIn_rangeFunc_L rfl (by decide) (gf := 71) (lb := #[.pointer (some ⟨bm, 0, none⟩), .pointer (some ⟨bb, 0, none⟩), .pointer (some ⟨bo, 0, none⟩)]) rfl trivial (enters_of Try.func71 (by kernel_rfl) rfl)
    (encs := wkArgs) (T := WkT t.toL) (S := fun xs => xs = t.toL) (Sp := fun _ => True) (Pf := fun _ => False) (Ro := fun _ => False) (K := WkK (fun _ => True) w bb bo false 55 #[])
    (fun W' hW' => by
      obtain ⟨ra, hg, ht⟩ := HM.out.cells
      have h := walk_seq (6 - 1) HW.out.out bm bb bo g false t ra _ ⟨_, _, rfl⟩ (HW.out.bm.below hW') (hg.below hW') ht (mono_all t) hmany
      rw [told_all] at h
      exact h)
    (fun _ h => h.elim) (fun _ h => h.elim) (fun _ => rfl)
    (fun pre Pv W => (∀ k, Pv k → w.heap.size ≤ k) ∧ Fr (fun b => b = b14 ∨ b = b15 ∨ w.heap.size ≤ b) w W ∧ Blk W b14 3 #[.int .i64 pre.length] ∧ Blk W b15 9 #[.string ((pre.getLast?.map Prod.fst).getD ⟨#[]⟩)])
    (fun c pre Pv W => False)
    ?stab ?stabx ?keep ?start ?round ?done ?stop
  case stab =>
    rintro pre Pv Pv' W W' ⟨h1, h2, h3, h4⟩ hf hP
    have hs := h2.size
    have hl := HL14.out
    refine ⟨fun k hk => (hP k hk).elim (h1 k) (fun h => by omega), h2.trans (hf.mono fun k _ h => h.elim (fun h => .inr (.inr (h1 k h))) (fun h => .inr (.inr (by omega)))), ?_, ?_⟩
    · exact (hf.block _ h3.lt (fun h => h.elim (fun h => by have := h1 _ h; omega) (fun h => by omega))).trans h3
    · exact (hf.block _ h4.lt (fun h => h.elim (fun h => by have := h1 _ h; omega) (fun h => by omega))).trans h4
  case stabx => exact fun _ _ _ _ _ _ h => h.elim
  case stop => exact fun _ _ _ _ _ _ _ h => h.elim
  case start => exact ⟨fun _ h => h.elim, Fr.refl _ _, HC14.out, HC15.out⟩
  case keep =>
    rintro pre Pv W ⟨h1, h2, h3, h4⟩
    have keep : ∀ b ty cs, Blk w b ty cs → ty ≠ 9 → ty ≠ 3 → W.heap[b]? = w.heap[b]? := fun b ty cs hB n1 n2 => by
      refine h2.block b hB.lt fun hh => ?_
      rcases hh with rfl | rfl | hh
      · exact blk_types hB HC14.out n2 rfl
      · exact blk_types hB HC15.out n1 rfl
      · have := hB.lt; omega
    exact ⟨trivial, h2.size, fun b cs hB => keep _ _ _ hB (by decide) (by decide), (keep _ _ _ HW.out.bb (by decide) (by decide)).trans HW.out.bb, (keep _ _ _ HW.out.bo (by decide) (by decide)).trans HW.out.bo⟩
  case done =>
    rintro D xs Pv W hD rfl ⟨h1, h2, h3, h4⟩ hK
    gi_wp2_with fail
    refine HKK.out _ _ h2 ?_ hK hD
    rw [HTL.out]
    exact h3
  case round =>
    rintro rl pre x Pv W hrl hrs hp1 hp2 hrec hdef ⟨hPv, hF, hN, hLa⟩ ⟨⟨R, hSR⟩, hPl⟩
    subst hrl
    obtain ⟨k, hk⟩ : ∃ k, pre.length = k := ⟨_, rfl⟩
    have hx : t.toL[k]? = some x := by rw [hSR, ← hk]; simp
    obtain ⟨la, hla⟩ : ∃ la, (pre.getLast?.map Prod.fst).getD ⟨#[]⟩ = la := ⟨_, rfl⟩
    rw [hk] at hN
    rw [hla] at hLa
    have hkm : k < m := by rw [← HMN.out, T.many_len]; exact (List.getElem?_eq_some_iff.1 hx).1
    obtain ⟨j, b, hjk, hjl, hxv⟩ := HGD.out x (List.mem_of_getElem? hx)
    obtain ⟨xk, xv⟩ := x
    dsimp only at hjk hxv
    subst hxv
    have hjn : j < n := by rw [← HKS.out]; exact (List.getElem?_eq_some_iff.1 hjk).1
    have HX := Lib.hid hx
    have HPL := Lib.hid hPl
    have HF := Lib.hid hF
    have HN := Lib.hid hN
    have HLA := Lib.hid hLa
    have HPV := Lib.hid hPv
    have HRS := Lib.hid hrs
    have HP1 := Lib.hid hp1
    have HKP := Lib.hid hk
    have HJK := Lib.hid hjk
    have HJL := Lib.hid hjl
    have HLL := Lib.hid hla
    have HSRR := Lib.hid hSR
    clear hrec hdef hPl hSR hF hN hLa hPv hrs hp1 hk hx hjk hjl hla hp2
    dsimp only [wkArgs]
    gi_wp2_with fail
    refine ⟨trivial, trivial, fun W2 hO hlr => ?_⟩
    have HO := Lib.hid hO
    have HLR := Lib.hid hlr
    have same : ∀ b' ty cs, Blk w b' ty cs → b' ≠ b14 → b' ≠ b15 → Blk W2 b' ty cs := fun b' ty cs hB n1 n2 => by
      have hl := hB.lt
      have hz := HF.out.size
      exact (hO.at (by omega)).trans ((HF.out.block b' hl fun hh => by rcases hh with hh | hh | hh; exact n1 hh; exact n2 hh; omega).trans hB)
    have HSA := Lib.hid same
    have ty14 : ∀ b' ty cs, Blk w b' ty cs → ty ≠ 3 → b' ≠ b14 := fun b' ty cs hB h => blk_types hB HC14.out h
    have ty15 : ∀ b' ty cs, Blk w b' ty cs → ty ≠ 9 → b' ≠ b15 := fun b' ty cs hB h => blk_types hB HC15.out h
    have hM2 : MapS W2 g t := maps_keep HM.out fun b' ty cs hB n1 n2 => (same _ _ _ hB (ty14 _ _ _ hB n2) (ty15 _ _ _ hB n1)).trans hB.symm
    have D3 := same _ _ _ HC3.out (ty14 _ _ _ HC3.out (by decide)) (ty15 _ _ _ HC3.out (by decide))
    have D7 := same _ _ _ HC7.out (ty14 _ _ _ HC7.out (by decide)) (ty15 _ _ _ HC7.out (by decide))
    have D8 := same _ _ _ HC8.out (ty14 _ _ _ HC8.out (by decide)) (ty15 _ _ _ HC8.out (by decide))
    have hz := HF.out.size
    have hl14 := HL14.out
    have D14 : Blk W2 b14 3 #[.int .i64 k] := (hO.at (by omega)).trans HN.out
    have D15 : Blk W2 b15 9 #[.string la] := (hO.at (by omega)).trans HLA.out
    have hBb := HLS.out j b HJL.out
    have DB := same _ _ _ hBb (H14.out b (List.mem_of_getElem? HJL.out)) (ty15 _ _ _ hBb (by decide))
    have HM2 := Lib.hid hM2
    have E3 := Lib.hid D3
    have E7 := Lib.hid D7
    have E8 := Lib.hid D8
    have E14 := Lib.hid D14
    have E15 := Lib.hid D15
    have EB := Lib.hid DB
    have hBB := HB.out
    have hcB : ∀ b' o, b' < B → W2.cell? ⟨b', o, none⟩ = w.cell? ⟨b', o, none⟩ := fun b' o hb => by
      have h1 : W2.heap[b']? = w.heap[b']? := (hO.at (by omega)).trans (HF.out.block b' (by omega) (fun hh => by omega))
      exact World.cell?_of_block (a := ⟨b', o, none⟩) h1
    obtain ⟨kb, ko, hka, hkb, hkc⟩ := ss_at (HKR.out.keep hcB) HJK.out
    have HKC := Lib.hid hkc
    have hkbw : kb < W2.heap.size := by have := hO.2; omega
    obtain ⟨lb, lc, hlv, hlbB, hlbk, hlcell⟩ : ∃ lb lc, lv = .slice (some ⟨lb, 0, none⟩) n lc ∧ lb < w.heap.size ∧ (∃ cs, Blk w lb 22 cs) ∧ w.cell? ⟨lb, j, none⟩ = some (one b) := by
      rcases HROW.out.2 with ⟨_, h0⟩ | ⟨lb, lc, cur, h1, h2, h3, h4⟩
      · omega
      · subst h1
        refine ⟨lb, lc, rfl, Blk.lt (t := 22) (cs := cur) h3, ⟨cur, h3⟩, ?_⟩
        refine (World.ownsRow.cellAt HROW.out j (by omega)).trans ?_
        simp [HJL.out]
    obtain ⟨lcs, hlbk⟩ := hlbk
    have DL := same _ _ _ hlbk (ty14 _ _ _ hlbk (by decide)) (ty15 _ _ _ hlbk (by decide))
    have hlc2 : W2.cell? ⟨lb, j, none⟩ = some (one b) := (World.cell?_of_block (a := ⟨lb, j, none⟩) (DL.trans hlbk.symm)).trans hlcell
    have HLC := Lib.hid hlc2
    have EL := Lib.hid DL
    subst hka
    subst hlv
    have hz2 := hO.2
    clear hcB hO hlr same ty14 ty15 hM2 D3 D7 D8 D14 D15 DB hBb hkc hlcell hlbk DL hlc2 hlbB hBB hl14
    have d7 := E7.out.cell 0
    have l7 := E7.out.lt
    have d14 := E14.out.cell 0
    have l14 := E14.out.lt
    simp only [List.getElem?_toArray, List.getElem?_cons_zero] at d7 d14
    gi_wp2_with fail
    obtain ⟨hpl, hge⟩ := place_nth str_ord HM.out.srt HX.out
    have HPG := Lib.hid (And.intro hpl hge)
    clear hpl hge
    refine ⟨trivial, (((callsIn_wide (n := 3)).2 (At_in HM2.out k xk ⟨some ⟨b, 0, none⟩, 1, 1⟩ HX.out)).inRound _).mono ?_⟩
    rintro en w3 ⟨rfl, hb3⟩
    have HB3 := Lib.hid hb3
    have G7 := (E7.out.below hb3).cell 0
    have G7l := (E7.out.below hb3).lt
    simp only [List.getElem?_toArray, List.getElem?_cons_zero] at G7
    clear d7 l7 d14 l14 hb3
    dsimp only
    gi_wp2_with fail
    have hPlc := Place_any (HM2.out.below HB3.out) xk
    rw [HPG.out.1, HPG.out.2] at hPlc
    refine ⟨trivial, (((callsIn_wide (n := 3)).2 hPlc).inRound _).mono ?_⟩
    clear hPlc
    rintro en w4 ⟨rfl, hb4⟩
    have HB4 := Lib.hid (HB3.out.trans (hb4.mono HB3.out.size))
    have E3' := E3.out.below HB4.out
    have E8' := E8.out.below HB4.out
    have E14' := E14.out.below HB4.out
    have E15' := E15.out.below HB4.out
    have EB' := EB.out.below HB4.out
    have kc' : w4.cell? ⟨kb, ko + j, none⟩ = some (.string xk) := (HB4.out.cell (p := ⟨kb, ko + j, none⟩) hkbw).trans HKC.out
    have lc' : w4.cell? ⟨lb, j, none⟩ = some (one b) := (HB4.out.cell (p := ⟨lb, j, none⟩) EL.out.lt).trans HLC.out
    have e3 := E3'.cell 0
    have e8 := E8'.cell 0
    have e14 := E14'.cell 0
    have e15 := E15'.cell 0
    have eb := EB'.cell 0
    have f14 := E14'.free 0
    have f15 := E15'.free 0
    have l3 := E3'.lt
    have l8 := E8'.lt
    have l14 := E14'.lt
    have l15 := E15'.lt
    have lB := EB'.lt
    have lK : kb < w4.heap.size := Nat.lt_of_lt_of_le hkbw HB4.out.size
    have lL : lb < w4.heap.size := Nat.lt_of_lt_of_le EL.out.lt HB4.out.size
    simp only [List.getElem?_toArray, List.getElem?_cons_zero] at e3 e8 e14 e15 eb
    have F14 := Lib.hid E14'
    have F15 := Lib.hid E15'
    clear G7 G7l hb4 E3' E8' E14' E15' EB'
    have hj0 : ¬ (j : Int) < 0 := by omega
    have hj0' : decide ((j : Int) < 0) = false := decide_eq_false hj0
    have hjn' : ¬ (n : Int) ≤ (j : Int) := by omega
    have hjn'' : decide ((n : Int) ≤ (j : Int)) = false := decide_eq_false hjn'
    have hji : (j : Int) < (n : Int) := by omega
    have hpn := ptr_neq b
    have hjn3 : decide (n ≤ j) = false := by simp; omega
    rcases Nat.eq_zero_or_pos k with h0 | h0
    · have h1 : ¬ (0 : Int) < (k : Int) := by omega
      have HK0 := Lib.hid h0
      clear h0
      gi_wp2_with fail
      have h1n : decide (0 < k) = false := by rw [HK0.out]; rfl
      have hjn3 : decide (n ≤ j) = false := by simp; omega
      try simp only [List.append_eq, List.cons_append, List.nil_append]
      (refine region_keep_round _ _ (fun _ => True) 78 [(0, true), (1, true), (2, true), (3, true), (4, true), (5, true), (6, true), (7, true), (8, true), (9, true), (10, true), (11, true), (12, true), (13, true), (14, true), (15, true), (16, true), (17, true), (18, true), (19, true), (20, true), (21, true), (22, true), (23, true), (24, true), (25, true), (26, true), (27, true), (28, true), (29, true), (30, true), (31, true), (32, true), (33, true), (34, true), (35, true), (36, true), (37, true), (38, true), (39, true), (40, true), (41, true), (42, true), (43, true), (44, true), (45, true), (46, true), (47, true), (48, true), (49, true), (50, true), (51, true), (52, true), (53, true), (54, true), (55, true), (56, true), (57, true), (58, true), (59, true), (60, true), (61, true), (62, true), (63, true), (64, true), (65, true), (66, true), (67, true), (68, true), (69, true), (70, true), (71, true), (72, true), (73, true), (74, true), (75, true), (76, true), (77, true)] (by kernel_rfl) (by kernel_rfl) (fun _ _ d _ _ h => by cases d <;> exact h) (by kernel_rfl) ?_; simp only [withOps, List.getElem?_toArray, List.getElem?_cons_zero, List.getElem?_cons_succ, List.drop_succ_cons, List.drop_zero])
      (iterate 3 (refine keep_quiet (v := ?_) rfl ?_ ?_; rotate_left; (focus (intro w' hw'; go_simp; (try with_reducible rfl); done)); try simp only [Act.put, List.setIfInBounds_toArray, List.set_cons_zero, List.set_cons_succ]))
      (iterate 3 ((with_reducible refine plan_skip ?_ ?_); (focus rfl); try simp only [Act.put, List.setIfInBounds_toArray, List.set_cons_zero, List.set_cons_succ]))
      (iterate 72 (refine keep_quiet (v := ?_) rfl ?_ ?_; rotate_left; (focus (intro w' hw'; go_simp; (try with_reducible rfl); done)); try simp only [Act.put, List.setIfInBounds_toArray, List.set_cons_zero, List.set_cons_succ]))
      (with_reducible refine plan_end ?_)
      (try simp only [Act.put, List.setIfInBounds_toArray, List.set_cons_zero, List.set_cons_succ])
      go_wp2_with fail
      simp only [noOut_normal, Exit.then]
      go_at_K
      gi_wp2_with fail
      refine txt_fin HKP.out HPV.out HF.out HO.out HPL.out HP1.out HRS.out HL14.out ?_ ?_ ?_
      · exact blk_set (blk_setNe F14.out (fun e => hn14 e.symm))
      · exact blk_setNe (blk_set F15.out) hn14
      · exact (((Fr.next HB4.out).set _ (.inr rfl)).set _ (.inl rfl)).drew
    · have h1 : (0 : Int) < (k : Int) := by omega
      obtain ⟨hs1, hs2, hs3⟩ := last_lt (by rw [← HSRR.out]; exact HM.out.srt) HLL.out (by rw [HKP.out]; exact h0)
      dsimp only at hs1 hs2 hs3
      have HK0 := Lib.hid h0
      have hs4 : ¬ xk.toList = la.toList := by simpa using hs3
      clear h0
      gi_wp2_with fail
      have h1n : decide (0 < k) = true := decide_eq_true HK0.out
      have hjn3 : decide (n ≤ j) = false := by simp; omega
      have hs3' : (xk.toList == la.toList) = false := by simpa using hs4
      try simp only [List.append_eq, List.cons_append, List.nil_append]
      (refine region_keep_round _ _ (fun _ => True) 78 [(0, true), (1, true), (2, true), (3, true), (4, true), (5, true), (6, true), (7, true), (8, true), (9, true), (10, true), (11, true), (12, true), (13, true), (14, true), (15, true), (16, true), (17, true), (18, true), (19, true), (20, true), (21, true), (22, true), (23, true), (24, true), (25, true), (26, true), (27, true), (28, true), (29, true), (30, true), (31, true), (32, true), (33, true), (34, true), (35, true), (36, true), (37, true), (38, true), (39, true), (40, true), (41, true), (42, true), (43, true), (44, true), (45, true), (46, true), (47, true), (48, true), (49, true), (50, true), (51, true), (52, true), (53, true), (54, true), (55, true), (56, true), (57, true), (58, true), (59, true), (60, true), (61, true), (62, true), (63, true), (64, true), (65, true), (66, true), (67, true), (68, true), (69, true), (70, true), (71, true), (72, true), (73, true), (74, true), (75, true), (76, true), (77, true)] (by kernel_rfl) (by kernel_rfl) (fun _ _ d _ _ h => by cases d <;> exact h) (by kernel_rfl) ?_; simp only [withOps, List.getElem?_toArray, List.getElem?_cons_zero, List.getElem?_cons_succ, List.drop_succ_cons, List.drop_zero])
      (iterate 78 (refine keep_quiet (v := ?_) rfl ?_ ?_; rotate_left; (focus (intro w' hw'; go_simp; (try with_reducible rfl); done)); try simp only [Act.put, List.setIfInBounds_toArray, List.set_cons_zero, List.set_cons_succ]))
      (with_reducible refine plan_end ?_)
      (try simp only [Act.put, List.setIfInBounds_toArray, List.set_cons_zero, List.set_cons_succ])
      go_wp2_with fail
      simp only [noOut_normal, Exit.then]
      go_at_K
      gi_wp2_with fail
      refine txt_fin HKP.out HPV.out HF.out HO.out HPL.out HP1.out HRS.out HL14.out ?_ ?_ ?_
      · exact blk_set (blk_setNe F14.out (fun e => hn14 e.symm))
      · exact blk_setNe (blk_set F15.out) hn14
      · exact (((Fr.next HB4.out).set _ (.inr rfl)).set _ (.inl rfl)).drew
end Go.Proofs.Ytchmlephgkimcaa.Tx
