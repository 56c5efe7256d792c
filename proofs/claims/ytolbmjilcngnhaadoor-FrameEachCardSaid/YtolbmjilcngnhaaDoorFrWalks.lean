/- The law's walks: a going over of what Each hands out. -/
import Derived.Test.YtolbmjilcngnhaaDoorFrEach
set_option linter.unusedSimpArgs false
set_option linter.unusedVariables false
namespace Go.Proofs.YtolbmjilcngnhaaDoor
open Go.RowKit Go.Kp Go.Shelf
attribute [local go_sem] Oper.semAt_some

theorem own_at {w w' : World} {lo : Nat} {e : TypeId} {size : Nat} {u : Value} {n : Nat} {xs : List Value} (h : w.ownsRow lo e size u n xs) (hk : ∀ g, u.ownBlock = some g → w'.heap[g]? = w.heap[g]?) : w'.ownsRow lo e size u n xs := by
  refine ⟨h.1, ?_⟩
  rcases h.2 with h' | ⟨gy, cap, cur, e1, e2, e3, e4⟩
  · exact .inl h'
  · exact .inr ⟨gy, cap, cur, e1, e2, (hk gy (by rw [e1]; rfl)).trans e3, e4⟩
theorem own_kind {w : World} {lo : Nat} {e : TypeId} {size : Nat} {u : Value} {n : Nat} {xs : List Value} (h : w.ownsRow lo e size u n xs) {g : Nat} (hg : u.ownBlock = some g) {o : Obj} (ho : w.heap[g]? = some o) : o.isCells = true := by
  rcases h.2 with ⟨e, _⟩ | ⟨g', c', cur, e, _, hcur, _⟩
  · rw [e] at hg; cases hg
  · rw [e] at hg; cases hg
    rw [hcur] at ho; cases ho; rfl
theorem Fr.of_still {M : Nat → Prop} {w w' : World} {b : Option Nat} (h : StillB w w' b) (hb : ∀ g, b = some g → M g) : Fr M w w' :=
  ⟨h.2.2.1.os, h.2.2.1.tape, h.2.2.1.output, h.2.2.1.size, fun k _ hm => h.1 k (fun e => hm (hb k e))⟩

set_option maxRecDepth 20000 in
set_option maxHeartbeats 8000000 in
theorem walks_any (bb : Nat) (ab av : Option Addr) (n cb cv gp offp cp : Nat) (l : List UInt8) (cs : List Bk) (lv : Int) (a_ s : Nat) (w : World) (hT : Tab w) (hA : Blk w bb 22 #[.slice ab n cb]) (hl : l.length = n) (hn : n ≤ 268435456) (hc : n ≤ cb) (hcm : cb ≤ maxLen)
    (hr : Rd w w.heap.size ab (l.map B8)) (hv : Rd w w.heap.size av (cs.flatMap Bk.cells)) (hvb : ∀ x ∈ cs, x.rd w w.heap.size) (hcl : cs.length ≤ 268435456) (hgp : gp < w.heap.size) (hpl : ∀ j, j ≤ cs.length → w.cell? ⟨gp, offp + j, none⟩ = some (.int .i64 (szTo cs j : Nat)))
    (hH : Frm.Heads l (cs.map Bk.pair) a_ s) :
    Calls Tryd.prog 31 #[.func (.func 41) #[] #[.pointer (some ⟨bb, 0, none⟩)], .slice av cs.length cv, .slice (some ⟨gp, offp, none⟩) (cs.length + 1) cp, .int .i64 lv] w (Ret (.bool true) w) := by
  have HT := Lib.hid hT
  have HA := Lib.hid hA
  have HL := Lib.hid hl
  have HR := Lib.hid hr
  have HV := Lib.hid hv
  have HVB := Lib.hid hvb
  have HCM := Lib.hid hcm
  have HPL := Lib.hid hpl
  have HH := Lib.hid hH
  clear hT hA hl hr hv hvb hcm hpl hH
  generalize hnc : cs.length = nc at *
  have HNC := Lib.hid hnc
  clear hnc
  refine (callsIn_wide (n := 6)).1 ?_
  refine callsIn_of_wp_marks Tryd.func31 rfl trivial ?_ rfl
  simp only [Tryd.ntmps31, List.size_toArray, List.length_cons, List.length_nil, Nat.reduceAdd, Nat.reduceSub, Array.replicate_succ, Array.replicate_zero, List.push_toArray, List.append_toArray, List.nil_append, List.cons_append]
  gi_wp2_with fail
  obtain ⟨wL, hwL⟩ : ∃ wL, (((((w.alloc (.cells #[.slice av nc cv] 43)).alloc (.cells #[.slice (some ⟨gp, offp, none⟩) (nc + 1) cp] 55)).alloc (.cells #[.int .i64 lv] 3)).alloc (.cells #[.bool false] 4)).alloc (.cells #[.int .i64 0] 3)) = wL := ⟨_, rfl⟩
  have hzL : wL.heap.size = w.heap.size + 5 := by rw [← hwL]; simp
  have hBL : Below w.heap.size w wL := by rw [← hwL]; go_grown
  have B5 : Blk wL w.heap.size 43 #[.slice av nc cv] := by rw [← hwL]; simp (disch := (first | omega | (simp only [World.size_alloc, World.size_setCell, World.size_drew] <;> omega) | fail)) only [Blk, heap_old, heap_at, heap_set_same, heap_set_ne, heap_drew', Option.map_some, putO_cells]
  have B6 : Blk wL (w.heap.size + 1) 55 #[.slice (some ⟨gp, offp, none⟩) (nc + 1) cp] := by rw [← hwL]; simp (disch := (first | omega | (simp only [World.size_alloc, World.size_setCell, World.size_drew] <;> omega) | fail)) only [Blk, heap_old, heap_at, heap_set_same, heap_set_ne, heap_drew', Option.map_some, putO_cells]
  have B7 : Blk wL (w.heap.size + 1 + 1) 3 #[.int .i64 lv] := by rw [← hwL]; simp (disch := (first | omega | (simp only [World.size_alloc, World.size_setCell, World.size_drew] <;> omega) | fail)) only [Blk, heap_old, heap_at, heap_set_same, heap_set_ne, heap_drew', Option.map_some, putO_cells]
  have B8' : Blk wL (w.heap.size + 1 + 1 + 1) 4 #[.bool false] := by rw [← hwL]; simp (disch := (first | omega | (simp only [World.size_alloc, World.size_setCell, World.size_drew] <;> omega) | fail)) only [Blk, heap_old, heap_at, heap_set_same, heap_set_ne, heap_drew', Option.map_some, putO_cells]
  have B9 : Blk wL (w.heap.size + 1 + 1 + 1 + 1) 3 #[.int .i64 0] := by rw [← hwL]; simp (disch := (first | omega | (simp only [World.size_alloc, World.size_setCell, World.size_drew] <;> omega) | fail)) only [Blk, heap_old, heap_at, heap_set_same, heap_set_ne, heap_drew', Option.map_some, putO_cells]
  rw [hwL]
  clear hwL
  refine wpIn_rangeFunc_M rfl (by decide) (gf := 41) (lb := #[.pointer (some ⟨bb, 0, none⟩)]) rfl trivial (enters_of Tryd.func41 (by kernel_rfl) rfl)
    (encs := evArgs) (T := EvT l wL.heap.size) (S := EvS l) (Sp := fun _ => True) (Pf := fun _ => False) (Ro := fun k => k < w.heap.size)
    (fun W' hW' => each_seq _ bb ab n cb l wL.heap.size _ W' ((HT.out.below hBL HT.out.1).below hW' (by have := HT.out.1; omega)) ((HA.out.below hBL).below hW') HL.out hn hc HCM.out ((((HR.out.below hBL).more hBL.size).below hW').more hW'.size) HT.out.1 HA.out.lt
      (fun g off e hne => by
        rcases HR.out with h | ⟨b, off', h, hb, _⟩
        · exact absurd (List.map_eq_nil_iff.1 h) hne
        · rw [e] at h; cases h; exact hb) hW'.size (fun k hk => by have := hW'.size; omega))
    (fun _ h => h.elim) (fun k hk => by omega) (fun _ => rfl)
    (fun pre Pv W => (∀ k, Pv k → wL.heap.size ≤ k) ∧ Fr (fun k => k = w.heap.size + 1 + 1 + 1 + 1 ∨ wL.heap.size ≤ k) wL W ∧ Blk W (w.heap.size + 1 + 1 + 1 + 1) 3 #[.int .i64 pre.length])
    (fun c pre Pv W => c = .ret ∧ (∀ k, Pv k → wL.heap.size ≤ k) ∧ Fr (fun k => k = w.heap.size + 1 + 1 + 1 ∨ k = w.heap.size + 1 + 1 + 1 + 1 ∨ wL.heap.size ≤ k) wL W ∧ Blk W (w.heap.size + 1 + 1 + 1) 4 #[.bool true])
    ?stab ?stabx ?start ?round ?done ?stop
  case stab =>
    rintro pre Pv Pv' W W' ⟨h1, h2, h3⟩ hf hP
    have hs := h2.size
    refine ⟨fun k hk => (hP k hk).elim (h1 k) (fun h => by omega), h2.trans (hf.mono fun k _ h => h.elim (fun h => .inr (h1 k h)) (fun h => .inr (by omega))), ?_⟩
    exact (hf.block _ h3.lt (fun h => h.elim (fun h => by have := h1 _ h; omega) (fun h => by omega))).trans h3
  case stabx =>
    rintro c pre Pv Pv' W W' ⟨rfl, h1, h2, h3⟩ hf hP
    have hs := h2.size
    refine ⟨rfl, fun k hk => (hP k hk).elim (h1 k) (fun h => by omega), h2.trans (hf.mono fun k _ h => h.elim (fun h => .inr (.inr (h1 k h))) (fun h => .inr (.inr (by omega)))), ?_⟩
    exact (hf.block _ h3.lt (fun h => h.elim (fun h => by have := h1 _ h; omega) (fun h => by omega))).trans h3
  case start => exact ⟨fun _ h => h.elim, Fr.refl _ _, B9⟩
  case round =>
    rintro rl pre ⟨at_, x⟩ Pv W hrl hrs hp1 hp2 ⟨rr, hrec⟩ hdef ⟨hPv, hF, hN⟩ ⟨t1, t2, t3, ⟨R, t4⟩, t5, t6, t7⟩
    dsimp only at t1 t2 t3 t4 t5 t6
    have HT7 := Lib.hid t7
    clear t7
    obtain ⟨xa, xc, hxv, _⟩ := own_slice t5
    have HN := Lib.hid (Frm.heads_next (by rw [HL.out]; exact hn) HH.out t1 t2 t4)
    have HREC := Lib.hid hrec
    have HDEF := Lib.hid hdef
    have hFs := hF.size
    clear hrec hdef
    dsimp only [evArgs]
    gi_wp2_with fail
    refine ⟨heap_old hrs, heap_old (by omega), fun W2 hO => ?_⟩
    obtain ⟨k, hk⟩ : ∃ k, pre.length = k := ⟨_, rfl⟩
    have hkm : (pre.map fun e : Ev => e.2.pair).length = k := by rw [List.length_map]; exact hk
    obtain ⟨y, hy, hyp⟩ : ∃ y, cs[k]? = some y ∧ y.pair = (x.t, x.l) := by
      have h := HN.out.2
      rw [hkm, List.getElem?_map] at h
      obtain ⟨y, h1, h2⟩ := Option.map_eq_some_iff.1 h
      exact ⟨y, h1, h2⟩
    have hyt : y.t = x.t := congrArg Prod.fst hyp
    have hyl : y.l = x.l := congrArg Prod.snd hyp
    have hkn : k < nc := by rw [← HNC.out]; exact (List.getElem?_eq_some_iff.1 hy).1
    have hat : at_ = szTo cs k := by
      have h := HN.out.1
      rw [hkm] at h
      unfold szTo
      rw [List.map_take, h, t1, List.length_take]
      omega
    have old : ∀ b, b < wL.heap.size → b ≠ w.heap.size + 1 + 1 + 1 + 1 → W2.heap[b]? = wL.heap[b]? := fun b hb hne => (hO.at (by omega)).trans ((heap_old (by omega)).trans (hF.block b hb (fun h => h.elim hne (fun h => by omega))))
    have C5 : Blk W2 w.heap.size 43 #[.slice av nc cv] := (old _ (by omega) (by omega)).trans B5
    have C6 : Blk W2 (w.heap.size + 1) 55 #[.slice (some ⟨gp, offp, none⟩) (nc + 1) cp] := (old _ (by omega) (by omega)).trans B6
    have C7 : Blk W2 (w.heap.size + 1 + 1) 3 #[.int .i64 lv] := (old _ (by omega) (by omega)).trans B7
    have C8 : Blk W2 (w.heap.size + 1 + 1 + 1) 4 #[.bool false] := (old _ (by omega) (by omega)).trans B8'
    have C9 : Blk W2 (w.heap.size + 1 + 1 + 1 + 1) 3 #[.int .i64 k] := (hO.at (by omega)).trans ((heap_old hN.lt).trans (by rw [← hk]; exact hN))
    have CX : Blk W2 W.heap.size 35 #[B8 x.t, .slice xa x.l.length xc] := (hO.at (by omega)).trans (heap_at rfl)
    have oldc : ∀ b o, b < w.heap.size → W2.cell? ⟨b, o, none⟩ = w.cell? ⟨b, o, none⟩ := fun b o hb => (World.cell?_of_block (a := ⟨b, o, none⟩) (old b (by omega) (by omega))).trans (hBL.cell (p := ⟨b, o, none⟩) hb)
    obtain ⟨vb, vo, rfl⟩ := rd_some Bk.cells 2 Bk.len (by omega) HV.out (k := k) (by rw [HNC.out]; exact hkn)
    have g0 := rd_flat Bk.cells 2 Bk.len HV.out hy (j := 0) rfl
    have g1 := rd_flat Bk.cells 2 Bk.len HV.out hy (j := 1) rfl
    obtain ⟨ya, yc, hyv, hyn, hyr⟩ := HVB.out y (List.mem_of_getElem? hy)
    have e0 : W2.cell? ⟨vb, vo + k * 2, none⟩ = some (B8 x.t) := by rw [← hyt]; exact (oldc _ _ g0.2).trans g0.1
    have e1 : W2.cell? ⟨vb, vo + k * 2 + 1, none⟩ = some (.slice ya x.l.length yc) := by rw [← hyl, ← hyv]; exact (oldc _ _ g1.2).trans g1.1
    have e2 : W2.cell? ⟨gp, offp + k, none⟩ = some (.int .i64 at_) := by rw [hat]; exact (oldc _ _ hgp).trans (HPL.out k (by omega))
    have o2 : W2.heap.size = W.heap.size + 1 := by rw [hO.2, World.size_alloc]
    have hkd : ∀ g, x.v.ownBlock = some g → g ≠ rl ∧ g ≠ rl - 1 := fun g hg =>
      ⟨(fun e => by
        have h := own_kind t5 hg (by rw [e]; exact HREC.out)
        cases h), (fun e => by
        have h := own_kind t5 hg (by rw [e]; exact HDEF.out)
        cases h)⟩
    have hown2 : W2.ownsRow wL.heap.size 5 1 x.v x.l.length (x.l.map B8) := own_at t5 (fun g hg => (hO.at (hkd g hg).1).trans (heap_old (t5.lt g hg).2))
    rw [hxv] at hkd
    have HKD := Lib.hid hkd
    clear hkd
    have hyr2 : Rd W2 w.heap.size ya (x.l.map B8) := by rw [← hyl]; exact hyr.keep fun b o hb => oldc b o hb
    rw [hxv] at hown2
    have p5 := own_rd hown2
    obtain ⟨_, _, e5, p51, _, _, _, p52⟩ := p5
    cases e5
    have r1 : ∀ w' : World, (∀ b o, w'.cell? ⟨b, o, none⟩ = W2.cell? ⟨b, o, none⟩) → (convert 22 9 (.slice xa x.l.length xc)).run Tryd.prog w' = .ok (.string (strOf x.l)) w' := fun w' hw => conv_rd xa x.l.length xc x.l rfl w' _ (p52.keep fun b o _ => hw b o)
    have r2 : ∀ w' : World, (∀ b o, w'.cell? ⟨b, o, none⟩ = W2.cell? ⟨b, o, none⟩) → (convert 22 9 (.slice ya x.l.length yc)).run Tryd.prog w' = .ok (.string (strOf x.l)) w' := fun w' hw => conv_rd ya x.l.length yc x.l rfl w' _ (hyr2.keep fun b o _ => hw b o)
    have c5 := C5.cell 0
    have c6 := C6.cell 0
    have c7 := C7.cell 0
    have c9 := C9.cell 0
    have cx := CX.cell
    have hk' : ¬ (nc : Int) ≤ k := by omega
    have hd : decide (nc ≤ k) = false := by simp; omega
    have hkk : k < nc + 1 := by omega
    have hkk2 : (k : Int) < (nc : Int) + 1 := by omega
    have bn1 : ((at_ : Int) != (at_ : Int)) = false := by simp
    have bn2 : ((x.t.toNat : Int) != (x.t.toNat : Int)) = false := by simp
    have bn3 : ((strOf x.l).toList != (strOf x.l).toList) = false := by simp
    have HOW := Lib.hid hown2
    have HO2 := Lib.hid hO
    have HT6 := Lib.hid t6
    have HF2 := Lib.hid hF
    have HXV := Lib.hid hxv
    have HT3 := Lib.hid t3
    generalize hxn : x.l.length = xn at *
    generalize hst : strOf x.l = str at *
    clear t1 t2 t4 t5 t6 HN hkm hy hyp hyt hyl hat g0 g1 hyv hyn hyr hyr2 hxv hown2 p51 p52 hO hF old oldc hxn hst t3
    gi_wp2_with fail
    (refine region_keep_round _ _ (fun _ => True) 32 [(0, true), (1, true), (2, true), (3, true), (4, true), (5, true), (6, true), (7, true), (8, true), (9, true), (10, true), (11, true), (12, true), (13, true), (14, true), (15, true), (16, true), (17, true), (18, true), (19, true), (20, true), (21, true), (22, true), (23, true), (24, true), (25, true), (26, true), (27, true), (28, true), (29, true), (30, true), (31, true)] (by kernel_rfl) (by kernel_rfl) (fun _ _ d _ _ h => by cases d <;> exact h) (by kernel_rfl) ?_; simp only [withOps, List.getElem?_toArray, List.getElem?_cons_zero, List.getElem?_cons_succ, List.drop_succ_cons, List.drop_zero])
    (iterate 32 (refine keep_quiet (v := ?_) rfl ?_ ?_; rotate_left; (focus (intro w' hw'; go_simp; (try with_reducible rfl); done)); try simp only [Act.put, List.setIfInBounds_toArray, List.set_cons_zero, List.set_cons_succ]))
    (with_reducible refine plan_end ?_)
    (try simp only [Act.put, List.setIfInBounds_toArray, List.set_cons_zero, List.set_cons_succ])
    go_wp2_with fail
    simp only [noOut_normal, Exit.then]
    go_at_K
    gi_wp2_with fail
    clear r1 r2 bn1 bn2 bn3 hk' hd hkk hkk2 e0 e1 e2
    have hxn3 : xn ≤ 70368744177664 := by have := HT3.out; omega
    refine ⟨trivial, (((callsIn_wide (n := 3)).2 (spoilt_b (.slice xa xn xc) xn W2.drew (byt_of_own HOW.out) hxn3)).inRound _).mono ?_⟩
    rintro en w3 ⟨rfl, hS⟩
    have hgx : ∀ g, (Value.slice xa xn xc).ownBlock = some g → wL.heap.size ≤ g ∧ ¬ Pv g := fun g hg => ⟨(HOW.out.lt g hg).1, HT6.out g (by rw [HXV.out]; exact hg)⟩
    have hb3 : ∀ b : Nat, (Value.slice xa xn xc).ownBlock ≠ some b → w3.heap[b]? = W2.heap[b]? := fun b hb => hS.1 b hb
    have hlow : ∀ b, b < wL.heap.size → (Value.slice xa xn xc).ownBlock ≠ some b := fun b hb e => by have := (hgx b e).1; omega
    have D7 : Blk w3 (w.heap.size + 1 + 1) 3 #[.int .i64 lv] := (hb3 _ (hlow _ (by omega))).trans C7
    have D8 : Blk w3 (w.heap.size + 1 + 1 + 1) 4 #[.bool false] := (hb3 _ (hlow _ (by omega))).trans C8
    have D9 : Blk w3 (w.heap.size + 1 + 1 + 1 + 1) 3 #[.int .i64 k] := (hb3 _ (hlow _ (by omega))).trans C9
    have hrl1 : w3.heap[rl - 1]? = W2.heap[rl - 1]? := hb3 _ (fun e => (HKD.out _ e).2 rfl)
    have hrl0 : w3.heap[rl]? = W2.heap[rl]? := hb3 _ (fun e => (HKD.out _ e).1 rfl)
    have HR1 := Lib.hid hrl1
    have HR0 := Lib.hid hrl0
    have HFR := Lib.hid (show Fr (fun k => k = w.heap.size + 1 + 1 + 1 + 1 ∨ wL.heap.size ≤ k) wL w3 from
      ((HF2.out.alloc (.cells #[B8 x.t, .slice xa xn xc] 35)).trans (HO2.out.1.mono fun k _ h => .inr (by omega))).drew.trans (Fr.of_still hS fun g hg => .inr (hgx g hg).1))
    have HKE := Lib.hid (show Kept (fun k => Pv k ∨ k < w.heap.size) W w3 from ⟨by rw [hS.2.1]; exact (by rw [show W2.drew.heap.size = W2.heap.size from rfl, o2]; omega), fun b hb => by
      have hbl : b < W.heap.size := hb.elim (fun h => HT7.out b h) (fun h => by omega)
      refine (hb3 b (fun e => hb.elim (fun h => (hgx b e).2 h) (fun h => by have := (hgx b e).1; omega))).trans ((HO2.out.at (fun e => hb.elim (fun h => hp1 (e ▸ h)) (fun h => by omega))).trans (heap_old hbl))⟩)
    have s3 : w3.heap.size = W.heap.size + 1 := by rw [hS.2.1]; exact o2
    have HS := Lib.hid hS
    have HKB := Lib.hid hb3
    have HGX := Lib.hid hgx
    have HLOW := Lib.hid hlow
    have c9 := D9.cell 0
    have f9 := D9.free 0
    have c7 := D7.cell 0
    have c8 := D8.cell 0
    have f8 := D8.free 0
    have l9 := D9.lt
    have l8 := D8.lt
    have l7 := D7.lt
    clear C5 C6 C7 C8 C9 CX c5 c6 cx hS hb3 hgx hlow D7 hrl1 hrl0
    rcases Decidable.em (lv = (k : Int) + 1) with hlv | hlv
    · subst hlv
      gi_wp2_with fail
      refine ⟨?_, ?_, rfl, hPv, ?_, ?_⟩
      · rw [heap_set_ne _ _ _ _ _ (by omega), heap_set_ne _ _ _ _ _ (by omega)]; exact HR0.out
      · rw [heap_set_ne _ _ _ _ _ (by omega), heap_set_ne _ _ _ _ _ (by omega)]; exact HR1.out
      · exact ((HFR.out.mono fun q _ h => h.elim (fun h => .inr (.inl h)) (fun h => .inr (.inr h))).set _ (.inr (.inl rfl))).set _ (.inl rfl)
      · unfold Blk at D8; simp (disch := (first | omega | (simp only [World.size_alloc, World.size_setCell, World.size_drew] <;> omega) | fail)) only [Blk, heap_old, heap_at, heap_set_same, heap_set_ne, heap_drew', Option.map_some, putO_cells, D8]; rfl
    · have hlv' : ((k : Int) + 1 == lv) = false := by simp; omega
      gi_wp2_with fail
      refine ⟨?_, ?_, ⟨?_, fun b hb => ?_⟩, hPv, HFR.out.set _ (.inl rfl), ?_⟩
      · rw [heap_set_ne _ _ _ _ _ (by omega)]; exact HR0.out
      · rw [heap_set_ne _ _ _ _ _ (by omega)]; exact HR1.out
      · rw [World.size_setCell]; exact HKE.out.1
      · rw [heap_set_ne _ _ _ _ _ (hb.elim (fun h => by have := hPv b h; omega) (fun h => by omega))]
        exact HKE.out.2 b hb
      · rw [List.length_append, hk]
        unfold Blk at D9; simp (disch := (first | omega | (simp only [World.size_alloc, World.size_setCell, World.size_drew] <;> omega) | fail)) only [Blk, heap_old, heap_at, heap_set_same, heap_set_ne, heap_drew', Option.map_some, putO_cells, D9]; rfl
  case done =>
    rintro D xs Pv W hD ⟨a2, s2, hS⟩ ⟨hPv, hF, hN⟩ hK
    have hxs : xs.length = nc := by
      have h := (Frm.Heads.unique (by rw [HL.out]; exact hn) hS HH.out).1
      have h := congrArg List.length h
      rw [List.length_map, List.length_map, HNC.out] at h
      exact h
    rw [hxs] at hN
    have hFs := hF.size
    have C5 : Blk W w.heap.size 43 #[.slice av nc cv] := (hF.block _ (by omega) (by omega)).trans B5
    have C8 : Blk W (w.heap.size + 1 + 1 + 1) 4 #[.bool false] := (hF.block _ (by omega) (by omega)).trans B8'
    have c5 := C5.cell 0
    have c8 := C8.cell 0
    have f8 := C8.free 0
    have c9 := hN.cell 0
    have l8 := C8.lt
    have hnn : ((nc : Int) == (nc : Int)) = true := by simp
    gi_wp2_with fail
    have hK' : (W.setCell ⟨w.heap.size + 1 + 1 + 1, 0, none⟩ (.bool true)).heap[D]? = some (.deferred (some [])) := (heap_set_ne _ _ _ _ _ (by omega)).trans hK
    refine ⟨by simp, .inl ⟨_, _, rfl, run_takeDeferred hK', ?_⟩⟩
    have D8 : Blk ((W.setCell ⟨w.heap.size + 1 + 1 + 1, 0, none⟩ (.bool true)).putObj D (.deferred none)) (w.heap.size + 1 + 1 + 1) 4 #[.bool true] := (World.putObj_heap_other (by omega)).trans (by unfold Blk at C8; simp (disch := (first | omega | (simp only [World.size_alloc, World.size_setCell, World.size_drew] <;> omega) | fail)) only [Blk, heap_old, heap_at, heap_set_same, heap_set_ne, heap_drew', Option.map_some, putO_cells, C8]; rfl)
    have hc8 := D8.cell 0
    have hfin : Fr (fun k => w.heap.size ≤ k) wL ((W.setCell ⟨w.heap.size + 1 + 1 + 1, 0, none⟩ (.bool true)).putObj D (.deferred none)) :=
      ((hF.mono fun q _ h => show w.heap.size ≤ q by omega).set _ (by omega)).trans ((OnlyB.put _ D _).1.mono fun q _ h => by omega)
    refine ⟨.bool true, ?_, rfl, hBL.trans (hfin.below (fun _ h => h) (by omega))⟩
    simp [results, Tryd.f31, go_sem, hc8]
  case stop =>
    rintro D c pre Pv W hD _ ⟨rfl, hPv, hF, C8⟩ hK
    gi_wp2_with fail
    refine ⟨by simp, .inl ⟨_, _, rfl, run_takeDeferred hK, ?_⟩⟩
    have D8 : Blk (W.putObj D (.deferred none)) (w.heap.size + 1 + 1 + 1) 4 #[.bool true] := (World.putObj_heap_other (by omega)).trans C8
    have hc8 := D8.cell 0
    have hfin : Fr (fun k => w.heap.size ≤ k) wL (W.putObj D (.deferred none)) :=
      (hF.mono fun q _ h => show w.heap.size ≤ q by omega).trans ((OnlyB.put _ D _).1.mono fun q _ h => by omega)
    refine ⟨.bool true, ?_, rfl, hBL.trans (hfin.below (fun _ h => h) (by omega))⟩
    simp [results, Tryd.f31, go_sem, hc8]
end Go.Proofs.YtolbmjilcngnhaaDoor
