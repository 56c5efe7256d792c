/- TimersMeanwhile: one turn: the whole going over. -/
import Derived.Test.YtlmmcffbpdfcjaaTmMw
import Derived.WalkMore
set_option linter.unusedSimpArgs false
set_option linter.unusedVariables false
namespace Go.Proofs.Ytlmmcffbpdfcjaa
open Go.RowKit Go.Kp Go.ChangeMaps Go.Shelf
attribute [local go_sem] Oper.semAt_some
attribute [local go_sem high] eqT neqT

/-- What a turn leaves. -/
structure TurnP (w w' : World) (B : Nat) (s : Bs) (sv : Value) (x : Qr) (N0 ns at_ : Nat) (D : Nat) : Prop where
  st : ∃ x' at' d0 d1, MwS w' B s sv x' at' d0 d1 ∧ x'.q = x.q ∧ x'.S.length ≤ N0 + min at' ns ∧ at' ≤ at_ + 5000000000000 ∧ (∀ b, x'.foot b → x.foot b ∨ w.heap.size ≤ b) ∧ ¬ MwS.own s x' D
  fr : Fr (fun b => b ∈ s.list ∨ x.foot b) w w'
  d : w'.heap[D]? = some (.deferred (some []))
  new : w.heap.size ≤ D

/-- What stands between two rounds; bw, bw + 1: the boxes of what is wanted and of the count. -/
structure InvP (B N0 ns at_ : Nat) (s : Bs) (sv : Value) (x : Qr) (bw : Nat) (a2 : Option Addr) (c2 nl wz : Nat) (wL : World) (k : Nat) (Pv : Nat → Prop) (W : World) : Prop where
  st : ∃ x' d0 d1, MwS W B s sv x' (at_ + k) d0 d1 ∧ x'.q = x.q ∧ x'.S.length ≤ N0 + min (at_ + k) ns ∧ (∀ b, x'.foot b → x.foot b ∨ wL.heap.size + 2 ≤ b) ∧ (∀ b, x'.lv.ownBlock = some b → x.lv.ownBlock = some b ∨ wL.heap.size + 2 ≤ b) ∧
    ∀ b, MwS.own s x' b → ¬ Pv b
  w : Blk W bw 29 #[.slice a2 nl c2]
  n : Blk W (bw + 1) 3 #[.int .i64 k]
  row : W.ownsRow wz 25 4 (.slice a2 nl c2) nl (x.S.flatMap cT)
  off : ∀ b, b = bw ∨ b = bw + 1 ∨ (Value.slice a2 nl c2).ownBlock = some b → ¬ Pv b
  pv : ∀ b, Pv b → wL.heap.size ≤ b
  fr : Fr (fun b => b ∈ s.list ∨ x.foot b ∨ b = bw + 1 ∨ wL.heap.size ≤ b) wL W
theorem InvP.stab {B N0 ns at_ : Nat} {s : Bs} {sv : Value} {x : Qr} {bw : Nat} {a2 : Option Addr} {c2 nl wz : Nat} {wL : World} {k : Nat} {Pv Pv' : Nat → Prop} {W W' : World} (h : InvP B N0 ns at_ s sv x bw a2 c2 nl wz wL k Pv W)
    (hf : Fr (fun b => Pv b ∨ b = wL.heap.size + 1) W W') (hP : ∀ b, Pv' b → Pv b ∨ W.heap.size ≤ b) (hown : ∀ b, x.foot b ∨ x.lv.ownBlock = some b ∨ b ∈ s.list ∨ b = bw ∨ b = bw + 1 ∨ (Value.slice a2 nl c2).ownBlock = some b → b < wL.heap.size) : InvP B N0 ns at_ s sv x bw a2 c2 nl wz wL k Pv' W' := by
  obtain ⟨x', d0, d1, h1, h2, h3, h4, h5, h6⟩ := h.st
  have hz := h.fr.size
  have nl' : ∀ b, MwS.own s x' b → b ≠ wL.heap.size + 1 := by
    rintro b (hb | hb | hb) e
    · have := hown b (.inr (.inr (.inl hb))); omega
    · rcases h4 b hb with h | h
      · have := hown b (.inl h); omega
      · omega
    · rcases h5 b hb with h | h
      · have := hown b (.inr (.inl h)); omega
      · omega
  have keep : ∀ b, b < W.heap.size → ¬ Pv b → b ≠ wL.heap.size + 1 → W'.heap[b]? = W.heap[b]? := fun b h1 h2 h3 => hf.block b h1 fun h => h.elim h2 h3
  refine ⟨⟨x', d0, d1, h1.same fun b hb => keep b (h1.lt b hb) (h6 b hb) (nl' b hb), h2, h3, h4, h5, fun b hb hp => ?_⟩, ?_, ?_, ?_, fun b hb hp => ?_, fun b hp => ?_, ?_⟩
  · rcases hP b hp with h | h
    · exact h6 b hb h
    · have := h1.lt b hb; omega
  · exact (keep _ h.w.lt (h.off _ (.inl rfl)) (by have := hown bw (.inr (.inr (.inr (.inl rfl)))); omega)).trans h.w
  · exact (keep _ h.n.lt (h.off _ (.inr (.inl rfl))) (by have := hown (bw + 1) (.inr (.inr (.inr (.inr (.inl rfl))))); omega)).trans h.n
  · exact owns_same h.row fun b hb => keep b (h.row.lt b hb).2 (h.off b (.inr (.inr hb))) (by have := hown b (.inr (.inr (.inr (.inr (.inr hb))))); omega)
  · rcases hP b hp with h' | h'
    · exact h.off b hb h'
    · rcases hb with rfl | rfl | hb
      · have := h.w.lt; omega
      · have := h.n.lt; omega
      · have := (h.row.lt b hb).2; omega
  · rcases hP b hp with h' | h'
    · exact h.pv b h'
    · omega
  · exact h.fr.trans (hf.mono fun b hb h' => h'.elim (fun h' => .inr (.inr (.inr (h.pv b h')))) (fun h' => .inr (.inr (.inr (by omega)))))

theorem at_W {G : Act → World → Prop} {a : Act} {W : World} (T : World → Prop) (hT : T W) (h : ∀ wc, T wc → G a wc) : G a W := h W hT
/-- The end of a round. -/
theorem round_fin {B N0 ns at_ : Nat} {s : Bs} {sv : Value} {x x' x2 : Qr} {bw : Nat} {a2 : Option Addr} {c2 nl wz : Nat} {wL : World} {pre : List Tm.T} {t : Tm.T} {k : Nat} {Pv : Nat → Prop} {W W2 W' : World} {rl : Nat} {o : Obj} {d0 d1 : Value} {a : Act} (hk : pre.length = k)
    (h : InvP B N0 ns at_ s sv x bw a2 c2 nl wz wL k Pv W) (hO : OnlyB rl (W.alloc o) W2) (hrl : rl = wL.heap.size + 1) (hrs : rl < W.heap.size) (hp1 : ¬ Pv rl) (hPl : ∀ b, Pv b → b < W.heap.size)
    (hown : ∀ b, x.foot b ∨ x.lv.ownBlock = some b ∨ b ∈ s.list ∨ b = bw ∨ b = bw + 1 ∨ (Value.slice a2 nl c2).ownBlock = some b → b < wL.heap.size) (hbwl : bw ∉ s.list ∧ bw + 1 ∉ s.list) (hbwx : ∀ b, b = bw ∨ (Value.slice a2 nl c2).ownBlock = some b → b ∉ s.list ∧ ¬ x.foot b ∧ b ≠ bw + 1)
    (f4 : ∀ b, x'.foot b → x.foot b ∨ wL.heap.size + 2 ≤ b) (f5 : ∀ b, x'.lv.ownBlock = some b → x.lv.ownBlock = some b ∨ wL.heap.size + 2 ≤ b) (f6 : ∀ b, MwS.own s x' b → ¬ Pv b)
    (hF : Fr (fun b => b ∈ s.list ∨ x'.foot b ∨ b = bw + 1) W2 W') (hM : MwS W' B s sv x2 (at_ + (k + 1)) d0 d1) (hq : x2.q = x.q) (hlen : x2.S.length ≤ N0 + min (at_ + (k + 1)) ns)
    (g4 : ∀ b, x2.foot b → x'.foot b ∨ W2.heap.size ≤ b) (g5 : ∀ b, x2.lv.ownBlock = some b → x'.lv.ownBlock = some b ∨ W2.heap.size ≤ b) (hn : Blk W' (bw + 1) 3 #[.int .i64 ((k + 1 : Nat) : Int)]) :
    postM (fun pre Pv W => InvP B N0 ns at_ s sv x bw a2 c2 nl wz wL pre.length Pv W) (fun _ _ _ _ => False) Pv (fun _ => False) (pre ++ [t]) rl W W2 .normal a W' := by
  have hz := h.fr.size
  have o2 : W2.heap.size = W.heap.size + 1 := by rw [hO.2, World.size_alloc]
  have old : ∀ b, b < W.heap.size → b ≠ rl → W2.heap[b]? = W.heap[b]? := fun b h1 h2 => (hO.at h2).trans (heap_old h1)
  -- what turns in the round lies among our own
  have turned : ∀ b, (b ∈ s.list ∨ x'.foot b ∨ b = bw + 1) → (b < wL.heap.size ∨ wL.heap.size + 2 ≤ b) ∧ ¬ Pv b := by
    rintro b (hb | hb | hb)
    · exact ⟨.inl (hown b (.inr (.inr (.inl hb)))), f6 b (.inl hb)⟩
    · refine ⟨(f4 b hb).imp (fun h => hown b (.inl h)) id, f6 b (.inr (.inl hb))⟩
    · exact ⟨.inl (hown b (.inr (.inr (.inr (.inr (.inl hb)))))), h.off b (.inr (.inl hb))⟩
  have keepB : ∀ b, b = bw ∨ (Value.slice a2 nl c2).ownBlock = some b → W'.heap[b]? = W.heap[b]? := fun b hb => by
    have hl := hown b (by rcases hb with hb | hb <;> simp [hb])
    have hx := hbwx b hb
    refine (hF.block b (by omega) fun hh => ?_).trans (old b (by omega) (by omega))
    rcases hh with hh | hh | hh
    · exact hx.1 hh
    · rcases f4 b hh with h2 | h2
      · exact hx.2.1 h2
      · omega
    · exact hx.2.2 hh
  refine ⟨hF.block _ (by omega) fun hh => by have := (turned _ hh).1; omega, hF.block _ (by omega) fun hh => by have := (turned _ hh).1; omega, ⟨by have := hF.size; omega, fun b hb => ?_⟩, ?_⟩
  · have hb := hb.elim id False.elim
    have h1 := hPl b hb
    exact (hF.block b (by omega) fun hh => (turned b hh).2 hb).trans (old b h1 (fun e => hp1 (e ▸ hb)))
  · dsimp only
    rw [List.length_append, List.length_singleton, hk]
    refine ⟨⟨x2, d0, d1, hM, hq, hlen, fun b hb => ?_, fun b hb => ?_, ?_⟩, (keepB _ (.inl rfl)).trans h.w, hn, owns_same h.row fun b hb => keepB b (.inr hb), h.off, h.pv, ?_⟩
    · rcases g4 b hb with h1 | h1
      · exact f4 b h1
      · exact .inr (by omega)
    · rcases g5 b hb with h1 | h1
      · exact f5 b h1
      · exact .inr (by omega)
    · rintro b (hb | hb | hb) hp
      · exact f6 b (.inl hb) hp
      · rcases g4 b hb with h1 | h1
        · exact f6 b (.inr (.inl h1)) hp
        · have := hPl b hp; omega
      · rcases g5 b hb with h1 | h1
        · exact f6 b (.inr (.inr h1)) hp
        · have := hPl b hp; omega
    · refine h.fr.trans ⟨?_, ?_, ?_, by have := hF.size; omega, fun b hb hn => ?_⟩
      · exact hF.os.trans hO.1.os
      · exact hF.tape.trans hO.1.tape
      · exact hF.output.trans hO.1.output
      · refine (hF.block b (by omega) fun hh => ?_).trans (old b hb fun e => hn (.inr (.inr (.inr (by omega)))))
        rcases hh with hh | hh | hh
        · exact hn (.inl hh)
        · rcases f4 b hh with h2 | h2
          · exact hn (.inr (.inl h2))
          · exact hn (.inr (.inr (.inr (by omega))))
        · exact hn (.inr (.inr (.inl hh)))

set_option maxRecDepth 100000 in
set_option maxHeartbeats 16000000 in
theorem turn_any (Q : Exit → Act → World → Prop) {w : World} {B N0 : Nat} {s : Bs} {x : Qr} {at_ : Nat} {d0 d1 : Value} (sa : Option Addr) (ns caps : Nat) (sc : List Stp) (ds : List Deferred) {u0 u1 u2 u5 u8 u11 u12 u13 u14 u15 u16 u17 u18 u19 u20 u21 u22 u23 u24 u25 u26 u27 u28 u29 u30 u31 u32 u33 u34 u35 u36 u37 u38 u39 u40 u41 u42 u43 u44 u45 u46 u47 u48 u49 u50 u51 u52 u53 u54 u55 u56 u57 u58 u59 u60 u61 u62 u63 u64 u65 u66 u67 u68 u69 u70 u71 u72 u73 u74 u75 u76 u77 u78 u79 u80 u81 u82 u83 u84 u85 u86 u87 u88 u89 u90 u91 u92 u93 u94 u95 u96 u97 u98 u99 u100 u101 u102 u103 : Value}
    (h : MwS w B s (.slice sa ns caps) x at_ d0 d1) (hnd : s.list.Nodup) (hB : B ≤ w.heap.size) (hBs : ∀ b ∈ s.list, B ≤ b) (hsl : sc.length = ns) (hsr : Rd w B sa (sc.flatMap Stp.cells)) (hsok : ∀ z ∈ sc, z.ok) (hx : x.S.length ≤ N0 + min at_ ns) (hN : N0 + ns < 4900000000000) (hat : at_ ≤ 20000000000000)
    (hK : ∀ (x12 x13 x43 x44 x45 x99 x100 x101 x102 : Value) (w' : World) (D : Nat), TurnP w w' B s (.slice sa ns caps) x N0 ns at_ D → Q .normal { tmps := #[u0, u1, u2, ptr s.b3, ptr s.b4, u5, ptr s.b6, ptr s.b7, u8, .func (.func 38) #[] #[.pointer (some ⟨s.bb, 0, none⟩)], ptr s.b10, u11, x12, x13, u14, u15, u16, u17, u18, u19, u20, u21, u22, u23, u24, u25, u26, u27, u28, u29, u30, u31, u32, u33, u34, u35, u36, u37, u38, u39, u40, u41, u42, x43, x44, x45, u46, u47, u48, u49, u50, u51, u52, u53, u54, u55, u56, u57, u58, u59, u60, u61, u62, u63, u64, u65, u66, u67, u68, u69, u70, u71, u72, u73, u74, u75, u76, u77, u78, u79, u80, u81, u82, u83, u84, u85, u86, u87, u88, u89, u90, u91, u92, u93, u94, u95, u96, u97, u98, x99, x100, x101, x102, u103], defers := { target := .collected D, args := #[] } :: ds } w') :
    (theBlock Try.f6 3).wp Try.prog Q { tmps := #[u0, u1, u2, ptr s.b3, ptr s.b4, u5, ptr s.b6, ptr s.b7, u8, .func (.func 38) #[] #[.pointer (some ⟨s.bb, 0, none⟩)], ptr s.b10, u11, u12, u13, u14, u15, u16, u17, u18, u19, u20, u21, u22, u23, u24, u25, u26, u27, u28, u29, u30, u31, u32, u33, u34, u35, u36, u37, u38, u39, u40, u41, u42, u43, u44, u45, u46, u47, u48, u49, u50, u51, u52, u53, u54, u55, u56, u57, u58, u59, u60, u61, u62, u63, u64, u65, u66, u67, u68, u69, u70, u71, u72, u73, u74, u75, u76, u77, u78, u79, u80, u81, u82, u83, u84, u85, u86, u87, u88, u89, u90, u91, u92, u93, u94, u95, u96, u97, u98, u99, u100, u101, u102, u103], defers := ds } w := by
  simp only [theBlock, Try.f6, blockOf, Nat.reduceEqDiff, if_false, if_true, reduceCtorEq, ite_false, ite_true, Option.getD_some]
  have H := Lib.hid h
  have HSL := Lib.hid hsl
  have HSR := Lib.hid hsr
  have HSO := Lib.hid hsok
  have HKK := Lib.hid hK
  have HND := Lib.hid hnd
  have HBS := Lib.hid hBs
  obtain ⟨al, cl, hlv, hrl, hln⟩ := rd_row h.ok.list
  obtain ⟨nl, hnl⟩ : ∃ nl, x.S.length = nl := ⟨_, rfl⟩
  rw [hnl] at hlv hx
  have HLV := Lib.hid hlv
  have HRL := Lib.hid hrl
  have HLN := Lib.hid hln
  have HNL := Lib.hid hnl
  have c7 := h.c7.cell 0
  simp only [List.getElem?_toArray, List.getElem?_cons_zero] at c7
  rw [hlv] at c7
  have l7 := h.c7.lt
  clear h hsl hsr hsok hK hnd hBs hlv hrl hln hnl
  go_upto_region 15 with (fail)
  apply wp_region_lit
  iterate 1 (go_step; go_step; rename_i KK hKK; (with_reducible refine hKK _ _ ?_); clear hKK KK)
  refine append_tms rfl (.const (.slice none 0 0)) (.tmp 43) rfl w.heap.size (.slice none 0 0) 0 [] rfl (World.ownsRow_nil _ _ _ _) al nl cl x.S rfl HLN.out HNL.out HRL.out (by omega) (Nat.le_refl _) ?_
  intro v2 w2 ho2 hg2 _
  rw [Nat.zero_add, List.nil_append] at ho2
  have hb2 : Below w.heap.size w w2 := below_of_grown (b := w2) (a := w) ⟨hg2.os, hg2.tape, hg2.output, hg2.size, hg2.block⟩ (fun k hk => by cases hk)
  obtain ⟨a2, c2, hv2, hr2, _⟩ := rd_row ho2
  subst hv2
  have HO2 := Lib.hid ho2
  have HR2 := Lib.hid hr2
  have HB2 := Lib.hid hb2
  have H2 := Lib.hid (H.out.below hb2)
  have sz2 := hb2.size
  clear ho2 hg2 hb2 hr2 c7
  (try simp only [Act.put, List.setIfInBounds_toArray, List.set_cons_zero, List.set_cons_succ])
  go_wp2_with fail
  obtain ⟨wL, hwL⟩ : ∃ wL, ((w2.alloc (.cells #[.slice a2 nl c2] 29)).alloc (.cells #[.int .i64 0] 3)) = wL := ⟨_, rfl⟩
  have hzL0 : wL.heap.size = w2.heap.size + 2 := by rw [← hwL]; simp
  have hzL : wL.heap.size ≤ w2.heap.size + 2 := by omega
  have hzL2 : w2.heap.size + 2 ≤ wL.heap.size := by omega
  clear hzL0
  have hBL : Below w2.heap.size w2 wL := by rw [← hwL]; go_grown
  have Bw : Blk wL w2.heap.size 29 #[.slice a2 nl c2] := by rw [← hwL]; simp (disch := (first | omega | (simp only [World.size_alloc, World.size_setCell, World.size_drew] <;> omega) | fail)) only [Blk, heap_old, heap_at, heap_set_same, heap_set_ne, heap_drew', Option.map_some, putO_cells]
  have Bn : Blk wL (w2.heap.size + 1) 3 #[.int .i64 0] := by rw [← hwL]; simp (disch := (first | omega | (simp only [World.size_alloc, World.size_setCell, World.size_drew] <;> omega) | fail)) only [Blk, heap_old, heap_at, heap_set_same, heap_set_ne, heap_drew', Option.map_some, putO_cells]
  have e1 : (w2.alloc (.cells #[.slice a2 nl c2] 29)).heap.size = w2.heap.size + 1 := World.size_alloc _ _
  rw [hwL]
  try rw [e1]
  clear hwL e1
  have HL := Lib.hid (H2.out.below hBL)
  have HOL := Lib.hid (owns_below HO2.out hBL)
  have HBL := Lib.hid hBL
  clear hBL
  have HOW := Lib.hid (show ∀ b, x.foot b ∨ x.lv.ownBlock = some b ∨ b ∈ s.list ∨ b = w2.heap.size ∨ b = w2.heap.size + 1 ∨ (Value.slice a2 nl c2).ownBlock = some b → b < wL.heap.size by
    rintro b (hb | hb | hb | hb | hb | hb)
    · have := H.out.lt b (.inr (.inl hb)); omega
    · have := H.out.lt b (.inr (.inr hb)); omega
    · have := H.out.lt b (.inl hb); omega
    · omega
    · omega
    · have := (HO2.out.lt b hb).2; omega)
  refine (wpIn_wide (n := 6)).1 ?_
  refine wpIn_rangeFunc_M rfl (by decide) (gf := 38) (lb := #[.pointer (some ⟨s.bb, 0, none⟩)]) rfl trivial (enters_of Try.func38 (by kernel_rfl) rfl)
    (encs := wkArgs) (T := WkT x.S) (S := fun xs => xs = x.S) (Sp := fun _ => True) (Pf := fun _ => False) (Ro := fun _ => False)
    (fun W' hW' => all_seq _ s.bb x.S _ W' (HL.out.bb.below hW') (HL.out.ok.tq.below hW') HL.out.ok.sorted HL.out.ok.mem)
    (fun _ h => h.elim) (fun _ h => h.elim) (fun _ => rfl)
    (fun pre Pv W => InvP B N0 ns at_ s (.slice sa ns caps) x w2.heap.size a2 c2 nl w.heap.size wL pre.length Pv W)
    (fun c pre Pv W => False)
    ?stab ?stabx ?start ?round ?done ?stop
  case stab => exact fun pre Pv Pv' W W' hI hf hP => hI.stab hf hP HOW.out
  case stabx => exact fun _ _ _ _ _ _ h => h.elim
  case stop => exact fun _ _ _ _ _ _ _ h => h.elim
  case start =>
    exact ⟨⟨x, d0, d1, HL.out, rfl, by rw [HNL.out]; exact hx, fun b hb => .inl hb, fun b hb => .inl hb, fun _ _ h => h⟩, Bw, Bn, HOL.out, fun _ _ h => h, fun _ h => h.elim, Fr.refl _ _⟩
  case done =>
    rintro D xs Pv W hD rfl hI hK
    subst hD
    obtain ⟨x', e0, e1, g1, g2, g3, g4, g5, g6⟩ := hI.st
    have HIN := Lib.hid hI
    have hz := hI.fr.size
    have hfin : TurnP w W B s (.slice sa ns caps) x N0 ns at_ wL.heap.size := by
      refine ⟨⟨x', _, e0, e1, g1, g2, g3, by rw [HNL.out]; have := HNL.out; omega, fun b hb => (g4 b hb).imp id fun h => by omega, ?_⟩, ?_, hK, by omega⟩
      · rintro (h | h | h)
        · have := HOW.out _ (.inr (.inr (.inl h))); omega
        · rcases g4 _ h with h | h
          · have := HOW.out _ (.inl h); omega
          · omega
        · rcases g5 _ h with h | h
          · have := HOW.out _ (.inr (.inl h)); omega
          · omega
      · refine ⟨hI.fr.os.trans (HBL.out.os.trans HB2.out.os), hI.fr.tape.trans (HBL.out.tape.trans HB2.out.tape), hI.fr.output.trans (HBL.out.output.trans HB2.out.output), by omega, fun b hb hn => ?_⟩
        refine (hI.fr.block b (by omega) fun h => ?_).trans ((HBL.out.block b (by omega)).trans (HB2.out.block b hb))
        rcases h with h | h | h | h
        · exact hn (.inl h)
        · exact hn (.inr h)
        · omega
        · omega
    have HFN := Lib.hid hfin
    have n0 := hI.n.cell 0
    have w0 := hI.w.cell 0
    simp only [List.getElem?_toArray, List.getElem?_cons_zero] at n0 w0
    rw [HNL.out] at n0
    clear hfin hI hK g1 g2 g3 g4 g5 g6
    gi_wp2_with fail
    go_wp2_with fail
    exact HKK.out _ _ _ _ _ _ _ _ _ _ _ HFN.out
  case round =>
    rintro rl pre t Pv W hrl hrs hp1 hp2 ⟨rr, hrec⟩ hdef hI ⟨⟨R, hSR⟩, hPl⟩
    subst hrl
    obtain ⟨k, hk⟩ : ∃ k, pre.length = k := ⟨_, rfl⟩
    have hxk : x.S[k]? = some t := by rw [hSR, ← hk]; simp
    have hkn : k < nl := by rw [← HNL.out]; exact (List.getElem?_eq_some_iff.1 hxk).1
    rw [hk] at hI
    obtain ⟨x', e0, e1, g1, g2, g3, g4, g5, g6⟩ := hI.st
    have hFs := hI.fr.size
    have HPL := Lib.hid hPl
    have HG4 := Lib.hid g4
    have HG5 := Lib.hid g5
    have HG6 := Lib.hid g6
    have hpv1 := hI.pv
    clear hrec hdef hPl hSR
    dsimp only [wkArgs]
    gi_wp2_with fail
    refine ⟨heap_old hrs, heap_old (by omega), fun W2 hO => ?_⟩
    have HO := Lib.hid hO
    have hnl : ∀ b, MwS.own s x' b → b ≠ wL.heap.size + 1 := by
      rintro b (hb | hb | hb) e
      · have := HOW.out b (.inr (.inr (.inl hb))); omega
      · rcases g4 b hb with h | h
        · have := HOW.out b (.inl h); omega
        · omega
      · rcases g5 b hb with h | h
        · have := HOW.out b (.inr (.inl h)); omega
        · omega
    have old : ∀ b, b < W.heap.size → b ≠ wL.heap.size + 1 → W2.heap[b]? = W.heap[b]? := fun b h1 h2 => (hO.at h2).trans (heap_old h1)
    have M2 := g1.same fun b hb => old b (g1.lt b hb) (hnl b hb)
    have w2' : Blk W2 w2.heap.size 29 #[.slice a2 nl c2] := (old _ hI.w.lt (by omega)).trans hI.w
    have n2' : Blk W2 (w2.heap.size + 1) 3 #[.int .i64 k] := (old _ hI.n.lt (by omega)).trans hI.n
    have r2' : W2.ownsRow w.heap.size 25 4 (.slice a2 nl c2) nl (x.S.flatMap cT) := owns_same hI.row fun b hb => old b (hI.row.lt b hb).2 fun e => by
      have := HOW.out b (.inr (.inr (.inr (.inr (.inr hb))))); omega
    have CX : Blk W2 W.heap.size 25 (cT t).toArray := (hO.at (by omega)).trans (heap_at rfl)
    have o2 : W2.heap.size = W.heap.size + 1 := by rw [hO.2, World.size_alloc]
    obtain ⟨g2', c2', er, _⟩ := r2'.form (by omega)
    cases er
    obtain ⟨v0, v1, v2, v3⟩ := row_cells r2' HNL.out hxk
    have hg2l := (r2'.lt g2' rfl).2
    have HM2 := Lib.hid M2
    have HR2' := Lib.hid r2'
    have HI := Lib.hid hI
    have x0 := CX.cell 0
    have x1 := CX.cell 1
    have x2 := CX.cell 2
    have x3 := CX.cell 3
    have c12 := w2'.cell 0
    have c13 := n2'.cell 0
    have f13 := n2'.free 0
    have l13 := n2'.lt
    have l12 := w2'.lt
    simp only [List.getElem?_toArray, List.getElem?_cons_zero, List.getElem?_cons_succ] at x0 x1 x2 x3 c12 c13
    have hd : decide (nl ≤ k) = false := by simp; omega
    have hk' : ¬ (nl : Int) ≤ k := by omega
    clear hO g1 g4 g5 g6 hI M2 r2' hxk
    gi_wp2_with fail
    (refine region_keep_round _ _ (fun _ => True) 10 [(0, true), (1, true), (2, true), (3, true), (4, true), (5, true), (6, true), (7, true), (8, true), (9, true)] (by kernel_rfl) (by kernel_rfl) (fun _ _ d _ _ h => by cases d <;> exact h) (by kernel_rfl) ?_; simp only [withOps, List.getElem?_toArray, List.getElem?_cons_zero, List.getElem?_cons_succ, List.drop_succ_cons, List.drop_zero])
    (iterate 10 (refine keep_quiet (v := ?_) rfl ?_ ?_; rotate_left; (focus (intro w' hw'; go_simp; (try with_reducible rfl); done)); try simp only [Act.put, List.setIfInBounds_toArray, List.set_cons_zero, List.set_cons_succ]))
    (with_reducible refine plan_end ?_)
    (try simp only [Act.put, List.setIfInBounds_toArray, List.set_cons_zero, List.set_cons_succ])
    go_wp2_with fail
    simp only [noOut_normal, Exit.then]
    go_at_K
    have HF13 := Lib.hid f13
    have c10 := HM2.out.c10.cell 0
    have f10 := HM2.out.c10.free 0
    have c3' := HM2.out.c3.cell 0
    have l10 := HM2.out.c10.lt
    have l3 := HM2.out.c3.lt
    simp only [List.getElem?_toArray, List.getElem?_cons_zero] at c10 c3'
    have hn10 : s.b10 ≠ w2.heap.size + 1 := fun e => by have := HOW.out s.b10 (.inr (.inr (.inl (by simp)))); have := H.out.lt s.b10 (.inl (by simp)); omega
    have hn3 : s.b3 ≠ w2.heap.size + 1 := fun e => by have := H.out.lt s.b3 (.inl (by simp)); omega
    have hn10' : ¬ s.b10 = w2.heap.size + 1 := hn10
    have hn3' : ¬ s.b3 = w2.heap.size + 1 := hn3
    have hatn : at_ + k ≤ 25000000000000 := by omega
    generalize hak : at_ + k = ak at *
    clear x0 x1 x2 x3 c12 v0 v1 v2 v3 hd hk'
    have HO3 := HO
    have HRS := Lib.hid hrs
    have HP1 := Lib.hid hp1
    have HBW := Lib.hid (show w2.heap.size ∉ s.list ∧ w2.heap.size + 1 ∉ s.list from ⟨fun hh => by have := H.out.lt _ (.inl hh); omega, fun hh => by have := H.out.lt _ (.inl hh); omega⟩)
    have HBX := Lib.hid (show ∀ b, b = w2.heap.size ∨ (Value.slice (some ⟨g2', 0, none⟩) nl c2).ownBlock = some b → b ∉ s.list ∧ ¬ x.foot b ∧ b ≠ w2.heap.size + 1 from fun b hb => by
      have h1 : w.heap.size ≤ b ∧ b ≠ w2.heap.size + 1 := by
        rcases hb with rfl | hb
        · omega
        · have h2 := HO2.out.lt b hb; omega
      exact ⟨fun hh => by have := H.out.lt _ (.inl hh); omega, fun hh => by have := H.out.lt _ (.inr (.inl hh)); omega, h1.2⟩)
    have HNO := Lib.hid (show ¬ MwS.own s x' (w2.heap.size + 1) by
      rintro (hb | hb | hb)
      · exact HBW.out.2 hb
      · rcases HG4.out _ hb with h | h
        · have := H.out.lt _ (.inr (.inl h)); omega
        · omega
      · rcases HG5.out _ hb with h | h
        · have := H.out.lt _ (.inr (.inr h)); omega
        · omega)
    rcases Nat.lt_or_ge ak ns with hal | hag
    · obtain ⟨z, hz⟩ : ∃ z, sc[ak]? = some z := ⟨_, List.getElem?_eq_getElem (by rw [HSL.out]; exact hal)⟩
      have HZO := Lib.hid (HSO.out z (List.mem_of_getElem? hz))
      have hBW : Below B w W2 := by
        have h1 : Below B w wL := (HB2.out.mono hB).trans (HBL.out.mono (by omega))
        have h2 : Below B wL W := HI.out.fr.below (fun b hb => by
          rcases hb with h | h | h | h
          · exact HBS.out b h
          · exact H.out.ok.ge b h
          · omega
          · omega) (by omega)
        refine h1.trans (h2.trans ⟨HO3.out.1.os, HO3.out.1.tape, HO3.out.1.output, by omega, fun b hb => ?_⟩)
        exact (HO3.out.at (by omega)).trans (heap_old (by have := HI.out.fr.size; omega))
      obtain ⟨b, off, hsa, hbb, hbc⟩ := stp_at (HSR.out.below hBW) hz
      have hbW : b < W2.heap.size := Nat.lt_of_lt_of_le (Nat.lt_of_lt_of_le hbb hB) (by have := HI.out.fr.size; omega)
      have hbn : b ≠ w2.heap.size + 1 := by omega
      have hbn' : ¬ b = w2.heap.size + 1 := hbn
      have hal' : decide (ak < ns) = true := by simp; omega
      have hal2 : (ak : Int) < ns := by omega
      rw [hsa] at c3'
      have b0 := hbc 0 (by omega)
      simp only [Nat.add_zero, List.getElem?_cons_zero, List.getElem?_cons_succ] at b0
      clear hz hBW
      rcases Decidable.em (z.kind = 7) with h7 | h7
      · rw [h7] at b0
        clear hbc
        gi_wp2_with fail
        refine round_fin hk HI.out HO3.out rfl HRS.out HP1.out HPL.out HOW.out HBW.out HBX.out HG4.out HG5.out HG6.out (x2 := x') (d0 := e0) (d1 := e1) ?_ ?_ g2 ?_ (fun b hb => .inl hb) (fun b hb => .inl hb) ?_
        · exact (((Fr.refl _ _).set _ (.inr (.inr rfl))).set _ (.inl (by simp))).drew
        · have hM := (HM2.out.beside (g := w2.heap.size + 1) (i := 0) (.int .i64 ((k : Int) + 1)) HNO.out).tick (n := at_ + (k + 1)) HND.out
          have e : ((at_ + (k + 1) : Nat) : Int) = (ak : Int) + 1 := by omega
          rw [e] at hM
          exact hM.same fun b _ => rfl
        · omega
        · have hb := blk_beside (g := s.b10) (i := 0) (v := .int .i64 ((ak : Int) + 1)) (blk_set (v := .int .i64 ((k : Int) + 1)) n2') (fun e => hn10 e.symm)
          have e : ((k + 1 : Nat) : Int) = (k : Int) + 1 := by omega
          rw [e]
          exact hb
      · have hz7 : (z.kind != 7) = true := by simpa using h7
        have h7' : ¬ z.kind = 7 := h7
        obtain ⟨al', cl', hlv', _⟩ := rd_row HM2.out.ok.list
        obtain ⟨nl', hnl'⟩ : ∃ nl', x'.S.length = nl' := ⟨_, rfl⟩
        rw [hnl'] at hlv'
        have HLV' := Lib.hid hlv'
        have HNL' := Lib.hid hnl'
        have c6 := HM2.out.c6.cell 0
        have c7 := HM2.out.c7.cell 0
        have gc2 := HM2.out.G.cell 2
        have gc3 := HM2.out.G.cell 3
        have gf2 := HM2.out.G.free 2
        have gf3 := HM2.out.G.free 3
        have lgw := HM2.out.G.lt
        have l6 := HM2.out.c6.lt
        have l7' := HM2.out.c7.lt
        simp only [List.getElem?_toArray, List.getElem?_cons_zero, List.getElem?_cons_succ] at c6 c7 gc2 gc3
        rw [hlv'] at c7
        have hn6 : ¬ s.b6 = w2.heap.size + 1 := fun e => by have := H.out.lt s.b6 (.inl (by simp)); omega
        have hn7 : ¬ s.b7 = w2.heap.size + 1 := fun e => by have := H.out.lt s.b7 (.inl (by simp)); omega
        have hng : ¬ s.gw = w2.heap.size + 1 := fun e => by have := H.out.lt s.gw (.inl (by simp)); omega
        have hnd' := HND.out
        simp only [List.nodup_cons, List.mem_cons, List.not_mem_nil, or_false, not_or] at hnd'
        have h6g : ¬ s.b6 = s.gw := hnd'.2.2.1.2.2.1
        have h7g : ¬ s.b7 = s.gw := hnd'.2.2.2.1.2.1
        clear hnd' hlv' hnl'
        gi_wp2_with fail
        (refine region_keep_round _ _ (fun b => b ≠ s.gw) 10 [(0, true), (1, true), (2, true), (3, true), (4, true), (5, true), (6, true), (8, true), (9, true), (7, false)] (by kernel_rfl) (by kernel_rfl) (fun _ _ d _ _ h => by cases d <;> exact h) (by kernel_rfl) ?_; simp only [withOps, List.getElem?_toArray, List.getElem?_cons_zero, List.getElem?_cons_succ, List.drop_succ_cons, List.drop_zero])
        (iterate 9 (refine keep_quiet (v := ?_) rfl ?_ ?_; rotate_left; (focus (intro w' hw'; go_simp; (try with_reducible rfl); done)); try simp only [Act.put, List.setIfInBounds_toArray, List.set_cons_zero, List.set_cons_succ]))
        (with_reducible refine plan_loud (fun K hK => ?_))
        go_simp
        refine hK _ _ ?_ ?_
        · exact (Keep.refl _ _).setCell (by simp) _
        clear hK K
        (with_reducible refine plan_end ?_)
        (try simp only [Act.put, List.setIfInBounds_toArray, List.set_cons_zero, List.set_cons_succ])
        go_wp2_with fail
        simp only [noOut_normal, Exit.then]
        go_at_K
        have hb3 := hbc 3 (by omega)
        (refine at_W (fun W4 => MwS W4 B s (.slice sa ns caps) x' ak (.slice al' nl' cl') (.slice al' nl' cl') ∧ Fr (fun b => b ∈ s.list ∨ x'.foot b ∨ b = w2.heap.size + 1) W2 W4 ∧ Blk W4 (w2.heap.size + 1) 3 #[.int .i64 ((k + 1 : Nat) : Int)] ∧ (∀ o, W4.cell? ⟨b, o, none⟩ = W2.cell? ⟨b, o, none⟩) ∧ W4.heap.size = W2.heap.size) ⟨?_, ?_, ?_, ?_, ?_⟩ ?_)
        · exact ((HM2.out.beside (g := w2.heap.size + 1) (i := 0) (.int .i64 ((k : Int) + 1)) HNO.out).lay HND.out).same fun b _ => rfl
        · exact (((((Fr.refl _ _).set _ (.inr (.inr rfl))).set _ (.inl (by simp))).set _ (.inl (by simp))).drew).drew
        · have hb := blk_beside (g := s.gw) (i := 3) (v := .slice al' nl' cl') (blk_beside (g := s.gw) (i := 2) (v := .slice al' nl' cl') (blk_set (v := .int .i64 ((k : Int) + 1)) n2') (fun e => hng e.symm)) (fun e => hng e.symm)
          have e : ((k + 1 : Nat) : Int) = (k : Int) + 1 := by omega
          rw [e]
          exact hb
        · intro o
          refine World.cell?_of_block (a := ⟨b, o, none⟩) ?_
          have hbg : b ≠ s.gw := fun e => by have := HBS.out s.gw (by simp); omega
          show (((W2.setCell _ _).setCell _ _).setCell _ _).heap[b]? = _
          rw [heap_set_ne _ _ _ _ _ hbg, heap_set_ne _ _ _ _ _ hbg, heap_set_ne _ _ _ _ _ hbn]
        · show (((W2.setCell _ _).setCell _ _).setCell _ _).heap.size = _
          simp only [World.size_setCell]
        rintro W4 ⟨M4, hF4, n4, hc4, s4⟩
        have HM4 := Lib.hid M4
        have HF4 := Lib.hid hF4
        have b0 := (hc4 _).trans (hbc 0 (by omega))
        have b1 := (hc4 _).trans (hbc 1 (by omega))
        have b2 := (hc4 _).trans (hbc 2 (by omega))
        have b3 := (hc4 _).trans (hbc 3 (by omega))
        have b4 := (hc4 _).trans (hbc 4 (by omega))
        have b5 := (hc4 _).trans (hbc 5 (by omega))
        have b6 := (hc4 _).trans (hbc 6 (by omega))
        have b7 := (hc4 _).trans (hbc 7 (by omega))
        have b8 := (hc4 _).trans (hbc 8 (by omega))
        have b9 := (hc4 _).trans (hbc 9 (by omega))
        have b10 := (hc4 _).trans (hbc 10 (by omega))
        have b11 := (hc4 _).trans (hbc 11 (by omega))
        simp only [Nat.add_zero, List.getElem?_cons_zero, List.getElem?_cons_succ] at b0 b1 b2 b3 b4 b5 b6 b7 b8 b9 b10 b11
        have hbW4 : b < W4.heap.size := by omega
        have c10 := M4.c10.cell 0
        have c3' := M4.c3.cell 0
        have c6 := M4.c6.cell 0
        have l10 := M4.c10.lt
        have l3 := M4.c3.lt
        have l6 := M4.c6.lt
        simp only [List.getElem?_toArray, List.getElem?_cons_zero] at c10 c3' c6
        rw [hsa] at c3'
        clear M4 hF4 hc4 hbc hb3 c7 gc2 gc3 gf2 gf3 lgw l7'
        have l6w : s.b6 < W.heap.size + 1 := by omega
        have l10w : s.b10 < W.heap.size + 1 := by omega
        have l3w : s.b3 < W.heap.size + 1 := by omega
        have hbww : b < W.heap.size + 1 := by omega
        gi_wp2_with fail
        clear b0 b1 b2 b3 b4 b5 b6 b7 b8 b9 b10 b11 c10 c3' c6
        obtain ⟨Wz, hWz⟩ : ∃ Wz, W4.alloc (.cells (Stp.cells ⟨z.kind, 0, z.leave, z.t, z.u, z.upto⟩).toArray 50) = Wz := ⟨_, rfl⟩
        have hzb : Below W4.heap.size W4 Wz := by rw [← hWz]; go_grown
        have hzs : W4.heap.size ≤ Wz.heap.size := hzb.size
        have M5 := HM4.out.below hzb
        have nz : Blk Wz (w2.heap.size + 1) 3 #[.int .i64 ((k + 1 : Nat) : Int)] := n4.below hzb
        have HZB := Lib.hid hzb
        have hak2 : x'.S.length < 5000000000000 := by omega
        have hstep := step_plain (w := Wz) (k := 0) M5.G rfl x' M5.ok rfl (by rw [HLV'.out]; rfl) (by omega) (M5.dj s.gw (by simp)).1 (M5.dj s.gw (by simp)).2 (by omega) ⟨z.kind, 0, z.leave, z.t, z.u, z.upto⟩ ⟨HZO.out.kind, show R64 0 from by decide, HZO.out.leave, HZO.out.t, HZO.out.u, HZO.out.upto⟩ rfl hak2 h7
        have HST := Lib.hid hstep
        clear hstep hzb
        rw [hWz]
        refine ⟨trivial, (((callsIn_wide (n := 3)).2 HST.out).inRound _).mono ?_⟩
        clear hWz
        rintro en W6 ⟨rfl, x2, hp⟩
        obtain ⟨M6, hk6⟩ := M5.stepped HND.out hp
        obtain ⟨al2, cl2, hlv2, _⟩ := rd_row hp.ok.list
        generalize x2.S.length = nl2 at hlv2
        have HLV2 := Lib.hid hlv2
        have HP := Lib.hid hp
        have HM6 := Lib.hid M6
        have hnd' := HND.out
        simp only [List.nodup_cons, List.mem_cons, List.not_mem_nil, or_false, not_or] at hnd'
        have h10g : ¬ s.b10 = s.gw := hnd'.2.2.2.2.1.1
        have h107 : ¬ s.b10 = s.b7 := fun e => hnd'.2.2.2.1.1 e.symm
        have C6 : Blk W6 s.b6 39 #[ptr s.gw] := (hk6 _ (by simp) h6g).trans M5.c6
        have C7 : Blk W6 s.b7 29 #[x'.lv] := (hk6 _ (by simp) h7g).trans M5.c7
        have C10 : Blk W6 s.b10 3 #[.int .i64 ak] := (hk6 _ (by simp) h10g).trans M5.c10
        have c6 := C6.cell 0
        have c7 := C7.cell 0
        have f7 := C7.free 0
        have c10 := C10.cell 0
        have f10' := C10.free 0
        have l6'' := C6.lt
        have l7'' := C7.lt
        have l10'' := C10.lt
        have lgw := hp.blk.lt
        have cg := hp.blk.cell 2
        simp only [List.getElem?_toArray, List.getElem?_cons_zero] at c6 c7 c10
        rw [show (Array.setIfInBounds #[ptr x'.q, ptr x'.q, Value.slice al' nl' cl', Value.slice al' nl' cl', Value.slice none 0 0, Value.slice none 0 0] (2 + 0) x2.lv)[2]? = some x2.lv from rfl, hlv2] at cg
        have n6 : Blk W6 (w2.heap.size + 1) 3 #[.int .i64 ((k + 1 : Nat) : Int)] := (hp.fr.block _ nz.lt (fun hh => by
          rcases hh with hh | hh
          · exact HNO.out (.inr (.inl hh))
          · exact hng hh.symm)).trans nz
        clear hp M6 hk6 hlv2 hnd'
        gi_wp2_with fail
        refine round_fin hk HI.out HO3.out rfl HRS.out HP1.out HPL.out HOW.out HBW.out HBX.out HG4.out HG5.out HG6.out (x2 := x2) (d0 := .slice al2 nl2 cl2) (d1 := .slice al' nl' cl') ?hF ?hM ?hq ?hlen ?g4 ?g5 ?hn
        case hF =>
          exact (((HF4.out.trans (Fr.next HZB.out)).trans (HP.out.fr.mono fun b _ hb => hb.elim (fun h => .inr (.inl h)) fun h => .inl (by subst h; simp))).set _ (.inl (by simp))).set _ (.inl (by simp))
        case hM =>
          have hM := HM6.out
          rw [HLV2.out] at hM
          have hM := hM.tick (n := at_ + (k + 1)) HND.out
          have e : ((at_ + (k + 1) : Nat) : Int) = (ak : Int) + 1 := by omega
          rw [e] at hM
          exact hM.same fun b _ => rfl
        case hq => exact HP.out.q.trans g2
        case hlen =>
          have h1 := congrArg List.length HP.out.s
          have h2 := next_length ⟨z.kind, 0, z.leave, z.t, z.u, z.upto⟩ x'.S
          omega
        case g4 =>
          exact fun b hb => (HP.out.foot b hb).imp id fun h => by omega
        case g5 =>
          exact fun b hb => (HP.out.list b hb).imp id fun h => by omega
        case hn =>
          have e : ((k + 1 : Nat) : Int) = (k : Int) + 1 := by omega
          exact blk_beside (blk_beside n6 (fun e => hn7 e.symm)) (fun e => hn10 e.symm)
    · have hd : decide (ak < ns) = false := by simp; omega
      have hk' : ¬ (ak : Int) < ns := by omega
      gi_wp2_with fail
      refine round_fin hk HI.out HO3.out rfl HRS.out HP1.out HPL.out HOW.out HBW.out HBX.out HG4.out HG5.out HG6.out (x2 := x') (d0 := e0) (d1 := e1) ?_ ?_ g2 ?_ (fun b hb => .inl hb) (fun b hb => .inl hb) ?_
      · exact (((Fr.refl _ _).set _ (.inr (.inr rfl))).set _ (.inl (by simp))).drew
      · have hM := (HM2.out.beside (g := w2.heap.size + 1) (i := 0) (.int .i64 ((k : Int) + 1)) HNO.out).tick (n := at_ + (k + 1)) HND.out
        have e : ((at_ + (k + 1) : Nat) : Int) = (ak : Int) + 1 := by omega
        rw [e] at hM
        exact hM.same fun b _ => rfl
      · omega
      · have hb := blk_beside (g := s.b10) (i := 0) (v := .int .i64 ((ak : Int) + 1)) (blk_set (v := .int .i64 ((k : Int) + 1)) n2') (fun e => hn10 e.symm)
        have e : ((k + 1 : Nat) : Int) = (k : Int) + 1 := by omega
        rw [e]
        exact hb
end Go.Proofs.Ytlmmcffbpdfcjaa
