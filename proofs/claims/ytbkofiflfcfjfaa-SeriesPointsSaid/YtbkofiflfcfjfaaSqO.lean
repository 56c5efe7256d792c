/- Store: the iterator of a map: what it tells (printed by mkwalk.py). -/
import Derived.Test.YtbkofiflfcfjfaaSqN
set_option linter.unusedSimpArgs false
set_option linter.unusedVariables false
namespace Go.Proofs.Ytbkofiflfcfjfaa.Px
open Go.RowKit Go.Kp Go.St

/-- A function value that says which keys are left out. -/
def OutF (S : World → Prop) (id : Nat) (caps : Array Value) (p : Kx → Bool) : Prop :=
  (∀ (k : Kx) (w : World), (callFunc id (#[Value.agg #[.string k.k, .int .i64 k.s, .int .i64 k.e]] ++ caps)).run Try.prog w = .ok (.enter id (#[Value.agg #[.string k.k, .int .i64 k.s, .int .i64 k.e]] ++ caps)) w) ∧
  ∀ (k : Kx) (w : World), S w → Calls Try.prog id (#[Value.agg #[.string k.k, .int .i64 k.s, .int .i64 k.e]] ++ caps) w fun e w' => e = .returned (.bool (p k)) ∧ Below w.heap.size w w'
/-- What the iterator's caller keeps up. -/
structure WkK (S : World → Prop) (W0 : World) (bb bo : Nat) (back : Bool) (id : Nat) (caps : Array Value) (W : World) : Prop where
  so : S W
  size : W0.heap.size ≤ W.heap.size
  nodes : ∀ b cs, Blk W0 b 135 cs → W.heap[b]? = W0.heap[b]?
  bb : Blk W bb 4 #[.bool back]
  bo : Blk W bo 133 #[.func (.func id) #[] caps]
def WkT (tl : List (Kx × Vx)) (pre : List (Kx × Vx)) (x : Kx × Vx) (Pv : Nat → Prop) (W : World) : Prop := (∃ R, tl = pre ++ x :: R) ∧ ∀ k, Pv k → ∃ cs, Blk W k 124 cs
def wkArgs (x : Kx × Vx) : Array Value := #[.agg #[.string x.1.k, .int .i64 x.1.s, .int .i64 x.1.e], .agg #[.string x.2.key, .int .i64 x.2.s, .int .i64 x.2.e, .int .i64 x.2.kind, .int .i64 x.2.nth, .int .i64 x.2.count, .int .i64 x.2.sum, .int .i64 x.2.min, .int .i64 x.2.max]]
/-- Where the iterator stands. -/
structure WR (W0 : World) (t : Tr) (p : Kx → Bool) (back : Bool) (J : List (Kx × Vx) → (Nat → Prop) → World → Prop) (pre : List (Kx × Vx)) (st : List (Tr × Addr)) (n : Tr) (an : Option Addr) (s : Value) (W : World) : Prop where
  told : told p back t = pre ++ (told p back n ++ rest p back (st.map (·.1)))
  tree : TreeAt W0 n an
  mono : Mono p back n
  wt : n.many + wt back (st.map (·.1)) ≤ t.many
  stk : ∀ q ∈ st, TreeAt W0 q.1 (some q.2) ∧ Mono p back q.1
  own : W.ownsRow W0.heap.size 124 1 s st.length (st.reverse.map fun q => Value.pointer (some q.2))
  j : J pre (fun k => s.ownBlock = some k) W
  size : W0.heap.size ≤ W.heap.size
theorem WR.next {W0 : World} {t : Tr} {p : Kx → Bool} {back : Bool} {J : List (Kx × Vx) → (Nat → Prop) → World → Prop} {pre : List (Kx × Vx)} {st : List (Tr × Addr)} {n : Tr} {an : Option Addr} {s : Value} {W W' : World} (hJ : StabM J)
    (h : WR W0 t p back J pre st n an s W) (hb : Below W.heap.size W W') : WR W0 t p back J pre st n an s W' :=
  ⟨h.told, h.tree, h.mono, h.wt, h.stk, own_kept h.own fun k hk => hb.block k (h.own.lt k hk).2, hJ _ _ _ _ _ h.j (Fr.next hb) (fun k hk => .inl hk), Nat.le_trans h.size hb.size⟩
/-- One is pushed, and the walk goes on near it. -/
theorem WR.push {W0 : World} {t : Tr} {p : Kx → Bool} {back : Bool} {J : List (Kx × Vx) → (Nat → Prop) → World → Prop} {pre : List (Kx × Vx)} {st : List (Tr × Addr)} {l r : Tr} {k : Kx} {v : Vx} {b : Addr} {s s' : Value} {W W' : World} (hJ : StabM J)
    (h : WR W0 t p back J pre st (.node l k v r) (some b) s W) (hp : p k = false) {an : Option Addr} (hn : TreeAt W0 ((T.node l k v r).near back) an) (ho : W'.ownsRow W0.heap.size 124 1 s' (st.length + 1) ((st.reverse.map fun q => Value.pointer (some q.2)) ++ [.pointer (some b)]))
    (hg : W.grownBy W' s.ownBlock) (hs : s'.ownBlock = s.ownBlock ∨ s'.ownBlock = some W.heap.size) : WR W0 t p back J pre ((.node l k v r, b) :: st) ((T.node l k v r).near back) an s' W' := by
  have hm := many_parts (back := back) (l := l) (r := r) (k := k) (v := v)
  have hw := h.wt
  refine ⟨?_, hn, h.mono.parts.1, ?_, ?_, ?_, ?_, Nat.le_trans h.size hg.size⟩
  · rw [h.told, told_in hp, List.map_cons, rest, T.top]; simp
  · rw [List.map_cons]; show _ + (1 + ((T.node l k v r).far back).many + _) ≤ _; omega
  · intro q hq
    rcases List.mem_cons.1 hq with rfl | hq
    · exact ⟨h.tree, h.mono⟩
    · exact h.stk q hq
  · rw [List.reverse_cons, List.map_append]; exact ho
  · refine hJ _ _ _ _ _ h.j ⟨hg.os, hg.tape, hg.output, hg.size, fun x hx hm => hg.block x hx (fun e => hm e.symm)⟩ (fun x hx => ?_)
    rcases hs with e | e
    · exact .inl (by rw [← e]; exact hx)
    · rw [e] at hx
      have hx' : W.heap.size = x := Option.some.inj hx
      exact .inr (by omega)

noncomputable def WM (W0 : World) (t : Tr) (p : Kx → Bool) (back : Bool) (J : List (Kx × Vx) → (Nat → Prop) → World → Prop) (s n : Value) (W : World) : Nat := least fun m => ∃ pre st sub an, n = Value.pointer an ∧ WR W0 t p back J pre st sub an s W ∧ m = sub.many + wt back (st.map (·.1))
theorem WM_of {W0 : World} {t : Tr} {p : Kx → Bool} {back : Bool} {J : List (Kx × Vx) → (Nat → Prop) → World → Prop} {s n : Value} {W : World} (h : ∃ pre st sub an, n = Value.pointer an ∧ WR W0 t p back J pre st sub an s W) :
    ∃ pre st sub an, n = Value.pointer an ∧ WR W0 t p back J pre st sub an s W ∧ WM W0 t p back J s n W = sub.many + wt back (st.map (·.1)) := by
  obtain ⟨pre, st, sub, an, h1, h2⟩ := h
  exact least_of (p := fun m => ∃ pre st sub an, n = Value.pointer an ∧ WR W0 t p back J pre st sub an s W ∧ m = sub.many + wt back (st.map (·.1))) ⟨_, pre, st, sub, an, h1, h2, rfl⟩
theorem WM_le {W0 : World} {t : Tr} {p : Kx → Bool} {back : Bool} {J : List (Kx × Vx) → (Nat → Prop) → World → Prop} {s : Value} {W : World} {pre : List (Kx × Vx)} {st : List (Tr × Addr)} {sub : Tr} {an : Option Addr} (h : WR W0 t p back J pre st sub an s W) : WM W0 t p back J s (.pointer an) W ≤ sub.many + wt back (st.map (·.1)) :=
  least_le ⟨pre, st, sub, an, rfl, h, rfl⟩
theorem own_form {w : World} {base n : Nat} {e : TypeId} {v : Value} {xs : List Value} (h : w.ownsRow base e 1 v n xs) : ∃ a c, v = .slice a n c := by
  rcases h.2 with ⟨h0, rfl⟩ | ⟨g, cap, cur, h1, _⟩
  · exact ⟨_, _, h0⟩
  · exact ⟨_, _, h1⟩
section
variable {S : World → Prop} {id : Nat} {caps : Array Value} {p : Kx → Bool}

set_option maxRecDepth 100000 in
set_option maxHeartbeats 8000000 in
theorem walk_seq_false (n : Nat) {W0 W1 : World} (hO : OutF S id caps p) (bm bb bo g : Nat) (t : Tr) (a : Option Addr) 
    (hbm : Blk W1 bm 108 #[.pointer (some ⟨g, 0, none⟩)]) (hg : Blk W1 g 126 #[cmpV, .pointer a]) (ht : TreeAt W0 t a) (hmono : Mono p false t) (hmany : t.many ≤ 8796093022208) :
    SeqK Fence.wide n Try.prog 68 #[.pointer (some ⟨bm, 0, none⟩), .pointer (some ⟨bb, 0, none⟩), .pointer (some ⟨bo, 0, none⟩)] wkArgs (WkT (told p false t)) (fun xs => xs = told p false t) (fun _ => True) (fun _ => False) (fun _ => False) (WkK S W0 bb bo false id caps) W1 := by
  intro rl J Jx hJ hJx hJK hY hJ0
  have HY := Lib.hid hY
  have HJ := Lib.hid hJ
  have HJK := Lib.hid hJK
  have HG := Lib.hid hg
  have HBM := Lib.hid hbm
  have HK := Lib.hid (hJK _ _ _ hJ0)
  have HWR : Hid (WR W0 t p false J [] [] t a (.slice none 0 0) W1) := Lib.hid ⟨by simp [rest], ht, hmono, by simp [wt], fun q hq => (by cases hq), World.ownsRow_nil _ _ _ _, hJ _ _ _ _ _ hJ0 (Fr.refl _ _) (fun k hk => (by cases hk)), HK.out.size⟩
  obtain ⟨hcf, hcc⟩ := hO
  have HCF := Lib.hid hcf
  have HCC := Lib.hid hcc
  have cM := hbm.cell
  have qM := hbm.lt
  have cG := hg.cell
  have qG := hg.lt
  clear hY hJ ht hmono hJ0 hbm hg hcf hcc hJK
  refine callsIn_of_wp Try.func68 rfl trivial ?_ rfl
  simp only [Try.ntmps68, List.size_toArray, List.length_cons, List.length_nil, Nat.reduceAdd, Nat.reduceSub, Array.replicate_succ, Array.replicate_zero, List.push_toArray, List.append_toArray, List.nil_append, List.cons_append]
  refine (wpIn_wide (n := n)).2 ?_
  refine wp_scope_straight ?_
  refine (wpIn_wide (n := n)).1 ?_
  gi_wp2_with fail
  refine ⟨trivial, fun h => (by cases h), (callsIn_wide.2 (none_any a W1 HG.out)).mono ?_⟩
  rintro en w_ ⟨rfl, hw_⟩
  obtain rfl : W1 = w_ := hw_.symm
  gi_wp2_with fail
  clear cM qM cG qG
  refine wpIn_label ?_
  try simp only [Exit.then]
  gi_wp2_with fail
  gi_loopw [5, 6] (fun s n wr => ∃ pre st sub an, n = .pointer an ∧ WR W0 t p false J pre st sub an s wr) (fun s n wr => WM W0 t p false J s n wr)
  case atStart => exact ⟨[], [], t, a, rfl, HWR.out⟩
  case round =>
    clear HWR HK
    obtain ⟨pre, st, sub, an, rfl, hR, hM⟩ := WM_of hrel
    have HR := Lib.hid hR
    have HM := Lib.hid hM
    clear hR hM hrel
    gi_wp2_with fail
    gi_loopw [5, 6] (fun s n wr => ∃ st2 sub2 an2, n = .pointer an2 ∧ WR W0 t p false J pre st2 sub2 an2 s wr ∧ sub2.many + wt false (st2.map (·.1)) ≤ sub.many + wt false (st.map (·.1))) (fun _ n _ => sizeAt W0 n)
    case atStart => exact ⟨st, sub, an, rfl, HR.out, Nat.le_refl _⟩
    case round =>
      obtain ⟨st2, sub2, an2, rfl, hR2, hM2⟩ := hrel
      have hK2 := HJK.out _ _ _ hR2.j
      have HR2 := Lib.hid hR2
      have HM2 := Lib.hid hM2
      have HK2 := Lib.hid hK2
      have hw0 := hK2.size
      cases sub2 with
      | nil =>
        obtain rfl : an2 = none := hR2.tree
        cases st2 with
        | nil =>
          have HF : Hid (pre = told p false t) := Lib.hid (by rw [hR2.told, told_nil]; simp [rest])
          obtain ⟨a5, c5, rfl⟩ := own_form hR2.own
          clear hR2 hM2 hK2
          gi_wp2_with fail
          exact ⟨rfl, _, results_none rfl _ _ _, ⟨_, rfl⟩, .inl ⟨_, by rw [← HF.out]; exact HR2.out.j⟩⟩
        | cons q st3 =>
          obtain ⟨q, qb⟩ := q
          obtain ⟨hq, hqm⟩ := hR2.stk (q, qb) (by simp)
          have hown := hR2.own
          rw [List.reverse_cons, List.map_append, List.map_cons, List.map_nil] at hown
          obtain ⟨g5, c5, rfl, hc1, hc2, hg5, hcl, hpop⟩ := own_pop hown
          simp only [maxLen] at hc2
          cases q with
          | nil => cases hq
          | node l k v r =>
            obtain ⟨b, al, ar, hqb, hBk, hl, hr⟩ := hq
            cases hqb
            have HBk := Lib.hid hBk
            have HP := Lib.hid hpop
            have HT : Hid (told p false t = pre ++ (k, v) :: (told p false ((T.node l k v r).far false) ++ rest p false (st3.map (·.1)))) := Lib.hid (by rw [hR2.told, told_nil, List.map_cons, rest, T.top]; simp)
            have hBw : Blk wr b 135 (nodeC k v al ar (T.node l k v r).high (T.node l k v r).many) := (hK2.nodes _ _ hBk).trans hBk
            have cB := hBw.cell
            have qB := hBw.lt
            have HSTK := Lib.hid (fun q (hq : q ∈ st3) => hR2.stk q (List.mem_cons_of_mem _ hq))
            have HL := Lib.hid hl
            have HRr := Lib.hid hr
            have HQM := Lib.hid hqm
            have hwl : 1 + ((T.node l k v r).far false).many + wt false (st3.map (·.1)) ≤ t.many := by
              have := hR2.wt; rw [List.map_cons] at this
              have h2 : (T.nil : Tr).many + (1 + ((T.node l k v r).far false).many + wt false (st3.map (·.1))) ≤ t.many := this
              omega
            have HWL := Lib.hid hwl
            have HMB : Hid (((T.node l k v r).far false).many + wt false (st3.map (·.1)) < sub.many + wt false (st.map (·.1))) := Lib.hid (by
              have h2 : (T.nil : Tr).many + (1 + ((T.node l k v r).far false).many + wt false (st3.map (·.1))) ≤ _ := hM2
              omega)
            have hlen := wt_len false (st3.map (·.1))
            rw [List.length_map] at hlen
            have hj1 : J pre (fun x => (Value.slice (some ⟨g5, 0, none⟩) st3.length c5).ownBlock = some x) wr.drew := HJ.out _ _ _ _ _ HR2.out.j (Fr.next (Below.refl _ _).drew) (fun x hx => .inl hx)
            have hT1 : WkT (told p false t) pre (k, v) (fun x => (Value.slice (some ⟨g5, 0, none⟩) st3.length c5).ownBlock = some x) wr.drew := ⟨⟨_, HT.out⟩, fun x hx => own_blk HP.out hx⟩
            obtain ⟨fn, tmps, assign, bodyc, hy, hRd⟩ := HY.out pre (k, v) _ _ hj1 hT1
            have HRD := Lib.hid hRd
            dsimp only [wkArgs] at hy
            have hl5 : (⟨.node l k v r, ⟨b, 0, none⟩⟩ :: st3 : List (Tr × Addr)).length = st3.length + 1 := rfl
            generalize hm3 : st3.length = m3 at hc1 hcl hlen hy HP HRD hR2 ⊢
            have HM3 := Lib.hid hm3
            clear hR2 hM2 hK2 hown hpop hBk hBw hl hr hqm hwl hj1 hT1 hRd hl5 hm3
            gi_wp2_with fail
            (refine region_keep_wide _ (fun x => x < wr.heap.size) 9 [(0, true), (1, true), (2, true), (3, true), (4, true), (5, true), (6, true), (7, true), (8, true)] (by kernel_rfl) (fun _ _ d _ _ h => by cases d <;> exact h) (by kernel_rfl) ?_; simp only [withOps, List.getElem?_toArray, List.getElem?_cons_zero, List.getElem?_cons_succ, List.drop_succ_cons, List.drop_zero])
            (iterate 9 (refine keep_quiet (v := ?_) rfl ?_ ?_; rotate_left; (focus (intro w' hw'; go_simp; (try with_reducible rfl); done)); try simp only [Act.put, List.setIfInBounds_toArray, List.set_cons_zero, List.set_cons_succ]))
            (with_reducible refine plan_end ?_)
            (try simp only [Act.put, List.setIfInBounds_toArray, List.set_cons_zero, List.set_cons_succ])
            gi_wp2_with fail
            refine ⟨fun h => (by cases h), HRD.out.mono ?_⟩
            rintro en w2 (⟨rfl, hj2, hk2⟩ | ⟨rfl, hjx⟩)
            · have hK2 := HJK.out _ _ _ hj2
              have HWR2 : Hid (WR W0 t p false J (pre ++ [(k, v)]) st3 ((T.node l k v r).far false) ar (Value.slice (some ⟨g5, 0, none⟩) m3 c5) w2) := Lib.hid ⟨by rw [HT.out]; simp, HRr.out, HQM.out.parts.2, by have := HWL.out; omega, HSTK.out, by
                rw [HM3.out]; exact own_kept HP.out fun x hx => hk2.2 x (.inl hx), hj2, Nat.le_trans hw0 hk2.1⟩
              have hBw : Blk w2 b 135 (nodeC k v al ar (T.node l k v r).high (T.node l k v r).many) := (hK2.nodes _ _ HBk.out).trans HBk.out
              have cB2 := hBw.cell
              have qB2 := hBw.lt
              have cb := hK2.bb.cell
              have qb2 := hK2.bb.lt
              clear hj2 hk2 hK2 hBw hy
              gi_wp2_with fail
              simp only [noOut_normal, Exit.then]
              go_at_K
              gi_wp2_with fail
              go_roundw
              case rel => exact ⟨_, _, _, _, rfl, HWR2.out⟩
              case measure =>
                refine Nat.lt_of_le_of_lt (WM_le HWR2.out) ?_
                rw [HM.out]
                exact HMB.out
            · have HJX := Lib.hid hjx
              clear hjx hy
              gi_wp2_with fail
              simp only [noOut_normal, Exit.then]
              go_at_K
              gi_wp2_with fail
              exact ⟨rfl, _, results_none rfl _ _ _, ⟨_, rfl⟩, .inr ⟨_, _, trivial, HJX.out⟩⟩
      | node l k v r =>
        obtain ⟨b, al, ar, rfl, hBk, hl, hr⟩ := hR2.tree
        have hBw : Blk wr b 135 (nodeC k v al ar (T.node l k v r).high (T.node l k v r).many) := (hK2.nodes _ _ hBk).trans hBk
        have cB := hBw.cell
        have qB := hBw.lt
        have HL := Lib.hid hl
        have HRr := Lib.hid hr
        have cb := hK2.bb.cell
        have qb := hK2.bb.lt
        have co := hK2.bo.cell
        have qo := hK2.bo.lt
        have hcf := HCF.out
        clear hR2 hM2 hK2 hBk hBw hl hr
        gi_wp2_with fail
        (refine region_keep_wide _ (fun x => x < wr.heap.size) 9 [(0, true), (1, true), (2, true), (3, true), (4, true), (5, true), (6, true), (7, true), (8, true)] (by kernel_rfl) (fun _ _ d _ _ h => by cases d <;> exact h) (by kernel_rfl) ?_; simp only [withOps, List.getElem?_toArray, List.getElem?_cons_zero, List.getElem?_cons_succ, List.drop_succ_cons, List.drop_zero])
        (iterate 9 (refine keep_quiet (v := ?_) rfl ?_ ?_; rotate_left; (focus (intro w' hw'; go_simp; (try with_reducible rfl); done)); try simp only [Act.put, List.setIfInBounds_toArray, List.set_cons_zero, List.set_cons_succ]))
        (with_reducible refine plan_end ?_)
        (try simp only [Act.put, List.setIfInBounds_toArray, List.set_cons_zero, List.set_cons_succ])
        gi_wp2_with fail
        simp only [noOut_normal, Exit.then]
        go_at_K
        gi_wp2_with fail
        (refine region_keep_wide _ (fun x => x < wr.heap.size) 5 [(0, true), (1, true), (2, true), (3, true), (4, true)] (by kernel_rfl) (fun _ _ d _ _ h => by cases d <;> exact h) (by kernel_rfl) ?_; simp only [withOps, List.getElem?_toArray, List.getElem?_cons_zero, List.getElem?_cons_succ, List.drop_succ_cons, List.drop_zero])
        (iterate 5 (refine keep_quiet (v := ?_) rfl ?_ ?_; rotate_left; (focus (intro w' hw'; go_simp; (try with_reducible rfl); done)); try simp only [Act.put, List.setIfInBounds_toArray, List.set_cons_zero, List.set_cons_succ]))
        (with_reducible refine plan_end ?_)
        (try simp only [Act.put, List.setIfInBounds_toArray, List.set_cons_zero, List.set_cons_succ])
        gi_wp2_with fail
        refine ⟨trivial, fun h => (by cases h), (callsIn_wide.2 (HCC.out k _ (HJK.out _ _ _ (HR2.out.next HJ.out (show Below wr.heap.size wr wr.drew.drew from (Below.refl _ _).drew.drew)).j).so)).mono ?_⟩
        rintro en w2 ⟨rfl, hb2⟩
        have HR3 := Lib.hid (HR2.out.next HJ.out (show Below wr.heap.size wr w2 from bnext (show Below wr.heap.size wr wr.drew.drew from (Below.refl _ _).drew.drew) hb2))
        have hm : (T.node l k v r).many = l.many + r.many + 1 := rfl
        have hwt := HR2.out.wt
        have hw2 : wr.heap.size ≤ w2.heap.size := hb2.size
        clear hb2 cB cb co qB qb qo hcf
        cases hpk : p k with
        | true =>
          have HPK := Lib.hid hpk
          clear hpk
          gi_wp2_with fail
          simp only [noOut_normal, Exit.then]
          go_at_K
          gi_wp2_with fail
          go_roundw
          case rel => exact ⟨st2, _, _, rfl, { HR3.out with told := by rw [HR3.out.told, told_out HR2.out.mono HPK.out]; rfl, tree := HRr.out, mono := HR2.out.mono.parts.2, wt := by omega }, by have := HM2.out; omega⟩
          case measure =>
            rw [sizeAt_eq HRr.out, sizeAt_eq HR2.out.tree]
            omega
        | false =>
          have HPK := Lib.hid hpk
          have hlen := wt_len false (st2.map (·.1))
          rw [List.length_map] at hlen
          clear hpk
          gi_wp2_with fail
          simp only [noOut_normal, Exit.then]
          gi_step
          refine (wpIn_wide (n := n)).2 ?_
          go_upto_region 9 with (fail)
          refine (wpIn_wide (n := n)).2 ?_
          go_upto_region 9 with (fail)
          apply wp_region_lit
          iterate 3 (go_step; go_step; rename_i KK hKK; (with_reducible refine hKK _ _ ?_); clear hKK KK)
          have HR4 := Lib.hid (HR3.out.next HJ.out (show Below w2.heap.size w2 (w2.alloc (.cells #[.pointer (some ⟨b, 0, none⟩)] 124)) by go_grown))
          have hbs : W0.heap.size ≤ w2.heap.size + 1 := by omega
          have hl2 : st2.length + 1 ≤ 17592186044416 := by omega
          (with_reducible refine push_wp rfl (.tmp 35) (.tmp 37) rfl W0.heap.size u5 st2.length _ rfl HR4.out.own w2.heap.size 1 (some ⟨b, 0, none⟩) rfl (by simp [go_sem]; done) hl2 (by rw [World.size_alloc]; exact hbs) ?_)
          rintro v' w4 hOw hgr hob
          have HR5 := Lib.hid (HR4.out.push HJ.out HPK.out HL.out hOw.out hgr hob)
          clear hOw hgr hob
          go_wp2_with fail
          go_roundw
          case rel => exact ⟨_, _, _, rfl, HR5.out, by
            have := HM2.out
            rw [List.map_cons]
            show (l).many + (1 + (r).many + _) ≤ _
            omega⟩
          case measure =>
            rw [sizeAt_eq HL.out, sizeAt_eq HR2.out.tree]
            omega

end
end Go.Proofs.Ytbkofiflfcfjfaa.Px
