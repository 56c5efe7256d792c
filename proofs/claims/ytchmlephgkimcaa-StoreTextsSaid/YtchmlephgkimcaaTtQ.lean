/- Store: StoreTexts: the list of lists; what a map of texts holds. -/
import Derived.Test.YtchmlephgkimcaaTtP
import Derived.Test.YtchmlephgkimcaaStV
import Derived.Test.YtchmlephgkimcaaRl
import Derived.Test.YtchmlephgkimcaaApp
import Derived.Test.YtchmlephgkimcaaWx
set_option linter.unusedSimpArgs false
set_option linter.unusedVariables false
namespace Go.St
section
variable {κ ν : Type} {c : κ → κ → Int} {key : κ}
theorem placeL_lt : ∀ {l : List (κ × ν)} {k : Nat}, k < placeL c key l → ∃ x, l[k]? = some x ∧ c x.1 key < 0
  | [], k, h => by simp [placeL] at h
  | p :: l, k, h => by
    simp only [placeL] at h
    split at h
    · rename_i hp
      cases k with
      | zero => exact ⟨p, rfl, hp⟩
      | succ k =>
        obtain ⟨x, h1, h2⟩ := placeL_lt (l := l) (k := k) (by omega)
        exact ⟨x, by simpa using h1, h2⟩
    · omega
theorem placeL_at : ∀ {l : List (κ × ν)} {x : κ × ν}, l[placeL c key l]? = some x → ¬ c x.1 key < 0
  | p :: l, x, h => by
    simp only [placeL] at h
    split at h
    · exact placeL_at (l := l) (by simpa using h)
    · rename_i hp
      cases (show some p = some x from h)
      exact hp
theorem getL_at : ∀ (l : List (κ × ν)), getL c key l = match l[placeL c key l]? with | some x => if c x.1 key = 0 then some x.2 else none | none => none
  | [] => rfl
  | p :: l => by
    simp only [placeL, getL]
    split
    · rw [getL_at l, List.getElem?_cons_succ]
    · rfl
theorem placeL_len : ∀ l : List (κ × ν), placeL c key l ≤ l.length
  | [] => Nat.le_refl _
  | p :: l => by
    have := placeL_len l
    simp only [placeL, List.length_cons]
    split <;> omega
end
variable {κ ν : Type} {c : κ → κ → Int}
theorem Ord.same {c : κ → κ → Int} (h : Ord c) (a : κ) : c a a = 0 := by
  have := h.turn a a; omega
/-- The key at a place. -/
theorem place_nth (ho : Ord c) : ∀ {l : List (κ × ν)} {n : Nat} {k : κ} {v : ν}, Sorted c l → l[n]? = some (k, v) → placeL c k l = n ∧ getL c k l = some v
  | [], n, k, v, _, h => by simp at h
  | p :: l, 0, k, v, _, h => by
    cases (show some p = some (k, v) from h)
    simp only [placeL, getL]
    have := ho.same k
    rw [if_neg (by omega), if_neg (by omega), if_pos this]
    exact ⟨rfl, rfl⟩
  | p :: l, n + 1, k, v, hs, h => by
    have h' : l[n]? = some (k, v) := by simpa using h
    obtain ⟨h1, h2⟩ := List.pairwise_cons.1 hs
    have := h1 _ (List.mem_of_getElem? h')
    obtain ⟨e1, e2⟩ := place_nth ho h2 h'
    simp only [placeL, getL]
    rw [if_pos this, if_pos this, e1, e2]
    exact ⟨rfl, rfl⟩
theorem putL_mem {l : List (κ × ν)} {key : κ} {val : ν} (hz : ∀ a b, c a b = 0 → a = b) {q : κ × ν} (h : q ∈ putL c key val l) : q = (key, val) ∨ q ∈ l := by
  induction l with
  | nil => simp only [putL, List.mem_singleton] at h; exact .inl h
  | cons p l ih =>
    simp only [putL] at h
    split at h
    · rcases List.mem_cons.1 h with rfl | h
      · exact .inr List.mem_cons_self
      · exact (ih h).imp id (List.mem_cons_of_mem _)
    · split at h
      · rename_i _ h0
        rcases List.mem_cons.1 h with rfl | h
        · exact .inl (by rw [hz _ _ h0])
        · exact .inr (List.mem_cons_of_mem _ h)
      · rcases List.mem_cons.1 h with rfl | h
        · exact .inl rfl
        · exact .inr h
end Go.St
namespace Go.Proofs.Ytchmlephgkimcaa.Tx
open Go.RowKit Go.Kp Go.St Go.Shelf

abbrev ptr (b : Nat) : Value := .pointer (some ⟨b, 0, none⟩)
/-- The block of this number in a code. -/
def blockOf (id : Nat) : Code → Option Code
  | .block i c => if i = id then some (.block i c) else blockOf id c
  | .seq a b => match blockOf id a with | some c => some c | none => blockOf id b
  | .cond _ a b => match blockOf id a with | some c => some c | none => blockOf id b
  | .loop c => blockOf id c
  | .rangeFunc _ _ a b => match blockOf id a with | some c => some c | none => blockOf id b
  | .scope c => blockOf id c
  | _ => none
def theBlock (f : Func) (id : Nat) : Code := match f.body with | some b => (blockOf id b).getD .skip | none => .skip
/-- A statement that ends well alone. -/
theorem wp_only {P : Program} {s : Code} {K : Act → World → Prop} {Q' : Exit → Act → World → Prop} {a : Act} {w : World} (h : s.wp P (Exit.then K (fun _ _ _ => False)) a w) : s.wp P (Exit.then K Q') a w := by
  refine wp_mono h ?_
  intro e a' w' hq
  cases e with
  | normal => exact hq
  | exit id => exact hq.elim
  | goto l => exact hq.elim
  | ret => exact hq.elim
  | panic ch => exact hq.elim
  | outgrown => exact hq.elim

theorem blk_set {w : World} {A n : Nat} {v : Value} {ty : TypeId} {cs : Array Value} (h : Blk w A ty cs) : Blk (w.setCell ⟨A, n, none⟩ v) A ty (cs.setIfInBounds n v) := by
  unfold Blk at h ⊢
  rw [heap_set_same, h]
  rfl
theorem blk_setNe {w : World} {A B n : Nat} {v : Value} {ty : TypeId} {cs : Array Value} (h : Blk w B ty cs) (hn : B ≠ A) : Blk (w.setCell ⟨A, n, none⟩ v) B ty cs := (heap_set_ne _ _ _ _ _ hn).trans h

theorem wk_nil (lb : Array Value) (w : World) : (binOp .eql 58 (.func (.func 71) #[] lb) .nilFunc).run Try.prog w = .ok (.bool false) w := by kernel_rfl
theorem walk_seq {S : World → Prop} {id : Nat} {caps : Array Value} {p : Kx → Bool} (n : Nat) {W0 W1 : World} (hO : OutF S id caps p) (bm bb bo g : Nat) (back : Bool) (t : Tr) (a : Option Addr) (f : Value) (hf : ∃ caps id, f = .func (.func id) #[] caps)
    (hbm : Blk W1 bm 50 #[.pointer (some ⟨g, 0, none⟩)]) (hg : Blk W1 g 91 #[f, .pointer a]) (ht : TreeAt W0 t a) (hmono : Mono p back t) (hmany : t.many ≤ 8796093022208) :
    SeqK Fence.wide n Try.prog 71 #[.pointer (some ⟨bm, 0, none⟩), .pointer (some ⟨bb, 0, none⟩), .pointer (some ⟨bo, 0, none⟩)] wkArgs (WkT (told p back t)) (fun xs => xs = told p back t) (fun _ => True) (fun _ => False) (fun _ => False) (WkK S W0 bb bo back id caps) W1 := by
  cases back
  · exact walk_seq_false n hO bm bb bo g t a f hf hbm hg ht hmono hmany
  · exact walk_seq_true n hO bm bb bo g t a f hf hbm hg ht hmono hmany
theorem Wk.keeps {S : World → Prop} {id : Nat} {caps : Array Value} {p : Kx → Bool} {back : Bool} {g bm bb bo : Nat} {w W : World} (h : Wk S id caps p back g bm bb bo w) (hS : Lasting S) (hb : Below w.heap.size w W) : WkK S w bb bo back id caps W :=
  ⟨hS _ _ h.so hb, hb.size, fun b cs hB => hb.block b hB.lt, h.bb.below hb, h.bo.below hb⟩
theorem told_len (p : Kx → Bool) (back : Bool) (t : Tr) : (told p back t).length ≤ t.many := by
  unfold told
  have h1 := List.length_filter_le (fun q : Kx × Vx => !p q.1) (ord back t)
  have h2 : (ord back t).length = t.many := by rw [T.many_len]; unfold ord; split <;> simp
  omega

/-- A list of one number that lies in this block. -/
abbrev one (b : Nat) : Value := .slice (some ⟨b, 0, none⟩) 1 1
theorem infoLs : (Try.prog.info? 22).map (fun i => (i.zero, i.size, i.bytes)) = some (some (.slice none 0 0), 1, 24) := by kernel_rfl
/-- append of one list. -/
theorem push_one {w : World} {ops : Array Oper} {rest : List Oper} {o : Oper} {a : Act} {Q : Exit → Act → World → Prop} (hgd : o.guard = none) (s x : Operand)
    (ho : o.op = .call { callee := .builtin .append, args := #[s, x], argTypes := #[52, 52] })
    (base : Nat) (v : Value) (n : Nat) (xs : List Value) (hs : a.eval s = v) (hown : w.ownsRow base 22 1 v n xs)
    (g c b : Nat) (hx : a.eval x = .slice (some ⟨g, 0, none⟩) 1 c) (hcell : w.cell? ⟨g, 0, none⟩ = some (one b)) (hn : n + 1 ≤ 8796093022300) (hbase : base ≤ w.heap.size)
    (h : ∀ v' w', Hid (w'.ownsRow base 22 1 v' (n + 1) (xs ++ [one b])) → w.grownBy w' v.ownBlock → (v'.ownBlock = v.ownBlock ∨ v'.ownBlock = some w.heap.size) → wpList Try.prog ops Q rest (a.put o.dst v') w') :
    wpList Try.prog ops Q (o :: rest) a w := by
  obtain ⟨i0, hi, hz0, hz1, hz2⟩ := info_parts infoLs
  obtain ⟨v', w', hr, h2, h3, h5⟩ := append_wide (P := Try.prog) (w := w) base 52 o.type 22 i0 (.slice none 0 0) 1 24 Try.underlying52 hi hz0 hz1 hz2 rfl (by omega) v n xs hown ⟨g, 0, none⟩ 1 c [one b] rfl
    (fun j u hu => by
      match j, hu with
      | 0, hu => simp at hu; subst hu; rw [Go.WideShapes.add_plain]; simpa using hcell
      | _ + 1, hu => simp at hu) (fun u hu => by simp at hu; subst hu; rfl) (by unfold maxLen; omega) (by omega) hbase
  refine wpList_plain hgd fun K hK => ?_
  unfold Oper.wp execOp
  simp only [ho, resolve, invoke, builtin, Sem.run_bind, Sem.run_pure, Result.andThen_ok, List.map_toArray, List.map_cons, List.map_nil, hs, hx, hr]
  exact hK _ _ (h v' w' (Lib.hid h2) h3 h5)

/-- Every value of a map of texts is the list of a place where its key stands. -/
def Good (ks : List ByteArray) (ls : List Nat) (L : List (Kx × Vx)) : Prop :=
  ∀ q ∈ L, ∃ (j b : Nat), ks[j]? = some q.1 ∧ ls[j]? = some b ∧ q.2 = ⟨some ⟨b, 0, none⟩, 1, 1⟩
/-- The lists of one number. -/
def Lists (w : World) (ls : List Nat) : Prop := ∀ (j b : Nat), ls[j]? = some b → Blk w b 3 #[.int .i64 (j : Int)]
def ss (ks : List ByteArray) : List Value := ks.map Value.string
theorem ss_at {w : World} {B : Nat} {a : Option Addr} {l : List ByteArray} (h : Rd w B a (ss l)) {i : Nat} {x : ByteArray} (hx : l[i]? = some x) : ∃ b off, a = some ⟨b, off, none⟩ ∧ b < B ∧ w.cell? ⟨b, off + i, none⟩ = some (.string x) := by
  rcases h with h | ⟨b, off, h1, h2, h3⟩
  · have := (List.getElem?_eq_some_iff.1 hx).1
    have h' : (ss l).length = l.length := by simp [ss]
    rw [h] at h'
    simp at h'
    omega
  · exact ⟨b, off, h1, h2, h3 _ _ (by simp [ss, hx])⟩
abbrev MapS (w : World) (g : Nat) (t : Tr) : Prop := MapAt (fun _ => True) 50 #[] Tm.str w g t
theorem maps_keep {w w' : World} {g : Nat} {t : Tr} (h : MapS w g t) (hk : ∀ b ty cs, Blk w b ty cs → ty ≠ 9 → ty ≠ 3 → w'.heap[b]? = w.heap[b]?) : MapS w' g t := by
  obtain ⟨a, h1, h2⟩ := h.cells
  exact ⟨h.last, h.lastM, h.cmp, h.ord, trivial, h.srt, h.few, a, (hk _ _ _ h1 (by decide) (by decide)).trans h1, h2.same fun b cs hB => hk _ _ _ hB (by decide) (by decide)⟩
theorem last_lt {pre R : List (Kx × Vx)} {x : Kx × Vx} {la : Kx} (hs : Sorted Tm.str (pre ++ x :: R)) (hl : (pre.getLast?.map Prod.fst).getD ⟨#[]⟩ = la) (hp : 0 < pre.length) : Op.bytesLess la.toList x.1.toList = true ∧ Op.bytesLess x.1.toList la.toList = false ∧ (x.1.toList == la.toList) = false := by
  obtain ⟨_, _, h, _⟩ := Sorted.parts hs
  have hne : pre ≠ [] := fun e => by rw [e] at hp; simp at hp
  rw [List.getLast?_eq_some_getLast hne] at hl
  simp only [Option.map_some, Option.getD_some] at hl
  have h1 := h _ (List.getLast_mem hne)
  rw [hl, Tm.str_lt] at h1
  refine ⟨h1, ?_, ?_⟩
  · cases h2 : Op.bytesLess x.1.toList la.toList with
    | false => rfl
    | true => have := Tm.bl_trans h1 h2; rw [Tm.bl_irrefl] at this; cases this
  · cases h2 : (x.1.toList == la.toList) with
    | false => rfl
    | true =>
      have h3 : x.1.toList = la.toList := by simpa using h2
      rw [h3, Tm.bl_irrefl] at h1
      cases h1
/-- The end of a round. -/
theorem txt_fin {w W W2 W5 : World} {b14 b15 k : Nat} {Pv : Nat → Prop} {pre : List (Kx × Vx)} {x : Kx × Vx} {a : Act} {Ix : Code → List (Kx × Vx) → (Nat → Prop) → World → Prop} (hk : pre.length = k) (hPv : ∀ k, Pv k → w.heap.size ≤ k) (hF : Fr (fun b => b = b14 ∨ b = b15 ∨ w.heap.size ≤ b) w W)
    (hO : OnlyB (w.heap.size + 1) W W2) (hPl : ∀ b, Pv b → ∃ cs, Blk W b 89 cs) (hp1 : ¬ Pv (w.heap.size + 1)) (hrs : w.heap.size + 1 < W.heap.size) (hl : b14 < w.heap.size ∧ b15 < w.heap.size)
    (n5 : Blk W5 b14 3 #[.int .i64 ((k : Int) + 1)]) (s5 : Blk W5 b15 9 #[.string x.1]) (hF5 : Fr (fun b => b = b14 ∨ b = b15) W2 W5) :
    postM (fun pre Pv W => (∀ k, Pv k → w.heap.size ≤ k) ∧ Fr (fun b => b = b14 ∨ b = b15 ∨ w.heap.size ≤ b) w W ∧ Blk W b14 3 #[.int .i64 pre.length] ∧ Blk W b15 9 #[.string ((pre.getLast?.map Prod.fst).getD ⟨#[]⟩)]) Ix Pv (fun _ => False) (pre ++ [x]) (w.heap.size + 1) W W2 .normal a W5 := by
  have hz := hF.size
  have hz2 : W2.heap.size = W.heap.size := hO.2
  have keep : ∀ b, b < W2.heap.size → w.heap.size ≤ b → W5.heap[b]? = W2.heap[b]? := fun b h1 h2 => hF5.block b h1 fun hh => by omega
  refine ⟨keep _ (by omega) (by omega), keep _ (by omega) (by omega), ⟨by have := hF5.size; omega, fun b hb => ?_⟩, hPv, ?_, ?_, ?_⟩
  · have hb := hb.elim id False.elim
    obtain ⟨cs, hB⟩ := hPl b hb
    exact (keep b (by have := hB.lt; omega) (hPv b hb)).trans (hO.at fun e => hp1 (e ▸ hb))
  · refine (hF.trans (hO.1.mono fun b _ h => .inr (.inr (by omega)))).trans (hF5.mono fun b _ h => h.elim .inl fun h => .inr (.inl h))
  · rw [List.length_append, List.length_singleton, hk]
    have e : ((k + 1 : Nat) : Int) = (k : Int) + 1 := by omega
    rw [e]
    exact n5
  · rw [List.getLast?_append]
    simpa using s5
end Go.Proofs.Ytchmlephgkimcaa.Tx
