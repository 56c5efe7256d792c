/- What every proof of this seat stands on, over any program: cells of plain data, readings that stay, worlds that grow, a region whose last operation alone changes memory. -/
import Derived.WalkKit
import Derived.ProofKit
import Derived.Handy
import Derived.OpenShut
import Derived.ChangeOld
import Derived.ChangeBears
import Derived.SizedLaws
import Derived.Deep.Slices
import Derived.BigQuiet
import Derived.Deep.QuietTactic
import Derived.StillTailTactics
import Derived.Laws.EntriesVeiled
import Derived.Lib.Hide
set_option linter.unusedSimpArgs false
set_option linter.unusedVariables false
namespace Go.Kp
open Go.ChangeShapes Go.WideShapes Go.ChangeAt Go.RowKit

/-- The types of a type's cells, one after the other; structs and arrays taken apart. -/
def flat (P : Program) : Nat → TypeId → Option (List TypeId)
  | 0, _ => none
  | n + 1, t =>
    match P.underlying t with
    | some (.struct fs) => (fs.toList.mapM fun f => flat P n f.type).map List.flatten
    | some (.array m e) => (flat P n e).map fun l => (List.replicate m l).flatten
    | some _ => some [t]
    | none => none

section
variable {H : Type} {enc : TypeId × Value → H} {P : Program} {w : World} {base : Nat} {spare : Nat → Bool} {held : Bool}

/-- Every cell of what reads as data of type t reads by itself. -/
def EachCell (enc : TypeId × Value → H) (P : Program) (w : World) (base : Nat) (spare : Nat → Bool) (held : Bool) (ts : List TypeId) (cs : List Value) : Prop :=
  cs.length = ts.length ∧ ∀ (i : Nat) (u : TypeId) (v : Value), ts[i]? = some u → cs[i]? = some v → ∃ m y, DataW.trod enc P w base spare held m u [v] = some y

theorem EachCell.append {ts us : List TypeId} {cs ds : List Value} (h : EachCell enc P w base spare held ts cs) (h' : EachCell enc P w base spare held us ds) :
    EachCell enc P w base spare held (ts ++ us) (cs ++ ds) := by
  refine ⟨by simp [h.1, h'.1], fun i u v hu hv => ?_⟩
  by_cases hi : i < ts.length
  · rw [List.getElem?_append_left hi] at hu
    rw [List.getElem?_append_left (by rw [h.1]; exact hi)] at hv
    exact h.2 i u v hu hv
  · rw [List.getElem?_append_right (by omega)] at hu
    rw [List.getElem?_append_right (by rw [h.1]; omega), h.1] at hv
    exact h'.2 _ u v hu hv

theorem EachCell.nil : EachCell enc P w base spare held [] [] := ⟨rfl, fun _ _ _ h => by simp at h⟩

theorem EachCell.flatten (one : TypeId → List TypeId → List Value → Prop) (cell : TypeId → Nat)
    (hone : ∀ t ts cs, one t ts cs → EachCell enc P w base spare held ts cs) :
    ∀ (us : List TypeId) (tss : List (List TypeId)) (cs : List Value), tss.length = us.length → cs.length = (us.map cell).sum →
      (∀ (j : Nat) u ts, us[j]? = some u → tss[j]? = some ts → one u ts ((cs.drop ((us.take j).map cell).sum).take (cell u))) → EachCell enc P w base spare held tss.flatten cs := by
  intro us
  induction us with
  | nil =>
    intro tss cs hl hc _
    obtain rfl : tss = [] := List.eq_nil_of_length_eq_zero hl
    obtain rfl : cs = [] := List.eq_nil_of_length_eq_zero (by simpa using hc)
    exact EachCell.nil
  | cons u us ih =>
    intro tss cs hl hc h
    match tss, hl with
    | ts :: tss, hl =>
      have h0 := h 0 u ts rfl rfl
      simp only [List.take_zero, List.map_nil, List.sum_nil, List.drop_zero] at h0
      simp only [List.map_cons, List.sum_cons] at hc
      have hrest := ih tss (cs.drop (cell u)) (by simpa using hl) (by rw [List.length_drop, hc]; omega) fun j u' ts' hu hts => by
        have := h (j + 1) u' ts' (by simpa using hu) (by simpa using hts)
        simpa [List.take_succ_cons, List.drop_drop] using this
      have := (hone _ _ _ h0).append hrest
      rwa [List.take_append_drop] at this

theorem trod_single {t : TypeId} {d : TypeDesc} {fuel : Nat} {cs : List Value} {x : DataW H × List MemPlace} (hu : P.underlying t = some d) (h1 : ∀ fs, d ≠ .struct fs) (h2 : ∀ n e, d ≠ .array n e)
    (h : DataW.trod enc P w base spare held fuel t cs = some x) : ∃ v, cs = [v] := by
  cases fuel with
  | zero => simp [DataW.trod] at h
  | succ n =>
    unfold DataW.trod at h
    rw [hu] at h
    split at h <;> first | exact ⟨_, rfl⟩ | (simp_all; done)

theorem sum_take_le (l : List Nat) : ∀ (j : Nat) (x : Nat), l[j]? = some x → (l.take j).sum + x ≤ l.sum := by
  induction l with
  | nil => intro j x h; simp at h
  | cons a l ih =>
    intro j x h
    cases j with
    | zero => simp at h; subst h; simp
    | succ j =>
      have := ih j x (by simpa using h)
      simp only [List.take_succ_cons, List.sum_cons]; omega

theorem trod_flat (hl : laidOutB P = true) : ∀ (n fuel : Nat) (t : TypeId) (cs : List Value) (x : DataW H × List MemPlace) (ts : List TypeId), flat P n t = some ts → t < P.types.size →
    DataW.trod enc P w base spare held fuel t cs = some x → EachCell enc P w base spare held ts cs := by
  intro n
  induction n with
  | zero => intro fuel t cs x ts h; cases h
  | succ n ih =>
    intro fuel t cs x ts h ht hx
    unfold flat at h
    split at h
    · rename_i fs hu
      obtain ⟨tss, hm, rfl⟩ := Option.map_eq_some_iff.1 h
      obtain ⟨k1, k2, k3⟩ := kid_struct hl ht hu
      obtain ⟨xs, n', rfl, _, hcl, hxl, hf⟩ := DataW.trod_struct hu hx
      have hml := mapM_some_length hm
      refine EachCell.flatten (fun u us ds => EachCell enc P w base spare held us ds) P.cellsOf (fun _ _ _ h => h) (fs.toList.map (·.type)) tss cs (by simpa using hml) ?_ ?_
      · rw [hcl, k2]; simp [Function.comp_def]
      · intro j u us hj hus
        rw [List.getElem?_map] at hj
        obtain ⟨f, hfj, rfl⟩ := Option.map_eq_some_iff.1 hj
        have hg := mapM_some_get hm j f hfj
        have hfl := hf j f (by simpa using hfj)
        rw [k3 j f hfj] at hfl
        have hin : (xs[j]?).isSome = true := by
          have : j < fs.toList.length := (List.getElem?_eq_some_iff.1 hfj).1
          rw [List.getElem?_eq_getElem (by rw [hxl]; simpa using this)]; rfl
        obtain ⟨y, hy⟩ := Option.isSome_iff_exists.1 hin
        rw [hy] at hfl
        have e : ((fs.toList.take j).map fun f => P.cellsOf f.type).sum = (((fs.toList.map (·.type)).take j).map P.cellsOf).sum := by
          rw [← List.map_take, List.map_map]; rfl
        rw [← e]
        exact ih n' f.type _ y us (hg.trans hus) (k1 f (List.mem_of_getElem? hfj)) hfl
    · rename_i m e hu
      obtain ⟨us, hm, rfl⟩ := Option.map_eq_some_iff.1 h
      obtain ⟨k1, k2⟩ := kid_array hl ht hu
      obtain ⟨xs, n', rfl, _, hcl, hxl, hf⟩ := DataW.trod_array hu hx
      refine EachCell.flatten (fun u us ds => EachCell enc P w base spare held us ds) P.cellsOf (fun _ _ _ h => h) (List.replicate m e) (List.replicate m us) cs (by simp) ?_ ?_
      · rw [hcl, k2]; simp
      · intro j u vs hj hus
        have hjm : j < m := by have := (List.getElem?_eq_some_iff.1 hj).1; simpa using this
        obtain rfl : e = u := by simpa [List.getElem?_replicate, hjm] using hj
        obtain rfl : us = vs := by simpa [List.getElem?_replicate, hjm] using hus
        have hfl := hf j hjm
        rw [List.getElem?_eq_getElem (by omega)] at hfl
        have e1 : (((List.replicate m e).take j).map P.cellsOf).sum = j * P.cellsOf e := by
          simp [List.take_replicate, Nat.min_eq_left (Nat.le_of_lt hjm)]
        rw [e1]
        exact ih n' e _ _ us hm k1 hfl
    · rename_i d h1 h2 hu
      obtain rfl := Option.some.inj h
      obtain ⟨v, rfl⟩ := trod_single hu (fun fs e => h1 fs e) (fun n e e' => h2 n e e') hx
      refine ⟨rfl, fun i u v' hu' hv => ?_⟩
      match i, hu', hv with
      | 0, hu', hv =>
        simp at hu' hv
        subst hu'; subst hv
        exact ⟨fuel, x, hx⟩
    · cases h

end

section
variable {H : Type} {enc : TypeId × Value → H} {P : Program}

/-- What was read before the call reads the same behind it, if nothing that was there has changed. -/
theorem trodAll_below (hl : laidOutB P = true) {W W' : World} (hb : Below W.heap.size W W') : ∀ (ts : List TypeId) (vs : List Value) (ds : List (DataW H)) (ps : List MemPlace),
    (ts.all fun t => P.readableRec t && decide (t < P.types.size)) = true →
    DataW.TrodAll enc P W 0 (fun _ => true) true ts vs ds ps → DataW.TrodAll enc P W' 0 (fun b => decide (b < W.heap.size)) true ts vs ds ps := by
  intro ts
  induction ts with
  | nil =>
    intro vs ds ps _ h
    obtain ⟨rfl, rfl, rfl⟩ := trodAll_nil h
    exact trodAll_mk0
  | cons t ts ih =>
    intro vs ds ps hr h
    obtain ⟨v, vs', d, ds', p, q, rfl, rfl, rfl, hd, hrest⟩ := trodAll_cons h
    simp only [List.all_cons, Bool.and_eq_true, decide_eq_true_eq] at hr
    obtain ⟨⟨hr1, hr2⟩, hr3⟩ := hr
    have hlt : ∀ x ∈ p, x.block < W.heap.size := by obtain ⟨m, hm⟩ := hd; exact DataW.trod_lt m _ _ _ hm
    exact trodAll_cons_mk (Below.trod hl hr1 hr2 hd hb hlt) (ih vs' ds' q hr3 hrest)

/-- A law's end: it answers true, and all that was there stays. -/
theorem post_true {fn : Func} {s : ChangeSpec} {W W' : World} {args : Array Value} {ds gs : List (DataW H)} {before : List MemPlace} {tb : TypeId} (hl : laidOutB P = true)
    (hW : DataW.Whole enc P fn.params.toList s.vars false W args.toList ds gs before) (hvars : s.vars = []) (hs : s.fn H (ds ++ gs) = { results := [.lit (.bool true)], args := ds })
    (hr : (fn.params.toList.all fun t => P.readableRec t && decide (t < P.types.size)) = true) (hres : fn.resultTypes = #[tb]) (hb : P.underlying tb = some .bool)
    (bel : Below W.heap.size W W') : s.post enc P fn false true false false W args (.bool true) W' := by
  have hW0 := hW
  obtain ⟨p, q, hA, hV, rfl, _, _⟩ := hW
  refine ⟨ds, gs, _, [], p, [], hW0, ?_, ?_, ?_, bel.frame _, fun h => by cases h⟩
  · rw [hs, hres]
    exact trodAll_mk1 (shut_bool hb true)
  · rw [hs]
    exact trodAll_below hl bel _ _ _ _ hr hA
  · rw [hs, hvars]
    rfl

end

/-- Returned: this value; and nothing that was there has changed. -/
abbrev Ret (v : Value) (w : World) : Ending → World → Prop := fun en w' => en = .returned v ∧ Below w.heap.size w w'

theorem ret_int {k : IntKind} {a b : Int} (h : a = b) : Ending.returned (.int k a) = .returned (.int k b) := by rw [h]
theorem heap_at {w : World} {o : Obj} {n : Nat} (h : n = w.heap.size) : (w.alloc o).heap[n]? = some o := by subst h; exact heap_alloc_new _ _
theorem heap_old {w : World} {o : Obj} {n : Nat} (h : n < w.heap.size) : (w.alloc o).heap[n]? = w.heap[n]? := Below.heap_alloc w o n h
theorem bnext {w w1 w2 : World} (h : Below w.heap.size w w1) (hb : Below w1.heap.size w1 w2) : Below w.heap.size w w2 := h.trans (hb.mono h.size)
theorem bcell {W w1 : World} (hb : Below W.heap.size W w1) : (∀ b o, b < W.heap.size → w1.cell? ⟨b, o, none⟩ = W.cell? ⟨b, o, none⟩) ∧ (∀ b o, b < W.heap.size → w1.frozen? ⟨b, o, none⟩ = W.frozen? ⟨b, o, none⟩) :=
  ⟨fun b o h => hb.cell (p := ⟨b, o, none⟩) h, fun b o h => hb.frozen (p := ⟨b, o, none⟩) h⟩

theorem region_still_tail {P : Program} {id : Nat} {Q : Exit → Act → World → Prop} {a : Act} {w : World} {l : List Oper} (n : Nat) (hm : P.follows .mixedOrders = true) (hB : Region.lexTailB .any l.toArray n = true)
    (h : wpStill P l.toArray w.drew (fun a' => wpList P l.toArray Q (l.drop n) a' w.drew) (l.take n) a) : (Code.region id l.toArray true).wp P Q a w := wp_region_still_tail n hm hB h


theorem grown_of_below {a b : World} (h : Below a.heap.size a b) (row : Option Nat) : a.grownBy b row := ⟨h.os, h.tape, h.output, h.size, fun k hk _ => h.block k hk⟩
theorem grown_below {a b c : World} {row : Option Nat} (h : a.grownBy b row) (hb : Below b.heap.size b c) : a.grownBy c row :=
  ⟨hb.os.trans h.os, hb.tape.trans h.tape, hb.output.trans h.output, Nat.le_trans h.size hb.size, fun k hk hne => (hb.block k (Nat.lt_of_lt_of_le hk h.size)).trans (h.block k hk hne)⟩
theorem grown_set {a b : World} {g i : Nat} {v : Value} (h : a.grownBy b (some g)) : a.grownBy (b.setCell ⟨g, i, none⟩ v) (some g) :=
  ⟨h.os, h.tape, h.output, by rw [World.size_setCell]; exact h.size, fun k hk hne => (Below.heap_setCell b ⟨g, i, none⟩ v k (fun e => hne (by rw [e]))).trans (h.block k hk hne)⟩
theorem grown_alloc {a b : World} {row : Option Nat} (h : a.grownBy b row) (o : Obj) : a.grownBy (b.alloc o) row :=
  ⟨h.os, h.tape, h.output, by rw [World.size_alloc]; exact Nat.le_succ_of_le h.size, fun k hk hne => (Below.heap_alloc b o k (Nat.lt_of_lt_of_le hk h.size)).trans (h.block k hk hne)⟩
theorem grown_drew {a b : World} {row : Option Nat} (h : a.grownBy b row) : a.grownBy b.drew row := ⟨h.os, h.tape, h.output, h.size, h.block⟩
theorem grown_trans {a b c : World} {row row' : Option Nat} (h : a.grownBy b row) (hb : b.grownBy c row') (hr : ∀ k, some k = row' → k < a.heap.size → some k = row) : a.grownBy c row :=
  ⟨hb.os.trans h.os, hb.tape.trans h.tape, hb.output.trans h.output, Nat.le_trans h.size hb.size, fun k hk hne => (hb.block k (Nat.lt_of_lt_of_le hk h.size) (fun e => hne (hr k e hk))).trans (h.block k hk hne)⟩
theorem below_of_grown {a b : World} {row : Option Nat} (h : a.grownBy b row) (hr : ∀ k, row = some k → a.heap.size ≤ k) : Below a.heap.size a b := (Below.refl _ _).grown h (Nat.le_refl _) hr


/-! ### A slice that is read: nil, empty or not -/
/-- The cells 'ys' lie one behind the other at the address, below block B. -/
def Rd (w : World) (B : Nat) (a : Option Addr) (ys : List Value) : Prop :=
  ys = [] ∨ ∃ b off, a = some ⟨b, off, none⟩ ∧ b < B ∧ ∀ (j : Nat) u, ys[j]? = some u → w.cell? ⟨b, off + j, none⟩ = some u
theorem Rd.nil {w : World} {B : Nat} {a : Option Addr} : Rd w B a [] := .inl rfl
theorem Rd.keep {w w' : World} {B : Nat} {a : Option Addr} {ys : List Value} (h : Rd w B a ys) (hk : ∀ b o, b < B → w'.cell? ⟨b, o, none⟩ = w.cell? ⟨b, o, none⟩) : Rd w' B a ys := by
  rcases h with h | ⟨b, off, h1, h2, h3⟩
  · exact .inl h
  · exact .inr ⟨b, off, h1, h2, fun j u hu => (hk b _ h2).trans (h3 j u hu)⟩
theorem Rd.below {w w' : World} {B : Nat} {a : Option Addr} {ys : List Value} (h : Rd w B a ys) (hb : Below B w w') : Rd w' B a ys := h.keep fun b o hlt => hb.cell (p := ⟨b, o, none⟩) hlt
theorem Rd.more {w : World} {B B' : Nat} {a : Option Addr} {ys : List Value} (h : Rd w B a ys) (hB : B ≤ B') : Rd w B' a ys := by
  rcases h with h | ⟨b, off, h1, h2, h3⟩
  · exact .inl h
  · exact .inr ⟨b, off, h1, Nat.lt_of_lt_of_le h2 hB, h3⟩

/-- The cells of a list of things of 'sz' cells each, by place. -/
theorem flat_get {α : Type} (f : α → List Value) (sz : Nat) (hsz : ∀ x, (f x).length = sz) : ∀ (l : List α) (i j : Nat) (x : α), l[i]? = some x → j < sz → (l.flatMap f)[i * sz + j]? = (f x)[j]?
  | [], i, j, x, h, _ => by simp at h
  | y :: l, 0, j, x, h, hj => by
    simp at h; subst h
    rw [List.flatMap_cons, Nat.zero_mul, Nat.zero_add, List.getElem?_append_left (by rw [hsz]; exact hj)]
  | y :: l, i + 1, j, x, h, hj => by
    rw [List.flatMap_cons, List.getElem?_append_right (by rw [hsz, Nat.succ_mul]; omega), hsz, show (i + 1) * sz + j - sz = i * sz + j by rw [Nat.succ_mul]; omega]
    exact flat_get f sz hsz l i j x (by simpa using h) hj
theorem flat_length {α : Type} (f : α → List Value) (sz : Nat) (hsz : ∀ x, (f x).length = sz) : ∀ l : List α, (l.flatMap f).length = l.length * sz
  | [] => by simp
  | y :: l => by rw [List.flatMap_cons, List.length_append, hsz, flat_length f sz hsz l, List.length_cons, Nat.succ_mul, Nat.add_comm]


/-! ### min and max of two numbers, as such -/
theorem run_min2 {P : Program} {w : World} (ts : Array TypeId) (t : TypeId) (k k' : IntKind) (x y : Int) : (Builtin.min_ ts t #[.int k x, .int k' y]).run P w = .ok (.int k (min x y)) w := by
  rw [run_min_int2]; congr 2; split <;> omega
theorem run_max2 {P : Program} {w : World} (ts : Array TypeId) (t : TypeId) (k k' : IntKind) (x y : Int) : (Builtin.max_ ts t #[.int k x, .int k' y]).run P w = .ok (.int k (max x y)) w := by
  rw [run_max_int2]; congr 2; split <;> omega


/-! ### What a block holds behind stores and new blocks: 'simp (disch := ..) only [hp]' -/
def putO (i : Nat) (v : Value) : Obj → Obj
  | .cells c e f => .cells (c.setIfInBounds i v) e f
  | o => o
theorem putO_cells (i : Nat) (v : Value) (c : Array Value) (e : TypeId) (f : Nat × Nat) : putO i v (.cells c e f) = .cells (c.setIfInBounds i v) e f := rfl
theorem heap_set_same (w : World) (g i : Nat) (v : Value) : (w.setCell ⟨g, i, none⟩ v).heap[g]? = (w.heap[g]?).map (putO i v) := by
  simp only [World.setCell, Array.getElem?_modify, if_true]
  cases w.heap[g]? with
  | none => rfl
  | some o => cases o <;> simp [putO]
theorem heap_set_ne (w : World) (g k i : Nat) (v : Value) (h : k ≠ g) : (w.setCell ⟨g, i, none⟩ v).heap[k]? = w.heap[k]? := Below.heap_setCell w ⟨g, i, none⟩ v k h
theorem heap_drew' (w : World) (k : Nat) : w.drew.heap[k]? = w.heap[k]? := rfl


/-- The walk goes on from any world of which T holds. -/
theorem wp_at {P : Program} {c : Code} {Q : Exit → Act → World → Prop} {a : Act} {W : World} (T : World → Prop) (hT : T W) (h : ∀ wc, T wc → c.wp P Q a wc) : c.wp P Q a W := h W hT
/-- A block whose cells are known. -/
def Blk (w : World) (g : Nat) (t : TypeId) (cs : Array Value) : Prop := w.heap[g]? = some (.cells cs t (0, 0))
theorem Blk.lt {w : World} {g : Nat} {t : TypeId} {cs : Array Value} (h : Blk w g t cs) : g < w.heap.size := by
  rcases Nat.lt_or_ge g w.heap.size with hlt | hge
  · exact hlt
  · unfold Blk at h; rw [Array.getElem?_eq_none hge] at h; cases h
theorem Blk.cell {w : World} {g : Nat} {t : TypeId} {cs : Array Value} (h : Blk w g t cs) (j : Nat) : w.cell? ⟨g, j, none⟩ = cs[j]? := cell_of_row w g j _ _ _ h
theorem Blk.free {w : World} {g : Nat} {t : TypeId} {cs : Array Value} (h : Blk w g t cs) (j : Nat) : w.frozen? ⟨g, j, none⟩ = false := frozen_of_row w g j _ _ h
theorem Blk.below {w w' : World} {g : Nat} {t : TypeId} {cs : Array Value} (h : Blk w g t cs) (hb : Below w.heap.size w w') : Blk w' g t cs := (hb.block g h.lt).trans h
theorem Blk.grown {w w' : World} {g : Nat} {t : TypeId} {cs : Array Value} {row : Option Nat} (h : Blk w g t cs) (hb : w.grownBy w' row) (hr : some g ≠ row) : Blk w' g t cs := (hb.block g h.lt hr).trans h


theorem owns_mono {w : World} {B B' : Nat} {e : TypeId} {size : Nat} {v : Value} {n : Nat} {xs : List Value} (h : w.ownsRow B e size v n xs) (hB : B' ≤ B) : w.ownsRow B' e size v n xs :=
  ⟨h.1, h.2.imp id fun ⟨g, cap, cur, h1, h2, h3⟩ => ⟨g, cap, cur, h1, Nat.le_trans hB h2, h3⟩⟩
/-- What is owned stays, whatever is stored into other blocks. -/
theorem owns_of_heap {w w' : World} {B : Nat} {e : TypeId} {size : Nat} {g n cap : Nat} {xs : List Value} (h : w.ownsRow B e size (.slice (some ⟨g, 0, none⟩) n cap) n xs) (hh : w'.heap[g]? = w.heap[g]?) : w'.ownsRow B e size (.slice (some ⟨g, 0, none⟩) n cap) n xs := by
  refine ⟨h.1, .inr ?_⟩
  rcases h.2 with ⟨h, _⟩ | ⟨g', cap', cur, h1, h2, h3, h4⟩
  · cases h
  · cases h1
    exact ⟨g, cap, cur, rfl, h2, hh.trans h3, h4⟩

end Go.Kp
