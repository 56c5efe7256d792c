/- The queue in memory, and one timer laid. -/
import Derived.Test.YtlmmcffbpdfcjaaTmX
import Derived.Test.YtlmmcffbpdfcjaaRf
import Derived.Laws.OwnMore
import Derived.Deep.AppendLies
set_option linter.unusedSimpArgs false
set_option linter.unusedVariables false
namespace Go.Proofs.Ytlmmcffbpdfcjaa
open Go.RowKit Go.Kp Go.ChangeMaps

/-- q: the queue's own block; v: its heap; m: its map. -/
structure Raw (w : World) (q m : Nat) (v : Value) (L : List Tm.T) (M : Tm.T → Option Nat) : Prop where
  bq : Blk w q 59 #[v, .map (some m)]
  bv : w.ownsRow 0 25 4 v L.length (L.flatMap cT)
  bm : Ix w m M
  qm : q ≠ m
  vq : v.ownBlock ≠ some q
  vm : v.ownBlock ≠ some m
  ok : ∀ x ∈ L, Ok x
  len : L.length ≤ 5000000000000
def foot (q m : Nat) (v : Value) (b : Nat) : Prop := b = q ∨ b = m ∨ v.ownBlock = some b

theorem owns_same {w w' : World} {B : Nat} {e : TypeId} {size : Nat} {v : Value} {n : Nat} {xs : List Value} (h : w.ownsRow B e size v n xs) (hk : ∀ b, v.ownBlock = some b → w'.heap[b]? = w.heap[b]?) : w'.ownsRow B e size v n xs := by
  refine ⟨h.1, ?_⟩
  rcases h.2 with h1 | ⟨g, cap, cur, rfl, h2, h3, h4⟩
  · exact .inl h1
  · exact .inr ⟨g, cap, cur, rfl, h2, (hk g rfl).trans h3, h4⟩
theorem Raw.same {w w' : World} {q m : Nat} {v : Value} {L : List Tm.T} {M : Tm.T → Option Nat} (h : Raw w q m v L M) (hk : ∀ b, foot q m v b → w'.heap[b]? = w.heap[b]?) : Raw w' q m v L M :=
  ⟨(hk q (.inl rfl)).trans h.bq, owns_same h.bv fun b hb => hk b (.inr (.inr hb)), h.bm.same (hk m (.inr (.inl rfl))), h.qm, h.vq, h.vm, h.ok, h.len⟩
theorem Raw.lt {w : World} {q m : Nat} {v : Value} {L : List Tm.T} {M : Tm.T → Option Nat} (h : Raw w q m v L M) : ∀ b, foot q m v b → b < w.heap.size := by
  rintro b (rfl | rfl | hb)
  · exact h.bq.lt
  · exact h.bm.lt
  · exact (h.bv.lt b hb).2
theorem Raw.fr {w w' : World} {q m : Nat} {v : Value} {L : List Tm.T} {M : Tm.T → Option Nat} (h : Raw w q m v L M) {S : Nat → Prop} (hf : Fr S w w') (hS : ∀ b, S b → ¬ foot q m v b) : Raw w' q m v L M :=
  h.same fun b hb => hf.block b (h.lt b hb) fun hs => hS b hs hb
theorem Raw.below {w w' : World} {q m : Nat} {v : Value} {L : List Tm.T} {M : Tm.T → Option Nat} (h : Raw w q m v L M) (hb : Below w.heap.size w w') : Raw w' q m v L M :=
  h.same fun b hf => hb.block b (h.lt b hf)
theorem Raw.form {w : World} {q m : Nat} {v : Value} {L : List Tm.T} {M : Tm.T → Option Nat} (h : Raw w q m v L M) (hn : 0 < L.length) : ∃ g cap, v = .slice (some ⟨g, 0, none⟩) L.length cap ∧ L.length ≤ cap ∧ cap ≤ maxLen := by
  rcases h.bv.2 with ⟨_, h2⟩ | ⟨g, cap, cur, h1, _, _, h2, h3, _⟩
  · omega
  · exact ⟨g, cap, h1, h2, h3⟩

theorem flat_set : ∀ (L : List Tm.T) (i : Nat) (x : Tm.T), i < L.length →
    ((((L.flatMap cT).set (i * 4) (.int .i64 x.a)).set (i * 4 + 1) (.string x.k)).set (i * 4 + 2) (.int .i64 x.s)).set (i * 4 + 3) (.int .i64 x.e) = (L.set i x).flatMap cT
  | [], i, x, h => by simp at h
  | y :: L, 0, x, _ => by simp [cT]
  | y :: L, i + 1, x, h => by
    have ih := flat_set L i x (by simpa using h)
    simp only [List.flatMap_cons, List.set_cons_succ]
    rw [← ih]
    have e : ∀ (j : Nat) (l : List Value) (u : Value), (cT y ++ l).set ((i + 1) * 4 + j) u = cT y ++ l.set (i * 4 + j) u := fun j l u => by
      rw [List.set_append_right _ _ (by simp; omega)]
      congr 2
      simp; omega
    have e0 := e 0
    simp only [Nat.add_zero] at e0
    rw [e0, e 1, e 2, e 3]
theorem cT_len (x : Tm.T) : (cT x).length = 4 := rfl
theorem flat_at {L : List Tm.T} {i : Nat} {x : Tm.T} (h : L[i]? = some x) : ∀ j, j < 4 → (L.flatMap cT)[i * 4 + j]? = (cT x)[j]? := fun j hj => flat_get cT 4 cT_len L i j x h hj

/-- The cells of the i-th timer. -/
theorem Raw.cell {w : World} {q m g cap : Nat} {L : List Tm.T} {M : Tm.T → Option Nat} (h : Raw w q m (.slice (some ⟨g, 0, none⟩) L.length cap) L M) {i : Nat} {x : Tm.T} (hx : L[i]? = some x) :
    w.cell? ⟨g, i * 4, none⟩ = some (.int .i64 x.a) ∧ w.cell? ⟨g, i * 4 + 1, none⟩ = some (.string x.k) ∧ w.cell? ⟨g, i * 4 + 2, none⟩ = some (.int .i64 x.s) ∧ w.cell? ⟨g, i * 4 + 3, none⟩ = some (.int .i64 x.e) := by
  have hl := (List.getElem?_eq_some_iff.1 hx).1
  have c := fun j (hj : j < 4) => (h.bv.cellAt (i * 4 + j) (by omega)).trans (flat_at hx j hj)
  exact ⟨c 0 (by omega), c 1 (by omega), c 2 (by omega), c 3 (by omega)⟩

theorem Raw.stored {w : World} {q m g cap : Nat} {L : List Tm.T} {M : Tm.T → Option Nat} (h : Raw w q m (.slice (some ⟨g, 0, none⟩) L.length cap) L M) {i : Nat} (hi : i < L.length) {x : Tm.T} (hx : Ok x) :
    Raw ((((w.setCell ⟨g, i * 4, none⟩ (.int .i64 x.a)).setCell ⟨g, i * 4 + 1, none⟩ (.string x.k)).setCell ⟨g, i * 4 + 2, none⟩ (.int .i64 x.s)).setCell ⟨g, i * 4 + 3, none⟩ (.int .i64 x.e)) q m (.slice (some ⟨g, 0, none⟩) L.length cap) (L.set i x) M ∧
    Fr (fun b => b = g) w ((((w.setCell ⟨g, i * 4, none⟩ (.int .i64 x.a)).setCell ⟨g, i * 4 + 1, none⟩ (.string x.k)).setCell ⟨g, i * 4 + 2, none⟩ (.int .i64 x.s)).setCell ⟨g, i * 4 + 3, none⟩ (.int .i64 x.e)) := by
  have s1 := h.bv.stored (i * 4) (.int .i64 x.a)
  have s2 := s1.1.stored (i * 4 + 1) (.string x.k)
  have s3 := s2.1.stored (i * 4 + 2) (.int .i64 x.s)
  have s4 := s3.1.stored (i * 4 + 3) (.int .i64 x.e)
  have hF : Fr (fun b => b = g) w ((((w.setCell ⟨g, i * 4, none⟩ (.int .i64 x.a)).setCell ⟨g, i * 4 + 1, none⟩ (.string x.k)).setCell ⟨g, i * 4 + 2, none⟩ (.int .i64 x.s)).setCell ⟨g, i * 4 + 3, none⟩ (.int .i64 x.e)) :=
    ((((Fr.refl (fun b => b = g) w).set _ rfl).set _ rfl).set _ rfl).set _ rfl
  have hv := s4.1
  rw [flat_set L i x hi] at hv
  have hq : q ≠ g := fun e => h.vq (by rw [e]; rfl)
  have hm : m ≠ g := fun e => h.vm (by rw [e]; rfl)
  refine ⟨⟨(hF.block q h.bq.lt hq).trans h.bq, by rw [List.length_set]; exact hv, h.bm.same (hF.block m h.bm.lt hm), h.qm, h.vq, h.vm, fun y hy => ?_, by rw [List.length_set]; exact h.len⟩, hF⟩
  rcases List.mem_or_eq_of_mem_set hy with h1 | rfl
  · exact h.ok y h1
  · exact hx

theorem fr_setBlock {w : World} {m : Nat} {o : Obj} {es : Array MapEntry} {clock : Nat} (hb : w.heap[m]? = some (.map es clock)) : Fr (fun b => b = m) w (setBlock w m o) :=
  ⟨rfl, rfl, rfl, by simp [setBlock], fun k _ hk => heap_setBlock_other hb o hk⟩

theorem i_wf {i : Nat} (hi : i ≤ 5000000000000) : (Lit.int .i64 (i : Int)).wf = true := by
  have h1 : IntKind.i64.min = -9223372036854775808 := by decide
  have h2 : IntKind.i64.max = 9223372036854775807 := by decide
  simp only [Lit.wf, h1, h2, Bool.and_eq_true, decide_eq_true_eq]
  omega
/-- m[t] = i, at the operation. -/
theorem wpList_place {w : World} {ops : Array Oper} {rest : List Oper} {o : Oper} {a : Act} {Q : Exit → Act → World → Prop} (hg : o.guard = none) (mo xo vo : Operand) (hop : o.op = Op.mapUpdate 57 mo xo vo)
    (m : Nat) (M : Tm.T → Option Nat) (hm : a.eval mo = .map (some m)) (h : Ix w m M) (x : Tm.T) (hxo : a.eval xo = vT x) (i : Nat) (hvo : a.eval vo = .int .i64 i) (hx : Ok x) (l : List Tm.T) (hl : ∀ y, M y ≠ none → y ∈ l) (hn : l.length ≤ 5000000000000) (hi : i ≤ 5000000000000)
    (hK : ∀ w', Ix w' m (Tm.upd M x i) → Fr (fun b => b = m) w w' → wpList Try.prog ops Q rest (a.put o.dst undef) w') : wpList Try.prog ops Q (o :: rest) a w := by
  refine wpList_plain hg fun K' hK' => ?_
  obtain ⟨es, clock, hrun, hI, o', ho'⟩ := h.store hx l hl (by unfold maxLen; omega) i (i_wf hi)
  have hfr : Fr (fun b => b = m) w (setBlock w m (.map es clock)) := by
    obtain ⟨es0, c0, hb, _⟩ := h
    exact fr_setBlock hb
  unfold Oper.wp
  simp [execOp, hop, hm, hxo, hvo, hrun, Result.andThen]
  exact hK' _ _ (hK _ hI hfr)
/-- delete(m, t), at the operation. -/
theorem wpList_cut {w : World} {ops : Array Oper} {rest : List Oper} {o : Oper} {a : Act} {Q : Exit → Act → World → Prop} (hg : o.guard = none) (mo xo : Operand) (hop : o.op = Op.call { callee := Callee.builtin Builtin.delete, args := #[mo, xo], argTypes := #[57, 25] })
    (m : Nat) (M : Tm.T → Option Nat) (hm : a.eval mo = .map (some m)) (h : Ix w m M) (x : Tm.T) (hxo : a.eval xo = vT x) (hx : Ok x)
    (hK : ∀ w', Ix w' m (Tm.cut M x) → Fr (fun b => b = m) w w' → wpList Try.prog ops Q rest (a.put o.dst (.tuple #[])) w') : wpList Try.prog ops Q (o :: rest) a w := by
  refine wpList_plain hg fun K' hK' => ?_
  obtain ⟨es, clock, hrun, hI, o', ho'⟩ := h.drop hx o.type
  have hfr : Fr (fun b => b = m) w (setBlock w m (.map es clock)) := by
    obtain ⟨es0, c0, hb, _⟩ := h
    exact fr_setBlock hb
  unfold Oper.wp
  simp [execOp, hop, resolve, invoke, builtin, hm, hxo, hrun, Result.andThen]
  exact hK' _ _ (hK _ hI hfr)
end Go.Proofs.Ytlmmcffbpdfcjaa
