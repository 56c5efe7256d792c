/- The map of the places: what it holds, timer by timer; look up, store, delete. -/
import Derived.Test.YtlmmcffbpdfcjaaTmA
import Derived.Maps.OwnSet
import Derived.DeepKeys5
set_option linter.unusedSimpArgs false
set_option linter.unusedVariables false
namespace Go.Proofs.Ytlmmcffbpdfcjaa
open Go.RowKit Go.Kp Go.MapKept Go.ChangeMaps
open Go.WideElems (Fit rg rd rd_key rg_of rd_val)
open Go.WideShapes

/-- A timer as Go has them. -/
structure Ok (x : Tm.T) : Prop where
  a : (Lit.int .i64 x.a).wf = true
  k : x.k.size ≤ maxLen
  s : (Lit.int .i64 x.s).wf = true
  e : (Lit.int .i64 x.e).wf = true

theorem tm_keyType : Try.prog.keyType 25 = true := by kernel_rfl
theorem tm_law : Maps.Keyed Try.prog 25 := Maps.Keyed.of_law (deep_law_gate (by kernel_rfl) (by decide +kernel) (by decide +kernel) tm_keyType (by kernel_rfl))
def kl (x : Tm.T) : Lit := .string (keyBytes [.int .i64 x.a, .string x.k.data.toList, .int .i64 x.s, .int .i64 x.e])
theorem keyLits_deep (x : Tm.T) (h : Ok x) (n : Nat) : Try.prog.keyLits (n + 3) 25 (cT x) = some [.int .i64 x.a, .string x.k.data.toList, .int .i64 x.s, .int .i64 x.e] := by
  have c1 : Try.prog.cellsOf 25 = 4 := by kernel_rfl
  have c2 : Try.prog.cellsOf 2 = 1 := by kernel_rfl
  have c3 : Try.prog.cellsOf 9 = 1 := by kernel_rfl
  have c4 : Try.prog.cellsOf 23 = 2 := by kernel_rfl
  simp (decide := true) [Program.keyLits, Try.underlying25, Try.underlying23, Try.underlying2, Try.underlying9, c1, c2, c3, c4, h.a, h.k, h.s, h.e]
theorem keyOf_tm (x : Tm.T) (h : Ok x) : keyOf Try.prog 25 (vT x) = some (kl x) := by
  have c1 : Try.prog.cellsOf 25 = 4 := by kernel_rfl
  have h3 : 3 ≤ Try.prog.types.size + 1 := by decide +kernel
  have hs : ∃ m, Try.prog.types.size + 1 = m + 3 := ⟨Try.prog.types.size + 1 - 3, by omega⟩
  obtain ⟨m, hm⟩ := hs
  unfold keyOf
  simp only [Try.underlying25]
  rw [if_pos (by simp [tm_keyType, Value.formed, Try.underlying25, c1]), hm]
  show (Try.prog.keyLits (m + 3) 25 (cT x)).map _ = _
  rw [keyLits_deep x h m]
  rfl
theorem vT_inj {x y : Tm.T} (h : vT x = vT y) : x = y := by
  simp only [Value.agg.injEq, Array.mk.injEq, List.cons.injEq, Value.int.injEq, Value.string.injEq, true_and, and_true] at h
  exact Tm.T.ext' h.1 h.2.1 h.2.2.1 h.2.2.2
theorem kl_inj {x y : Tm.T} (hx : Ok x) (hy : Ok y) (h : kl x = kl y) : x = y := vT_inj (tm_law.inj (keyOf_tm x hx) (by rw [h]; exact keyOf_tm y hy))
theorem kl_key (x : Tm.T) (hx : Ok x) : WideAt.IsKeyLit (kl x) := tm_law.key (keyOf_tm x hx)

noncomputable abbrev Dmap (es : Array MapEntry) : DataW Unit := .map ((es.toList.map (rg Try.prog 25 (plainElem Try.prog 3))).foldr DataW.insert [])

/-- Block m holds the map M. -/
def Ix (w : World) (m : Nat) (M : Tm.T → Option Nat) : Prop :=
  ∃ es clock, w.heap[m]? = some (.map es clock) ∧ Fit Try.prog 25 (plainElem (H := Unit) Try.prog 3) es clock ∧
    (∀ e ∈ es.toList, ∃ x, Ok x ∧ e.key = vT x ∧ M x ≠ none) ∧
    ∀ x, Ok x → (M x = none → Maps.has (Dmap es) (kl x) = false) ∧ ∀ i, M x = some i → Maps.has (Dmap es) (kl x) = true ∧ (Dmap es).atKey (kl x) (.lit (.int .i64 0)) = .lit (.int .i64 i)

theorem Ix.same {w w' : World} {m : Nat} {M : Tm.T → Option Nat} (h : Ix w m M) (hh : w'.heap[m]? = w.heap[m]?) : Ix w' m M := by
  obtain ⟨es, clock, h1, h2⟩ := h
  exact ⟨es, clock, hh.trans h1, h2⟩
theorem Ix.lt {w : World} {m : Nat} {M : Tm.T → Option Nat} (h : Ix w m M) : m < w.heap.size := by
  obtain ⟨es, clock, h1, h2⟩ := h
  exact (Array.getElem?_eq_some_iff.1 h1).1
theorem Ix.made {w : World} {m : Nat} (h : w.heap[m]? = some (.map #[] 0)) : Ix w m (fun _ => none) :=
  ⟨#[], 0, h, ⟨by simp, stamped_empty 0, by simp⟩, by simp, fun x _ => ⟨fun _ => rfl, fun i hi => by cases hi⟩⟩

theorem zero_int (w : World) : (zeroValue 3).run Try.prog w = .ok (.int .i64 0) w := by go_simp

/-- v, ok := m[t]. -/
theorem Ix.look {w : World} {m : Nat} {M : Tm.T → Option Nat} (h : Ix w m M) {x : Tm.T} (hx : Ok x) :
    (Instr.lookup 57 (.map (some m)) (vT x) true).run Try.prog w = .ok (.tuple #[.int .i64 ((M x).getD 0 : Nat), .bool (M x).isSome]) w := by
  obtain ⟨es, clock, hb, F, hkeys, hM⟩ := h
  obtain ⟨h0, h1⟩ := hM x hx
  rcases Maps.fit_look true tm_law Try.underlying57 (zero_int w) hb F (keyOf_tm x hx) with ⟨hrun, _, hat⟩ | ⟨e0, y, hm0, hk0, hrun, hRv, hat, _⟩
  · have hno : Maps.has (Dmap es) (kl x) = false := Maps.has_false_of_atKey hat
    cases hMx : M x with
    | none => simpa using hrun
    | some i => rw [(h1 i hMx).1] at hno; cases hno
  · have hyes : Maps.has (Dmap es) (kl x) = true := Maps.has_true_of_atKey hat
    cases hMx : M x with
    | none => rw [h0 hMx] at hyes; cases hyes
    | some i =>
      have h2 := (h1 i hMx).2
      rw [hat] at h2
      obtain ⟨a, ha, hy, _⟩ := plainElem_int_inv Try.underlying3 hRv
      rw [hy] at h2
      simp only [DataW.lit.injEq, Lit.int.injEq, true_and] at h2
      rw [ha, h2] at hrun
      simpa using hrun
theorem Ix.look1 {w : World} {m : Nat} {M : Tm.T → Option Nat} (h : Ix w m M) {x : Tm.T} (hx : Ok x) :
    (Instr.lookup 57 (.map (some m)) (vT x) false).run Try.prog w = .ok (.int .i64 ((M x).getD 0 : Nat)) w := by
  obtain ⟨es, clock, hb, F, hkeys, hM⟩ := h
  obtain ⟨h0, h1⟩ := hM x hx
  rcases Maps.fit_look false tm_law Try.underlying57 (zero_int w) hb F (keyOf_tm x hx) with ⟨hrun, _, hat⟩ | ⟨e0, y, hm0, hk0, hrun, hRv, hat, _⟩
  · have hno : Maps.has (Dmap es) (kl x) = false := Maps.has_false_of_atKey hat
    cases hMx : M x with
    | none => simpa using hrun
    | some i => rw [(h1 i hMx).1] at hno; cases hno
  · have hyes : Maps.has (Dmap es) (kl x) = true := Maps.has_true_of_atKey hat
    cases hMx : M x with
    | none => rw [h0 hMx] at hyes; cases hyes
    | some i =>
      have h2 := (h1 i hMx).2
      rw [hat] at h2
      obtain ⟨a, ha, hy, _⟩ := plainElem_int_inv Try.underlying3 hRv
      rw [hy] at h2
      simp only [DataW.lit.injEq, Lit.int.injEq, true_and] at h2
      rw [ha, h2] at hrun
      simpa using hrun

theorem nodup_len {α : Type} [DecidableEq α] : ∀ (a b : List α), a.Nodup → (∀ x ∈ a, x ∈ b) → a.length ≤ b.length
  | [], b, _, _ => by simp
  | x :: a, b, hn, hs => by
    have hx := hs x (by simp)
    have h1 := nodup_len a (b.erase x) (List.nodup_cons.1 hn).2 (fun y hy => by
      have hne : y ≠ x := fun e => (List.nodup_cons.1 hn).1 (e ▸ hy)
      exact (List.mem_erase_of_ne hne).2 (hs y (by simp [hy])))
    rw [List.length_erase_of_mem hx] at h1
    have : 0 < b.length := List.length_pos_of_mem hx
    simp only [List.length_cons]
    omega

/-- The map is no longer than a list of what it may hold. -/
theorem keys_len {es : Array MapEntry} {clock : Nat} {M : Tm.T → Option Nat} {l : List Tm.T} (F : Fit Try.prog 25 (plainElem (H := Unit) Try.prog 3) es clock)
    (hk : ∀ e ∈ es.toList, ∃ x, Ok x ∧ e.key = vT x ∧ M x ≠ none) (hl : ∀ x, M x ≠ none → x ∈ l) : es.size ≤ l.length := by
  have hn : (es.toList.map (·.key)).Nodup := by
    have := ((stamped_iff es clock).1 F.stamped).2.2
    unfold List.Nodup
    rw [List.pairwise_map]
    exact this
  have hz : ∃ ks : List Tm.T, ks.map vT = es.toList.map (·.key) ∧ ∀ x ∈ ks, x ∈ l := by
    generalize es.toList = L at hk
    clear hn
    induction L with
    | nil => exact ⟨[], rfl, by simp⟩
    | cons e L ih =>
      obtain ⟨ks, h1, h2⟩ := ih (fun e he => hk e (by simp [he]))
      obtain ⟨x, _, hx, hM⟩ := hk e (by simp)
      refine ⟨x :: ks, by simp [h1, hx], fun y hy => ?_⟩
      rcases List.mem_cons.1 hy with rfl | hy
      · exact hl _ hM
      · exact h2 y hy
  obtain ⟨ks, h1, h2⟩ := hz
  have hkn : ks.Nodup := by
    rw [← h1] at hn
    unfold List.Nodup at hn ⊢
    rw [List.pairwise_map] at hn
    exact hn.imp (fun h e => h (by rw [e]))
  have h3 := nodup_len ks l hkn h2
  have h4 : ks.length = es.size := by
    have := congrArg List.length h1
    simpa using this
  omega

/-- m[t] = i. -/
theorem Ix.store {w : World} {m : Nat} {M : Tm.T → Option Nat} (h : Ix w m M) {x : Tm.T} (hx : Ok x) (l : List Tm.T) (hl : ∀ y, M y ≠ none → y ∈ l) (hn : l.length < maxLen) (i : Nat) (hi : (Lit.int .i64 (i : Int)).wf = true) :
    ∃ es clock, (Instr.mapUpdate 57 (.map (some m)) (vT x) (.int .i64 i)).run Try.prog w = .ok () (setBlock w m (.map es clock)) ∧ Ix (setBlock w m (.map es clock)) m (Tm.upd M x i) ∧ ∃ o, w.heap[m]? = some o := by
  obtain ⟨es, clock, hb, F, hkeys, hM⟩ := h
  have hsz := keys_len F hkeys hl
  obtain ⟨es', clock', hrun, F', hput, _, _, hwho⟩ := Maps.fit_store (R' := plainElem (H := Unit) Try.prog 3) tm_law Try.underlying57 hb F (by omega) (fun _ _ _ _ hz => hz) (keyOf_tm x hx) (plainElem_int Try.underlying3 hi)
  have hD : Dmap es' = (Dmap es).put (kl x) (.lit (.int .i64 i)) := by rw [DataW.put_eq]; exact congrArg DataW.map hput
  refine ⟨es', clock', hrun, ⟨es', clock', heap_setBlock_same hb _, F', fun e he => ?_, fun y hy => ?_⟩, _, hb⟩
  · rcases hwho e he with ⟨h1, h2⟩ | ⟨h1, _⟩
    · obtain ⟨y, hy1, hy2, hy3⟩ := hkeys e h1
      refine ⟨y, hy1, hy2, ?_⟩
      unfold Tm.upd
      split
      · simp
      · exact hy3
    · exact ⟨x, hx, h1, by simp [Tm.upd]⟩
  · rw [hD]
    have hmap : Maps.IsMap (Dmap es) := ⟨_, rfl⟩
    by_cases e : y = x
    · subst e
      refine ⟨fun h0 => by simp [Tm.upd] at h0, fun j hj => ?_⟩
      simp only [Tm.upd, if_true, Option.some.injEq] at hj
      subst hj
      exact ⟨Maps.has_put_same hmap (kl_key y hy) _, Maps.atKey_put_same hmap (kl_key y hy) _ _⟩
    · have hne : kl y ≠ kl x := fun e2 => e (kl_inj hy hx e2)
      have hu : Tm.upd M x i y = M y := by simp [Tm.upd, e]
      rw [hu, Maps.has_put_other hne, Maps.atKey_put_other hne]
      exact hM y hy

/-- delete(m, t). -/
theorem Ix.drop {w : World} {m : Nat} {M : Tm.T → Option Nat} (h : Ix w m M) {x : Tm.T} (hx : Ok x) (ty : TypeId) :
    ∃ es clock, (Builtin.delete_ #[57, 25] ty #[.map (some m), vT x]).run Try.prog w = .ok (.tuple #[]) (setBlock w m (.map es clock)) ∧ Ix (setBlock w m (.map es clock)) m (Tm.cut M x) ∧ ∃ o, w.heap[m]? = some o := by
  obtain ⟨es, clock, hb, F, hkeys, hM⟩ := h
  obtain ⟨es', hrun, F', hle, hdel, _⟩ := Maps.fit_drop (ty := ty) tm_law Try.underlying57 hb F (keyOf_tm x hx)
  have hD : Dmap es' = (Dmap es).del (kl x) := by rw [DataW.del_eq]; exact congrArg DataW.map hdel
  have hmap : Maps.IsMap (Dmap es) := ⟨_, rfl⟩
  refine ⟨es', clock, hrun, ⟨es', clock, heap_setBlock_same hb _, F', fun e he => ?_, fun y hy => ?_⟩, _, hb⟩
  · obtain ⟨z, hz⟩ := F'.reads e he
    have hzk := rd_key hz
    have hmem : z ∈ (es'.toList.map (rg Try.prog 25 (plainElem (H := Unit) Try.prog 3))).foldr DataW.insert [] :=
      (sorted_perm _).mem_iff.2 (List.mem_map.2 ⟨e, he, rg_of hz⟩)
    rw [hdel] at hmem
    obtain ⟨hm1, hm2⟩ := List.mem_filter.1 hmem
    obtain ⟨e0, he0, hr0⟩ := List.mem_map.1 ((sorted_perm _).mem_iff.1 hm1)
    obtain ⟨z0, hz0⟩ := F.reads e0 he0
    rw [rg_of hz0] at hr0
    subst hr0
    have hk0 := rd_key hz0
    have hek : e.key = e0.key := tm_law.inj hzk hk0
    obtain ⟨y, hy1, hy2, hy3⟩ := hkeys e0 he0
    refine ⟨y, hy1, hek.trans hy2, ?_⟩
    have hzy : z0.1 = kl y := by
      rw [hy2, keyOf_tm y hy1] at hk0
      exact (Option.some.inj hk0).symm
    have hne : y ≠ x := by
      intro e3
      subst e3
      unfold notKey at hm2
      rw [hzy, WideAt.sameKey_self (kl_key y hy1)] at hm2
      cases hm2
    simp [Tm.cut, hne, hy3]
  · rw [hD]
    by_cases e : y = x
    · subst e
      refine ⟨fun _ => Maps.has_del_same, fun j hj => ?_⟩
      simp [Tm.cut] at hj
    · have hne : kl y ≠ kl x := fun e2 => e (kl_inj hy hx e2)
      have hu : Tm.cut M x y = M y := by simp [Tm.cut, e]
      rw [hu, Maps.has_del_other hne, Maps.atKey_del_other hne]
      exact hM y hy
end Go.Proofs.Ytlmmcffbpdfcjaa
