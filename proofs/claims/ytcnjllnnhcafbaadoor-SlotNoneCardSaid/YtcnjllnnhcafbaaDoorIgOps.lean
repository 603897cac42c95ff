/-
  Every operation of the evaluator tells the truth of the model's.
-/
import Derived.Test.YtcnjllnnhcafbaaDoorIgEff4
import Derived.Orders
set_option linter.unusedVariables false
namespace Go.Ig
open Go

section
variable {P : Program} {j : J} {w : World} {n0 : Nat} {w0 : World} {gs : List Nat} {m : Mem}

/-- The model's rows of the library's functions without a body. -/
def extRow : Ext → Array Value → Sem Value
  | .atomicAdd => Extern.Atomic.update (Op.intArith .add) .i64 true
  | .atomicLoad => Extern.Atomic.loadT (.int .i64)
  | .atomicStore => Extern.Atomic.storeT
  | .mapClone => Extern.MapsClone.clone

theorem atomic_store {b g o : Nat} {v : V} {v' : Value} {m' : Mem} {L : Loc} (hM : MR P n0 w0 gs j m w) (hL : j b g = some L) (hv : VR j v v') (h : m.store b g o v = some m') :
    ∃ w', (store ⟨L.c, L.s + o, none⟩ v' .atomic).run P w = .ok () w' ∧ MR P n0 w0 gs j m' w' ∧ Grows j m w j m' w' := by
  obtain ⟨w', hrun, hM', hG⟩ := stores_R hM hL (.cons hv .nil) (store_stores h)
  refine ⟨w', ?_, hM', hG⟩
  have h1 : v'.oneCell' = true := by
    have := store_one h
    cases hv <;> simp [V.one] at this <;> rfl
  obtain ⟨ob, ob', md, hob, -, hmd, -, -, hg, -, -, hsome, -⟩ := stores_spec (j := j) (store_stores h)
  obtain ⟨u, hu⟩ := Option.isSome_iff_exists.1 (hsome o (by simp))
  subst hg
  obtain ⟨u', hu', -⟩ := (hM.objs b ob L hob hL).cell hu
  rw [run_store _ _ _ _ _ h1, hu']
  simp only [storeCells, Sem.run_bind, add_at, Nat.add_zero, run_store _ _ _ _ _ h1, hu', Sem.run_pure] at hrun
  simp only
  split
  · rename_i hf; simp [hf] at hrun
  · rename_i hf; simpa [hf] using hrun

theorem ext_R (hM : MR P n0 w0 gs j m w) {x : Ext} {args : List V} {args' : List Value} {v : V} {m' : Mem} (ha : VRs j args args') (h : extV x args m = some (v, m')) :
    ∃ v' w' j', (extRow x args'.toArray).run P w = .ok v' w' ∧ VR j' v v' ∧ MR P n0 w0 gs j' m' w' ∧ Grows j m w j' m' w' := by
  unfold extV at h
  split at h
  · rename_i b g o k y
    cases ha with | cons h1 ha => ?_
    cases ha with | cons h2 ha => ?_
    cases ha
    cases h1 with | ptr hL => ?_
    rename_i L
    cases h2
    split at h
    · rename_i a hcell
      cases hst : m.store b g o (.int .i64 (IntKind.i64.wrap (a + y))) with
      | none => rw [hst] at h; cases h
      | some m2 =>
        rw [hst] at h; cases h
        obtain ⟨c', hc', hcr⟩ := hM.cell hL hcell
        cases hcr
        obtain ⟨w', hrun, hM', hG⟩ := atomic_store hM hL (.int .i64 _ (by decide)) hst
        refine ⟨.int .i64 (IntKind.i64.wrap (a + y)), w', j, ?_, .int _ _ (by decide), hM', hG⟩
        have e : extRow .atomicAdd [.pointer (some ⟨L.c, L.s + o, none⟩), .int k y].toArray = (do
            let a ← asAddr (.pointer (some ⟨L.c, L.s + o, none⟩))
            let old ← Extern.Atomic.read (.int .i64) a
            let new ← Op.intArith .add .i64 (← asInt old) (← asInt (.int k y))
            store a new .atomic
            pure (if true then new else old)) := rfl
        rw [e]
        simp only [Extern.Atomic.read, asAddr, Sem.run_bind, Sem.run_pure, Result.andThen_ok, run_load, hc', asInt, asIntOf, Op.intArith, if_true, hrun]
    · cases h
  · rename_i b g o
    cases ha with | cons h1 ha => ?_
    cases ha
    cases h1 with | ptr hL => ?_
    rename_i L
    split at h
    · rename_i a hcell
      cases h
      obtain ⟨c', hc', hcr⟩ := hM.cell hL hcell
      cases hcr
      refine ⟨.int .i64 a, w, j, ?_, .int _ _ (by decide), hM, .refl _ _ _⟩
      have e : extRow .atomicLoad [.pointer (some ⟨L.c, L.s + o, none⟩)].toArray = (do Extern.Atomic.read (.int .i64) (← asAddr (.pointer (some ⟨L.c, L.s + o, none⟩)))) := rfl
      rw [e]
      simp only [Extern.Atomic.read, asAddr, Sem.run_bind, Sem.run_pure, Result.andThen_ok, run_load, hc', if_true]
    · cases h
  · rename_i b g o y
    cases ha with | cons h1 ha => ?_
    cases ha with | cons h2 ha => ?_
    cases ha
    cases h1 with | ptr hL => ?_
    rename_i L
    cases h2
    cases hst : m.store b g o (.int .i64 y) with
    | none => rw [hst] at h; cases h
    | some m2 =>
      rw [hst] at h; cases h
      obtain ⟨w', hrun, hM', hG⟩ := atomic_store hM hL (.int .i64 _ (by decide)) hst
      refine ⟨.tuple #[], w', j, ?_, .tuple .nil, hM', hG⟩
      have e : extRow .atomicStore [.pointer (some ⟨L.c, L.s + o, none⟩), .int .i64 y].toArray = (do
          store (← asAddr (.pointer (some ⟨L.c, L.s + o, none⟩))) (.int .i64 y) .atomic
          pure Extern.Atomic.none_) := rfl
      rw [e]
      simp only [ asAddr, Sem.run_bind, Sem.run_pure, Result.andThen_ok, hrun, Extern.Atomic.none_]
  · rename_i t r
    cases ha with | cons h1 ha => ?_
    cases ha
    cases h1 with | iface h1 => ?_
    cases h1 with | map hL => ?_
    rename_i L
    split at h
    · rename_i es c hob
      cases h
      obtain ⟨hn, es', hheap, hR⟩ := hM.objs r _ L hob hL
      have hk : ∀ c2, c2 < w.heap.size → (w.alloc (.map ⟨es'⟩ c)).heap[c2]? = w.heap[c2]? := by
        intro c2 hc
        show (w.heap.push _)[c2]? = _
        rw [Array.getElem?_push_lt hc]
        simp [hc]
      obtain ⟨hM', hG⟩ := hM.alloc (ob := .map es c) (w' := w.alloc (.map ⟨es'⟩ c)) none (by simp) hk ⟨rfl, rfl, rfl⟩ ⟨hM.n0le, es', by show (w.heap.push _)[_]? = _; simp, hR⟩
      refine ⟨.iface t (.map (some w.heap.size)), _, _, ?_, .iface (.map (J.new_same _ _ _ _)), hM', hG⟩
      have e : extRow .mapClone [.iface t (.map (some L.c))].toArray = (do
          let o ← getObj L.c
          match o with
          | .map entries clock => pure (.iface t (.map (some (← newObj (.map entries clock)))))
          | _ => stuck "maps.clone: a map expected") := rfl
      rw [e]
      simp only [Sem.run_bind, run_getO hheap, Result.andThen_ok, Sem.run_pure]
      rfl
    · cases h
  · cases h

theorem builtin_R (hM : MR P n0 w0 gs j m w) {b : Builtin} {ts : Array TypeId} {ty : TypeId} {cs : Array Bool} {args : List V} {args' : List Value} {v : V} {m' : Mem} (ha : VRs j args args') (h : builtinV P b ts args m = some (v, m')) :
    ∃ v' w' j', (builtin b ts ty cs args'.toArray).run P w = .ok (.value v') w' ∧ VR j' v v' ∧ MR P n0 w0 gs j' m' w' ∧ Grows j m w j' m' w' := by
  unfold builtinV at h
  split at h
  · cases ha with | cons h1 ha => ?_
    cases ha with | cons h2 ha => ?_
    cases ha
    cases hts : ts[0]? with
    | none => rw [hts] at h; cases h
    | some t =>
      rw [hts, Option.bind_some] at h
      obtain ⟨v', w', j', hrun, rest⟩ := append_R hM ts ty hts rfl h1 h2 h
      exact ⟨v', w', j', value_run' hrun, rest⟩
  · cases ha with | cons h1 ha => ?_
    cases ha with | cons h2 ha => ?_
    cases ha
    cases hts : ts[0]? with
    | none => rw [hts] at h; cases h
    | some t =>
      rw [hts, Option.bind_some] at h
      obtain ⟨v', w', hrun, rest⟩ := copyV_R hM ts ty hts h1 h2 h
      exact ⟨v', w', j, value_run' hrun, rest⟩
  · cases ha with | cons h1 ha => ?_
    cases ha
    cases hts : ts[0]? with
    | none => rw [hts] at h; cases h
    | some t =>
      rw [hts, Option.bind_some] at h
      cases hl : lenB P m t _ with
      | none => rw [hl] at h; cases h
      | some n =>
        rw [hl] at h; cases h
        exact ⟨_, w, j, value_run' (len_R hM ts ty hts h1 hl), .int _ _ (by decide), hM, .refl _ _ _⟩
  · cases ha with | cons h1 ha => ?_
    cases ha
    cases hts : ts[0]? with
    | none => rw [hts] at h; cases h
    | some t =>
      rw [hts, Option.bind_some] at h
      cases hl : capB P m t _ with
      | none => rw [hl] at h; cases h
      | some n =>
        rw [hl] at h; cases h
        exact ⟨_, w, j, value_run' (cap_R hM ts ty hts h1 hl), .int _ _ (by decide), hM, .refl _ _ _⟩
  · rename_i r
    cases ha with | cons h1 ha => ?_
    cases ha
    cases h1 with | map hL => ?_
    rename_i L
    cases hts : ts[0]? with
    | none => rw [hts] at h; cases h
    | some t =>
      rw [hts, Option.bind_some] at h
      obtain ⟨d, hd, h1⟩ := Option.bind_eq_some_iff.1 h; clear h
      split at h1
      · rename_i es c hob
        cases h1
        obtain ⟨hn, es', hheap, hR⟩ := hM.objs r _ L hob hL
        obtain ⟨w', hset, hM', hG⟩ := setMap_R (c2 := c) (es2 := []) (es2' := []) hM hob hL .nil (fun _ _ _ _ e he => by cases he)
        refine ⟨.tuple #[], w', j, value_run' ?_, .tuple .nil, hM', hG⟩
        have e0 : ([Value.map (some L.c)].toArray)[0]? = some (Value.map (some L.c)) := rfl
        unfold Builtin.clear_
        simp only [hts, e0, Sem.run_bind, run_under hd, Result.andThen_ok, run_getO hheap]
        rw [hset]
        rfl
      · cases h1
  · rename_i k a k' c
    cases ha with | cons h1 ha => ?_
    cases ha with | cons h2 ha => ?_
    cases ha
    cases h1; rename_i hk; cases h2
    split at h
    · rename_i e
      cases h
      exact ⟨.int k (if a < c then c else a), w, j, value_run' (by simp [Builtin.max_, Builtin.max2]), .int _ _ hk, hM, .refl _ _ _⟩
    · cases h
  · rename_i k a k' c
    cases ha with | cons h1 ha => ?_
    cases ha with | cons h2 ha => ?_
    cases ha
    cases h1; rename_i hk; cases h2
    split at h
    · rename_i e
      cases h
      exact ⟨.int k (if c < a then c else a), w, j, value_run' (by simp [Builtin.min_, Builtin.min2]), .int _ _ hk, hM, .refl _ _ _⟩
    · cases h
  · cases h
end
end Go.Ig
