/-
  Facts told of functions from a memory of their own: what lies elsewhere stands as it was.
-/
import Derived.Test.YtcnjllnnhcafbaaDoorIgLift
set_option linter.unusedVariables false
namespace Go.Ig
open Go

section
variable {P : Program} {cfg : Cfg} {j : J} {w w' : World} {n0 : Nat} {w0 : World} {gs : List Nat} {m : Mem}

/-- Where no block of the world has turned, a memory stands for it as it did. -/
theorem MR.frame (hM : MR P n0 w0 gs j m w) (hs : w.heap.size ≤ w'.heap.size) (hk : ∀ c, c < w.heap.size → w'.heap[c]? = w.heap[c]?) (hstr : Strm w w') :
    MR P n0 w0 gs j m w' ∧ Grows j m w j m w' := by
  refine ⟨⟨fun i o L hi hL => (hM.objs i o L hi hL).heap (hk _ (hM.dom _ _ _ hL).2), fun i g L hL => ⟨(hM.dom _ _ _ hL).1, by have := (hM.dom _ _ _ hL).2; omega⟩, hM.sep, fun c hc => ?_, by have := hM.n0le; omega, hM.glob, hM.gle, hM.gens, hM.low, hM.str.trans hstr⟩,
    ⟨fun _ _ _ h => h, Nat.le_refl _, rfl, hs, fun c hc _ => hk c hc, fun i hi hn => ⟨rfl, hn⟩, fun i g L h => .inl h⟩⟩
  rw [hk c (by have := hM.n0le; omega)]
  exact hM.old c hc

/-- What a closed call comes to: nothing is handed in, what comes back leads nowhere, what is made is left. -/
def closedS (v : V) : List V → Mem → Option (V × Mem) := fun args m =>
  match args with
  | [] => some (v, m)
  | _ => none

/-- The variables as they lie: 'G' stands for them in every world where 'ok' holds; a world whose old blocks are as they were is one too. -/
structure Ground (P : Program) (G : List Obj) where
  j : J
  lie : ∀ {n0 : Nat} {w0 : World} {gs : List Nat} {j' : J} {m : Mem} {w : World}, MR P n0 w0 gs j' m w → G <+: m.objs → MR P w.heap.size w [] j ⟨G, 0⟩ w

theorem VR.flat_any {j j' : J} : ∀ {v : V} {v' : Value}, VR j v v' → v.flat = true → VR j' v v'
  | _, _, .bool b, _ => .bool b
  | _, _, .u8 b, _ => .u8 b
  | _, _, .int k n h, _ => .int k n h
  | _, _, .str s, _ => .str s
  | _, _, .nilp, _ => .nilp
  | _, _, .nils, _ => .nils
  | _, _, .emp a, _ => .emp a
  | _, _, .nilm, _ => .nilm
  | _, _, .nilf, _ => .nilf
  | _, _, .nili, _ => .nili
  | _, _, .any _, h => by simp [V.flat] at h
  | _, _, .ptr _, h => by simp [V.flat] at h
  | _, _, .slice _ _ _, h => by simp [V.flat] at h
  | _, _, .map _, h => by simp [V.flat] at h
  | _, _, .fn _ _, h => by simp [V.flat] at h
  | _, _, .yield _, h => by simp [V.flat] at h
  | _, _, .iface _, h => by simp [V.flat] at h
  | _, _, .agg _, h => by simp [V.flat] at h
  | _, _, .tuple _, h => by simp [V.flat] at h

/-- One function's fact. -/
def OneOk (P : Program) (f : FuncId) (S : List V → Mem → Option (V × Mem)) : Prop := ∀ args m v m', S args m = some (v, m') → Bodied P f ∧
    ∀ n0 w0 gs j w args', MR P n0 w0 gs j m w → VRs j args args' → Calls P f args'.toArray w fun e w' => ∃ j', OutR j' (.ret v) e ∧ MR P n0 w0 gs j' m' w' ∧ Grows j m w j' m' w'

theorem closed_one (hS : Sound P cfg) (hg : P.globals.size = 0) {k : Nat} {f : FuncId} {v : V} {m1 : Mem} (hv : v.flat = true) (h : icall P cfg k (.fn f) [] ⟨[], 0⟩ = some (.ret v, m1)) :
    OneOk P f (closedS v) := by
  obtain ⟨hb, hc⟩ := (hS.call k).calls f [] _ _ _ h
  intro args m v' m' hs
  unfold closedS at hs
  split at hs
  · cases hs
    refine ⟨hb, fun n0 w0 gs j w args' hM hA => ?_⟩
    cases hA
    refine (hc _ _ _ _ w [] (MR.none hg w) .nil).mono ?_
    rintro e w' ⟨j', hO, hM', -⟩
    obtain ⟨h1, h2⟩ := hM.frame (w' := w') hM'.n0le (fun c hc => hM'.old c hc) hM'.str
    cases e with
    | returned u => exact ⟨j, VR.flat_any (show VR j' v u from hO) hv, h1, h2⟩
    | panicked c => exact hO.elim
    | outgrown => exact hO.elim
  · cases hs
end

/-- Facts, by functions' numbers. -/
def sums (l : List (FuncId × (List V → Mem → Option (V × Mem)))) : FuncId → Option (List V → Mem → Option (V × Mem)) := fun f => (l.find? fun x => x.1 == f).map (·.2)
theorem sums_ok {P : Program} {cfg : Cfg} {l : List (FuncId × (List V → Mem → Option (V × Mem)))} (h : ∀ x ∈ l, OneOk P x.1 x.2) (hc : cfg.sum = sums l) : SumOk P cfg := by
  intro f S hS
  rw [hc] at hS
  unfold sums at hS
  obtain ⟨x, hx, rfl⟩ := Option.map_eq_some_iff.1 hS
  have h1 := List.find?_some hx
  have h2 := h x (List.mem_of_find?_eq_some hx)
  simp at h1
  rw [h1] at h2
  exact h2
theorem sums_none {P : Program} {cfg : Cfg} (hc : cfg.sum = fun _ => none) : SumOk P cfg := by
  intro f S hS
  rw [hc] at hS
  cases hS

/-- No body bears the name that the machine itself answers to: by a look at all functions. -/
theorem names_ok {P : Program} (h : (P.funcs.toList.all fun fn => fn.body.isNone || !(fn.name == "runtime.NumGoroutine")) = true) : NamesOk P := by
  intro f fn hf hb
  have := List.all_eq_true.1 h fn (by obtain ⟨h1, h2⟩ := Array.getElem?_eq_some_iff.1 hf; rw [← h2]; simp)
  rw [hb] at this
  simpa using this
theorem ran {P : Program} {cfg : Cfg} {k : Nat} {f : FuncId} {args : List V} {m : Mem} {o : Out} (h : (icall P cfg k (.fn f) args m).map (·.1) = some o) : ∃ m', icall P cfg k (.fn f) args m = some (o, m') := by
  obtain ⟨x, hx, rfl⟩ := Option.map_eq_some_iff.1 h
  exact ⟨x.2, hx⟩
/-- Library functions without a body: none, by a look. -/
theorem ext_none {P : Program} {cfg : Cfg} (h : cfg.ext = fun _ => none) : ExtOk P cfg := by
  intro f x hx
  rw [h] at hx
  cases hx
end Go.Ig
