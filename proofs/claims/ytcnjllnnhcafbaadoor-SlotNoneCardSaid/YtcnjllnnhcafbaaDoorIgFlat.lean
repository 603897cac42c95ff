/-
  Calls whose arguments lead nowhere, where the table lies ahead.
-/
import Derived.Test.YtcnjllnnhcafbaaDoorIgDoor
set_option linter.unusedVariables false
namespace Go.Ig
open Go

/-- A value that leads nowhere, or a struct of such. -/
def V.flatA : V → Bool
  | .agg l => l.all V.flat
  | v => v.flat
theorem VRs.flat_any {j j' : J} : ∀ {vs : List V} {vs' : List Value}, VRs j vs vs' → vs.all V.flat = true → VRs j' vs vs'
  | _, _, .nil, _ => .nil
  | _, _, .cons h r, ha => by
    rw [List.all_cons, Bool.and_eq_true] at ha
    exact .cons (h.flat_any ha.1) (VRs.flat_any r ha.2)
theorem VR.flatA_any {j j' : J} {v : V} {v' : Value} (h : VR j v v') (ha : v.flatA = true) : VR j' v v' := by
  cases v with
  | agg l =>
    cases h with
    | agg h => exact .agg (h.flat_any ha)
  | _ => exact h.flat_any ha
theorem VRs.flatA_any {j j' : J} : ∀ {vs : List V} {vs' : List Value}, VRs j vs vs' → vs.all V.flatA = true → VRs j' vs vs'
  | _, _, .nil, _ => .nil
  | _, _, .cons h r, ha => by
    rw [List.all_cons, Bool.and_eq_true] at ha
    exact .cons (h.flatA_any ha.1) (VRs.flatA_any r ha.2)

/-- What a call comes to by its arguments alone, where the table lies ahead. -/
def flatT (tab : List V) (S : List V → Option V) : List V → Mem → Option (V × Mem) := fun args m =>
  match (m.objs[0]? : Option Obj) with
  | some (.row l .ro) => if V.sames l tab = true ∧ args.all V.flatA = true then (S args).map fun v => (v, m) else none
  | _ => none
theorem flat_table {P : Program} {cfg : Cfg} (hS : Sound P cfg) (hg : P.globals.size = 1) {tab : List V} (hflat : tab.all V.flat = true) {f : FuncId} {S : List V → Option V} (hb : Bodied P f)
    (h : ∀ args v, args.all V.flatA = true → S args = some v → v.flat = true ∧ ∃ k m1, icall P cfg k (.fn f) args ⟨[.row tab .ro], 0⟩ = some (.ret v, m1)) :
    OneOk P f (flatT tab S) := by
  intro args m v' m' hs
  unfold flatT at hs
  split at hs
  · rename_i l h0
    split at hs
    · rename_i hl
      obtain ⟨v, hv, he⟩ := Option.map_eq_some_iff.1 hs
      cases he
      obtain ⟨hl, ha⟩ := hl
      have hl := V.sames_eq _ _ hl
      subst hl
      refine ⟨hb, fun n0 w0 gs j w args' hM hA => ?_⟩
      obtain ⟨hvf, k, m1, hr⟩ := h args _ ha hv
      obtain ⟨-, hc⟩ := (hS.call k).calls f args _ _ _ hr
      have hj := hM.glob 0 (by omega)
      obtain ⟨hcell, -⟩ := hM.objs 0 _ _ h0 hj
      refine (hc _ _ _ _ w _ (MR.table hg (hM.dom _ _ _ hj).2 (fun i u hi => ?_)) (hA.flatA_any ha)).mono ?_
      · obtain ⟨u', h1, h2⟩ := hcell i u hi
        exact ⟨u', by simpa using h1, h2.flat_any (List.all_eq_true.1 hflat u (List.mem_of_getElem? hi))⟩
      · rintro e w' ⟨j', hO, hM', -⟩
        obtain ⟨h1, h2⟩ := hM.frame (w' := w') hM'.n0le (fun c hc => hM'.old c hc) hM'.str
        cases e with
        | returned u => exact ⟨j, VR.flat_any (show VR j' _ u from hO) hvf, h1, h2⟩
        | panicked c => exact hO.elim
        | outgrown => exact hO.elim
    · cases hs
  · cases hs
theorem flatT_at {tab : List V} (ht : V.sames tab tab = true) {S : List V → Option V} {args : List V} {v : V} (hs : S args = some v) (ha : args.all V.flatA = true) {m : Mem} (h : [Obj.row tab .ro] <+: m.objs) : flatT tab S args m = some (v, m) := by
  obtain ⟨r, hr⟩ := h
  unfold flatT
  rw [← hr]
  simp [ht, ha, hs]
end Go.Ig
