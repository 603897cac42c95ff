/-
  One operation, told as the kit tells it.
-/
import Derived.Test.YtcnjllnnhcafbaaDoorIgOps
set_option linter.unusedVariables false
namespace Go.Ig
open Go

section
variable {P : Program} {cfg : Cfg} {C : CallT} {j : J} {w : World} {n0 : Nat} {w0 : World} {gs : List Nat} {m : Mem} {a : Act}

def OutR (j : J) : Out → Ending → Prop
  | .ret v, .returned v' => VR j v v'
  | .panic v, .panicked c => ∃ v', c = [{ v := v', recovered := false }] ∧ VR j v v'
  | _, _ => False

/-- The library's functions without a body are those that the evaluator takes them for. -/
def ExtOk (P : Program) (cfg : Cfg) : Prop := ∀ f x, cfg.ext f = some x → ∃ fn, P.funcs[f]? = some fn ∧ (fn.name == "runtime.NumGoroutine") = false ∧ fn.body.isNone = true ∧ Extern.findNext fn = none ∧ Extern.find fn = some (extRow x)
def Bodied (P : Program) (f : FuncId) : Prop := ∃ fn, P.funcs[f]? = some fn ∧ (fn.name == "runtime.NumGoroutine") = false ∧ fn.body.isNone = false
/-- A caller's word for what the evaluator's calls come to. -/
structure CallOk (P : Program) (C : CallT) : Prop where
  calls : ∀ f args m out m', C (.fn f) args m = some (out, m') → Bodied P f ∧
    ∀ n0 w0 gs j w args', MR P n0 w0 gs j m w → VRs j args args' → Calls P f args'.toArray w fun e w' => ∃ j', OutR j' out e ∧ MR P n0 w0 gs j' m' w' ∧ Grows j m w j' m' w'
  yields : ∀ l args m, C (.yield l) args m = none

theorem run_enter {f : FuncId} {args : Array Value} (h : Bodied P f) : (callFunc f args).run P w = .ok (.enter f args) w := by
  obtain ⟨fn, hf, hn, hb⟩ := h
  have hn' : fn.name ≠ "runtime.NumGoroutine" := by simpa using hn
  have hb' : fn.body ≠ none := by intro e; rw [e] at hb; cases hb
  simp [callFunc, hf, hn', hb']
theorem run_extern {f : FuncId} {args : Array Value} {x : Ext} (hX : ExtOk P cfg) (h : cfg.ext f = some x) : (callFunc f args).run P w = ((extRow x args).run P w).andThen fun v w => .ok (.value v) w := by
  obtain ⟨fn, hf, hn, hb, h1, h2⟩ := hX f x h
  have hn' : fn.name ≠ "runtime.NumGoroutine" := by simpa using hn
  have hb' : fn.body = none := by simpa using hb
  simp [callFunc, hf, hn', hb', h1, h2]

theorem opEff_R (hX : ExtOk P cfg) (hC : CallOk P C) {s : St} (hM : MR P n0 w0 gs j s.mem w) (hE : VRs j s.env a.tmps.toList) (o : Oper) {r : Res} (h : opEff P cfg C s o.op = some r)
    {next : Act → World → Prop} {Q : Exit → Act → World → Prop}
    (hok : ∀ v m' j' w' v', r = .ok v { s with mem := m' } → VR j' v v' → MR P n0 w0 gs j' m' w' → Grows j s.mem w j' m' w' → next (a.put o.dst v') w')
    (hpan : ∀ v m' j' w' v', r = .panic v { s with mem := m' } → VR j' v v' → MR P n0 w0 gs j' m' w' → Grows j s.mem w j' m' w' → Q (.panic [{ v := v', recovered := false }]) a w') : o.wp P a w next Q := by
  obtain ⟨dst, op, type, pos, after, guard⟩ := o
  simp only at h hok
  unfold opEff at h
  unfold Oper.wp
  split at h
  · rename_i t ad x
    obtain ⟨av, ha, h1⟩ := Option.bind_eq_some_iff.1 h; clear h
    obtain ⟨xv, hx, h2⟩ := Option.bind_eq_some_iff.1 h1; clear h1
    cases hst : storeV P s.mem t av xv with
    | none => rw [hst] at h2; cases h2
    | some m' =>
      rw [hst] at h2; cases h2
      obtain ⟨w', hrun, hM', hG⟩ := storeV_R hM (evO_R hM hE ha) (evO_R hM hE hx) hst
      simp only [execOp, Sem.run_bind, hrun, Result.andThen_ok, Sem.run_pure]
      exact hok _ m' j w' _ rfl .undef hM' hG
  · rename_i t x k v
    obtain ⟨xv, hx, h1⟩ := Option.bind_eq_some_iff.1 h; clear h
    obtain ⟨kv, hk, h2⟩ := Option.bind_eq_some_iff.1 h1; clear h1
    obtain ⟨vv, hv, h3⟩ := Option.bind_eq_some_iff.1 h2; clear h2
    cases hst : mapSetV P s.mem t xv kv vv with
    | none => rw [hst] at h3; cases h3
    | some m' =>
      rw [hst] at h3; cases h3
      obtain ⟨w', hrun, hM', hG⟩ := mapSet_R hM (evO_R hM hE hx) (evO_R hM hE hk) (evO_R hM hE hv) hst
      simp only [execOp, Sem.run_bind, hrun, Result.andThen_ok, Sem.run_pure]
      exact hok _ m' j w' _ rfl .undef hM' hG
  · rename_i t x k v
    obtain ⟨xv, hx, h1⟩ := Option.bind_eq_some_iff.1 h; clear h
    obtain ⟨kv, hk, h2⟩ := Option.bind_eq_some_iff.1 h1; clear h1
    obtain ⟨vv, hv, h3⟩ := Option.bind_eq_some_iff.1 h2; clear h2
    cases hst : mapSetV P s.mem t xv kv vv with
    | none => rw [hst] at h3; cases h3
    | some m' =>
      rw [hst] at h3; cases h3
      obtain ⟨w', hrun, hM', hG⟩ := mapSet_R hM (evO_R hM hE hx) (evO_R hM hE hk) (evO_R hM hE hv) hst
      simp only [execOp, Sem.run_bind, hrun, Result.andThen_ok, Sem.run_pure]
      exact hok _ m' j w' _ rfl .undef hM' hG
  · rename_i c
    obtain ⟨args, hargs, h1⟩ := Option.bind_eq_some_iff.1 h; clear h
    have hA := evOs_R hM hE hargs
    have hmap : c.args.map a.eval = (c.args.toList.map a.eval).toArray := by apply Array.ext'; simp
    generalize c.args.toList.map a.eval = args' at hA hmap
    split at h1
    · rename_i b hb
      cases hbv : builtinV P b c.argTypes args s.mem with
      | none => rw [hbv] at h1; cases h1
      | some q =>
        rw [hbv] at h1; cases h1
        obtain ⟨v', w', j', hrun, hv, hM', hG⟩ := builtin_R (ty := type) (cs := c.args.map fun | .const _ => true | _ => false) hM hA hbv
        have : (execOp a.eval { dst := dst, op := .call c, type := type, pos := pos, after := after, guard := guard }).run P w = .ok (.value v') w' := by
          simp only [execOp, resolve, hb, hmap, Sem.run_bind, Sem.run_pure, Result.andThen_ok, invoke]
          exact hrun
        rw [this]
        exact hok _ _ j' w' v' rfl hv hM' hG
    · rename_i fo hb
      obtain ⟨fv, hf, h2⟩ := Option.bind_eq_some_iff.1 h1; clear h1
      have hfr := evO_R hM hE hf
      split at h2
      · rename_i f first cap
        generalize hfe : a.eval fo = fv' at hfr
        cases hfr with | fn h1r h2r => ?_
        rename_i first' cap'
        have hexec : (execOp a.eval { dst := dst, op := .call c, type := type, pos := pos, after := after, guard := guard }).run P w = (callFunc f (first' ++ args' ++ cap').toArray).run P w := by
          have e : (({ toList := first' } : Array Value) ++ args'.toArray) ++ ({ toList := cap' } : Array Value) = (first' ++ args' ++ cap').toArray := by
            apply Array.ext'; simp
          simp only [execOp, resolve, hb, hmap, hfe, Deferred.ofValue, Sem.run_bind, Sem.run_pure, Result.andThen_ok, invoke, e]
        rw [hexec]
        have hall := (h1r.append hA).append h2r
        split at h2
        · rename_i x hx
          cases hxv : extV x (first ++ args ++ cap) s.mem with
          | none => rw [hxv] at h2; cases h2
          | some q =>
            rw [hxv] at h2; cases h2
            obtain ⟨v', w', j', hrun, hv, hM', hG⟩ := ext_R hM hall hxv
            rw [run_extern hX hx, hrun]
            exact hok _ _ j' w' v' rfl hv hM' hG
        · rename_i hx
          split at h2
          · rename_i v m' hc
            cases h2
            obtain ⟨hbod, hcalls⟩ := hC.calls _ _ _ _ _ hc
            rw [run_enter hbod, Oper.upon_enter]
            refine (hcalls n0 w0 gs j w _ hM hall).mono ?_
            rintro e w' ⟨j', hO, hM', hG⟩
            cases e with
            | returned v' => exact hok _ m' j' w' v' rfl hO hM' hG
            | panicked ch => exact hO.elim
            | outgrown => exact hO.elim
          · rename_i v m' hc
            cases h2
            obtain ⟨hbod, hcalls⟩ := hC.calls _ _ _ _ _ hc
            rw [run_enter hbod, Oper.upon_enter]
            refine (hcalls n0 w0 gs j w _ hM hall).mono ?_
            rintro e w' ⟨j', hO, hM', hG⟩
            cases e with
            | returned v' => exact hO.elim
            | panicked ch =>
              obtain ⟨v', rfl, hv⟩ := hO
              exact hpan _ m' j' w' v' rfl hv hM' hG
            | outgrown => exact hO.elim
          · cases h2
      · rw [hC.yields] at h2; cases h2
      · cases h2
    · cases h1
  · rename_i x
    obtain ⟨xv, hx, h1⟩ := Option.bind_eq_some_iff.1 h; clear h
    have hxr := evO_R hM hE hx
    split at h1
    · rename_i t v
      cases h1
      generalize hxe : a.eval x = x' at hxr
      cases hxr with | iface hv => ?_
      rename_i v'
      have : (execOp a.eval { dst := dst, op := .panic x, type := type, pos := pos, after := after, guard := guard }).run P w = .halt (.panic (.iface t v')) w := by
        simp [execOp, hxe, Instr.panic, goPanic]
      rw [this]
      exact hpan _ s.mem j w _ rfl (.iface hv) hM (.refl _ _ _)
    · cases h1
  · cases h
end
end Go.Ig
