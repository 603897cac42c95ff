/-
  Calls: the evaluator's answer is what the model's call comes to.
-/
import Derived.Test.YtcnjllnnhcafbaaDoorIgGc
set_option linter.unusedVariables false
namespace Go.Ig
open Go

section
variable {P : Program} {cfg : Cfg} {C : CallT} {j : J} {w : World} {n0 : Nat} {w0 : World} {gs : List Nat} {m : Mem} {a : Act} {j0 : J} {m0 : Mem} {ws : World} {N : Nat}

/-- What is told of functions elsewhere holds. -/
def SumOk (P : Program) (cfg : Cfg) : Prop := ∀ f S, cfg.sum f = some S → ∀ args m v m', S args m = some (v, m') → Bodied P f ∧
    ∀ n0 w0 gs j w args', MR P n0 w0 gs j m w → VRs j args args' → Calls P f args'.toArray w fun e w' => ∃ j', OutR j' (.ret v) e ∧ MR P n0 w0 gs j' m' w' ∧ Grows j m w j' m' w'
/-- No function with a body has the name that the machine itself answers to. -/
def NamesOk (P : Program) : Prop := ∀ (f : FuncId) (fn : Func), P.funcs[f]? = some fn → fn.body.isNone = false → (fn.name == "runtime.NumGoroutine") = false

theorem asAddr_ptr {L : Loc} {o : Nat} : (asAddr (.pointer (some ⟨L.c, L.s + o, none⟩))).run P w = .ok ⟨L.c, L.s + o, none⟩ w := rfl

def readR (tmps : Array Value) : ResultVar → Sem Value
  | .tmp t => pure (tmps.getD t undef)
  | .cell a t => do loadVar t (← asAddr (tmps.getD a undef))

theorem getD_some {tmps : Array Value} {env : List V} {t : Nat} {v : V} (hE : VRs j env tmps.toList) (h : env[t]? = some v) : ∃ v', tmps.getD t undef = v' ∧ VR j v v' := by
  obtain ⟨v', hv', hr⟩ := hE.get h
  refine ⟨v', ?_, hr⟩
  have : tmps[t]? = some v' := by simpa using hv'
  simp [Array.getD_eq_getD_getElem?, this]

theorem results_R (hM : MR P n0 w0 gs j m w) {tmps : Array Value} {s : St} (hm : s.mem = m) (hE : VRs j s.env tmps.toList) {β : Type} {r : β} : ∀ (l : List ResultVar) (K : List V → Option β), results P s l K = some r →
    ∃ vs vs', K vs = some r ∧ VRs j vs vs' ∧ (l.mapM (readR tmps)).run P w = .ok vs' w
  | [], K, h => ⟨[], [], h, .nil, rfl⟩
  | .tmp t :: l, K, h => by
    simp only [results] at h
    cases hv : s.env[t]? with
    | none => rw [hv] at h; cases h
    | some v =>
      rw [hv, Option.bind_some] at h
      obtain ⟨vs, vs', h1, h2, h3⟩ := results_R hM hm hE l _ h
      obtain ⟨v', hg, hr⟩ := getD_some hE hv
      refine ⟨v :: vs, v' :: vs', h1, .cons hr h2, ?_⟩
      simp only [List.mapM_cons, Sem.run_bind, readR, Sem.run_pure, hg, Result.andThen_ok, h3]
  | .cell ad t :: l, K, h => by
    simp only [results] at h
    cases hv : s.env[ad]? with
    | none => rw [hv] at h; cases h
    | some av =>
      rw [hv, Option.bind_some] at h
      cases hl : loadV P s.mem t av with
      | none => rw [hl] at h; cases h
      | some v =>
        rw [hl, Option.bind_some] at h
        obtain ⟨vs, vs', h1, h2, h3⟩ := results_R hM hm hE l _ h
        obtain ⟨av', hg, hr⟩ := getD_some hE hv
        rw [hm] at hl
        obtain ⟨v', hload, hvr⟩ := load_R hM hr hl
        refine ⟨v :: vs, v' :: vs', h1, .cons hvr h2, ?_⟩
        have hread : (readR tmps (.cell ad t)).run P w = .ok v' w := by
          cases hr <;> simp only [loadV] at hl <;> try cases hl
          simp only [readR, hg, Sem.run_bind, asAddr, Sem.run_pure, Result.andThen_ok]
          simpa only [Instr.loadAt, Instr.sureAddr, Sem.run_bind, Sem.run_pure, Result.andThen_ok] using hload
        simp only [List.mapM_cons, Sem.run_bind, hread, Sem.run_pure, Result.andThen_ok, h3]

theorem pack_R {vs : List V} {vs' : List Value} (h : VRs j vs vs') : VR j (packV vs) (if h : vs'.toArray.size = 1 then vs'.toArray[0] else .tuple vs'.toArray) := by
  cases h with
  | nil => exact .tuple .nil
  | cons h hr =>
    cases hr with
    | nil => exact h
    | cons h2 hr2 => exact .tuple (.cons h (.cons h2 hr2))

theorem results_run {fn : Func} {tmps : Array Value} {vs' : List Value} (h : (fn.results.toList.mapM (readR tmps)).run P w = .ok vs' w) :
    (Go.results fn tmps).run P w = .ok (if h : vs'.toArray.size = 1 then vs'.toArray[0] else .tuple vs'.toArray) w := by
  have : (fn.results.mapM (readR tmps)).run P w = .ok vs'.toArray w := by
    rw [Array.mapM_eq_mapM_toList]
    simp only [map_eq_pure_bind, Sem.run_bind, h, Result.andThen_ok, Sem.run_pure]
  have e : Go.results fn tmps = (do
      let vs ← fn.results.mapM (readR tmps)
      pure (if h : vs.size = 1 then vs[0] else .tuple vs)) := by
    unfold Go.results
    congr 1
  rw [e]
  simp only [Sem.run_bind, this, Result.andThen_ok, Sem.run_pure]

theorem icall_R (hmix : P.follows .mixedOrders = true) (hX : ExtOk P cfg) (hH : HookOk P cfg) (hS : SumOk P cfg) (hN : NamesOk P) : ∀ n, CallOk P (icall P cfg n)
  | 0 => ⟨fun f args m out m' h => by simp [icall] at h, fun l args m => rfl⟩
  | n + 1 => by
    have ih := icall_R hmix hX hH hS hN n
    refine ⟨fun f args m out m' h => ?_, fun l args m => rfl⟩
    simp only [icall] at h
    split at h
    · rename_i S hs
      cases hv : S args m with
      | none => rw [hv] at h; cases h
      | some q =>
        rw [hv] at h
        simp only [Option.map_some, Option.some.injEq, Prod.mk.injEq] at h
        obtain ⟨rfl, rfl⟩ := h
        exact hS f S hs args m q.1 q.2 hv
    · rename_i hs
      split at h
      · rename_i fn hf
        split at h
        · rename_i c hb
          have hbod : Bodied P f := ⟨fn, hf, hN f fn hf (by rw [hb]; rfl), by rw [hb]; rfl⟩
          refine ⟨hbod, ?_⟩
          intro n0 w0 gs j w args' hM hA
          have hal := hA.len
          -- the frame's beginning
          have henv : VRs j (args ++ List.replicate (fn.ntmps - args.length) V.undef) (args'.toArray ++ Array.replicate (fn.ntmps - args'.toArray.size) undef).toList := by
            have : (args'.toArray ++ Array.replicate (fn.ntmps - args'.toArray.size) undef).toList = args' ++ List.replicate (fn.ntmps - args.length) undef := by simp [hal]
            rw [this]
            exact hA.append (VRs.replicate .undef _)
          refine calls_of_wp hf hb ?_
          have fin : ∀ (gs2 : List Nat) (m1 : Mem) (hM1 : MR P n0 w0 gs2 j m1 w) (hst : startSt fn (cfg.gc f) args m = { env := args ++ List.replicate (fn.ntmps - args.length) V.undef, ds := [], mem := m1 })
              (hret : ∀ v m2, retV (cfg.gc f) m v m2 = some (out, m') → ∀ j' w' v', MR P n0 w0 gs2 j' m2 w' → Grows j m1 w j' m2 w' → VR j' v v' → ∃ j2, OutR j2 out (.returned v') ∧ MR P n0 w0 gs j2 m' w' ∧ Grows j m w j2 m' w'),
              c.wp P (bodyPost P fn fun e w' => ∃ j', OutR j' out e ∧ MR P n0 w0 gs j' m' w' ∧ Grows j m w j' m' w') { tmps := args'.toArray ++ Array.replicate (fn.ntmps - args'.toArray.size) undef, defers := [] } w := by
            intro gs2 m1 hM1 hst hret
            rw [hst] at h
            have hSR : SR P n0 w0 gs2 j m1 w (args ++ List.replicate (fn.ntmps - args.length) V.undef).length j { env := args ++ List.replicate (fn.ntmps - args.length) V.undef, ds := [], mem := m1 } { tmps := args'.toArray ++ Array.replicate (fn.ntmps - args'.toArray.size) undef, defers := [] } w :=
              ⟨hM1, henv, rfl, rfl, .refl _ _ _, rfl⟩
            have key : ∀ s2, finish P fn (cfg.gc f) m s2 = some (out, m') → ∀ j' a' w', SR P n0 w0 gs2 j m1 w (args ++ List.replicate (fn.ntmps - args.length) V.undef).length j' s2 a' w' →
                a'.defers = [] ∧ ∃ v, (Go.results fn a'.tmps).run P w' = .ok v w' ∧ ∃ j', OutR j' out (.returned v) ∧ MR P n0 w0 gs j' m' w' ∧ Grows j m w j' m' w' := by
              intro s2 hfin j' a' w' hS'
              refine ⟨hS'.defers, ?_⟩
              unfold finish at hfin
              rw [hS'.ds] at hfin
              simp only at hfin
              obtain ⟨vs, vs', hK, hvr, hrun⟩ := results_R hS'.mem rfl hS'.env _ _ hfin
              exact ⟨_, results_run hrun, hret _ _ hK j' w' _ hS'.mem hS'.grow (pack_R hvr)⟩
            cases hev : iev P cfg (icall P cfg n) n f c { env := args ++ List.replicate (fn.ntmps - args.length) V.undef, ds := [], mem := m1 } with
            | none => rw [hev] at h; cases h
            | some q =>
              obtain ⟨ex, s2⟩ := q
              rw [hev] at h
              refine iev_R hmix hX hH ih c (fun b hb' _ => ⟨fn, c, hf, hb, hb'⟩) _ j _ w _ _ hev hSR ?_
              intro j' e a' w' hE hS'
              cases ex with
              | normal =>
                cases e <;> first | exact hE.elim | skip
                exact key s2 h j' a' w' hS'
              | ret =>
                cases e <;> first | exact hE.elim | skip
                exact key s2 h j' a' w' hS'
              | exit i => cases h
              | panic v => cases h
          cases hgc : cfg.gc f with
          | true =>
            refine fin (m.objs.length :: gs) { m with guard := m.objs.length } hM.guarded (by simp [startSt, hgc]) ?_
            intro v m2 hret j' w' v' hM2 hG hv
            rw [hgc] at hret
            simp only [retV, if_true] at hret
            cases hg : gcRet m v m2 with
            | none => rw [hg] at hret; cases hret
            | some q =>
              rw [hg] at hret
              simp only [Option.map_some, Option.some.injEq, Prod.mk.injEq] at hret
              obtain ⟨rfl, rfl⟩ := hret
              obtain ⟨j2, h1, h2, h3⟩ := gcRet_R hM hM2 hG hv hg
              exact ⟨j2, h1, h2, h3⟩
          | false =>
            refine fin gs m hM (by simp [startSt, hgc]) ?_
            intro v m2 hret j' w' v' hM2 hG hv
            rw [hgc] at hret
            simp only [retV, Bool.false_eq_true, if_false, Option.some.injEq, Prod.mk.injEq] at hret
            obtain ⟨rfl, rfl⟩ := hret
            exact ⟨j', hv, hM2, hG⟩
        · cases h
      · cases h

/-- All that the evaluator leans on. -/
structure Sound (P : Program) (cfg : Cfg) : Prop where
  mix : P.follows .mixedOrders = true
  ext : ExtOk P cfg
  hook : HookOk P cfg
  sum : SumOk P cfg
  names : NamesOk P
theorem Sound.call {P : Program} {cfg : Cfg} (h : Sound P cfg) (n : Nat) : CallOk P (icall P cfg n) := icall_R h.mix h.ext h.hook h.sum h.names n
end
end Go.Ig
