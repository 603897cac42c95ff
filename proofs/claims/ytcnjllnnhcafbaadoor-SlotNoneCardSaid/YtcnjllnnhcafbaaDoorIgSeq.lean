/-
  Regions that are gone through in the text's order.
-/
import Derived.Test.YtcnjllnnhcafbaaDoorIgRun
import Derived.Tactics
set_option linter.unusedVariables false
namespace Go.Ig
open Go

section
variable {P : Program} {cfg : Cfg} {C : CallT} {j : J} {w : World} {n0 : Nat} {w0 : World} {gs : List Nat} {m : Mem} {a : Act}

def ExR (j : J) : Ex → Exit → Prop
  | .normal, .normal => True
  | .exit i, .exit k => i = k
  | .ret, .ret => True
  | .panic v, .panic c => ∃ v', c = [{ v := v', recovered := false }] ∧ VR j v v'
  | _, _ => False

/-- The evaluator's state stands for the model's, grown out of an earlier one. -/
structure SR (P : Program) (n0 : Nat) (w0 : World) (gs : List Nat) (j0 : J) (m0 : Mem) (ws : World) (N : Nat) (j : J) (s : St) (a : Act) (w : World) : Prop where
  mem : MR P n0 w0 gs j s.mem w
  env : VRs j s.env a.tmps.toList
  ds : s.ds = []
  defers : a.defers = []
  grow : Grows j0 m0 ws j s.mem w
  len : s.env.length = N

variable {j0 : J} {m0 : Mem} {ws : World} {N : Nat}

theorem iop_R (hX : ExtOk P cfg) (hC : CallOk P C) {s : St} (hM : MR P n0 w0 gs j s.mem w) (hE : VRs j s.env a.tmps.toList) (o : Oper) {r : Res} (h : iop P cfg C s o.op = some r)
    {next : Act → World → Prop} {Q : Exit → Act → World → Prop}
    (hok : ∀ v m' j' w' v', r = .ok v { s with mem := m' } → VR j' v v' → MR P n0 w0 gs j' m' w' → Grows j s.mem w j' m' w' → next (a.put o.dst v') w')
    (hpan : ∀ v m' j' w' v', r = .panic v { s with mem := m' } → VR j' v v' → MR P n0 w0 gs j' m' w' → Grows j s.mem w j' m' w' → Q (.panic [{ v := v', recovered := false }]) a w') : o.wp P a w next Q := by
  unfold iop at h
  split at h
  · rename_i hk
    cases hp : opPure P s.env s.mem o.op with
    | none => rw [hp] at h; cases h
    | some v =>
      rw [hp] at h; cases h
      obtain ⟨v', hrun, hv⟩ := opPure_R hM hE o hp
      unfold Oper.wp
      rw [hrun]
      exact hok v s.mem j w v' rfl hv hM (.refl _ _ _)
  · rename_i hk
    cases hp : opNew P s.env s.mem o.op with
    | none => rw [hp] at h; cases h
    | some q =>
      rw [hp] at h; cases h
      obtain ⟨v', w', j', hrun, hv, hM', hG⟩ := opNew_R hM hE o hp hk
      unfold Oper.wp
      rw [hrun]
      exact hok _ _ j' w' v' rfl hv hM' hG
  · exact opEff_R hX hC hM hE o h hok hpan

theorem env_put {env : List V} {tmps : Array Value} {v : V} {v' : Value} (h : VRs j env tmps.toList) (hv : VR j v v') (d : Tmp) : VRs j (env.set d v) (tmps.setIfInBounds d v').toList := by
  rw [Array.toList_setIfInBounds]
  exact h.set hv d
theorem SR.put {s : St} (h : SR P n0 w0 gs j0 m0 ws N j s a w) {v : V} {v' : Value} {m' : Mem} {j' : J} {w' : World} (hv : VR j' v v') (hM : MR P n0 w0 gs j' m' w') (hG : Grows j s.mem w j' m' w') (d : Option Tmp) :
    SR P n0 w0 gs j0 m0 ws N j' (({ s with mem := m' } : St).put d v) (a.put d v') w' := by
  cases d with
  | none => exact ⟨hM, h.env.mono hG.ext, h.ds, h.defers, h.grow.trans hG, by simpa [St.put] using h.len⟩
  | some d => exact ⟨hM, env_put (h.env.mono hG.ext) hv d, h.ds, h.defers, h.grow.trans hG, by simpa [St.put] using h.len⟩
theorem SR.put0 {s : St} (h : SR P n0 w0 gs j0 m0 ws N j s a w) {v : V} {v' : Value} (hv : VR j v v') (d : Option Tmp) : SR P n0 w0 gs j0 m0 ws N j (s.put d v) (a.put d v') w := by
  cases d with
  | none => exact h
  | some d => exact ⟨h.mem, env_put h.env hv d, h.ds, h.defers, h.grow, by simpa [St.put] using h.len⟩

theorem yielded_bool {ops : Array Oper} {env : List V} (hE : VRs j env a.tmps.toList) {g : Nat} {d : Tmp} {b : Bool} (hs : slotOf ops g = some d) (hv : env[d]? = some (.bool b)) : yielded ops a.tmps g = some b := by
  obtain ⟨v', hv', hr⟩ := hE.get hv
  cases hr
  unfold slotOf at hs
  unfold yielded
  rw [hs, Option.bind_some]
  have : a.tmps[d]? = some (.bool b) := by simpa using hv'
  rw [this]
theorem yielded_undef {ops : Array Oper} {env : List V} (hE : VRs j env a.tmps.toList) {g : Nat} {d : Tmp} (hs : slotOf ops g = some d) (hv : env[d]? = some (.tuple [])) : yielded ops a.tmps g = none := by
  obtain ⟨v', hv', hr⟩ := hE.get hv
  cases hr with | tuple hr => ?_
  cases hr
  unfold slotOf at hs
  unfold yielded
  rw [hs, Option.bind_some]
  have : a.tmps[d]? = some (.tuple #[]) := by simpa using hv'
  rw [this]

/-- How a group's guard stands. -/
def Guarded (ops : Array Oper) (g : Option (Nat × Bool)) (env : List V) (os : List Oper) : Prop :=
  match g with
  | none => True
  | some (gj, want) => ∃ d, slotOf ops gj = some d ∧ env[d]? = some (.bool want) ∧ ∀ o ∈ os, o.dst ≠ some d
/-- .. or falls. -/
def Fallen (ops : Array Oper) (g : Option (Nat × Bool)) (env : List V) (os : List Oper) : Prop :=
  match g with
  | none => False
  | some (gj, want) => ∃ d, slotOf ops gj = some d ∧ (env[d]? = some (.bool !want) ∨ env[d]? = some (.tuple [])) ∧ ∀ o ∈ os, o.dst ≠ some d

theorem Guarded.wanted {ops : Array Oper} {g : Option (Nat × Bool)} {env : List V} {os : List Oper} {o : Oper} (h : Guarded ops g env os) (hE : VRs j env a.tmps.toList) (ho : o.guard = g) : Region.wanted o (yielded ops a.tmps) = true := by
  unfold Region.wanted
  rw [ho]
  match g with
  | none => rfl
  | some (gj, want) =>
    obtain ⟨d, hs, hv, -⟩ := h
    simp [yielded_bool hE hs hv]
theorem Fallen.unwanted {ops : Array Oper} {g : Option (Nat × Bool)} {env : List V} {os : List Oper} {o : Oper} (h : Fallen ops g env os) (hE : VRs j env a.tmps.toList) (ho : o.guard = g) : ¬ Region.wanted o (yielded ops a.tmps) = true := by
  unfold Region.wanted
  rw [ho]
  match g with
  | none => exact h.elim
  | some (gj, want) =>
    obtain ⟨d, hs, hv | hv, -⟩ := h
    · simp only [yielded_bool hE hs hv]
      cases want <;> decide
    · simp [yielded_undef hE hs hv]
theorem set_keeps {env : List V} {d : Tmp} {x : V} (hv : env[d]? = some x) {o : Option Tmp} (hd : o ≠ some d) {v : V} {m : Mem} {ds : List Df} : (({ env := env, ds := ds, mem := m } : St).put o v).env[d]? = some x := by
  cases o with
  | none => exact hv
  | some e =>
    have : e ≠ d := fun h => hd (by rw [h])
    simp only [St.put]
    rw [List.getElem?_set_ne this]
    exact hv
theorem Guarded.put {ops : Array Oper} {g : Option (Nat × Bool)} {s : St} {o : Oper} {os : List Oper} (h : Guarded ops g s.env (o :: os)) (v : V) (m : Mem) : Guarded ops g (({ s with mem := m } : St).put o.dst v).env os := by
  match g with
  | none => trivial
  | some (gj, want) =>
    obtain ⟨d, hs, hv, hd⟩ := h
    exact ⟨d, hs, set_keeps hv (hd o (by simp)), fun o' ho' => hd o' (by simp [ho'])⟩
theorem Fallen.put {ops : Array Oper} {g : Option (Nat × Bool)} {s : St} {o : Oper} {os : List Oper} (h : Fallen ops g s.env (o :: os)) (v : V) : Fallen ops g (s.put o.dst v).env os := by
  match g with
  | none => exact h.elim
  | some (gj, want) =>
    obtain ⟨d, hs, hv, hd⟩ := h
    refine ⟨d, hs, ?_, fun o' ho' => hd o' (by simp [ho'])⟩
    rcases hv with hv | hv
    · exact .inl (set_keeps (m := s.mem) (ds := s.ds) hv (hd o (by simp)))
    · exact .inr (set_keeps (m := s.mem) (ds := s.ds) hv (hd o (by simp)))

theorem irun_R (hX : ExtOk P cfg) (hC : CallOk P C) {ops : Array Oper} {Q : Exit → Act → World → Prop} {rest : List Oper} {g : Option (Nat × Bool)} {r : Ex × St} :
    ∀ (os : List Oper) (s : St) (j : J) (a : Act) (w : World), (∀ o ∈ os, o.guard = g) → Guarded ops g s.env os → irun P cfg C os s = some r → SR P n0 w0 gs j0 m0 ws N j s a w →
    (∀ s', r = (.normal, s') → ∀ j' a' w', SR P n0 w0 gs j0 m0 ws N j' s' a' w' → wpList P ops Q rest a' w') →
    (∀ v s', r = (.panic v, s') → ∀ j' v' a' w', VR j' v v' → SR P n0 w0 gs j0 m0 ws N j' s' a' w' → Q (.panic [{ v := v', recovered := false }]) a' w') → wpList P ops Q (os ++ rest) a w
  | [], s, j, a, w, _, _, h, hS, hn, _ => by
    simp only [irun] at h
    cases h
    exact hn s rfl j a w hS
  | o :: os, s, j, a, w, hgs, hG, h, hS, hn, hp => by
    simp only [irun] at h
    have hw := hG.wanted hS.env (hgs o (by simp))
    show wpList P ops Q (o :: (os ++ rest)) a w
    unfold wpList
    rw [if_pos hw]
    left
    cases hi : iop P cfg C s o.op with
    | none => rw [hi] at h; cases h
    | some q =>
      refine iop_R hX hC hS.mem hS.env o hi ?_ ?_
      · intro v m' j' w' v' hq hv hM hGr
        subst hq
        rw [hi] at h
        simp only at h
        exact irun_R hX hC os _ j' _ w' (fun o' ho' => hgs o' (by simp [ho'])) (hG.put v m') h (hS.put hv hM hGr _) hn hp
      · intro v m' j' w' v' hq hv hM hGr
        subst hq
        rw [hi] at h
        simp only at h
        cases h
        exact hp v _ rfl j' v' a w' hv ⟨hM, hS.env.mono hGr.ext, hS.ds, hS.defers, hS.grow.trans hGr, hS.len⟩

theorem undefs_R {ops : Array Oper} {Q : Exit → Act → World → Prop} {rest : List Oper} {g : Option (Nat × Bool)} :
    ∀ (os : List Oper) (s : St) (j : J) (a : Act) (w : World), (∀ o ∈ os, o.guard = g) → Fallen ops g s.env os → SR P n0 w0 gs j0 m0 ws N j s a w →
    (∀ j' a' w', SR P n0 w0 gs j0 m0 ws N j' (undefs os s) a' w' → wpList P ops Q rest a' w') → wpList P ops Q (os ++ rest) a w
  | [], s, j, a, w, _, _, hS, hn => hn j a w hS
  | o :: os, s, j, a, w, hgs, hG, hS, hn => by
    have hw := hG.unwanted hS.env (hgs o (by simp))
    show wpList P ops Q (o :: (os ++ rest)) a w
    unfold wpList
    rw [if_neg hw]
    exact undefs_R os _ j _ w (fun o' ho' => hgs o' (by simp [ho'])) (hG.put V.undef) (hS.put0 .undef _) hn

theorem set_same {env : List V} {d : Tmp} {v : V} (h : env[d]? = some v) : env.set d v = env := by
  apply List.ext_getElem?
  intro k
  by_cases e : d = k
  · subst e
    have := (List.getElem?_eq_some_iff.1 h).1
    rw [List.getElem?_set_self this, h]
  · rw [List.getElem?_set_ne e]

/-- The three ways at a guard. -/
theorem gate_cases {β : Type} {own : Bool} {v : V} {want : Bool} {x y z : Option β} {r : β} (h : gate own v want x y z = some r) :
    (v = .bool want ∧ x = some r) ∨ (v = .bool !want ∧ y = some r) ∨ (v = .tuple [] ∧ z = some r) := by
  unfold gate at h
  split at h
  · unfold gate3 at h
    split at h
    · rename_i t
      split at h
      · rename_i e; subst e; exact .inl ⟨rfl, h⟩
      · rename_i e
        right; left
        refine ⟨?_, h⟩
        cases t <;> cases want <;> simp_all
    · exact .inr (.inr ⟨rfl, h⟩)
    · cases h
  · unfold gate2 at h
    split at h
    · rename_i t
      split at h
      · rename_i e; subst e; exact .inl ⟨rfl, h⟩
      · rename_i e
        right; left
        refine ⟨?_, h⟩
        cases t <;> cases want <;> simp_all
    · cases h

theorem guardOf_spec {ops : Array Oper} {g : Nat} {os : List Oper} {d : Tmp} {own : Bool} (h : guardOf ops g os = some (d, own)) : slotOf ops g = some d ∧ ∀ o ∈ os, o.dst ≠ some d := by
  unfold guardOf at h
  split at h
  · rename_i d' hs
    split at h
    · rename_i hall
      cases h
      refine ⟨hs, fun o ho => ?_⟩
      have := List.all_eq_true.1 hall o ho
      simpa using this
    · cases h
  · cases h

theorem iops_R (hX : ExtOk P cfg) (hC : CallOk P C) {ops : Array Oper} {Q : Exit → Act → World → Prop} {r : Ex × St} :
    ∀ (grs : List (Option (Nat × Bool) × List Oper)) (s : St) (j : J) (a : Act) (w : World), (∀ q ∈ grs, ∀ o ∈ q.2, o.guard = q.1) → iops P cfg C ops grs s = some r → SR P n0 w0 gs j0 m0 ws N j s a w →
    (∀ j' e a' w', ExR j' r.1 e → SR P n0 w0 gs j0 m0 ws N j' r.2 a' w' → Q e a' w') → wpList P ops Q (grs.flatMap (·.2)) a w
  | [], s, j, a, w, _, h, hS, hn => by
    simp only [iops] at h
    cases h
    exact hn j .normal a w trivial hS
  | (g, os) :: grs, s, j, a, w, hgs, h, hS, hn => by
    have hos : ∀ o ∈ os, o.guard = g := fun o ho => hgs (g, os) (by simp) o ho
    have hrest : ∀ q ∈ grs, ∀ o ∈ q.2, o.guard = q.1 := fun q hq => hgs q (by simp [hq])
    show wpList P ops Q (os ++ grs.flatMap (·.2)) a w
    have run : ∀ s2, (match irun P cfg C os s2 with
        | some (.normal, s') => iops P cfg C ops grs s'
        | q => q) = some r → Guarded ops g s2.env os → SR P n0 w0 gs j0 m0 ws N j s2 a w → wpList P ops Q (os ++ grs.flatMap (·.2)) a w := by
      intro s2 h2 hG hS2
      cases hi : irun P cfg C os s2 with
      | none => rw [hi] at h2; cases h2
      | some q =>
        rw [hi] at h2
        refine irun_R hX hC os s2 j a w hos hG hi hS2 ?_ ?_
        · intro s' hq j' a' w' hS'
          subst hq
          simp only at h2
          exact iops_R hX hC grs s' j' a' w' hrest h2 hS' hn
        · intro v s' hq j' v' a' w' hv hS'
          subst hq
          simp only at h2
          cases h2
          exact hn j' _ a' w' ⟨v', rfl, hv⟩ hS'
    cases g with
    | none =>
      simp only [iops] at h
      exact run s h trivial hS
    | some gw =>
      obtain ⟨gj, want⟩ := gw
      simp only [iops] at h
      cases hgo : guardOf ops gj os with
      | none => rw [hgo] at h; cases h
      | some q =>
        obtain ⟨d, own⟩ := q
        rw [hgo] at h
        simp only at h
        obtain ⟨hslot, hdst⟩ := guardOf_spec hgo
        cases hv : s.env[d]? with
        | none => rw [hv] at h; cases h
        | some v =>
          rw [hv, Option.bind_some] at h
          rcases gate_cases h with ⟨rfl, h3⟩ | ⟨rfl, h3⟩ | ⟨rfl, h3⟩
          · have : s.set d (.bool want) = s := by unfold St.set; rw [set_same hv]
            rw [this] at h3
            exact run s h3 ⟨d, hslot, hv, hdst⟩ hS
          · have : s.set d (.bool !want) = s := by unfold St.set; rw [set_same hv]
            rw [this] at h3
            exact undefs_R os s j a w hos ⟨d, hslot, .inl hv, hdst⟩ hS fun j' a' w' hS' => iops_R hX hC grs _ j' a' w' hrest h3 hS' hn
          · exact undefs_R os s j a w hos ⟨d, hslot, .inr hv, hdst⟩ hS fun j' a' w' hS' => iops_R hX hC grs _ j' a' w' hrest h3 hS' hn

theorem grouped_spec : ∀ l : List Oper, (grouped l).flatMap (·.2) = l ∧ ∀ q ∈ grouped l, ∀ o ∈ q.2, o.guard = q.1
  | [] => ⟨rfl, fun q hq => by cases hq⟩
  | o :: l => by
    obtain ⟨h1, h2⟩ := grouped_spec l
    simp only [grouped]
    split
    · rename_i g os q hgr
      rw [hgr] at h1 h2
      split
      · rename_i hg
        refine ⟨by rw [← h1]; simp, ?_⟩
        intro p hp o' ho'
        rcases List.mem_cons.1 hp with rfl | hp
        · rcases List.mem_cons.1 ho' with rfl | ho'
          · exact hg.symm
          · exact h2 (g, os) (by simp) o' ho'
        · exact h2 p (by simp [hp]) o' ho'
      · refine ⟨by rw [← h1]; simp, ?_⟩
        intro p hp o' ho'
        rcases List.mem_cons.1 hp with rfl | hp
        · rcases List.mem_cons.1 ho' with rfl | ho'
          · rfl
          · cases ho'
        · exact h2 p hp o' ho'
    · rename_i hgr
      rw [hgr] at h1
      refine ⟨by simpa using h1, ?_⟩
      intro p hp o' ho'
      rcases List.mem_cons.1 hp with rfl | hp
      · rcases List.mem_cons.1 ho' with rfl | ho'
        · rfl
        · cases ho'
      · cases hp

/-- A region in the text's order. -/
theorem region_R (hX : ExtOk P cfg) (hC : CallOk P C) {id : Nat} {ops : Array Oper} {Q : Exit → Act → World → Prop} {r : Ex × St} {s : St} (h : iops P cfg C ops (grouped ops.toList) s = some r) (hS : SR P n0 w0 gs j0 m0 ws N j s a w)
    (hQ : ∀ j' e a' w', ExR j' r.1 e → SR P n0 w0 gs j0 m0 ws N j' r.2 a' w' → Q e a' w') : (Code.region id ops false).wp P Q a w := by
  refine wp_region_list ?_
  obtain ⟨h1, h2⟩ := grouped_spec ops.toList
  have := iops_R hX hC (grouped ops.toList) s j a w h2 h hS hQ
  rw [h1] at this
  exact this
end
end Go.Ig
