/-
  Summaries: of a call whose arguments lead nowhere, and whose result is made anew; and of one that is gone through as it stands.
-/
import Derived.Test.YtcnaagljdpekkaaDoorIgJoin
set_option linter.unusedVariables false
namespace Go.Ig
open Go Go.RowKit

/-- A fact of the evaluator, at whatever memory, told as a summary. -/
theorem sum_direct {P : Program} {cfg : Cfg} (hS : Sound P cfg) {f : FuncId} {S : List V → Mem → Option (V × Mem)} (h : ∀ args m v m', S args m = some (v, m') → ∃ k, icall P cfg k (.fn f) args m = some (.ret v, m')) : OneOk P f S := by
  intro args m v m' hs
  obtain ⟨k, hk⟩ := h args m v m' hs
  obtain ⟨hb, hc⟩ := (hS.call k).calls f args m _ _ hk
  exact ⟨hb, fun n0 w0 gs j w args' hM hA => hc n0 w0 gs j w args' hM hA⟩

def tabsB : List (List V) → List Obj → Bool
  | [], _ => true
  | t :: ts, .row l .ro :: os => V.sames l t && tabsB ts os
  | _ :: _, _ => false
theorem tabsB_prefix : ∀ {tabs : List (List V)} {os : List Obj}, tabsB tabs os = true → tabsG tabs <+: os
  | [], _, _ => List.nil_prefix
  | t :: ts, [], h => by cases h
  | t :: ts, o :: os, h => by
    cases o with
    | row l md =>
      cases md with
      | ro =>
        have h : (V.sames l t && tabsB ts os) = true := h
        rw [Bool.and_eq_true] at h
        have := V.sames_eq _ _ h.1
        subst this
        obtain ⟨r, hr⟩ := tabsB_prefix h.2
        exact ⟨r, by rw [← hr]; rfl⟩
      | _ => cases h
    | _ => cases h
theorem tabsB_of {tabs : List (List V)} (ht : tabs.all (fun t => V.sames t t) = true) {os : List Obj} (h : tabsG tabs <+: os) : tabsB tabs os = true := by
  obtain ⟨r, rfl⟩ := h
  induction tabs with
  | nil => rfl
  | cons t ts ih =>
    rw [List.all_cons, Bool.and_eq_true] at ht
    show (V.sames t t && tabsB ts (tabsG ts ++ r)) = true
    rw [ht.1, ih ht.2]
    rfl

/-- The new blocks' names are counted from n on. -/
def V.shF (n : Nat) : V → V
  | .slice b g o z len cap => .slice (n + b) g o z len cap
  | v => v
def V.shA (n : Nat) : V → V
  | .agg l => .agg (l.map (V.shF n))
  | v => v.shF n
def V.sh (n : Nat) : V → V
  | .tuple l => .tuple (l.map (V.shA n))
  | v => v.shA n
def V.newF : V → Bool
  | .slice .. => true
  | v => v.flat
def V.newA : V → Bool
  | .agg l => l.all V.newF
  | v => v.newF
def V.new : V → Bool
  | .tuple l => l.all V.newA
  | v => v.newA
theorem VR.shF {j j' : J} {n n' : Nat} (hj : ∀ b g L, j (n + b) g = some L → j' (n' + b) g = some L) {v : V} {v' : Value} (ha : v.newF = true) (h : VR j (v.shF n) v') : VR j' (v.shF n') v' := by
  cases v <;> first
    | (simp [V.newF, V.flat] at ha; done)
    | (exact VR.flat_any h rfl)
    | (cases h with | slice h hc hl => exact .slice (hj _ _ _ h) hc hl)
theorem VRs.shF {j j' : J} {n n' : Nat} (hj : ∀ b g L, j (n + b) g = some L → j' (n' + b) g = some L) : ∀ {vs : List V} {vs' : List Value}, vs.all V.newF = true → VRs j (vs.map (V.shF n)) vs' → VRs j' (vs.map (V.shF n')) vs'
  | [], _, _, .nil => .nil
  | _ :: _, _, ha, .cons h r => by
    rw [List.all_cons, Bool.and_eq_true] at ha
    exact .cons (VR.shF hj ha.1 h) (VRs.shF hj ha.2 r)
theorem VR.shA {j j' : J} {n n' : Nat} (hj : ∀ b g L, j (n + b) g = some L → j' (n' + b) g = some L) {v : V} {v' : Value} (ha : v.newA = true) (h : VR j (v.shA n) v') : VR j' (v.shA n') v' := by
  have key : ∀ u : V, u.newA = u.newF → (∀ n, u.shA n = u.shF n) → u.newA = true → VR j (u.shA n) v' → VR j' (u.shA n') v' := fun u h1 h2 ha h => by rw [h2] at h ⊢; exact VR.shF hj (h1 ▸ ha) h
  cases v with
  | agg l => cases h with | agg h => exact .agg (VRs.shF hj ha h)
  | _ => exact key _ rfl (fun _ => rfl) ha h
theorem VRs.shA {j j' : J} {n n' : Nat} (hj : ∀ b g L, j (n + b) g = some L → j' (n' + b) g = some L) : ∀ {vs : List V} {vs' : List Value}, vs.all V.newA = true → VRs j (vs.map (V.shA n)) vs' → VRs j' (vs.map (V.shA n')) vs'
  | [], _, _, .nil => .nil
  | _ :: _, _, ha, .cons h r => by
    rw [List.all_cons, Bool.and_eq_true] at ha
    exact .cons (VR.shA hj ha.1 h) (VRs.shA hj ha.2 r)
theorem VR.sh {j j' : J} {n n' : Nat} (hj : ∀ b g L, j (n + b) g = some L → j' (n' + b) g = some L) {v : V} {v' : Value} (ha : v.new = true) (h : VR j (v.sh n) v') : VR j' (v.sh n') v' := by
  have key : ∀ u : V, u.new = u.newA → (∀ n, u.sh n = u.shA n) → u.new = true → VR j (u.sh n) v' → VR j' (u.sh n') v' := fun u h1 h2 ha h => by rw [h2] at h ⊢; exact VR.shA hj (h1 ▸ ha) h
  cases v with
  | tuple l => cases h with | tuple h => exact .tuple (VRs.shA hj ha h)
  | _ => exact key _ rfl (fun _ => rfl) ha h

def newB (new : List (List UInt8)) : List Obj := new.map fun l => Obj.u8 l (.vec 0)
/-- What is worked out of the arguments alone. -/
def freshS (tabs : List (List V)) (T : List V → Option (V × List (List UInt8))) : List V → Mem → Option (V × Mem) := fun args m =>
  if tabsB tabs m.objs = true ∧ args.all V.flatA = true then (T args).map fun r => (r.1.sh m.objs.length, ⟨m.objs ++ newB r.2, m.guard⟩) else none
theorem fresh_one {P : Program} {cfg : Cfg} (hS : Sound P cfg) {tabs : List (List V)} (hg : P.globals.size = tabs.length) (hflat : ∀ t ∈ tabs, t.all V.flat = true) {f : FuncId} {T : List V → Option (V × List (List UInt8))}
    (h : ∀ args v new, args.all V.flatA = true → T args = some (v, new) → v.new = true ∧ ∃ k gd, icall P cfg k (.fn f) args ⟨tabsG tabs, 0⟩ = some (.ret (v.sh tabs.length), ⟨tabsG tabs ++ newB new, gd⟩)) :
    OneOk P f (freshS tabs T) := by
  intro args m v m' hs
  unfold freshS at hs
  split at hs
  · rename_i hc
    obtain ⟨ht, ha⟩ := hc
    obtain ⟨⟨v, new⟩, hT, he⟩ := Option.map_eq_some_iff.1 hs
    cases he
    obtain ⟨hv, k, gd, hr⟩ := h args v new ha hT
    obtain ⟨hb, hc⟩ := (hS.call k).calls f args _ _ _ hr
    refine ⟨hb, fun n0 w0 gs j w args' hM hA => ?_⟩
    have hM0 := mrPick hg hflat hM (tabsB_prefix ht) (L0 := none) (os := []) (.inl ⟨rfl, rfl⟩)
    rw [List.append_nil] at hM0
    refine (hc _ _ _ _ w _ hM0 (hA.flatA_any ha)).mono ?_
    rintro e w' ⟨j1, hO, hM1, hG⟩
    have hM1' := mrJoin hM hM0 hM1 hG (new := new) rfl
    have hl : (tabsG tabs).length = tabs.length := by simp [tabsG]
    simp only [hl] at hM1'
    cases e with
    | returned u => exact ⟨_, VR.sh (fun b g L h => by rw [jJoin_new]; exact h) hv (show VR j1 (v.sh tabs.length) u from hO), hM1'.1, hM1'.2⟩
    | panicked c => exact hO.elim
    | outgrown => exact hO.elim
  · cases hs
theorem freshS_at {tabs : List (List V)} (ht : tabs.all (fun t => V.sames t t) = true) {T : List V → Option (V × List (List UInt8))} {args : List V} {v : V} {new : List (List UInt8)} (hT : T args = some (v, new)) (ha : args.all V.flatA = true) {m : Mem} (h : tabsG tabs <+: m.objs) :
    freshS tabs T args m = some (v.sh m.objs.length, ⟨m.objs ++ newB new, m.guard⟩) := by
  unfold freshS
  rw [if_pos ⟨tabsB_of ht h, ha⟩, hT]
  rfl
theorem icall_sum {P : Program} {cfg : Cfg} {f : FuncId} {S : List V → Mem → Option (V × Mem)} (hs : cfg.sum f = some S) (k : Nat) {args : List V} {m m' : Mem} {v : V} (h : S args m = some (v, m')) : icall P cfg (k + 1) (.fn f) args m = some (.ret v, m') := by
  simp only [icall, hs, h]
  rfl
/-- A number's byte. -/
def byteAt (n : Int) (i : Nat) : UInt8 := UInt8.ofNat (IntKind.wrap .u8 (Int.fdiv n (2 ^ (8 * i)))).toNat
end Go.Ig
