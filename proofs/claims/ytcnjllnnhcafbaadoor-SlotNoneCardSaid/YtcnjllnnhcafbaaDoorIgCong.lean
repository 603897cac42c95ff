/-
  An operation looks at its operands alone.
-/
import Derived.Test.YtcnjllnnhcafbaaDoorIgSeq
set_option linter.unusedVariables false
namespace Go.Ig
open Go

section
variable {P : Program} {cfg : Cfg} {C : CallT}

/-- Two environments that give an operation the same operands. -/
def Agree (P : Program) (o : Op) (env env' : List V) : Prop := ∀ x ∈ o.operands, evO P env x = evO P env' x

theorem evOs_congr {env env' : List V} : ∀ {l : List Operand}, (∀ x ∈ l, evO P env x = evO P env' x) → evOs P env l = evOs P env' l
  | [], _ => rfl
  | x :: l, h => by simp only [evOs]; rw [h x (by simp), evOs_congr fun y hy => h y (by simp [hy])]
theorem evParts_congr {env env' : List V} : ∀ {l : List (Nat × Operand)}, (∀ p ∈ l, evO P env p.2 = evO P env' p.2) → evParts P env l = evParts P env' l
  | [], _ => rfl
  | (i, x) :: l, h => by simp only [evParts]; rw [h (i, x) (by simp), evParts_congr fun y hy => h y (by simp [hy])]
theorem evOpt_congr {env env' : List V} {x : Option Operand} (h : ∀ y ∈ x.toArray, evO P env y = evO P env' y) : evOpt P env x = evOpt P env' x := by
  cases x with
  | none => rfl
  | some x => simp only [evOpt]; rw [h x (by simp)]

theorem opPure_congr {o : Op} {env env' : List V} (m : Mem) (h : Agree P o env env') : opPure P env m o = opPure P env' m o := by
  have one : ∀ {x : Operand}, x ∈ o.operands → evO P env x = evO P env' x := fun hx => h _ hx
  cases o <;> simp only [Op.operands] at one
  case move x => exact one (by simp)
  case assign x => exact one (by simp)
  case pick c a b => simp only [opPure]; rw [one (x := c) (by simp), one (x := a) (by simp), one (x := b) (by simp)]
  case build t ps => simp only [opPure]; rw [evParts_congr fun p hp => one (by simp; exact ⟨p.1, by simpa using hp⟩)]
  case load t a => simp only [opPure]; rw [one (x := a) (by simp)]
  case nilCheck x => simp only [opPure]; rw [one (x := x) (by simp)]
  case binOp op t x y b => simp only [opPure]; rw [one (x := x) (by simp), one (x := y) (by simp)]
  case unOp op t x => simp only [opPure]; rw [one (x := x) (by simp)]
  case convert a b x => simp only [opPure]; rw [one (x := x) (by simp)]
  case sliceToArrayPointer t x => simp only [opPure]; rw [one (x := x) (by simp)]
  case makeInterface t x => simp only [opPure]; rw [one (x := x) (by simp)]
  case makeFunc f first cap =>
    cases f <;> simp only [opPure]
    rw [evOs_congr fun x hx => one (by simp; exact .inl (by simpa using hx)), evOs_congr (l := cap.toList) fun x hx => one (by simp; exact .inr (by simpa using hx))]
  case slice t x lo hi mx =>
    simp only [opPure]
    rw [one (x := x) (by simp), evOpt_congr (x := lo) fun y hy => one (by simp at hy ⊢; simp [hy]), evOpt_congr (x := hi) fun y hy => one (by simp at hy ⊢; simp [hy]), evOpt_congr (x := mx) fun y hy => one (by simp at hy ⊢; simp [hy])]
  case fieldAddr t x f => simp only [opPure]; rw [one (x := x) (by simp)]
  case field t x f => simp only [opPure]; rw [one (x := x) (by simp)]
  case indexAddr t x i => simp only [opPure]; rw [one (x := x) (by simp), one (x := i) (by simp)]
  case index t x i => simp only [opPure]; rw [one (x := x) (by simp), one (x := i) (by simp)]
  case lookup t x k ok => simp only [opPure]; rw [one (x := x) (by simp), one (x := k) (by simp)]
  case extract x i => simp only [opPure]; rw [one (x := x) (by simp)]
  case entry x => simp only [opPure]; rw [one (x := x) (by simp)]
  case typeAssert x xt t ok => simp only [opPure]; rw [one (x := x) (by simp)]
  case call c =>
    have hargs : evOs P env c.args.toList = evOs P env' c.args.toList := evOs_congr fun x hx => one (by simp [Call.operands]; exact .inr (by simpa using hx))
    obtain ⟨callee, args, ats⟩ := c
    simp only at hargs
    unfold opPure
    split <;> first | rfl | (rename_i heq; injection heq with heq; injection heq with h1 h2 h3; subst h2; rw [hargs]) | skip
    all_goals simp_all
  all_goals rfl

theorem opNew_congr {o : Op} {env env' : List V} (m : Mem) (h : Agree P o env env') : opNew P env m o = opNew P env' m o := by
  have one : ∀ {x : Operand}, x ∈ o.operands → evO P env x = evO P env' x := fun hx => h _ hx
  cases o <;> simp only [Op.operands] at one
  case box t x => simp only [opNew]; rw [one (x := x) (by simp)]
  case buildSlice t n ps => simp only [opNew]; rw [evParts_congr fun p hp => one (by simp; exact ⟨p.1, by simpa using hp⟩)]
  case convert a b x => simp only [opNew]; rw [one (x := x) (by simp)]
  case makeSlice t l c => simp only [opNew]; rw [one (x := l) (by simp), one (x := c) (by simp)]
  case makeMap t r => cases r <;> rfl
  case range t x => simp only [opNew]; rw [one (x := x) (by simp)]
  all_goals rfl

/-- What an operation that may write comes to, in another environment. -/
def Res.inEnv (env : List V) : Res → Res
  | .ok v s => .ok v { s with env := env }
  | .panic v s => .panic v { s with env := env }

theorem opEff_congr {o : Op} {s : St} {env' : List V} (h : Agree P o s.env env') : opEff P cfg C { s with env := env' } o = (opEff P cfg C s o).map (Res.inEnv env') := by
  have one : ∀ {x : Operand}, x ∈ o.operands → evO P env' x = evO P s.env x := fun hx => (h _ hx).symm
  cases o <;> simp only [Op.operands] at one
  case store t a x =>
    simp only [opEff]; rw [one (x := a) (by simp), one (x := x) (by simp)]
    cases evO P s.env a <;> simp
    cases evO P s.env x <;> simp
    cases storeV P s.mem t _ _ <;> simp [Res.inEnv]
  case mapUpdate t m k v =>
    simp only [opEff]; rw [one (x := m) (by simp), one (x := k) (by simp), one (x := v) (by simp)]
    cases evO P s.env m <;> simp
    cases evO P s.env k <;> simp
    cases evO P s.env v <;> simp
    cases mapSetV P s.mem t _ _ _ <;> simp [Res.inEnv]
  case insert t m k v =>
    simp only [opEff]; rw [one (x := m) (by simp), one (x := k) (by simp), one (x := v) (by simp)]
    cases evO P s.env m <;> simp
    cases evO P s.env k <;> simp
    cases evO P s.env v <;> simp
    cases mapSetV P s.mem t _ _ _ <;> simp [Res.inEnv]
  case panic x =>
    simp only [opEff]; rw [one (x := x) (by simp)]
    cases evO P s.env x with
    | none => simp
    | some v => simp only [Option.bind_some]; cases v <;> simp [Res.inEnv]
  case call c =>
    have hargs : evOs P env' c.args.toList = evOs P s.env c.args.toList := evOs_congr fun x hx => one (by simp [Call.operands]; exact .inr (by simpa using hx))
    simp only [opEff]
    rw [hargs]
    cases evOs P s.env c.args.toList with
    | none => simp
    | some args =>
      simp only [Option.bind_some]
      cases hc : c.callee with
      | builtin b => simp only; cases builtinV P b c.argTypes args s.mem <;> simp [Res.inEnv]
      | invoke r n => simp
      | value f =>
        simp only
        rw [one (x := f) (by simp [Call.operands, hc])]
        cases evO P s.env f with
        | none => simp
        | some fv =>
          simp only [Option.bind_some]
          cases fv
          case fn f first cap =>
            simp only
            cases cfg.ext f with
            | some x => simp only; cases extV x (first ++ args ++ cap) s.mem <;> simp [Res.inEnv]
            | none =>
              simp only
              rcases C (.fn f) (first ++ args ++ cap) s.mem with _ | ⟨_ | _, _⟩ <;> simp [Res.inEnv]
          case yield l => simp only; rcases C (.yield l) args s.mem with _ | ⟨_ | _, _⟩ <;> simp [Res.inEnv]
          all_goals simp
  all_goals simp [opEff]

theorem ok_map {α : Type} {x : Option α} {f : α → V} {g : α → Mem} {s s' : St} {v : V} (h : x.map (fun r => Res.ok (f r) { s with mem := g r }) = some (.ok v s')) : s' = { s with mem := s'.mem } := by
  cases x with
  | none => cases h
  | some r => simp at h; obtain ⟨-, rfl⟩ := h; rfl
/-- An operation that may write leaves the temporaries as they are. -/
theorem opEff_form {o : Op} {s s' : St} {v : V} (h : opEff P cfg C s o = some (.ok v s')) : s' = { s with mem := s'.mem } := by
  unfold opEff at h
  split at h
  · obtain ⟨_, _, h1⟩ := Option.bind_eq_some_iff.1 h
    obtain ⟨_, _, h2⟩ := Option.bind_eq_some_iff.1 h1
    exact ok_map h2
  · obtain ⟨_, _, h1⟩ := Option.bind_eq_some_iff.1 h
    obtain ⟨_, _, h2⟩ := Option.bind_eq_some_iff.1 h1
    obtain ⟨_, _, h3⟩ := Option.bind_eq_some_iff.1 h2
    exact ok_map h3
  · obtain ⟨_, _, h1⟩ := Option.bind_eq_some_iff.1 h
    obtain ⟨_, _, h2⟩ := Option.bind_eq_some_iff.1 h1
    obtain ⟨_, _, h3⟩ := Option.bind_eq_some_iff.1 h2
    exact ok_map h3
  · obtain ⟨_, _, h1⟩ := Option.bind_eq_some_iff.1 h
    clear h
    split at h1
    · exact ok_map h1
    · obtain ⟨_, _, h2⟩ := Option.bind_eq_some_iff.1 h1
      clear h1
      split at h2
      · split at h2
        · exact ok_map h2
        · split at h2
          · cases h2; rfl
          · cases h2
          · cases h2
      · split at h2
        · cases h2; rfl
        · cases h2
        · cases h2
      · cases h2
    · cases h1
  · obtain ⟨_, _, h1⟩ := Option.bind_eq_some_iff.1 h
    clear h
    split at h1
    · cases h1
    · cases h1
  · cases h
end
end Go.Ig
