/-
  The evaluator in continuation form: the same answers; a closed body unfolds to the bare chain of its operations.
-/
import Derived.Test.YtcnjllnnhcafbaaDoorIgCore
namespace Go.Ig
open Go
section
variable (P : Program) (cfg : Cfg)

/-- What follows a call. -/
def callK {β : Type} (r : Option (Out × Mem)) (K E : V → Mem → Option β) : Option β :=
  match r with
  | some (.ret v, m) => K v m
  | some (.panic v, m) => E v m
  | none => none
def effK {β : Type} (C : CallT) (s : St) (o : Op) (K : V → St → Option β) (E : V → St → Option β) : Option β :=
  match o with
  | .store t a x => (evO P s.env a).bind fun a => (evO P s.env x).bind fun x => (storeV P s.mem t a x).bind fun m => K V.undef { s with mem := m }
  | .mapUpdate t x k v | .insert t x k v => (evO P s.env x).bind fun x => (evO P s.env k).bind fun k => (evO P s.env v).bind fun v => (mapSetV P s.mem t x k v).bind fun m => K V.undef { s with mem := m }
  | .call c => (evOs P s.env c.args.toList).bind fun args =>
    match c.callee with
    | .builtin b => (builtinV P b c.argTypes args s.mem).bind fun r => K r.1 { s with mem := r.2 }
    | .value f => (evO P s.env f).bind fun f => match f with
      | .fn f first cap => match cfg.ext f with
        | some x => (extV x (first ++ args ++ cap) s.mem).bind fun r => K r.1 { s with mem := r.2 }
        | none => callK (C (.fn f) (first ++ args ++ cap) s.mem) (fun v m => K v { s with mem := m }) (fun v m => E v { s with mem := m })
      | .yield l => callK (C (.yield l) args s.mem) (fun v m => K v { s with mem := m }) (fun v m => E v { s with mem := m })
      | _ => none
    | .invoke .. => none
  | .panic x => (evO P s.env x).bind fun v => match v with
    | .iface t v => E (.iface t v) s
    | _ => none
  | _ => none
def opK {β : Type} (C : CallT) (s : St) (o : Op) (K : V → St → Option β) (E : V → St → Option β) : Option β :=
  match kindIn P o with
  | .pure => (opPure P s.env s.mem o).bind fun v => K v s
  | .new => (opNew P s.env s.mem o).bind fun r => K r.1 { s with mem := r.2 }
  | .eff => effK P cfg C s o K E

def resK {β : Type} (r : Option Res) (K : V → St → Option β) (E : V → St → Option β) : Option β :=
  match r with
  | some (.ok v s) => K v s
  | some (.panic v s) => E v s
  | none => none

theorem effK_eq {β : Type} (C : CallT) (s : St) (o : Op) (K E : V → St → Option β) : effK P cfg C s o K E = resK (opEff P cfg C s o) K E := by
  cases o
  case store t a x => simp only [effK, opEff]; cases evO P s.env a <;> simp [resK]; cases evO P s.env x <;> simp; cases storeV P s.mem t _ _ <;> simp
  case mapUpdate t x k v => simp only [effK, opEff]; cases evO P s.env x <;> simp [resK]; cases evO P s.env k <;> simp; cases evO P s.env v <;> simp; cases mapSetV P s.mem t _ _ _ <;> simp
  case insert t x k v => simp only [effK, opEff]; cases evO P s.env x <;> simp [resK]; cases evO P s.env k <;> simp; cases evO P s.env v <;> simp; cases mapSetV P s.mem t _ _ _ <;> simp
  case call c =>
    simp only [effK, opEff]
    cases evOs P s.env c.args.toList with
    | none => simp [resK]
    | some args =>
      simp only [Option.bind_some]
      cases c.callee with
      | builtin b => simp only; cases builtinV P b c.argTypes args s.mem <;> simp [resK]
      | invoke r n => simp [resK]
      | value f =>
        simp only
        cases evO P s.env f with
        | none => simp [resK]
        | some f =>
          simp only [Option.bind_some]
          cases f
          case fn f first cap =>
            simp only
            cases cfg.ext f with
            | some x => simp only; cases extV x (first ++ args ++ cap) s.mem <;> simp [resK]
            | none =>
              simp only
              rcases C (.fn f) (first ++ args ++ cap) s.mem with _ | ⟨_ | _, _⟩ <;> simp [resK, callK]
          case yield l => simp only; rcases C (.yield l) args s.mem with _ | ⟨_ | _, _⟩ <;> simp [resK, callK]
          all_goals simp [resK]
  case panic x =>
    simp only [effK, opEff]
    cases evO P s.env x with
    | none => simp [resK]
    | some v => simp only [Option.bind_some]; cases v <;> simp [resK]
  all_goals simp [effK, opEff, resK]

theorem opK_eq {β : Type} (C : CallT) (s : St) (o : Op) (K E : V → St → Option β) : opK P cfg C s o K E = resK (iop P cfg C s o) K E := by
  unfold opK iop
  cases kindIn P o with
  | pure => simp only; cases opPure P s.env s.mem o <;> simp [resK]
  | new => simp only; cases opNew P s.env s.mem o <;> simp [resK]
  | eff => exact effK_eq P cfg C s o K E

/-- What an answer of the plain evaluator is handed on to. -/
def handOn {β : Type} (r : Option (Ex × St)) (K : Ex → St → Option β) : Option β :=
  match r with
  | some (e, s) => K e s
  | none => none

def runK {β : Type} (C : CallT) (K : St → Option β) (E : V → St → Option β) : List Oper → St → Option β
  | [], s => K s
  | o :: r, s => opK P cfg C s o.op (fun v s => runK C K E r (s.put o.dst v)) E
theorem runK_eq {β : Type} (C : CallT) (K : Ex → St → Option β) : ∀ (os : List Oper) (s : St),
    runK P cfg C (K .normal) (fun v => K (.panic v)) os s = handOn (irun P cfg C os s) K
  | [], s => rfl
  | o :: r, s => by
    simp only [runK, irun, opK_eq]
    rcases iop P cfg C s o.op with _ | ⟨v, s'⟩ | ⟨v, s'⟩
    · rfl
    · simp only [resK]; exact runK_eq C K r _
    · rfl
def opsK {β : Type} (C : CallT) (all : Array Oper) (K : St → Option β) (E : V → St → Option β) : List (Option (Nat × Bool) × List Oper) → St → Option β
  | [], s => K s
  | (none, os) :: r, s => runK P cfg C (fun s => opsK C all K E r s) E os s
  | (some (j, want), os) :: r, s => match guardOf all j os with
    | some (d, own) => (s.env[d]?).bind fun v => gate own v want
        (runK P cfg C (fun s => opsK C all K E r s) E os (s.set d (.bool want)))
        (opsK C all K E r (undefs os (s.set d (.bool !want))))
        (opsK C all K E r (undefs os s))
    | none => none
theorem gate_hand {β : Type} (own : Bool) (v : V) (want : Bool) (a b c : Option (Ex × St)) (a' b' c' : Option β) (K : Ex → St → Option β) (ha : a' = handOn a K) (hb : b' = handOn b K) (hc : c' = handOn c K) :
    gate own v want a' b' c' = handOn (gate own v want a b c) K := by
  subst ha hb hc
  unfold gate
  split
  · unfold gate3
    split
    · split <;> rfl
    · rfl
    · rfl
  · unfold gate2
    split
    · split <;> rfl
    · rfl
theorem opsK_eq {β : Type} (C : CallT) (all : Array Oper) (K : Ex → St → Option β) : ∀ (gs : List (Option (Nat × Bool) × List Oper)) (s : St),
    opsK P cfg C all (K .normal) (fun v => K (.panic v)) gs s = handOn (iops P cfg C all gs s) K
  | [], s => rfl
  | (g, os) :: r, s => by
    have key : ∀ s, runK P cfg C (fun s => opsK P cfg C all (K .normal) (fun v => K (.panic v)) r s) (fun v => K (.panic v)) os s =
        handOn (match irun P cfg C os s with
          | some (.normal, s') => iops P cfg C all r s'
          | q => q) K := by
      intro s
      have h := runK_eq P cfg C (fun e s => match e with | .normal => handOn (iops P cfg C all r s) K | e => K e s) os s
      simp only at h
      have h2 : (fun s => opsK P cfg C all (K .normal) (fun v => K (.panic v)) r s) = fun s => handOn (iops P cfg C all r s) K := funext fun s => opsK_eq C all K r s
      rw [h2, h]
      rcases irun P cfg C os s with _ | ⟨e, s'⟩
      · rfl
      · cases e <;> rfl
    match g with
    | none => simp only [opsK, iops]; exact key s
    | some (j, want) =>
      simp only [opsK, iops]
      rcases guardOf all j os with _ | ⟨d, own⟩
      · rfl
      · simp only
        cases s.env[d]? with
        | none => rfl
        | some v => exact gate_hand own v want _ _ _ _ _ _ K (key _) (opsK_eq C all K r _) (opsK_eq C all K r _)

def drunK {β : Type} (C : CallT) (bf : Array Nat) (K : Nat → Trk → St → Option β) : List Oper → Nat → Trk → St → Option β
  | [], i, k, s => K i k s
  | o :: r, i, k, s =>
    match kindIn P o.op with
    | .eff => effK P cfg C s o.op (fun v s' => if stands P bf k.seen i s'.mem = true then drunK C bf K r (i + 1) { k with past := (i, s.mem) :: k.past } (s'.put o.dst v) else none) (fun _ _ => none)
    | .new => (opNew P s.env s.mem o.op).bind fun q => if stands P bf k.seen i q.2 = true then drunK C bf K r (i + 1) { k with past := (i, s.mem) :: k.past } (({ s with mem := q.2 } : St).put o.dst q.1) else none
    | .pure => (opPure P s.env s.mem o.op).bind fun v => if reads o.op = true then
          (if stood P bf k.past i s.env o.op v = true then drunK C bf K r (i + 1) { k with seen := (i, s.env, o.op, v) :: k.seen } (s.put o.dst v) else none)
        else drunK C bf K r (i + 1) k (s.put o.dst v)
def handD {β : Type} (r : Option (Nat × Trk × St)) (K : Nat → Trk → St → Option β) : Option β :=
  match r with
  | some (i, k, s) => K i k s
  | none => none
theorem drunK_eq {β : Type} (C : CallT) (bf : Array Nat) (K : Nat → Trk → St → Option β) : ∀ (os : List Oper) (i : Nat) (k : Trk) (s : St),
    drunK P cfg C bf K os i k s = handD (drun P cfg C bf os i k s) K
  | [], _, _, _ => rfl
  | o :: r, i, k, s => by
    simp only [drunK, drun]
    cases kindIn P o.op with
    | eff =>
      simp only [effK_eq]
      rcases opEff P cfg C s o.op with _ | ⟨v, s'⟩ | ⟨v, s'⟩
      · rfl
      · simp only [resK]
        split
        · exact drunK_eq C bf K r _ _ _
        · rfl
      · rfl
    | new =>
      simp only
      cases opNew P s.env s.mem o.op with
      | none => rfl
      | some q =>
        simp only [Option.bind_some]
        split
        · exact drunK_eq C bf K r _ _ _
        · rfl
    | pure =>
      simp only
      cases opPure P s.env s.mem o.op with
      | none => rfl
      | some v =>
        simp only [Option.bind_some]
        split
        · split
          · exact drunK_eq C bf K r _ _ _
          · rfl
        · exact drunK_eq C bf K r _ _ _
def dopsK {β : Type} (C : CallT) (all : Array Oper) (bf : Array Nat) (K : St → Option β) : List (Option (Nat × Bool) × List Oper) → Nat → Trk → St → Option β
  | [], _, _, s => K s
  | (none, os) :: r, i, k, s => drunK P cfg C bf (fun i k s => dopsK C all bf K r i k s) os i k s
  | (some (j, want), os) :: r, i, k, s => match guardOf all j os with
    | some (d, own) => (s.env[d]?).bind fun v => gate own v want
        (drunK P cfg C bf (fun i k s => dopsK C all bf K r i k s) os i k (s.set d (.bool want)))
        (dopsK C all bf K r (i + os.length) k (undefs os (s.set d (.bool !want))))
        (dopsK C all bf K r (i + os.length) k (undefs os s))
    | none => none
theorem dopsK_eq {β : Type} (C : CallT) (all : Array Oper) (bf : Array Nat) (K : Ex → St → Option β) : ∀ (gs : List (Option (Nat × Bool) × List Oper)) (i : Nat) (k : Trk) (s : St),
    dopsK P cfg C all bf (K .normal) gs i k s = handOn (idops P cfg C all bf gs i k s) K
  | [], _, _, _ => rfl
  | (g, os) :: r, i, k, s => by
    have key : ∀ s, drunK P cfg C bf (fun i k s => dopsK P cfg C all bf (K .normal) r i k s) os i k s =
        handOn (match drun P cfg C bf os i k s with
          | some (i', k', s') => idops P cfg C all bf r i' k' s'
          | none => none) K := by
      intro s
      rw [drunK_eq]
      rcases drun P cfg C bf os i k s with _ | ⟨i', k', s'⟩
      · rfl
      · exact dopsK_eq C all bf K r _ _ _
    match g with
    | none => simp only [dopsK, idops]; exact key s
    | some (j, want) =>
      simp only [dopsK, idops]
      rcases guardOf all j os with _ | ⟨d, own⟩
      · rfl
      · simp only
        cases s.env[d]? with
        | none => rfl
        | some v => exact gate_hand own v want _ _ _ _ _ _ K (key _) (dopsK_eq C all bf K r _ _ _) (dopsK_eq C all bf K r _ _ _)

/-- A loop. -/
def loopD (C : CallT) (k n : Nat) (f : FuncId) (body : Code) (s : St) : Option (Ex × St) := iter n (fun s => roundEnd cfg f body (iev P cfg C k f body (forget cfg f body s))) s
def condV {β : Type} (v : V) (a b : Option β) : Option β :=
  match v with
  | .bool t => if t = true then a else b
  | _ => none

/-- What follows, by how a piece was left. -/
def exK {β : Type} (e : Ex) (a : Option β) (b : Nat → Option β) (c : Option β) (d : V → Option β) : Option β :=
  match e with
  | .normal => a
  | .exit i => b i
  | .ret => c
  | .panic v => d v

def evK {β : Type} (C : CallT) (n : Nat) (f : FuncId) : Code → (Ex → St → Option β) → St → Option β
  | .skip, K, s => K .normal s
  | .region _ ops draw, K, s =>
    if draw = true then
      (if chained P ops (Region.before ops) = true then dopsK P cfg C ops (Region.before ops) (fun s => K .normal s) (grouped ops.toList) 0 ⟨[], []⟩ s else none)
    else opsK P cfg C ops (fun s => K .normal s) (fun v s => K (.panic v) s) (grouped ops.toList) s
  | .seq a b, K, s => evK C n f a (fun e s => exK e (evK C n f b K s) (fun i => K (.exit i) s) (K .ret s) (fun v => K (.panic v) s)) s
  | .cond c a b, K, s => (evO P s.env c).bind fun v => condV v (evK C n f a K s) (evK C n f b K s)
  | .block id body, K, s => match hookOf cfg f body with
    | some H => (H s).bind fun s' => K .normal (norm s.env.length s.ds s')
    | none => evK C n f body (fun e s => exK e (K .normal s) (fun i => if i = id then K .normal s else K (.exit i) s) (K .ret s) (fun v => K (.panic v) s)) s
  | .loop body, K, s => (loopD P cfg C n n f body (bare (forget cfg f body s))).bind fun r => K r.1 (norm s.env.length s.ds r.2)
  | .exit id, K, s => K (.exit id) s
  | .ret, K, s => K .ret s
  | .scope body, K, s => evK C n f body K s
  | .label _, K, s => K .normal s
  | _, _, _ => none

theorem handOn_match {β : Type} (r : Option (Ex × St)) (K K' : Ex → St → Option β) (h : ∀ e s, K e s = K' e s) : handOn r K = handOn r K' := by
  rcases r with _ | ⟨e, s⟩
  · rfl
  · exact h e s

theorem evK_eq {β : Type} (C : CallT) (n : Nat) (f : FuncId) : ∀ (c : Code) (K : Ex → St → Option β) (s : St),
    evK P cfg C n f c K s = handOn (iev P cfg C n f c s) K := by
  intro c
  induction c with
  | skip => intro K s; rfl
  | region id ops draw =>
    intro K s
    simp only [evK, iev]
    split
    · split
      · exact dopsK_eq P cfg C ops _ K _ _ _ _
      · rfl
    · exact opsK_eq P cfg C ops K _ _
  | seq a b iha ihb =>
    intro K s
    simp only [evK, iev]
    rw [iha]
    rcases iev P cfg C n f a s with _ | ⟨e, s'⟩
    · rfl
    · cases e <;> first | exact ihb K s' | rfl
  | cond c a b iha ihb =>
    intro K s
    simp only [evK, iev]
    cases evO P s.env c with
    | none => rfl
    | some v =>
      cases v <;> simp only [Option.bind_some, condV] <;> try rfl
      split
      · exact iha K s
      · exact ihb K s
  | block id body ih =>
    intro K s
    simp only [evK, iev]
    cases hookOf cfg f body with
    | some H => simp only; cases H s <;> rfl
    | none =>
      simp only
      rw [ih]
      rcases iev P cfg C n f body s with _ | ⟨e, s'⟩
      · rfl
      · cases e with
        | exit i =>
          simp only [handOn, exK]
          split <;> rfl
        | _ => rfl
  | loop body ih =>
    intro K s
    simp only [evK, iev]
    rw [show iter n (fun s => roundEnd cfg f body (iev P cfg C n f body (forget cfg f body s))) (bare (forget cfg f body s)) = loopD P cfg C n n f body (bare (forget cfg f body s)) from rfl]
    rcases loopD P cfg C n n f body (bare (forget cfg f body s)) with _ | ⟨e, s'⟩ <;> rfl
  | exit id => intro K s; rfl
  | ret => intro K s; rfl
  | scope body ih => intro K s; exact ih K s
  | label l => intro K s; rfl
  | _ => intros; rfl

theorem evK_raw (C : CallT) (n : Nat) (f : FuncId) (c : Code) (s : St) : evK P cfg C n f c (fun e s => some (e, s)) s = iev P cfg C n f c s := by
  rw [evK_eq]
  rcases iev P cfg C n f c s with _ | ⟨e, s'⟩ <;> rfl
def tailOf : Code → Code
  | .seq _ b => b
  | c => c
theorem forgetBut_twice (l : List Nat) : ∀ (env : List V) (i : Nat), forgetBut l i (forgetBut l i env) = forgetBut l i env
  | [], _ => rfl
  | v :: r, i => by
    simp only [forgetBut, forgetBut_twice l r]
    split <;> rfl
theorem forget_twice (f : FuncId) (body : Code) (s : St) : forget cfg f body (forget cfg f body s) = forget cfg f body s := by
  unfold forget
  cases (keyOf body).bind (cfg.live f) with
  | none => rfl
  | some l => simp only [forgetBut_twice]
theorem iter_forget (C : CallT) (k n : Nat) (f : FuncId) (body : Code) (s : St) : loopD P cfg C k n f body (forget cfg f body s) = loopD P cfg C k n f body s := by
  unfold loopD
  cases n with
  | zero => rfl
  | succ n => simp only [iter, forget_twice]
def ifBare {β : Type} (s : St) (a : Option β) : Option β :=
  match s.ds with
  | [] => a
  | _ => none
/-- A round of a loop, and what follows it. -/
theorem loopD_succ (C : CallT) (k n : Nat) (f : FuncId) (body : Code) (s : St) : loopD P cfg C k (n + 1) f body s =
    evK P cfg C k f body (fun e s' => ifBare s' (exK e (loopD P cfg C k n f body (forget cfg f body s')) (fun i => some (.exit i, trim cfg f body s')) (some (.ret, trim cfg f body s')) (fun v => some (.panic v, trim cfg f body s')))) (forget cfg f body s) := by
  rw [evK_eq]
  rw [show loopD P cfg C k (n + 1) f body s = (match roundEnd cfg f body (iev P cfg C k f body (forget cfg f body s)) with
    | some (.normal, s') => loopD P cfg C k n f body s'
    | r => r) from rfl]
  rcases iev P cfg C k f body (forget cfg f body s) with _ | ⟨e, s'⟩
  · rfl
  · simp only [roundEnd, handOn, ifBare]
    cases s'.ds with
    | cons _ _ => rfl
    | nil =>
      cases e with
      | normal => exact (iter_forget P cfg C k n f body s').symm
      | _ => rfl

/-- The loop of a body's code that begins with a region. -/
def findLoop (key : Nat) : Code → Option Code
  | .seq a b => (findLoop key a).orElse fun _ => findLoop key b
  | .cond _ a b => (findLoop key a).orElse fun _ => findLoop key b
  | .block _ b | .scope b => findLoop key b
  | .loop b => if keyOf b = some key then some b else findLoop key b
  | _ => none
def loopAt (fn : Func) (key : Nat) : Code := ((fn.body.bind (findLoop key)).getD .skip)

/-! ### what is told of functions elsewhere is looked at in a call alone -/
end
def Cfg.plain (cfg : Cfg) : Cfg := { cfg with sum := fun _ => none }
section
variable (P : Program) (cfg : Cfg)
theorem opEff_plain (C : CallT) (s : St) (o : Op) : opEff P cfg.plain C s o = opEff P cfg C s o := rfl
theorem irun_plain (C : CallT) : ∀ (l : List Oper) (s : St), irun P cfg.plain C l s = irun P cfg C l s
  | [], _ => rfl
  | o :: r, s => by
    simp only [irun]
    rw [show iop P cfg.plain C s o.op = iop P cfg C s o.op from rfl]
    rcases iop P cfg C s o.op with _ | ⟨v, s'⟩ | ⟨v, s'⟩
    · rfl
    · exact irun_plain C r _
    · rfl
theorem iops_plain (C : CallT) (all : Array Oper) : ∀ (l : List (Option (Nat × Bool) × List Oper)) (s : St), iops P cfg.plain C all l s = iops P cfg C all l s
  | [], _ => rfl
  | (g, os) :: r, s => by
    have h : iops P cfg.plain C all r = iops P cfg C all r := funext (iops_plain C all r)
    cases g with
    | none => simp only [iops, irun_plain, h]
    | some g => obtain ⟨j, want⟩ := g; simp only [iops, irun_plain, h]
theorem drun_plain (C : CallT) (bf : Array Nat) : ∀ (l : List Oper) (i : Nat) (k : Trk) (s : St), drun P cfg.plain C bf l i k s = drun P cfg C bf l i k s
  | [], _, _, _ => rfl
  | o :: r, i, k, s => by
    have h : drun P cfg.plain C bf r = drun P cfg C bf r := by funext a b c; exact drun_plain C bf r a b c
    simp only [drun, h, opEff_plain]
theorem idops_plain (C : CallT) (all : Array Oper) (bf : Array Nat) : ∀ (l : List (Option (Nat × Bool) × List Oper)) (i : Nat) (k : Trk) (s : St), idops P cfg.plain C all bf l i k s = idops P cfg C all bf l i k s
  | [], _, _, _ => rfl
  | (g, os) :: r, i, k, s => by
    have h : idops P cfg.plain C all bf r = idops P cfg C all bf r := by funext a b c; exact idops_plain C all bf r a b c
    cases g with
    | none => simp only [idops, drun_plain, h]
    | some g => obtain ⟨j, want⟩ := g; simp only [idops, drun_plain, h]
theorem iev_plain (C : CallT) (n : Nat) (f : FuncId) : ∀ (c : Code) (s : St), iev P cfg.plain C n f c s = iev P cfg C n f c s := by
  intro c
  induction c with
  | region id ops draw => intro s; simp only [iev, idops_plain, iops_plain]
  | seq a b iha ihb =>
    intro s
    simp only [iev, iha]
    rcases iev P cfg C n f a s with _ | ⟨e, s'⟩
    · rfl
    · cases e <;> first | exact ihb s' | rfl
  | cond c a b iha ihb => intro s; simp only [iev, iha, ihb]
  | block id body ih => intro s; simp only [iev, ih]; rfl
  | loop body ih =>
    intro s
    simp only [iev]
    have h : iev P cfg.plain C n f body = iev P cfg C n f body := funext ih
    rw [h]
    rfl
  | scope body ih => intro s; exact ih s
  | _ => intros; rfl

def fnK (C : CallT) (k : Nat) (f : FuncId) (fn : Func) (c : Code) (args : List V) (m : Mem) : Option (Out × Mem) :=
  evK P cfg C k f c (fun e s => exK e (finish P fn (cfg.gc f) m s) (fun _ => none) (finish P fn (cfg.gc f) m s) (fun _ => none)) (startSt fn (cfg.gc f) args m)

theorem icall_eq {cfg0 : Cfg} (hp : cfg.plain = cfg0) (k : Nat) (f : FuncId) (fn : Func) (c : Code) (args : List V) (m : Mem) (hs : cfg.sum f = none) (hf : P.funcs[f]? = some fn) (hb : fn.body = some c) :
    icall P cfg (k + 1) (.fn f) args m = fnK P cfg0 (icall P cfg k) k f fn c args m := by
  subst hp
  simp only [icall, hs, hf, hb, fnK, evK_eq, iev_plain]
  rw [show cfg.plain.gc f = cfg.gc f from rfl]
  rcases iev P cfg (icall P cfg k) k f c (startSt fn (cfg.gc f) args m) with _ | ⟨e, s⟩
  · rfl
  · cases e <;> rfl
end
end Go.Ig
