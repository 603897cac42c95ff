/-
  The evaluator with each value worked out as it comes: for calls of which all is known.
-/
import Derived.Test.YtcnjllnnhcafbaaDoorIgSum
set_option linter.unusedVariables false
namespace Go.Ig
open Go

section
variable {β : Type}
def fNat (n : Nat) (k : Nat → β) : β :=
  match n with
  | 0 => k 0
  | .succ m => k (.succ m)
theorem fNat_eq (n : Nat) (k : Nat → β) : fNat n k = k n := by cases n <;> rfl
def fInt (n : Int) (k : Int → β) : β :=
  match n with
  | .ofNat a => fNat a fun a => k (.ofNat a)
  | .negSucc a => fNat a fun a => k (.negSucc a)
theorem fInt_eq (n : Int) (k : Int → β) : fInt n k = k n := by cases n <;> simp [fInt, fNat_eq]
def fU8 (b : UInt8) (k : UInt8 → β) : β := fNat b.toNat fun n => k (UInt8.ofNat n)
theorem fU8_eq (b : UInt8) (k : UInt8 → β) : fU8 b k = k b := by simp [fU8, fNat_eq]
def fBool (b : Bool) (k : Bool → β) : β :=
  match b with
  | true => k true
  | false => k false
theorem fBool_eq (b : Bool) (k : Bool → β) : fBool b k = k b := by cases b <;> rfl
def fU8s (l : List UInt8) (k : List UInt8 → β) : β :=
  match l with
  | [] => k []
  | b :: r => fU8 b fun b => fU8s r fun r => k (b :: r)
theorem fU8s_eq (l : List UInt8) (k : List UInt8 → β) : fU8s l k = k l := by
  induction l generalizing k with
  | nil => rfl
  | cons b r ih => simp only [fU8s, fU8_eq, ih]
def fSpine {α : Type} (l : List α) (k : List α → β) : β :=
  match l with
  | [] => k []
  | b :: r => fSpine r fun r => k (b :: r)
theorem fSpine_eq {α : Type} (l : List α) (k : List α → β) : fSpine l k = k l := by
  induction l generalizing k with
  | nil => rfl
  | cons b r ih => simp only [fSpine, ih]
/-- A value of one cell. -/
def fV0 (v : V) (k : V → β) : β :=
  match v with
  | .bool b => fBool b fun b => k (.bool b)
  | .u8 b => fU8 b fun b => k (.u8 b)
  | .int i n => fInt n fun n => k (.int i n)
  | .str s => fU8s s fun s => k (.str s)
  | .ptr b g o => fNat b fun b => fNat g fun g => fNat o fun o => k (.ptr b g o)
  | .slice b g o z l c => fNat b fun b => fNat g fun g => fNat o fun o => fNat z fun z => fNat l fun l => fNat c fun c => k (.slice b g o z l c)
  | .map b => fNat b fun b => k (.map b)
  | v => k v
theorem fV0_eq (v : V) (k : V → β) : fV0 v k = k v := by cases v <;> simp [fV0, fBool_eq, fU8_eq, fInt_eq, fU8s_eq, fNat_eq]
def fV0s (l : List V) (k : List V → β) : β :=
  match l with
  | [] => k []
  | b :: r => fV0 b fun b => fV0s r fun r => k (b :: r)
theorem fV0s_eq (l : List V) (k : List V → β) : fV0s l k = k l := by
  induction l generalizing k with
  | nil => rfl
  | cons b r ih => simp only [fV0s, fV0_eq, ih]
def fV1 (v : V) (k : V → β) : β :=
  match v with
  | .agg cs => fV0s cs fun cs => k (.agg cs)
  | .tuple cs => fV0s cs fun cs => k (.tuple cs)
  | .fn f a b => fV0s a fun a => fV0s b fun b => k (.fn f a b)
  | .iface t v => fV0 v fun v => k (.iface t v)
  | v => fV0 v k
theorem fV1_eq (v : V) (k : V → β) : fV1 v k = k v := by cases v <;> simp [fV1, fV0_eq, fV0s_eq]
def fV1s (l : List V) (k : List V → β) : β :=
  match l with
  | [] => k []
  | b :: r => fV1 b fun b => fV1s r fun r => k (b :: r)
theorem fV1s_eq (l : List V) (k : List V → β) : fV1s l k = k l := by
  induction l generalizing k with
  | nil => rfl
  | cons b r ih => simp only [fV1s, fV1_eq, ih]
def fV (v : V) (k : V → β) : β :=
  match v with
  | .tuple cs => fV1s cs fun cs => k (.tuple cs)
  | .iface t v => fV1 v fun v => k (.iface t v)
  | v => fV1 v k
theorem fV_eq (v : V) (k : V → β) : fV v k = k v := by cases v <;> simp [fV, fV1_eq, fV1s_eq]
def fEs (l : List (V × V × Nat)) (k : List (V × V × Nat) → β) : β :=
  match l with
  | [] => k []
  | (a, b, n) :: r => fV0 a fun a => fV1 b fun b => fNat n fun n => fEs r fun r => k ((a, b, n) :: r)
theorem fEs_eq (l : List (V × V × Nat)) (k : List (V × V × Nat) → β) : fEs l k = k l := by
  induction l generalizing k with
  | nil => rfl
  | cons b r ih => obtain ⟨a, b, n⟩ := b; simp only [fEs, fV0_eq, fV1_eq, fNat_eq, ih]
def fMode (m : Mode) (k : Mode → β) : β :=
  match m with
  | .ro => k .ro
  | .exact => k .exact
  | .vec g => fNat g fun g => k (.vec g)
theorem fMode_eq (m : Mode) (k : Mode → β) : fMode m k = k m := by cases m <;> simp [fMode, fNat_eq]
def fObj (o : Obj) (k : Obj → β) : β :=
  match o with
  | .u8 l md => fU8s l fun l => fMode md fun md => k (.u8 l md)
  | .row l md => fV0s l fun l => fMode md fun md => k (.row l md)
  | .map es c => fEs es fun es => fNat c fun c => k (.map es c)
  | .dead => k .dead
  | o => k o
theorem fObj_eq (o : Obj) (k : Obj → β) : fObj o k = k o := by cases o <;> simp [fObj, fU8s_eq, fV0s_eq, fMode_eq, fEs_eq, fNat_eq]
def fObjs (l : List Obj) (k : List Obj → β) : β :=
  match l with
  | [] => k []
  | b :: r => fObj b fun b => fObjs r fun r => k (b :: r)
theorem fObjs_eq (l : List Obj) (k : List Obj → β) : fObjs l k = k l := by
  induction l generalizing k with
  | nil => rfl
  | cons b r ih => simp only [fObjs, fObj_eq, ih]
def fMem (m : Mem) (k : Mem → β) : β := fObjs m.objs fun o => fNat m.guard fun g => k ⟨o, g⟩
theorem fMem_eq (m : Mem) (k : Mem → β) : fMem m k = k m := by simp [fMem, fObjs_eq, fNat_eq]
end

section
variable (P : Program) (cfg : Cfg)

/-- A value put down. -/
def sPut {β : Type} (pure : Bool) (s : St) (d : Option Tmp) (v : V) (k : St → β) : β :=
  fV v fun v => if pure = true then
      (match d with
        | some d => fSpine (s.env.set d v) fun e => k { s with env := e }
        | none => k s)
    else fMem s.mem fun m => (match d with
        | some d => fSpine (s.env.set d v) fun e => k { env := e, ds := s.ds, mem := m }
        | none => k { s with mem := m })
theorem sPut_eq {β : Type} (pure : Bool) (s : St) (d : Option Tmp) (v : V) (k : St → β) : sPut pure s d v k = k (s.put d v) := by
  unfold sPut
  rw [fV_eq]
  cases d <;> simp [fMem_eq, fSpine_eq, St.put]
def isPure (o : Op) : Bool := decide (kindIn P o = .pure)

def irunS (C : CallT) : List Oper → St → Option (Ex × St)
  | [], s => some (.normal, s)
  | o :: r, s => match iop P cfg C s o.op with
    | some (.ok v s') => sPut (isPure P o.op) s' o.dst v fun s => irunS C r s
    | some (.panic v s') => some (.panic v, s')
    | none => none
theorem irunS_eq (C : CallT) : ∀ (l : List Oper) (s : St), irunS P cfg C l s = irun P cfg C l s
  | [], s => rfl
  | o :: r, s => by
    simp only [irunS, irun]
    rcases iop P cfg C s o.op with _ | ⟨v, s'⟩ | ⟨v, s'⟩
    · rfl
    · simp only [sPut_eq]; exact irunS_eq C r _
    · rfl
def iopsS (C : CallT) (all : Array Oper) : List (Option (Nat × Bool) × List Oper) → St → Option (Ex × St)
  | [], s => some (.normal, s)
  | (none, os) :: r, s => match irunS P cfg C os s with
    | some (.normal, s') => iopsS C all r s'
    | q => q
  | (some (j, want), os) :: r, s => match guardOf all j os with
    | some (d, own) => (s.env[d]?).bind fun v => gate own v want
        (match irunS P cfg C os (s.set d (.bool want)) with
          | some (.normal, s') => iopsS C all r s'
          | q => q)
        (iopsS C all r (undefs os (s.set d (.bool !want))))
        (iopsS C all r (undefs os s))
    | none => none
theorem iopsS_eq (C : CallT) (all : Array Oper) : ∀ (l : List (Option (Nat × Bool) × List Oper)) (s : St), iopsS P cfg C all l s = iops P cfg C all l s
  | [], s => rfl
  | (none, os) :: r, s => by
    simp only [iopsS, iops, irunS_eq]
    rcases irun P cfg C os s with _ | ⟨e, s'⟩
    · rfl
    · cases e <;> first | exact iopsS_eq C all r s' | rfl
  | (some (j, want), os) :: r, s => by
    simp only [iopsS, iops, irunS_eq]
    have h : iopsS P cfg C all r = iops P cfg C all r := funext (iopsS_eq C all r)
    rw [h]
    rfl
def drunS (C : CallT) (bf : Array Nat) : List Oper → Nat → Trk → St → Option (Nat × Trk × St)
  | [], i, k, s => some (i, k, s)
  | o :: r, i, k, s =>
    match kindIn P o.op with
    | .eff => match opEff P cfg C s o.op with
      | some (.ok v s') => if stands P bf k.seen i s'.mem = true then sPut false s' o.dst v fun s' => drunS C bf r (i + 1) { k with past := (i, s.mem) :: k.past } s' else none
      | _ => none
    | .new => match opNew P s.env s.mem o.op with
      | some (v, m) => if stands P bf k.seen i m = true then sPut false { s with mem := m } o.dst v fun s' => drunS C bf r (i + 1) { k with past := (i, s.mem) :: k.past } s' else none
      | none => none
    | .pure => match opPure P s.env s.mem o.op with
      | some v => fV v fun v => if reads o.op = true then
          (if stood P bf k.past i s.env o.op v = true then sPut true s o.dst v fun s' => drunS C bf r (i + 1) { k with seen := (i, s.env, o.op, v) :: k.seen } s' else none)
        else sPut true s o.dst v fun s => drunS C bf r (i + 1) k s
      | none => none
theorem drunS_eq (C : CallT) (bf : Array Nat) : ∀ (l : List Oper) (i : Nat) (k : Trk) (s : St), drunS P cfg C bf l i k s = drun P cfg C bf l i k s
  | [], _, _, _ => rfl
  | o :: r, i, k, s => by
    have h : drunS P cfg C bf r = drun P cfg C bf r := by funext a b c; exact drunS_eq C bf r a b c
    simp only [drunS, drun, sPut_eq, h, fV_eq]
    rfl
def idopsS (C : CallT) (all : Array Oper) (bf : Array Nat) : List (Option (Nat × Bool) × List Oper) → Nat → Trk → St → Option (Ex × St)
  | [], _, _, s => some (.normal, s)
  | (none, os) :: r, i, k, s => match drunS P cfg C bf os i k s with
    | some (i', k', s') => idopsS C all bf r i' k' s'
    | none => none
  | (some (j, want), os) :: r, i, k, s => match guardOf all j os with
    | some (d, own) => (s.env[d]?).bind fun v => gate own v want
        (match drunS P cfg C bf os i k (s.set d (.bool want)) with
          | some (i', k', s') => idopsS C all bf r i' k' s'
          | none => none)
        (idopsS C all bf r (i + os.length) k (undefs os (s.set d (.bool !want))))
        (idopsS C all bf r (i + os.length) k (undefs os s))
    | none => none
theorem idopsS_eq (C : CallT) (all : Array Oper) (bf : Array Nat) : ∀ (l : List (Option (Nat × Bool) × List Oper)) (i : Nat) (k : Trk) (s : St), idopsS P cfg C all bf l i k s = idops P cfg C all bf l i k s
  | [], _, _, _ => rfl
  | (g, os) :: r, i, k, s => by
    have h : idopsS P cfg C all bf r = idops P cfg C all bf r := by funext a b c; exact idopsS_eq C all bf r a b c
    cases g with
    | none => simp only [idopsS, idops, drunS_eq, h]; rfl
    | some g => obtain ⟨j, want⟩ := g; simp only [idopsS, idops, drunS_eq, h]; rfl
def iterS : Nat → (St → Option (Ex × St)) → St → Option (Ex × St)
  | 0, _, _ => none
  | .succ k, F, s => match F s with
    | some (.normal, s') => fSpine s'.env fun e => iterS k F { s' with env := e }
    | r => r
theorem iterS_eq (F : St → Option (Ex × St)) : ∀ (n : Nat) (s : St), iterS n F s = iter n F s
  | 0, s => rfl
  | n + 1, s => by
    simp only [iterS, iter]
    rcases F s with _ | ⟨e, s'⟩
    · rfl
    · cases e <;> first | (simp only [fSpine_eq]; exact iterS_eq F n s') | rfl
def ievS (C : CallT) (n : Nat) (f : FuncId) : Code → St → Option (Ex × St)
  | .skip, s => some (.normal, s)
  | .region _ ops draw, s =>
    if draw = true then
      (if chained P ops (Region.before ops) = true then idopsS P cfg C ops (Region.before ops) (grouped ops.toList) 0 ⟨[], []⟩ s else none)
    else iopsS P cfg C ops (grouped ops.toList) s
  | .seq a b, s => match ievS C n f a s with
    | some (.normal, s') => ievS C n f b s'
    | r => r
  | .cond c a b, s => match evO P s.env c with
    | some (.bool t) => if t = true then ievS C n f a s else ievS C n f b s
    | _ => none
  | .block id body, s => match hookOf cfg f body with
    | some H => match H s with
      | some s' => fV1s (norm s.env.length s.ds s').env fun e => fMem (norm s.env.length s.ds s').mem fun m => some (.normal, ⟨e, (norm s.env.length s.ds s').ds, m⟩)
      | none => none
    | none => match ievS C n f body s with
      | some (.exit i, s') => if i = id then some (.normal, s') else some (.exit i, s')
      | r => r
  | .loop body, s => (iterS n (fun s => roundEnd cfg f body (ievS C n f body (forget cfg f body s))) (bare (forget cfg f body s))).map fun r => (r.1, norm s.env.length s.ds r.2)
  | .exit id, s => some (.exit id, s)
  | .ret, s => some (.ret, s)
  | .scope body, s => ievS C n f body s
  | .label _, s => some (.normal, s)
  | _, _ => none
theorem ievS_eq (C : CallT) (n : Nat) (f : FuncId) : ∀ (c : Code) (s : St), ievS P cfg C n f c s = iev P cfg C n f c s := by
  intro c
  induction c with
  | skip => intro s; rfl
  | region id ops draw => intro s; simp only [ievS, iev, idopsS_eq, iopsS_eq]
  | seq a b iha ihb =>
    intro s
    simp only [ievS, iev, iha]
    rcases iev P cfg C n f a s with _ | ⟨e, s'⟩
    · rfl
    · cases e <;> first | exact ihb s' | rfl
  | cond c a b iha ihb => intro s; simp only [ievS, iev, iha, ihb]; rfl
  | block id body ih =>
    intro s
    simp only [ievS, iev, ih]
    cases hookOf cfg f body with
    | none => rfl
    | some H =>
      simp only
      cases H s with
      | none => rfl
      | some s' => simp [fV1s_eq, fMem_eq]
  | loop body ih =>
    intro s
    simp only [ievS, iev, iterS_eq]
    have h : ievS P cfg C n f body = iev P cfg C n f body := funext ih
    rw [h]
  | exit id => intro s; rfl
  | ret => intro s; rfl
  | scope body ih => intro s; exact ih s
  | label l => intro s; rfl
  | _ => intros; rfl

def icallS : Nat → CallT
  | 0 => fun _ _ _ => none
  | .succ n => fun tg args m =>
    match tg with
    | .fn f =>
      match cfg.sum f with
      | some S => match S args m with
        | some r => fV r.1 fun v => fMem r.2 fun m => some (.ret v, m)
        | none => none
      | none =>
      match P.funcs[f]? with
      | some fn => match fn.body with
        | some c => match fSpine (startSt fn (cfg.gc f) args m).env fun e => ievS P cfg (icallS n) n f c { startSt fn (cfg.gc f) args m with env := e } with
          | some (.normal, s) => match finish P fn (cfg.gc f) m s with
            | some (.ret v, m) => fV v fun v => fMem m fun m => some (.ret v, m)
            | r => r
          | some (.ret, s) => match finish P fn (cfg.gc f) m s with
            | some (.ret v, m) => fV v fun v => fMem m fun m => some (.ret v, m)
            | r => r
          | _ => none
        | none => none
      | none => none
    | .yield _ => none
theorem icallS_eq : ∀ (n : Nat), icallS P cfg n = icall P cfg n
  | 0 => rfl
  | n + 1 => by
    funext tg args m
    simp only [icallS, icall, icallS_eq n, ievS_eq, fSpine_eq, fV_eq, fMem_eq]
    cases tg with
    | yield l => rfl
    | fn f =>
      simp only
      cases cfg.sum f with
      | some S => simp only; cases S args m <;> rfl
      | none =>
        simp only
        cases P.funcs[f]? with
        | none => rfl
        | some fn =>
          simp only
          cases fn.body with
          | none => rfl
          | some c =>
            simp only
            rcases iev P cfg (icall P cfg n) n f c (startSt fn (cfg.gc f) args m) with _ | ⟨e, s⟩
            · rfl
            · cases e <;> simp only
              · rcases finish P fn (cfg.gc f) m s with _ | ⟨_ | _, _⟩ <;> rfl
              · rcases finish P fn (cfg.gc f) m s with _ | ⟨_ | _, _⟩ <;> rfl
/-- A call of a function as its code stands, its own calls handed on. -/
def stepC (C : CallT) (n : Nat) (f : FuncId) (args : List V) (m : Mem) : Option (Out × Mem) :=
  match P.funcs[f]? with
  | some fn => match fn.body with
    | some c => match ievS P cfg C n f c (startSt fn (cfg.gc f) args m) with
      | some (.normal, s) => finish P fn (cfg.gc f) m s
      | some (.ret, s) => finish P fn (cfg.gc f) m s
      | _ => none
    | none => none
  | none => none
theorem stepC_eq (n : Nat) (f : FuncId) (args : List V) (m : Mem) (hs : cfg.sum f = none) : stepC P cfg (icall P cfg n) n f args m = icall P cfg (n + 1) (.fn f) args m := by
  simp only [stepC, icall, hs, ievS_eq]
  rfl
/-- A closed call, worked out. -/
theorem ranS {P : Program} {cfg : Cfg} {k : Nat} {f : FuncId} {args : List V} {m : Mem} {o : Out} (h : (icallS P cfg k (.fn f) args m).map (·.1) = some o) : ∃ m', icall P cfg k (.fn f) args m = some (o, m') := by
  rw [icallS_eq] at h
  exact ran h
end
end Go.Ig
