/-
  An evaluator of the model's code over a memory of its own: no tape, no real addresses. That it tells the truth of the model is proved in IgSound.
-/
import GoSem.Step
namespace Go.Ig
open Go

/-- Values. A pointer is a block's number, a generation of it, a place in it; a slice has besides how many cells an element has. '.any': nothing is known of it. -/
inductive V where
  | bool (b : Bool)
  | u8 (b : UInt8)
  | int (k : IntKind) (n : Int)
  | str (s : List UInt8)
  | ptr (b g o : Nat)
  | nilp
  | slice (b g o z len cap : Nat)
  | nils
  /-- a slice that is not nil, without room: nothing is known of where it lies -/
  | emp
  | map (r : Nat)
  | nilm
  | fn (f : FuncId) (first captured : List V)
  | yield (l : Nat)
  | nilf
  | iface (t : TypeId) (v : V)
  | nili
  | agg (cs : List V)
  | tuple (vs : List V)
  | any
  deriving Inhabited

def V.undef : V := .tuple []
/-- A number of a kind (that fits it). -/
def mkInt (k : IntKind) (n : Int) : V :=
  match k with
  | .u8 => .u8 (UInt8.ofNat n.toNat)
  | k => .int k n
/-- A value's kind and number, if it is one. -/
def V.num : V → Option (IntKind × Int)
  | .u8 b => some (.u8, (b.toNat : Int))
  | .int k n => some (k, n)
  | _ => none
def V.cells : V → List V
  | .agg cs => cs
  | v => [v]

/-- Is anything known of it? -/
def V.known : V → Bool
  | .any => false
  | _ => true

/-- May the value lie in one cell? -/
def V.one : V → Bool
  | .agg _ | .tuple _ | .any => false
  | _ => true

/-- Does the value (of one cell) lead nowhere? -/
def V.flat : V → Bool
  | .bool _ | .u8 _ | .int .. | .str _ | .nilp | .nils | .emp | .nilm | .nilf | .nili => true
  | _ => false

mutual
def ofConst : Value → Option V
  | .bool b => some (.bool b)
  | .int .u8 x => if 0 ≤ x ∧ x < 256 then some (.u8 (UInt8.ofNat x.toNat)) else none
  | .int k x => some (.int k x)
  | .string s => some (.str s.data.toList)
  | .pointer none => some .nilp
  | .slice none 0 0 => some .nils
  | .map none => some .nilm
  | .nilFunc => some .nilf
  | .nilIface => some .nili
  | .agg ⟨cs⟩ => (ofConsts cs).map .agg
  | .tuple ⟨cs⟩ => (ofConsts cs).map .tuple
  | .iface t v => (ofConst v).map (.iface t)
  | _ => none
def ofConsts : List Value → Option (List V)
  | [] => some []
  | v :: r => match ofConst v, ofConsts r with
    | some x, some xs => some (x :: xs)
    | _, _ => none
end

/-- How a row of cells may be used: 'ro': read alone; 'exact': the block has just these cells; 'vec g': the block (in its generation g) may have more behind them. -/
inductive Mode where
  | ro | exact | vec (g : Nat)
  deriving DecidableEq, Inhabited
def Mode.gen : Mode → Nat
  | .vec g => g
  | _ => 0
def Mode.writes : Mode → Bool
  | .ro => false
  | _ => true

inductive Obj where
  | u8 (l : List UInt8) (m : Mode)
  | row (l : List V) (m : Mode)
  | map (es : List (V × V × Nat)) (clock : Nat)
  | loop (st : LoopState) (pending : Option Code) (fn : FuncId) (tmps : List V) (params : List Tmp) (assign body : Code) (defers : Nat)
  | defr (taken : Bool)
  | iter (map : Option Nat) (since : Nat) (seen : List Nat) (last : Nat)
  | dead
  deriving Inhabited

/-- 'guard': in blocks below it nothing that leads somewhere may be stored. -/
structure Mem where
  objs : List Obj
  guard : Nat

inductive Df where
  | collected (r : Nat)
  | call (f : FuncId) (args : List V)
  deriving Inhabited

structure St where
  env : List V
  ds : List Df
  mem : Mem

inductive Ex where
  | normal
  | exit (id : Nat)
  | ret
  | panic (v : V)

inductive Out where
  | ret (v : V)
  | panic (v : V)

inductive Tg where
  | fn (f : FuncId)
  | yield (l : Nat)

abbrev CallT := Tg → List V → Mem → Option (Out × Mem)

/-- What one operation comes to. -/
inductive Res where
  | ok (v : V) (s : St)
  | panic (v : V) (s : St)

/-! ### memory -/
def Mem.cells? (m : Mem) (b g o n : Nat) : Option (List V) :=
  match m.objs[b]? with
  | some (.u8 l md) => if md.gen = g ∧ o + n ≤ l.length then some (((l.drop o).take n).map V.u8) else none
  | some (.row l md) => if md.gen = g ∧ o + n ≤ l.length then some ((l.drop o).take n) else none
  | _ => none
def Mem.cell? (m : Mem) (b g o : Nat) : Option V :=
  match m.objs[b]? with
  | some (.u8 l md) => if md.gen = g then (l[o]?).map V.u8 else none
  | some (.row l md) => if md.gen = g then l[o]? else none
  | _ => none
def toU8 : List V → Option (List UInt8)
  | [] => some []
  | .u8 x :: r => (toU8 r).map (x :: ·)
  | _ => none
def splice {α : Type} (l : List α) (o : Nat) (us : List α) : List α := l.take o ++ us ++ l.drop (o + us.length)
def Mode.fixed : Mode → Bool
  | .vec _ => false
  | _ => true
/-- Has a block just the cells that are told? -/
def Mem.firm (m : Mem) (b g : Nat) : Bool :=
  match m.objs[b]? with
  | some (.u8 _ md) => md.fixed && md.gen == g
  | some (.row _ md) => md.fixed && md.gen == g
  | _ => false
def Mem.setObj (m : Mem) (b : Nat) (o : Obj) : Mem := { m with objs := m.objs.set b o }
def Mem.store (m : Mem) (b g o : Nat) (v : V) : Option Mem :=
  match m.objs[b]? with
  | some (.u8 l md) => match v with
    | .u8 x => if md.gen = g ∧ md.writes = true ∧ o < l.length then some (m.setObj b (.u8 (l.set o x) md)) else none
    | _ => none
  | some (.row l md) => if md.gen = g ∧ md.writes = true ∧ o < l.length ∧ v.one = true ∧ (v.flat = true ∨ m.guard ≤ b) then some (m.setObj b (.row (l.set o v) md)) else none
  | _ => none
def Mem.stores (m : Mem) (b g o : Nat) (vs : List V) : Option Mem :=
  match m.objs[b]? with
  | some (.u8 l md) => match toU8 vs with
    | some us => if md.gen = g ∧ md.writes = true ∧ o + us.length ≤ l.length then some (m.setObj b (.u8 (splice l o us) md)) else none
    | none => none
  | some (.row l md) => if md.gen = g ∧ md.writes = true ∧ o + vs.length ≤ l.length ∧ vs.all V.one = true ∧ (vs.all V.flat = true ∨ m.guard ≤ b) then some (m.setObj b (.row (splice l o vs) md)) else none
  | _ => none
def Mem.add (m : Mem) (o : Obj) : Mem := { m with objs := m.objs ++ [o] }

section
variable (P : Program)

def isU8 (t : TypeId) : Bool :=
  match P.underlying t with
  | some (.int .u8) => true
  | some (.array _ e) => match P.underlying e with | some (.int .u8) => true | _ => false
  | _ => false
def isByte (t : TypeId) : Bool :=
  match P.underlying t with
  | some (.int .u8) => true
  | _ => false
def aggD : TypeDesc → Bool
  | .struct _ | .array _ _ => true
  | _ => false
/-- Is a type one of structs or arrays? -/
def aggO (t : TypeId) : Option Bool := (P.underlying t).map aggD
/-- How many cells a value of a type has; how many bytes. -/
def szO (t : TypeId) : Option Nat := (P.info? t).map (·.size)
def byO (t : TypeId) : Option Nat := (P.info? t).map (·.bytes)
def zeroOf (t : TypeId) : Option V := ((P.info? t).bind (·.zero)).bind ofConst

/-- A row of cells, as a new block's content. -/
def mkRow (t : TypeId) (cells : List V) (md : Mode) : Option Obj :=
  if isU8 P t then (toU8 cells).map (.u8 · md) else if cells.all V.one then some (.row cells md) else none

/-! ### operations without memory -/
def intBin (op : BinOp) (k : IntKind) (x y : Int) : Option V :=
  let a := BitVec.ofInt k.bits x
  let b := BitVec.ofInt k.bits y
  match op with
  | .add => some (mkInt k (k.wrap (x + y)))
  | .sub => some (mkInt k (k.wrap (x - y)))
  | .mul => some (mkInt k (k.wrap (x * y)))
  | .quo => if y = 0 then none else some (mkInt k (k.wrap (x.tdiv y)))
  | .rem => if y = 0 then none else some (mkInt k (x.tmod y))
  | .and => some (mkInt k (k.wrap (a &&& b).toNat))
  | .or => some (mkInt k (k.wrap (a ||| b).toNat))
  | .xor => some (mkInt k (k.wrap (a ^^^ b).toNat))
  | .andNot => some (mkInt k (k.wrap (a &&& ~~~b).toNat))
  | .eql => some (.bool (x == y))
  | .neq => some (.bool (x != y))
  | .lss => some (.bool (decide (x < y)))
  | .leq => some (.bool (decide (x ≤ y)))
  | .gtr => some (.bool (decide (x > y)))
  | .geq => some (.bool (decide (x ≥ y)))
  | _ => none
def shiftBin (op : BinOp) (k : IntKind) (x y : Int) : Option V :=
  if y < 0 then none else
  let n := min y.toNat k.bits
  match op with
  | .shl => some (mkInt k (k.wrap (x * 2 ^ n)))
  | .shr => some (mkInt k (x.fdiv (2 ^ n)))
  | _ => none

/-- A part of an aggregate. -/
def partOf (t : TypeId) (cs : List V) (off : Nat) : Option V :=
  (aggO P t).bind fun ag => if ag = true then (szO P t).bind fun n => if off + n ≤ cs.length then some (.agg ((cs.drop off).take n)) else none else cs[off]?

mutual
/-- Equality, as Go has it for a type. -/
def eqIn : Nat → TypeId → V → V → Option Bool
  | 0, _, _, _ => none
  | d + 1, t, x, y =>
    match P.underlying t, x, y with
    | some .bool, .bool a, .bool b => some (a == b)
    | some (.int _), .u8 a, .u8 b => some ((a.toNat : Int) == (b.toNat : Int))
    | some (.int _), .int k a, .int k' b => if k = k' then some (a == b) else none
    | some .string, .str a, .str b => some (a == b)
    | some (.pointer _), .nilp, .nilp => some true
    | some (.pointer _), .nilp, .ptr .. => some false
    | some (.pointer _), .ptr .., .nilp => some false
    | some (.slice _), .nils, .nils => some true
    | some (.slice _), .nils, .slice .. => some false
    | some (.slice _), .slice .., .nils => some false
    | some (.slice _), .nils, .emp => some false
    | some (.slice _), .emp, .nils => some false
    | some (.map _ _), .nilm, .nilm => some true
    | some (.map _ _), .nilm, .map _ => some false
    | some (.map _ _), .map _, .nilm => some false
    | some (.func ..), .nilf, .nilf => some true
    | some (.func ..), .nilf, .fn .. => some false
    | some (.func ..), .fn .., .nilf => some false
    | some (.interface _), .nili, .nili => some true
    | some (.interface _), .nili, .iface .. => some false
    | some (.interface _), .iface .., .nili => some false
    | some (.struct fields), .agg xs, .agg ys => if P.stoodInHeld t then none else eqFields d fields.toList xs ys
    | _, _, _ => none
def eqFields : Nat → List Field → List V → List V → Option Bool
  | _, [], _, _ => some true
  | 0, _ :: _, _, _ => none
  | d + 1, f :: fs, xs, ys =>
    if f.name ≠ "_" then
      match partOf P f.type xs f.offset, partOf P f.type ys f.offset with
      | some a, some b => match eqIn d f.type a b with
        | some true => eqFields d fs xs ys
        | some false => some false
        | none => none
      | _, _ => none
    else eqFields d fs xs ys
end

def eqV (t : TypeId) (x y : V) : Option Bool := eqIn P 30 t x y

def binOpV (op : BinOp) (t : TypeId) (x y : V) : Option V :=
  match x.num, y.num with
  | some (k, a), some (k', b) => (match op with
    | .shl => shiftBin .shl k a b
    | .shr => shiftBin .shr k a b
    | op => if k = k' then intBin op k a b else none)
  | _, _ =>
  match op, x, y with
  | .add, .str a, .str b => if a.length + b.length ≤ 140737488355328 then some (.str (a ++ b)) else none
  | .eql, .str a, .str b => some (.bool (a == b))
  | .neq, .str a, .str b => some (.bool !(a == b))
  | .eql, .agg a, .agg b => if P.eqGuardType P.depth t then none else (eqV P t (.agg a) (.agg b)).map .bool
  | .neq, .agg a, .agg b => if P.eqGuardType P.depth t then none else (eqV P t (.agg a) (.agg b)).map fun r => .bool !r
  | .eql, .nili, .nili => none
  | .neq, .nili, .nili => none
  | .eql, x, y => (eqV P t x y).map .bool
  | .neq, x, y => (eqV P t x y).map fun r => .bool !r
  | _, _, _ => none

def unOpV (op : UnOp) (x : V) : Option V :=
  match op, x with
  | .neg, .u8 n => intBin .sub .u8 0 n.toNat
  | .neg, .int k n => intBin .sub k 0 n
  | .xor, .u8 n => intBin .xor .u8 255 n.toNat
  | .xor, .int k n => intBin .xor k (if k.signed then -1 else k.max) n
  | .not, .bool b => some (.bool !b)
  | _, _ => none

def addB (o n : Nat) : Nat := o + n

/-- A bound of a slice expression. -/
def boundV (x : V) (y : Nat) : Option Nat :=
  match x.num with
  | some (_, i) => if 0 ≤ i ∧ i ≤ (y : Int) then some i.toNat else none
  | none => none
def boundO (x : Option V) (dflt y : Nat) : Option Nat :=
  match x with
  | none => some dflt
  | some v => boundV v y

def sliceV (m : Mem) (t : TypeId) (x : V) (lo hi mx : Option V) : Option V :=
  if mx.isSome = true ∧ hi.isSome = false then none else
  match P.underlying t, x with
  | some .string, .str s =>
    if mx.isSome then none else
    match boundO hi s.length s.length with
    | none => none
    | some h => match boundO lo 0 h with
      | none => none
      | some l => some (.str ((s.take h).drop l))
  | some (.slice e), .nils =>
    match boundO mx 0 0 with
    | none => none
    | some _ => match boundO hi 0 0 with
      | none => none
      | some h => match boundO lo 0 h with
        | none => none
        | some _ => match szO P e with
          | some _ => some .nils
          | none => none
  | some (.slice e), .slice b g o z len cap =>
    (szO P e).bind fun size =>
    if z ≠ size then none else
    match boundO mx cap cap with
    | none => none
    | some c => match boundO hi len c with
      | none => none
      | some h => match boundO lo 0 h with
        | none => none
        | some l =>
          if c = l then
            (if (mx.isSome || m.firm b g) = true then some (.slice b g o z (h - l) 0) else none)
          else some (.slice b g (o + l * size) z (h - l) (c - l))
  | some (.array n e), .ptr b g o =>
    (szO P e).bind fun size =>
    match boundO mx n n with
    | none => none
    | some c => match boundO hi n c with
      | none => none
      | some h => match boundO lo 0 h with
        | none => none
        | some l => if (m.firm b g || (decide (0 < n * size) && (m.cells? b g o (n * size)).isSome)) = true then some (.slice b g (if c = l then o else o + l * size) size (h - l) (c - l)) else none
  | _, _ => none

def indexAddrV (t : TypeId) (x i : V) : Option V :=
  match P.underlying t, x, i.num with
  | some (.array n e), .ptr b g o, some (_, k) => if 0 ≤ k ∧ k < (n : Int) then (szO P e).bind fun size => some (.ptr b g (o + k.toNat * size)) else none
  | some (.slice e), .slice b g o _ len _, some (_, k) => if 0 ≤ k ∧ k < (len : Int) then (szO P e).bind fun size => some (.ptr b g (o + k.toNat * size)) else none
  | _, _, _ => none

def indexV (t : TypeId) (x i : V) : Option V :=
  match P.underlying t, x, i.num with
  | some (.array n e), .agg cs, some (_, k) => if 0 ≤ k ∧ k < (n : Int) then (szO P e).bind fun size => partOf P e cs (k.toNat * size) else none
  | some .string, .str s, some (_, k) => if 0 ≤ k ∧ k < (s.length : Int) then (s[k.toNat]?).map V.u8 else none
  | _, _, _ => none

def fieldsOf (t : TypeId) : Option (Array Field) :=
  match P.underlying t with
  | some (.struct fs) => some fs
  | _ => none
def fieldAddrV (t : TypeId) (x : V) (f : Nat) : Option V :=
  match fieldsOf P t, x with
  | some fs, .ptr b g o => match fs[f]? with
    | some f => (szO P f.type).bind fun n => if n = 0 then none else some (.ptr b g (o + f.offset))
    | none => none
  | _, _ => none
def fieldV (t : TypeId) (x : V) (f : Nat) : Option V :=
  match fieldsOf P t, x with
  | some fs, .agg cs => match fs[f]? with
    | some f => partOf P f.type cs f.offset
    | none => none
  | _, _ => none

/-- Parts laid into an aggregate's cells. -/
def fillV (place : Nat → Option (Nat × Nat)) (cells : List V) : List (Nat × V) → Option (List V)
  | [] => some cells
  | (i, v) :: rest =>
    match place i with
    | none => none
    | some (off, size) =>
      if v.known = true ∧ v.cells.length = size ∧ off + size ≤ cells.length then fillV place (splice cells off v.cells) rest else none
def buildV (t : TypeId) (parts : List (Nat × V)) : Option V :=
  match zeroOf P t, P.underlying t with
  | some z, some (.struct fs) => if fs.all (fun f => (szO P f.type).isSome) = true then (fillV (fun i => (fs[i]?).map fun f => (f.offset, P.cellsOf f.type)) z.cells parts).map .agg else none
  | some z, some (.array _ e) => (szO P e).bind fun size => (fillV (fun i => some (i * size, size)) z.cells parts).map .agg
  | _, _ => none

def convV (src dst : TypeId) (x : V) : Option V :=
  match P.underlying src, P.underlying dst, x.num with
  | some (.int _), some (.int k), some (_, n) => some (mkInt k (k.wrap n))
  | some .string, some .string, none => (match x with | .str s => some (.str s) | _ => none)
  | _, _, _ => none

def repl {α : Type} (n : Nat) (zs : List α) : List α := (List.replicate n zs).flatten

/-- How many cells a list of bytes, or of values, has that a builtin reads. -/
def lenV : V → Option Nat
  | .nils => some 0
  | .emp => some 0
  | .slice _ _ _ _ len _ => some len
  | .str s => some s.length
  | _ => none
def readV (m : Mem) (size n : Nat) : V → Option (List V)
  | .nils => some []
  | .emp => if n = 0 then some [] else none
  | .slice b g o _ _ _ => m.cells? b g o (n * size)
  | .str s => some ((s.take n).map V.u8)
  | _ => none

/-- May a value of a type be what is appended? -/
def srcT (xT : Option TypeId) : Bool :=
  match xT.bind P.underlying with
  | some (.slice _) | some .string => true
  | _ => false
/-- append -/
def appendV (m : Mem) (sT : TypeId) (xT : Option TypeId) (s x : V) : Option (V × Mem) :=
  match P.underlying sT with
  | some (.slice e) =>
    if srcT P xT = false then none else
    (szO P e).bind fun size => (byO P e).bind fun bytes => (zeroOf P e).bind fun z0 =>
    (lenV x).bind fun n => (readV m size n x).bind fun new =>
    if z0.cells.length ≠ size ∨ new.length ≠ n * size ∨ new.all V.one = false then none else
    match s with
    | .nils =>
      if n = 0 then some (.nils, m)
      else if (2 * n + 1024) * (bytes + 1) ≤ 281474976710656 then
        (mkRow P e new (.vec 0)).bind fun o => some (.slice m.objs.length 0 0 size n n, m.add o)
      else none
    | .slice b g o z sLen sCap =>
      if z ≠ size then none else
      if sLen + n ≤ sCap then
        (if n = 0 then some (.slice b g o z sLen sCap, m)
         else (m.stores b g (o + sLen * size) new).bind fun m' => some (.slice b g o z (sLen + n) sCap, m'))
      else if (2 * (sLen + n) + 1024) * (bytes + 1) ≤ 281474976710656 then
        match m.objs[b]? with
        | some (.u8 l (.vec h)) =>
          if g = h ∧ o = 0 ∧ l.length = sLen * size then
            (toU8 new).bind fun us => some (.slice b (h + 1) 0 z (sLen + n) (sLen + n), m.setObj b (.u8 (l ++ us) (.vec (h + 1))))
          else none
        | some (.row l (.vec h)) =>
          if g = h ∧ o = 0 ∧ l.length = sLen * size ∧ (new.all V.flat = true ∨ m.guard ≤ b) then
            some (.slice b (h + 1) 0 z (sLen + n) (sLen + n), m.setObj b (.row (l ++ new) (.vec (h + 1))))
          else none
        | _ => (m.cells? b g o (sLen * size)).bind fun old => (mkRow P e (old ++ new) (.vec 0)).bind fun ob =>
          some (.slice m.objs.length 0 0 z (sLen + n) (sLen + n), m.add ob)
      else none
    | _ => none
  | _ => none

def copyV (m : Mem) (dT : TypeId) (d s : V) : Option (V × Mem) :=
  match P.underlying dT with
  | some (.slice e) =>
    (lenV s).bind fun k =>
    match d with
    | .nils => (szO P e).bind fun _ => some (.int .i64 0, m)
    | .slice b g o _ dLen _ =>
      (szO P e).bind fun size => (readV m size (min k dLen) s).bind fun cs =>
      if cs.length = 0 then some (.int .i64 ((min k dLen : Nat) : Int), m) else (m.stores b g o cs).bind fun m' => some (.int .i64 ((min k dLen : Nat) : Int), m')
    | _ => none
  | _ => none

def keyIs : TypeDesc → V → V → Option Bool
  | .int _, .int k a, .int k' b => if k = k' then some (a == b) else none
  | .string, .str a, .str b => some (a == b)
  | .bool, .bool a, .bool b => some (a == b)
  | _, _, _ => none
def findK (kd : TypeDesc) (k : V) : List (V × V × Nat) → Nat → Option (Option (Nat × V))
  | [], _ => some none
  | e :: es, i => match keyIs kd k e.1 with
    | some true => some (some (i, e.2.1))
    | some false => findK kd k es (i + 1)
    | none => none
/-- Is a type one whose values may be keys here? -/
def keyD : TypeDesc → Bool
  | .int _ | .string | .bool => true
  | _ => false

/-! ### operations -/
/-- Functions of Go's library without a body, so far as they are known here. -/
inductive Ext where
  | atomicAdd | atomicLoad | atomicStore | mapClone
  deriving DecidableEq

structure Cfg where
  /-- of a loop of a function (by the number of its first region): which temporaries a round reads from ahead of it; which are read behind the loop -/
  live : FuncId → Nat → Option (List Nat × List Nat)
  /-- is what a function has made, and doesn't hand back, struck when it returns? -/
  gc : FuncId → Bool
  ext : FuncId → Option Ext
  /-- functions of which it is told elsewhere what they come to -/
  sum : FuncId → Option (List V → Mem → Option (V × Mem))
  /-- blocks of a function's code (by the number of the first region) of which it is told elsewhere what they come to -/
  hook : FuncId → Nat → Option (St → Option St)

variable (cfg : Cfg)

def evO (env : List V) : Operand → Option V
  | .tmp t => env[t]?
  | .const v => ofConst v
  | .global g => if g < P.globals.size then some (.ptr g 0 0) else none
  | .func f => some (.fn f [] [])
def evOs (env : List V) : List Operand → Option (List V)
  | [] => some []
  | x :: r => match evO P env x, evOs env r with
    | some v, some vs => some (v :: vs)
    | _, _ => none
def evOpt (env : List V) : Option Operand → Option (Option V)
  | none => some none
  | some x => (evO P env x).map some
def evParts (env : List V) : List (Nat × Operand) → Option (List (Nat × V))
  | [] => some []
  | (i, x) :: r => match evO P env x, evParts env r with
    | some v, some vs => some ((i, v) :: vs)
    | _, _ => none

def loadV (m : Mem) (t : TypeId) (a : V) : Option V :=
  match a with
  | .ptr b g o => (aggO P t).bind fun ag => if ag = true then (szO P t).bind fun n => (m.cells? b g o n).map .agg else m.cell? b g o
  | _ => none
def storeV (m : Mem) (t : TypeId) (a v : V) : Option Mem :=
  match a with
  | .ptr b g o =>
    (szO P t).bind fun n => match v with
    | .agg cs => if cs.length ≠ n then none else if n = 0 then some m else m.stores b g o cs
    | v => if n = 1 then m.store b g o v else none
  | _ => none

def extV (x : Ext) (args : List V) (m : Mem) : Option (V × Mem) :=
  match x, args with
  | .atomicAdd, [.ptr b g o, .int _ y] => match m.cell? b g o with
    | some (.int .i64 a) => (m.store b g o (.int .i64 (IntKind.i64.wrap (a + y)))).map fun m' => (.int .i64 (IntKind.i64.wrap (a + y)), m')
    | _ => none
  | .atomicLoad, [.ptr b g o] => match m.cell? b g o with
    | some (.int .i64 a) => some (.int .i64 a, m)
    | _ => none
  | .atomicStore, [.ptr b g o, .int .i64 y] => (m.store b g o (.int .i64 y)).map fun m' => (.tuple [], m')
  | .mapClone, [.iface t (.map r)] => match m.objs[r]? with
    | some (.map es c) => some (.iface t (.map m.objs.length), m.add (.map es c))
    | _ => none
  | _, _ => none

def lenB (m : Mem) (t : TypeId) (x : V) : Option Int :=
  match P.underlying t, x with
  | some .string, .str s => some (s.length : Int)
  | some (.slice _), .nils => some 0
  | some (.slice _), .emp => some 0
  | some (.slice _), .slice _ _ _ _ n _ => some (n : Int)
  | some (.array n _), _ => some (n : Int)
  | some (.map _ _), .nilm => some 0
  | some (.map _ _), .map r => match m.objs[r]? with
    | some (.map es _) => some (es.length : Int)
    | _ => none
  | _, _ => none
def capB (m : Mem) (t : TypeId) (x : V) : Option Int :=
  match P.underlying t, x with
  | some (.slice _), .nils => some 0
  | some (.slice _), .emp => some 0
  | some (.slice _), .slice b g _ _ _ c => if m.firm b g = true then some (c : Int) else none
  | _, _ => none

def builtinV (b : Builtin) (ts : Array TypeId) (args : List V) (m : Mem) : Option (V × Mem) :=
  match b, args with
  | .append, [s, x] => ts[0]?.bind fun t => appendV P m t ts[1]? s x
  | .copy, [d, s] => ts[0]?.bind fun t => copyV P m t d s
  | .len, [x] => ts[0]?.bind fun t => (lenB P m t x).map fun n => (.int .i64 n, m)
  | .cap, [x] => ts[0]?.bind fun t => (capB P m t x).map fun n => (.int .i64 n, m)
  | .clear, [.map r] => (ts[0]?.bind P.underlying).bind fun _ => match m.objs[r]? with
    | some (.map _ c) => some (.tuple [], m.setObj r (.map [] c))
    | _ => none
  | .max, [.int k a, .int k' c] => if k = k' then some (.int k (if a < c then c else a), m) else none
  | .min, [.int k a, .int k' c] => if k = k' then some (.int k (if c < a then c else a), m) else none
  | _, _ => none

def entriesV (m : Mem) : V → Option (List (V × V × Nat))
  | .nilm => some []
  | .map r => match m.objs[r]? with
    | some (.map es _) => some es
    | _ => none
  | _ => none
def lookupV (m : Mem) (t : TypeId) (x k : V) (ok : Bool) : Option V :=
  match P.underlying t with
  | some (.map kt et) =>
    (P.underlying kt).bind fun kd => if keyD kd = true ∧ k.known = true then (entriesV m x).bind fun es => (findK kd k es 0).bind fun r => match r with
      | some (_, v) => some (if ok then .tuple [v, .bool true] else v)
      | none => (zeroOf P et).map fun z => if ok then .tuple [z, .bool false] else z
    else none
  | _ => none
def mapSetV (m : Mem) (t : TypeId) (x k v : V) : Option Mem :=
  match P.underlying t, x with
  | some (.map kt _), .map r =>
    (P.underlying kt).bind fun kd => if keyD kd = true ∧ k.known = true ∧ k.flat = true ∧ (v.cells.all V.flat = true ∨ m.guard ≤ r) then
      match m.objs[r]? with
      | some (.map es c) => (findK kd k es 0).bind fun q => match q with
        | some (i, _) => some (m.setObj r (.map (es.modify i fun e => (k, v, e.2.2)) c))
        | none => some (m.setObj r (.map (es ++ [(k, v, c)]) (c + 1)))
      | _ => none
    else none
  | _, _ => none

def makeSliceV (m : Mem) (t : TypeId) (l c : V) : Option (V × Mem) :=
  match P.underlying t, l, c with
  | some (.slice e), .int .i64 l, .int .i64 c =>
    (szO P e).bind fun size => (byO P e).bind fun bytes =>
    if 0 ≤ l ∧ l ≤ c ∧ (bytes : Int) * c ≤ 281474976710656 ∧ c ≤ 9223372036854775807 then
      (zeroOf P e).bind fun z =>
      if z.cells.length ≠ size then none else
      if isU8 P e = true then (toU8 z.cells).bind fun us => some (.slice m.objs.length 0 0 size l.toNat c.toNat, m.add (.u8 (repl c.toNat us) .exact))
      else if z.cells.all V.one = true then some (.slice m.objs.length 0 0 size l.toNat c.toNat, m.add (.row (repl c.toNat z.cells) .exact)) else none
    else none
  | _, _, _ => none

/-! the operations on values -/
def pickV (c a b : V) : Option V :=
  match c with
  | .bool t => if t = true then some a else some b
  | _ => none
def nilChkV (v : V) : Option V :=
  match v with
  | .nilp | .nili | .nilf | .any => none
  | v => some v
/-- A conversion that makes no memory. -/
def convertV (m : Mem) (a b : TypeId) (v : V) : Option V :=
  match P.underlying a, P.underlying b, v with
  | some (.slice e), some .string, .nils => if isByte P e = true then some (.str []) else none
  | some (.slice e), some .string, .emp => if isByte P e = true then some (.str []) else none
  | some (.slice e), some .string, .slice b g o z len _ => if isByte P e = true ∧ z = 1 then (m.cells? b g o len).bind fun cs => (toU8 cs).map .str else none
  | _, _, _ => convV P a b v
def s2apV (t : TypeId) (v : V) : Option V :=
  match P.underlying t, v with
  | some (.array n _), .slice b g o _ len _ => if n ≤ len then some (.ptr b g o) else none
  | _, _ => none
def mkIfaceV (t : TypeId) (v : V) : Option V :=
  match P.underlying t with
  | some (.interface _) | none => none
  | _ => some (.iface t v)
def extractV (x : V) (i : Nat) : Option V :=
  match x with
  | .tuple vs => vs[i]?
  | _ => none
def assertV (x : V) (t : TypeId) (ok : Bool) : Option V :=
  match P.underlying t with
  | some (.interface _) | none => none
  | _ => match x with
    | .iface u v => if u = t then some (if ok then .tuple [v, .bool true] else v) else if ok = true then (zeroOf P t).map fun z => .tuple [z, .bool false] else none
    | .nili => if ok = true then (zeroOf P t).map fun z => .tuple [z, .bool false] else none
    | _ => none
/-- The entry at which a range over a map stands. -/
def entryV (m : Mem) (v : V) : Option V :=
  match v with
  | .ptr b 0 0 => match m.objs[b]? with
    | some (.iter (some r) _ seen last) => match seen.getLast?, m.objs[r]? with
      | some stamp, some (.map es c) => if c = last then (es.find? fun e => e.2.2 == stamp).map fun e => .tuple [e.1, e.2.1] else none
      | _, _ => none
    | _ => none
  | _ => none
def lenV1 (m : Mem) (t : Option TypeId) (x : V) : Option V := t.bind fun t => (lenB P m t x).map fun n => .int .i64 n
def capV1 (m : Mem) (t : Option TypeId) (x : V) : Option V := t.bind fun t => (capB P m t x).map fun n => .int .i64 n

/-- Operations that look at memory, but make and write none (and call nothing). -/
def opPure (env : List V) (m : Mem) (o : Op) : Option V :=
  match o with
  | .move x | .assign x => evO P env x
  | .pick c a b => (evO P env c).bind fun c => (evO P env a).bind fun a => (evO P env b).bind fun b => pickV c a b
  | .build t ps => (evParts P env ps.toList).bind fun vs => buildV P t vs
  | .load t a => (evO P env a).bind fun a => loadV P m t a
  | .nilCheck x => (evO P env x).bind fun v => nilChkV v
  | .binOp op t x y _ => (evO P env x).bind fun x => (evO P env y).bind fun y => binOpV P op t x y
  | .unOp op _ x => (evO P env x).bind fun x => unOpV op x
  | .convert a b x => (evO P env x).bind fun v => convertV P m a b v
  | .sliceToArrayPointer t x => (evO P env x).bind fun v => s2apV P t v
  | .makeInterface t x => (evO P env x).bind fun v => mkIfaceV P t v
  | .makeFunc (.func f) first cap => (evOs P env first.toList).bind fun a => (evOs P env cap.toList).bind fun b => some (.fn f a b)
  | .slice t x lo hi mx => (evO P env x).bind fun x => (evOpt P env lo).bind fun lo => (evOpt P env hi).bind fun hi => (evOpt P env mx).bind fun mx => sliceV P m t x lo hi mx
  | .fieldAddr t x f => (evO P env x).bind fun x => fieldAddrV P t x f
  | .field t x f => (evO P env x).bind fun x => fieldV P t x f
  | .indexAddr t x i => (evO P env x).bind fun x => (evO P env i).bind fun i => indexAddrV P t x i
  | .index t x i => (evO P env x).bind fun x => (evO P env i).bind fun i => indexV P t x i
  | .lookup t x k ok => (evO P env x).bind fun x => (evO P env k).bind fun k => lookupV P m t x k ok
  | .extract x i => (evO P env x).bind fun x => extractV x i
  | .entry x => (evO P env x).bind fun x => entryV m x
  | .typeAssert x _ t ok => (evO P env x).bind fun x => assertV P x t ok
  | .call { callee := .builtin .len, args, argTypes } => (evOs P env args.toList).bind fun l => match l with | [x] => lenV1 P m argTypes[0]? x | _ => none
  | .call { callee := .builtin .cap, args, argTypes } => (evOs P env args.toList).bind fun l => match l with | [x] => capV1 P m argTypes[0]? x | _ => none
  | _ => none

def allocV (m : Mem) (t : TypeId) : Option (V × Mem) := (zeroOf P t).bind fun z => (mkRow P t z.cells .exact).bind fun ob => some (.ptr m.objs.length 0 0, m.add ob)
def boxV (m : Mem) (t : TypeId) (v : V) : Option (V × Mem) := (mkRow P t v.cells .exact).bind fun ob => some (.ptr m.objs.length 0 0, m.add ob)
def buildSliceV (m : Mem) (t : TypeId) (n : Nat) (vs : List (Nat × V)) : Option (V × Mem) :=
  match P.underlying t with
  | some (.slice e) => (szO P e).bind fun size => (zeroOf P e).bind fun z =>
    if z.cells.length = size ∧ n * size ≤ 16777216 then
      (fillV (fun i => some (i * size, size)) (repl n z.cells) vs).bind fun cs =>
      (mkRow P e cs .exact).bind fun ob => some (.slice m.objs.length 0 0 size n n, m.add ob)
    else none
  | _ => none
def bytesOfV (m : Mem) (a b : TypeId) (v : V) : Option (V × Mem) :=
  match P.underlying a, P.underlying b, v with
  | some (.slice _), some (.slice e), .slice q g o z len cap =>
    if isByte P e = true ∧ a = b then
      match m.objs[q]? with
      | some (.u8 _ md) => if md.gen = g ∧ md.writes = true then some (.slice q g o z len cap, m) else none
      | _ => none
    else none
  | some .string, some (.slice e), .str l => if isByte P e = true ∧ l.length ≤ 140737488355328 then some (.slice m.objs.length 0 0 1 l.length l.length, m.add (.u8 l (.vec 0))) else none
  | _, _, _ => none
/-- A range over a map begins. -/
def rangeV (m : Mem) (t : TypeId) (v : V) : Option (V × Mem) :=
  match P.underlying t, v with
  | some (.map _ _), .map r => match m.objs[r]? with
    | some (.map _ c) => some (.ptr m.objs.length 0 0, m.add (.iter (some r) c [] c))
    | _ => none
  | _, _ => none
def makeMapV (m : Mem) : Option (V × Mem) := some (.map m.objs.length, m.add (.map [] 0))

/-- Operations that make a block. -/
def opNew (env : List V) (m : Mem) (o : Op) : Option (V × Mem) :=
  match o with
  | .alloc t => allocV P m t
  | .box t x => (evO P env x).bind fun v => boxV P m t v
  | .buildSlice t n ps => (evParts P env ps.toList).bind fun vs => buildSliceV P m t n vs
  | .convert a b x => (evO P env x).bind fun v => bytesOfV P m a b v
  | .makeMap _ none => makeMapV m
  | .range t x => (evO P env x).bind fun v => rangeV P m t v
  | .makeSlice t l c => (evO P env l).bind fun l => (evO P env c).bind fun c => makeSliceV P m t l c
  | _ => none

/-- Operations that may write, or call. -/
def opEff (C : CallT) (s : St) (o : Op) : Option Res :=
  let ev := evO P s.env
  match o with
  | .store t a x => (ev a).bind fun a => (ev x).bind fun x => (storeV P s.mem t a x).map fun m => .ok V.undef { s with mem := m }
  | .mapUpdate t x k v | .insert t x k v => (ev x).bind fun x => (ev k).bind fun k => (ev v).bind fun v => (mapSetV P s.mem t x k v).map fun m => .ok V.undef { s with mem := m }
  | .call c => (evOs P s.env c.args.toList).bind fun args =>
    match c.callee with
    | .builtin b => (builtinV P b c.argTypes args s.mem).map fun r => .ok r.1 { s with mem := r.2 }
    | .value f => (ev f).bind fun f => match f with
      | .fn f first cap => match cfg.ext f with
        | some x => (extV x (first ++ args ++ cap) s.mem).map fun r => .ok r.1 { s with mem := r.2 }
        | none => match C (.fn f) (first ++ args ++ cap) s.mem with
          | some (.ret v, m) => some (.ok v { s with mem := m })
          | some (.panic v, m) => some (.panic v { s with mem := m })
          | none => none
      | .yield l => match C (.yield l) args s.mem with
          | some (.ret v, m) => some (.ok v { s with mem := m })
          | some (.panic v, m) => some (.panic v { s with mem := m })
          | none => none
      | _ => none
    | .invoke .. => none
  | .panic x => (ev x).bind fun v => match v with
    | .iface t v => some (.panic (.iface t v) s)
    | _ => none
  | _ => none

inductive Kind where
  | pure | new | eff
  deriving DecidableEq
def kindOf : Op → Kind
  | .alloc .. | .box .. | .buildSlice .. | .makeMap .. | .makeSlice .. | .range .. => .new
  | .store .. | .mapUpdate .. | .insert .. | .defer .. | .panic .. => .eff
  | .call { callee := .builtin b, .. } => match b with
    | .len | .cap => .pure
    | _ => .eff
  | .call _ => .eff
  | _ => .pure
/-- A conversion of a string into bytes makes a block. -/
def kindIn (o : Op) : Kind :=
  match o with
  | .convert a b _ => match P.underlying a, P.underlying b with
    | some .string, some (.slice _) => .new
    | some (.slice _), some (.slice _) => .new
    | _, _ => .pure
  | o => kindOf o

def iop (C : CallT) (s : St) (o : Op) : Option Res :=
  match kindIn P o with
  | .pure => (opPure P s.env s.mem o).map fun v => .ok v s
  | .new => (opNew P s.env s.mem o).map fun r => .ok r.1 { s with mem := r.2 }
  | .eff => opEff P cfg C s o

def St.put (s : St) (d : Option Tmp) (v : V) : St :=
  match d with
  | some d => { s with env := s.env.set d v }
  | none => s

/-- Operations, those that hang on one guard together. -/
def grouped : List Oper → List (Option (Nat × Bool) × List Oper)
  | [] => []
  | o :: r => match grouped r with
    | (g, os) :: q => if g = o.guard then (g, o :: os) :: q else (o.guard, [o]) :: (g, os) :: q
    | [] => [(o.guard, [o])]
def slotOf (all : Array Oper) (j : Nat) : Option Tmp := (all[j]?).bind (·.dst)
/-- Where a group's guard lies (its operations don't turn it), and whether the guard's own operation hangs on one. -/
def guardOf (all : Array Oper) (j : Nat) (os : List Oper) : Option (Tmp × Bool) :=
  match slotOf all j with
  | some d => if os.all (fun o => decide (o.dst ≠ some d)) = true then some (d, ((all[j]?).bind (·.guard)).isSome) else none
  | none => none
def St.set (s : St) (d : Tmp) (v : V) : St := { s with env := s.env.set d v }
def gate2 {β : Type} (v : V) (want : Bool) (a b : Option β) : Option β :=
  match v with
  | .bool t => if t = want then a else b
  | _ => none
def gate3 {β : Type} (v : V) (want : Bool) (a b c : Option β) : Option β :=
  match v with
  | .bool t => if t = want then a else b
  | .tuple [] => c
  | _ => none
/-- The three ways at a guard: done, not done, the guard's own operation not done. -/
def gate {β : Type} (own : Bool) (v : V) (want : Bool) (a b c : Option β) : Option β :=
  if own = true then gate3 v want a b c else gate2 v want a b
def undefs : List Oper → St → St
  | [], s => s
  | o :: r, s => undefs r (s.put o.dst V.undef)

def irun (C : CallT) : List Oper → St → Option (Ex × St)
  | [], s => some (.normal, s)
  | o :: r, s => match iop P cfg C s o.op with
    | some (.ok v s') => irun C r (s'.put o.dst v)
    | some (.panic v s') => some (.panic v, s')
    | none => none
def iops (C : CallT) (all : Array Oper) : List (Option (Nat × Bool) × List Oper) → St → Option (Ex × St)
  | [], s => some (.normal, s)
  | (none, os) :: r, s => match irun P cfg C os s with
    | some (.normal, s') => iops C all r s'
    | q => q
  | (some (j, want), os) :: r, s => match guardOf all j os with
    | some (d, own) => (s.env[d]?).bind fun v => gate own v want
        (match irun P cfg C os (s.set d (.bool want)) with
          | some (.normal, s') => iops C all r s'
          | q => q)
        (iops C all r (undefs os (s.set d (.bool !want))))
        (iops C all r (undefs os s))
    | none => none

/-! ### a region whose order is open: it is gone through in the text's order; what a read has told must stand through all that may come ahead of it or behind it -/
mutual
def V.same : V → V → Bool
  | .bool a, .bool b => a == b
  | .u8 a, .u8 b => a == b
  | .int k a, .int j b => decide (k = j) && decide (a = b)
  | .str a, .str b => a == b
  | .ptr a b c, .ptr d e f => a == d && b == e && c == f
  | .nilp, .nilp => true
  | .slice a b c d e f, .slice g h i j k l => a == g && b == h && c == i && d == j && e == k && f == l
  | .nils, .nils => true
  | .map a, .map b => a == b
  | .nilm, .nilm => true
  | .fn f a b, .fn g c d => f == g && V.sames a c && V.sames b d
  | .yield a, .yield b => a == b
  | .nilf, .nilf => true
  | .iface t a, .iface u b => t == u && V.same a b
  | .nili, .nili => true
  | .agg a, .agg b => V.sames a b
  | .tuple a, .tuple b => V.sames a b
  | _, _ => false
def V.sames : List V → List V → Bool
  | [], [] => true
  | a :: r, b :: q => V.same a b && V.sames r q
  | _, _ => false
end
def sameO : Option V → V → Bool
  | some a, b => V.same a b
  | none, _ => false

/-- Does a pure operation look at memory that may change? -/
def reads : Op → Bool
  | .load .. | .lookup .. | .convert .. | .slice .. | .entry .. | .call _ => true
  | _ => false

/-- 'past': the operations that may write, done so far, each with the memory ahead of it; 'seen': what was read, by which operation, with the temporaries that it looked at. -/
structure Trk where
  past : List (Nat × Mem)
  seen : List (Nat × List V × Op × V)

def stands (bf : Array Nat) (seen : List (Nat × List V × Op × V)) (i : Nat) (m : Mem) : Bool :=
  seen.all fun r => (bf.getD i 0).testBit r.1 || sameO (opPure P r.2.1 m r.2.2.1) r.2.2.2
def stood (bf : Array Nat) (past : List (Nat × Mem)) (i : Nat) (env : List V) (o : Op) (v : V) : Bool :=
  past.all fun p => (bf.getD i 0).testBit p.1 || sameO (opPure P env p.2 o) v

def drun (C : CallT) (bf : Array Nat) : List Oper → Nat → Trk → St → Option (Nat × Trk × St)
  | [], i, k, s => some (i, k, s)
  | o :: r, i, k, s =>
    match kindIn P o.op with
    | .eff => match opEff P cfg C s o.op with
      | some (.ok v s') => if stands P bf k.seen i s'.mem = true then drun C bf r (i + 1) { k with past := (i, s.mem) :: k.past } (s'.put o.dst v) else none
      | _ => none
    | .new => match opNew P s.env s.mem o.op with
      | some (v, m) => if stands P bf k.seen i m = true then drun C bf r (i + 1) { k with past := (i, s.mem) :: k.past } (({ s with mem := m } : St).put o.dst v) else none
      | none => none
    | .pure => match opPure P s.env s.mem o.op with
      | some v => if reads o.op = true then
          (if stood P bf k.past i s.env o.op v = true then drun C bf r (i + 1) { k with seen := (i, s.env, o.op, v) :: k.seen } (s.put o.dst v) else none)
        else drun C bf r (i + 1) k (s.put o.dst v)
      | none => none
def idops (C : CallT) (all : Array Oper) (bf : Array Nat) : List (Option (Nat × Bool) × List Oper) → Nat → Trk → St → Option (Ex × St)
  | [], _, _, s => some (.normal, s)
  | (none, os) :: r, i, k, s => match drun P cfg C bf os i k s with
    | some (i', k', s') => idops C all bf r i' k' s'
    | none => none
  | (some (j, want), os) :: r, i, k, s => match guardOf all j os with
    | some (d, own) => (s.env[d]?).bind fun v => gate own v want
        (match drun P cfg C bf os i k (s.set d (.bool want)) with
          | some (i', k', s') => idops C all bf r i' k' s'
          | none => none)
        (idops C all bf r (i + os.length) k (undefs os (s.set d (.bool !want))))
        (idops C all bf r (i + os.length) k (undefs os s))
    | none => none

/-- The temporaries that an operation looks at. -/
def looks (ops : Array Oper) (o : Oper) : List Tmp :=
  (o.op.operands.toList.filterMap fun | .tmp t => some t | _ => none) ++
  (match o.guard with
   | some (g, _) => (slotOf ops g).toList
   | none => [])
/-- Two operations of which neither stands before the other: they don't meet. -/
def free2 (ops : Array Oper) (a b : Oper) : Bool :=
  (decide (kindIn P a.op = .pure) || decide (kindIn P b.op = .pure)) &&
  (match a.dst with | some d => !(looks ops b).contains d | none => true) &&
  (match b.dst with | some d => !(looks ops a).contains d | none => true)
def apart2 (a b : Oper) : Bool :=
  match a.dst with
  | some d => !(decide (b.dst = some d))
  | none => true
/-- What may be drawn: operations that make or write memory come one behind the other, whatever is drawn; each operation finds what it looks at; edges lead back. -/
def chained (ops : Array Oper) (bf : Array Nat) : Bool :=
  (List.range ops.size).all fun j => match ops[j]? with
    | none => false
    | some b => b.after.all (fun e => !Region.binds .any e || decide (e.on < j)) &&
      (List.range j).all fun i => match ops[i]? with
        | none => false
        | some a => apart2 a b && ((bf.getD j 0).testBit i || free2 P ops a b)

def iter : Nat → (St → Option (Ex × St)) → St → Option (Ex × St)
  | 0, _, _ => none
  | k + 1, F, s => match F s with
    | some (.normal, s') => iter k F s'
    | r => r

def keyOf : Code → Option Nat
  | .region id _ _ => some id
  | .seq a b => match keyOf a with
    | some k => some k
    | none => keyOf b
  | .cond _ a b => match keyOf a with
    | some k => some k
    | none => keyOf b
  | .block _ b | .loop b | .scope b => keyOf b
  | .rangeFunc _ _ a b => match keyOf a with
    | some k => some k
    | none => keyOf b
  | _ => none
def forgetBut (l : List Nat) : Nat → List V → List V
  | _, [] => []
  | i, v :: r => (if l.contains i = true then v else .any) :: forgetBut l (i + 1) r
def forget (f : FuncId) (body : Code) (s : St) : St :=
  match (keyOf body).bind (cfg.live f) with
  | some l => { s with env := forgetBut l.1 0 s.env }
  | none => s
def trim (f : FuncId) (body : Code) (s : St) : St :=
  match (keyOf body).bind (cfg.live f) with
  | some l => { s with env := forgetBut l.2 0 s.env }
  | none => s
/-- One round's end: in the normal way the next one begins; else the loop is over. (A round defers nothing.) -/
def roundEnd (f : FuncId) (body : Code) (r : Option (Ex × St)) : Option (Ex × St) :=
  match r with
  | some (e, s) => match s.ds with
    | [] => match e with
      | .normal => some (.normal, s)
      | .exit i => some (.exit i, trim cfg f body s)
      | .ret => some (.ret, trim cfg f body s)
      | .panic v => some (.panic v, trim cfg f body s)
    | _ => none
  | none => none
def bare (s : St) : St := { s with ds := [] }
/-- The temporaries, written out one by one. -/
def norm (n : Nat) (ds : List Df) (s : St) : St := { env := (List.range n).map fun t => s.env.getD t .any, ds := ds, mem := s.mem }

def hookOf (f : FuncId) (body : Code) : Option (St → Option St) := (keyOf body).bind (cfg.hook f)

def iev (C : CallT) (n : Nat) (f : FuncId) : Code → St → Option (Ex × St)
  | .skip, s => some (.normal, s)
  | .region _ ops draw, s =>
    if draw = true then
      (if chained P ops (Region.before ops) = true then idops P cfg C ops (Region.before ops) (grouped ops.toList) 0 ⟨[], []⟩ s else none)
    else iops P cfg C ops (grouped ops.toList) s
  | .seq a b, s => match iev C n f a s with
    | some (.normal, s') => iev C n f b s'
    | r => r
  | .cond c a b, s => match evO P s.env c with
    | some (.bool t) => if t = true then iev C n f a s else iev C n f b s
    | _ => none
  | .block id body, s => match hookOf cfg f body with
    | some H => (H s).map fun s' => (.normal, norm s.env.length s.ds s')
    | none => match iev C n f body s with
      | some (.exit i, s') => if i = id then some (.normal, s') else some (.exit i, s')
      | r => r
  | .loop body, s => (iter n (fun s => roundEnd cfg f body (iev C n f body (forget cfg f body s))) (bare (forget cfg f body s))).map fun r => (r.1, norm s.env.length s.ds r.2)
  | .exit id, s => some (.exit id, s)
  | .ret, s => some (.ret, s)
  | .scope body, s => iev C n f body s
  | .label _, s => some (.normal, s)
  | _, _ => none

/-! ### what a function that returns leaves -/
def seat (base : Nat) (b : Nat) (kept : List Nat) : Nat × List Nat :=
  if b < base then (b, kept) else
  match kept.idxOf? b with
  | some i => (base + i, kept)
  | none => (base + kept.length, kept ++ [b])
mutual
def gcV (base : Nat) : V → List Nat → Option (V × List Nat)
  | .ptr b g o, k => some (.ptr (seat base b k).1 g o, (seat base b k).2)
  | .slice b g o z len cap, k => some (.slice (seat base b k).1 g o z len cap, (seat base b k).2)
  | .map b, k => some (.map (seat base b k).1, (seat base b k).2)
  | .iface t v, k => (gcV base v k).map fun r => (.iface t r.1, r.2)
  | .agg vs, k => (gcVs base vs k).map fun r => (.agg r.1, r.2)
  | .tuple vs, k => (gcVs base vs k).map fun r => (.tuple r.1, r.2)
  | .fn .., _ => none
  | .yield _, _ => none
  | .bool b, k => some (.bool b, k)
  | .int i n, k => some (.int i n, k)
  | .u8 b, k => some (.u8 b, k)
  | .str s, k => some (.str s, k)
  | .nilp, k => some (.nilp, k)
  | .nils, k => some (.nils, k)
  | .emp, k => some (.emp, k)
  | .nilm, k => some (.nilm, k)
  | .nilf, k => some (.nilf, k)
  | .nili, k => some (.nili, k)
  | .any, k => some (.any, k)
def gcVs (base : Nat) : List V → List Nat → Option (List V × List Nat)
  | [], k => some ([], k)
  | v :: r, k => match gcV base v k with
    | some q => (gcVs base r q.2).map fun p => (q.1 :: p.1, p.2)
    | none => none
end
def keptObjs (objs : List Obj) : List Nat → Option (List Obj)
  | [] => some []
  | b :: r => match objs[b]?, keptObjs objs r with
    | some (.u8 l md), some os => some (.u8 l md :: os)
    | some (.row l md), some os => if l.all V.flat = true then some (.row l md :: os) else none
    | _, _ => none
def gcRet (m : Mem) (v : V) (m' : Mem) : Option (V × Mem) :=
  (gcV m.objs.length v []).bind fun r => (keptObjs m'.objs r.2).map fun os =>
    (r.1, { objs := m'.objs.take m.objs.length ++ os, guard := m.guard })

def startSt (fn : Func) (gc : Bool) (args : List V) (m : Mem) : St :=
  { env := args ++ List.replicate (fn.ntmps - args.length) V.undef, ds := [], mem := { m with guard := if gc = true then m.objs.length else m.guard } }
def packV : List V → V
  | [v] => v
  | vs => .tuple vs
def retV (gc : Bool) (m : Mem) (v : V) (m' : Mem) : Option (Out × Mem) :=
  if gc = true then (gcRet m v m').map fun r => (.ret r.1, r.2) else some (.ret v, m')
def results {β : Type} (s : St) : List ResultVar → (List V → Option β) → Option β
  | [], K => K []
  | .tmp t :: r, K => (s.env[t]?).bind fun v => results s r fun vs => K (v :: vs)
  | .cell a t :: r, K => (s.env[a]?).bind fun a => (loadV P s.mem t a).bind fun v => results s r fun vs => K (v :: vs)
def finish (fn : Func) (gc : Bool) (m : Mem) (s : St) : Option (Out × Mem) :=
  match s.ds with
  | [] => results P s fn.results.toList fun vs => retV gc m (packV vs) s.mem
  | _ => none

def icall : Nat → CallT
  | 0 => fun _ _ _ => none
  | n + 1 => fun tg args m =>
    match tg with
    | .fn f =>
      match cfg.sum f with
      | some S => (S args m).map fun r => (.ret r.1, r.2)
      | none =>
      match P.funcs[f]? with
      | some fn => match fn.body with
        | some c => match iev P cfg (icall n) n f c (startSt fn (cfg.gc f) args m) with
          | some (.normal, s) => finish P fn (cfg.gc f) m s
          | some (.ret, s) => finish P fn (cfg.gc f) m s
          | _ => none
        | none => none
      | none => none
    | .yield _ => none
end
end Go.Ig
