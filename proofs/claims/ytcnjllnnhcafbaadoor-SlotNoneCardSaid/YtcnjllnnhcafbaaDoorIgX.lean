/-
  The evaluator's operations with all that hangs on a type written out: no program stands in them.
-/
import Derived.Test.YtcnjllnnhcafbaaDoorIgCps
namespace Go.Ig
open Go

def xPart (ag : Bool) (n : Nat) (cs : List V) (off : Nat) : Option V := if ag = true then (if off + n ≤ cs.length then some (.agg ((cs.drop off).take n)) else none) else cs[off]?
def xRow (u8 : Bool) (cells : List V) (md : Mode) : Option Obj := if u8 = true then (toU8 cells).map (.u8 · md) else if cells.all V.one = true then some (.row cells md) else none
def xLoad (ag : Bool) (n : Nat) (m : Mem) (a : V) : Option V :=
  match a with
  | .ptr b g o => if ag = true then (m.cells? b g o n).map .agg else m.cell? b g o
  | _ => none
def xStore (n : Nat) (m : Mem) (a v : V) : Option Mem :=
  match a with
  | .ptr b g o =>
    match v with
    | .agg cs => if cs.length ≠ n then none else if n = 0 then some m else m.stores b g o cs
    | v => if n = 1 then m.store b g o v else none
  | _ => none
def xFA (off : Nat) (x : V) : Option V :=
  match x with
  | .ptr b g o => some (.ptr b g (o + off))
  | _ => none
def xField (ag : Bool) (n off : Nat) (x : V) : Option V :=
  match x with
  | .agg cs => xPart ag n cs off
  | _ => none
def xIA (n size : Nat) (x i : V) : Option V :=
  match x, i.num with
  | .ptr b g o, some (_, k) => if 0 ≤ k ∧ k < (n : Int) then some (.ptr b g (o + k.toNat * size)) else none
  | _, _ => none
def xIS (size : Nat) (x i : V) : Option V :=
  match x, i.num with
  | .slice b g o _ len _, some (_, k) => if 0 ≤ k ∧ k < (len : Int) then some (.ptr b g (o + k.toNat * size)) else none
  | _, _ => none
def xIxA (ag : Bool) (n size : Nat) (x i : V) : Option V :=
  match x, i.num with
  | .agg cs, some (_, k) => if 0 ≤ k ∧ k < (n : Int) then xPart ag size cs (k.toNat * size) else none
  | _, _ => none
def xIxS (x i : V) : Option V :=
  match x, i.num with
  | .str s, some (_, k) => if 0 ≤ k ∧ k < (s.length : Int) then (s[k.toNat]?).map V.u8 else none
  | _, _ => none
def xBuildS (pl : List (Nat × Nat)) (z : List V) (parts : List (Nat × V)) : Option V := (fillV (fun i => pl[i]?) z parts).map .agg
def xBuildA (size : Nat) (z : List V) (parts : List (Nat × V)) : Option V := (fillV (fun i => some (i * size, size)) z parts).map .agg
def xConvI (k : IntKind) (x : V) : Option V :=
  match x.num with
  | some (_, n) => some (mkInt k (k.wrap n))
  | _ => none
def xStr (m : Mem) (v : V) : Option V :=
  match v with
  | .nils => if true = true then some (.str []) else none
  | .emp => if true = true then some (.str []) else none
  | .slice b g o z len _ => if true = true ∧ z = 1 then (m.cells? b g o len).bind fun cs => (toU8 cs).map .str else none
  | _ => none
def xSlL (m : Mem) (size : Nat) (x : V) (lo hi mx : Option V) : Option V :=
  if mx.isSome = true ∧ hi.isSome = false then none else
  match x with
  | .nils =>
    match boundO mx 0 0 with
    | none => none
    | some _ => match boundO hi 0 0 with
      | none => none
      | some h => match boundO lo 0 h with
        | none => none
        | some _ => some .nils
  | .slice b g o z len cap =>
    if z ≠ size then none else
    match boundO mx cap cap with
    | none => none
    | some c => match boundO hi len c with
      | none => none
      | some h => match boundO lo 0 h with
        | none => none
        | some l =>
          if c = l then
            (if (mx.isSome || m.firm b g) = true then some (.slice b g o z (h - l) 0) else none)
          else some (.slice b g (o + l * size) z (h - l) (c - l))
  | _ => none
def xSlA (m : Mem) (n size : Nat) (x : V) (lo hi mx : Option V) : Option V :=
  if mx.isSome = true ∧ hi.isSome = false then none else
  match x with
  | .ptr b g o =>
    match boundO mx n n with
    | none => none
    | some c => match boundO hi n c with
      | none => none
      | some h => match boundO lo 0 h with
        | none => none
        | some l => if (m.firm b g || (decide (0 < n * size) && (m.cells? b g o (n * size)).isSome)) = true then some (.slice b g (if c = l then o else o + l * size) size (h - l) (c - l)) else none
  | _ => none
def xSlS (x : V) (lo hi mx : Option V) : Option V :=
  if mx.isSome = true ∧ hi.isSome = false then none else
  match x with
  | .str s =>
    if mx.isSome then none else
    match boundO hi s.length s.length with
    | none => none
    | some h => match boundO lo 0 h with
      | none => none
      | some l => some (.str ((s.take h).drop l))
  | _ => none
/-- append; 'bytes' of an element -/
def xApp (size bytes : Nat) (u8 : Bool) (m : Mem) (s x : V) : Option (V × Mem) :=
    (lenV x).bind fun n => (readV m size n x).bind fun new =>
    if size ≠ size ∨ new.length ≠ n * size ∨ new.all V.one = false then none else
    match s with
    | .nils =>
      if n = 0 then some (.nils, m)
      else if (2 * n + 1024) * (bytes + 1) ≤ 281474976710656 then
        (xRow u8 new (.vec 0)).bind fun o => some (.slice m.objs.length 0 0 size n n, m.add o)
      else none
    | .slice b g o z sLen sCap =>
      if z ≠ size then none else
      if sLen + n ≤ sCap then
        (if n = 0 then some (.slice b g o z sLen sCap, m)
         else (m.stores b g (o + sLen * size) new).bind fun m' => some (.slice b g o z (sLen + n) sCap, m'))
      else if (2 * (sLen + n) + 1024) * (bytes + 1) ≤ 281474976710656 then
        match m.objs[b]? with
        | some (.u8 l (.vec h)) =>
          if g = h ∧ o = 0 ∧ l.length = sLen * size then
            (toU8 new).bind fun us => some (.slice b (h + 1) 0 z (sLen + n) (sLen + n), m.setObj b (.u8 (l ++ us) (.vec (h + 1))))
          else none
        | some (.row l (.vec h)) =>
          if g = h ∧ o = 0 ∧ l.length = sLen * size ∧ (new.all V.flat = true ∨ m.guard ≤ b) then
            some (.slice b (h + 1) 0 z (sLen + n) (sLen + n), m.setObj b (.row (l ++ new) (.vec (h + 1))))
          else none
        | _ => (m.cells? b g o (sLen * size)).bind fun old => (xRow u8 (old ++ new) (.vec 0)).bind fun ob =>
          some (.slice m.objs.length 0 0 z (sLen + n) (sLen + n), m.add ob)
      else none
    | _ => none
def xCopy (size : Nat) (m : Mem) (d s : V) : Option (V × Mem) :=
    (lenV s).bind fun k =>
    match d with
    | .nils => some (.int .i64 0, m)
    | .slice b g o _ dLen _ =>
      (readV m size (min k dLen) s).bind fun cs =>
      if cs.length = 0 then some (.int .i64 ((min k dLen : Nat) : Int), m) else (m.stores b g o cs).bind fun m' => some (.int .i64 ((min k dLen : Nat) : Int), m')
    | _ => none
def xLenL (x : V) : Option V :=
  (match x with
  | .nils => some (0 : Int)
  | .emp => some 0
  | .slice _ _ _ _ n _ => some (n : Int)
  | _ => none).map fun n => V.int .i64 n
def xLenS (x : V) : Option V :=
  (match x with
  | .str s => some (s.length : Int)
  | _ => none).map fun n => V.int .i64 n
def xLenA (n : Nat) : Option V := (some (n : Int)).map fun n => V.int .i64 n
def xLenM (m : Mem) (x : V) : Option V :=
  (match x with
  | .nilm => some (0 : Int)
  | .map r => match m.objs[r]? with
    | some (.map es _) => some (es.length : Int)
    | _ => none
  | _ => none).map fun n => V.int .i64 n
def xCapL (m : Mem) (x : V) : Option V :=
  (match x with
  | .nils => some (0 : Int)
  | .emp => some 0
  | .slice b g _ _ _ c => if m.firm b g = true then some (c : Int) else none
  | _ => none).map fun n => V.int .i64 n
/-- Parts compared one behind the other. -/
def chainO : List (Option Bool) → Option Bool
  | [] => some true
  | x :: r => match x with
    | some true => chainO r
    | some false => some false
    | none => none
@[simp] theorem chainO_nil : chainO [] = some true := rfl
theorem chainO_step (b : Bool) (r : List (Option Bool)) : chainO (some b :: r) = bif b then chainO r else some false := by cases b <;> rfl
theorem cond_some (b c : Bool) : (bif b then some c else some false) = some (b && c) := by cases b <;> rfl
def xNew (u8 : Bool) (cells : List V) (m : Mem) : Option (V × Mem) := (xRow u8 cells .exact).bind fun ob => some (.ptr m.objs.length 0 0, m.add ob)
def xBox (u8 : Bool) (m : Mem) (v : V) : Option (V × Mem) := (xRow u8 v.cells .exact).bind fun ob => some (.ptr m.objs.length 0 0, m.add ob)
def xMkSl (size bytes : Nat) (u8 : Bool) (z : List V) (us : List UInt8) (m : Mem) (l c : V) : Option (V × Mem) :=
  match l, c with
  | .int .i64 l, .int .i64 c =>
    if 0 ≤ l ∧ l ≤ c ∧ (bytes : Int) * c ≤ 281474976710656 ∧ c ≤ 9223372036854775807 then
      if u8 = true then some (.slice m.objs.length 0 0 size l.toNat c.toNat, m.add (.u8 (repl c.toNat us) .exact))
      else some (.slice m.objs.length 0 0 size l.toNat c.toNat, m.add (.row (repl c.toNat z) .exact))
    else none
  | _, _ => none
def xBuildSl (size : Nat) (u8 : Bool) (z : List V) (m : Mem) (n : Nat) (vs : List (Nat × V)) : Option (V × Mem) :=
  (fillV (fun i => some (i * size, size)) (repl n z) vs).bind fun cs =>
    (xRow u8 cs .exact).bind fun ob => some (.slice m.objs.length 0 0 size n n, m.add ob)
/-- A slice of bytes that is a constant's: nobody may ask how much room it has. -/
def xMark (m : Mem) (v : V) : Option (V × Mem) :=
  match v with
  | .slice q g o z len cap =>
      match m.objs[q]? with
      | some (.u8 _ md) => if md.gen = g ∧ md.writes = true then some (.slice q g o z len cap, m) else none
      | _ => none
  | _ => none
/-- A call of a value. -/
def callVK {β : Type} (ext : FuncId → Option Ext) (C : CallT) (f : V) (args : List V) (m : Mem) (K E : V → Mem → Option β) : Option β :=
  match f with
  | .fn f first cap => match ext f with
    | some x => (extV x (first ++ args ++ cap) m).bind fun r => K r.1 r.2
    | none => callK (C (.fn f) (first ++ args ++ cap) m) K E
  | .yield l => callK (C (.yield l) args m) K E
  | _ => none
def xBytes (m : Mem) (v : V) : Option (V × Mem) :=
  match v with
  | .str l => if l.length ≤ 140737488355328 then some (.slice m.objs.length 0 0 1 l.length l.length, m.add (.u8 l (.vec 0))) else none
  | _ => none
def xLook (kd : TypeDesc) (z : V) (m : Mem) (x k : V) (ok : Bool) : Option V :=
  if true = true ∧ k.known = true then (entriesV m x).bind fun es => (findK kd k es 0).bind fun r => match r with
    | some (_, v) => some (if ok then .tuple [v, .bool true] else v)
    | none => some (if ok then .tuple [z, .bool false] else z)
  else none
def xMapSet (kd : TypeDesc) (m : Mem) (x k v : V) : Option Mem :=
  match x with
  | .map r =>
    if true = true ∧ k.known = true ∧ k.flat = true ∧ (v.cells.all V.flat = true ∨ m.guard ≤ r) then
      match m.objs[r]? with
      | some (.map es c) => (findK kd k es 0).bind fun q => match q with
        | some (i, _) => some (m.setObj r (.map (es.modify i fun e => (k, v, e.2.2)) c))
        | none => some (m.setObj r (.map (es ++ [(k, v, c)]) (c + 1)))
      | _ => none
    else none
  | _ => none
end Go.Ig
