/-
  Words for going through a function whose arguments are only partly known.
-/
import Derived.Test.YtcnjllnnhcafbaaDoorIgX
set_option linter.unusedVariables false
namespace Go.Ig
open Go

section
variable {α β : Type}
@[congr] theorem obind_congr {x y : Option α} {f : α → Option β} (h : x = y) : x.bind f = y.bind f := by rw [h]
@[congr] theorem callK_congr {r r' : Option (Out × Mem)} {K E : V → Mem → Option β} (h : r = r') : callK r K E = callK r' K E := by rw [h]
@[congr] theorem condV_congr {v v' : V} {a b : Option β} (h : v = v') : condV v a b = condV v' a b := by rw [h]
@[congr] theorem gate2_congr {v v' : V} {w : Bool} {a b : Option β} (h : v = v') : gate2 v w a b = gate2 v' w a b := by rw [h]
@[congr] theorem gate3_congr {v v' : V} {w : Bool} {a b c : Option β} (h : v = v') : gate3 v w a b c = gate3 v' w a b c := by rw [h]
@[congr] theorem exK_congr {e e' : Ex} {a : Option β} {b : Nat → Option β} {c : Option β} {d : V → Option β} (h : e = e') : exK e a b c d = exK e' a b c d := by rw [h]
@[simp] theorem callK_ret (v : V) (m : Mem) (K E : V → Mem → Option β) : callK (some (.ret v, m)) K E = K v m := rfl
@[simp] theorem callK_panic (v : V) (m : Mem) (K E : V → Mem → Option β) : callK (some (.panic v, m)) K E = E v m := rfl
@[simp] theorem condV_bool (t : Bool) (a b : Option β) : condV (.bool t) a b = if t = true then a else b := rfl
@[simp] theorem gate2_bool (t w : Bool) (a b : Option β) : gate2 (.bool t) w a b = if t = w then a else b := rfl
@[simp] theorem gate3_bool (t w : Bool) (a b c : Option β) : gate3 (.bool t) w a b c = if t = w then a else b := rfl
@[simp] theorem gate3_undef (w : Bool) (a b c : Option β) : gate3 V.undef w a b c = c := rfl
@[simp] theorem exK_normal (a : Option β) (b : Nat → Option β) (c : Option β) (d : V → Option β) : exK .normal a b c d = a := rfl
@[simp] theorem exK_exit (i : Nat) (a : Option β) (b : Nat → Option β) (c : Option β) (d : V → Option β) : exK (.exit i) a b c d = b i := rfl
@[simp] theorem exK_ret (a : Option β) (b : Nat → Option β) (c : Option β) (d : V → Option β) : exK .ret a b c d = c := rfl
@[simp] theorem exK_panic (v : V) (a : Option β) (b : Nat → Option β) (c : Option β) (d : V → Option β) : exK (.panic v) a b c d = d v := rfl
@[simp] theorem pickV_bool (t : Bool) (a b : V) : pickV (.bool t) a b = if t = true then some a else some b := rfl
end

/-! ### numbers -/
@[simp] theorem num_u8 (b : UInt8) : (V.u8 b).num = some (.u8, (b.toNat : Int)) := rfl
@[simp] theorem num_int (k : IntKind) (n : Int) : (V.int k n).num = some (k, n) := rfl
theorem mkInt_u8 (n : Int) : mkInt .u8 n = .u8 (UInt8.ofNat n.toNat) := rfl
@[simp] theorem mkInt_i64 (n : Int) : mkInt .i64 n = .int .i64 n := rfl
@[simp] theorem mkInt_u64 (n : Int) : mkInt .u64 n = .int .u64 n := rfl
@[simp] theorem mkInt_u32 (n : Int) : mkInt .u32 n = .int .u32 n := rfl
@[simp] theorem mkInt_i32 (n : Int) : mkInt .i32 n = .int .i32 n := rfl
section
variable (P : Program) (t : TypeId)
theorem binOpV_num {op : BinOp} {x y : V} {k k' : IntKind} {a b : Int} (hx : x.num = some (k, a)) (hy : y.num = some (k', b)) (h1 : op ≠ .shl) (h2 : op ≠ .shr) : binOpV P op t x y = if k = k' then intBin op k a b else none := by
  unfold binOpV
  rw [hx, hy]
  cases op <;> simp_all
@[simp] theorem bin_int {op : BinOp} (k k' : IntKind) (a b : Int) : binOpV P op t (.int k a) (.int k' b) = match op with
    | .shl => shiftBin .shl k a b
    | .shr => shiftBin .shr k a b
    | op => if k = k' then intBin op k a b else none := rfl
@[simp] theorem bin_u8 {op : BinOp} (a b : UInt8) : binOpV P op t (.u8 a) (.u8 b) = match op with
    | .shl => shiftBin .shl .u8 a.toNat b.toNat
    | .shr => shiftBin .shr .u8 a.toNat b.toNat
    | op => intBin op .u8 a.toNat b.toNat := by cases op <;> rfl
@[simp] theorem bin_u8_int {op : BinOp} (k : IntKind) (a : UInt8) (b : Int) : binOpV P op t (.u8 a) (.int k b) = match op with
    | .shl => shiftBin .shl .u8 a.toNat b
    | .shr => shiftBin .shr .u8 a.toNat b
    | op => if IntKind.u8 = k then intBin op .u8 a.toNat b else none := by cases op <;> rfl
@[simp] theorem bin_int_u8 {op : BinOp} (k : IntKind) (a : Int) (b : UInt8) : binOpV P op t (.int k a) (.u8 b) = match op with
    | .shl => shiftBin .shl k a b.toNat
    | .shr => shiftBin .shr k a b.toNat
    | op => if k = IntKind.u8 then intBin op k a b.toNat else none := by cases op <;> rfl
@[simp] theorem bin_str_eq (a b : List UInt8) : binOpV P .eql t (.str a) (.str b) = some (.bool (a == b)) := rfl
@[simp] theorem bin_str_ne (a b : List UInt8) : binOpV P .neq t (.str a) (.str b) = some (.bool !(a == b)) := rfl
end
@[simp] theorem intBin_eql (k : IntKind) (x y : Int) : intBin .eql k x y = some (.bool (x == y)) := rfl
@[simp] theorem intBin_neq (k : IntKind) (x y : Int) : intBin .neq k x y = some (.bool (x != y)) := rfl
@[simp] theorem intBin_lss (k : IntKind) (x y : Int) : intBin .lss k x y = some (.bool (decide (x < y))) := rfl
@[simp] theorem intBin_leq (k : IntKind) (x y : Int) : intBin .leq k x y = some (.bool (decide (x ≤ y))) := rfl
@[simp] theorem intBin_gtr (k : IntKind) (x y : Int) : intBin .gtr k x y = some (.bool (decide (x > y))) := rfl
@[simp] theorem intBin_geq (k : IntKind) (x y : Int) : intBin .geq k x y = some (.bool (decide (x ≥ y))) := rfl
@[simp] theorem intBin_add (k : IntKind) (x y : Int) : intBin .add k x y = some (mkInt k (k.wrap (x + y))) := rfl
@[simp] theorem intBin_sub (k : IntKind) (x y : Int) : intBin .sub k x y = some (mkInt k (k.wrap (x - y))) := rfl
@[simp] theorem intBin_mul (k : IntKind) (x y : Int) : intBin .mul k x y = some (mkInt k (k.wrap (x * y))) := rfl
@[simp] theorem intBin_quo (k : IntKind) (x y : Int) : intBin .quo k x y = if y = 0 then none else some (mkInt k (k.wrap (x.tdiv y))) := rfl
@[simp] theorem intBin_rem (k : IntKind) (x y : Int) : intBin .rem k x y = if y = 0 then none else some (mkInt k (x.tmod y)) := rfl
@[simp] theorem unOp_not (b : Bool) : unOpV .not (.bool b) = some (.bool !b) := rfl
@[simp] theorem unOp_neg (k : IntKind) (n : Int) : unOpV .neg (.int k n) = intBin .sub k 0 n := rfl
@[simp] theorem xConvI_int (k j : IntKind) (n : Int) : xConvI k (.int j n) = some (mkInt k (k.wrap n)) := rfl
@[simp] theorem xConvI_u8 (k : IntKind) (n : UInt8) : xConvI k (.u8 n) = some (mkInt k (k.wrap n.toNat)) := rfl

theorem wrap_i64 {n : Int} (h : -9223372036854775808 ≤ n) (h' : n < 9223372036854775808) : IntKind.i64.wrap n = n := by
  simp only [IntKind.wrap, IntKind.signed, IntKind.bits]
  simp
  omega
theorem wrap_u64 {n : Int} (h : 0 ≤ n) (h' : n < 18446744073709551616) : IntKind.u64.wrap n = n := by
  simp only [IntKind.wrap, IntKind.signed, IntKind.bits]
  simp
  omega
theorem wrap_u32 {n : Int} (h : 0 ≤ n) (h' : n < 4294967296) : IntKind.u32.wrap n = n := by
  simp only [IntKind.wrap, IntKind.signed, IntKind.bits]
  simp
  omega
theorem wrap_u8' {n : Int} (h : 0 ≤ n) (h' : n < 256) : IntKind.u8.wrap n = n := by
  simp only [IntKind.wrap, IntKind.signed, IntKind.bits]
  simp
  omega

/-! ### memory -/
def cellO (x : Option Obj) (g o : Nat) : Option V :=
  match x with
  | some (.u8 l md) => if md.gen = g then (l[o]?).map V.u8 else none
  | some (.row l md) => if md.gen = g then l[o]? else none
  | _ => none
def cellsO (x : Option Obj) (g o n : Nat) : Option (List V) :=
  match x with
  | some (.u8 l md) => if md.gen = g ∧ o + n ≤ l.length then some (((l.drop o).take n).map V.u8) else none
  | some (.row l md) => if md.gen = g ∧ o + n ≤ l.length then some ((l.drop o).take n) else none
  | _ => none
def firmO (x : Option Obj) (g : Nat) : Bool :=
  match x with
  | some (.u8 _ md) => md.fixed && md.gen == g
  | some (.row _ md) => md.fixed && md.gen == g
  | _ => false
@[simp] theorem cell?_O (m : Mem) (b g o : Nat) : m.cell? b g o = cellO (m.objs[b]?) g o := rfl
@[simp] theorem cells?_O (m : Mem) (b g o n : Nat) : m.cells? b g o n = cellsO (m.objs[b]?) g o n := rfl
@[simp] theorem firm_O (m : Mem) (b g : Nat) : m.firm b g = firmO (m.objs[b]?) g := rfl
@[simp] theorem cellO_u8 (l : List UInt8) (md : Mode) (g o : Nat) : cellO (some (.u8 l md)) g o = if md.gen = g then (l[o]?).map V.u8 else none := rfl
@[simp] theorem cellO_row (l : List V) (md : Mode) (g o : Nat) : cellO (some (.row l md)) g o = if md.gen = g then l[o]? else none := rfl
@[simp] theorem cellsO_u8 (l : List UInt8) (md : Mode) (g o n : Nat) : cellsO (some (.u8 l md)) g o n = if md.gen = g ∧ o + n ≤ l.length then some (((l.drop o).take n).map V.u8) else none := rfl
@[simp] theorem cellsO_row (l : List V) (md : Mode) (g o n : Nat) : cellsO (some (.row l md)) g o n = if md.gen = g ∧ o + n ≤ l.length then some ((l.drop o).take n) else none := rfl
@[simp] theorem firmO_u8 (l : List UInt8) (md : Mode) (g : Nat) : firmO (some (.u8 l md)) g = (md.fixed && md.gen == g) := rfl
@[simp] theorem firmO_row (l : List V) (md : Mode) (g : Nat) : firmO (some (.row l md)) g = (md.fixed && md.gen == g) := rfl
@[simp] theorem gen_ro : Mode.gen .ro = 0 := rfl
@[simp] theorem gen_exact : Mode.gen .exact = 0 := rfl
@[simp] theorem gen_vec (g : Nat) : Mode.gen (.vec g) = g := rfl
@[simp] theorem writes_exact : Mode.writes .exact = true := rfl
@[simp] theorem writes_vec (g : Nat) : Mode.writes (.vec g) = true := rfl
@[simp] theorem fixed_exact : Mode.fixed .exact = true := rfl
@[simp] theorem fixed_ro : Mode.fixed .ro = true := rfl
@[simp] theorem fixed_vec (g : Nat) : Mode.fixed (.vec g) = false := rfl
def storeO (m : Mem) (x : Option Obj) (b g o : Nat) (v : V) : Option Mem :=
  match x with
  | some (.u8 l md) => match v with
    | .u8 x => if md.gen = g ∧ md.writes = true ∧ o < l.length then some (m.setObj b (.u8 (l.set o x) md)) else none
    | _ => none
  | some (.row l md) => if md.gen = g ∧ md.writes = true ∧ o < l.length ∧ v.one = true ∧ (v.flat = true ∨ m.guard ≤ b) then some (m.setObj b (.row (l.set o v) md)) else none
  | _ => none
def storesO (m : Mem) (x : Option Obj) (b g o : Nat) (vs : List V) : Option Mem :=
  match x with
  | some (.u8 l md) => match toU8 vs with
    | some us => if md.gen = g ∧ md.writes = true ∧ o + us.length ≤ l.length then some (m.setObj b (.u8 (splice l o us) md)) else none
    | none => none
  | some (.row l md) => if md.gen = g ∧ md.writes = true ∧ o + vs.length ≤ l.length ∧ vs.all V.one = true ∧ (vs.all V.flat = true ∨ m.guard ≤ b) then some (m.setObj b (.row (splice l o vs) md)) else none
  | _ => none
@[simp] theorem store_O (m : Mem) (b g o : Nat) (v : V) : m.store b g o v = storeO m (m.objs[b]?) b g o v := rfl
@[simp] theorem stores_O (m : Mem) (b g o : Nat) (vs : List V) : m.stores b g o vs = storesO m (m.objs[b]?) b g o vs := rfl
@[simp] theorem storeO_u8 (m : Mem) (l : List UInt8) (md : Mode) (b g o : Nat) (x : UInt8) : storeO m (some (.u8 l md)) b g o (.u8 x) = if md.gen = g ∧ md.writes = true ∧ o < l.length then some (m.setObj b (.u8 (l.set o x) md)) else none := rfl
@[simp] theorem storeO_row (m : Mem) (l : List V) (md : Mode) (b g o : Nat) (v : V) : storeO m (some (.row l md)) b g o v = if md.gen = g ∧ md.writes = true ∧ o < l.length ∧ v.one = true ∧ (v.flat = true ∨ m.guard ≤ b) then some (m.setObj b (.row (l.set o v) md)) else none := rfl
@[simp] theorem storesO_row (m : Mem) (l : List V) (md : Mode) (b g o : Nat) (vs : List V) : storesO m (some (.row l md)) b g o vs = if md.gen = g ∧ md.writes = true ∧ o + vs.length ≤ l.length ∧ vs.all V.one = true ∧ (vs.all V.flat = true ∨ m.guard ≤ b) then some (m.setObj b (.row (splice l o vs) md)) else none := rfl
theorem toU8_mapU8 : ∀ l : List UInt8, toU8 (l.map V.u8) = some l
  | [] => rfl
  | a :: r => by simp [toU8, toU8_mapU8 r]
attribute [simp] toU8_mapU8
@[simp] theorem storesO_u8 (m : Mem) (l us : List UInt8) (md : Mode) (b g o : Nat) : storesO m (some (.u8 l md)) b g o (us.map V.u8) = if md.gen = g ∧ md.writes = true ∧ o + us.length ≤ l.length then some (m.setObj b (.u8 (splice l o us) md)) else none := by simp [storesO]
@[simp] theorem storesO_u8' (m : Mem) (l : List UInt8) (md : Mode) (b g o : Nat) (vs : List V) : storesO m (some (.u8 l md)) b g o vs = match toU8 vs with
    | some us => if md.gen = g ∧ md.writes = true ∧ o + us.length ≤ l.length then some (m.setObj b (.u8 (splice l o us) md)) else none
    | none => none := rfl
@[simp] theorem Mem.eta (m : Mem) : (⟨m.objs, m.guard⟩ : Mem) = m := rfl
@[simp] theorem Mem.add_mk (os : List Obj) (gd : Nat) (o : Obj) : (⟨os, gd⟩ : Mem).add o = ⟨os ++ [o], gd⟩ := rfl
@[simp] theorem Mem.setObj_mk (os : List Obj) (gd b : Nat) (o : Obj) : (⟨os, gd⟩ : Mem).setObj b o = ⟨os.set b o, gd⟩ := rfl
section
variable {α : Type}
@[simp] theorem getA0 (O l : List α) : (O ++ l)[O.length]? = l[0]? := by rw [List.getElem?_append_right (Nat.le_refl _), Nat.sub_self]
@[simp] theorem getA (O l : List α) (k : Nat) : (O ++ l)[O.length + k]? = l[k]? := by rw [List.getElem?_append_right (Nat.le_add_right _ _), Nat.add_sub_cancel_left]
@[simp] theorem setA0 (O l : List α) (x : α) : (O ++ l).set O.length x = O ++ l.set 0 x := by rw [List.set_append_right _ _ (Nat.le_refl _), Nat.sub_self]
@[simp] theorem setA (O l : List α) (k : Nat) (x : α) : (O ++ l).set (O.length + k) x = O ++ l.set k x := by rw [List.set_append_right _ _ (Nat.le_add_right _ _), Nat.add_sub_cancel_left]
theorem old {O : List α} {b : Nat} {x : α} (h : O[b]? = some x) {l : List α} : (O ++ l)[b]? = some x := by
  have := (List.getElem?_eq_some_iff.1 h).1
  rw [List.getElem?_append_left this]; exact h
end

@[simp] theorem xLoad_ptr (ag : Bool) (n : Nat) (m : Mem) (b g o : Nat) : xLoad ag n m (.ptr b g o) = if ag = true then (m.cells? b g o n).map .agg else m.cell? b g o := rfl
@[simp] theorem xFA_ptr (off b g o : Nat) : xFA off (.ptr b g o) = some (.ptr b g (o + off)) := rfl
@[simp] theorem xField_agg (ag : Bool) (n off : Nat) (cs : List V) : xField ag n off (.agg cs) = xPart ag n cs off := rfl
@[simp] theorem xPart_true (n off : Nat) (cs : List V) : xPart true n cs off = if off + n ≤ cs.length then some (.agg ((cs.drop off).take n)) else none := rfl
@[simp] theorem xPart_false (n off : Nat) (cs : List V) : xPart false n cs off = cs[off]? := rfl
@[simp] theorem xStore_ptr (n : Nat) (m : Mem) (b g o : Nat) (v : V) : xStore n m (.ptr b g o) v = match v with
    | .agg cs => if cs.length ≠ n then none else if n = 0 then some m else m.stores b g o cs
    | v => if n = 1 then m.store b g o v else none := rfl
@[simp] theorem xIA_int (n size b g o : Nat) (kd : IntKind) (k : Int) : xIA n size (.ptr b g o) (.int kd k) = if 0 ≤ k ∧ k < (n : Int) then some (.ptr b g (o + k.toNat * size)) else none := rfl
@[simp] theorem xIS_int (size b g o z len cap : Nat) (kd : IntKind) (k : Int) : xIS size (.slice b g o z len cap) (.int kd k) = if 0 ≤ k ∧ k < (len : Int) then some (.ptr b g (o + k.toNat * size)) else none := rfl
@[simp] theorem xIxA_int (ag : Bool) (n size : Nat) (cs : List V) (kd : IntKind) (k : Int) : xIxA ag n size (.agg cs) (.int kd k) = if 0 ≤ k ∧ k < (n : Int) then xPart ag size cs (k.toNat * size) else none := rfl
@[simp] theorem xIxS_int (s : List UInt8) (kd : IntKind) (k : Int) : xIxS (.str s) (.int kd k) = if 0 ≤ k ∧ k < (s.length : Int) then (s[k.toNat]?).map V.u8 else none := rfl
@[simp] theorem xLenL_nils : xLenL .nils = some (.int .i64 0) := rfl
@[simp] theorem xLenL_emp : xLenL .emp = some (.int .i64 0) := rfl
@[simp] theorem xLenL_slice (b g o z len cap : Nat) : xLenL (.slice b g o z len cap) = some (.int .i64 len) := rfl
@[simp] theorem xLenS_str (s : List UInt8) : xLenS (.str s) = some (.int .i64 s.length) := rfl
@[simp] theorem xLenA_n (n : Nat) : xLenA n = some (.int .i64 n) := rfl
@[simp] theorem extract_tuple (vs : List V) (i : Nat) : extractV (.tuple vs) i = vs[i]? := rfl
@[simp] theorem nilChk_ptr (b g o : Nat) : nilChkV (.ptr b g o) = some (.ptr b g o) := rfl
@[simp] theorem lenV_nils : lenV .nils = some 0 := rfl
@[simp] theorem lenV_emp : lenV .emp = some 0 := rfl
@[simp] theorem lenV_slice (b g o z len cap : Nat) : lenV (.slice b g o z len cap) = some len := rfl
@[simp] theorem lenV_str (s : List UInt8) : lenV (.str s) = some s.length := rfl
@[simp] theorem readV_nils (m : Mem) (z n : Nat) : readV m z n .nils = some [] := rfl
@[simp] theorem readV_emp (m : Mem) (z n : Nat) : readV m z n .emp = if n = 0 then some [] else none := rfl
@[simp] theorem readV_slice (m : Mem) (sz n b g o z len cap : Nat) : readV m sz n (.slice b g o z len cap) = m.cells? b g o (n * sz) := rfl
@[simp] theorem readV_str (m : Mem) (sz n : Nat) (s : List UInt8) : readV m sz n (.str s) = some ((s.take n).map V.u8) := rfl
@[simp] theorem boundO_none (d y : Nat) : boundO none d y = some d := rfl
@[simp] theorem boundO_int (k : IntKind) (i : Int) (d y : Nat) : boundO (some (.int k i)) d y = if 0 ≤ i ∧ i ≤ (y : Int) then some i.toNat else none := rfl
@[simp] theorem cells_agg (cs : List V) : (V.agg cs).cells = cs := rfl
@[simp] theorem cells_int (k : IntKind) (n : Int) : (V.int k n).cells = [.int k n] := rfl
@[simp] theorem cells_bool (b : Bool) : (V.bool b).cells = [.bool b] := rfl
@[simp] theorem cells_u8 (b : UInt8) : (V.u8 b).cells = [.u8 b] := rfl
@[simp] theorem cells_str (b : List UInt8) : (V.str b).cells = [.str b] := rfl
@[simp] theorem cells_slice (b g o z len cap : Nat) : (V.slice b g o z len cap).cells = [.slice b g o z len cap] := rfl
@[simp] theorem cells_nils : (V.nils).cells = [.nils] := rfl
@[simp] theorem cells_emp : (V.emp).cells = [.emp] := rfl
@[simp] theorem cells_ptr (b g o : Nat) : (V.ptr b g o).cells = [.ptr b g o] := rfl
@[simp] theorem cells_nilp : (V.nilp).cells = [.nilp] := rfl
@[simp] theorem cells_map (b : Nat) : (V.map b).cells = [.map b] := rfl
@[simp] theorem cells_nilm : (V.nilm).cells = [.nilm] := rfl
@[simp] theorem cells_fn (f : FuncId) (a b : List V) : (V.fn f a b).cells = [.fn f a b] := rfl
@[simp] theorem cells_nilf : (V.nilf).cells = [.nilf] := rfl
@[simp] theorem one_int (k : IntKind) (n : Int) : (V.int k n).one = true := rfl
@[simp] theorem one_bool (b : Bool) : (V.bool b).one = true := rfl
@[simp] theorem one_u8 (b : UInt8) : (V.u8 b).one = true := rfl
@[simp] theorem one_str (b : List UInt8) : (V.str b).one = true := rfl
@[simp] theorem one_slice (b g o z len cap : Nat) : (V.slice b g o z len cap).one = true := rfl
@[simp] theorem one_nils : (V.nils).one = true := rfl
@[simp] theorem one_emp : (V.emp).one = true := rfl
@[simp] theorem one_ptr (b g o : Nat) : (V.ptr b g o).one = true := rfl
@[simp] theorem one_nilp : (V.nilp).one = true := rfl
@[simp] theorem one_map (b : Nat) : (V.map b).one = true := rfl
@[simp] theorem one_fn (f : FuncId) (a b : List V) : (V.fn f a b).one = true := rfl
@[simp] theorem known_int (k : IntKind) (n : Int) : (V.int k n).known = true := rfl
@[simp] theorem known_bool (b : Bool) : (V.bool b).known = true := rfl
@[simp] theorem known_u8 (b : UInt8) : (V.u8 b).known = true := rfl
@[simp] theorem known_str (b : List UInt8) : (V.str b).known = true := rfl
@[simp] theorem known_slice (b g o z len cap : Nat) : (V.slice b g o z len cap).known = true := rfl
@[simp] theorem known_nils : (V.nils).known = true := rfl
@[simp] theorem known_emp : (V.emp).known = true := rfl
@[simp] theorem known_ptr (b g o : Nat) : (V.ptr b g o).known = true := rfl
@[simp] theorem known_nilp : (V.nilp).known = true := rfl
@[simp] theorem known_map (b : Nat) : (V.map b).known = true := rfl
@[simp] theorem known_fn (f : FuncId) (a b : List V) : (V.fn f a b).known = true := rfl
@[simp] theorem known_agg (cs : List V) : (V.agg cs).known = true := rfl
@[simp] theorem flat_int (k : IntKind) (n : Int) : (V.int k n).flat = true := rfl
@[simp] theorem flat_bool (b : Bool) : (V.bool b).flat = true := rfl
@[simp] theorem flat_u8 (b : UInt8) : (V.u8 b).flat = true := rfl
@[simp] theorem flat_str (b : List UInt8) : (V.str b).flat = true := rfl
@[simp] theorem flat_nils : (V.nils).flat = true := rfl
@[simp] theorem flat_emp : (V.emp).flat = true := rfl
@[simp] theorem flat_nilp : (V.nilp).flat = true := rfl
@[simp] theorem flat_nilm : (V.nilm).flat = true := rfl
@[simp] theorem flat_nilf : (V.nilf).flat = true := rfl
@[simp] theorem flat_slice (b g o z len cap : Nat) : (V.slice b g o z len cap).flat = false := rfl
@[simp] theorem flat_ptr (b g o : Nat) : (V.ptr b g o).flat = false := rfl
@[simp] theorem xRow_true (cells : List V) (md : Mode) : xRow true cells md = (toU8 cells).map (.u8 · md) := rfl
@[simp] theorem xRow_false (cells : List V) (md : Mode) : xRow false cells md = if cells.all V.one = true then some (.row cells md) else none := rfl
@[simp] theorem toU8_nil : toU8 [] = some [] := rfl
@[simp] theorem toU8_cons (x : UInt8) (r : List V) : toU8 (.u8 x :: r) = (toU8 r).map (x :: ·) := rfl
@[simp] theorem fillV_nil (pl : Nat → Option (Nat × Nat)) (cells : List V) : fillV pl cells [] = some cells := rfl
@[simp] theorem fillV_cons (pl : Nat → Option (Nat × Nat)) (cells : List V) (i : Nat) (v : V) (r : List (Nat × V)) : fillV pl cells ((i, v) :: r) = match pl i with
    | none => none
    | some (off, size) => if v.known = true ∧ v.cells.length = size ∧ off + size ≤ cells.length then fillV pl (splice cells off v.cells) r else none := rfl
@[simp] theorem sameO_some (a b : V) : sameO (some a) b = V.same a b := rfl
attribute [simp] xNew xBox xBuildS xBuildA

/-! ### what a return strikes -/
@[simp] theorem retV_false (m : Mem) (v : V) (m' : Mem) : retV false m v m' = some (.ret v, m') := rfl
@[simp] theorem retV_true (m : Mem) (v : V) (m' : Mem) : retV true m v m' = (gcRet m v m').map fun r => (.ret r.1, r.2) := rfl
theorem gcRet_eq (m : Mem) (v : V) (m' : Mem) : gcRet m v m' = (gcV m.objs.length v []).bind fun r => (keptObjs m'.objs r.2).map fun os => (r.1, { objs := m'.objs.take m.objs.length ++ os, guard := m.guard }) := rfl
@[simp] theorem seat_new (base k : Nat) : seat base (base + k) [] = (base, [base + k]) := by simp [seat]
@[simp] theorem seat_new0 (base : Nat) : seat base base [] = (base, [base]) := by simp [seat]
attribute [simp] gcRet_eq gcV gcVs
@[simp] theorem kept_nil (os : List Obj) : keptObjs os [] = some [] := rfl
@[simp] theorem kept_cons (os : List Obj) (b : Nat) (r : List Nat) : keptObjs os (b :: r) = match os[b]?, keptObjs os r with
    | some (.u8 l md), some os => some (.u8 l md :: os)
    | some (.row l md), some os => if l.all V.flat = true then some (.row l md :: os) else none
    | _, _ => none := rfl
end Go.Ig
