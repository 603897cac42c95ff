/-
  How the evaluator's values and memory stand to the model's.
-/
import Derived.Test.YtcnjllnnhcafbaaDoorIgCore
import Derived.WalkKit
namespace Go.Ig
open Go

/-- Where a block lies: the model's block, where in it the block's cells begin; of a block that may have more cells than are told: how many it has. -/
structure Loc where
  c : Nat
  s : Nat
  room : Option Nat

abbrev J := Nat → Nat → Option Loc
def J.le (j j' : J) : Prop := ∀ b g L, j b g = some L → j' b g = some L

def capR (room : Option Nat) (at_ z cap cap' : Nat) : Prop :=
  match room with
  | none => cap' = cap
  | some n => cap ≤ cap' ∧ at_ + cap' * z ≤ n

mutual
inductive VR (j : J) : V → Value → Prop
  | any (v' : Value) : VR j .any v'
  | bool (b : Bool) : VR j (.bool b) (.bool b)
  | u8 (b : UInt8) : VR j (.u8 b) (.int .u8 (b.toNat : Int))
  | int (k : IntKind) (n : Int) (h : k ≠ .u8) : VR j (.int k n) (.int k n)
  | str (s : ByteArray) : VR j (.str s.data.toList) (.string s)
  | ptr {b g o : Nat} {L : Loc} (h : j b g = some L) : VR j (.ptr b g o) (.pointer (some ⟨L.c, L.s + o, none⟩))
  | nilp : VR j .nilp (.pointer none)
  | slice {b g o z len cap cap' : Nat} {L : Loc} (h : j b g = some L) (hc : capR L.room (L.s + o) z cap cap') (hl : len ≤ cap) : VR j (.slice b g o z len cap) (.slice (some ⟨L.c, L.s + o, none⟩) len cap')
  | nils : VR j .nils (.slice none 0 0)
  | emp (a : Addr) : VR j .emp (.slice (some a) 0 0)
  | map {r : Nat} {L : Loc} (h : j r 0 = some L) : VR j (.map r) (.map (some L.c))
  | nilm : VR j .nilm (.map none)
  | fn {f : FuncId} {a b : List V} {a' b' : List Value} (ha : VRs j a a') (hb : VRs j b b') : VR j (.fn f a b) (.func (.func f) ⟨a'⟩ ⟨b'⟩)
  | yield {l : Nat} {L : Loc} (h : j l 0 = some L) : VR j (.yield l) (.func (.yield L.c) #[] #[])
  | nilf : VR j .nilf .nilFunc
  | iface {t : TypeId} {v : V} {v' : Value} (h : VR j v v') : VR j (.iface t v) (.iface t v')
  | nili : VR j .nili .nilIface
  | agg {cs : List V} {cs' : List Value} (h : VRs j cs cs') : VR j (.agg cs) (.agg ⟨cs'⟩)
  | tuple {cs : List V} {cs' : List Value} (h : VRs j cs cs') : VR j (.tuple cs) (.tuple ⟨cs'⟩)
inductive VRs (j : J) : List V → List Value → Prop
  | nil : VRs j [] []
  | cons {v : V} {v' : Value} {r : List V} {r' : List Value} (h : VR j v v') (hr : VRs j r r') : VRs j (v :: r) (v' :: r')
end

mutual
theorem VR.mono {j j' : J} (hj : j.le j') : ∀ {v : V} {v' : Value}, VR j v v' → VR j' v v'
  | _, _, .any v' => .any v'
  | _, _, .bool b => .bool b
  | _, _, .u8 b => .u8 b
  | _, _, .int k n h => .int k n h
  | _, _, .str s => .str s
  | _, _, .ptr h => .ptr (hj _ _ _ h)
  | _, _, .nilp => .nilp
  | _, _, .slice h hc hl => .slice (hj _ _ _ h) hc hl
  | _, _, .nils => .nils
  | _, _, .emp a => .emp a
  | _, _, .map h => .map (hj _ _ _ h)
  | _, _, .nilm => .nilm
  | _, _, .fn ha hb => .fn (VRs.mono hj ha) (VRs.mono hj hb)
  | _, _, .yield h => .yield (hj _ _ _ h)
  | _, _, .nilf => .nilf
  | _, _, .iface h => .iface (VR.mono hj h)
  | _, _, .nili => .nili
  | _, _, .agg h => .agg (VRs.mono hj h)
  | _, _, .tuple h => .tuple (VRs.mono hj h)
theorem VRs.mono {j j' : J} (hj : j.le j') : ∀ {v : List V} {v' : List Value}, VRs j v v' → VRs j' v v'
  | _, _, .nil => .nil
  | _, _, .cons h hr => .cons (VR.mono hj h) (VRs.mono hj hr)
end

section
variable {j : J}
theorem VRs.len : ∀ {v : List V} {v' : List Value}, VRs j v v' → v'.length = v.length
  | _, _, .nil => rfl
  | _, _, .cons _ hr => by simp [VRs.len hr]
theorem VRs.get : ∀ {v : List V} {v' : List Value}, VRs j v v' → ∀ {k : Nat} {x : V}, v[k]? = some x → ∃ x', v'[k]? = some x' ∧ VR j x x'
  | _, _, .nil, k, x, h => by simp at h
  | _, _, .cons (v' := a') (r' := r') h hr, 0, x, hx => by simp at hx; subst hx; exact ⟨a', rfl, h⟩
  | _, _, .cons (r' := r') h hr, k + 1, x, hx => by simpa using VRs.get hr (by simpa using hx)
theorem VRs.append : ∀ {a : List V} {a' : List Value} {b : List V} {b' : List Value}, VRs j a a' → VRs j b b' → VRs j (a ++ b) (a' ++ b')
  | _, _, _, _, .nil, h => h
  | _, _, _, _, .cons h hr, hb => .cons h (VRs.append hr hb)
theorem VRs.of_get : ∀ {v : List V} {v' : List Value}, v'.length = v.length → (∀ (k : Nat) (x : V), v[k]? = some x → ∃ x', v'[k]? = some x' ∧ VR j x x') → VRs j v v'
  | [], [], _, _ => .nil
  | [], _ :: _, h, _ => by simp at h
  | _ :: _, [], h, _ => by simp at h
  | a :: r, a' :: r', hl, h => by
    refine .cons ?_ (VRs.of_get (by simpa using hl) fun k x hx => by simpa using h (k + 1) x (by simpa using hx))
    obtain ⟨x', hx', hr⟩ := h 0 a rfl
    simp at hx'; subst hx'; exact hr
theorem VRs.take {v : List V} {v' : List Value} (h : VRs j v v') (n : Nat) : VRs j (v.take n) (v'.take n) := by
  induction n generalizing v v' with
  | zero => simpa using VRs.nil
  | succ n ih => cases h with
    | nil => exact .nil
    | cons h hr => exact .cons h (ih hr)
theorem VRs.drop {v : List V} {v' : List Value} (h : VRs j v v') (n : Nat) : VRs j (v.drop n) (v'.drop n) := by
  induction n generalizing v v' with
  | zero => exact h
  | succ n ih => cases h with
    | nil => exact .nil
    | cons h hr => exact ih hr
theorem VRs.set {v : List V} {v' : List Value} (h : VRs j v v') {x : V} {x' : Value} (hx : VR j x x') (n : Nat) : VRs j (v.set n x) (v'.set n x') := by
  induction n generalizing v v' with
  | zero => cases h with
    | nil => exact .nil
    | cons _ hr => exact .cons hx hr
  | succ n ih => cases h with
    | nil => exact .nil
    | cons h hr => exact .cons h (ih hr)
theorem VRs.replicate {x : V} {x' : Value} (hx : VR j x x') : ∀ n, VRs j (List.replicate n x) (List.replicate n x')
  | 0 => .nil
  | n + 1 => .cons hx (VRs.replicate hx n)

theorem VR.undef : VR j V.undef Go.undef := .tuple .nil

theorem VR.of_num {x : V} {x' : Value} {k : IntKind} {n : Int} (h : VR j x x') (hn : x.num = some (k, n)) : x' = .int k n := by
  cases h <;> simp [V.num] at hn
  · obtain ⟨rfl, rfl⟩ := hn; rfl
  · obtain ⟨rfl, rfl⟩ := hn; rfl
theorem VR.num_u8 {x : V} {x' : Value} {n : Int} (h : VR j x x') (hn : x.num = some (.u8, n)) : 0 ≤ n ∧ n < 256 := by
  cases h <;> simp [V.num] at hn
  · rename_i b; have := b.toNat_lt; omega
  · rename_i k m hk; exact absurd hn.1 hk

theorem u8_ofNat {n : Int} (h0 : 0 ≤ n) (h : n < 256) : ((UInt8.ofNat n.toNat).toNat : Int) = n := by
  rw [UInt8.toNat_ofNat']
  omega
theorem wrap_u8 (n : Int) : 0 ≤ IntKind.u8.wrap n ∧ IntKind.u8.wrap n < 256 := by
  simp only [IntKind.wrap, IntKind.signed, IntKind.bits, Bool.false_and, Bool.false_eq_true, if_false]
  omega
/-- A number that fits its kind. -/
theorem VR.mkInt {k : IntKind} {n : Int} (h : k = .u8 → 0 ≤ n ∧ n < 256) : VR j (mkInt k n) (.int k n) := by
  cases k
  case u8 =>
    have h' := h rfl
    have := VR.u8 (j := j) (UInt8.ofNat n.toNat)
    rw [u8_ofNat h'.1 h'.2] at this
    exact this
  all_goals exact .int _ _ (by decide)
theorem VR.wrapped (k : IntKind) (n : Int) : VR j (Ig.mkInt k (k.wrap n)) (.int k (k.wrap n)) := VR.mkInt fun h => by subst h; exact wrap_u8 n

mutual
theorem ofConst_R : ∀ {v' : Value} {v : V}, ofConst v' = some v → VR j v v'
  | .bool b, v, h => by simp [ofConst] at h; subst h; exact .bool b
  | .int k x, v, h => by
    cases k
    case u8 =>
      simp only [ofConst] at h
      split at h
      · rename_i hx
        injection h with h; subst h
        have := VR.u8 (j := j) (UInt8.ofNat x.toNat)
        rw [u8_ofNat hx.1 hx.2] at this
        exact this
      · cases h
    all_goals simp [ofConst] at h; subst h; exact .int _ _ (by decide)
  | .float .., v, h => by simp [ofConst] at h
  | .complex .., v, h => by simp [ofConst] at h
  | .string s, v, h => by simp [ofConst] at h; subst h; exact .str s
  | .pointer none, v, h => by simp [ofConst] at h; subst h; exact .nilp
  | .pointer (some _), v, h => by simp [ofConst] at h
  | .slice none 0 0, v, h => by simp [ofConst] at h; subst h; exact .nils
  | .slice none 0 (_ + 1), v, h => by simp [ofConst] at h
  | .slice none (_ + 1) _, v, h => by simp [ofConst] at h
  | .slice (some _) _ _, v, h => by simp [ofConst] at h
  | .map none, v, h => by simp [ofConst] at h; subst h; exact .nilm
  | .map (some _), v, h => by simp [ofConst] at h
  | .chan _, v, h => by simp [ofConst] at h
  | .func .., v, h => by simp [ofConst] at h
  | .nilFunc, v, h => by simp [ofConst] at h; subst h; exact .nilf
  | .nilIface, v, h => by simp [ofConst] at h; subst h; exact .nili
  | .agg ⟨cs⟩, v, h => by
    simp only [ofConst] at h
    cases hc : ofConsts cs with
    | none => rw [hc] at h; simp at h
    | some l => rw [hc] at h; simp at h; subst h; exact .agg (ofConsts_R hc)
  | .tuple ⟨cs⟩, v, h => by
    simp only [ofConst] at h
    cases hc : ofConsts cs with
    | none => rw [hc] at h; simp at h
    | some l => rw [hc] at h; simp at h; subst h; exact .tuple (ofConsts_R hc)
  | .iface t x, v, h => by
    simp only [ofConst] at h
    cases hc : ofConst x with
    | none => rw [hc] at h; simp at h
    | some l => rw [hc] at h; simp at h; subst h; exact .iface (ofConst_R hc)
theorem ofConsts_R : ∀ {vs' : List Value} {vs : List V}, ofConsts vs' = some vs → VRs j vs vs'
  | [], vs, h => by simp [ofConsts] at h; subst h; exact .nil
  | v :: r, vs, h => by
    simp only [ofConsts] at h
    cases hv : ofConst v with
    | none => rw [hv] at h; simp at h
    | some x =>
      cases hr : ofConsts r with
      | none => rw [hv, hr] at h; simp at h
      | some xs => rw [hv, hr] at h; simp at h; subst h; exact .cons (ofConst_R hv) (ofConsts_R hr)
end
end

/-! ### memory -/
def Obj.gen : Obj → Nat
  | .u8 _ md | .row _ md => md.gen
  | _ => 0
/-- A cell of a row. -/
def Obj.at : Obj → Nat → Option V
  | .u8 l _, k => (l[k]?).map V.u8
  | .row l _, k => l[k]?
  | _, _ => none
def Obj.mode : Obj → Option Mode
  | .u8 _ md | .row _ md => some md
  | _ => none
/-- May it be written? -/
def Obj.mine : Obj → Bool
  | .u8 _ md | .row _ md => md.writes
  | .map .. | .loop .. | .defr _ | .iter .. => true
  | .dead => false

mutual
def V.ids : V → List Nat
  | .ptr b _ _ | .slice b _ _ _ _ _ | .map b | .yield b => [b]
  | .fn _ a b => V.idss a ++ V.idss b
  | .iface _ v => V.ids v
  | .agg cs | .tuple cs => V.idss cs
  | _ => []
def V.idss : List V → List Nat
  | [] => []
  | v :: r => V.ids v ++ V.idss r
end
def V.under (gd : Nat) (v : V) : Prop := ∀ b ∈ v.ids, b < gd
def Obj.under (gd : Nat) : Obj → Prop
  | .row l _ => ∀ v ∈ l, v.under gd
  | .map es _ => ∀ e ∈ es, e.1.under gd ∧ e.2.1.under gd
  | .iter (some r) _ _ _ => r < gd
  | .u8 .. | .dead => True
  | _ => False

/-- The model's block is a row of n cells of which none is frozen. -/
def Blk (w : World) (c n : Nat) : Prop := ∃ cells elem fr, w.heap[c]? = some (.cells cells elem fr) ∧ cells.size = n ∧ (fr.1 = fr.2 ∨ n ≤ fr.1)

def modeR (n0 : Nat) (w : World) (md : Mode) (L : Loc) : Prop :=
  match md with
  | .ro => L.room = none ∧ L.c < n0
  | .exact => L.room = none ∧ L.s = 0 ∧ n0 ≤ L.c ∧ ∃ n, Blk w L.c n
  | .vec _ => L.s = 0 ∧ n0 ≤ L.c ∧ ∃ n, L.room = some n ∧ Blk w L.c n

inductive EsR (j : J) : List (V × V × Nat) → List MapEntry → Prop
  | nil : EsR j [] []
  | cons {k v : V} {k' v' : Value} {n : Nat} {r : List (V × V × Nat)} {r' : List MapEntry} (hk : VR j k k') (hv : VR j v v') (hr : EsR j r r') : EsR j ((k, v, n) :: r) (⟨k', v', n⟩ :: r')
theorem EsR.mono {j j' : J} (hj : j.le j') {es : List (V × V × Nat)} {es' : List MapEntry} (h : EsR j es es') : EsR j' es es' := by
  induction h with
  | nil => exact .nil
  | cons hk hv _ ih => exact .cons (hk.mono hj) (hv.mono hj) ih

def ObjR (j : J) (n0 : Nat) (w : World) (L : Loc) : Obj → Prop
  | .map es c => n0 ≤ L.c ∧ ∃ es', w.heap[L.c]? = some (.map ⟨es'⟩ c) ∧ EsR j es es'
  | .dead => True
  | .u8 l md => (∀ k b, l[k]? = some b → w.cell? ⟨L.c, L.s + k, none⟩ = some (.int .u8 (b.toNat : Int))) ∧ modeR n0 w md L
  | .iter (some r) s seen last => (n0 ≤ L.c ∧ L.s = 0) ∧ ∃ L', j r 0 = some L' ∧ w.heap[L.c]? = some (.mapIter (some L'.c) s ⟨seen⟩ last)
  | .row l md => (∀ k v, l[k]? = some v → ∃ v', w.cell? ⟨L.c, L.s + k, none⟩ = some v' ∧ VR j v v') ∧ modeR n0 w md L
  | _ => False

/-- The streams are as they were. -/
structure Strm (w w' : World) : Prop where
  os : w'.os = w.os
  tape : w'.tape = w.tape
  output : w'.output = w.output
theorem Strm.refl (w : World) : Strm w w := ⟨rfl, rfl, rfl⟩
theorem Strm.trans {a b c : World} (h : Strm a b) (k : Strm b c) : Strm a c := ⟨k.os.trans h.os, k.tape.trans h.tape, k.output.trans h.output⟩

/-- The evaluator's memory m stands for the model's world w (what lay below n0 lies as in w0). -/
structure MR (P : Program) (n0 : Nat) (w0 : World) (gs : List Nat) (j : J) (m : Mem) (w : World) : Prop where
  objs : ∀ i o L, m.objs[i]? = some o → j i o.gen = some L → ObjR j n0 w L o
  dom : ∀ i g L, j i g = some L → i < m.objs.length ∧ L.c < w.heap.size
  sep : ∀ i i' o o' L L', m.objs[i]? = some o → m.objs[i']? = some o' → j i o.gen = some L → j i' o'.gen = some L' → o.mine = true → o'.mine = true → L.c = L'.c → i = i'
  old : ∀ c, c < n0 → w.heap[c]? = w0.heap[c]?
  n0le : n0 ≤ w.heap.size
  glob : ∀ g, g < P.globals.size → j g 0 = some ⟨g, 0, none⟩
  gle : m.guard ≤ m.objs.length
  gens : ∀ i o g L, m.objs[i]? = some o → j i g = some L → g ≤ o.gen
  low : ∀ gd, gd ∈ gs → gd ≤ m.guard ∧ ∀ i o L, i < gd → m.objs[i]? = some o → j i o.gen = some L → o.under gd
  str : Strm w0 w

/-- What one step, or many, may do. -/
structure Grows (j : J) (m : Mem) (w : World) (j' : J) (m' : Mem) (w' : World) : Prop where
  ext : j.le j'
  len : m.objs.length ≤ m'.objs.length
  guard : m'.guard = m.guard
  size : w.heap.size ≤ w'.heap.size
  keepR : ∀ c, c < w.heap.size → (∀ i g L, j i g = some L → L.c ≠ c) → w'.heap[c]? = w.heap[c]?
  keepI : ∀ i, i < m.objs.length → (∀ g, j i g = none) → m'.objs[i]? = m.objs[i]? ∧ ∀ g, j' i g = none
  newR : ∀ i g L, j' i g = some L → j i g = some L ∨ w.heap.size ≤ L.c ∨ ∃ g0 L0, j i g0 = some L0 ∧ L0.c = L.c

theorem Grows.refl (j : J) (m : Mem) (w : World) : Grows j m w j m w :=
  ⟨fun _ _ _ h => h, Nat.le_refl _, rfl, Nat.le_refl _, fun _ _ _ => rfl, fun _ _ h => ⟨rfl, h⟩, fun _ _ _ h => .inl h⟩
theorem Grows.trans {j j' j'' : J} {m m' m'' : Mem} {w w' w'' : World} (h : Grows j m w j' m' w') (h' : Grows j' m' w' j'' m'' w'') : Grows j m w j'' m'' w'' where
  ext := fun _ _ _ x => h'.ext _ _ _ (h.ext _ _ _ x)
  len := Nat.le_trans h.len h'.len
  guard := h'.guard.trans h.guard
  size := Nat.le_trans h.size h'.size
  keepR := fun c hc hn => (h'.keepR c (Nat.lt_of_lt_of_le hc h.size) fun i g L hL => by
    rcases h.newR i g L hL with x | x | ⟨g0, L0, x, y⟩
    · exact hn i g L x
    · intro e; omega
    · intro e; exact hn i g0 L0 x (y.trans e)).trans (h.keepR c hc hn)
  keepI := fun i hi hn => by
    obtain ⟨a, b⟩ := h.keepI i hi hn
    obtain ⟨c, d⟩ := h'.keepI i (Nat.lt_of_lt_of_le hi h.len) b
    exact ⟨c.trans a, d⟩
  newR := fun i g L hL => by
    rcases h'.newR i g L hL with x | x | ⟨g0, L0, x, y⟩
    · exact h.newR i g L x
    · exact .inr (.inl (Nat.le_trans h.size x))
    · rcases h.newR i g0 L0 x with z | z | ⟨g1, L1, z, u⟩
      · exact .inr (.inr ⟨g0, L0, z, y⟩)
      · exact .inr (.inl (y ▸ z))
      · exact .inr (.inr ⟨g1, L1, z, u.trans y⟩)
end Go.Ig
