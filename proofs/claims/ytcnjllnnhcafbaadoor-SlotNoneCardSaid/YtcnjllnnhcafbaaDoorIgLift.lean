/-
  Arguments: what comes in is read into the evaluator's memory.
-/
import Derived.Test.YtcnjllnnhcafbaaDoorIgCall
import Derived.ChangeArms
import Derived.WideShapes
import Derived.DataReads
import Derived.Below
set_option linter.unusedVariables false
namespace Go.Ig
open Go Go.RowKit

/-- Kinds of arguments. -/
inductive Ty where
  | bool | u8 | int (k : IntKind) | str
  | slice (e : Ty)
  | pair (a b : Ty)
  | st (a : Ty)
def Ty.sem : Ty → Type
  | .bool => Bool
  | .u8 => UInt8
  | .int _ => Int
  | .str => List UInt8
  | .slice e => List e.sem
  | .pair a b => a.sem × b.sem
  | .st a => a.sem
def fitsK (k : IntKind) (x : Int) : Prop := k.min ≤ x ∧ x ≤ k.max
def fitsL (x : List UInt8) : Prop := x.length ≤ maxLen
def Ty.size : Ty → Nat
  | .pair a b => a.size + b.size
  | .st a => a.size
  | _ => 1
/-- What stands for an argument, in a memory. -/
def Ty.Holds (m : Mem) : (τ : Ty) → τ.sem → List V → Prop
  | .bool, x, vs => vs = [.bool x]
  | .u8, x, vs => vs = [.u8 x]
  | .int k, x, vs => vs = [.int k x] ∧ fitsK k x
  | .str, x, vs => vs = [.str x] ∧ fitsL x
  | .slice e, x, vs => (x = ([] : List e.sem) ∧ (vs = [.nils] ∨ vs = [.emp])) ∨
      ∃ (b cap : Nat) (css : List (List V)), vs = [.slice b 0 0 e.size (List.length x) cap] ∧ List.length x ≤ cap ∧ cap ≤ maxLen ∧ css.length = List.length x ∧ m.cells? b 0 0 (List.length x * e.size) = some css.flatten ∧ m.firm b 0 = true ∧
        ∀ (i : Nat) (y : e.sem) (c : List V), (show List e.sem from x)[i]? = some y → css[i]? = some c → c.length = e.size ∧ e.Holds m y c
  | .pair a b, x, vs => ∃ l r, vs = l ++ r ∧ a.Holds m x.1 l ∧ b.Holds m x.2 r
  | .st a, x, vs => a.Holds m x vs
def Ty.isU8 : Ty → Bool
  | .u8 => true
  | _ => false

theorem cells?_prefix {m m' : Mem} (h : m.objs <+: m'.objs) {b g o n : Nat} {cs : List V} (hc : m.cells? b g o n = some cs) : m'.cells? b g o n = some cs := by
  obtain ⟨r, hr⟩ := h
  have hb : b < m.objs.length := by
    by_cases hb : b < m.objs.length
    · exact hb
    · unfold Mem.cells? at hc
      rw [List.getElem?_eq_none (by omega)] at hc
      cases hc
  unfold Mem.cells? at *
  rw [← hr, List.getElem?_append_left hb]
  exact hc
theorem firm_prefix {m m' : Mem} (h : m.objs <+: m'.objs) {b g : Nat} (hc : m.firm b g = true) : m'.firm b g = true := by
  obtain ⟨r, hr⟩ := h
  have hb : b < m.objs.length := by
    by_cases hb : b < m.objs.length
    · exact hb
    · unfold Mem.firm at hc
      rw [List.getElem?_eq_none (by omega)] at hc
      cases hc
  unfold Mem.firm at *
  rw [← hr, List.getElem?_append_left hb]
  exact hc
theorem Ty.Holds.mono {m m' : Mem} (h : m.objs <+: m'.objs) : ∀ {τ : Ty} {x : τ.sem} {vs : List V}, τ.Holds m x vs → τ.Holds m' x vs
  | .bool, _, _, hx => hx
  | .u8, _, _, hx => hx
  | .int _, _, _, hx => hx
  | .str, _, _, hx => hx
  | .slice e, x, vs, hx => by
    rcases hx with hx | ⟨b, cap, css, h1, h2, h3, h7, h4, h5, h6⟩
    · exact .inl hx
    · exact .inr ⟨b, cap, css, h1, h2, h3, h7, cells?_prefix h h4, firm_prefix h h5, fun i y c hy hc => ⟨(h6 i y c hy hc).1, (h6 i y c hy hc).2.mono h⟩⟩
  | .pair a b, x, vs, hx => let ⟨l, r, h1, h2, h3⟩ := hx; ⟨l, r, h1, h2.mono h, h3.mono h⟩
  | .st a, x, vs, hx => Ty.Holds.mono (τ := a) h hx

section
variable (P : Program)
mutual
/-- The kind of a type. -/
def tyOf : Nat → TypeId → Option Ty
  | 0, _ => none
  | d + 1, t =>
    match P.underlying t with
    | some .bool => if szO P t = some 1 then some .bool else none
    | some (.int .u8) => if szO P t = some 1 then some .u8 else none
    | some (.int k) => if szO P t = some 1 then some (.int k) else none
    | some .string => if szO P t = some 1 then some .str else none
    | some (.slice e) => (tyOf d e).bind fun τ => if szO P t = some 1 then some (.slice τ) else none
    | some (.struct fs) => (tyFs d fs.toList 0).bind fun τ => if szO P t = some τ.size then some (.st τ) else none
    | _ => none
def tyFs : Nat → List Field → Nat → Option Ty
  | 0, _, _ => none
  | _ + 1, [], _ => none
  | d + 1, [f], off => if f.offset = off then tyOf d f.type else none
  | d + 1, f :: g :: r, off => if f.offset = off then (tyOf d f.type).bind fun a => (tyFs d (g :: r) (off + a.size)).bind fun b => some (.pair a b) else none
end
theorem tyOf_size (d : Nat) {t : TypeId} {τ : Ty} (h : tyOf P d t = some τ) : szO P t = some τ.size := by
  cases d with
  | zero => simp [tyOf] at h
  | succ d =>
    simp only [tyOf] at h
    split at h
    · split at h
      · cases h; assumption
      · cases h
    · split at h
      · cases h; assumption
      · cases h
    · split at h
      · cases h; assumption
      · cases h
    · split at h
      · cases h; assumption
      · cases h
    · obtain ⟨a, ha, h⟩ := Option.bind_eq_some_iff.1 h
      split at h
      · cases h; assumption
      · cases h
    · obtain ⟨a, ha, h⟩ := Option.bind_eq_some_iff.1 h
      split at h
      · cases h; assumption
      · cases h
    · cases h
theorem Ty.size_pos : ∀ τ : Ty, 0 < τ.size
  | .bool | .u8 | .int _ | .str | .slice _ => Nat.one_pos
  | .pair a b => Nat.lt_of_lt_of_le a.size_pos (Nat.le_add_right _ _)
  | .st a => a.size_pos
end

section
variable {P : Program} {j : J} {w : World} {n0 : Nat} {w0 : World} {m : Mem}

/-- A row that is only read, of the world's. -/
theorem MR.addRo (hM : MR P n0 w0 [] j m w) {ob : Obj} {L : Loc} (hr : ob.mine = false) (hg : ob.gen = 0) (hL : L.c < w.heap.size) (ho : ObjR j n0 w L ob) :
    MR P n0 w0 [] (j.new m.objs.length 0 L) (m.add ob) w ∧ j.le (j.new m.objs.length 0 L) := by
  have hle := hM.fresh_le 0 L
  have old : ∀ {i : Nat} {o : Obj}, (m.add ob).objs[i]? = some o → (i < m.objs.length ∧ m.objs[i]? = some o) ∨ (i = m.objs.length ∧ o = ob) := by
    intro i o hi
    simp only [Mem.add, List.getElem?_append] at hi
    split at hi
    · left; exact ⟨by assumption, hi⟩
    · right
      have : i - m.objs.length = 0 := by
        cases hz : i - m.objs.length with
        | zero => rfl
        | succ k => rw [hz] at hi; simp at hi
      rw [this] at hi
      simp at hi
      exact ⟨by omega, hi.symm⟩
  have jold : ∀ {i g : Nat} {L' : Loc}, i < m.objs.length → j.new m.objs.length 0 L i g = some L' → j i g = some L' := by
    intro i g L' hi h
    rw [J.new_other (by omega)] at h
    exact h
  have jnew : ∀ {g : Nat} {L' : Loc}, j.new m.objs.length 0 L m.objs.length g = some L' → g = 0 ∧ L' = L := by
    intro g L' h
    by_cases hg : g = 0
    · subst hg; rw [J.new_same] at h; cases h; exact ⟨rfl, rfl⟩
    · rw [J.new_other (by omega), hM.fresh] at h; cases h
  refine ⟨⟨?_, ?_, ?_, hM.old, hM.n0le, ?_, ?_, ?_, (fun gd hgd => by cases hgd), hM.str⟩, hle⟩
  · intro i o L' hi hL'
    rcases old hi with ⟨hlt, hi⟩ | ⟨rfl, rfl⟩
    · exact (hM.objs i o L' hi (jold hlt hL')).mono hle
    · obtain ⟨-, rfl⟩ := jnew hL'
      exact ho.mono hle
  · intro i g L' hL'
    by_cases hi : i = m.objs.length
    · subst hi
      obtain ⟨-, rfl⟩ := jnew hL'
      exact ⟨by simp [Mem.add], hL⟩
    · have := hM.dom _ _ _ (by rw [J.new_other (by omega)] at hL'; exact hL')
      simp only [Mem.add, List.length_append, List.length_singleton]
      exact ⟨by omega, this.2⟩
  · intro i i' o o' L1 L2 hi hi' hL1 hL2 hmi hmi' he
    rcases old hi with ⟨hlt, hi⟩ | ⟨rfl, rfl⟩
    · rcases old hi' with ⟨hlt', hi'⟩ | ⟨rfl, rfl⟩
      · exact hM.sep i i' o o' L1 L2 hi hi' (jold hlt hL1) (jold hlt' hL2) hmi hmi' he
      · rw [hr] at hmi'; cases hmi'
    · rw [hr] at hmi; cases hmi
  · intro g hg
    exact hle _ _ _ (hM.glob g hg)
  · have := hM.gle; simp only [Mem.add, List.length_append, List.length_singleton]; omega
  · intro i o g L' hi hL'
    rcases old hi with ⟨hlt, hi⟩ | ⟨rfl, rfl⟩
    · exact hM.gens i o g L' hi (jold hlt hL')
    · rw [(jnew hL').1]; exact Nat.zero_le _

theorem VRs.split {a b : List V} {c : List Value} (h : VRs j (a ++ b) c) : VRs j a (c.take a.length) ∧ VRs j b (c.drop a.length) := by
  induction a generalizing c with
  | nil => exact ⟨.nil, h⟩
  | cons x r ih => cases h with | cons h hr => exact ⟨.cons h (ih hr).1, (ih hr).2⟩
theorem VRs.flat : ∀ {vss : List (List V)} {css : List (List Value)}, vss.length = css.length → (∀ (i : Nat) (vs : List V) (cs : List Value), vss[i]? = some vs → css[i]? = some cs → VRs j vs cs) → VRs j vss.flatten css.flatten
  | [], [], _, _ => .nil
  | [], _ :: _, h, _ => by simp at h
  | _ :: _, [], h, _ => by simp at h
  | a :: r, b :: q, hl, h => by
    simp only [List.flatten_cons]
    exact (h 0 a b rfl rfl).append (VRs.flat (by simpa using hl) fun i vs cs h1 h2 => h (i + 1) vs cs (by simpa using h1) (by simpa using h2))

theorem flatten_getElem {α : Type} {z : Nat} (hz : 0 < z) : ∀ {l : List (List α)} (_ : ∀ x ∈ l, x.length = z) (k : Nat), l.flatten[k]? = (l[k / z]?).bind fun x => x[k % z]?
  | [], _, k => by simp
  | x :: r, h, k => by
    have hx : x.length = z := h x (by simp)
    rw [List.flatten_cons, List.getElem?_append, hx]
    split
    · rename_i hk
      rw [Nat.div_eq_of_lt hk, Nat.mod_eq_of_lt hk]
      simp
    · rename_i hk
      rw [flatten_getElem hz (fun y hy => h y (by simp [hy]))]
      have e : k = (k - z) + z := by omega
      conv => rhs; rw [e]
      rw [Nat.add_div_right _ hz, Nat.add_mod_right]
      simp
theorem flatten_drop_take {α : Type} {z : Nat} : ∀ {l : List (List α)} (_ : ∀ x ∈ l, x.length = z) (i : Nat) (hi : i < l.length), (l.flatten.drop (i * z)).take z = l[i]
  | [], _, i, hi => by simp at hi
  | x :: r, h, 0, _ => by
    have hx : x.length = z := h x (by simp)
    simp [← hx]
  | x :: r, h, i + 1, hi => by
    have hx : x.length = z := h x (by simp)
    have : (i + 1) * z = x.length + i * z := by rw [hx, Nat.succ_mul]; omega
    rw [List.flatten_cons, this, List.drop_append, List.drop_eq_nil_of_le (Nat.le_add_right _ _), List.nil_append, Nat.add_sub_cancel_left]
    simpa using flatten_drop_take (l := r) (fun y hy => h y (List.mem_cons_of_mem _ hy)) i (by simpa using hi)
theorem flatten_length {α : Type} {z : Nat} : ∀ {l : List (List α)} (_ : ∀ x ∈ l, x.length = z), l.flatten.length = l.length * z
  | [], _ => by simp
  | x :: r, h => by
    rw [List.flatten_cons, List.length_append, h x (by simp), flatten_length (fun y hy => h y (by simp [hy])), List.length_cons, Nat.succ_mul]; omega

theorem Addr.add_none {b o k : Nat} : (⟨b, o, none⟩ : Addr).add k = ⟨b, o + k, none⟩ := by
  unfold Addr.add
  split
  · rename_i h; subst h; rfl
  · rfl
theorem cell?_spot {a : Addr} {v : Value} (h : w.cell? a = some v) : a.spot = none ∧ a.block < w.heap.size := by
  unfold World.cell? at h
  split at h
  · rename_i c e f hh
    split at h
    · cases h
    · rename_i hs
      exact ⟨by simpa using hs, (Array.getElem?_eq_some_iff.1 hh).1⟩
  · cases h
theorem cellsOf_sz {t : TypeId} {n : Nat} (h : szO P t = some n) : P.cellsOf t = n := by
  unfold szO at h
  unfold Program.cellsOf
  rw [h]; rfl

section
variable {H : Type} {enc : TypeId × Value → H} {sp : Nat → Bool} {held : Bool}

/-- What lifting one value comes to. -/
def Lifted (P : Program) (w : World) (n0 : Nat) (w0 : World) (τ : Ty) (cs : List Value) : Prop :=
  ∀ j m, MR P n0 w0 [] j m w → ∃ (y : τ.sem) (vs : List V) (j' : J) (m' : Mem), MR P n0 w0 [] j' m' w ∧ j.le j' ∧ m.objs <+: m'.objs ∧ m'.guard = m.guard ∧ vs.length = τ.size ∧ VRs j' vs cs ∧ τ.Holds m' y vs

theorem J.le_trans {a b c : J} (h : a.le b) (k : b.le c) : a.le c := fun x g L hL => k _ _ _ (h _ _ _ hL)

theorem lift_list {e : Ty} : ∀ (css : List (List Value)), (∀ c ∈ css, Lifted P w n0 w0 e c) → ∀ j m, MR P n0 w0 [] j m w →
    ∃ (ys : List e.sem) (vss : List (List V)) (j' : J) (m' : Mem), MR P n0 w0 [] j' m' w ∧ j.le j' ∧ m.objs <+: m'.objs ∧ m'.guard = m.guard ∧ ys.length = css.length ∧ vss.length = css.length ∧
      (∀ (i : Nat) (vs : List V) (cs : List Value), vss[i]? = some vs → css[i]? = some cs → VRs j' vs cs) ∧
      ∀ (i : Nat) (y : e.sem) (vs : List V), ys[i]? = some y → vss[i]? = some vs → vs.length = e.size ∧ e.Holds m' y vs
  | [], _, j, m, hM => ⟨[], [], j, m, hM, fun _ _ _ h => h, List.prefix_rfl, rfl, rfl, rfl, fun i vs cs h => by simp at h, fun i y vs h => by simp at h⟩
  | c :: r, h, j, m, hM => by
    obtain ⟨y, vs, j1, m1, hM1, hj1, hp1, hg1, hl1, hv1, hh1⟩ := h c (by simp) j m hM
    obtain ⟨ys, vss, j2, m2, hM2, hj2, hp2, hg2, hl2, hl3, hv2, hh2⟩ := lift_list r (fun x hx => h x (by simp [hx])) j1 m1 hM1
    refine ⟨y :: ys, vs :: vss, j2, m2, hM2, J.le_trans hj1 hj2, hp1.trans hp2, hg2.trans hg1, by simp [hl2], by simp [hl3], ?_, ?_⟩
    · intro i a b ha hb
      cases i with
      | zero => simp at ha hb; subst ha hb; exact hv1.mono hj2
      | succ i => exact hv2 i a b (by simpa using ha) (by simpa using hb)
    · intro i a b ha hb
      cases i with
      | zero => simp at ha hb; subst ha hb; exact ⟨hl1, hh1.mono hp2⟩
      | succ i => exact hh2 i a b (by simpa using ha) (by simpa using hb)

theorem prefix_add (m : Mem) (ob : Obj) : m.objs <+: (m.add ob).objs := ⟨[ob], rfl⟩

theorem lift_slice {e : Ty} {a : Addr} {len cap : Nat} {css : List (List Value)} (hl : css.length = len) (hc : len ≤ cap) (hm : cap ≤ maxLen) (hz : ∀ c ∈ css, c.length = e.size) (hn : n0 = w.heap.size) (hspot : 0 < cap → a.spot = none ∧ a.block < w.heap.size)
    (hcell : ∀ (i : Nat) (c : List Value), css[i]? = some c → ∀ k, k < e.size → w.cell? (a.add (i * e.size + k)) = c[k]?) (he : ∀ c ∈ css, Lifted P w n0 w0 e c) : Lifted P w n0 w0 (.slice e) [.slice (some a) len cap] := by
  intro j m hM
  by_cases h0 : cap = 0
  · subst h0
    obtain rfl : len = 0 := by omega
    exact ⟨([] : List e.sem), [.emp], j, m, hM, fun _ _ _ h => h, List.prefix_rfl, rfl, rfl, .cons (.emp a) .nil, .inl ⟨rfl, .inr rfl⟩⟩
  · obtain ⟨hsp, hblk⟩ := hspot (by omega)
    obtain ⟨blk, off, spot⟩ := a
    simp only at hsp hblk
    subst hsp
    obtain ⟨ys, vss, j1, m1, hM1, hj1, hp1, hg1, hl1, hl2, hv, hh⟩ := lift_list css he j m hM
    have hvl : ∀ x ∈ vss, x.length = e.size := by
      intro x hx
      obtain ⟨i, hi⟩ := List.getElem?_of_mem hx
      have hlt := (List.getElem?_eq_some_iff.1 hi).1
      exact (hh i (ys[i]'(by omega)) x (List.getElem?_eq_getElem _) hi).1
    have hO : ObjR j1 n0 w ⟨blk, off, none⟩ (.row vss.flatten .ro) := by
      refine ⟨fun k v hk => ?_, rfl, by simp only; omega⟩
      rw [flatten_getElem e.size_pos hvl] at hk
      obtain ⟨x, hx, hxv⟩ := Option.bind_eq_some_iff.1 hk
      have hi : k / e.size < css.length := by rw [← hl2]; exact (List.getElem?_eq_some_iff.1 hx).1
      have hcx := List.getElem?_eq_getElem hi
      obtain ⟨v', hv', hr⟩ := (hv _ _ _ hx hcx).get hxv
      refine ⟨v', ?_, hr⟩
      have := hcell _ _ hcx (k % e.size) (Nat.mod_lt _ e.size_pos)
      rw [Addr.add_none, Nat.mul_comm, Nat.div_add_mod] at this
      exact this.trans hv'
    obtain ⟨hM2, hj2⟩ := hM1.addRo (L := ⟨blk, off, none⟩) (ob := .row vss.flatten .ro) rfl rfl hblk hO
    refine ⟨ys, [.slice m1.objs.length 0 0 e.size len cap], _, _, hM2, J.le_trans hj1 hj2, hp1.trans (prefix_add _ _), hg1, rfl, ?_, ?_⟩
    · exact .cons (.slice (L := ⟨blk, off, none⟩) (J.new_same _ _ _ _) rfl hc) .nil
    · have hyl : List.length ys = len := hl1.trans hl
      refine .inr ⟨m1.objs.length, cap, vss, by rw [hyl], by rw [hyl]; exact hc, hm, hl2.trans hl1.symm, ?_, ?_, ?_⟩
      · have hfl : vss.flatten.length = List.length ys * e.size := by rw [flatten_length hvl, hl2, hl1]
        simp only [Mem.cells?, Mem.add, List.getElem?_concat_length, Mode.gen, Nat.zero_add, hfl, Nat.le_refl, and_self, if_true, List.drop_zero]
        rw [← hfl, List.take_length]
      · simp [Mem.firm, Mem.add, Mode.gen, Mode.fixed]
      · intro i y c hy hc
        exact ⟨(hh i y c hy hc).1, (hh i y c hy hc).2.mono (prefix_add _ _)⟩

mutual
theorem lift_R (hn : n0 = w.heap.size) (hsp : ∀ b, sp b = true) : ∀ (d : Nat) {t : TypeId} {τ : Ty} (_ : tyOf P d t = some τ) {fuel : Nat} {cs : List Value} {x : DataW H × List MemPlace} (_ : DataW.trod enc P w 0 sp held fuel t cs = some x), Lifted P w n0 w0 τ cs
  | 0, t, τ, ht, fuel, cs, x, h => by simp [tyOf] at ht
  | d + 1, t, τ, ht, fuel, cs, x, h => by
    have hsz := tyOf_size P (d + 1) ht
    simp only [tyOf] at ht
    split at ht
    · rename_i hu
      split at ht <;> cases ht
      obtain ⟨b, rfl, -⟩ := DataW.trod_bool hu h
      intro j m hM
      exact ⟨b, [.bool b], j, m, hM, fun _ _ _ h => h, List.prefix_rfl, rfl, rfl, .cons (.bool b) .nil, rfl⟩
    · rename_i hu
      split at ht <;> cases ht
      obtain ⟨n, rfl, -, hw⟩ := DataW.trod_int hu h
      intro j m hM
      have hn : 0 ≤ n ∧ n < 256 := by simp [Lit.wf, IntKind.min, IntKind.max, IntKind.bits, IntKind.signed] at hw; omega
      refine ⟨UInt8.ofNat n.toNat, [.u8 (UInt8.ofNat n.toNat)], j, m, hM, fun _ _ _ h => h, List.prefix_rfl, rfl, rfl, .cons ?_ .nil, rfl⟩
      have := VR.u8 (j := j) (UInt8.ofNat n.toNat)
      rwa [u8_ofNat hn.1 hn.2] at this
    · rename_i k hk hu
      split at ht <;> cases ht
      obtain ⟨n, rfl, -, hw⟩ := DataW.trod_int hu h
      intro j m hM
      refine ⟨(n : Int), [.int k n], j, m, hM, fun _ _ _ h => h, List.prefix_rfl, rfl, rfl, .cons (.int _ _ (fun e => by subst e; exact hk rfl)) .nil, rfl, ?_⟩
      simp [Lit.wf] at hw
      exact ⟨by omega, by omega⟩
    · rename_i hu
      split at ht <;> cases ht
      obtain ⟨s, rfl, -, hs⟩ := DataW.trod_string hu h
      intro j m hM
      exact ⟨s.data.toList, [.str s.data.toList], j, m, hM, fun _ _ _ h => h, List.prefix_rfl, rfl, rfl, .cons (.str s) .nil, rfl, by unfold fitsL; simpa using hs⟩
    · rename_i e hu
      obtain ⟨τe, hte, ht⟩ := Option.bind_eq_some_iff.1 ht
      split at ht <;> cases ht
      have hce := cellsOf_sz (tyOf_size P d hte)
      rcases DataW.trod_slice hu h with ⟨rfl, -⟩ | ⟨a, len, cap, elems, rest, n, rfl, rfl, -, -, hlc, hcm, hel, hget, hrest, -⟩
      · intro j m hM
        exact ⟨([] : List τe.sem), [.nils], j, m, hM, fun _ _ _ h => h, List.prefix_rfl, rfl, rfl, .cons .nils .nil, .inl ⟨rfl, .inl rfl⟩⟩
      · rw [hce] at hget hrest
        obtain ⟨hrl, hrg⟩ := hrest (hsp _)
        have each : ∀ i, i < len → ∃ c y, w.cells? 0 (a.add (i * τe.size)) τe.size = some c ∧ DataW.trod enc P w 0 sp held n e c = some y := by
          intro i hi
          have := hget i hi
          rw [List.getElem?_eq_getElem (by omega)] at this
          obtain ⟨c, hc, hy⟩ := Option.bind_eq_some_iff.1 this
          exact ⟨c, _, hc, hy⟩
        have hex : ∃ css : List (List Value), css.length = len ∧ ∀ (i : Nat) (c : List Value), css[i]? = some c → ∃ y, w.cells? 0 (a.add (i * τe.size)) τe.size = some c ∧ DataW.trod enc P w 0 sp held n e c = some y := by
          refine ⟨(List.range len).map fun i => ((w.cells? 0 (a.add (i * τe.size)) τe.size).getD []), by simp, fun i c hc => ?_⟩
          simp only [List.getElem?_map] at hc
          obtain ⟨i', hi', hc⟩ := Option.map_eq_some_iff.1 hc
          have hlt : i < len := by have := (List.getElem?_eq_some_iff.1 hi').1; simpa using this
          rw [List.getElem?_range hlt] at hi'
          cases hi'
          obtain ⟨c', y, h1, h2⟩ := each i hlt
          rw [h1] at hc
          simp at hc; subst hc
          exact ⟨y, h1, h2⟩
        obtain ⟨css, hcl, hcss⟩ := hex
        have add_add : ∀ i k, (a.add (i * τe.size)).add k = a.add (i * τe.size + k) := by
          intro i k
          unfold Addr.add
          split <;> split <;> (try split) <;> simp_all <;> omega
        refine lift_slice hcl hlc hcm ?_ hn ?_ ?_ ?_
        · intro c hc
          obtain ⟨i, hi⟩ := List.getElem?_of_mem hc
          obtain ⟨y, h1, -⟩ := hcss i c hi
          exact (World.cells?_some h1).2.1
        · intro hpos
          have first : ∃ c, w.cells? 0 a τe.size = some c := by
            by_cases h0 : 0 < len
            · obtain ⟨c, y, h1, -⟩ := each 0 h0
              exact ⟨c, by simpa [Addr.add] using h1⟩
            · have := hrg 0 (by omega)
              rw [List.getElem?_eq_getElem (by omega)] at this
              obtain ⟨c, hc, -⟩ := Option.bind_eq_some_iff.1 this
              refine ⟨c, ?_⟩
              have h0 : len = 0 := by omega
              subst h0
              simpa [Addr.add] using hc
          obtain ⟨c, hc⟩ := first
          obtain ⟨-, hl, hg⟩ := World.cells?_some hc
          have hp := τe.size_pos
          have := hg 0 hp
          rw [List.getElem?_eq_getElem (by omega)] at this
          exact cell?_spot (by simpa [Addr.add] using this)
        · intro i c hi k hk
          obtain ⟨y, h1, -⟩ := hcss i c hi
          rw [← add_add]
          exact (World.cells?_some h1).2.2 k hk
        · intro c hc
          obtain ⟨i, hi⟩ := List.getElem?_of_mem hc
          obtain ⟨y, -, h2⟩ := hcss i c hi
          exact lift_R hn hsp d hte h2
    · rename_i fs hu
      obtain ⟨τf, htf, ht⟩ := Option.bind_eq_some_iff.1 ht
      split at ht
      · rename_i hszt
        cases ht
        obtain ⟨xs, n, rfl, -, hlen, hxs, hfs⟩ := DataW.trod_struct hu h
        have hct := cellsOf_sz hsz
        have := lift_Fs hn hsp d (fs := fs.toList) (off := 0) htf (cs := cs) (by rw [hlen, hct]; simp [Ty.size]) (fun i f hf => by
          have h1 := hfs i f (by simpa using hf)
          have hi : i < xs.length := by rw [hxs]; have := (List.getElem?_eq_some_iff.1 hf).1; simpa using this
          rw [List.getElem?_eq_getElem hi] at h1
          exact ⟨n, _, h1⟩)
        rw [List.drop_zero, List.take_of_length_le (by rw [hlen, hct]; simp [Ty.size])] at this
        exact this
      · cases ht
    · cases ht
theorem lift_Fs (hn : n0 = w.heap.size) (hsp : ∀ b, sp b = true) : ∀ (d : Nat) {fs : List Field} {off : Nat} {τ : Ty} (_ : tyFs P d fs off = some τ) {cs : List Value} (_ : off + τ.size ≤ cs.length)
    (_ : ∀ (i : Nat) (f : Field), fs[i]? = some f → ∃ (n : Nat) (y : DataW H × List MemPlace), DataW.trod enc P w 0 sp held n f.type ((cs.drop f.offset).take (P.cellsOf f.type)) = some y), Lifted P w n0 w0 τ ((cs.drop off).take τ.size)
  | 0, fs, off, τ, ht, cs, hl, hf => by simp [tyFs] at ht
  | d + 1, [], off, τ, ht, cs, hl, hf => by simp [tyFs] at ht
  | d + 1, [f], off, τ, ht, cs, hl, hf => by
    simp only [tyFs] at ht
    split at ht
    · rename_i ho
      obtain ⟨n, y, hy⟩ := hf 0 f rfl
      rw [cellsOf_sz (tyOf_size P d ht), ho] at hy
      exact lift_R hn hsp d ht hy
    · cases ht
  | d + 1, f :: g :: r, off, τ, ht, cs, hl, hf => by
    simp only [tyFs] at ht
    split at ht
    · rename_i ho
      obtain ⟨a, ha, ht⟩ := Option.bind_eq_some_iff.1 ht
      obtain ⟨b, hb, ht⟩ := Option.bind_eq_some_iff.1 ht
      cases ht
      obtain ⟨n, y, hy⟩ := hf 0 f rfl
      rw [cellsOf_sz (tyOf_size P d ha), ho] at hy
      simp only [Ty.size] at hl
      have h1 := lift_R hn hsp d ha hy
      have h2 := lift_Fs hn hsp d hb (cs := cs) (by omega) (fun i f' hf' => hf (i + 1) f' (by simpa using hf'))
      intro j m hM
      obtain ⟨y1, vs1, j1, m1, hM1, hj1, hp1, hg1, hl1, hv1, hh1⟩ := h1 j m hM
      obtain ⟨y2, vs2, j2, m2, hM2, hj2, hp2, hg2, hl2, hv2, hh2⟩ := h2 j1 m1 hM1
      refine ⟨(y1, y2), vs1 ++ vs2, j2, m2, hM2, J.le_trans hj1 hj2, hp1.trans hp2, hg2.trans hg1, by simp [hl1, hl2, Ty.size], ?_, ?_⟩
      · have e : (cs.drop off).take (a.size + b.size) = (cs.drop off).take a.size ++ (cs.drop (off + a.size)).take b.size := by
          rw [List.take_add, List.drop_drop]
        rw [show (Ty.pair a b).size = a.size + b.size from rfl, e]
        exact (hv1.mono hj2).append hv2
      · exact ⟨vs1, vs2, rfl, hh1.mono hp2, hh2⟩
    · cases ht
end
end
end

/-! ### all arguments -/
/-- An argument's value out of its cells. -/
def Ty.arg : Ty → List V → V
  | .st _, vs => .agg vs
  | _, vs => vs.headD .any
def semAll : List Ty → Type
  | [] => Unit
  | τ :: r => τ.sem × semAll r
def HoldsAll (m : Mem) : (ts : List Ty) → semAll ts → List V → Prop
  | [], _, vs => vs = []
  | τ :: r, xs, vs => ∃ v q, vs = v :: q ∧ (∃ cells, cells.length = τ.size ∧ τ.Holds m xs.1 cells ∧ v = τ.arg cells) ∧ HoldsAll m r xs.2 q
theorem HoldsAll.mono {m m' : Mem} (h : m.objs <+: m'.objs) : ∀ {ts : List Ty} {xs : semAll ts} {vs : List V}, HoldsAll m ts xs vs → HoldsAll m' ts xs vs
  | [], _, _, hx => hx
  | _ :: _, _, _, ⟨v, q, h1, ⟨c, h2, h3, h4⟩, h5⟩ => ⟨v, q, h1, ⟨c, h2, h3.mono h, h4⟩, h5.mono h⟩

def tysOf (P : Program) (d : Nat) : List TypeId → Option (List Ty)
  | [] => some []
  | t :: r => match tyOf P d t, tysOf P d r with
    | some a, some b => some (a :: b)
    | _, _ => none

theorem lift_arg {P : Program} {d : Nat} {t : TypeId} {τ : Ty} (ht : tyOf P d t = some τ) {W : World} {r : Reach} {base : Nat} {v : Value} (hv : Value.okWide P W r base t v) {j : J} {vs : List V} (hl : vs.length = τ.size) (hr : VRs j vs v.cells.toList) : VR j (τ.arg vs) v := by
  cases d with
  | zero => simp [tyOf] at ht
  | succ d =>
    have scalar : ∀ {D : TypeDesc}, P.underlying t = some D → (∀ fs, D ≠ .struct fs) → (∀ n e, D ≠ .array n e) → (∀ x, D ≠ .interface x) → τ.size = 1 → (∀ x : Ty, τ ≠ .st x) → VR j (τ.arg vs) v := by
      intro D hD h1 h2 h3 h4 h5
      have hc : v.cells.toList = [v] := by
        unfold Value.okWide at hv
        rw [hD] at hv
        cases v <;> try rfl
        exfalso
        split at hv
        · rename_i h; exact h1 _ (Option.some.inj h)
        · rename_i h; exact h2 _ _ (Option.some.inj h)
        · unfold Cell.okWide at hv
          rw [hD] at hv
          split at hv <;> simp_all [Cell.ok]
      rw [hc] at hr
      cases hr with | cons h hr => ?_
      cases hr
      cases τ <;> first | exact h | exact absurd rfl (h5 _)
    simp only [tyOf] at ht
    split at ht
    · rename_i hu; split at ht <;> cases ht; exact scalar hu (by simp) (by simp) (by simp) rfl (by simp)
    · rename_i hu; split at ht <;> cases ht; exact scalar hu (by simp) (by simp) (by simp) rfl (by simp)
    · rename_i hu; split at ht <;> cases ht; exact scalar hu (by simp) (by simp) (by simp) rfl (by simp)
    · rename_i hu; split at ht <;> cases ht; exact scalar hu (by simp) (by simp) (by simp) rfl (by simp)
    · rename_i e hu
      obtain ⟨τe, hte, ht⟩ := Option.bind_eq_some_iff.1 ht
      split at ht <;> cases ht
      exact scalar hu (by simp) (by simp) (by simp) rfl (by simp)
    · rename_i fs hu
      obtain ⟨τe, hte, ht⟩ := Option.bind_eq_some_iff.1 ht
      split at ht <;> cases ht
      unfold Value.okWide at hv
      rw [hu] at hv
      obtain ⟨cs, rfl, -, -⟩ := hv
      exact .agg hr
    · cases ht

theorem lift_args {H : Type} {enc : TypeId × Value → H} {P : Program} {W : World} {n0 : Nat} {w0 : World} {base : Nat} (hn : n0 = W.heap.size) {d : Nat} : ∀ {tl : List TypeId} {tys : List Ty} (_ : tysOf P d tl = some tys) {args : List Value} {ds : List (DataW H)} {ps : List MemPlace},
    DataW.TrodAll enc P W 0 (fun _ => true) true tl args ds ps → (∀ (i : Nat) (t : TypeId) (v : Value), tl[i]? = some t → args[i]? = some v → Value.okWide P W .any base t v) → ∀ j m, MR P n0 w0 [] j m W →
    ∃ (xs : semAll tys) (vs : List V) (j' : J) (m' : Mem), MR P n0 w0 [] j' m' W ∧ j.le j' ∧ m.objs <+: m'.objs ∧ m'.guard = m.guard ∧ VRs j' vs args ∧ HoldsAll m' tys xs vs
  | [], tys, ht, args, ds, ps, h, hv, j, m, hM => by
    cases ht
    obtain ⟨rfl, -, -⟩ := ChangeShapes.trodAll_nil h
    exact ⟨(), [], j, m, hM, fun _ _ _ h => h, List.prefix_rfl, rfl, .nil, rfl⟩
  | t :: tl, tys, ht, args, ds, ps, h, hv, j, m, hM => by
    simp only [tysOf] at ht
    split at ht
    · rename_i a b ha hb
      cases ht
      obtain ⟨v, vs', dd, ds', p, q, rfl, rfl, rfl, ⟨fuel, hd⟩, hrest⟩ := ChangeShapes.trodAll_cons h
      obtain ⟨y, cells, j1, m1, hM1, hj1, hp1, hg1, hl1, hv1, hh1⟩ := lift_R (P := P) hn (fun _ => rfl) d ha hd j m hM
      obtain ⟨xs, vs, j2, m2, hM2, hj2, hp2, hg2, hv2, hh2⟩ := lift_args (P := P) hn hb hrest (fun i t v h1 h2 => hv (i + 1) t v (by simpa using h1) (by simpa using h2)) j1 m1 hM1
      have hva := lift_arg ha (hv 0 t v rfl rfl) hl1 hv1
      exact ⟨(y, xs), a.arg cells :: vs, j2, m2, hM2, J.le_trans hj1 hj2, hp1.trans hp2, hg2.trans hg1, .cons (hva.mono hj2) hv2, _, _, rfl, ⟨cells, hl1, hh1.mono hp2, rfl⟩, hh2⟩
    · cases ht

/-- The evaluator finds that a law holds, whatever comes in. 'G': what lies ahead of it. -/
def LawOk (P : Program) (cfg : Cfg) (f : FuncId) (G : List Obj) (tys : List Ty) : Prop :=
  ∀ (m : Mem) (xs : semAll tys) (vs : List V), G <+: m.objs → m.guard = 0 → HoldsAll m tys xs vs → ∃ k m', icall P cfg k (.fn f) vs m = some (.ret (.bool true), m')

theorem law_calls {H : Type} {enc : TypeId × Value → H} {P : Program} {cfg : Cfg} (hS : Sound P cfg) {W : World} {base : Nat} {d : Nat} {f : FuncId} {tl : List TypeId} {tys : List Ty} (ht : tysOf P d tl = some tys)
    {args : Array Value} {ds : List (DataW H)} {ps : List MemPlace} (h : DataW.TrodAll enc P W 0 (fun _ => true) true tl args.toList ds ps) (hv : ∀ (i : Nat) (t : TypeId) (v : Value), tl[i]? = some t → args.toList[i]? = some v → Value.okWide P W .any base t v)
    {G : List Obj} {j : J} (hM : MR P W.heap.size W [] j ⟨G, 0⟩ W) (hL : LawOk P cfg f G tys) :
    Calls P f args W fun e w' => e = .returned (.bool true) ∧ Below W.heap.size W w' := by
  obtain ⟨xs, vs, j', m', hM', -, hp, hg, hvr, hh⟩ := lift_args rfl ht h hv j ⟨G, 0⟩ hM
  obtain ⟨k, m2, hk⟩ := hL m' xs vs hp hg hh
  obtain ⟨-, hc⟩ := (hS.call k).calls f vs m' _ _ hk
  refine (hc _ _ _ _ _ _ hM' hvr).mono ?_
  rintro e w' ⟨j2, hO, hM2, hG⟩
  cases e with
  | returned v =>
    cases hO
    exact ⟨rfl, hM2.str.os, hM2.str.tape, hM2.str.output, hM2.n0le, fun c hc => hM2.old c hc⟩
  | panicked c => exact hO.elim
  | outgrown => exact hO.elim

/-- Where a program has no variables. -/
theorem MR.none {P : Program} (hg : P.globals.size = 0) (W : World) : MR P W.heap.size W [] (fun _ _ => none) ⟨[], 0⟩ W :=
  ⟨fun i o L h => by simp at h, fun i g L h => by simp at h, fun i i' o o' L L' h => by simp at h, fun c _ => rfl, Nat.le_refl _, fun g h => by omega, Nat.le_refl _, fun i o g L h => by simp at h, fun gd h => by simp at h, ⟨rfl, rfl, rfl⟩⟩
end Go.Ig
