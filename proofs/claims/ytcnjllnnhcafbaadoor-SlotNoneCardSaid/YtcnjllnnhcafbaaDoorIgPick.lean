/-
  A law is run over a memory of its own: the tables, and one slice of bytes.
-/
import Derived.Test.YtcnjllnnhcafbaaDoorIgFlat
set_option linter.unusedVariables false
namespace Go.Ig
open Go Go.RowKit

/-- What stands for m and vs where all that lies below is let alone. -/
def Restr (P : Program) (m : Mem) (vs : List V) (m0 : Mem) (vs0 : List V) : Prop :=
  ∀ j w, MR P w.heap.size w [] j m w → ∀ vs', VRs j vs vs' → ∃ j0, MR P w.heap.size w [] j0 m0 w ∧ VRs j0 vs0 vs'
def tabsG (tabs : List (List V)) : List Obj := tabs.map fun l => .row l .ro
/-- The law as it is run over such a memory. -/
def LawOkR (P : Program) (cfg : Cfg) (f : FuncId) (G : List Obj) (tys : List Ty) : Prop :=
  ∀ (m : Mem) (xs : semAll tys) (vs : List V), G <+: m.objs → m.guard = 0 → HoldsAll m tys xs vs → ∃ m0 vs0, Restr P m vs m0 vs0 ∧ ∃ k m', icall P cfg k (.fn f) vs0 m0 = some (.ret (.bool true), m')
theorem law_callsR {H : Type} {enc : TypeId × Value → H} {P : Program} {cfg : Cfg} (hS : Sound P cfg) {W : World} {base : Nat} {d : Nat} {f : FuncId} {tl : List TypeId} {tys : List Ty} (ht : tysOf P d tl = some tys)
    {args : Array Value} {ds : List (DataW H)} {ps : List MemPlace} (h : DataW.TrodAll enc P W 0 (fun _ => true) true tl args.toList ds ps) (hv : ∀ (i : Nat) (t : TypeId) (v : Value), tl[i]? = some t → args.toList[i]? = some v → Value.okWide P W .any base t v)
    {G : List Obj} {j : J} (hM : MR P W.heap.size W [] j ⟨G, 0⟩ W) (hL : LawOkR P cfg f G tys) :
    Calls P f args W fun e w' => e = .returned (.bool true) ∧ Below W.heap.size W w' := by
  obtain ⟨xs, vs, j', m', hM', -, hp, hg, hvr, hh⟩ := lift_args rfl ht h hv j ⟨G, 0⟩ hM
  obtain ⟨m0, vs0, hR, k, m2, hk⟩ := hL m' xs vs hp hg hh
  obtain ⟨j0, hM0, hv0⟩ := hR j' W hM' _ hvr
  obtain ⟨-, hc⟩ := (hS.call k).calls f vs0 m0 _ _ hk
  refine (hc _ _ _ _ _ _ hM0 hv0).mono ?_
  rintro e w' ⟨j2, hO, hM2, hG⟩
  cases e with
  | returned v =>
    cases hO
    exact ⟨rfl, hM2.str.os, hM2.str.tape, hM2.str.output, hM2.n0le, fun c hc => hM2.old c hc⟩
  | panicked c => exact hO.elim
  | outgrown => exact hO.elim

/-- Where the tables lie, and behind them what stands at L. -/
def jB (n : Nat) (L : Option Loc) : J := fun b g => if g = 0 then if b < n then some ⟨b, 0, none⟩ else if b = n then L else none else none
theorem jB_eq {n : Nat} {L0 : Option Loc} {b g : Nat} {L : Loc} (h : jB n L0 b g = some L) : g = 0 ∧ (b < n ∧ L = ⟨b, 0, none⟩ ∨ b = n ∧ L0 = some L) := by
  unfold jB at h
  split at h
  · rename_i h1
    split at h
    · rename_i h2; exact ⟨h1, .inl ⟨h2, (Option.some.inj h).symm⟩⟩
    · split at h
      · rename_i h2; exact ⟨h1, .inr ⟨h2, h⟩⟩
      · cases h
  · cases h
theorem mrPick {P : Program} {n0 : Nat} {w0 : World} {gs : List Nat} {j : J} {m : Mem} {w : World} {tabs : List (List V)} (hg : P.globals.size = tabs.length) (hflat : ∀ t ∈ tabs, t.all V.flat = true) (hM : MR P n0 w0 gs j m w) (hp : tabsG tabs <+: m.objs) {L0 : Option Loc} {os : List Obj}
    (hos : os = [] ∧ L0 = none ∨ ∃ L l, L0 = some L ∧ os = [Obj.u8 l .ro] ∧ L.room = none ∧ L.c < w.heap.size ∧ ∀ k b, l[k]? = some b → w.cell? ⟨L.c, L.s + k, none⟩ = some (.int .u8 (b.toNat : Int))) :
    MR P w.heap.size w [] (jB tabs.length L0) ⟨tabsG tabs ++ os, 0⟩ w := by
  have hlen : (tabsG tabs).length = tabs.length := by simp [tabsG]
  have hm : ∀ (i : Nat) (t : List V), tabs[i]? = some t → m.objs[i]? = some (Obj.row t .ro) := by
    intro i t hi
    obtain ⟨r, hr⟩ := hp
    have hlt := (List.getElem?_eq_some_iff.1 hi).1
    rw [← hr, List.getElem?_append_left (by omega)]
    simp [tabsG, hi]
  refine ⟨?_, ?_, ?_, fun _ _ => rfl, Nat.le_refl _, ?_, Nat.zero_le _, ?_, (fun gd h => by cases h), ⟨rfl, rfl, rfl⟩⟩
  · intro i o L hi hL
    obtain ⟨hgen, ⟨hlt, rfl⟩ | ⟨rfl, hL0⟩⟩ := jB_eq hL
    · rw [List.getElem?_append_left (by omega)] at hi
      obtain ⟨t, ht⟩ : ∃ t, tabs[i]? = some t := ⟨_, List.getElem?_eq_getElem hlt⟩
      obtain rfl : o = .row t .ro := by simpa [tabsG, ht] using hi.symm
      have hj := hM.glob i (by omega)
      obtain ⟨hcell, -⟩ := hM.objs i _ _ (hm i t ht) hj
      refine ⟨fun k v hk => ?_, rfl, (hM.dom _ _ _ hj).2⟩
      obtain ⟨v', h1, h2⟩ := hcell k v hk
      exact ⟨v', h1, h2.flat_any (List.all_eq_true.1 (hflat t (List.mem_of_getElem? ht)) v (List.mem_of_getElem? hk))⟩
    · rw [List.getElem?_append_right (by omega), hlen, Nat.sub_self] at hi
      rcases hos with ⟨rfl, hn⟩ | ⟨L', l, hL', rfl, hr, hc, hcell⟩
      · simp at hi
      · rw [hL0] at hL'
        cases hL'
        obtain rfl : o = .u8 l .ro := by simpa using hi.symm
        exact ⟨hcell, hr, hc⟩
  · intro i g L hL
    obtain ⟨-, ⟨hlt, rfl⟩ | ⟨rfl, hL0⟩⟩ := jB_eq hL
    · exact ⟨by simp [tabsG]; omega, (hM.dom _ _ _ (hM.glob i (by omega))).2⟩
    · rcases hos with ⟨rfl, hn⟩ | ⟨L', l, hL', rfl, hr, hc, hcell⟩
      · rw [hn] at hL0; cases hL0
      · rw [hL0] at hL'
        cases hL'
        exact ⟨by simp [tabsG], hc⟩
  · intro i i' o o' L L' hi hi' hL hL' hmi hmi' he
    exfalso
    have : o.mine = false := by
      have := List.mem_of_getElem? hi
      simp only [List.mem_append, tabsG, List.mem_map] at this
      rcases this with ⟨t, -, rfl⟩ | h
      · rfl
      · rcases hos with ⟨rfl, -⟩ | ⟨_, l, -, rfl, -⟩
        · cases h
        · obtain rfl : o = .u8 l .ro := by simpa using h
          rfl
    rw [this] at hmi
    cases hmi
  · intro g hgl
    unfold jB
    rw [if_pos rfl, if_pos (by omega)]
  · intro i o g L hi hL
    obtain ⟨rfl, -⟩ := jB_eq hL
    exact Nat.zero_le _

/-- What leads nowhere needs no more than the tables. -/
theorem Restr.flat {P : Program} {tabs : List (List V)} (hg : P.globals.size = tabs.length) (hflat : ∀ t ∈ tabs, t.all V.flat = true) {m : Mem} (hp : tabsG tabs <+: m.objs) {vs : List V} (hv : vs.all V.flatA = true) : Restr P m vs ⟨tabsG tabs, 0⟩ vs := by
  intro j w hM vs' hvs
  have := mrPick hg hflat hM hp (L0 := none) (os := []) (.inl ⟨rfl, rfl⟩)
  rw [List.append_nil] at this
  exact ⟨_, this, hvs.flatA_any hv⟩

/-- The block's name is changed. -/
def V.renF (n : Nat) : V → V
  | .slice _ _ o z len cap => .slice n 0 o z len cap
  | v => v
def V.ren (n : Nat) : V → V
  | .agg l => .agg (l.map (V.renF n))
  | v => v.renF n
def V.inF (b : Nat) : V → Bool
  | .slice b' g _ _ _ _ => b' == b && g == 0
  | v => v.flat
def V.inA (b : Nat) : V → Bool
  | .agg l => l.all (V.inF b)
  | v => v.inF b
theorem VR.renF {j j' : J} {n b : Nat} {L : Loc} (hL : j b 0 = some L) (hL' : j' n 0 = some L) {v : V} {v' : Value} (h : VR j v v') (ha : v.inF b = true) : VR j' (v.renF n) v' := by
  cases h with
  | slice h hc hl =>
    simp only [V.inF, Bool.and_eq_true, beq_iff_eq] at ha
    obtain ⟨rfl, rfl⟩ := ha
    rw [h] at hL
    cases hL
    exact .slice hL' hc hl
  | bool b => exact .bool b
  | u8 b => exact .u8 b
  | int k n h => exact .int k n h
  | str s => exact .str s
  | nilp => exact .nilp
  | nils => exact .nils
  | emp a => exact .emp a
  | nilm => exact .nilm
  | nilf => exact .nilf
  | nili => exact .nili
  | _ => simp [V.inF, V.flat] at ha
theorem VRs.renF {j j' : J} {n b : Nat} {L : Loc} (hL : j b 0 = some L) (hL' : j' n 0 = some L) : ∀ {vs : List V} {vs' : List Value}, VRs j vs vs' → vs.all (V.inF b) = true → VRs j' (vs.map (V.renF n)) vs'
  | _, _, .nil, _ => .nil
  | _, _, .cons h r, ha => by
    rw [List.all_cons, Bool.and_eq_true] at ha
    exact .cons (h.renF hL hL' ha.1) (VRs.renF hL hL' r ha.2)
theorem VR.ren {j j' : J} {n b : Nat} {L : Loc} (hL : j b 0 = some L) (hL' : j' n 0 = some L) {v : V} {v' : Value} (h : VR j v v') (ha : v.inA b = true) : VR j' (v.ren n) v' := by
  cases v with
  | agg l =>
    cases h with
    | agg h => exact .agg (h.renF hL hL' ha)
  | _ => exact h.renF hL hL' ha
theorem VRs.ren {j j' : J} {n b : Nat} {L : Loc} (hL : j b 0 = some L) (hL' : j' n 0 = some L) : ∀ {vs : List V} {vs' : List Value}, VRs j vs vs' → vs.all (V.inA b) = true → VRs j' (vs.map (V.ren n)) vs'
  | _, _, .nil, _ => .nil
  | _, _, .cons h r, ha => by
    rw [List.all_cons, Bool.and_eq_true] at ha
    exact .cons (h.ren hL hL' ha.1) (VRs.ren hL hL' r ha.2)
theorem VRs.of_mem {j : J} {v : V} : ∀ {vs : List V} {vs' : List Value}, VRs j vs vs' → v ∈ vs → ∃ v', VR j v v'
  | _, _, .nil, h => by cases h
  | _, _, .cons h r, hm => by
    rcases List.mem_cons.1 hm with rfl | h'
    · exact ⟨_, h⟩
    · exact VRs.of_mem r h'
theorem cells?_obj {m : Mem} {b g o n : Nat} {cs : List V} (h : m.cells? b g o n = some cs) : ∃ ob, m.objs[b]? = some ob ∧ ob.gen = g ∧ ∀ j n0 w L, ObjR j n0 w L ob → ∀ (k : Nat) (x : UInt8), cs[k]? = some (.u8 x) → w.cell? ⟨L.c, L.s + (o + k), none⟩ = some (.int .u8 (x.toNat : Int)) := by
  unfold Mem.cells? at h
  split at h
  · rename_i l md h1
    split at h
    · rename_i hc
      cases h
      refine ⟨_, h1, hc.1, fun j n0 w L hO k x hk => hO.1 _ _ ?_⟩
      rw [List.getElem?_map, List.getElem?_take] at hk
      split at hk
      · rw [List.getElem?_drop] at hk
        obtain ⟨y, hy, he⟩ := Option.map_eq_some_iff.1 hk
        cases he
        exact hy
      · cases hk
    · cases h
  · rename_i l md h1
    split at h
    · rename_i hc
      cases h
      refine ⟨_, h1, hc.1, fun j n0 w L hO k x hk => ?_⟩
      rw [List.getElem?_take] at hk
      split at hk
      · rw [List.getElem?_drop] at hk
        obtain ⟨v', h2, h3⟩ := hO.1 _ _ hk
        cases h3
        exact h2
      · cases hk
    · cases h
  · cases h
/-- One slice of bytes lies behind the tables. -/
theorem Restr.bytes {P : Program} {tabs : List (List V)} (hg : P.globals.size = tabs.length) (hflat : ∀ t ∈ tabs, t.all V.flat = true) {m : Mem} (hp : tabsG tabs <+: m.objs) {b : Nat} {l : List UInt8} (hc : m.cells? b 0 0 l.length = some (l.map V.u8)) (hf : m.firm b 0 = true)
    {vs : List V} (hs : ∃ v ∈ vs, v.inA b = true ∧ ((∃ o z n c, v = .slice b 0 o z n c) ∨ ∃ q, v = .agg q ∧ ∃ o z n c, V.slice b 0 o z n c ∈ q)) (hv : vs.all (V.inA b) = true) : Restr P m vs ⟨tabsG tabs ++ [.u8 l .ro], 0⟩ (vs.map (V.ren tabs.length)) := by
  intro j w hM vs' hvs
  have hL : ∃ L, j b 0 = some L := by
    obtain ⟨v, hmem, -, hs⟩ := hs
    obtain ⟨v', hvr⟩ := hvs.of_mem hmem
    rcases hs with ⟨o, z, n, c, rfl⟩ | ⟨q, rfl, o, z, n, c, hq⟩
    · cases hvr with
      | slice h hc hl => exact ⟨_, h⟩
    · cases hvr with
      | agg h =>
        obtain ⟨_, h⟩ := h.of_mem hq
        cases h with
        | slice h hc hl => exact ⟨_, h⟩
  obtain ⟨L, hL⟩ := hL
  obtain ⟨ob, hob, hgen, hcell⟩ := cells?_obj hc
  have hO := hM.objs b ob L hob (by rw [hgen]; exact hL)
  have hroom : L.room = none := by
    unfold Mem.firm at hf
    rw [hob] at hf
    cases ob with
    | u8 l' md => cases md with
      | vec _ => simp [Mode.fixed] at hf
      | ro => exact hO.2.1
      | exact => exact hO.2.1
    | row l' md => cases md with
      | vec _ => simp [Mode.fixed] at hf
      | ro => exact hO.2.1
      | exact => exact hO.2.1
    | _ => simp at hf
  refine ⟨jB tabs.length (some L), mrPick hg hflat hM hp (.inr ⟨L, l, rfl, rfl, hroom, (hM.dom _ _ _ hL).2, fun k x hk => ?_⟩), hvs.ren hL (by unfold jB; rw [if_pos rfl, if_neg (by omega), if_pos rfl]) hv⟩
  have := hcell _ _ _ _ hO k x (by rw [List.getElem?_map, hk]; rfl)
  rwa [Nat.zero_add] at this
end Go.Ig
