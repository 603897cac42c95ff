/-
  A program with one variable, a table that is only read.
-/
import Derived.Test.YtcnjllnnhcafbaaDoorIgStrict
import Derived.Test.YtcnjllnnhcafbaaDoorIgRow
import Derived.Lib.LaidTab
set_option linter.unusedVariables false
namespace Go.Ig
open Go

/-- Where the table lies. -/
def jT : J := fun b g => if b = 0 ∧ g = 0 then some ⟨0, 0, none⟩ else none
theorem jT_eq {b g : Nat} {L : Loc} (h : jT b g = some L) : b = 0 ∧ g = 0 ∧ L = ⟨0, 0, none⟩ := by
  unfold jT at h
  split at h
  · rename_i hc; exact ⟨hc.1, hc.2, (Option.some.inj h).symm⟩
  · cases h
theorem MR.table {P : Program} (hg : P.globals.size = 1) {W : World} {tab : List V} (h0 : 0 < W.heap.size) (hc : ∀ k v, tab[k]? = some v → ∃ v', W.cell? ⟨0, k, Option.none⟩ = some v' ∧ VR jT v v') :
    MR P W.heap.size W [] jT ⟨[.row tab .ro], 0⟩ W := by
  refine ⟨?_, ?_, ?_, fun _ _ => rfl, Nat.le_refl _, ?_, Nat.zero_le _, ?_, (fun gd h => by cases h), ⟨rfl, rfl, rfl⟩⟩
  · intro i o L hi hL
    obtain ⟨rfl, -, rfl⟩ := jT_eq hL
    simp at hi
    subst hi
    exact ⟨fun k v hk => by simpa using hc k v hk, rfl, h0⟩
  · intro i g L hL
    obtain ⟨rfl, rfl, rfl⟩ := jT_eq hL
    exact ⟨by simp, h0⟩
  · intro i i' o o' L L' hi hi' hL hL' hm hm' he
    obtain ⟨rfl, -, -⟩ := jT_eq hL
    obtain ⟨rfl, -, -⟩ := jT_eq hL'
    rfl
  · intro g hgl
    have : g = 0 := by omega
    subst this
    rfl
  · intro i o g L hi hL
    obtain ⟨-, rfl, -⟩ := jT_eq hL
    exact Nat.zero_le _

/-- What a closed call comes to, where the table lies ahead. -/
def closedT (tab : List V) (v : V) : List V → Mem → Option (V × Mem) := fun args m =>
  match args, (m.objs[0]? : Option Obj) with
  | [], some (.row l .ro) => if V.sames l tab = true then some (v, m) else none
  | _, _ => none
theorem closed_table {P : Program} {cfg : Cfg} (hS : Sound P cfg) (hg : P.globals.size = 1) {tab : List V} (hflat : tab.all V.flat = true) {k : Nat} {f : FuncId} {v : V} {m1 : Mem} (hv : v.flat = true) (h : icall P cfg k (.fn f) [] ⟨[.row tab .ro], 0⟩ = some (.ret v, m1)) :
    OneOk P f (closedT tab v) := by
  obtain ⟨hb, hc⟩ := (hS.call k).calls f [] _ _ _ h
  intro args m v' m' hs
  unfold closedT at hs
  split at hs
  · rename_i l h0
    split at hs
    · rename_i hl
      cases hs
      have hl := V.sames_eq _ _ hl
      subst hl
      refine ⟨hb, fun n0 w0 gs j w args' hM hA => ?_⟩
      cases hA
      have hj := hM.glob 0 (by omega)
      obtain ⟨hcell, -⟩ := hM.objs 0 _ _ h0 hj
      refine (hc _ _ _ _ w [] (MR.table hg (hM.dom _ _ _ hj).2 (fun k v hk => ?_)) .nil).mono ?_
      · obtain ⟨v', h1, h2⟩ := hcell k v hk
        exact ⟨v', by simpa using h1, h2.flat_any (List.all_eq_true.1 hflat v (List.mem_of_getElem? hk))⟩
      · rintro e w' ⟨j', hO, hM', -⟩
        obtain ⟨h1, h2⟩ := hM.frame (w' := w') hM'.n0le (fun c hc => hM'.old c hc) hM'.str
        cases e with
        | returned u => exact ⟨j, VR.flat_any (show VR j' v u from hO) hv, h1, h2⟩
        | panicked c => exact hO.elim
        | outgrown => exact hO.elim
    · cases hs
  · cases hs
/-- What the row's list gives of the table. -/
theorem table_cells {P : Program} {W : World} {name : String} {zs : List Int} (h : Lib.TabIs P W name .u32 zs) (hn : P.globalNamed name = some 0) (hz : 0 < zs.length) :
    0 < W.heap.size ∧ ∀ k v, (zs.map (V.int .u32))[k]? = some v → ∃ v', W.cell? ⟨0, k, Option.none⟩ = some v' ∧ VR jT v v' := by
  have hc : ∀ k z, zs[k]? = some z → W.cell? ⟨0, k, Option.none⟩ = some (.int .u32 z) := by
    intro k z hk
    obtain ⟨hlt, he⟩ := List.getElem?_eq_some_iff.1 hk
    have := h.cell hn k (by simpa using hlt)
    rw [this]
    simp [List.getD_eq_getElem?_getD, hk]
  constructor
  · have := cell?_spot (hc 0 zs[0] (List.getElem?_eq_getElem hz))
    exact this.2
  · intro k v hk
    rw [List.getElem?_map] at hk
    obtain ⟨z, hz', rfl⟩ := Option.map_eq_some_iff.1 hk
    exact ⟨_, hc k z hz', .int _ _ (by decide)⟩
theorem closedT_at {tab : List V} (ht : V.sames tab tab = true) (v : V) {m : Mem} (h : [Obj.row tab .ro] <+: m.objs) : closedT tab v [] m = some (v, m) := by
  obtain ⟨r, hr⟩ := h
  unfold closedT
  rw [← hr]
  simp [ht]
theorem closed_law {P : Program} {cfg : Cfg} {f : FuncId} {tab : List V} (hs : cfg.sum f = some (closedT tab (.bool true))) (ht : V.sames tab tab = true) : LawOk P cfg f [.row tab .ro] [] := by
  intro m xs vs hp hg hh
  cases hh
  refine ⟨1, m, ?_⟩
  simp only [icall, hs, closedT_at ht _ hp, Option.map_some]
end Go.Ig
