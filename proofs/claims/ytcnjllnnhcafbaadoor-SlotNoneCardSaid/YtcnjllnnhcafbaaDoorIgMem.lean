/-
  Blocks that are made, and blocks that are written: how the evaluator's memory stays that of the model's world.
-/
import Derived.Test.YtcnjllnnhcafbaaDoorIgPure5
namespace Go.Ig
open Go

section
variable {P : Program} {j : J} {w w' : World} {n0 : Nat} {w0 : World} {gs : List Nat} {m : Mem}

theorem cell?_heap {c k : Nat} (h : w'.heap[c]? = w.heap[c]?) : w'.cell? ⟨c, k, none⟩ = w.cell? ⟨c, k, none⟩ := by simp [World.cell?, h]
theorem Blk.heap {c n : Nat} (h : w'.heap[c]? = w.heap[c]?) (hb : Blk w c n) : Blk w' c n := by
  unfold Blk at *
  rw [h]; exact hb
theorem modeR.heap {md : Mode} {L : Loc} (h : w'.heap[L.c]? = w.heap[L.c]?) (hm : modeR n0 w md L) : modeR n0 w' md L := by
  unfold modeR at *
  cases md with
  | ro => exact hm
  | exact => obtain ⟨a, b, c, n, hn⟩ := hm; exact ⟨a, b, c, n, hn.heap h⟩
  | vec g => obtain ⟨a, b, n, hr, hn⟩ := hm; exact ⟨a, b, n, hr, hn.heap h⟩
theorem ObjR.heap {L : Loc} {o : Obj} (h : w'.heap[L.c]? = w.heap[L.c]?) (ho : ObjR j n0 w L o) : ObjR j n0 w' L o := by
  cases o with
  | u8 l md => exact ⟨fun k b hb => by rw [cell?_heap h]; exact ho.1 k b hb, ho.2.heap h⟩
  | row l md => exact ⟨fun k v hv => by rw [cell?_heap h]; exact ho.1 k v hv, ho.2.heap h⟩
  | map es c => obtain ⟨a, es', hh, hr⟩ := ho; exact ⟨a, es', by rw [h]; exact hh, hr⟩
  | dead => exact trivial
  | loop => exact ho
  | defr => exact ho
  | iter mo s seen last =>
    cases mo with
    | none => exact ho
    | some r => obtain ⟨a, L', b, c⟩ := ho; exact ⟨a, L', b, by rw [h]; exact c⟩
theorem ObjR.mono {j' : J} (hj : j.le j') {L : Loc} {o : Obj} (ho : ObjR j n0 w L o) : ObjR j' n0 w L o := by
  cases o with
  | u8 l md => exact ho
  | row l md => exact ⟨fun k v hv => let ⟨v', a, b⟩ := ho.1 k v hv; ⟨v', a, b.mono hj⟩, ho.2⟩
  | map es c => obtain ⟨a, es', hh, hr⟩ := ho; exact ⟨a, es', hh, hr.mono hj⟩
  | dead => exact trivial
  | loop => exact ho
  | defr => exact ho
  | iter mo s seen last =>
    cases mo with
    | none => exact ho
    | some r => obtain ⟨a, L', b, c⟩ := ho; exact ⟨a, L', hj _ _ _ b, c⟩
theorem ObjR.n0le {L : Loc} {o : Obj} (ho : ObjR j n0 w L o) (hm : o.mine = true) : n0 ≤ L.c := by
  cases o with
  | u8 l md => have := ho.2; unfold modeR at this; cases md <;> simp [Obj.mine, Mode.writes] at hm; exact this.2.2.1; exact this.2.1
  | row l md => have := ho.2; unfold modeR at this; cases md <;> simp [Obj.mine, Mode.writes] at hm; exact this.2.2.1; exact this.2.1
  | map es c => exact ho.1
  | dead => simp [Obj.mine] at hm
  | loop => exact ho.elim
  | defr => exact ho.elim
  | iter mo s seen last =>
    cases mo with
    | none => exact ho.elim
    | some r => exact ho.1.1

/-- Where a new block lies. -/
def J.new (j : J) (i g : Nat) (L : Loc) : J := fun b g' => if b = i ∧ g' = g then some L else j b g'
theorem J.new_same (j : J) (i g : Nat) (L : Loc) : j.new i g L i g = some L := by simp [J.new]
theorem J.new_other {i g b g' : Nat} {L : Loc} (h : ¬ (b = i ∧ g' = g)) : j.new i g L b g' = j b g' := by simp only [J.new, if_neg h]

theorem MR.fresh (hM : MR P n0 w0 gs j m w) (g : Nat) : j m.objs.length g = none := by
  cases h : j m.objs.length g with
  | none => rfl
  | some L => exact absurd (hM.dom _ _ _ h).1 (Nat.lt_irrefl _)
theorem MR.fresh_le (hM : MR P n0 w0 gs j m w) (g : Nat) (L : Loc) : j.le (j.new m.objs.length g L) := by
  intro b g' L' h
  rw [J.new_other]
  · exact h
  · rintro ⟨rfl, rfl⟩
    rw [hM.fresh] at h; cases h

/-- A block more. -/
theorem MR.alloc (hM : MR P n0 w0 gs j m w) {ob : Obj} (room : Option Nat) (hs : w'.heap.size = w.heap.size + 1) (hk : ∀ c, c < w.heap.size → w'.heap[c]? = w.heap[c]?) (hstr : Strm w w')
    (ho : ObjR j n0 w' ⟨w.heap.size, 0, room⟩ ob) :
    MR P n0 w0 gs (j.new m.objs.length ob.gen ⟨w.heap.size, 0, room⟩) (m.add ob) w' ∧ Grows j m w (j.new m.objs.length ob.gen ⟨w.heap.size, 0, room⟩) (m.add ob) w' := by
  have hle := hM.fresh_le ob.gen ⟨w.heap.size, 0, room⟩
  have old : ∀ {i : Nat} {o : Obj}, (m.add ob).objs[i]? = some o → (i < m.objs.length ∧ m.objs[i]? = some o) ∨ (i = m.objs.length ∧ o = ob) := by
    intro i o hi
    simp only [Mem.add, List.getElem?_append] at hi
    split at hi
    · left; exact ⟨by assumption, hi⟩
    · right
      rename_i hn
      have : i - m.objs.length = 0 := by
        cases hz : i - m.objs.length with
        | zero => rfl
        | succ k => rw [hz] at hi; simp at hi
      rw [this] at hi
      simp at hi
      exact ⟨by omega, hi.symm⟩
  have jold : ∀ {i g : Nat} {L : Loc}, i < m.objs.length → j.new m.objs.length ob.gen ⟨w.heap.size, 0, room⟩ i g = some L → j i g = some L := by
    intro i g L hi h
    rw [J.new_other (by omega)] at h
    exact h
  have jnew : ∀ {g : Nat} {L : Loc}, j.new m.objs.length ob.gen ⟨w.heap.size, 0, room⟩ m.objs.length g = some L → g = ob.gen ∧ L = ⟨w.heap.size, 0, room⟩ := by
    intro g L h
    by_cases hg : g = ob.gen
    · subst hg; rw [J.new_same] at h; cases h; exact ⟨rfl, rfl⟩
    · rw [J.new_other (by omega), hM.fresh] at h; cases h
  refine ⟨⟨?_, ?_, ?_, ?_, ?_, ?_, ?_, ?_, ?_, hM.str.trans hstr⟩, ⟨hle, by simp [Mem.add], rfl, by omega, fun c hc _ => hk c hc, ?_, ?_⟩⟩
  · intro i o L hi hL
    rcases old hi with ⟨hlt, hi⟩ | ⟨rfl, rfl⟩
    · have hL := jold hlt hL
      exact ((hM.objs i o L hi hL).mono hle).heap (hk _ (hM.dom _ _ _ hL).2)
    · obtain ⟨-, rfl⟩ := jnew hL
      exact ho.mono hle
  · intro i g L hL
    by_cases hi : i = m.objs.length
    · subst hi
      obtain ⟨-, rfl⟩ := jnew hL
      simp [Mem.add, hs]
    · have hL2 : j i g = some L := by rw [J.new_other (by omega)] at hL; exact hL
      have := hM.dom _ _ _ hL2
      simp only [Mem.add, List.length_append, List.length_singleton]
      omega
  · intro i i' o o' L L' hi hi' hL hL' hmi hmi' he
    rcases old hi with ⟨hlt, hi⟩ | ⟨rfl, rfl⟩ <;> rcases old hi' with ⟨hlt', hi'⟩ | ⟨rfl, rfl⟩
    · exact hM.sep i i' o o' L L' hi hi' (jold hlt hL) (jold hlt' hL') hmi hmi' he
    · obtain ⟨-, rfl⟩ := jnew hL'
      have := (hM.dom _ _ _ (jold hlt hL)).2
      simp at he; omega
    · obtain ⟨-, rfl⟩ := jnew hL
      have := (hM.dom _ _ _ (jold hlt' hL')).2
      simp at he; omega
    · rfl
  · intro c hc
    rw [hk c (Nat.lt_of_lt_of_le hc hM.n0le)]
    exact hM.old c hc
  · have := hM.n0le; omega
  · intro g hg
    exact hle _ _ _ (hM.glob g hg)
  · have := hM.gle; simp only [Mem.add, List.length_append, List.length_singleton]; omega
  · intro i o g L hi hL
    rcases old hi with ⟨hlt, hi⟩ | ⟨rfl, rfl⟩
    · exact hM.gens i o g L hi (jold hlt hL)
    · exact Nat.le_of_eq (jnew hL).1
  · intro gd hgd
    refine ⟨(hM.low gd hgd).1, fun i o L hlt hi hL => ?_⟩
    have hgl := (hM.low gd hgd).1
    have hgm := hM.gle
    rcases old hi with ⟨hlt', hi⟩ | ⟨rfl, rfl⟩
    · exact (hM.low gd hgd).2 i o L hlt hi (jold hlt' hL)
    · omega
  · intro i hi hn
    refine ⟨by simp [Mem.add, List.getElem?_append, hi], fun g => ?_⟩
    rw [J.new_other (by omega)]
    exact hn g
  · intro i g L hL
    by_cases hi : i = m.objs.length
    · subst hi
      obtain ⟨-, rfl⟩ := jnew hL
      exact .inr (.inl (Nat.le_refl _))
    · left; rw [J.new_other (by omega)] at hL; exact hL

/-- A block is written; where it is a new generation of it, it may lie elsewhere. -/
theorem MR.write (hM : MR P n0 w0 gs j m w) {i : Nat} {ob ob' : Obj} {L L' : Loc} (hi : m.objs[i]? = some ob) (hL : j i ob.gen = some L) (hmine : ob.mine = true)
    (hg : (ob'.gen = ob.gen ∧ L' = L) ∨ ob.gen < ob'.gen) (hLc : (L'.c = L.c ∧ w'.heap.size = w.heap.size) ∨ (L'.c = w.heap.size ∧ w'.heap.size = w.heap.size + 1))
    (hk : ∀ c, c < w.heap.size → c ≠ L.c → w'.heap[c]? = w.heap[c]?) (hstr : Strm w w')
    (ho : ObjR (j.new i ob'.gen L') n0 w' L' ob') (hlow : ∀ gd, gd ∈ gs → i < gd → ob'.under gd) :
    MR P n0 w0 gs (j.new i ob'.gen L') (m.setObj i ob') w' ∧ Grows j m w (j.new i ob'.gen L') (m.setObj i ob') w' := by
  have hLn : n0 ≤ L.c := (hM.objs i ob L hi hL).n0le hmine
  have hLd := hM.dom _ _ _ hL
  have hno : ∀ (g : Nat) (X : Loc), j i g = some X → g ≤ ob.gen := fun g X h => hM.gens i ob g X hi h
  have hle : j.le (j.new i ob'.gen L') := by
    intro b g X h
    by_cases e : b = i ∧ g = ob'.gen
    · obtain ⟨rfl, rfl⟩ := e
      rcases hg with ⟨hg, rfl⟩ | hg
      · rw [hg] at h ⊢; rw [hL] at h; cases h; exact J.new_same _ _ _ _
      · have := hno _ _ h; omega
    · rw [J.new_other e]; exact h
  have hsz : w.heap.size ≤ w'.heap.size := by rcases hLc with ⟨_, h⟩ | ⟨_, h⟩ <;> omega
  have setget : ∀ {k : Nat} {o : Obj}, (m.setObj i ob').objs[k]? = some o → (k ≠ i ∧ m.objs[k]? = some o) ∨ (k = i ∧ o = ob') := by
    intro k o hk
    simp only [Mem.setObj] at hk
    by_cases e : k = i
    · subst e
      right
      rw [List.getElem?_set_self hLd.1] at hk
      exact ⟨rfl, (Option.some.inj hk).symm⟩
    · left
      rw [List.getElem?_set_ne (Ne.symm e)] at hk
      exact ⟨e, hk⟩
  have jne : ∀ {k g : Nat} {X : Loc}, k ≠ i → j.new i ob'.gen L' k g = some X → j k g = some X := by
    intro k g X hk h
    rw [J.new_other (by rintro ⟨rfl, -⟩; exact hk rfl)] at h
    exact h
  have jeq : ∀ {X : Loc}, j.new i ob'.gen L' i ob'.gen = some X → X = L' := by
    intro X h; rw [J.new_same] at h; exact (Option.some.inj h).symm
  have hLc' : L'.c < w'.heap.size := by rcases hLc with ⟨a, b⟩ | ⟨a, b⟩ <;> omega
  have hmine' : ob'.mine = true → ∀ {k : Nat} {o : Obj} {X : Loc}, k ≠ i → m.objs[k]? = some o → j k o.gen = some X → o.mine = true → X.c ≠ L'.c := by
    intro _ k o X hk ho hX hm e
    rcases hLc with ⟨a, b⟩ | ⟨a, b⟩
    · exact hk (hM.sep k i o ob X L ho hi hX hL hm hmine (e.trans a))
    · have := (hM.dom _ _ _ hX).2; omega
  refine ⟨⟨?_, ?_, ?_, ?_, ?_, ?_, ?_, ?_, ?_, hM.str.trans hstr⟩, ⟨hle, by simp [Mem.setObj], rfl, hsz, ?_, ?_, ?_⟩⟩
  · intro k o X hko hX
    rcases setget hko with ⟨hne, hko⟩ | ⟨rfl, rfl⟩
    · have hX := jne hne hX
      have hob := hM.objs k o X hko hX
      by_cases hXc : X.c = L.c
      · -- another block at the same place: it is read alone, below n0; or dead
        cases hmo : o.mine with
        | true => exact absurd (hM.sep k i o ob X L hko hi hX hL hmo hmine hXc) hne
        | false =>
          cases o with
          | dead => exact trivial
          | u8 l md =>
            cases md <;> simp [Obj.mine, Mode.writes] at hmo
            have := hob.2.2; omega
          | row l md =>
            cases md <;> simp [Obj.mine, Mode.writes] at hmo
            have := hob.2.2; omega
          | map es c => simp [Obj.mine] at hmo
          | loop => simp [Obj.mine] at hmo
          | defr => simp [Obj.mine] at hmo
          | iter => simp [Obj.mine] at hmo
      · exact (hob.mono hle).heap (hk _ (hM.dom _ _ _ hX).2 hXc)
    · rw [jeq hX]; exact ho
  · intro k g X hX
    by_cases e : k = i ∧ g = ob'.gen
    · obtain ⟨rfl, rfl⟩ := e
      rw [jeq hX]
      exact ⟨by simpa [Mem.setObj] using hLd.1, hLc'⟩
    · rw [J.new_other e] at hX
      have := hM.dom _ _ _ hX
      exact ⟨by simpa [Mem.setObj] using this.1, by omega⟩
  · intro k k' o o' X X' hko hko' hX hX' hm hm' he
    rcases setget hko with ⟨hne, hk1⟩ | ⟨e1, e2⟩ <;> rcases setget hko' with ⟨hne', hk2⟩ | ⟨e1', e2'⟩
    · exact hM.sep k k' o o' X X' hk1 hk2 (jne hne hX) (jne hne' hX') hm hm' he
    · subst e1' e2'
      rw [jeq hX'] at he
      exact absurd he (hmine' hm' hne hk1 (jne hne hX) hm)
    · subst e1 e2
      rw [jeq hX] at he
      exact absurd he.symm (hmine' hm hne' hk2 (jne hne' hX') hm')
    · exact e1.trans e1'.symm
  · intro c hc
    rw [hk c (Nat.lt_of_lt_of_le hc hM.n0le) (by omega)]
    exact hM.old c hc
  · have := hM.n0le; omega
  · intro g hgl
    exact hle _ _ _ (hM.glob g hgl)
  · have := hM.gle; simpa [Mem.setObj] using this
  · intro k o g X hko hX
    rcases setget hko with ⟨hne, hko⟩ | ⟨rfl, rfl⟩
    · exact hM.gens k o g X hko (jne hne hX)
    · by_cases e : g = o.gen
      · exact Nat.le_of_eq e
      · rw [J.new_other (by omega)] at hX
        have := hno _ _ hX
        rcases hg with ⟨h, -⟩ | h <;> omega
  · intro gd hgd
    refine ⟨(hM.low gd hgd).1, fun k o X hlt hko hX => ?_⟩
    rcases setget hko with ⟨hne, hko⟩ | ⟨rfl, rfl⟩
    · exact (hM.low gd hgd).2 k o X hlt hko (jne hne hX)
    · exact hlow gd hgd hlt
  · intro c hc hn
    exact hk c hc (fun e => hn i ob.gen L hL e.symm)
  · intro k hk hn
    have hne : k ≠ i := by rintro rfl; rw [hn] at hL; cases hL
    refine ⟨by simp [Mem.setObj, List.getElem?_set_ne (Ne.symm hne)], fun g => ?_⟩
    rw [J.new_other (by rintro ⟨rfl, -⟩; exact hne rfl)]
    exact hn g
  · intro k g X hX
    by_cases e : k = i ∧ g = ob'.gen
    · obtain ⟨rfl, rfl⟩ := e
      rw [jeq hX]
      rcases hLc with ⟨a, b⟩ | ⟨a, b⟩
      · exact .inr (.inr ⟨ob.gen, L, hL, a.symm⟩)
      · exact .inr (.inl (by omega))
    · left; rw [J.new_other e] at hX; exact hX
end
end Go.Ig
