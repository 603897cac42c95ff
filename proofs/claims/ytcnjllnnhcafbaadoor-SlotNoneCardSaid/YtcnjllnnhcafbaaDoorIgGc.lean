/-
  What a function has made, and doesn't hand back, is struck when it returns: that the evaluator's memory still stands for the world.
-/
import Derived.Test.YtcnjllnnhcafbaaDoorIgCtl
set_option linter.unusedVariables false
namespace Go.Ig
open Go

section
variable {P : Program} {j : J} {w w' : World} {n0 : Nat} {w0 : World} {gs : List Nat} {m : Mem}

mutual
theorem VR.ids_dom : ∀ {v : V} {v' : Value}, VR j v v' → ∀ b ∈ v.ids, ∃ g L, j b g = some L
  | _, _, .any _, b, hb => by simp [V.ids] at hb
  | _, _, .bool _, b, hb => by simp [V.ids] at hb
  | _, _, .u8 _, b, hb => by simp [V.ids] at hb
  | _, _, .int _ _ _, b, hb => by simp [V.ids] at hb
  | _, _, .str _, b, hb => by simp [V.ids] at hb
  | _, _, .ptr h, b, hb => by simp [V.ids] at hb; subst hb; exact ⟨_, _, h⟩
  | _, _, .nilp, b, hb => by simp [V.ids] at hb
  | _, _, .slice h _ _, b, hb => by simp [V.ids] at hb; subst hb; exact ⟨_, _, h⟩
  | _, _, .nils, b, hb => by simp [V.ids] at hb
  | _, _, .emp _, b, hb => by simp [V.ids] at hb
  | _, _, .map h, b, hb => by simp [V.ids] at hb; subst hb; exact ⟨_, _, h⟩
  | _, _, .nilm, b, hb => by simp [V.ids] at hb
  | _, _, .fn ha hb', b, hb => by
    simp only [V.ids, List.mem_append] at hb
    rcases hb with hb | hb
    · exact VRs.ids_dom ha b hb
    · exact VRs.ids_dom hb' b hb
  | _, _, .yield h, b, hb => by simp [V.ids] at hb; subst hb; exact ⟨_, _, h⟩
  | _, _, .nilf, b, hb => by simp [V.ids] at hb
  | _, _, .iface h, b, hb => VR.ids_dom h b (by simpa [V.ids] using hb)
  | _, _, .nili, b, hb => by simp [V.ids] at hb
  | _, _, .agg h, b, hb => VRs.ids_dom h b (by simpa [V.ids] using hb)
  | _, _, .tuple h, b, hb => VRs.ids_dom h b (by simpa [V.ids] using hb)
theorem VRs.ids_dom : ∀ {v : List V} {v' : List Value}, VRs j v v' → ∀ b ∈ V.idss v, ∃ g L, j b g = some L
  | _, _, .nil, b, hb => by simp [V.idss] at hb
  | _, _, .cons h hr, b, hb => by
    simp only [V.idss, List.mem_append] at hb
    rcases hb with hb | hb
    · exact VR.ids_dom h b hb
    · exact VRs.ids_dom hr b hb
end

mutual
/-- A value reads the same where its blocks lie the same. -/
theorem VR.same {j2 : J} : ∀ {v : V} {v' : Value}, VR j v v' → (∀ b ∈ v.ids, ∀ g, j2 b g = j b g) → VR j2 v v'
  | _, _, .any v', _ => .any v'
  | _, _, .bool b, _ => .bool b
  | _, _, .u8 b, _ => .u8 b
  | _, _, .int k n h, _ => .int k n h
  | _, _, .str s, _ => .str s
  | _, _, .ptr h, hs => .ptr ((hs _ (by simp [V.ids]) _).trans h)
  | _, _, .nilp, _ => .nilp
  | _, _, .slice h hc hl, hs => .slice ((hs _ (by simp [V.ids]) _).trans h) hc hl
  | _, _, .nils, _ => .nils
  | _, _, .emp a, _ => .emp a
  | _, _, .map h, hs => .map ((hs _ (by simp [V.ids]) _).trans h)
  | _, _, .nilm, _ => .nilm
  | _, _, .fn ha hb, hs => .fn (VRs.same ha fun b hb' => hs b (by simp [V.ids, hb'])) (VRs.same hb fun b hb' => hs b (by simp [V.ids, hb']))
  | _, _, .yield h, hs => .yield ((hs _ (by simp [V.ids]) _).trans h)
  | _, _, .nilf, _ => .nilf
  | _, _, .iface h, hs => .iface (VR.same h fun b hb => hs b (by simpa [V.ids] using hb))
  | _, _, .nili, _ => .nili
  | _, _, .agg h, hs => .agg (VRs.same h fun b hb => hs b (by simpa [V.ids] using hb))
  | _, _, .tuple h, hs => .tuple (VRs.same h fun b hb => hs b (by simpa [V.ids] using hb))
theorem VRs.same {j2 : J} : ∀ {v : List V} {v' : List Value}, VRs j v v' → (∀ b ∈ V.idss v, ∀ g, j2 b g = j b g) → VRs j2 v v'
  | _, _, .nil, _ => .nil
  | _, _, .cons h hr, hs => .cons (VR.same h fun b hb => hs b (by simp [V.idss, hb])) (VRs.same hr fun b hb => hs b (by simp [V.idss, hb]))
end

/-- Of a new id which it was. -/
def origin (base : Nat) (K : List Nat) (b : Nat) : Option Nat := if b < base then some b else K[b - base]?
def jK (j : J) (base : Nat) (K : List Nat) : J := fun b g => (origin base K b).bind fun b0 => j b0 g
def GoodK (base : Nat) (K : List Nat) : Prop := K.Nodup ∧ ∀ x ∈ K, base ≤ x

theorem seat_spec {base b : Nat} {k : List Nat} : k <+: (seat base b k).2 ∧ (GoodK base k → GoodK base (seat base b k).2) ∧ ∀ K, (seat base b k).2 <+: K → origin base K (seat base b k).1 = some b := by
  unfold seat
  split
  · rename_i hb
    exact ⟨List.prefix_rfl, id, fun K _ => by simp [origin, hb]⟩
  · rename_i hb
    split
    · rename_i i hi
      refine ⟨List.prefix_rfl, id, fun K hK => ?_⟩
      have hk : k[i]? = some b := by
        obtain ⟨hlt, he, -⟩ := List.idxOf?_eq_some_iff.1 hi
        rw [List.getElem?_eq_getElem hlt]
        simpa using he
      simp only [origin, show ¬ base + i < base from by omega, if_false, Nat.add_sub_cancel_left]
      obtain ⟨t, rfl⟩ := hK
      rw [List.getElem?_append_left (List.getElem?_eq_some_iff.1 hk).1]
      exact hk
    · rename_i hi
      have hnot : b ∉ k := by simpa using hi
      refine ⟨List.prefix_append _ _, fun hg => ?_, fun K hK => ?_⟩
      · refine ⟨?_, fun x hx => ?_⟩
        · rw [List.nodup_append]
          refine ⟨hg.1, by simp, ?_⟩
          intro x hx y hy
          simp at hy
          subst hy
          rintro rfl
          exact hnot hx
        · rcases List.mem_append.1 hx with hx | hx
          · exact hg.2 x hx
          · simp at hx; omega
      · simp only [origin, show ¬ base + k.length < base from by omega, if_false, Nat.add_sub_cancel_left]
        obtain ⟨t, rfl⟩ := hK
        simp

mutual
theorem gcV_R {base : Nat} : ∀ (v : V) (k : List Nat) {v2 : V} {k2 : List Nat}, gcV base v k = some (v2, k2) →
    k <+: k2 ∧ (GoodK base k → GoodK base k2) ∧ ∀ (v' : Value) (K : List Nat), k2 <+: K → VR j v v' → VR (jK j base K) v2 v'
  | .ptr b g o, k, v2, k2, h => by
    simp only [gcV] at h; cases h
    obtain ⟨h1, h2, h3⟩ := seat_spec (base := base) (b := b) (k := k)
    refine ⟨h1, h2, fun v' K hK hv => ?_⟩
    cases hv with | ptr hL => ?_
    exact .ptr (by simp only [jK, h3 K hK, Option.bind_some]; exact hL)
  | .slice b g o z len cap, k, v2, k2, h => by
    simp only [gcV] at h; cases h
    obtain ⟨h1, h2, h3⟩ := seat_spec (base := base) (b := b) (k := k)
    refine ⟨h1, h2, fun v' K hK hv => ?_⟩
    cases hv with | slice hL hc hl => ?_
    exact .slice (by simp only [jK, h3 K hK, Option.bind_some]; exact hL) hc hl
  | .map b, k, v2, k2, h => by
    simp only [gcV] at h; cases h
    obtain ⟨h1, h2, h3⟩ := seat_spec (base := base) (b := b) (k := k)
    refine ⟨h1, h2, fun v' K hK hv => ?_⟩
    cases hv with | map hL => ?_
    exact .map (by simp only [jK, h3 K hK, Option.bind_some]; exact hL)
  | .iface t v, k, v2, k2, h => by
    simp only [gcV] at h
    cases hg : gcV base v k with
    | none => rw [hg] at h; cases h
    | some q =>
      rw [hg] at h; cases h
      obtain ⟨h1, h2, h3⟩ := gcV_R v k hg
      refine ⟨h1, h2, fun v' K hK hv => ?_⟩
      cases hv with | iface hv => ?_
      exact .iface (h3 _ K hK hv)
  | .agg vs, k, v2, k2, h => by
    simp only [gcV] at h
    cases hg : gcVs base vs k with
    | none => rw [hg] at h; cases h
    | some q =>
      rw [hg] at h; cases h
      obtain ⟨h1, h2, h3⟩ := gcVs_R vs k hg
      refine ⟨h1, h2, fun v' K hK hv => ?_⟩
      cases hv with | agg hv => ?_
      exact .agg (h3 _ K hK hv)
  | .tuple vs, k, v2, k2, h => by
    simp only [gcV] at h
    cases hg : gcVs base vs k with
    | none => rw [hg] at h; cases h
    | some q =>
      rw [hg] at h; cases h
      obtain ⟨h1, h2, h3⟩ := gcVs_R vs k hg
      refine ⟨h1, h2, fun v' K hK hv => ?_⟩
      cases hv with | tuple hv => ?_
      exact .tuple (h3 _ K hK hv)
  | .fn .., k, v2, k2, h => by simp [gcV] at h
  | .yield _, k, v2, k2, h => by simp [gcV] at h
  | .bool b, k, v2, k2, h => by simp only [gcV] at h; cases h; exact ⟨List.prefix_rfl, id, fun v' K _ hv => by cases hv; exact .bool _⟩
  | .int i n, k, v2, k2, h => by simp only [gcV] at h; cases h; exact ⟨List.prefix_rfl, id, fun v' K _ hv => by cases hv; exact .int _ _ (by assumption)⟩
  | .u8 b, k, v2, k2, h => by simp only [gcV] at h; cases h; exact ⟨List.prefix_rfl, id, fun v' K _ hv => by cases hv; exact .u8 _⟩
  | .str s, k, v2, k2, h => by simp only [gcV] at h; cases h; exact ⟨List.prefix_rfl, id, fun v' K _ hv => hv.same fun b hb => by simp [V.ids] at hb⟩
  | .nilp, k, v2, k2, h => by simp only [gcV] at h; cases h; exact ⟨List.prefix_rfl, id, fun v' K _ hv => by cases hv; exact .nilp⟩
  | .nils, k, v2, k2, h => by simp only [gcV] at h; cases h; exact ⟨List.prefix_rfl, id, fun v' K _ hv => by cases hv; exact .nils⟩
  | .emp, k, v2, k2, h => by simp only [gcV] at h; cases h; exact ⟨List.prefix_rfl, id, fun v' K _ hv => by cases hv; exact .emp _⟩
  | .nilm, k, v2, k2, h => by simp only [gcV] at h; cases h; exact ⟨List.prefix_rfl, id, fun v' K _ hv => by cases hv; exact .nilm⟩
  | .nilf, k, v2, k2, h => by simp only [gcV] at h; cases h; exact ⟨List.prefix_rfl, id, fun v' K _ hv => by cases hv; exact .nilf⟩
  | .nili, k, v2, k2, h => by simp only [gcV] at h; cases h; exact ⟨List.prefix_rfl, id, fun v' K _ hv => by cases hv; exact .nili⟩
  | .any, k, v2, k2, h => by simp only [gcV] at h; cases h; exact ⟨List.prefix_rfl, id, fun v' K _ hv => .any _⟩
theorem gcVs_R {base : Nat} : ∀ (vs : List V) (k : List Nat) {vs2 : List V} {k2 : List Nat}, gcVs base vs k = some (vs2, k2) →
    k <+: k2 ∧ (GoodK base k → GoodK base k2) ∧ ∀ (vs' : List Value) (K : List Nat), k2 <+: K → VRs j vs vs' → VRs (jK j base K) vs2 vs'
  | [], k, vs2, k2, h => by simp only [gcVs] at h; cases h; exact ⟨List.prefix_rfl, id, fun v' K _ hv => by cases hv; exact .nil⟩
  | v :: r, k, vs2, k2, h => by
    simp only [gcVs] at h
    cases hg : gcV base v k with
    | none => rw [hg] at h; cases h
    | some q =>
      rw [hg] at h
      simp only at h
      cases hg2 : gcVs base r q.2 with
      | none => rw [hg2] at h; cases h
      | some q2 =>
        rw [hg2] at h; cases h
        obtain ⟨h1, h2, h3⟩ := gcV_R v k hg
        obtain ⟨g1, g2, g3⟩ := gcVs_R r q.2 hg2
        refine ⟨h1.trans g1, fun hk => g2 (h2 hk), fun vs' K hK hv => ?_⟩
        cases hv with | cons hv hr => ?_
        exact .cons (h3 _ K (g1.trans hK) hv) (g3 _ K hK hr)
end

theorem keptObjs_spec {objs : List Obj} : ∀ {K : List Nat} {os : List Obj}, keptObjs objs K = some os → os.length = K.length ∧ ∀ (q b : Nat), K[q]? = some b → ∃ o : Obj, os[q]? = some o ∧ objs[b]? = some o ∧ (∀ gd, o.under gd) ∧
    ∀ (j j2 : J) (n0 : Nat) (w : World) (L : Loc), ObjR j n0 w L o → ObjR j2 n0 w L o
  | [], os, h => by simp only [keptObjs] at h; cases h; exact ⟨rfl, fun q b hb => by simp at hb⟩
  | b :: r, os, h => by
    simp only [keptObjs] at h
    split at h
    · rename_i l md os2 hb hos
      cases h
      obtain ⟨h1, h2⟩ := keptObjs_spec hos
      refine ⟨by simp [h1], fun q b' hq => ?_⟩
      cases q with
      | zero =>
        simp at hq; subst hq
        exact ⟨_, rfl, hb, fun _ => trivial, fun j j2 n0 w L ho => ho⟩
      | succ q => simpa using h2 q b' (by simpa using hq)
    · rename_i l md os2 hb hos
      split at h
      · rename_i hfl
        cases h
        obtain ⟨h1, h2⟩ := keptObjs_spec hos
        refine ⟨by simp [h1], fun q b' hq => ?_⟩
        cases q with
        | zero =>
          simp at hq; subst hq
          refine ⟨_, rfl, hb, fun gd v hv => ?_, fun j j2 n0 w L ho => ?_⟩
          · have := List.all_eq_true.1 hfl v hv
            unfold V.under
            rw [flat_ids this]
            simp
          · refine ⟨fun k v hv => ?_, ho.2⟩
            obtain ⟨v', a, b⟩ := ho.1 k v hv
            refine ⟨v', a, b.same fun b hb => ?_⟩
            rw [flat_ids (List.all_eq_true.1 hfl v (List.mem_of_getElem? hv))] at hb
            cases hb
        | succ q => simpa using h2 q b' (by simpa using hq)
      · cases h
    · cases h

/-- Memory with a guard at its end. -/
theorem MR.guarded (hM : MR P n0 w0 gs j m w) : MR P n0 w0 (m.objs.length :: gs) j { m with guard := m.objs.length } w := by
  refine ⟨hM.objs, hM.dom, hM.sep, hM.old, hM.n0le, hM.glob, Nat.le_refl _, hM.gens, fun gd hgd => ?_, hM.str⟩
  rcases List.mem_cons.1 hgd with rfl | hgd
  · refine ⟨Nat.le_refl _, fun i o L hi ho hL => ?_⟩
    have hO := hM.objs i o L ho hL
    have low : ∀ {v : V} {v' : Value}, VR j v v' → v.under m.objs.length := fun hv b hb => by
      obtain ⟨g, L, h⟩ := hv.ids_dom b hb
      exact (hM.dom _ _ _ h).1
    cases o with
    | u8 l md => trivial
    | row l md =>
      intro v hv
      obtain ⟨k, hk⟩ := List.getElem?_of_mem hv
      obtain ⟨v', -, hr⟩ := hO.1 k v hk
      exact low hr
    | map es c =>
      obtain ⟨-, es', -, hR⟩ := hO
      intro e he
      have key : ∀ {es : List (V × V × Nat)} {es' : List MapEntry}, EsR j es es' → ∀ e ∈ es, e.1.under m.objs.length ∧ e.2.1.under m.objs.length := by
        intro es es' h
        induction h with
        | nil => intro e he; cases he
        | cons hk hv _ ih =>
          intro e he
          rcases List.mem_cons.1 he with rfl | he
          · exact ⟨low hk, low hv⟩
          · exact ih e he
      exact key hR e he
    | dead => trivial
    | loop => exact hO.elim
    | defr => exact hO.elim
    | iter mo s seen last =>
      cases mo with
      | none => exact hO.elim
      | some r => obtain ⟨-, L', b, -⟩ := hO; exact (hM.dom _ _ _ b).1
  · obtain ⟨h1, h2⟩ := hM.low gd hgd
    exact ⟨Nat.le_trans h1 hM.gle, h2⟩

theorem gcRet_R (hM : MR P n0 w0 gs j m w) {j' : J} {m' : Mem} {w' : World} {v v2 : V} {v' : Value} {m2 : Mem} (hM' : MR P n0 w0 (m.objs.length :: gs) j' m' w') (hG : Grows j { m with guard := m.objs.length } w j' m' w') (hv : VR j' v v')
    (h : gcRet m v m' = some (v2, m2)) : ∃ j2, VR j2 v2 v' ∧ MR P n0 w0 gs j2 m2 w' ∧ Grows j m w j2 m2 w' := by
  unfold gcRet at h
  obtain ⟨q, hq, h1⟩ := Option.bind_eq_some_iff.1 h; clear h
  obtain ⟨vq, K⟩ := q
  simp only at h1
  cases hko : keptObjs m'.objs K with
  | none => rw [hko] at h1; cases h1
  | some os =>
    rw [hko] at h1
    simp only [Option.map_some, Option.some.injEq, Prod.mk.injEq] at h1
    obtain ⟨rfl, rfl⟩ := h1
    obtain ⟨-, hgood, hval⟩ := gcV_R (j := j') v [] hq
    have hgood := hgood ⟨List.nodup_nil, fun x hx => by cases hx⟩
    obtain ⟨hol, hos⟩ := keptObjs_spec hko
    have hlen : m.objs.length ≤ m'.objs.length := hG.len
    let base := m.objs.length
    -- what lies where
    have hobj : ∀ i o, (m'.objs.take m.objs.length ++ os)[i]? = some o → ∃ b0, origin m.objs.length K i = some b0 ∧ m'.objs[b0]? = some o ∧ (i < m.objs.length ∧ b0 = i ∨ m.objs.length ≤ i ∧ m.objs.length ≤ b0 ∧ K[i - m.objs.length]? = some b0) := by
      intro i o hi
      rw [List.getElem?_append] at hi
      have htl : (m'.objs.take m.objs.length).length = m.objs.length := by simp; omega
      rw [htl] at hi
      split at hi
      · rename_i hlt
        refine ⟨i, by simp [origin, hlt], ?_, .inl ⟨hlt, rfl⟩⟩
        rw [List.getElem?_take, if_pos hlt] at hi
        exact hi
      · rename_i hlt
        have hq : i - m.objs.length < K.length := by rw [← hol]; exact (List.getElem?_eq_some_iff.1 hi).1
        obtain ⟨b0, hb0⟩ : ∃ b0, K[i - m.objs.length]? = some b0 := ⟨_, List.getElem?_eq_getElem hq⟩
        obtain ⟨o2, ho2, hob, -⟩ := hos _ _ hb0
        rw [hi] at ho2
        cases ho2
        exact ⟨b0, by simp [origin, hlt, hb0], hob, .inr ⟨by omega, hgood.2 _ (List.mem_of_getElem? hb0), hb0⟩⟩
    have horig : ∀ i b0, origin m.objs.length K i = some b0 → i < m.objs.length ∧ b0 = i ∨ m.objs.length ≤ i ∧ m.objs.length ≤ b0 ∧ K[i - m.objs.length]? = some b0 := by
      intro i b0 h
      unfold origin at h
      split at h
      · rename_i hlt; cases h; exact .inl ⟨hlt, rfl⟩
      · rename_i hlt; exact .inr ⟨by omega, hgood.2 _ (List.mem_of_getElem? h), h⟩
    have hj2 : ∀ {i g L}, jK j' m.objs.length K i g = some L → ∃ b0, origin m.objs.length K i = some b0 ∧ j' b0 g = some L := by
      intro i g L h
      exact Option.bind_eq_some_iff.1 h
    have hlow : ∀ {i g}, i < m.objs.length → jK j' m.objs.length K i g = j' i g := by
      intro i g hi
      simp [jK, origin, hi]
    refine ⟨jK j' m.objs.length K, hval v' K List.prefix_rfl hv, ⟨?_, ?_, ?_, hM'.old, hM'.n0le, ?_, ?_, ?_, ?_, hM'.str⟩, ⟨?_, ?_, rfl, hG.size, hG.keepR, ?_, ?_⟩⟩
    · intro i o L hi hL
      obtain ⟨b0, hb0, hob, hcase⟩ := hobj i o hi
      obtain ⟨b1, hb1, hL1⟩ := hj2 hL
      rw [hb0] at hb1; cases hb1
      have hO := hM'.objs b0 o L hob hL1
      rcases hcase with ⟨hlt, rfl⟩ | ⟨hge, -, hK⟩
      · have hu := (hM'.low m.objs.length (by simp)).2 b0 o L hlt hob hL1
        have same : ∀ {v : V} {v' : Value}, v.under m.objs.length → VR j' v v' → VR (jK j' m.objs.length K) v v' := fun hu hv => hv.same fun b hb g => hlow (hu b hb)
        cases o with
        | u8 l md => exact hO
        | row l md =>
          refine ⟨fun k v hk => ?_, hO.2⟩
          obtain ⟨v', hc, hr⟩ := hO.1 k v hk
          exact ⟨v', hc, same (hu v (List.mem_of_getElem? hk)) hr⟩
        | map es c =>
          obtain ⟨h1, es', hh, hR⟩ := hO
          refine ⟨h1, es', hh, ?_⟩
          have key : ∀ {es : List (V × V × Nat)} {es' : List MapEntry}, EsR j' es es' → (∀ e ∈ es, e.1.under m.objs.length ∧ e.2.1.under m.objs.length) → EsR (jK j' m.objs.length K) es es' := by
            intro es es' h
            induction h with
            | nil => intro _; exact .nil
            | cons hk hv _ ih =>
              intro hu
              have := hu _ (List.mem_cons_self ..)
              exact .cons (same this.1 hk) (same this.2 hv) (ih fun e he => hu e (by simp [he]))
          exact key hR hu
        | dead => trivial
        | loop => exact hO.elim
        | defr => exact hO.elim
        | iter mo s seen last =>
          cases mo with
          | none => exact hO.elim
          | some r => obtain ⟨a, L', b, c⟩ := hO; exact ⟨a, L', (hlow hu).trans b, c⟩
      · obtain ⟨o2, ho2, hob2, -, hmove⟩ := hos _ _ hK
        rw [hob] at hob2; cases hob2
        exact hmove _ _ _ _ _ hO
    · intro i g L hL
      obtain ⟨b0, hb0, hL1⟩ := hj2 hL
      refine ⟨?_, (hM'.dom _ _ _ hL1).2⟩
      have htl : (m'.objs.take m.objs.length).length = m.objs.length := by simp; omega
      rw [List.length_append, htl, hol]
      rcases horig i b0 hb0 with ⟨hlt, -⟩ | ⟨hge, -, hK⟩
      · omega
      · have := (List.getElem?_eq_some_iff.1 hK).1; omega
    · intro i i' o o' L L' hi hi' hL hL' hm hm' he
      obtain ⟨b0, hb0, hob, hcase⟩ := hobj i o hi
      obtain ⟨b1, hb1, hob', hcase'⟩ := hobj i' o' hi'
      obtain ⟨c0, hc0, hL0⟩ := hj2 hL
      obtain ⟨c1, hc1, hL1⟩ := hj2 hL'
      rw [hb0] at hc0; cases hc0
      rw [hb1] at hc1; cases hc1
      have := hM'.sep b0 b1 o o' L L' hob hob' hL0 hL1 hm hm' he
      subst this
      rcases hcase with ⟨hlt, h1⟩ | ⟨hge, h1, hK⟩ <;> rcases hcase' with ⟨hlt', h1'⟩ | ⟨hge', h1', hK'⟩
      · omega
      · omega
      · omega
      · have := (List.getElem?_inj (List.getElem?_eq_some_iff.1 hK).1 hgood.1).1 (hK.trans hK'.symm)
        omega
    · intro g hg
      have := (hM.dom _ _ _ (hM.glob g hg)).1
      rw [hlow this]
      exact hM'.glob g hg
    · have := hM.gle
      have htl : (m'.objs.take m.objs.length).length = m.objs.length := by simp; omega
      rw [List.length_append, htl]
      exact Nat.le_trans this (Nat.le_add_right _ _)
    · intro i o g L hi hL
      obtain ⟨b0, hb0, hob, -⟩ := hobj i o hi
      obtain ⟨c0, hc0, hL0⟩ := hj2 hL
      rw [hb0] at hc0; cases hc0
      exact hM'.gens b0 o g L hob hL0
    · intro gd hgd
      have h1 := (hM.low gd hgd).1
      refine ⟨h1, fun i o L hlt hi hL => ?_⟩
      have hib : i < m.objs.length := by have := hM.gle; omega
      obtain ⟨b0, hb0, hob, hcase⟩ := hobj i o hi
      rcases hcase with ⟨-, rfl⟩ | ⟨hge, -⟩
      · rw [hlow hib] at hL
        exact (hM'.low gd (by simp [hgd])).2 b0 o L hlt hob hL
      · omega
    · intro b g L h
      rw [hlow (hM.dom _ _ _ h).1]
      exact hG.ext _ _ _ h
    · have htl : (m'.objs.take m.objs.length).length = m.objs.length := by simp; omega
      rw [List.length_append, htl]
      omega
    · intro i hi hn
      obtain ⟨h1, h2⟩ := hG.keepI i hi hn
      refine ⟨?_, fun g => by rw [hlow hi]; exact h2 g⟩
      have htl : (m'.objs.take m.objs.length).length = m.objs.length := by simp; omega
      rw [List.getElem?_append_left (by omega), List.getElem?_take, if_pos hi]
      exact h1
    · intro i g L hL
      obtain ⟨b0, hb0, hL0⟩ := hj2 hL
      rcases horig i b0 hb0 with ⟨hlt, rfl⟩ | ⟨hge, hge2, -⟩
      · exact hG.newR b0 g L hL0
      · rcases hG.newR b0 g L hL0 with h | h | ⟨g0, L0, h, -⟩
        · have := (hM.dom _ _ _ h).1; omega
        · exact .inr (.inl h)
        · have := (hM.dom _ _ _ h).1; omega
end
end Go.Ig
