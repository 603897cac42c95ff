/-
  The operations that write.
-/
import Derived.Test.YtcnjllnnhcafbaaDoorIgNew
namespace Go.Ig
open Go

section
variable {P : Program} {j : J} {w : World} {n0 : Nat} {w0 : World} {gs : List Nat} {m : Mem}

theorem splice_get {α : Type} (l us : List α) (o : Nat) (h : o + us.length ≤ l.length) (k : Nat) :
    (splice l o us)[k]? = if o ≤ k ∧ k < o + us.length then us[k - o]? else l[k]? := by
  unfold splice
  have ht : (l.take o).length = o := by simp; omega
  simp only [List.append_assoc, List.getElem?_append, ht]
  by_cases h1 : k < o
  · rw [if_pos h1, if_neg (by omega)]
    simp [List.getElem?_take, h1]
  · rw [if_neg h1]
    by_cases h2 : k - o < us.length
    · rw [if_pos h2, if_pos (by omega)]
    · rw [if_neg h2, if_neg (by omega), List.getElem?_drop]
      congr 1
      omega
theorem splice_len {α : Type} (l us : List α) (o : Nat) (h : o + us.length ≤ l.length) : (splice l o us).length = l.length := by
  unfold splice
  simp
  omega

theorem run_stores (c : Nat) : ∀ (vs : List Value) (o i : Nat) (w : World) (cells : Array Value) (elem : TypeId) (fr : Nat × Nat), w.heap[c]? = some (.cells cells elem fr) → (∀ k, k < cells.size → ¬ (fr.1 ≤ k ∧ k < fr.2)) →
    (vs ≠ [] → o + i + vs.length ≤ cells.size) → (∀ v ∈ vs, v.oneCell' = true) →
    ∃ w' cells', (storeCells ⟨c, o, none⟩ vs i).run P w = .ok () w' ∧ w'.heap[c]? = some (.cells cells' elem fr) ∧ cells'.size = cells.size ∧ (∀ k, cells'[k]? = if o + i ≤ k ∧ k < o + i + vs.length then vs[k - (o + i)]? else cells[k]?) ∧ (∀ d, d ≠ c → w'.heap[d]? = w.heap[d]?) ∧ w'.heap.size = w.heap.size ∧ Strm w w'
  | [], o, i, w, cells, elem, fr, hh, _, _, _ => ⟨w, cells, rfl, hh, rfl, fun k => by rw [if_neg (by simp)], fun _ _ => rfl, rfl, .refl _⟩
  | v :: rest, o, i, w, cells, elem, fr, hh, hf, hl, h1 => by
    have hl := hl (by simp)
    have hi : o + i < cells.size := by simp at hl; omega
    have hcell : w.cell? ⟨c, o + i, none⟩ = some cells[o + i] := by simp [World.cell?, hh, hi]
    have hfro : w.frozen? ⟨c, o + i, none⟩ = false := by
      have h2 : ¬ (fr.1 ≤ o + i ∧ o + i < fr.2) := hf _ hi
      simp only [World.frozen?, hh]
      rw [Bool.and_eq_false_iff]
      by_cases hlo : fr.1 ≤ o + i
      · right; simpa using fun h => h2 ⟨hlo, h⟩
      · left; simpa using hlo
    have hheap : (w.setCell ⟨c, o + i, none⟩ v).heap[c]? = some (.cells (cells.setIfInBounds (o + i) v) elem fr) := by
      simp [World.setCell, Array.getElem?_modify, hh]
    obtain ⟨w', cells', hr, hc, hsz, hat, ho, hs, hstr⟩ := run_stores c rest o (i + 1) (w.setCell ⟨c, o + i, none⟩ v) (cells.setIfInBounds (o + i) v) elem fr hheap (by simpa using hf) (fun _ => by simp at hl ⊢; omega) (fun u hu => h1 u (by simp [hu]))
    refine ⟨w', cells', ?_, hc, by simpa using hsz, fun k => ?_, fun d hd => ?_, by simpa [World.setCell] using hs, Strm.trans (b := w.setCell ⟨c, o + i, none⟩ v) ⟨rfl, rfl, rfl⟩ hstr⟩
    · simp only [storeCells, Sem.run_bind, add_at, run_store P w _ v .plain (h1 v (by simp)), hcell, hfro]
      exact hr
    · rw [hat]
      simp only [List.length_cons]
      by_cases hk : k = o + i
      · subst hk
        rw [if_neg (by omega), if_pos (by omega)]
        simp [hi]
      · by_cases hk2 : o + (i + 1) ≤ k ∧ k < o + (i + 1) + rest.length
        · rw [if_pos hk2, if_pos (by omega), show k - (o + i) = (k - (o + (i + 1))) + 1 from by omega, List.getElem?_cons_succ]
        · rw [if_neg hk2, if_neg (by omega), Array.getElem?_setIfInBounds_ne (Ne.symm hk)]
    · rw [ho d hd]
      simp [World.setCell, Array.getElem?_modify, hd.symm]

theorem ObjR_at {L : Loc} {ob : Obj} {md : Mode} (hmd : ob.mode = some md) : ObjR j n0 w L ob ↔ (∀ k v, ob.at k = some v → ∃ v', w.cell? ⟨L.c, L.s + k, none⟩ = some v' ∧ VR j v v') ∧ modeR n0 w md L := by
  cases ob <;> simp [Obj.mode] at hmd
  · subst hmd
    rename_i l md
    simp only [ObjR, Obj.at]
    constructor
    · rintro ⟨h1, h2⟩
      refine ⟨fun k v hv => ?_, h2⟩
      cases hb : l[k]? with
      | none => rw [hb] at hv; cases hv
      | some b => rw [hb] at hv; cases hv; exact ⟨_, h1 k b hb, .u8 b⟩
    · rintro ⟨h1, h2⟩
      refine ⟨fun k b hb => ?_, h2⟩
      obtain ⟨v', hv', hr⟩ := h1 k (.u8 b) (by simp [hb])
      cases hr
      exact hv'
  · subst hmd
    exact Iff.rfl

theorem flat_ids {v : V} (h : v.flat = true) : v.ids = [] := by
  cases v <;> simp [V.flat] at h <;> rfl

/-- What a store of cells does to the evaluator's memory. -/
theorem stores_spec {b g o : Nat} {vs : List V} {m' : Mem} (h : m.stores b g o vs = some m') :
    ∃ ob ob' md, m.objs[b]? = some ob ∧ m' = m.setObj b ob' ∧ ob.mode = some md ∧ ob'.mode = some md ∧ md.writes = true ∧ ob.gen = g ∧ ob'.gen = g ∧
      (∀ k, ob'.at k = if o ≤ k ∧ k < o + vs.length then vs[k - o]? else ob.at k) ∧ (∀ k, k < o + vs.length → (ob.at k).isSome = true) ∧
      (∀ vs', VRs j vs vs' → ∀ v' ∈ vs', v'.oneCell' = true) ∧ (∀ gd, gd ≤ m.guard → b < gd → ob.under gd → ob'.under gd) := by
  unfold Mem.stores at h
  split at h
  · rename_i l md hob
    cases hu : toU8 vs with
    | none => rw [hu] at h; cases h
    | some us =>
      simp only [hu] at h
      split at h
      · rename_i hc
        obtain ⟨hg, hw, hl⟩ := hc
        cases h
        have e := toU8_eq hu
        subst e
        refine ⟨_, _, md, hob, rfl, rfl, rfl, hw, hg, hg, fun k => ?_, fun k hk => ?_, fun vs' hr => ?_, fun gd _ _ _ => trivial⟩
        · simp only [Obj.at, splice_get _ _ _ hl, List.length_map]
          split
          · rw [List.getElem?_map]
          · rfl
        · simp only [Obj.at, List.length_map] at hk ⊢
          simp [show k < l.length from by omega]
        · rw [hr.bytes]; exact bytes_one us
      · cases h
  · rename_i l md hob
    split at h
    · rename_i hc
      obtain ⟨hg, hw, hl, hone, hfl⟩ := hc
      cases h
      refine ⟨_, _, md, hob, rfl, rfl, rfl, hw, hg, hg, fun k => ?_, fun k hk => ?_, fun vs' hr => map_one hr hone, fun gd hgd hb hu => ?_⟩
      · simp only [Obj.at, splice_get _ _ _ hl]
      · simp only [Obj.at]
        simp [show k < l.length from by omega]
      · have hfl : vs.all V.flat = true := by
          rcases hfl with h | h
          · exact h
          · omega
        intro v hv
        unfold splice at hv
        rcases List.mem_append.1 hv with hv | hv
        · rcases List.mem_append.1 hv with hv | hv
          · exact hu v (List.mem_of_mem_take hv)
          · have := List.all_eq_true.1 hfl v hv
            unfold V.under
            rw [flat_ids this]
            simp
        · exact hu v (List.mem_of_mem_drop hv)
    · cases h
  · cases h

theorem Obj.mine_of {ob : Obj} {md : Mode} (h : ob.mode = some md) (hw : md.writes = true) : ob.mine = true := by
  cases ob <;> simp [Obj.mode] at h <;> subst h <;> exact hw
theorem modeR_blk {md : Mode} {L : Loc} (h : modeR n0 w md L) (hw : md.writes = true) : L.s = 0 ∧ ∃ n, Blk w L.c n := by
  unfold modeR at h
  cases md with
  | ro => cases hw
  | exact => exact ⟨h.2.1, h.2.2.2⟩
  | vec g => obtain ⟨a, -, n, -, hb⟩ := h; exact ⟨a, n, hb⟩
theorem modeR_keep {w' : World} {md : Mode} {L : Loc} (h : modeR n0 w md L) (hb : ∀ n, Blk w L.c n → Blk w' L.c n) : modeR n0 w' md L := by
  unfold modeR at *
  cases md with
  | ro => exact h
  | exact => obtain ⟨a, b, c, n, hn⟩ := h; exact ⟨a, b, c, n, hb n hn⟩
  | vec g => obtain ⟨a, b, n, c, hn⟩ := h; exact ⟨a, b, n, c, hb n hn⟩

theorem J.new_id {i g : Nat} {L : Loc} (h : j i g = some L) : j.new i g L = j := by
  funext b g'
  by_cases e : b = i ∧ g' = g
  · obtain ⟨rfl, rfl⟩ := e; rw [J.new_same]; exact h.symm
  · exact J.new_other e

/-- Cells stored, here and there. -/
theorem stores_R (hM : MR P n0 w0 gs j m w) {b g o : Nat} {vs : List V} {vs' : List Value} {m' : Mem} {L : Loc} (hL : j b g = some L) (hr : VRs j vs vs') (h : m.stores b g o vs = some m') :
    ∃ w', (storeCells ⟨L.c, L.s + o, none⟩ vs').run P w = .ok () w' ∧ MR P n0 w0 gs j m' w' ∧ Grows j m w j m' w' := by
  obtain ⟨ob, ob', md, hob, rfl, hmd, hmd', hw, rfl, hg', hat, hsome, hone, hund⟩ := stores_spec (j := j) h
  have hO := hM.objs b ob L hob hL
  obtain ⟨hcells, hmode⟩ := (ObjR_at hmd).1 hO
  obtain ⟨hs0, n, cells, elem, fr, hheap, hsz, hfr⟩ := modeR_blk hmode hw
  have hlen := hr.len
  have hfit : vs' ≠ [] → L.s + o + 0 + vs'.length ≤ cells.size := by
    intro hne
    have h0 : 0 < vs'.length := List.length_pos_iff.2 hne
    rw [hlen] at h0 ⊢
    obtain ⟨v, hv⟩ := Option.isSome_iff_exists.1 (hsome (o + vs.length - 1) (by omega))
    obtain ⟨v', hv', -⟩ := hcells _ _ hv
    simp only [World.cell?, hheap] at hv'
    have := (Array.getElem?_eq_some_iff.1 (by simpa using hv')).1
    omega
  obtain ⟨w', cells', hrun, hc', hsz', hat', ho', hs', hstr⟩ := run_stores (P := P) L.c vs' (L.s + o) 0 w cells elem fr hheap (by intro k hk; omega) hfit (hone vs' hr)
  refine ⟨w', hrun, ?_⟩
  have hblk : ∀ n, Blk w L.c n → Blk w' L.c n := by
    rintro n ⟨c2, e2, f2, h2, s2, fz⟩
    rw [hheap] at h2; cases h2
    exact ⟨_, _, _, hc', hsz'.trans s2, fz⟩
  have hO' : ObjR j n0 w' L ob' := by
    refine (ObjR_at hmd').2 ⟨fun k v hv => ?_, modeR_keep hmode hblk⟩
    rw [hat] at hv
    have hw' : w'.cell? ⟨L.c, L.s + k, none⟩ = cells'[L.s + k]? := by
      simp [World.cell?, hc']
    rw [hw', hat', hlen]
    split at hv
    · rename_i hk
      rw [if_pos (by omega), show L.s + k - (L.s + o + 0) = k - o from by omega]
      exact hr.get hv
    · rename_i hk
      rw [if_neg (by omega)]
      obtain ⟨v', hv', hrr⟩ := hcells k v hv
      refine ⟨v', ?_, hrr⟩
      simpa [World.cell?, hheap] using hv'
  have hj := J.new_id (g := ob'.gen) (i := b) (L := L) (j := j) (by rw [hg']; exact hL)
  have := hM.write (w' := w') (L' := L) hob hL (Obj.mine_of hmd hw) (.inl ⟨hg', rfl⟩) (.inl ⟨rfl, hs'⟩) (fun c _ hne => ho' c hne) hstr (by rw [hj]; exact hO') (fun gd hgd hlt => hund gd (hM.low gd hgd).1 hlt ((hM.low gd hgd).2 b ob L hlt hob hL))
  rw [hj] at this
  exact this
end
end Go.Ig
