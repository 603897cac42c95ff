/-
  Stores, copies, appends, maps.
-/
import Derived.Test.YtcnjllnnhcafbaaDoorIgEff
import Derived.Deep.AppendSrc
namespace Go.Ig
open Go

section
variable {P : Program} {j : J} {w : World} {n0 : Nat} {w0 : World} {gs : List Nat} {m : Mem}

theorem store_stores {b g o : Nat} {v : V} {m' : Mem} (h : m.store b g o v = some m') : m.stores b g o [v] = some m' := by
  have sp : ∀ {α : Type} (l : List α) (x : α), o < l.length → splice l o [x] = l.set o x := by
    intro α l x hl
    unfold splice
    rw [List.set_eq_take_append_cons_drop, if_pos hl]
    simp
  unfold Mem.store at h
  split at h
  · rename_i l md hob
    split at h
    · rename_i x
      split at h
      · rename_i hc
        obtain ⟨a, b, c⟩ := hc
        cases h
        simp only [Mem.stores, hob, toU8, Option.map_some]
        rw [if_pos ⟨a, b, by simpa using Nat.succ_le_of_lt c⟩, sp l x c]
      · cases h
    · cases h
  · rename_i l md hob
    split at h
    · rename_i hc
      obtain ⟨a, b, c, d, e⟩ := hc
      cases h
      simp only [Mem.stores, hob]
      rw [if_pos ⟨a, b, by simpa using Nat.succ_le_of_lt c, by simpa using d, by simpa using e⟩, sp l v c]
    · cases h
  · cases h

theorem store_one {b g o : Nat} {v : V} {m' : Mem} (h : m.store b g o v = some m') : v.one = true := by
  unfold Mem.store at h
  split at h
  · split at h
    · rfl
    · cases h
  · split at h
    · rename_i hc; exact hc.2.2.2.1
    · cases h
  · cases h
theorem VR.one_cells {v : V} {v' : Value} (h : VR j v v') (h1 : v.one = true) : v'.cells = #[v'] := by
  cases h <;> simp [V.one] at h1 <;> rfl

theorem storeV_R (hM : MR P n0 w0 gs j m w) {t : TypeId} {a v : V} {a' v' : Value} {m' : Mem} (ha : VR j a a') (hv : VR j v v') (h : storeV P m t a v = some m') :
    ∃ w', (Instr.storeAt t a' v').run P w = .ok () w' ∧ MR P n0 w0 gs j m' w' ∧ Grows j m w j m' w' := by
  unfold storeV at h
  split at h
  · rename_i b g o
    cases ha with | ptr hL => ?_
    rename_i L
    obtain ⟨n, hn, h1⟩ := Option.bind_eq_some_iff.1 h
    clear h
    have key : ∀ vs, v'.cells.toList.length = n → VRs j vs v'.cells.toList → (m.stores b g o vs = some m' ∨ (n = 0 ∧ m' = m)) → ∃ w', (Instr.storeAt t (.pointer (some ⟨L.c, L.s + o, none⟩)) v').run P w = .ok () w' ∧ MR P n0 w0 gs j m' w' ∧ Grows j m w j m' w' := by
      intro vs hlen hr hst
      have hsz : v'.cells.size = n := by simpa using hlen
      simp only [Instr.storeAt, Instr.sureAddr, Sem.run_bind, Sem.run_pure, Result.andThen_ok, storeVar, run_szO hn, hsz, ne_eq, not_true_eq_false, if_false]
      rcases hst with hst | ⟨rfl, rfl⟩
      · exact stores_R hM hL hr hst
      · refine ⟨w, ?_, hM, .refl _ _ _⟩
        rw [List.length_eq_zero_iff.1 hlen]
        rfl
    split at h1
    · rename_i cs
      split at h1
      · cases h1
      · rename_i hl
        have hl : cs.length = n := by simpa using hl
        cases hv with | agg hr => ?_
        rename_i cs'
        refine key cs (by simpa [Value.cells, hl] using hr.len) (by simpa [Value.cells] using hr) ?_
        split at h1
        · rename_i h0; cases h1; exact .inr ⟨h0, rfl⟩
        · exact .inl h1
    · split at h1
      · rename_i hn1
        have hc := hv.one_cells (store_one h1)
        exact key [_] (by rw [hc, hn1]; rfl) (by rw [hc]; exact .cons hv .nil) (.inl (store_stores h1))
      · cases h1
  · cases h

/-! ### what a builtin reads -/
theorem lenV_R {x : V} {x' : Value} {n : Nat} (hx : VR j x x') (h : lenV x = some n) : ∀ w : World, (Builtin.lenOf x').run P w = .ok n w := by
  cases hx <;> simp [lenV] at h <;> subst h <;> intro w
  · rename_i s
    rfl
  · rfl
  · rfl
  · rfl
theorem map_byte_R (us : List UInt8) : VRs j (us.map V.u8) (us.map byteC) := by
  induction us with
  | nil => exact .nil
  | cons b l ih => exact .cons (.u8 b) ih
theorem MR.drew (hM : MR P n0 w0 gs j m w) : MR P n0 w0 gs j m w.drew := by
  have hO : ∀ (L : Loc) (o : Obj), ObjR j n0 w L o → ObjR j n0 w.drew L o := fun L o h => h.heap rfl
  exact ⟨fun i o L hi hL => hO _ _ (hM.objs i o L hi hL), hM.dom, hM.sep, hM.old, hM.n0le, hM.glob, hM.gle, hM.gens, hM.low, hM.str.trans ⟨rfl, rfl, rfl⟩⟩
theorem readV_R (hM : MR P n0 w0 gs j m w) {size n : Nat} {x : V} {x' : Value} {cs : List V} (hx : VR j x x') (h : readV m size n x = some cs) :
    ∃ cs', VRs j cs cs' ∧ (Builtin.firstCells size n x').run P w = .ok cs'.toArray w ∧ (Builtin.firstCells size n x').run P w.drew = .ok cs'.toArray w.drew := by
  cases hx <;> simp only [readV] at h <;> try cases h
  · rename_i s
    refine ⟨(s.data.toList.take n).map byteC, map_byte_R _, ?_, ?_⟩ <;>
    · simp only [Builtin.firstCells, Sem.run_pure]
      congr 1
      apply Array.ext'
      simp [ByteArray.data_extract]
      rfl
  · rename_i b g o z len cap cap' L hL hc hl
    obtain ⟨cs', hlen, hr, hcell⟩ := hM.cells hL h
    exact ⟨cs', hr, run_firstCells_some w size n _ len cap' cs' hlen hcell, run_firstCells_some w.drew size n _ len cap' cs' hlen hcell⟩
  · exact ⟨[], .nil, run_firstCells_none w size n 0 0, run_firstCells_none w.drew size n 0 0⟩
  · split at h
    · rename_i ad h0
      cases h; subst h0
      refine ⟨[], .nil, ?_, ?_⟩ <;> simp [Builtin.firstCells, loadCells, loadCellsFrom]
    · cases h

theorem copyV_R (hM : MR P n0 w0 gs j m w) {t : TypeId} (ts : Array TypeId) (ty : TypeId) (hts : ts[0]? = some t) {d s v : V} {d' s' : Value} {m' : Mem} (hd : VR j d d') (hs : VR j s s') (h : copyV P m t d s = some (v, m')) :
    ∃ v' w', (Builtin.copy_ ts ty #[d', s']).run P w = .ok v' w' ∧ VR j v v' ∧ MR P n0 w0 gs j m' w' ∧ Grows j m w j m' w' := by
  unfold copyV at h
  split at h
  · rename_i e he
    obtain ⟨k, hk, h⟩ := Option.bind_eq_some_iff.1 h
    have e0 : (#[d', s'] : Array Value)[0]? = some d' := rfl
    have e1 : (#[d', s'] : Array Value)[1]? = some s' := rfl
    split at h
    · obtain ⟨size, hsz, h⟩ := Option.bind_eq_some_iff.1 h
      cases h
      cases hd
      refine ⟨.int .i64 0, w, ?_, .int _ _ (by decide), hM, .refl _ _ _⟩
      have hf : (Builtin.firstCells size 0 s').run P w = .ok #[] w := by
        cases hs <;> simp [lenV] at hk
        · rename_i s
          simp only [Builtin.firstCells, Sem.run_pure]
          congr 1
          apply Array.ext'
          simp
        · simp [Builtin.firstCells, loadCells, loadCellsFrom]
        · rfl
        · simp [Builtin.firstCells, loadCells, loadCellsFrom]
      unfold Builtin.copy_
      simp only [hts, e0, e1, Sem.run_bind, run_under he, Result.andThen_ok, lenV_R hs hk w, show Nat.min k 0 = 0 from Nat.min_zero k, run_szO hsz, hf, Sem.run_pure, goInt]
      rfl
    · rename_i b g o z dLen c _
      obtain ⟨size, hsz, h⟩ := Option.bind_eq_some_iff.1 h
      obtain ⟨cs, hcs, h⟩ := Option.bind_eq_some_iff.1 h
      cases hd with | slice hL hcap hl => ?_
      rename_i cap' L
      obtain ⟨cs', hr, hf, -⟩ := readV_R hM hs hcs
      have hrun : (Builtin.copy_ ts ty #[.slice (some ⟨L.c, L.s + o, none⟩) dLen cap', s']).run P w = ((storeCells ⟨L.c, L.s + o, none⟩ cs').run P w).andThen fun _ w => .ok (.int .i64 ((min k dLen : Nat) : Int)) w := by
        have e0 : (#[Value.slice (some ⟨L.c, L.s + o, none⟩) dLen cap', s'] : Array Value)[0]? = some (.slice (some ⟨L.c, L.s + o, none⟩) dLen cap') := rfl
        have e1 : (#[Value.slice (some ⟨L.c, L.s + o, none⟩) dLen cap', s'] : Array Value)[1]? = some s' := rfl
        unfold Builtin.copy_
        simp only [hts, e0, e1, Sem.run_bind, run_under he, Result.andThen_ok, lenV_R hs hk w, show Nat.min k dLen = min k dLen from rfl, run_szO hsz, hf, Sem.run_pure, goInt]
      split at h
      · rename_i h0
        cases h
        refine ⟨_, w, ?_, .int _ _ (by decide), hM, .refl _ _ _⟩
        rw [hrun, List.length_eq_zero_iff.1 (hr.len.trans h0)]
        rfl
      · obtain ⟨m2, hm2, h⟩ := Option.bind_eq_some_iff.1 h
        cases h
        obtain ⟨w', hst, hM', hG⟩ := stores_R hM hL hr hm2
        refine ⟨_, w', ?_, .int _ _ (by decide), hM', hG⟩
        rw [hrun, hst]
        rfl
    · cases h
  · cases h
end
end Go.Ig
