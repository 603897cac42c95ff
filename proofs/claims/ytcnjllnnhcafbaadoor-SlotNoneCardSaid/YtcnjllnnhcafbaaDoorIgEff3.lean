/-
  Appends, maps.
-/
import Derived.Test.YtcnjllnnhcafbaaDoorIgEff2
set_option linter.unusedVariables false
namespace Go.Ig
open Go

section
variable {P : Program} {j : J} {w : World} {n0 : Nat} {w0 : World} {gs : List Nat} {m : Mem}

theorem isType_xT {xT : Option TypeId} (h : ¬ srcT P xT = false) :
    ∃ t, xT = some t ∧ ((∃ e', P.underlying t = some (.slice e')) ∨ P.underlying t = some .string) := by
  unfold srcT at h
  cases xT with
  | none => exact absurd rfl h
  | some t =>
    refine ⟨t, rfl, ?_⟩
    simp only [Option.bind_some] at h
    split at h
    · exact .inl ⟨_, by assumption⟩
    · exact .inr (by assumption)
    · exact absurd rfl h

theorem src_R (hM : MR P n0 w0 gs j m w) {size n : Nat} {tx : TypeId} {x : V} {x' : Value} {new : List V} (hk : (∃ e', P.underlying tx = some (.slice e')) ∨ P.underlying tx = some .string) (hx : VR j x x') (hn : lenV x = some n)
    (hr : readV m size n x = some new) (hl : new.length = n * size) (h1 : new.all V.one = true) : ∃ new', VRs j new new' ∧ Src P size tx x' n new' w := by
  obtain ⟨new', hR, hf, hfd⟩ := readV_R hM hx hr
  exact ⟨new', hR, hk, fun w' => lenV_R hx hn w', hf, hfd, by rw [hR.len, hl], map_one hR h1⟩

/-- An append that needs a new row. -/
theorem grow_R (hM : MR P n0 w0 gs j m w) {t tx ty e : TypeId} {size bytes : Nat} {z0 : V} {olds new : List V} {olds' new' : List Value} {base : Option Addr} {sLen sCap n : Nat} {x' : Value}
    (ht : P.underlying t = some (.slice e)) (hsz : szO P e = some size) (hby : byO P e = some bytes) (hz : zeroOf P e = some z0) (hzl : z0.cells.length = size)
    (hold : (Builtin.firstCells size sLen (.slice base sLen sCap)).run P w.drew = .ok olds'.toArray w.drew) (hoR : VRs j olds olds') (hol : olds.length = sLen * size)
    (hs : Src P size tx x' n new' w) (hnR : VRs j new new') (hg : sCap < sLen + n) (hfit : (2 * (sLen + n) + 1024) * (bytes + 1) ≤ 281474976710656) :
    ∃ cap' extra w', (Builtin.append_ #[t, tx] ty #[.slice base sLen sCap, x']).run P w = .ok (.slice (some ⟨w.heap.size, 0, none⟩) (sLen + n) cap') w' ∧ w'.heap = w.heap.push (.cells ⟨(olds' ++ new') ++ extra⟩ e (0, 0)) ∧
      sLen + n ≤ cap' ∧ ((olds' ++ new') ++ extra).length = cap' * size ∧ Strm w w' := by
  obtain ⟨i, z', hi, hz', hr, hk, -⟩ := zeroRun (j := j) (w := w) hz
  obtain ⟨i2, hi2, rfl⟩ := szO_eq hsz
  obtain rfl : i = i2 := by rw [hi] at hi2; exact Option.some.inj hi2
  have hb : i.bytes = bytes := by simp [byO, hi] at hby; exact hby
  subst hb
  have hb1 : (2 * (sLen + n) + 1024) * i.bytes ≤ 281474976710656 := Nat.le_trans (Nat.mul_le_mul_left _ (Nat.le_succ _)) hfit
  have hb2 : (2 * (sLen + n) + 1024) ≤ 281474976710656 := Nat.le_trans (Nat.le_mul_of_pos_right _ (Nat.succ_pos _)) hfit
  have h2 : Builtin.nextslicecap (sLen + n) sCap * i.bytes ≤ 281474976710656 := by
    refine Nat.le_trans (Nat.mul_le_mul_right _ (nextslicecap_le hg)) (Nat.le_trans (Nat.mul_le_mul_right _ ?_) hb1)
    omega
  have hrun := run_append_grow_src w t tx ty e i z' ht hi hz' base sLen sCap olds' hold x' n new' hs hg (by omega) h2
  have hge := grownCap_ge w (sLen + n) sCap e
  have hzs : z'.cells.size = i.size := by
    have := (hr.cells_R hk).len
    rw [hzl] at this
    simpa using this
  refine ⟨_, (Builtin.zeroCells z'.cells (grownCap w (sLen + n) sCap e - (sLen + n))).toList, _, hrun, ?_, hge, ?_, ⟨rfl, rfl, rfl⟩⟩
  · show w.heap.push _ = _
    congr 2
    apply Array.ext'
    simp
  · have hlen : (Builtin.zeroCells z'.cells (grownCap w (sLen + n) sCap e - (sLen + n))).toList.length = (grownCap w (sLen + n) sCap e - (sLen + n)) * i.size := by
      simp [Builtin.zeroCells, hzs]
    rw [List.length_append, List.length_append, hoR.len, hol, hs.newsLen, hlen, ← Nat.add_mul, ← Nat.add_mul]
    congr 1
    omega

theorem Obj.gen_mode {ob : Obj} {md : Mode} (h : ob.mode = some md) : ob.gen = md.gen := by
  cases ob <;> simp [Obj.mode] at h <;> subst h <;> rfl
theorem J.new_le {i g : Nat} {L : Loc} (h : ∀ X, j i g = some X → X = L) : j.le (j.new i g L) := by
  intro b g' X hX
  by_cases e : b = i ∧ g' = g
  · obtain ⟨rfl, rfl⟩ := e
    rw [J.new_same, h X hX]
  · rw [J.new_other e]; exact hX

/-- An append to a block that may have more cells than are told: a new generation of it. -/
theorem moved_R (hM : MR P n0 w0 gs j m w) {sT tx ty e : TypeId} {z bytes b g sLen sCap cap' n : Nat} {z0 : V} {ob ob' : Obj} {L : Loc} {olds new : List V} {new' : List Value} {x' : Value}
    (he : P.underlying sT = some (.slice e)) (hsz : szO P e = some z) (hby : byO P e = some bytes) (hz0 : zeroOf P e = some z0) (hzl : z0.cells.length = z)
    (hsrc : Src P z tx x' n new' w) (hnR : VRs j new new') (hnl : new.length = n * z) (hob : m.objs[b]? = some ob) (hmd : ob.mode = some (.vec g)) (hmd' : ob'.mode = some (.vec (g + 1))) (hL : j b g = some L)
    (hc : capR L.room (L.s + 0) z sCap cap') (hl : sLen ≤ sCap) (hg : sCap < sLen + n) (hfit : (2 * (sLen + n) + 1024) * (bytes + 1) ≤ 281474976710656)
    (holds : m.cells? b g 0 (sLen * z) = some olds) (hat : ∀ k, ob'.at k = if k < sLen * z then olds[k]? else new[k - sLen * z]?)
    (hlow : ∀ gd, gd ≤ m.guard → b < gd → ob.under gd → ob'.under gd) :
    ∃ v' w' j', (Builtin.append_ #[sT, tx] ty #[.slice (some ⟨L.c, L.s + 0, none⟩) sLen cap', x']).run P w = .ok v' w' ∧ VR j' (.slice b (g + 1) 0 z (sLen + n) (sLen + n)) v' ∧ MR P n0 w0 gs j' (m.setObj b ob') w' ∧ Grows j m w j' (m.setObj b ob') w' := by
  have hgen : ob.gen = g := Obj.gen_mode hmd
  have hgen' : ob'.gen = g + 1 := Obj.gen_mode hmd'
  subst hgen
  obtain ⟨hcells, hmode⟩ := (ObjR_at hmd).1 (hM.objs b ob L hob hL)
  obtain ⟨hs0, hn0, nn, hroomL, hblk⟩ := hmode
  rw [hroomL, hs0] at hc
  obtain ⟨hcap, hcapn⟩ := hc
  simp only [Nat.zero_add] at hcapn
  obtain ⟨olds', hol', hoR, hoc⟩ := hM.cells hL holds
  obtain ⟨hol, -⟩ := cells_at holds
  have hnl' : new'.length = n * z := by rw [hnR.len, hnl]
  have hfresh : ∀ X, j b (ob.gen + 1) = some X → False := fun X hX => by have := hM.gens b ob _ X hob hX; omega
  obtain ⟨i, hi, hisz⟩ := szO_eq hsz
  have hlowg : ∀ gd, gd ∈ gs → b < gd → ob'.under gd := fun gd hgd hlt => hlow gd (hM.low gd hgd).1 hlt ((hM.low gd hgd).2 b ob L hlt hob hL)
  have hmine : ob.mine = true := Obj.mine_of hmd rfl
  by_cases hle : sLen + n ≤ cap'
  · -- there is room
    obtain ⟨cells, elem, fr, hheap, hcsz, hfr⟩ := hblk
    have hbound : sLen * z + n * z ≤ nn := by
      rw [← Nat.add_mul]
      exact Nat.le_trans (Nat.mul_le_mul_right _ hle) hcapn
    obtain ⟨w', cells', hrun, hc', hsz', hat', ho', hs', hstr⟩ := run_stores (P := P) L.c new' (L.s + 0 + sLen * z) 0 w cells elem fr hheap (by intro k hk; omega) (fun _ => by rw [hnl', hs0, hcsz]; omega) hsrc.one
    have hle2 : j.le (j.new b (ob.gen + 1) L) := J.new_le fun X hX => (hfresh X hX).elim
    have hO : ObjR (j.new b (ob.gen + 1) L) n0 w' L ob' := by
      refine (ObjR_at hmd').2 ⟨fun k v hv => ?_, hs0, hn0, nn, hroomL, cells', elem, fr, hc', hsz'.trans hcsz, hfr⟩
      rw [hat] at hv
      have hw' : w'.cell? ⟨L.c, L.s + k, none⟩ = cells'[L.s + k]? := by simp [World.cell?, hc']
      rw [hw', hat', hnl']
      split at hv
      · rename_i hk
        rw [if_neg (by omega)]
        obtain ⟨v', hv', hr⟩ := hoR.get hv
        refine ⟨v', ?_, hr.mono hle2⟩
        have := hoc k v' hv'
        rw [add_at] at this
        simpa [World.cell?, hheap] using this
      · rename_i hk
        obtain ⟨v', hv', hr⟩ := hnR.get hv
        have := (List.getElem?_eq_some_iff.1 hv').1
        rw [if_pos (by omega), show L.s + k - (L.s + 0 + sLen * z + 0) = k - sLen * z from by omega]
        exact ⟨v', hv', hr.mono hle2⟩
    have hwr := hM.write (ob' := ob') (w' := w') (L' := L) hob hL hmine (.inr (by omega)) (.inl ⟨rfl, hs'⟩) (fun c _ hne => ho' c hne) hstr (by rw [hgen']; exact hO) hlowg
    rw [hgen'] at hwr
    refine ⟨.slice (some ⟨L.c, L.s + 0, none⟩) (sLen + n) cap', w', _, ?_, .slice (J.new_same _ _ _ _) ?_ (Nat.le_refl _), hwr⟩
    · have hst' : (storeCells (Addr.add ⟨L.c, L.s + 0, none⟩ (sLen * z)) new').run P w = .ok () w' := by
        rw [add_at]; exact hrun
      simp only [Nat.add_zero] at hst'
      rcases hsrc.kind with ⟨e', hk⟩ | hk <;>
        simp only [Builtin.append_] <;> simp [run_under he, run_under hk, sizeOf, typeInfo, hi, hsrc.len w, hisz, hsrc.cells, hle, hst']
    · rw [hroomL, hs0]
      exact ⟨hle, by simpa using hcapn⟩
  · have hold : (Builtin.firstCells z sLen (.slice (some ⟨L.c, L.s + 0, none⟩) sLen cap')).run P w.drew = .ok olds'.toArray w.drew :=
      run_firstCells_some w.drew z sLen ⟨L.c, L.s + 0, none⟩ sLen cap' olds' hol' (by simpa using hoc)
    obtain ⟨cap2, extra, w', hrun, hheap, hcap2, hlen, hstr⟩ := grow_R (tx := tx) (ty := ty) hM he hsz hby hz0 hzl hold hoR hol hsrc hnR (by omega) hfit
    let L' : Loc := ⟨w.heap.size, 0, some (cap2 * z)⟩
    have hle2 : j.le (j.new b (ob.gen + 1) L') := J.new_le fun X hX => (hfresh X hX).elim
    have hget : w'.heap[w.heap.size]? = some (.cells ⟨(olds' ++ new') ++ extra⟩ e (0, 0)) := by rw [hheap]; simp
    have hO : ObjR (j.new b (ob.gen + 1) L') n0 w' L' ob' := by
      refine (ObjR_at hmd').2 ⟨fun k v hv => ?_, rfl, hM.n0le, cap2 * z, rfl, _, e, (0, 0), hget, hlen, .inl rfl⟩
      rw [hat] at hv
      have hw' : w'.cell? ⟨L'.c, L'.s + k, none⟩ = ((olds' ++ new') ++ extra)[k]? := by simp [World.cell?, L', hget]
      rw [hw']
      split at hv
      · rename_i hk
        obtain ⟨v', hv', hr⟩ := hoR.get hv
        refine ⟨v', ?_, hr.mono hle2⟩
        rw [List.append_assoc, List.getElem?_append_left (by omega)]
        exact hv'
      · rename_i hk
        obtain ⟨v', hv', hr⟩ := hnR.get hv
        have := (List.getElem?_eq_some_iff.1 hv').1
        refine ⟨v', ?_, hr.mono hle2⟩
        rw [List.append_assoc, List.getElem?_append_right (by omega), hol', List.getElem?_append_left (by omega)]
        exact hv'
    have hk : ∀ c, c < w.heap.size → w'.heap[c]? = w.heap[c]? := by
      intro c hc
      rw [hheap, Array.getElem?_push_lt hc]
      simp [hc]
    have hwr := hM.write (ob' := ob') (w' := w') (L' := L') hob hL hmine (.inr (by omega)) (.inr ⟨rfl, by rw [hheap]; simp⟩) (fun c hc _ => hk c hc) hstr (by rw [hgen']; exact hO) hlowg
    rw [hgen'] at hwr
    exact ⟨_, w', _, hrun, .slice (L := L') (J.new_same _ _ _ _) ⟨hcap2, by simp [L']⟩ (Nat.le_refl _), hwr⟩

theorem append_R (hM : MR P n0 w0 gs j m w) {sT : TypeId} {xT : Option TypeId} (ts : Array TypeId) (ty : TypeId) (hts : ts[0]? = some sT) (hts1 : ts[1]? = xT) {s x v : V} {s' x' : Value} {m' : Mem} (hs : VR j s s') (hx : VR j x x') (h : appendV P m sT xT s x = some (v, m')) :
    ∃ v' w' j', (Builtin.append_ ts ty #[s', x']).run P w = .ok v' w' ∧ VR j' v v' ∧ MR P n0 w0 gs j' m' w' ∧ Grows j m w j' m' w' := by
  unfold appendV at h
  split at h
  rotate_left
  · cases h
  rename_i e he
  split at h
  · cases h
  rename_i hxt
  obtain ⟨tx, hxT, hkind⟩ := isType_xT hxt
  obtain ⟨size, hsz, h1⟩ := Option.bind_eq_some_iff.1 h; clear h
  obtain ⟨bytes, hby, h2⟩ := Option.bind_eq_some_iff.1 h1; clear h1
  obtain ⟨z0, hz0, h3⟩ := Option.bind_eq_some_iff.1 h2; clear h2
  obtain ⟨n, hn, h4⟩ := Option.bind_eq_some_iff.1 h3; clear h3
  obtain ⟨new, hnew, h⟩ := Option.bind_eq_some_iff.1 h4; clear h4
  split at h
  · cases h
  rename_i hcond
  have hzl : z0.cells.length = size := by
    by_cases hh : z0.cells.length = size
    · exact hh
    · exact absurd (Or.inl hh) hcond
  have hnl : new.length = n * size := by
    by_cases hh : new.length = n * size
    · exact hh
    · exact absurd (Or.inr (Or.inl hh)) hcond
  have hone : new.all V.one = true := by
    cases hh : new.all V.one with
    | true => rfl
    | false => exact absurd (Or.inr (Or.inr hh)) hcond
  obtain ⟨new', hnR, hsrc⟩ := src_R hM hkind hx hn hnew hnl hone
  have hts' : ∀ args, Builtin.append_ ts ty args = Builtin.append_ #[sT, tx] ty args := by
    intro args
    unfold Builtin.append_
    rw [hts, hts1, hxT]
    rfl
  rw [hts']
  obtain ⟨i, hi, hisz⟩ := szO_eq hsz
  split at h
  · -- onto nothing
    cases hs
    split at h
    · rename_i h0
      cases h
      subst h0
      refine ⟨.slice none 0 0, w, j, ?_, .nils, hM, .refl _ _ _⟩
      rcases hsrc.kind with ⟨e', hk⟩ | hk <;>
        simp [Builtin.append_, run_under he, run_under hk, sizeOf, typeInfo, hi, hsrc.len w, hisz, hsrc.cells]
    · split at h
      · rename_i hn0 hfit
        obtain ⟨ob, hob, h⟩ := Option.bind_eq_some_iff.1 h
        cases h
        obtain ⟨cap', extra, w', hrun, hheap, hcap, hlen, hstr⟩ := grow_R (base := none) (sLen := 0) (sCap := 0) (olds := []) (olds' := []) (tx := tx) (ty := ty) hM he hsz hby hz0 hzl (run_firstCells_none w.drew size 0 0 0) .nil (by simp) hsrc hnR (by omega) (by simpa using hfit)
        obtain ⟨j', hj, hM', hG⟩ := alloc_R (w' := w') (room := some (cap' * size)) hM hob hnR (by simpa using hheap) hstr (.inl rfl) (.inr ⟨0, rfl, by rw [← hlen]; simp⟩)
        refine ⟨_, w', j', hrun, ?_, hM', hG⟩
        rw [Nat.zero_add]
        exact .slice hj ⟨by omega, by simp⟩ (Nat.le_refl _)
      · cases h
  · rename_i b g o z sLen sCap
    split at h
    · cases h
    rename_i hzs
    have hzs : z = size := by
      by_cases hh : z = size
      · exact hh
      · exact absurd hh hzs
    subst hzs
    cases hs with | slice hL hc hl => ?_
    rename_i cap' L
    have hroom : ∀ m2, m.stores b g (o + sLen * z) new = some m2 → sLen + n ≤ cap' → ∃ w', (Builtin.append_ #[sT, tx] ty #[.slice (some ⟨L.c, L.s + o, none⟩) sLen cap', x']).run P w = .ok (.slice (some ⟨L.c, L.s + o, none⟩) (sLen + n) cap') w' ∧ MR P n0 w0 gs j m2 w' ∧ Grows j m w j m2 w' := by
      intro m2 hm2 hle
      obtain ⟨w', hst, hM', hG⟩ := stores_R hM hL hnR hm2
      refine ⟨w', ?_, hM', hG⟩
      have hst' : (storeCells (Addr.add ⟨L.c, L.s + o, none⟩ (sLen * z)) new').run P w = .ok () w' := by
        rw [add_at, Nat.add_assoc]; exact hst
      rcases hsrc.kind with ⟨e', hk⟩ | hk <;>
        simp [Builtin.append_, run_under he, run_under hk, sizeOf, typeInfo, hi, hsrc.len w, hisz, hsrc.cells, hle, hst']
    split at h
    · rename_i hfits
      have hle : sLen + n ≤ cap' := by
        have : sCap ≤ cap' := by
          unfold capR at hc
          split at hc
          · exact Nat.le_of_eq hc.symm
          · exact hc.1
        omega
      split at h
      · rename_i h0
        cases h
        subst h0
        have hnn : new' = [] := List.length_eq_zero_iff.1 (by rw [hnR.len, hnl]; simp)
        subst hnn
        refine ⟨.slice (some ⟨L.c, L.s + o, none⟩) sLen cap', w, j, ?_, .slice hL hc hl, hM, .refl _ _ _⟩
        have hst' : (storeCells (Addr.add ⟨L.c, L.s + o, none⟩ (sLen * z)) []).run P w = .ok () w := rfl
        have hle' : sLen ≤ cap' := by simpa using hle
        rcases hsrc.kind with ⟨e', hk⟩ | hk <;>
          simp [Builtin.append_, run_under he, run_under hk, sizeOf, typeInfo, hi, hsrc.len w, hisz, hsrc.cells, hle', hst']
      · obtain ⟨m2, hm2, h⟩ := Option.bind_eq_some_iff.1 h
        cases h
        obtain ⟨w', hrun, hM', hG⟩ := hroom _ hm2 hle
        exact ⟨_, w', j, hrun, .slice hL hc hfits, hM', hG⟩
    · rename_i hnofit
      split at h
      rotate_left
      · cases h
      rename_i hfit
      split at h
      · rename_i l hg hob
        split at h
        · rename_i hcnd
          obtain ⟨rfl, rfl, hll⟩ := hcnd
          obtain ⟨us, hus, h⟩ := Option.bind_eq_some_iff.1 h
          cases h
          have hnew := toU8_eq hus
          refine moved_R (ob := .u8 l (.vec g)) (olds := l.map V.u8) hM he hsz hby hz0 hzl hsrc hnR hnl hob rfl rfl hL hc hl (by omega) hfit ?_ (fun k => ?_) (fun _ _ _ _ => trivial)
          · simp only [Mem.cells?, hob, Mode.gen]
            rw [if_pos ⟨trivial, by omega⟩]
            simp [← hll]
          · simp only [Obj.at, List.getElem?_append, hll, hnew]
            split
            · simp
            · simp
        · cases h
      · rename_i l hg hob
        split at h
        · rename_i hcnd
          obtain ⟨rfl, rfl, hll, hfl⟩ := hcnd
          cases h
          refine moved_R (ob := .row l (.vec g)) (olds := l) hM he hsz hby hz0 hzl hsrc hnR hnl hob rfl rfl hL hc hl (by omega) hfit ?_ (fun k => ?_) (fun gd hgd hlt hu => ?_)
          · simp only [Mem.cells?, hob, Mode.gen]
            rw [if_pos ⟨trivial, by omega⟩]
            simp [← hll]
          · simp only [Obj.at, List.getElem?_append, hll]
          · have hfl : new.all V.flat = true := by
              rcases hfl with h | h
              · exact h
              · omega
            intro v hv
            rcases List.mem_append.1 hv with hv | hv
            · exact hu v hv
            · have := List.all_eq_true.1 hfl v hv
              unfold V.under
              rw [flat_ids this]
              simp
        · cases h
      · rename_i hnu hnr
        obtain ⟨old, hold, h1⟩ := Option.bind_eq_some_iff.1 h; clear h
        obtain ⟨ob, hob, h⟩ := Option.bind_eq_some_iff.1 h1; clear h1
        cases h
        obtain ⟨hol, obj, hbo, hgen, -⟩ := cells_at hold
        have hroomN : L.room = none := by
          have hO := hM.objs b obj L hbo (by rw [hgen]; exact hL)
          cases obj with
          | u8 l md =>
            cases md with
            | vec q => exact absurd hbo (hnu l q)
            | ro => exact hO.2.1
            | exact => exact hO.2.1
          | row l md =>
            cases md with
            | vec q => exact absurd hbo (hnr l q)
            | ro => exact hO.2.1
            | exact => exact hO.2.1
          | _ => simp [Mem.cells?, hbo] at hold
        rw [hroomN] at hc
        have hc : cap' = sCap := hc
        subst hc
        obtain ⟨olds', hol', hoR, hoc⟩ := hM.cells hL hold
        have hold' : (Builtin.firstCells z sLen (.slice (some ⟨L.c, L.s + o, none⟩) sLen cap')).run P w.drew = .ok olds'.toArray w.drew :=
          run_firstCells_some w.drew z sLen ⟨L.c, L.s + o, none⟩ sLen cap' olds' hol' (by simpa using hoc)
        obtain ⟨cap2, extra, w', hrun, hheap, hcap2, hlen, hstr⟩ := grow_R (tx := tx) (ty := ty) hM he hsz hby hz0 hzl hold' hoR hol hsrc hnR (by omega) hfit
        obtain ⟨j', hj, hM', hG⟩ := alloc_R (w' := w') (room := some (cap2 * z)) hM hob (hoR.append hnR) hheap hstr (.inl rfl) (.inr ⟨0, rfl, by rw [hlen]⟩)
        exact ⟨_, w', j', hrun, .slice hj ⟨hcap2, by simp⟩ (Nat.le_refl _), hM', hG⟩
  · cases h
end
end Go.Ig
