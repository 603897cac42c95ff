/-
  Maps, the other builtins, the library's functions without a body.
-/
import Derived.Test.YtcnjllnnhcafbaaDoorIgEff3
import Derived.MapKept
import GoSem.Extern.Table
set_option linter.unusedVariables false
namespace Go.Ig
open Go

section
variable {P : Program} {j : J} {w : World} {n0 : Nat} {w0 : World} {gs : List Nat} {m : Mem}

theorem run_getO {r : Nat} {es : Array MapEntry} {c : Nat} (h : w.heap[r]? = some (.map es c)) : (getObj r).run P w = .ok (.map es c) w := by simp [getObj, Sem.run, h]
theorem run_setO {r : Nat} {es : Array MapEntry} {c : Nat} (o : Go.Obj) (h : w.heap[r]? = some (.map es c)) : (setObj r o).run P w = .ok () { w with heap := w.heap.setIfInBounds r o } := by simp [setObj, Sem.run, h]
theorem cells_ids {v : V} (h : v.cells.all V.flat = true) : v.ids = [] := by
  have key : ∀ l : List V, l.all V.flat = true → V.idss l = [] := by
    intro l
    induction l with
    | nil => intro _; rfl
    | cons a l ih =>
      intro h
      simp only [List.all_cons, Bool.and_eq_true] at h
      simp [V.idss, flat_ids h.1, ih h.2]
  cases v with
  | agg cs => exact key cs h
  | _ => exact flat_ids (by simpa [V.cells] using h)

theorem EsR.snoc {es : List (V × V × Nat)} {es' : List MapEntry} (h : EsR j es es') {k v : V} {k' v' : Value} (n : Nat) (hk : VR j k k') (hv : VR j v v') : EsR j (es ++ [(k, v, n)]) (es' ++ [⟨k', v', n⟩]) := by
  induction h with
  | nil => exact .cons hk hv .nil
  | cons a b _ ih => exact .cons a b ih
theorem EsR.mod {es : List (V × V × Nat)} {es' : List MapEntry} (h : EsR j es es') {k v : V} {k' v' : Value} (hk : VR j k k') (hv : VR j v v') : ∀ i, EsR j (es.modify i fun e => (k, v, e.2.2)) (es'.modify i fun e => { e with key := k', val := v' }) := by
  induction h with
  | nil => intro i; cases i <;> exact .nil
  | cons a b hr ih =>
    intro i
    cases i with
    | zero => exact .cons hk hv hr
    | succ i => exact .cons a b (ih i)
theorem EsR.at {es : List (V × V × Nat)} {es' : List MapEntry} (h : EsR j es es') : ∀ {i : Nat} {e : V × V × Nat}, es[i]? = some e → ∃ e' : MapEntry, es'[i]? = some e' ∧ VR j e.1 e'.key := by
  induction h with
  | nil => intro i e h; simp at h
  | cons a b hr ih =>
    intro i e h
    cases i with
    | zero => simp at h; subst h; exact ⟨_, rfl, a⟩
    | succ i => simpa using ih (by simpa using h)
theorem findK_at {kd : TypeDesc} {k : V} : ∀ {es : List (V × V × Nat)} {i q : Nat} {v : V}, findK kd k es i = some (some (q, v)) → ∃ e, i ≤ q ∧ es[q - i]? = some e ∧ keyIs kd k e.1 = some true
  | [], i, q, v, h => by simp [findK] at h
  | e :: es, i, q, v, h => by
    simp only [findK] at h
    split at h
    · rename_i hk
      cases h
      exact ⟨e, Nat.le_refl _, by simp, hk⟩
    · obtain ⟨e2, h1, h2, h3⟩ := findK_at h
      refine ⟨e2, by omega, ?_, h3⟩
      rw [show q - i = (q - (i + 1)) + 1 from by omega]
      simpa using h2
    · cases h
theorem beq_self (s : ByteArray) : (s == s) = true := by rw [beq_toListBytes]; exact beq_self_eq_true _
theorem sameBits_R {kd : TypeDesc} {k e : V} {k' e' : Value} {n : Nat} (hk : VR j k k') (he : VR j e e') (h : keyIs kd k e = some true) : Instr.sameBits (n + 1) e' k' = true := by
  unfold keyIs at h
  split at h
  · split at h
    · rename_i hkk
      cases hk; cases he
      subst hkk
      simp only [Option.some.injEq, beq_iff_eq] at h
      simp [Instr.sameBits, h]
    · cases h
  · generalize hx : V.str _ = x at hk
    generalize hy : V.str _ = y at he
    cases hk <;> cases hx
    cases he <;> cases hy
    simp only [Option.some.injEq, beq_iff_eq] at h
    rename_i s1 s2 
    have : s1 = s2 := by
      cases s1; cases s2
      congr 1
      exact Array.toList_inj.1 h
    subst this
    simp only [Instr.sameBits]
    exact beq_self s1
  · cases hk; cases he
    simp only [Option.some.injEq, beq_iff_eq] at h
    simp [Instr.sameBits, h]
  · cases h

theorem setMap_R (hM : MR P n0 w0 gs j m w) {r : Nat} {es es2 : List (V × V × Nat)} {c c2 : Nat} {L : Loc} {es2' : List MapEntry} (hob : m.objs[r]? = some (.map es c)) (hL : j r 0 = some L) (hR : EsR j es2 es2') (hlow : ∀ gd, gd ≤ m.guard → r < gd → (Obj.map es c).under gd → (Obj.map es2 c2).under gd) :
    ∃ w', (setObj L.c (.map ⟨es2'⟩ c2)).run P w = .ok () w' ∧ MR P n0 w0 gs j (m.setObj r (.map es2 c2)) w' ∧ Grows j m w j (m.setObj r (.map es2 c2)) w' := by
  obtain ⟨hn, es', hheap, -⟩ := hM.objs r _ L hob hL
  have hlt : L.c < w.heap.size := (hM.dom _ _ _ hL).2
  refine ⟨_, run_setO _ hheap, ?_⟩
  have hj := J.new_id (g := 0) (i := r) (L := L) (j := j) hL
  have := hM.write (ob' := .map es2 c2) (w' := { w with heap := w.heap.setIfInBounds L.c (.map ⟨es2'⟩ c2) }) (L' := L) hob hL rfl (.inl ⟨rfl, rfl⟩) (.inl ⟨rfl, by simp⟩) (fun c _ hne => by simp [Array.getElem?_setIfInBounds_ne hne.symm]) ⟨rfl, rfl, rfl⟩
    (by
      show ObjR (j.new r 0 L) n0 _ L (.map es2 c2)
      rw [hj]
      exact ⟨hn, es2', by simp [hlt], hR⟩) (fun gd hgd hl => hlow gd (hM.low gd hgd).1 hl ((hM.low gd hgd).2 r _ L hl hob hL))
  rw [show (Obj.map es2 c2).gen = 0 from rfl, hj] at this
  exact this

theorem mapSet_R (hM : MR P n0 w0 gs j m w) {t : TypeId} {x k v : V} {x' k' v' : Value} {m' : Mem} (hx : VR j x x') (hk : VR j k k') (hv : VR j v v') (h : mapSetV P m t x k v = some m') :
    ∃ w', (Instr.mapUpdate t x' k' v').run P w = .ok () w' ∧ MR P n0 w0 gs j m' w' ∧ Grows j m w j m' w' := by
  unfold mapSetV at h
  split at h
  · rename_i kt et r hd
    cases hx with | map hL => ?_
    rename_i L
    obtain ⟨kd, hkd, h1⟩ := Option.bind_eq_some_iff.1 h; clear h
    split at h1
    · rename_i hc
      obtain ⟨hkD, hkn, hkf, hvf⟩ := hc
      split at h1
      · rename_i es c hob
        obtain ⟨q, hq, h2⟩ := Option.bind_eq_some_iff.1 h1; clear h1
        obtain ⟨hn, es', hheap, hR⟩ := hM.objs r _ L hob hL
        have hunder : ∀ gd, gd ≤ m.guard → r < gd → k.under gd ∧ v.under gd := by
          intro gd hgd hlt
          refine ⟨fun b hb => ?_, fun b hb => ?_⟩
          · rw [flat_ids hkf] at hb; cases hb
          · rcases hvf with hvf | hvf
            · rw [cells_ids hvf] at hb; cases hb
            · omega
        have hck := run_checkKey (P := P) (w := w) (b := false) (n := 9999) (k' := k') hkd hkD
        split at h2
        · rename_i i ov
          cases h2
          obtain ⟨e, -, hei, hke⟩ := findK_at hq
          obtain ⟨e', he', hek⟩ := hR.at (by simpa using hei)
          have hfind : Instr.findNow kd k' es' 0 = some (some (i, e'.val)) ∨ ∃ u, Instr.findNow kd k' es' 0 = some (some (i, u)) := by
            rcases find_R hk 0 hR hq with ⟨h0, -⟩ | ⟨a, b, b', h0, h1, -⟩
            · cases h0
            · cases h0; exact .inr ⟨_, h1⟩
          have hfind : ∃ u, Instr.findNow kd k' es' 0 = some (some (i, u)) := by
            rcases hfind with h | h
            · exact ⟨_, h⟩
            · exact h
          obtain ⟨u, hu⟩ := hfind
          obtain ⟨w', hset, hM', hG⟩ := setMap_R (c2 := c) hM hob hL (hR.mod hk hv i) (fun gd hgd hlt hun => by
            intro e he
            obtain ⟨p, hp⟩ := List.getElem?_of_mem he
            rw [List.getElem?_modify] at hp
            cases hep : es[p]? with
            | none => rw [hep] at hp; cases hp
            | some e0 =>
              rw [hep] at hp
              by_cases hip : i = p
              · simp [hip] at hp
                subst hp
                exact ⟨(hunder gd hgd hlt).1, (hunder gd hgd hlt).2⟩
              · simp [hip] at hp
                subst hp
                exact hun e0 (List.mem_of_getElem? hep))
          refine ⟨w', ?_, hM', hG⟩
          have hkey : (Instr.keyThatStays (((es'.toArray[i]?).map (·.key)).getD k') k').run P w = .ok k' w := by
            unfold Instr.keyThatStays
            have : ((es'.toArray[i]?).map (·.key)).getD k' = e'.key := by simp [he']
            rw [this, if_pos (sameBits_R (n := 9999) hk hek hke)]
            rfl
          unfold Instr.mapUpdate
          simp only [Sem.run_bind, run_under hd, Result.andThen_ok, run_getO hheap, hck, run_findKey hkd hu]
          have hkey' : (Instr.keyThatStays ((((⟨es'⟩ : Array MapEntry)[i]?).map (·.key)).getD k') k').run P w = .ok k' w := hkey
          rw [hkey']
          simp only [Result.andThen_ok]
          have harr : ((⟨es'⟩ : Array MapEntry).modify i fun e => { e with key := k', val := v' }) = ⟨es'.modify i fun e => { e with key := k', val := v' }⟩ := by
            apply Array.ext'
            simp
          rw [harr]
          exact hset
        · cases h2
          have hfind : Instr.findNow kd k' es' 0 = some none := by
            rcases find_R hk 0 hR hq with ⟨-, h1⟩ | ⟨a, b, b', h0, -⟩
            · exact h1
            · cases h0
          obtain ⟨w', hset, hM', hG⟩ := setMap_R (c2 := c + 1) hM hob hL (hR.snoc c hk hv) (fun gd hgd hlt hun => by
            intro e he
            rcases List.mem_append.1 he with he | he
            · exact hun e he
            · simp at he
              subst he
              exact hunder gd hgd hlt)
          refine ⟨w', ?_, hM', hG⟩
          unfold Instr.mapUpdate
          simp only [Sem.run_bind, run_under hd, Result.andThen_ok, run_getO hheap, hck, run_findKey hkd hfind]
          have harr : ((⟨es'⟩ : Array MapEntry).push ⟨k', v', c⟩) = ⟨es' ++ [⟨k', v', c⟩]⟩ := by
            apply Array.ext'
            simp
          rw [harr]
          exact hset
      · cases h1
    · cases h1
  · cases h
end
end Go.Ig
