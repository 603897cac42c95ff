/-
  The operations that make and write no memory, third part: aggregates that are built, equality, conversions, the rest; and all of them together.
-/
import Derived.Test.YtcnjllnnhcafbaaDoorIgPure2
namespace Go.Ig
open Go

section
variable {P : Program} {j : J} {w : World} {n0 : Nat} {w0 : World} {gs : List Nat} {m : Mem}

/-! ### aggregates that are built -/
theorem fold_sets (off : Nat) : ∀ (us : List Value) (i : Nat) (cells : Array Value), off + i + us.length ≤ cells.size →
    ((us.zipIdx i).foldl (fun (cs : Array Value) p => cs.setIfInBounds (off + p.2) p.1) cells).toList = cells.toList.take (off + i) ++ us ++ cells.toList.drop (off + i + us.length)
  | [], i, cells, h => by simp
  | u :: us, i, cells, h => by
    simp only [List.zipIdx_cons, List.foldl_cons]
    rw [fold_sets off us (i + 1) _ (by simp at h ⊢; omega)]
    have hlt : off + i < cells.toList.length := by simp at h ⊢; omega
    simp only [Array.toList_setIfInBounds, List.length_cons]
    rw [show off + (i + 1) = off + i + 1 from rfl, List.take_succ_eq_append_getElem (by simpa using hlt)]
    simp only [List.getElem_set_self, List.take_set_of_le (Nat.le_refl _), List.append_assoc, List.singleton_append]
    rw [List.drop_set_of_lt (by omega)]
    congr 2
    rw [show off + i + 1 + us.length = off + i + (us.length + 1) from by omega]

theorem VR.cells_R {v : V} {v' : Value} (h : VR j v v') (hk : v.known = true) : VRs j v.cells v'.cells.toList := by
  cases h <;> simp [V.known] at hk
  all_goals first
    | (rename_i hcs; exact hcs)
    | exact .cons (by constructor <;> assumption) .nil

theorem fill_R {place : Nat → Option (Nat × Nat)} : ∀ {parts : List (Nat × V)} {parts' : List (Nat × Value)} {cells : List V} {cells' : Array Value} {r : List V}, PartsR j parts parts' → VRs j cells cells'.toList →
    fillV place cells parts = some r → ∃ r', Instr.fill place cells' parts' = some r' ∧ VRs j r r'.toList
  | [], _, cells, cells', r, .nil, hc, h => by
    simp only [fillV] at h; cases h
    exact ⟨cells', rfl, hc⟩
  | (i, v) :: rest, _, cells, cells', r, .cons (v' := v') (r' := rest') hv hr, hc, h => by
    simp only [fillV] at h
    cases hp : place i with
    | none => rw [hp] at h; cases h
    | some os =>
      obtain ⟨off, size⟩ := os
      simp only [hp] at h
      split at h
      · rename_i hcond
        obtain ⟨hk, hsz, hfit⟩ := hcond
        have hcs := hv.cells_R hk
        have e1 : v'.cells.size = size := by rw [← hsz, ← hcs.len]; simp
        have e2 : cells'.size = cells.length := by rw [← hc.len]; simp
        have e3 := fold_sets off v'.cells.toList 0 cells' (by simp; omega)
        have e4 : (v'.cells.zipIdx.foldl (fun (cs : Array Value) p => cs.setIfInBounds (off + p.2) p.1) cells').toList = splice cells'.toList off v'.cells.toList := by
          rw [← Array.foldl_toList, Array.toList_zipIdx, e3]
          simp [splice]
        have hsp : VRs j (splice cells off v.cells) (splice cells'.toList off v'.cells.toList) := by
          unfold splice
          rw [hcs.len]
          exact ((hc.take off).append hcs).append (hc.drop _)
        rw [← e4] at hsp
        obtain ⟨r', hr', hrr⟩ := fill_R hr hsp h
        refine ⟨r', ?_, hrr⟩
        simp only [Instr.fill, hp]
        rw [if_neg (by simp; omega)]
        exact hr'
      · cases h

theorem ofConst_any : ∀ {v' : Value}, ofConst v' ≠ some .any
  | .bool b, h => by simp [ofConst] at h
  | .int k x, h => by
    cases k
    case u8 => simp only [ofConst] at h; split at h <;> cases h
    all_goals simp [ofConst] at h
  | .float .., h => by simp [ofConst] at h
  | .complex .., h => by simp [ofConst] at h
  | .string s, h => by simp [ofConst] at h
  | .pointer none, h => by simp [ofConst] at h
  | .pointer (some _), h => by simp [ofConst] at h
  | .slice none 0 0, h => by simp [ofConst] at h
  | .slice none 0 (_ + 1), h => by simp [ofConst] at h
  | .slice none (_ + 1) _, h => by simp [ofConst] at h
  | .slice (some _) _ _, h => by simp [ofConst] at h
  | .map none, h => by simp [ofConst] at h
  | .map (some _), h => by simp [ofConst] at h
  | .chan _, h => by simp [ofConst] at h
  | .func .., h => by simp [ofConst] at h
  | .nilFunc, h => by simp [ofConst] at h
  | .nilIface, h => by simp [ofConst] at h
  | .agg ⟨cs⟩, h => by simp [ofConst] at h
  | .tuple ⟨cs⟩, h => by simp [ofConst] at h
  | .iface t x, h => by simp [ofConst] at h
theorem zero_R {t : TypeId} {z : V} (h : zeroOf P t = some z) : ∃ i z', P.info? t = some i ∧ i.zero = some z' ∧ VR j z z' ∧ z.known = true := by
  unfold zeroOf at h
  cases hi : P.info? t with
  | none => rw [hi] at h; cases h
  | some i =>
    rw [hi, Option.bind_some] at h
    cases hz : i.zero with
    | none => rw [hz] at h; cases h
    | some z' =>
      rw [hz, Option.bind_some] at h
      have hr := ofConst_R (j := j) h
      exact ⟨i, z', rfl, hz, hr, by cases z <;> first | rfl | exact absurd h ofConst_any⟩

theorem build_R {t : TypeId} {parts : List (Nat × V)} {parts' : List (Nat × Value)} {v : V} (hp : PartsR j parts parts') (h : buildV P t parts = some v) :
    ∃ v', (Instr.build t parts'.toArray).run P w = .ok v' w ∧ VR j v v' := by
  unfold buildV at h
  cases hz : zeroOf P t with
  | none => simp [hz] at h
  | some z =>
    obtain ⟨i, z', hi, hz', hr, hk⟩ := zero_R (j := j) hz
    have hzr : (zeroValue t).run P w = .ok z' w := by simp [zeroValue, typeInfo, hi, hz']
    cases hd : P.underlying t with
    | none => simp [hz, hd] at h
    | some d =>
      simp only [hz, hd] at h
      cases d <;> (try simp only at h) <;> try cases h
      case array n e =>
        cases hs : szO P e with
        | none => rw [hs] at h; cases h
        | some size =>
          rw [hs, Option.bind_some] at h
          cases hf : fillV (fun i => some (i * size, size)) z.cells parts with
          | none => rw [hf] at h; cases h
          | some r =>
            rw [hf] at h; cases h
            obtain ⟨r', hr', hrr⟩ := fill_R hp (hr.cells_R hk) hf
            refine ⟨.agg r', ?_, .agg hrr⟩
            simp only [Instr.build, Sem.run_bind, hzr, Result.andThen_ok, run_under hd, run_szO hs, hr', Sem.run_pure]
      case struct fs =>
        split at h
        · rename_i hall
          cases hf : fillV (fun i => (fs[i]?).map fun f => (f.offset, P.cellsOf f.type)) z.cells parts with
          | none => rw [hf] at h; cases h
          | some r =>
            rw [hf] at h; cases h
            obtain ⟨r', hr', hrr⟩ := fill_R hp (hr.cells_R hk) hf
            refine ⟨.agg r', ?_, .agg hrr⟩
            have hall' : ∀ f ∈ fs.toList, (szO P f.type).isSome = true := by
              intro f hf
              exact Array.all_eq_true_iff_forall_mem.1 hall f (by simpa using hf)
            have hpl : (fs.mapM fun f => do pure (f.offset, ← sizeOf f.type) : Sem (Array (Nat × Nat))).run P w = .ok (fs.map fun f => (f.offset, P.cellsOf f.type)) w := by
              have key : ∀ l : List Field, (∀ f ∈ l, (szO P f.type).isSome = true) → (l.mapM fun f => do pure (f.offset, ← sizeOf f.type) : Sem (List (Nat × Nat))).run P w = .ok (l.map fun f => (f.offset, P.cellsOf f.type)) w := by
                intro l
                induction l with
                | nil => intro _; simp
                | cons f l ih =>
                  intro hl
                  obtain ⟨n, hn⟩ := Option.isSome_iff_exists.1 (hl f (by simp))
                  obtain ⟨i2, hi2, rfl⟩ := szO_eq hn
                  have := ih fun g hg => hl g (by simp [hg])
                  simp only [List.mapM_cons, Sem.run_bind, run_szO hn, Result.andThen_ok, Sem.run_pure, this, List.map_cons, Program.cellsOf, hi2, Option.map_some, Option.getD_some]
              rw [Array.mapM_eq_mapM_toList, Sem.run_map, key _ hall']
              simp only [Result.andThen_ok]
              rw [← Array.toList_map, Array.toArray_toList]
            have hrr' : Instr.fill ((fs.map fun f => (f.offset, P.cellsOf f.type))[·]?) z'.cells parts' = some r' := by
              rw [← hr']
              congr 1
              funext i
              simp
            simp only [Instr.build, Sem.run_bind, hzr, Result.andThen_ok, run_under hd, hpl, hrr', Sem.run_pure]
        · cases h

/-! ### equality -/
set_option maxHeartbeats 4000000
theorem bytes_toList (s : ByteArray) : s.toList = s.data.toList := ByteArray.toList_eq s
mutual
theorem eqIn_R : ∀ (d : Nat) {t : TypeId} {x y : V} {x' y' : Value} {r : Bool} {D : Nat}, VR j x x' → VR j y y' → d ≤ D → eqIn P d t x y = some r → (Op.equalIn D t x' y').run P w = .ok r w
  | 0, _, _, _, _, _, _, _, _, _, _, h => by simp [eqIn] at h
  | d + 1, t, x, y, x', y', r, 0, hx, hy, hD, h => by omega
  | d + 1, t, x, y, x', y', r, D + 1, hx, hy, hD, h => by
    unfold eqIn at h
    cases hu : P.underlying t with
    | none => simp [hu] at h
    | some u =>
      simp only [hu] at h
      cases u <;> (try simp only at h) <;> try cases h
      case struct fs =>
        cases hx <;> (try simp only at h) <;> try cases h
        cases hy <;> (try simp only at h) <;> try cases h
        rename_i xs xs' hxs ys ys' hys
        split at h
        · cases h
        · rename_i hst
          have hfs : P.fieldsOf t = fs := by simp [Program.fieldsOf, hu]
          rw [run_equalIn_struct w D t _ _ (by rw [hu, hfs]) (by simpa using hst), hfs]
          exact eqFields_R d hxs hys (by omega) h
      all_goals
        cases hx <;> (try simp only at h) <;> (try cases h)
        all_goals (cases hy <;> (try simp only at h) <;> (try cases h))
      all_goals first
        | (simp only [Op.equalIn, Sem.run_bind, run_under hu, Result.andThen_ok, Sem.run_pure]; done)
        | (simp only [Op.equalIn, Sem.run_bind, run_under hu, Result.andThen_ok, Sem.run_pure, Option.isNone_none, Option.isNone_some]; done)
        | (simp only [Op.equalIn, Sem.run_bind, run_under hu, Result.andThen_ok, Sem.run_pure, if_true]; done)
        | (split at h <;> first | (cases h; rename_i hk; subst hk; exact run_equalIn_int w D t _ _ _ _ hu) | cases h)
        | (rw [run_equalIn_string w D t _ _ hu, bytes_toList, bytes_toList])
theorem eqFields_R : ∀ (d : Nat) {fs : List Field} {xs ys : List V} {xs' ys' : List Value} {r : Bool} {D : Nat}, VRs j xs xs' → VRs j ys ys' → d ≤ D → eqFields P d fs xs ys = some r → (Op.eqFields D ⟨xs'⟩ ⟨ys'⟩ fs).run P w = .ok r w
  | _, [], xs, ys, xs', ys', r, D, hx, hy, hD, h => by
    simp only [eqFields] at h; cases h
    simp [Op.eqFields]
  | 0, _ :: _, _, _, _, _, _, _, _, _, _, h => by simp [eqFields] at h
  | d + 1, f :: fs, xs, ys, xs', ys', r, D, hx, hy, hD, h => by
    unfold eqFields at h
    simp only [Op.eqFields]
    split at h
    · rename_i hn
      rw [if_pos hn]
      cases hp : partOf P f.type xs f.offset with
      | none => simp [hp] at h
      | some a =>
        cases hq : partOf P f.type ys f.offset with
        | none => simp [hp, hq] at h
        | some b =>
          simp only [hp, hq] at h
          obtain ⟨a', ha, har⟩ := part_R (w := w) hx hp
          obtain ⟨b', hb, hbr⟩ := part_R (w := w) hy hq
          cases he : eqIn P d f.type a b with
          | none => rw [he] at h; cases h
          | some q =>
            have := eqIn_R d (D := D) har hbr (by omega) he
            simp only [he] at h
            simp only [Sem.run_bind, ha, hb, this, Result.andThen_ok]
            cases q with
            | true => simp only at h; simp only [Bool.not_true, Bool.false_eq_true, if_false]; exact eqFields_R d hx hy (by omega) h
            | false => simp only at h; cases h; simp
    · rename_i hn
      rw [if_neg hn]
      exact eqFields_R d hx hy (by omega) h
end

end
end Go.Ig
