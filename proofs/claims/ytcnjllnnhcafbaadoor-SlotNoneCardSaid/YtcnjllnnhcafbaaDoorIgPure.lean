/-
  The operations that make and write no memory: what the evaluator tells of them, the model does.
-/
import Derived.Test.YtcnjllnnhcafbaaDoorIgRel
namespace Go.Ig
open Go

section
variable {P : Program} {j : J} {w : World}

theorem intBin_R {op : BinOp} {k : IntKind} {x y : Int} {v : V} (t : TypeId) (hs : op ≠ .shl ∧ op ≠ .shr) (hx : k = .u8 → 0 ≤ x ∧ x < 256) (h : intBin op k x y = some v) :
    ∃ v', (Go.binOp op t (.int k x) (.int k y)).run P w = .ok v' w ∧ VR j v v' := by
  cases op <;> simp [intBin] at h hs
  case add => subst h; exact ⟨_, by simp [Go.binOp, Op.intArith], .wrapped _ _⟩
  case sub => subst h; exact ⟨_, by simp [Go.binOp, Op.intArith], .wrapped _ _⟩
  case mul => subst h; exact ⟨_, by simp [Go.binOp, Op.intArith], .wrapped _ _⟩
  case quo => obtain ⟨hy, rfl⟩ := h; exact ⟨_, by simp [Go.binOp, Op.intDiv, hy], .wrapped _ _⟩
  case rem =>
    obtain ⟨hy, rfl⟩ := h
    refine ⟨_, by simp [Go.binOp, Op.intDiv, hy], .mkInt fun hk => ?_⟩
    have := hx hk
    obtain ⟨n, rfl⟩ := Int.eq_ofNat_of_zero_le this.1
    have h1 := Int.tmod_nonneg y this.1
    have h2 : ((n : Int).tmod y).natAbs ≤ n := by rw [Int.natAbs_tmod]; exact Nat.mod_le _ _
    omega
  case and => subst h; exact ⟨_, by simp [Go.binOp, Op.intBits], .wrapped _ _⟩
  case or => subst h; exact ⟨_, by simp [Go.binOp, Op.intBits], .wrapped _ _⟩
  case xor => subst h; exact ⟨_, by simp [Go.binOp, Op.intBits], .wrapped _ _⟩
  case andNot => subst h; exact ⟨_, by simp [Go.binOp, Op.intBits], .wrapped _ _⟩
  all_goals subst h; exact ⟨_, by simp [Go.binOp, Op.intCmp], .bool _⟩

theorem shift_R {op : BinOp} {k k' : IntKind} {x y : Int} {v : V} (t : TypeId) (hs : op = .shl ∨ op = .shr) (hx : k = .u8 → 0 ≤ x ∧ x < 256) (h : shiftBin op k x y = some v) :
    ∃ v', (Go.binOp op t (.int k x) (.int k' y)).run P w = .ok v' w ∧ VR j v v' := by
  rcases hs with rfl | rfl <;> simp only [shiftBin] at h <;> split at h <;> try cases h
  · rename_i hy
    exact ⟨_, by simp [Go.binOp, Op.shift, hy], .wrapped _ _⟩
  · rename_i hy
    refine ⟨_, by simp [Go.binOp, Op.shift, hy], .mkInt fun hk => ?_⟩
    have := hx hk
    have hp : (0 : Int) < 2 ^ min y.toNat k.bits := Int.pow_pos (by decide)
    rw [Int.fdiv_eq_ediv_of_nonneg _ (Int.le_of_lt hp)]
    exact ⟨Int.ediv_nonneg this.1 (Int.le_of_lt hp), Int.lt_of_le_of_lt (Int.ediv_le_self _ this.1) this.2⟩

/-- What a type's number leads to, as the model's 'underlying' tells it. -/
theorem run_under {t : TypeId} {d : TypeDesc} (h : P.underlying t = some d) : (Go.underlying t).run P w = .ok d w := by
  simp [Go.underlying, h]
theorem run_sizeOf {t : TypeId} {i : TypeInfo} (h : P.info? t = some i) : (sizeOf t).run P w = .ok i.size w := by
  simp [sizeOf, typeInfo, h]
theorem cellsOf_eq {t : TypeId} {i : TypeInfo} (h : P.info? t = some i) : P.cellsOf t = i.size := by simp [Program.cellsOf, h]
theorem szO_eq {t : TypeId} {n : Nat} (h : szO P t = some n) : ∃ i, P.info? t = some i ∧ i.size = n := by
  unfold szO at h
  cases hi : P.info? t with
  | none => rw [hi] at h; cases h
  | some i => rw [hi] at h; cases h; exact ⟨i, rfl, rfl⟩
theorem run_szO {t : TypeId} {n : Nat} (h : szO P t = some n) : (sizeOf t).run P w = .ok n w := by
  obtain ⟨i, hi, rfl⟩ := szO_eq h
  exact run_sizeOf hi
theorem run_aggO {t : TypeId} {b : Bool} (h : aggO P t = some b) : (isAgg t).run P w = .ok b w := by
  unfold aggO at h
  cases hd : P.underlying t with
  | none => rw [hd] at h; cases h
  | some d =>
    rw [hd] at h; cases h
    simp only [isAgg, Sem.run_bind, run_under hd, Result.andThen_ok]
    cases d <;> simp [aggD]

/-! ### what an address leads to -/
theorem add_at (c o n : Nat) : (⟨c, o, none⟩ : Addr).add n = ⟨c, o + n, none⟩ := by
  unfold Addr.add
  split
  · subst_vars; rfl
  · rfl

variable {n0 : Nat} {w0 : World} {gs : List Nat} {m : Mem}

theorem Obj.at_row {o : Obj} {k : Nat} {v : V} (h : o.at k = some v) : ∃ md, o.mode = some md := by
  cases o <;> simp [Obj.at] at h
  · exact ⟨_, rfl⟩
  · exact ⟨_, rfl⟩
theorem ObjR.cell {L : Loc} {o : Obj} (h : ObjR j n0 w L o) {k : Nat} {v : V} (hv : o.at k = some v) : ∃ v', w.cell? ⟨L.c, L.s + k, none⟩ = some v' ∧ VR j v v' := by
  cases o <;> simp [Obj.at] at hv
  · obtain ⟨b, hb, rfl⟩ := hv
    exact ⟨_, h.1 k b hb, .u8 b⟩
  · exact h.1 k v hv
theorem cell_at {b g o : Nat} {v : V} (h : m.cell? b g o = some v) : ∃ ob, m.objs[b]? = some ob ∧ ob.gen = g ∧ ob.at o = some v := by
  unfold Mem.cell? at h
  split at h
  · rename_i l md hl
    split at h
    · rename_i hg
      exact ⟨.u8 l md, hl, hg, h⟩
    · cases h
  · rename_i l md hl
    split at h
    · rename_i hg
      exact ⟨.row l md, hl, hg, h⟩
    · cases h
  · cases h
theorem cells_at {b g o n : Nat} {vs : List V} (h : m.cells? b g o n = some vs) : vs.length = n ∧ ∃ ob, m.objs[b]? = some ob ∧ ob.gen = g ∧ ∀ k v, vs[k]? = some v → ob.at (o + k) = some v := by
  unfold Mem.cells? at h
  split at h
  · split at h
    · rename_i l md hl hc
      cases h
      refine ⟨by simp; omega, _, hl, hc.1, fun k v hk => ?_⟩
      simp only [List.getElem?_map, List.getElem?_take, List.getElem?_drop] at hk
      simp only [Obj.at]
      split at hk
      · exact hk
      · cases hk
    · cases h
  · split at h
    · rename_i l md hl hc
      cases h
      refine ⟨by simp; omega, _, hl, hc.1, fun k v hk => ?_⟩
      simp only [List.getElem?_take, List.getElem?_drop] at hk
      simp only [Obj.at]
      split at hk
      · exact hk
      · cases hk
    · cases h
  · cases h
theorem MR.cell (hM : MR P n0 w0 gs j m w) {b g o : Nat} {v : V} {L : Loc} (hL : j b g = some L) (h : m.cell? b g o = some v) : ∃ v', w.cell? ⟨L.c, L.s + o, none⟩ = some v' ∧ VR j v v' := by
  obtain ⟨ob, hb, rfl, hv⟩ := cell_at h
  exact (hM.objs b ob L hb hL).cell hv
theorem MR.cells (hM : MR P n0 w0 gs j m w) {b g o n : Nat} {vs : List V} {L : Loc} (hL : j b g = some L) (h : m.cells? b g o n = some vs) :
    ∃ vs', vs'.length = n ∧ VRs j vs vs' ∧ ∀ k v', vs'[k]? = some v' → w.cell? ((⟨L.c, L.s + o, none⟩ : Addr).add k) = some v' := by
  obtain ⟨hlen, ob, hb, rfl, hv⟩ := cells_at h
  have key : ∀ (us : List V) (q : Nat), (∀ k v, us[k]? = some v → ob.at (q + k) = some v) → ∃ vs', VRs j us vs' ∧ ∀ k v', vs'[k]? = some v' → w.cell? ⟨L.c, L.s + (q + k), none⟩ = some v' := by
    intro us
    induction us with
    | nil => intro q _; exact ⟨[], .nil, fun k v' h => by simp at h⟩
    | cons u us ih =>
      intro q hq
      obtain ⟨u', hu', hru⟩ := (hM.objs b ob L hb hL).cell (hq 0 u rfl)
      obtain ⟨us', hus, hc⟩ := ih (q + 1) fun k v hk => by
        have := hq (k + 1) v (by simpa using hk)
        rw [show q + 1 + k = q + (k + 1) from by omega]
        exact this
      refine ⟨u' :: us', .cons hru hus, fun k v' hk => ?_⟩
      cases k with
      | zero => simp at hk; subst hk; exact hu'
      | succ k =>
        have := hc k v' (by simpa using hk)
        rw [show q + (k + 1) = q + 1 + k from by omega]
        exact this
  obtain ⟨vs', hr, hc⟩ := key vs o hv
  refine ⟨vs', by rw [hr.len, hlen], hr, fun k v' hk => ?_⟩
  rw [add_at, Nat.add_assoc]
  exact hc k v' hk

/-! ### operands -/
variable {env : List V} {a : Act}
theorem evO_R (hM : MR P n0 w0 gs j m w) (hE : VRs j env a.tmps.toList) {x : Operand} {v : V} (h : evO P env x = some v) : VR j v (a.eval x) := by
  cases x <;> simp only [evO] at h
  · obtain ⟨x', hx', hr⟩ := hE.get h
    simp only [Act.eval]
    rw [Array.getElem?_toList] at hx'
    simp [Array.getD_eq_getD_getElem?, hx']
    exact hr
  · exact ofConst_R h
  · split at h
    · rename_i g hg
      cases h
      have := VR.ptr (o := 0) (hM.glob g hg)
      simpa [Act.eval] using this
    · cases h
  · cases h
    exact .fn .nil .nil
theorem evOs_R (hM : MR P n0 w0 gs j m w) (hE : VRs j env a.tmps.toList) : ∀ {xs : List Operand} {vs : List V}, evOs P env xs = some vs → VRs j vs (xs.map a.eval)
  | [], vs, h => by simp [evOs] at h; subst h; exact .nil
  | x :: r, vs, h => by
    simp only [evOs] at h
    cases hx : evO P env x with
    | none => rw [hx] at h; simp at h
    | some v =>
      cases hr : evOs P env r with
      | none => rw [hx, hr] at h; simp at h
      | some us => rw [hx, hr] at h; simp at h; subst h; exact .cons (evO_R hM hE hx) (evOs_R hM hE hr)
inductive PartsR (j : J) : List (Nat × V) → List (Nat × Value) → Prop
  | nil : PartsR j [] []
  | cons {i : Nat} {v : V} {v' : Value} {r : List (Nat × V)} {r' : List (Nat × Value)} (h : VR j v v') (hr : PartsR j r r') : PartsR j ((i, v) :: r) ((i, v') :: r')
theorem evParts_R (hM : MR P n0 w0 gs j m w) (hE : VRs j env a.tmps.toList) : ∀ {xs : List (Nat × Operand)} {vs : List (Nat × V)}, evParts P env xs = some vs → PartsR j vs (xs.map fun p => (p.1, a.eval p.2))
  | [], vs, h => by simp [evParts] at h; subst h; exact .nil
  | (i, x) :: r, vs, h => by
    simp only [evParts] at h
    cases hx : evO P env x with
    | none => rw [hx] at h; simp at h
    | some v =>
      cases hr : evParts P env r with
      | none => rw [hx, hr] at h; simp at h
      | some us => rw [hx, hr] at h; simp at h; subst h; exact .cons (evO_R hM hE hx) (evParts_R hM hE hr)

/-! ### loads -/
theorem load_R (hM : MR P n0 w0 gs j m w) {t : TypeId} {av : V} {av' : Value} {v : V} (ha : VR j av av') (h : loadV P m t av = some v) :
    ∃ v', (Instr.loadAt t av').run P w = .ok v' w ∧ VR j v v' := by
  cases ha <;> simp only [loadV] at h <;> try cases h
  rename_i b g o L hL
  cases hag : aggO P t with
  | none => rw [hag] at h; cases h
  | some ag =>
    rw [hag, Option.bind_some] at h
    simp only [Instr.loadAt, Instr.sureAddr, Sem.run_bind, Sem.run_pure, Result.andThen_ok, loadVar, run_aggO hag, Sem.run_ite]
    cases ag with
    | true =>
      simp only [if_true] at h ⊢
      cases hn : szO P t with
      | none => rw [hn] at h; cases h
      | some n =>
        rw [hn, Option.bind_some] at h
        cases hc : m.cells? b g o n with
        | none => rw [hc] at h; cases h
        | some vs =>
          rw [hc] at h; cases h
          obtain ⟨vs', hlen, hr, hcell⟩ := hM.cells hL hc
          refine ⟨.agg ⟨vs'⟩, ?_, .agg hr⟩
          have := run_loadCells_list (P := P) (w := w) ⟨L.c, L.s + o, none⟩ vs' hcell
          rw [hlen] at this
          simp [run_szO hn, this]
    | false =>
      simp only [Bool.false_eq_true, if_false] at h ⊢
      obtain ⟨v', hv', hr⟩ := hM.cell hL h
      exact ⟨v', by simp [run_load, hv'], hr⟩

/-! ### parts -/
theorem part_R {t : TypeId} {cs : List V} {cs' : List Value} {off : Nat} {v : V} (hc : VRs j cs cs') (h : partOf P t cs off = some v) :
    ∃ v', (part t ⟨cs'⟩ off).run P w = .ok v' w ∧ VR j v v' := by
  unfold partOf at h
  cases hag : aggO P t with
  | none => rw [hag] at h; cases h
  | some ag =>
    rw [hag, Option.bind_some] at h
    simp only [part, Sem.run_bind, run_aggO hag, Result.andThen_ok, Sem.run_ite]
    cases ag with
    | true =>
      simp only [if_true] at h ⊢
      cases hn : szO P t with
      | none => rw [hn] at h; cases h
      | some n =>
        rw [hn, Option.bind_some] at h
        split at h
        · cases h
          refine ⟨.agg ⟨(cs'.drop off).take n⟩, ?_, .agg ((hc.drop off).take n)⟩
          simp [run_szO hn, List.extract_eq_take_drop]
        · cases h
    | false =>
      simp only [Bool.false_eq_true, if_false] at h ⊢
      obtain ⟨v', hv', hr⟩ := hc.get h
      exact ⟨v', by simp [hv'], hr⟩

theorem field_R {t : TypeId} {x : V} {x' : Value} {f : Nat} {v : V} (hx : VR j x x') (h : fieldV P t x f = some v) :
    ∃ v', (Instr.field t x' f).run P w = .ok v' w ∧ VR j v v' := by
  unfold fieldV fieldsOf at h
  cases hd : P.underlying t with
  | none => simp [hd] at h
  | some d =>
    simp only [hd] at h
    cases d <;> (try simp only at h) <;> try cases h
    rename_i fs
    cases hx <;> (try simp only at h) <;> try cases h
    rename_i cs cs' hcs
    cases hf : fs[f]? with
    | none => simp [hf] at h
    | some fl =>
      simp only [hf] at h
      obtain ⟨v', hv', hr⟩ := part_R (w := w) hcs h
      exact ⟨v', by simp [Instr.field, run_under hd, hf, asAgg, hv'], hr⟩
theorem fieldAddr_R {t : TypeId} {x : V} {x' : Value} {f : Nat} {v : V} (hx : VR j x x') (h : fieldAddrV P t x f = some v) :
    ∃ v', (Instr.fieldAt t x' f).run P w = .ok v' w ∧ VR j v v' := by
  unfold fieldAddrV fieldsOf at h
  cases hd : P.underlying t with
  | none => simp [hd] at h
  | some d =>
    simp only [hd] at h
    cases d <;> (try simp only at h) <;> try cases h
    rename_i fs
    cases hx <;> (try simp only at h) <;> try cases h
    rename_i b g o L hL
    cases hf : fs[f]? with
    | none => simp [hf] at h
    | some fl =>
      simp only [hf] at h
      cases hn : szO P fl.type with
      | none => rw [hn] at h; cases h
      | some n =>
        rw [hn, Option.bind_some] at h
        split at h
        · cases h
        · rename_i hn0
          cases h
          refine ⟨_, ?_, .ptr hL⟩
          simp [Instr.fieldAt, run_under hd, hf, Instr.sureAddr, fieldPlace, run_szO hn, hn0, add_at, Nat.add_assoc]
theorem indexAddr_R {t : TypeId} {x i : V} {x' i' : Value} {v : V} (hx : VR j x x') (hi : VR j i i') (h : indexAddrV P t x i = some v) :
    ∃ v', (Instr.indexAt t x' i').run P w = .ok v' w ∧ VR j v v' := by
  unfold indexAddrV at h
  cases hn : i.num with
  | none => simp [hn] at h
  | some kn =>
    obtain ⟨k, n⟩ := kn
    obtain rfl := hi.of_num hn
    simp only [hn] at h
    cases hd : P.underlying t with
    | none => simp [hd] at h
    | some d =>
      simp only [hd] at h
      cases d <;> (try simp only at h) <;> try cases h
      · rename_i e
        cases hx <;> (try simp only at h) <;> try cases h
        rename_i b g o z len cap cap' L hL hlen hc
        split at h
        · rename_i hr
          cases hs : szO P e with
          | none => rw [hs] at h; cases h
          | some size =>
            rw [hs, Option.bind_some] at h; cases h
            refine ⟨_, ?_, .ptr hL⟩
            simp [Instr.indexAt, asIntOf, run_under hd, hr, run_szO hs, add_at, Nat.add_assoc]
        · cases h
      · rename_i len e
        cases hx <;> (try simp only at h) <;> try cases h
        rename_i b g o L hL
        split at h
        · rename_i hr
          cases hs : szO P e with
          | none => rw [hs] at h; cases h
          | some size =>
            rw [hs, Option.bind_some] at h; cases h
            refine ⟨_, ?_, .ptr hL⟩
            simp [Instr.indexAt, asIntOf, run_under hd, hr, run_szO hs, add_at, Nat.add_assoc, Instr.sureAddr]
        · cases h
theorem index_R {t : TypeId} {x i : V} {x' i' : Value} {v : V} (hx : VR j x x') (hi : VR j i i') (h : indexV P t x i = some v) :
    ∃ v', (Instr.index t x' i').run P w = .ok v' w ∧ VR j v v' := by
  unfold indexV at h
  cases hn : i.num with
  | none => simp [hn] at h
  | some kn =>
    obtain ⟨k, n⟩ := kn
    obtain rfl := hi.of_num hn
    simp only [hn] at h
    cases hd : P.underlying t with
    | none => simp [hd] at h
    | some d =>
      simp only [hd] at h
      cases d <;> (try simp only at h) <;> try cases h
      · cases hx <;> (try simp only at h) <;> try cases h
        rename_i s
        split at h
        · rename_i hr
          cases hb : s.data.toList[n.toNat]? with
          | none => rw [hb] at h; cases h
          | some b =>
            rw [hb] at h; cases h
            refine ⟨_, ?_, .u8 b⟩
            have : s[n.toNat]? = some b := by
              rw [Array.getElem?_toList] at hb
              exact hb
            simp [Instr.index, asIntOf, run_under hd, hr.1, this]
        · cases h
      · rename_i len e
        cases hx <;> (try simp only at h) <;> try cases h
        rename_i cs cs' hcs
        split at h
        · rename_i hr
          cases hs : szO P e with
          | none => rw [hs] at h; cases h
          | some size =>
            rw [hs, Option.bind_some] at h
            obtain ⟨v', hv', hr'⟩ := part_R (w := w) hcs h
            exact ⟨v', by simp [Instr.index, asIntOf, run_under hd, hr, run_szO hs, hv'], hr'⟩
        · cases h
end
end Go.Ig
