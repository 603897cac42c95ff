/-
  The operations that make and write no memory, second part.
-/
import Derived.Test.YtcnjllnnhcafbaaDoorIgPure
import Derived.Laws.StructEq
namespace Go.Ig
open Go

section
variable {P : Program} {j : J} {w : World} {n0 : Nat} {w0 : World} {gs : List Nat} {m : Mem}

/-! ### slices -/
theorem bound_R {x : V} {x' : Value} {y r : Nat} (code : Go.BoundsCode) (hx : VR j x x') (h : boundV x y = some r) : (Instr.sliceBound x' y code).run P w = .ok r w ∧ r ≤ y := by
  unfold boundV at h
  cases hn : x.num with
  | none => simp [hn] at h
  | some kn =>
    obtain ⟨k, n⟩ := kn
    obtain rfl := hx.of_num hn
    simp only [hn] at h
    split at h
    · rename_i hb
      cases h
      exact ⟨run_sliceBound _ k n y code hb.1 hb.2, by omega⟩
    · cases h
inductive OptR (j : J) : Option V → Option Value → Prop
  | none : OptR j none none
  | some {v : V} {v' : Value} (h : VR j v v') : OptR j (some v) (some v')
theorem bounds_R {isS : Bool} {len cap l h c : Nat} {lo hi mx : Option V} {lo' hi' mx' : Option Value} (hlo : OptR j lo lo') (hhi : OptR j hi hi') (hmx : OptR j mx mx')
    (cap' : Nat) (hcap : mx = none → cap ≤ cap') (hcap2 : ∀ v, mx = some v → cap ≤ cap')
    (hc : boundO mx cap cap = some c) (hh : boundO hi len c = some h) (hl : boundO lo 0 h = some l) (hm : mx.isSome = true → hi.isSome = true) :
    ∃ c', (Instr.sliceBounds isS len cap' lo' hi' mx').run P w = .ok (l, h, c') w ∧ (mx.isSome = true → c' = c) ∧ (mx = none → c' = cap' ∧ c = cap) := by
  have up : ∀ {x : V} {y z r : Nat}, boundV x y = some r → y ≤ z → boundV x z = some r := by
    intro x y z r hb hyz
    unfold boundV at hb ⊢
    cases hq : x.num with
    | none => simp [hq] at hb
    | some q =>
      obtain ⟨q, i⟩ := q
      simp only [hq] at hb ⊢
      split at hb
      · rename_i hr
        rw [if_pos ⟨hr.1, by omega⟩]
        exact hb
      · cases hb
  cases hmx with
  | none =>
    simp only [boundO] at hc
    cases hc
    have hcc := hcap rfl
    refine ⟨cap', ?_, (by simp), fun _ => ⟨rfl, rfl⟩⟩
    cases hhi with
    | none =>
      simp only [boundO] at hh
      cases hh
      cases hlo with
      | none => simp only [boundO] at hl; cases hl; simp [Instr.sliceBounds]
      | some hv => simp only [boundO] at hl; simp [Instr.sliceBounds, (bound_R (P := P) (w := w) _ hv hl).1]
    | some hv2 =>
      simp only [boundO] at hh
      have hh2 := up hh hcc
      cases hlo with
      | none => simp only [boundO] at hl; cases hl; simp [Instr.sliceBounds, (bound_R (P := P) (w := w) _ hv2 hh2).1]
      | some hv => simp only [boundO] at hl; simp [Instr.sliceBounds, (bound_R (P := P) (w := w) _ hv2 hh2).1, (bound_R (P := P) (w := w) _ hv hl).1]
  | some hv3 =>
    have hcc := hcap2 _ rfl
    simp only [boundO] at hc
    have hc2 := up hc hcc
    refine ⟨c, ?_, fun _ => rfl, (by simp)⟩
    cases hhi with
    | none => simp at hm
    | some hv2 =>
      simp only [boundO] at hh
      cases hlo with
      | none => simp only [boundO] at hl; cases hl; simp [Instr.sliceBounds, (bound_R (P := P) (w := w) _ hv3 hc2).1, (bound_R (P := P) (w := w) _ hv2 hh).1]
      | some hv => simp only [boundO] at hl; simp [Instr.sliceBounds, (bound_R (P := P) (w := w) _ hv3 hc2).1, (bound_R (P := P) (w := w) _ hv2 hh).1, (bound_R (P := P) (w := w) _ hv hl).1]

theorem slice_R (hM : MR P n0 w0 gs j m w) {t : TypeId} {x : V} {x' : Value} {lo hi mx : Option V} {lo' hi' mx' : Option Value} {v : V} (hx : VR j x x') (hlo : OptR j lo lo') (hhi : OptR j hi hi') (hmx : OptR j mx mx')
    (h : sliceV P m t x lo hi mx = some v) : ∃ v', (Instr.sliceAt t x' lo' hi' mx').run P w = .ok v' w ∧ VR j v v' := by
  unfold sliceV at h
  split at h
  · cases h
  rename_i hmh
  have hm : mx.isSome = true → hi.isSome = true := fun e => by
    cases hh : hi.isSome with
    | true => rfl
    | false => exact absurd ⟨e, hh⟩ hmh
  cases hd : P.underlying t with
  | none => simp [hd] at h
  | some d =>
    simp only [hd] at h
    cases d <;> (try simp only at h) <;> try cases h
    case string =>
      cases hx <;> (try simp only at h) <;> try cases h
      rename_i s
      split at h
      · cases h
      rename_i hmx0
      have hmx1 : mx = none := by cases mx <;> simp at hmx0 ⊢
      subst hmx1
      cases hmx
      cases hh : boundO hi s.data.toList.length s.data.toList.length with
      | none => rw [hh] at h; cases h
      | some hv =>
        simp only [hh] at h
        cases hl : boundO lo 0 hv with
        | none => rw [hl] at h; cases h
        | some lv =>
          simp only [hl] at h
          cases h
          have hsz : s.data.toList.length = s.size := Array.length_toList
          rw [hsz] at hh
          obtain ⟨c', hr, -, -⟩ := bounds_R (P := P) (w := w) (isS := false) (cap := s.size) hlo hhi (OptR.none (j := j)) s.size (fun _ => Nat.le_refl _) (fun _ _ => Nat.le_refl _) rfl hh hl (by simp)
          refine ⟨.string (s.extract lv hv), ?_, ?_⟩
          · have e1 : (Instr.sliceAt t (.string s) lo' hi' none).run P w = (Instr.slice t (.string s) lo' hi' none).run P w := by simp only [Instr.sliceAt, Sem.run_bind, run_under hd, Result.andThen_ok]
            rw [e1]
            simp only [Instr.slice, Sem.run_bind, run_under hd, Result.andThen_ok, hr, Option.isSome_none, Bool.false_eq_true, if_false, Sem.run_pure]
          · have h1 : (s.extract lv hv).data.toList = (s.data.toList.take hv).drop lv := by
              rw [ByteArray.data_extract, List.drop_take]
              simp [List.extract_eq_take_drop]
            have := VR.str (j := j) (s.extract lv hv)
            rw [h1] at this
            exact this
    case slice e =>
      cases hx <;> (try simp only at h) <;> try cases h
      · rename_i b g o z len cap cap' L hL hcap hlen
        cases hs : szO P e with
        | none => rw [hs] at h; cases h
        | some size =>
          rw [hs, Option.bind_some] at h
          split at h
          · cases h
          rename_i hz
          have hz : z = size := by simpa using hz
          subst hz
          cases hc : boundO mx cap cap with
          | none => rw [hc] at h; cases h
          | some c =>
            simp only [hc] at h
            cases hh : boundO hi len c with
            | none => rw [hh] at h; cases h
            | some hv =>
              simp only [hh] at h
              cases hl : boundO lo 0 hv with
              | none => rw [hl] at h; cases h
              | some lv =>
                simp only [hl] at h
                have hle : cap ≤ cap' := by
                  unfold capR at hcap
                  split at hcap <;> omega
                obtain ⟨c', hr, hc1, hc2⟩ := bounds_R (P := P) (w := w) (isS := true) hlo hhi hmx cap' (fun _ => hle) (fun _ _ => hle) hc hh hl hm
                have hrun : (Instr.sliceAt t (.slice (some ⟨L.c, L.s + o, none⟩) len cap') lo' hi' mx').run P w =
                    .ok (.slice (some (if c' = lv then ⟨L.c, L.s + o, none⟩ else (⟨L.c, L.s + o, none⟩ : Addr).add (lv * z))) (hv - lv) (c' - lv)) w := by
                  simp only [Instr.sliceAt, Sem.run_bind, run_under hd, Result.andThen_ok, Instr.slice, hr, run_szO hs, Sem.run_pure]
                  split <;> rfl
                refine ⟨_, hrun, ?_⟩
                have hcc : c ≤ c' ∧ (L.room = none → c' = c) ∧ (∀ n, L.room = some n → L.s + o + c' * z ≤ n) := by
                  cases hmx with
                  | none =>
                    obtain ⟨e1, e2⟩ := hc2 rfl
                    subst e1 e2
                    unfold capR at hcap
                    split at hcap
                    · exact ⟨by omega, fun _ => by omega, fun n hn => by simp_all⟩
                    · rename_i n hn
                      exact ⟨by omega, fun e => by simp_all, fun q hq => by rw [hn] at hq; cases hq; exact hcap.2⟩
                  | some _ =>
                    have e1 := hc1 rfl
                    subst e1
                    refine ⟨Nat.le_refl _, fun _ => rfl, fun n hn => ?_⟩
                    have hcl : c' ≤ cap := by
                      simp only [boundO, boundV] at hc
                      split at hc
                      · split at hc
                        · cases hc; omega
                        · cases hc
                      · cases hc
                    unfold capR at hcap
                    rw [hn] at hcap
                    have := Nat.mul_le_mul_right z (Nat.le_trans hcl hcap.1)
                    omega
                have hcap2 : ∀ q, c - lv ≤ q → q = c' - lv → lv ≤ c' → capR L.room (L.s + (if c' = lv then o else o + lv * z)) z (c - lv) q := by
                  intro q h1 h2 h3
                  subst h2
                  unfold capR
                  cases hrm : L.room with
                  | none => simp only; rw [hcc.2.1 hrm]
                  | some n =>
                    refine ⟨h1, ?_⟩
                    have h4 := hcc.2.2 n hrm
                    split
                    · rename_i e; subst e; simp; have := Nat.zero_le (c' * z); omega
                    · have h5 : lv * z + (c' - lv) * z = c' * z := by rw [← Nat.add_mul]; congr 1; omega
                      omega
                have hlv : (lv ≤ hv ∧ hv ≤ c) ∧ lv ≤ c' := by
                  have hlh : lv ≤ hv := by
                    cases lo with
                    | none => simp [boundO] at hl; omega
                    | some x => simp only [boundO, boundV] at hl; split at hl <;> (try split at hl) <;> (try cases hl) <;> omega
                  have hhc : hv ≤ c := by
                    cases hi with
                    | some x => simp only [boundO, boundV] at hh; split at hh <;> (try split at hh) <;> (try cases hh) <;> omega
                    | none =>
                      cases mx with
                      | some y => simp at hm
                      | none => simp only [boundO, Option.some.injEq] at hh hc; omega
                  exact ⟨⟨hlh, hhc⟩, by omega⟩
                have hlvc := hlv.2
                have hhc := hlv.1.2
                have hlh := hlv.1.1
                split at h
                · rename_i hcl
                  split at h
                  · rename_i hor
                    cases h
                    have hc'l : c' = lv := by
                      simp only [Bool.or_eq_true] at hor
                      rcases hor with hor | hor
                      · exact (hc1 hor).trans hcl
                      · have hroom : L.room = none := by
                          unfold Mem.firm at hor
                          split at hor
                          · rename_i l md hob
                            simp only [Bool.and_eq_true, beq_iff_eq] at hor
                            obtain ⟨hf, hg⟩ := hor
                            subst hg
                            have := (hM.objs b _ L hob hL).2
                            unfold modeR at this
                            cases md <;> simp [Mode.fixed] at hf <;> simp_all
                          · rename_i l md hob
                            simp only [Bool.and_eq_true, beq_iff_eq] at hor
                            obtain ⟨hf, hg⟩ := hor
                            subst hg
                            have := (hM.objs b _ L hob hL).2
                            unfold modeR at this
                            cases md <;> simp [Mode.fixed] at hf <;> simp_all
                          · cases hor
                        exact (hcc.2.1 hroom).trans hcl
                    have := hcap2 (c' - lv) (by omega) rfl hlvc
                    rw [if_pos hc'l] at this ⊢
                    rw [hcl, Nat.sub_self] at this
                    exact .slice hL this (by omega)
                  · cases h
                · rename_i hcl
                  cases h
                  have hne : c' ≠ lv := by omega
                  have := hcap2 (c' - lv) (by omega) rfl hlvc
                  rw [if_neg hne] at this ⊢
                  rw [add_at, Nat.add_assoc]
                  exact .slice hL this (by omega)
      · cases hc : boundO mx 0 0 with
        | none => rw [hc] at h; cases h
        | some c =>
          simp only [hc] at h
          cases hh : boundO hi 0 0 with
          | none => rw [hh] at h; cases h
          | some hv =>
            simp only [hh] at h
            cases hl : boundO lo 0 hv with
            | none => rw [hl] at h; cases h
            | some lv =>
              simp only [hl] at h
              split at h
              · rename_i size hs
                cases h
                have z0 : ∀ {x : Option V} {r : Nat}, boundO x 0 0 = some r → r = 0 := by
                  intro x r hx
                  cases x with
                  | none => simp [boundO] at hx; omega
                  | some x => simp only [boundO, boundV] at hx; split at hx <;> (try split at hx) <;> (try cases hx) <;> omega
                have c0 := z0 hc
                have h0 := z0 hh
                subst c0 h0
                have l0 := z0 hl
                subst l0
                obtain ⟨c', hr, hc1, hc2⟩ := bounds_R (P := P) (w := w) (isS := true) hlo hhi hmx 0 (fun _ => Nat.le_refl _) (fun _ _ => Nat.le_refl _) hc hh hl hm
                have c0 : c' = 0 := by
                  cases hmx with
                  | none => exact (hc2 rfl).1
                  | some _ => exact hc1 rfl
                subst c0
                refine ⟨.slice none 0 0, ?_, .nils⟩
                simp only [Instr.sliceAt, Sem.run_bind, run_under hd, Result.andThen_ok, Instr.slice, hr, run_szO hs, Sem.run_pure]
                rfl
              · cases h
    case array n e =>
      cases hx <;> (try simp only at h) <;> try cases h
      rename_i b g o L hL
      cases hs : szO P e with
      | none => rw [hs] at h; cases h
      | some size =>
        rw [hs, Option.bind_some] at h
        cases hc : boundO mx n n with
        | none => rw [hc] at h; cases h
        | some c =>
          simp only [hc] at h
          cases hh : boundO hi n c with
          | none => rw [hh] at h; cases h
          | some hv =>
            simp only [hh] at h
            cases hl : boundO lo 0 hv with
            | none => rw [hl] at h; cases h
            | some lv =>
              simp only [hl] at h
              split at h
              · rename_i hor
                cases h
                obtain ⟨c', hr, hc1, hc2⟩ := bounds_R (P := P) (w := w) (isS := false) hlo hhi hmx n (fun _ => Nat.le_refl _) (fun _ _ => Nat.le_refl _) hc hh hl hm
                have hcc : c' = c := by
                  cases hmx with
                  | none => have := hc2 rfl; omega
                  | some _ => exact hc1 rfl
                subst hcc
                have hcn : c' ≤ n := by
                  cases mx with
                  | none => simp [boundO] at hc; omega
                  | some x => simp only [boundO, boundV] at hc; split at hc <;> (try split at hc) <;> (try cases hc) <;> omega
                have hlh : lv ≤ hv := by
                  cases lo with
                  | none => simp [boundO] at hl; omega
                  | some x => simp only [boundO, boundV] at hl; split at hl <;> (try split at hl) <;> (try cases hl) <;> omega
                have hhc : hv ≤ c' := by
                  cases hi with
                  | some x => simp only [boundO, boundV] at hh; split at hh <;> (try split at hh) <;> (try cases hh) <;> omega
                  | none =>
                    cases mx with
                    | some y => simp at hm
                    | none => simp only [boundO, Option.some.injEq] at hh hc; omega
                refine ⟨.slice (some (if c' = lv then ⟨L.c, L.s + o, none⟩ else (⟨L.c, L.s + o, none⟩ : Addr).add (lv * size))) (hv - lv) (c' - lv), ?_, ?_⟩
                · simp only [Instr.sliceAt, Sem.run_bind, run_under hd, Result.andThen_ok, Instr.sureAddr, hr, run_szO hs, Sem.run_pure]
                · have hcap : capR L.room (L.s + (if c' = lv then o else o + lv * size)) size (c' - lv) (c' - lv) := by
                    unfold capR
                    cases hrm : L.room with
                    | none => rfl
                    | some q =>
                      refine ⟨Nat.le_refl _, ?_⟩
                      simp only [Bool.or_eq_true, Bool.and_eq_true, decide_eq_true_eq] at hor
                      rcases hor with hor | ⟨hpos, hor⟩
                      · exfalso
                        unfold Mem.firm at hor
                        split at hor
                        · rename_i l md hob
                          simp only [Bool.and_eq_true, beq_iff_eq] at hor
                          obtain ⟨hf, hg⟩ := hor
                          subst hg
                          have := (hM.objs b _ L hob hL).2
                          unfold modeR at this
                          cases md <;> simp [Mode.fixed] at hf <;> simp_all
                        · rename_i l md hob
                          simp only [Bool.and_eq_true, beq_iff_eq] at hor
                          obtain ⟨hf, hg⟩ := hor
                          subst hg
                          have := (hM.objs b _ L hob hL).2
                          unfold modeR at this
                          cases md <;> simp [Mode.fixed] at hf <;> simp_all
                        · cases hor
                      · cases hcs : m.cells? b g o (n * size) with
                        | none => rw [hcs] at hor; cases hor
                        | some vs =>
                          have hroom : L.s + o + n * size ≤ q := by
                              obtain ⟨hlen, ob, hob, hg, hat⟩ := cells_at hcs
                              obtain ⟨x, hx⟩ : ∃ x, vs[n * size - 1]? = some x := ⟨vs[n * size - 1]'(by omega), by simp⟩
                              subst hg
                              obtain ⟨x', hx', -⟩ := (hM.objs b ob L hob hL).cell (hat _ _ hx)
                              have hmode := hM.objs b ob L hob hL
                              have hsz : ∀ (md : Mode), modeR n0 w md L → L.s + (o + (n * size - 1)) < q := by
                                intro md hmd
                                unfold modeR at hmd
                                cases md with
                                | ro => rw [hmd.1] at hrm; cases hrm
                                | exact => rw [hmd.1] at hrm; cases hrm
                                | vec gg =>
                                  obtain ⟨-, -, qq, hqq, cells, elem, fr, hheap, hsize, -⟩ := hmd
                                  rw [hqq] at hrm; cases hrm
                                  simp only [World.cell?, hheap] at hx'
                                  have := (Array.getElem?_eq_some_iff.1 (by simpa using hx')).1
                                  omega
                              obtain ⟨md, hmd⟩ := Obj.at_row (hat _ _ hx)
                              have : L.s + (o + (n * size - 1)) < q := by
                                cases ob <;> simp [Obj.mode] at hmd
                                · subst hmd; exact hsz _ hmode.2
                                · subst hmd; exact hsz _ hmode.2
                              omega
                          have h5 : (c' - lv) * size ≤ (n - lv) * size := Nat.mul_le_mul_right _ (by omega)
                          have h6 : lv * size + (n - lv) * size = n * size := by rw [← Nat.add_mul]; congr 1; omega
                          split
                          · rename_i e; subst e; rw [Nat.sub_self, Nat.zero_mul]; omega
                          · omega
                  split
                  · rename_i e
                    rw [if_pos e] at hcap
                    exact .slice hL hcap (by omega)
                  · rename_i e
                    rw [if_neg e] at hcap
                    rw [add_at, Nat.add_assoc]
                    exact .slice hL hcap (by omega)
              · cases h
end
end Go.Ig
