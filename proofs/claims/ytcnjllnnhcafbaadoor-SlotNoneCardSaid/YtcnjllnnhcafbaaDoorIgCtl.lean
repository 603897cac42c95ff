/-
  Control: the evaluator's walk is the model's.
-/
import Derived.Test.YtcnjllnnhcafbaaDoorIgDraw
import Derived.Scope
set_option linter.unusedVariables false
namespace Go.Ig
open Go

section
variable {P : Program} {cfg : Cfg} {C : CallT} {j : J} {w : World} {n0 : Nat} {w0 : World} {gs : List Nat} {m : Mem} {a : Act} {j0 : J} {m0 : Mem} {ws : World} {N : Nat}

/-! ### loops, as they go -/
def LoopWp (P : Program) (c : Code) (Q : Exit → Act → World → Prop) (a : Act) (w : World) : Prop :=
  ∀ (b : Frame) (k : List Item) (cs : List Frame), ∃ e a' w', Q e a' w' ∧ Arrives P (lone (b.at a (.code c :: .inLoop c :: k)) cs w) b k cs e a' w'
theorem LoopWp.step {c : Code} {Q : Exit → Act → World → Prop} (h : c.wp P (Exit.then (LoopWp P c Q) Q) a w) : LoopWp P c Q a w := by
  intro b k cs
  obtain ⟨e, a₁, w₁, hq, harr⟩ := h b (.inLoop c :: k) cs
  cases e with
  | normal =>
    obtain ⟨e₂, a₂, w₂, hq₂, harr₂⟩ := hq b k cs
    exact ⟨e₂, a₂, w₂, hq₂, .of_steps (Steps.trans harr (.one step_inLoop)) harr₂⟩
  | exit id => exact ⟨_, a₁, w₁, hq, .pass (x := .inLoop c) rfl (fun _ _ => .inl (by simp)) harr⟩
  | goto l => exact ⟨_, a₁, w₁, hq, .pass (x := .inLoop c) rfl (fun _ _ => .inl (by simp)) harr⟩
  | ret => exact ⟨_, a₁, w₁, hq, .pass (x := .inLoop c) rfl (fun _ _ => .inl (by simp)) harr⟩
  | panic ch => exact ⟨_, a₁, w₁, hq, .pass (x := .inLoop c) rfl (fun _ _ => .inl (by simp)) harr⟩
  | outgrown => exact ⟨_, a₁, w₁, hq, .pass (x := .inLoop c) rfl (fun _ _ => .inl (by simp)) harr⟩
theorem LoopWp.wp {c : Code} {Q : Exit → Act → World → Prop} (h : LoopWp P c Q a w) : (Code.loop c).wp P Q a w := by
  intro b k cs
  obtain ⟨e, a', w', hq, harr⟩ := h b k cs
  exact ⟨e, a', w', hq, .of_steps (.one step_loop) harr⟩

/-! ### the temporaries that are forgotten -/
theorem forgetBut_R {l : List Nat} : ∀ {env : List V} {vs : List Value} (i : Nat), VRs j env vs → VRs j (forgetBut l i env) vs
  | _, _, _, .nil => .nil
  | _, _, i, .cons h hr => by
    simp only [forgetBut]
    refine .cons ?_ (forgetBut_R (i + 1) hr)
    split
    · exact h
    · exact .any _
theorem forgetBut_len {l : List Nat} : ∀ (env : List V) (i : Nat), (forgetBut l i env).length = env.length
  | [], _ => rfl
  | v :: r, i => by simp [forgetBut, forgetBut_len r (i + 1)]
theorem SR.mask {s : St} (h : SR P n0 w0 gs j0 m0 ws N j s a w) {l : List Nat} : SR P n0 w0 gs j0 m0 ws N j { s with env := forgetBut l 0 s.env } a w :=
  ⟨h.mem, forgetBut_R 0 h.env, h.ds, h.defers, h.grow, by simpa [forgetBut_len] using h.len⟩
theorem SR.forget {s : St} (h : SR P n0 w0 gs j0 m0 ws N j s a w) {f : FuncId} {c : Code} : SR P n0 w0 gs j0 m0 ws N j (Ig.forget cfg f c s) a w := by
  unfold Ig.forget
  split
  · exact h.mask
  · exact h
theorem SR.trim {s : St} (h : SR P n0 w0 gs j0 m0 ws N j s a w) {f : FuncId} {c : Code} : SR P n0 w0 gs j0 m0 ws N j (Ig.trim cfg f c s) a w := by
  unfold Ig.trim
  split
  · exact h.mask
  · exact h
theorem norm_id {s : St} (hd : s.ds = []) : norm s.env.length [] s = s := by
  obtain ⟨env, ds, mem⟩ := s
  simp only at hd
  subst hd
  simp only [norm]
  congr 1
  apply List.ext_getElem?
  intro k
  by_cases hk : k < env.length
  · simp [hk]
  · simp [hk]

theorem iter_R {f : FuncId} {body : Code} {n : Nat} {Q : Exit → Act → World → Prop}
    (ih : ∀ (s : St) (j : J) (a : Act) (w : World) (Q : Exit → Act → World → Prop) (r : Ex × St), iev P cfg C n f body s = some r → SR P n0 w0 gs j0 m0 ws N j s a w →
      (∀ j' e a' w', ExR j' r.1 e → SR P n0 w0 gs j0 m0 ws N j' r.2 a' w' → Q e a' w') → body.wp P Q a w) {r : Ex × St} :
    ∀ (k : Nat) (s : St) (j : J) (a : Act) (w : World), iter k (fun s => roundEnd cfg f body (iev P cfg C n f body (forget cfg f body s))) s = some r → SR P n0 w0 gs j0 m0 ws N j s a w →
      (∀ j' e a' w', ExR j' r.1 e → SR P n0 w0 gs j0 m0 ws N j' r.2 a' w' → Q e a' w') → LoopWp P body Q a w
  | 0, s, j, a, w, h, hS, hQ => by simp only [iter] at h; cases h
  | k + 1, s, j, a, w, h, hS, hQ => by
    simp only [iter] at h
    refine LoopWp.step ?_
    cases hb : iev P cfg C n f body (forget cfg f body s) with
    | none => rw [hb] at h; simp [roundEnd] at h
    | some q =>
      obtain ⟨ex, s1⟩ := q
      rw [hb] at h
      refine ih _ j a w _ _ hb hS.forget ?_
      intro j' e a' w' hE hS'
      have hds := hS'.ds
      simp only at hds
      simp only [roundEnd, hds] at h
      cases ex with
      | normal =>
        simp only at h
        cases e <;> first | exact hE.elim | skip
        exact iter_R ih k s1 j' a' w' h hS' hQ
      | exit i =>
        simp only at h
        cases h
        cases e <;> first | exact hE.elim | skip
        exact hQ j' _ a' w' hE hS'.trim
      | ret =>
        simp only at h
        cases h
        cases e <;> first | exact hE.elim | skip
        exact hQ j' _ a' w' hE hS'.trim
      | panic v =>
        simp only at h
        cases h
        cases e <;> first | exact hE.elim | skip
        exact hQ j' _ a' w' hE hS'.trim

/-- The blocks of a piece of code: what stands in them. -/
def blocks : Code → List (Nat × Code)
  | .seq a b => blocks a ++ blocks b
  | .cond _ a b => blocks a ++ blocks b
  | .block id b => (id, b) :: blocks b
  | .loop b | .scope b => blocks b
  | .rangeFunc _ _ a b => blocks a ++ blocks b
  | _ => []
def Piece (P : Program) (f : FuncId) (b : Nat × Code) : Prop := ∃ fn c, P.funcs[f]? = some fn ∧ fn.body = some c ∧ b ∈ blocks c
/-- What is told of blocks elsewhere holds. -/
def HookOk (P : Program) (cfg : Cfg) : Prop := ∀ f id b H, hookOf cfg f b = some H → Piece P f (id, b) → ∀ (n0 : Nat) (w0 : World) (gs : List Nat) (j0 : J) (m0 : Mem) (ws : World) (N : Nat) (j : J) (s s' : St) (a : Act) (w : World) (Q : Exit → Act → World → Prop), H s = some s' → SR P n0 w0 gs j0 m0 ws N j s a w →
  (∀ j' a' w', SR P n0 w0 gs j0 m0 ws N j' s' a' w' → Q .normal a' w') → (Code.block id b).wp P Q a w
theorem hook_none {P : Program} {cfg : Cfg} (h : cfg.hook = fun _ _ => none) : HookOk P cfg := by
  intro f id b H hb
  unfold hookOf at hb
  rw [h] at hb
  cases keyOf b <;> simp at hb

theorem iev_R (hmix : P.follows .mixedOrders = true) (hX : ExtOk P cfg) (hH : HookOk P cfg) (hC : CallOk P C) {f : FuncId} {n : Nat} : ∀ (c : Code) (_ : ∀ b ∈ blocks c, (hookOf cfg f b.2).isSome = true → Piece P f b) (s : St) (j : J) (a : Act) (w : World) (Q : Exit → Act → World → Prop) (r : Ex × St), iev P cfg C n f c s = some r →
    SR P n0 w0 gs j0 m0 ws N j s a w → (∀ j' e a' w', ExR j' r.1 e → SR P n0 w0 gs j0 m0 ws N j' r.2 a' w' → Q e a' w') → c.wp P Q a w := by
  intro c
  induction c with
  | skip =>
    intro hp s j a w Q r h hS hQ
    simp only [iev] at h
    cases h
    exact wp_skip (hQ j .normal a w trivial hS)
  | region id ops draw =>
    intro hp s j a w Q r h hS hQ
    simp only [iev] at h
    cases draw with
    | true =>
      simp only [if_true] at h
      split at h
      · rename_i hch
        exact draw_R hmix hX hC hch h hS hQ
      · cases h
    | false =>
      simp only [Bool.false_eq_true, if_false] at h
      exact region_R hX hC h hS hQ
  | seq x y ihx ihy =>
    intro hp s j a w Q r h hS hQ
    simp only [iev] at h
    refine wp_seq ?_
    cases hx : iev P cfg C n f x s with
    | none => rw [hx] at h; cases h
    | some q =>
      obtain ⟨ex, s1⟩ := q
      rw [hx] at h
      refine ihx (fun b hb => hp b (by simp [blocks, hb])) s j a w _ _ hx hS ?_
      intro j' e a' w' hE hS'
      cases ex with
      | normal =>
        simp only at h
        cases e <;> first | exact hE.elim | skip
        exact ihy (fun b hb => hp b (by simp [blocks, hb])) s1 j' a' w' Q r h hS' hQ
      | _ =>
        simp only at h
        cases h
        cases e <;> first | exact hE.elim | exact hQ j' _ a' w' hE hS'
  | cond c x y ihx ihy =>
    intro hp s j a w Q r h hS hQ
    simp only [iev] at h
    split at h
    · rename_i t hc
      have hr := evO_R hS.mem hS.env hc
      generalize hce : a.eval c = c' at hr
      cases hr
      refine wp_cond hce ?_
      cases t with
      | true => exact ihx (fun b hb => hp b (by simp [blocks, hb])) s j a w Q r (by simpa using h) hS hQ
      | false => exact ihy (fun b hb => hp b (by simp [blocks, hb])) s j a w Q r (by simpa using h) hS hQ
    · cases h
  | block id body ih =>
    intro hp s j a w Q r h hS hQ
    simp only [iev] at h
    cases hk : hookOf cfg f body with
    | some H =>
      rw [hk] at h
      simp only at h
      cases hs : H s with
      | none => rw [hs] at h; cases h
      | some s' =>
        rw [hs] at h
        cases h
        exact hH f id body H hk (hp (id, body) (by simp [blocks]) (by simp [hk])) n0 w0 gs j0 m0 ws N j s s' a w Q hs hS (fun j' a' w' h => hQ j' .normal a' w' trivial (by
          have : norm s.env.length s.ds s' = s' := by
            rw [hS.ds, hS.len, ← h.len]
            exact norm_id h.ds
          show SR P n0 w0 gs j0 m0 ws N j' (norm s.env.length s.ds s') a' w'
          rw [this]; exact h))
    | none =>
    rw [hk] at h
    simp only at h
    refine wp_block ?_
    cases hx : iev P cfg C n f body s with
    | none => rw [hx] at h; cases h
    | some q =>
      obtain ⟨ex, s1⟩ := q
      rw [hx] at h
      refine ih (fun b hb => hp b (by simp [blocks, hb])) s j a w _ _ hx hS ?_
      intro j' e a' w' hE hS'
      cases ex with
      | exit i =>
        simp only at h
        cases e <;> first | exact hE.elim | skip
        have hE : i = _ := hE
        subst hE
        simp only [Exit.inBlock]
        split at h
        · rename_i hi
          cases h
          rw [if_pos hi]
          exact hQ j' _ a' w' trivial hS'
        · rename_i hi
          cases h
          rw [if_neg hi]
          exact hQ j' _ a' w' rfl hS'
      | _ =>
        simp only at h
        cases h
        cases e <;> first | exact hE.elim | exact hQ j' _ a' w' hE hS'
  | loop body ih =>
    intro hp s j a w Q r h hS hQ
    simp only [iev] at h
    refine LoopWp.wp ?_
    have hds := (hS.forget (cfg := cfg) (f := f) (c := body)).ds
    have hbare : bare (forget cfg f body s) = forget cfg f body s := by
      generalize forget cfg f body s = t at hds
      obtain ⟨env, ds, mem⟩ := t
      simp only at hds
      subst hds
      rfl
    rw [hbare] at h
    cases hi : iter n (fun s => roundEnd cfg f body (iev P cfg C n f body (forget cfg f body s))) (forget cfg f body s) with
    | none => rw [hi] at h; cases h
    | some q =>
      rw [hi] at h
      simp only [Option.map_some] at h
      cases h
      refine iter_R (ih fun b hb => hp b (by simp [blocks, hb])) n _ j a w hi hS.forget ?_
      intro j' e a' w' hE hS'
      refine hQ j' e a' w' hE ?_
      have : norm s.env.length s.ds q.2 = q.2 := by
        rw [hS.ds, hS.len, ← hS'.len]
        exact norm_id hS'.ds
      rw [this]
      exact hS'
  | rangeFunc fo ps x y ihx ihy =>
    intro hp s j a w Q r h hS hQ
    simp only [iev] at h
    cases h
  | exit id =>
    intro hp s j a w Q r h hS hQ
    simp only [iev] at h
    cases h
    exact wp_exit (hQ j _ a w rfl hS)
  | scope body ih =>
    intro hp s j a w Q r h hS hQ
    simp only [iev] at h
    refine wp_scope_straight ?_
    refine ih (fun b hb => hp b (by simp [blocks, hb])) s j a w _ _ h hS ?_
    intro j' e a' w' hE hS'
    cases e with
    | goto l =>
      obtain ⟨ex, s1⟩ := r
      cases ex <;> exact hE.elim
    | _ => exact hQ j' _ a' w' hE hS'
  | label l =>
    intro hp s j a w Q r h hS hQ
    simp only [iev] at h
    cases h
    exact wp_label (hQ j .normal a w trivial hS)
  | goto l =>
    intro hp s j a w Q r h hS hQ
    simp only [iev] at h
    cases h
  | ret =>
    intro hp s j a w Q r h hS hQ
    simp only [iev] at h
    cases h
    exact wp_ret (hQ j _ a w trivial hS)
  | refuse why =>
    intro hp s j a w Q r h hS hQ
    simp only [iev] at h
    cases h
end
end Go.Ig
