/-
  The operations that make and write no memory, fourth part: two operands; and all of them together.
-/
import Derived.Test.YtcnjllnnhcafbaaDoorIgPure3
namespace Go.Ig
open Go

section
variable {P : Program} {j : J} {w : World} {n0 : Nat} {w0 : World} {gs : List Nat} {m : Mem}
set_option maxHeartbeats 1000000
theorem eqGuard_ok {op : BinOp} {t : TypeId} {xo yo : Operand} {a b : Value} : ¬ (a = .nilIface ∧ b = .nilIface) → ((∃ xs ys, a = .agg xs ∧ b = .agg ys) → P.eqGuardType P.depth t = false) →
    (eqGuard op t xo yo a b).run P w = .ok () w := by
  cases op <;> simp only [eqGuard] <;> (try (intros; simp; done))
  all_goals
    simp only [Bool.not_true, Bool.false_eq_true, if_false]
    split
    · intro h1 _
      exact absurd ⟨rfl, rfl⟩ h1
    · intro _ h2
      have := h2 ⟨_, _, rfl, rfl⟩
      simp [this]
    · intros
      simp
theorem eqV_R {t : TypeId} {x y : V} {x' y' : Value} {r : Bool} (hx : VR j x x') (hy : VR j y y') (h : eqV P t x y = some r) : (Op.equal t x' y').run P w = .ok r w :=
  eqIn_R 30 hx hy (by decide) h
theorem isSlice_num {x : V} (h : x.num = none) : (∀ k n, x ≠ .int k n) ∧ (∀ b, x ≠ .u8 b) := by
  constructor
  · rintro k n rfl; simp [V.num] at h
  · rintro b rfl; simp [V.num] at h

theorem binOp_R {op : BinOp} {t : TypeId} {x y : V} {x' y' : Value} {v : V} (xo yo : Operand) (hx : VR j x x') (hy : VR j y y') (h : binOpV P op t x y = some v) :
    ∃ v', (do eqGuard op t xo yo x' y'; Go.binOp op t x' y' : Sem Value).run P w = .ok v' w ∧ VR j v v' := by
  unfold binOpV at h
  split at h
  · rename_i k a k' b ha hb
    obtain rfl := hx.of_num ha
    obtain rfl := hy.of_num hb
    have hu : k = .u8 → 0 ≤ a ∧ a < 256 := fun e => by subst e; exact hx.num_u8 ha
    have hg : (eqGuard op t xo yo (.int k a) (.int k' b)).run P w = .ok () w := eqGuard_ok (by simp) (by simp)
    simp only [Sem.run_bind, hg, Result.andThen_ok]
    split at h
    · exact shift_R t (.inl rfl) hu h
    · exact shift_R t (.inr rfl) hu h
    · rename_i hs1 hs2
      split at h
      · rename_i hk
        subst hk
        exact intBin_R t ⟨hs1, hs2⟩ hu h
      · cases h
  · rename_i hno
    have general : ∀ (neg : Bool) (r : Bool), op = (if neg then .neq else .eql) → eqV P t x y = some r → (¬ (x = .nili ∧ y = .nili)) → ((∃ a b, x = .agg a ∧ y = .agg b) → P.eqGuardType P.depth t = false) → (¬ ∃ a b, x = .str a ∧ y = .str b) →
        ∃ v', (do eqGuard op t xo yo x' y'; Go.binOp op t x' y' : Sem Value).run P w = .ok v' w ∧ VR j (.bool (if neg then !r else r)) v' := by
      intro neg r hop he hn ha hs
      have heq := eqV_R (P := P) (w := w) hx hy he
      have hg : (eqGuard op t xo yo x' y').run P w = .ok () w := by
        refine eqGuard_ok ?_ ?_
        · rintro ⟨rfl, rfl⟩
          cases hx
          · simp [eqV, eqIn] at he
          · cases hy
            · simp [eqV, eqIn] at he
            · exact hn ⟨rfl, rfl⟩
        · rintro ⟨xs, ys, rfl, rfl⟩
          cases hx
          · simp [eqV, eqIn] at he
          · cases hy
            · simp [eqV, eqIn] at he
            · exact ha ⟨_, _, rfl, rfl⟩
      simp only [Sem.run_bind, hg, Result.andThen_ok]
      refine ⟨.bool (if neg then !r else r), ?_, .bool _⟩
      have hnn : ∀ {a a' b b' : _} , x.num = some (a, b) → y.num = some (a', b') → False := fun h1 h2 => hno _ _ _ _ h1 h2
      cases neg
      · simp only [Bool.false_eq_true, if_false] at hop ⊢
        subst hop
        cases hx <;> cases hy <;> first
          | (exact absurd ⟨_, _, rfl, rfl⟩ hs)
          | (exact (hnn rfl rfl).elim)
          | (simp only [Go.binOp, Sem.run_bind, heq, Result.andThen_ok, Sem.run_pure]; done)
          | (simp [eqV, eqIn] at he; done)
      · simp only [if_true] at hop ⊢
        subst hop
        cases hx <;> cases hy <;> first
          | (exact absurd ⟨_, _, rfl, rfl⟩ hs)
          | (exact (hnn rfl rfl).elim)
          | (simp only [Go.binOp, Sem.run_bind, heq, Result.andThen_ok, Sem.run_pure]; done)
          | (simp [eqV, eqIn] at he; done)
    split at h
    · rename_i a b
      split at h
      · rename_i hlen
        cases h
        cases hx with | str s => ?_
        cases hy with | str s2 => ?_
        have hg : (eqGuard .add t xo yo (.string s) (.string s2)).run P w = .ok () w := eqGuard_ok (by simp) (by simp)
        refine ⟨.string (s ++ s2), ?_, ?_⟩
        · simp only [Sem.run_bind, hg, Result.andThen_ok, Go.binOp, Op.stringOp]
          rw [if_neg]
          · rfl
          · have e1 : s.data.toList.length = s.size := Array.length_toList
            have e2 : s2.data.toList.length = s2.size := Array.length_toList
            rw [e1, e2] at hlen
            simp only [IntKind.max, IntKind.signed, IntKind.bits, if_true]
            omega
        · have := VR.str (j := j) (s ++ s2)
          rw [ByteArray.data_append, Array.toList_append] at this
          exact this
      · cases h
    · cases h
      cases hx with | str s => ?_
      cases hy with | str s2 => ?_
      have hg : (eqGuard .eql t xo yo (.string s) (.string s2)).run P w = .ok () w := eqGuard_ok (by simp) (by simp)
      refine ⟨_, ?_, .bool _⟩
      simp only [Sem.run_bind, hg, Result.andThen_ok, Go.binOp, Op.stringOp, bytes_toList, Sem.run_pure]
    · cases h
      cases hx with | str s => ?_
      cases hy with | str s2 => ?_
      have hg : (eqGuard .neq t xo yo (.string s) (.string s2)).run P w = .ok () w := eqGuard_ok (by simp) (by simp)
      refine ⟨_, ?_, .bool _⟩
      simp only [Sem.run_bind, hg, Result.andThen_ok, Go.binOp, Op.stringOp, bytes_toList, Sem.run_pure]
    · split at h
      · cases h
      · rename_i a b hq
        cases he : eqV P t (.agg a) (.agg b) with
        | none => rw [he] at h; cases h
        | some r =>
          rw [he] at h; cases h
          exact general false r rfl he (by simp) (fun _ => by simpa using hq) (by simp)
    · split at h
      · cases h
      · rename_i a b hq
        cases he : eqV P t (.agg a) (.agg b) with
        | none => rw [he] at h; cases h
        | some r =>
          rw [he] at h; cases h
          exact general true r rfl he (by simp) (fun _ => by simpa using hq) (by simp)
    · cases h
    · cases h
    · rename_i n1 n2 n3
      cases he : eqV P t x y with
      | none => rw [he] at h; cases h
      | some r =>
        rw [he] at h; cases h
        refine general false r rfl he ?_ ?_ ?_
        · rintro ⟨rfl, rfl⟩; exact n3 rfl rfl
        · rintro ⟨a, b, rfl, rfl⟩; exact (n2 _ _ rfl rfl).elim
        · rintro ⟨a, b, rfl, rfl⟩; exact n1 _ _ rfl rfl
    · rename_i n1 n2 n3
      cases he : eqV P t x y with
      | none => rw [he] at h; cases h
      | some r =>
        rw [he] at h; cases h
        refine general true r rfl he ?_ ?_ ?_
        · rintro ⟨rfl, rfl⟩; exact n3 rfl rfl
        · rintro ⟨a, b, rfl, rfl⟩; exact (n2 _ _ rfl rfl).elim
        · rintro ⟨a, b, rfl, rfl⟩; exact n1 _ _ rfl rfl
    · cases h

theorem unOp_R {op : UnOp} {x : V} {x' : Value} {v : V} (hx : VR j x x') (h : unOpV op x = some v) : ∃ v', (Op.unary op x').run P w = .ok v' w ∧ VR j v v' := by
  unfold unOpV at h
  split at h
  · cases hx with | u8 b => ?_
    simp only [intBin] at h; cases h
    exact ⟨_, by simp [Op.unary, Op.intArith], .wrapped _ _⟩
  · rename_i k n
    cases hx with | int _ _ hk => ?_
    simp only [intBin] at h; cases h
    exact ⟨_, by simp [Op.unary, Op.intArith], .wrapped _ _⟩
  · cases hx with | u8 b => ?_
    simp only [intBin] at h; cases h
    exact ⟨_, by simp [Op.unary, Op.intBits, IntKind.signed, IntKind.max, IntKind.bits], .wrapped _ _⟩
  · rename_i k n
    cases hx with | int _ _ hk => ?_
    simp only [intBin] at h; cases h
    exact ⟨_, by simp [Op.unary, Op.intBits], .wrapped _ _⟩
  · cases h
    cases hx with | bool b => ?_
    exact ⟨_, by simp [Op.unary], .bool _⟩
  · cases h
end
end Go.Ig
