/-
  The walk through a drawn region in the text's order, step by step.
-/
import Derived.Test.YtcnjllnnhcafbaaDoorIgCong
set_option linter.unusedVariables false
namespace Go.Ig
open Go

mutual
theorem V.same_eq : ∀ (a b : V), V.same a b = true → a = b
  | .bool a, b, h => by cases b <;> simp [V.same] at h; subst h; rfl
  | .u8 a, b, h => by cases b <;> simp [V.same] at h; subst h; rfl
  | .int k a, b, h => by cases b <;> simp [V.same] at h; obtain ⟨rfl, rfl⟩ := h; rfl
  | .str a, b, h => by cases b <;> simp [V.same] at h; subst h; rfl
  | .ptr a b c, d, h => by cases d <;> simp [V.same] at h; obtain ⟨⟨rfl, rfl⟩, rfl⟩ := h; rfl
  | .nilp, b, h => by cases b <;> simp [V.same] at h; rfl
  | .slice a b c d e f, x, h => by cases x <;> simp [V.same] at h; obtain ⟨⟨⟨⟨⟨rfl, rfl⟩, rfl⟩, rfl⟩, rfl⟩, rfl⟩ := h; rfl
  | .nils, b, h => by cases b <;> simp [V.same] at h; rfl
  | .map a, b, h => by cases b <;> simp [V.same] at h; subst h; rfl
  | .nilm, b, h => by cases b <;> simp [V.same] at h; rfl
  | .fn f a b, x, h => by
    cases x <;> simp [V.same] at h
    obtain ⟨⟨rfl, h1⟩, h2⟩ := h
    rw [V.sames_eq a _ h1, V.sames_eq b _ h2]
  | .yield a, b, h => by cases b <;> simp [V.same] at h; subst h; rfl
  | .nilf, b, h => by cases b <;> simp [V.same] at h; rfl
  | .iface t a, x, h => by
    cases x <;> simp [V.same] at h
    obtain ⟨rfl, h1⟩ := h
    rw [V.same_eq a _ h1]
  | .nili, b, h => by cases b <;> simp [V.same] at h; rfl
  | .agg a, x, h => by
    cases x <;> simp [V.same] at h
    rw [V.sames_eq a _ h]
  | .tuple a, x, h => by
    cases x <;> simp [V.same] at h
    rw [V.sames_eq a _ h]
  | .any, b, h => by cases b <;> simp [V.same] at h
theorem V.sames_eq : ∀ (a b : List V), V.sames a b = true → a = b
  | [], b, h => by cases b <;> simp [V.sames] at h; rfl
  | x :: r, b, h => by
    cases b <;> simp [V.sames] at h
    rw [V.same_eq x _ h.1, V.sames_eq r _ h.2]
end
theorem sameO_eq {x : Option V} {v : V} (h : sameO x v = true) : x = some v := by
  cases x with
  | none => simp [sameO] at h
  | some a => rw [V.same_eq a v h]

section
variable {P : Program} {cfg : Cfg} {C : CallT} {ops : Array Oper} {bf : Array Nat}

structure Stp where
  o : Oper
  pre : St
  v : V
  ran : Bool
  mem' : Mem

def Stands (ops : Array Oper) (o : Oper) (env : List V) : Prop :=
  match o.guard with
  | none => True
  | some (g, want) => ∃ d, slotOf ops g = some d ∧ env[d]? = some (.bool want)
def Falls (ops : Array Oper) (o : Oper) (env : List V) : Prop :=
  match o.guard with
  | none => False
  | some (g, want) => ∃ d, slotOf ops g = some d ∧ (env[d]? = some (.bool !want) ∨ env[d]? = some (.tuple []))

structure StpOk (P : Program) (cfg : Cfg) (C : CallT) (ops : Array Oper) (x : Stp) : Prop where
  fall : x.ran = false → Falls ops x.o x.pre.env ∧ x.v = V.undef ∧ x.mem' = x.pre.mem
  stand : x.ran = true → Stands ops x.o x.pre.env
  pure : x.ran = true → kindIn P x.o.op = .pure → opPure P x.pre.env x.pre.mem x.o.op = some x.v ∧ x.mem' = x.pre.mem
  mem : x.ran = true → kindIn P x.o.op ≠ .pure → iop P cfg C x.pre x.o.op = some (.ok x.v { x.pre with mem := x.mem' })
def Stp.post (x : Stp) : St := ({ x.pre with mem := x.mem' } : St).put x.o.dst x.v
def Stp.reads (P : Program) (x : Stp) : Prop := x.ran = true ∧ kindIn P x.o.op = .pure ∧ Ig.reads x.o.op = true
def Stp.writes (P : Program) (x : Stp) : Prop := x.ran = true ∧ kindIn P x.o.op ≠ .pure

structure Watch (P : Program) (bf : Array Nat) (i : Nat) (k : Trk) (x : Stp) (k' : Trk) : Prop where
  stood : x.reads P → Ig.stood P bf k.past i x.pre.env x.o.op x.v = true ∧ (i, x.pre.env, x.o.op, x.v) ∈ k'.seen
  stands : x.writes P → Ig.stands P bf k.seen i x.mem' = true ∧ (i, x.pre.mem) ∈ k'.past
  past : ∀ p ∈ k.past, p ∈ k'.past
  seen : ∀ p ∈ k.seen, p ∈ k'.seen

inductive DTr (P : Program) (cfg : Cfg) (C : CallT) (ops : Array Oper) (bf : Array Nat) : Nat → Trk → St → List Stp → St → Prop
  | nil (i : Nat) (k : Trk) (s : St) : DTr P cfg C ops bf i k s [] s
  | cons {i : Nat} {k k' : Trk} {x : Stp} {T : List Stp} {s' : St} (hok : StpOk P cfg C ops x) (hw : Watch P bf i k x k') (h : DTr P cfg C ops bf (i + 1) k' x.post T s') : DTr P cfg C ops bf i k x.pre (x :: T) s'

theorem Guarded.stands {g : Option (Nat × Bool)} {env : List V} {os : List Oper} {o : Oper} (h : Guarded ops g env os) (ho : o.guard = g) : Stands ops o env := by
  unfold Stands
  rw [ho]
  cases g with
  | none => trivial
  | some q => obtain ⟨d, a, b, -⟩ := h; exact ⟨d, a, b⟩
theorem Fallen.falls {g : Option (Nat × Bool)} {env : List V} {os : List Oper} {o : Oper} (h : Fallen ops g env os) (ho : o.guard = g) : Falls ops o env := by
  unfold Falls
  rw [ho]
  cases g with
  | none => exact h.elim
  | some q => obtain ⟨d, a, b, -⟩ := h; exact ⟨d, a, b⟩

theorem drun_tr {g : Option (Nat × Bool)} : ∀ (os : List Oper) (i : Nat) (k : Trk) (s : St) {i' : Nat} {k' : Trk} {s' : St}, (∀ o ∈ os, o.guard = g) → Guarded ops g s.env os → drun P cfg C bf os i k s = some (i', k', s') →
    ∃ T : List Stp, T.map (·.o) = os ∧ i' = i + os.length ∧ ∀ T2 s2, DTr P cfg C ops bf i' k' s' T2 s2 → DTr P cfg C ops bf i k s (T ++ T2) s2
  | [], i, k, s, i', k', s', _, _, h => by
    simp only [drun] at h
    cases h
    exact ⟨[], rfl, rfl, fun T2 s2 h => h⟩
  | o :: os, i, k, s, i', k', s', hg, hG, h => by
    have ho := hg o (by simp)
    have hrest : ∀ o ∈ os, o.guard = g := fun o' ho' => hg o' (by simp [ho'])
    simp only [drun] at h
    have fin : ∀ (x : Stp) (k1 : Trk), x.pre = s → x.o = o → StpOk P cfg C ops x → Watch P bf i k x k1 → drun P cfg C bf os (i + 1) k1 x.post = some (i', k', s') → Guarded ops g x.post.env os →
        ∃ T : List Stp, T.map (·.o) = o :: os ∧ i' = i + (o :: os).length ∧ ∀ T2 s2, DTr P cfg C ops bf i' k' s' T2 s2 → DTr P cfg C ops bf i k s (T ++ T2) s2 := by
      intro x k1 hx hxo hok hw hd hG'
      obtain ⟨T, h1, h2, h3⟩ := drun_tr os (i + 1) k1 x.post hrest hG' hd
      refine ⟨x :: T, by simp [h1, hxo], by simp; omega, fun T2 s2 ht => ?_⟩
      subst hx
      exact .cons hok hw (h3 T2 s2 ht)
    cases hk : kindIn P o.op with
    | eff =>
      rw [hk] at h
      simp only at h
      split at h
      · rename_i v s1 he
        split at h
        · rename_i hst
          have hform := opEff_form he
          refine fin ⟨o, s, v, true, s1.mem⟩ { k with past := (i, s.mem) :: k.past } rfl rfl ⟨by simp, fun _ => hG.stands ho, fun _ h => by simp [hk] at h, fun _ _ => ?_⟩ ⟨fun hr => ?_, fun _ => ⟨hst, List.mem_cons_self ..⟩, fun p hp => List.mem_cons_of_mem _ hp, fun p hp => hp⟩ ?_ (hG.put v s1.mem)
          · simp only [iop, hk]
            rw [he]
            congr 2
          · obtain ⟨-, h2, -⟩ := hr
            simp [hk] at h2
          · show drun P cfg C bf os (i + 1) _ (({ s with mem := s1.mem } : St).put o.dst v) = _
            rw [← hform]
            exact h
        · cases h
      · cases h
    | new =>
      rw [hk] at h
      simp only at h
      split at h
      · rename_i v m1 he
        split at h
        · rename_i hst
          refine fin ⟨o, s, v, true, m1⟩ { k with past := (i, s.mem) :: k.past } rfl rfl ⟨by simp, fun _ => hG.stands ho, fun _ h => by simp [hk] at h, fun _ _ => ?_⟩ ⟨fun hr => ?_, fun _ => ⟨hst, List.mem_cons_self ..⟩, fun p hp => List.mem_cons_of_mem _ hp, fun p hp => hp⟩ h (hG.put v m1)
          · simp only [iop, hk, he, Option.map_some]
          · obtain ⟨-, h2, -⟩ := hr
            simp [hk] at h2
        · cases h
      · cases h
    | pure =>
      rw [hk] at h
      simp only at h
      split at h
      · rename_i v he
        have hok : StpOk P cfg C ops ⟨o, s, v, true, s.mem⟩ := ⟨by simp, fun _ => hG.stands ho, fun _ _ => ⟨he, rfl⟩, fun _ h => absurd hk h⟩
        split at h
        · rename_i hrd
          split at h
          · rename_i hst
            exact fin ⟨o, s, v, true, s.mem⟩ { k with seen := (i, s.env, o.op, v) :: k.seen } rfl rfl hok ⟨fun _ => ⟨hst, List.mem_cons_self ..⟩, fun hr => absurd hk hr.2, fun p hp => hp, fun p hp => List.mem_cons_of_mem _ hp⟩ h (hG.put v s.mem)
          · cases h
        · rename_i hrd
          exact fin ⟨o, s, v, true, s.mem⟩ _ rfl rfl hok ⟨fun hr => absurd hr.2.2 hrd, fun hr => absurd hk hr.2, fun p hp => hp, fun p hp => hp⟩ h (hG.put v s.mem)
      · cases h

theorem undefs_tr {g : Option (Nat × Bool)} : ∀ (os : List Oper) (i : Nat) (k : Trk) (s : St), (∀ o ∈ os, o.guard = g) → Fallen ops g s.env os →
    ∃ T : List Stp, T.map (·.o) = os ∧ ∀ T2 s2, DTr P cfg C ops bf (i + os.length) k (undefs os s) T2 s2 → DTr P cfg C ops bf i k s (T ++ T2) s2
  | [], i, k, s, _, _ => ⟨[], rfl, fun T2 s2 h => h⟩
  | o :: os, i, k, s, hg, hG => by
    have ho := hg o (by simp)
    obtain ⟨T, h1, h2⟩ := undefs_tr os (i + 1) k (s.put o.dst V.undef) (fun o' ho' => hg o' (by simp [ho'])) (hG.put V.undef)
    refine ⟨⟨o, s, V.undef, false, s.mem⟩ :: T, by simp [h1], fun T2 s2 h => ?_⟩
    refine DTr.cons (x := ⟨o, s, V.undef, false, s.mem⟩) (k' := k) ⟨fun _ => ⟨hG.falls ho, rfl, rfl⟩, by simp, by simp, by simp⟩ ⟨fun hr => by simp [Stp.reads] at hr, fun hr => by simp [Stp.writes] at hr, fun p hp => hp, fun p hp => hp⟩ ?_
    refine h2 T2 s2 ?_
    have : i + 1 + os.length = i + (o :: os).length := by simp; omega
    rw [this]
    exact h

theorem idops_tr : ∀ (grs : List (Option (Nat × Bool) × List Oper)) (i : Nat) (k : Trk) (s : St) {r : Ex × St}, (∀ q ∈ grs, ∀ o ∈ q.2, o.guard = q.1) → idops P cfg C ops bf grs i k s = some r →
    r.1 = .normal ∧ ∃ T : List Stp, T.map (·.o) = grs.flatMap (·.2) ∧ DTr P cfg C ops bf i k s T r.2
  | [], i, k, s, r, _, h => by
    simp only [idops] at h
    cases h
    exact ⟨rfl, [], rfl, .nil i k s⟩
  | (g, os) :: grs, i, k, s, r, hgs, h => by
    have hos : ∀ o ∈ os, o.guard = g := fun o ho => hgs (g, os) (by simp) o ho
    have hrest : ∀ q ∈ grs, ∀ o ∈ q.2, o.guard = q.1 := fun q hq => hgs q (by simp [hq])
    have run : ∀ s2, (match drun P cfg C bf os i k s2 with
        | some (i', k', s') => idops P cfg C ops bf grs i' k' s'
        | none => none) = some r → Guarded ops g s2.env os → r.1 = .normal ∧ ∃ T : List Stp, T.map (·.o) = ((g, os) :: grs).flatMap (·.2) ∧ DTr P cfg C ops bf i k s2 T r.2 := by
      intro s2 h2 hG
      cases hd : drun P cfg C bf os i k s2 with
      | none => rw [hd] at h2; cases h2
      | some q =>
        obtain ⟨i', k', s'⟩ := q
        rw [hd] at h2
        simp only at h2
        obtain ⟨T, h3, h4, h5⟩ := drun_tr os i k s2 hos hG hd
        obtain ⟨h6, T2, h7, h8⟩ := idops_tr grs i' k' s' hrest h2
        exact ⟨h6, T ++ T2, by simp [h3, h7], h5 T2 _ h8⟩
    have skip : Fallen ops g s.env os → idops P cfg C ops bf grs (i + os.length) k (undefs os s) = some r → r.1 = .normal ∧ ∃ T : List Stp, T.map (·.o) = ((g, os) :: grs).flatMap (·.2) ∧ DTr P cfg C ops bf i k s T r.2 := by
      intro hF h2
      obtain ⟨T, h3, h5⟩ := undefs_tr (P := P) (cfg := cfg) (C := C) (bf := bf) os i k s hos hF
      obtain ⟨h6, T2, h7, h8⟩ := idops_tr grs _ k _ hrest h2
      exact ⟨h6, T ++ T2, by simp [h3, h7], h5 T2 _ h8⟩
    cases g with
    | none =>
      simp only [idops] at h
      exact run s h trivial
    | some gw =>
      obtain ⟨gj, want⟩ := gw
      simp only [idops] at h
      cases hgo : guardOf ops gj os with
      | none => rw [hgo] at h; cases h
      | some q =>
        obtain ⟨d, own⟩ := q
        rw [hgo] at h
        simp only at h
        obtain ⟨hslot, hdst⟩ := guardOf_spec hgo
        cases hv : s.env[d]? with
        | none => rw [hv] at h; cases h
        | some v =>
          rw [hv, Option.bind_some] at h
          rcases gate_cases h with ⟨rfl, h3⟩ | ⟨rfl, h3⟩ | ⟨rfl, h3⟩
          · have : s.set d (.bool want) = s := by unfold St.set; rw [set_same hv]
            rw [this] at h3
            exact run s h3 ⟨d, hslot, hv, hdst⟩
          · have : s.set d (.bool !want) = s := by unfold St.set; rw [set_same hv]
            rw [this] at h3
            exact skip ⟨d, hslot, .inl hv, hdst⟩ h3
          · exact skip ⟨d, hslot, .inr hv, hdst⟩ h3

/-! ### what the walk tells of two steps -/
theorem DTr.ok {i : Nat} {k : Trk} {s s' : St} {T : List Stp} (h : DTr P cfg C ops bf i k s T s') : ∀ x ∈ T, StpOk P cfg C ops x := by
  induction h with
  | nil => intro x hx; cases hx
  | cons hok _ _ ih => intro x hx; rcases List.mem_cons.1 hx with rfl | hx; exact hok; exact ih x hx
/-- The state ahead of a step. -/
def stAt (T : List Stp) (s' : St) (q : Nat) : St :=
  match T[q]? with
  | some x => x.pre
  | none => s'
theorem DTr.at0 {i : Nat} {k : Trk} {s s' : St} {T : List Stp} (h : DTr P cfg C ops bf i k s T s') : stAt T s' 0 = s := by
  cases h with
  | nil => rfl
  | cons => rfl
theorem DTr.next {i : Nat} {k : Trk} {s s' : St} {T : List Stp} (h : DTr P cfg C ops bf i k s T s') : ∀ q x, T[q]? = some x → stAt T s' (q + 1) = x.post := by
  induction h with
  | nil => intro q x hx; simp at hx
  | cons hok hw hd ih =>
    intro q x hx
    cases q with
    | zero =>
      simp at hx; subst hx
      have := hd.at0
      simpa [stAt] using this
    | succ q => simpa [stAt] using ih q x (by simpa using hx)
theorem DTr.past {i : Nat} {k : Trk} {s s' : St} {T : List Stp} (h : DTr P cfg C ops bf i k s T s') : ∀ p ∈ k.past, ∀ (q : Nat) (x : Stp), T[q]? = some x → x.reads P → (bf.getD (i + q) 0).testBit p.1 = true ∨ opPure P x.pre.env p.2 x.o.op = some x.v := by
  induction h with
  | nil => intro p _ q x hx; simp at hx
  | @cons i k k' x0 T s' hok hw hd ih =>
    intro p hp q x hx hr
    cases q with
    | zero =>
      simp at hx; subst hx
      have := List.all_eq_true.1 (hw.stood hr).1 p hp
      rw [Bool.or_eq_true] at this
      rcases this with h | h
      · exact .inl h
      · exact .inr (sameO_eq h)
    | succ q =>
      have := ih p (hw.past p hp) q x (by simpa using hx) hr
      rw [show i + (q + 1) = i + 1 + q from by omega]
      exact this
theorem DTr.seen {i : Nat} {k : Trk} {s s' : St} {T : List Stp} (h : DTr P cfg C ops bf i k s T s') : ∀ p ∈ k.seen, ∀ (q : Nat) (x : Stp), T[q]? = some x → x.writes P → (bf.getD (i + q) 0).testBit p.1 = true ∨ opPure P p.2.1 x.mem' p.2.2.1 = some p.2.2.2 := by
  induction h with
  | nil => intro p _ q x hx; simp at hx
  | @cons i k k' x0 T s' hok hw hd ih =>
    intro p hp q x hx hr
    cases q with
    | zero =>
      simp at hx; subst hx
      have := List.all_eq_true.1 (hw.stands hr).1 p hp
      rw [Bool.or_eq_true] at this
      rcases this with h | h
      · exact .inl h
      · exact .inr (sameO_eq h)
    | succ q =>
      have := ih p (hw.seen p hp) q x (by simpa using hx) hr
      rw [show i + (q + 1) = i + 1 + q from by omega]
      exact this
/-- A write, and a read behind it. -/
theorem DTr.write_read {i : Nat} {k : Trk} {s s' : St} {T : List Stp} (h : DTr P cfg C ops bf i k s T s') : ∀ (q1 q2 : Nat) (x1 x2 : Stp), q1 < q2 → T[q1]? = some x1 → T[q2]? = some x2 → x1.writes P → x2.reads P →
    (bf.getD (i + q2) 0).testBit (i + q1) = true ∨ opPure P x2.pre.env x1.pre.mem x2.o.op = some x2.v := by
  induction h with
  | nil => intro q1 q2 x1 x2 _ h1; simp at h1
  | @cons i k k' x0 T s' hok hw hd ih =>
    intro q1 q2 x1 x2 hlt h1 h2 hw1 hr2
    cases q2 with
    | zero => omega
    | succ q2 =>
      rw [show i + (q2 + 1) = i + 1 + q2 from by omega]
      cases q1 with
      | zero =>
        simp at h1; subst h1
        have := hd.past _ (hw.stands hw1).2 q2 x2 (by simpa using h2) hr2
        simpa using this
      | succ q1 =>
        rw [show i + (q1 + 1) = i + 1 + q1 from by omega]
        exact ih q1 q2 x1 x2 (by omega) (by simpa using h1) (by simpa using h2) hw1 hr2
theorem DTr.read_write {i : Nat} {k : Trk} {s s' : St} {T : List Stp} (h : DTr P cfg C ops bf i k s T s') : ∀ (q1 q2 : Nat) (x1 x2 : Stp), q1 < q2 → T[q1]? = some x1 → T[q2]? = some x2 → x1.reads P → x2.writes P →
    (bf.getD (i + q2) 0).testBit (i + q1) = true ∨ opPure P x1.pre.env x2.mem' x1.o.op = some x1.v := by
  induction h with
  | nil => intro q1 q2 x1 x2 _ h1; simp at h1
  | @cons i k k' x0 T s' hok hw hd ih =>
    intro q1 q2 x1 x2 hlt h1 h2 hr1 hw2
    cases q2 with
    | zero => omega
    | succ q2 =>
      rw [show i + (q2 + 1) = i + 1 + q2 from by omega]
      cases q1 with
      | zero =>
        simp at h1; subst h1
        have := hd.seen _ (hw.stood hr1).2 q2 x2 (by simpa using h2) hw2
        simpa using this
      | succ q1 =>
        rw [show i + (q1 + 1) = i + 1 + q1 from by omega]
        exact ih q1 q2 x1 x2 (by omega) (by simpa using h1) (by simpa using h2) hr1 hw2
end
end Go.Ig
