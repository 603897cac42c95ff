/-
  A region whose order is drawn: whatever the order, it comes to what the walk in the text's order comes to.
-/
import Derived.Test.YtcnjllnnhcafbaaDoorIgTrace
set_option linter.unusedVariables false
namespace Go.Ig
open Go

/-! ### what stands before what -/
def beforeG (acc : Array Nat) (o : Oper) : Nat := o.after.foldl (fun s e => if Region.binds .any e then s ||| 2 ^ e.on ||| acc.getD e.on 0 else s) 0

theorem before_step : ∀ (l : List Oper) (acc : Array Nat), acc.size ≤ (l.foldl (fun acc o => acc.push (beforeG acc o)) acc).size ∧ (∀ q, q < acc.size → (l.foldl (fun acc o => acc.push (beforeG acc o)) acc).getD q 0 = acc.getD q 0) ∧
    ∀ (k : Nat) (o : Oper), l[k]? = some o → ∃ accK : Array Nat, accK.size = acc.size + k ∧ (∀ q, q < accK.size → (l.foldl (fun acc o => acc.push (beforeG acc o)) acc).getD q 0 = accK.getD q 0) ∧ (l.foldl (fun acc o => acc.push (beforeG acc o)) acc).getD (acc.size + k) 0 = beforeG accK o
  | [], acc => ⟨Nat.le_refl _, fun _ _ => rfl, fun k o h => by simp at h⟩
  | o :: l, acc => by
    obtain ⟨h1, h2, h3⟩ := before_step l (acc.push (beforeG acc o))
    simp only [List.foldl_cons]
    have hs : (acc.push (beforeG acc o)).size = acc.size + 1 := by simp
    rw [hs] at h1 h2 h3
    have hlow : ∀ q, q < acc.size → (acc.push (beforeG acc o)).getD q 0 = acc.getD q 0 := by
      intro q hq
      simp [Array.getD_eq_getD_getElem?, Array.getElem?_push, Nat.ne_of_lt hq]
    refine ⟨by omega, fun q hq => by rw [h2 q (by omega), hlow q hq], fun k o' hk => ?_⟩
    cases k with
    | zero =>
      simp at hk; subst hk
      refine ⟨acc, rfl, fun q hq => by rw [h2 q (by omega), hlow q hq], ?_⟩
      rw [Nat.add_zero, h2 _ (by omega)]
      simp [Array.getD_eq_getD_getElem?]
    | succ k =>
      obtain ⟨accK, a, b, c⟩ := h3 k o' (by simpa using hk)
      refine ⟨accK, by omega, b, ?_⟩
      rw [show acc.size + (k + 1) = acc.size + 1 + k from by omega]
      exact c

theorem fold_bit {acc : Array Nat} {i : Nat} : ∀ (l : List Edge) (s : Nat), (l.foldl (fun s e => if Region.binds .any e then s ||| 2 ^ e.on ||| acc.getD e.on 0 else s) s).testBit i = true →
    s.testBit i = true ∨ ∃ e ∈ l, Region.binds .any e = true ∧ (i = e.on ∨ (acc.getD e.on 0).testBit i = true)
  | [], s, h => .inl h
  | e :: l, s, h => by
    simp only [List.foldl_cons] at h
    rcases fold_bit l _ h with h | ⟨e', he, hb⟩
    · split at h
      · rename_i hb
        simp only [Nat.testBit_or, Nat.testBit_two_pow, Bool.or_eq_true, decide_eq_true_eq] at h
        rcases h with (h | h) | h
        · exact .inl h
        · exact .inr ⟨e, by simp, hb, .inl h.symm⟩
        · exact .inr ⟨e, by simp, hb, .inr h⟩
      · exact .inl h
    · exact .inr ⟨e', by simp [he], hb⟩

theorem before_spec {ops : Array Oper} {j i : Nat} {o : Oper} (ho : ops[j]? = some o) (h : ((Region.before ops).getD j 0).testBit i = true) :
    ∃ e ∈ o.after, Region.binds .any e = true ∧ (i = e.on ∨ (e.on < j ∧ ((Region.before ops).getD e.on 0).testBit i = true)) := by
  have hb : Region.before ops = ops.toList.foldl (fun acc o => acc.push (beforeG acc o)) #[] := by
    unfold Region.before beforeG
    rw [Array.foldl_toList]
  obtain ⟨-, -, h3⟩ := before_step ops.toList #[]
  obtain ⟨accK, hk, hlow, hval⟩ := h3 j o (by simpa using ho)
  rw [← hb] at hlow hval
  simp only [List.size_toArray, List.length_nil, Nat.zero_add] at hk hval
  rw [hval] at h
  unfold beforeG at h
  rw [← Array.foldl_toList] at h
  rcases fold_bit _ _ h with h | ⟨e, he, hbi, h⟩
  · simp at h
  · refine ⟨e, by simpa using he, hbi, ?_⟩
    rcases h with h | h
    · exact .inl h
    · right
      have hlt : e.on < accK.size := by
        rcases Nat.lt_or_ge e.on accK.size with h2 | h2
        · exact h2
        · rw [Array.getD_eq_getD_getElem?, Array.getElem?_eq_none h2] at h
          simp at h
      rw [hk] at hlt
      exact ⟨hlt, by rw [hlow _ (by omega)]; exact h⟩

theorem before_closed {ops : Array Oper} {S : Nat → Prop} (hS : ∀ i, S i → ∀ o, ops[i]? = some o → ∀ e ∈ o.after, Region.binds .any e = true → S e.on) (hin : ∀ i, S i → i < ops.size) :
    ∀ (j : Nat) (o : Oper), ops[j]? = some o → (∀ e ∈ o.after, Region.binds .any e = true → S e.on) → ∀ i, ((Region.before ops).getD j 0).testBit i = true → S i := by
  intro j
  induction j using Nat.strongRecOn with
  | _ j ih =>
    intro o ho hd i hi
    obtain ⟨e, he, hb, h | ⟨hlt, h⟩⟩ := before_spec ho hi
    · subst h; exact hd e he hb
    · have hSe := hd e he hb
      have hlt2 := hin _ hSe
      have hoe : ops[e.on]? = some ops[e.on] := Array.getElem?_eq_getElem hlt2
      exact ih e.on hlt _ hoe (hS _ hSe _ hoe) i h

theorem first_of {W : Nat → Prop} {p i : Nat} (h : ∃ q, p ≤ q ∧ q < i ∧ W q) : ∃ q, p ≤ q ∧ q < i ∧ W q ∧ ∀ q', p ≤ q' → q' < q → ¬ W q' := by
  obtain ⟨q, hq⟩ := h
  induction q using Nat.strongRecOn with
  | _ q ih =>
    by_cases hx : ∃ q', p ≤ q' ∧ q' < q ∧ W q'
    · obtain ⟨q', a, b, c⟩ := hx
      exact ih q' b ⟨a, by omega, c⟩
    · exact ⟨q, hq.1, hq.2.1, hq.2.2, fun q' a b c => hx ⟨q', a, b, c⟩⟩
theorem last_of {W : Nat → Prop} {i p : Nat} (h : ∃ q, i ≤ q ∧ q < p ∧ W q) : ∃ q, i ≤ q ∧ q < p ∧ W q ∧ ∀ q', q < q' → q' < p → ¬ W q' := by
  obtain ⟨q, hq⟩ := h
  have key : ∀ d q, p - q = d → i ≤ q ∧ q < p ∧ W q → ∃ q, i ≤ q ∧ q < p ∧ W q ∧ ∀ q', q < q' → q' < p → ¬ W q' := by
    intro d
    induction d using Nat.strongRecOn with
    | _ d ih =>
      intro q hd hq
      by_cases hx : ∃ q', q < q' ∧ q' < p ∧ W q'
      · obtain ⟨q', a, b, c⟩ := hx
        exact ih (p - q') (by omega) q' rfl ⟨by omega, b, c⟩
      · exact ⟨q, hq.1, hq.2.1, hq.2.2, fun q' a b c => hx ⟨q', a, b, c⟩⟩
  exact key _ q rfl hq

section
variable {P : Program} {cfg : Cfg} {C : CallT} {ops : Array Oper} {n0 : Nat} {w0 : World} {gs : List Nat} {j0 : J} {m0 : Mem} {ws : World} {N : Nat} {k0 : Trk} {s0 sF : St} {T : List Stp}

structure Drawn (P : Program) (cfg : Cfg) (C : CallT) (ops : Array Oper) (N : Nat) (k0 : Trk) (s0 sF : St) (T : List Stp) : Prop where
  tr : DTr P cfg C ops (Region.before ops) 0 k0 s0 T sF
  map : T.map (·.o) = ops.toList
  ch : chained P ops (Region.before ops) = true
  len : s0.env.length = N
  ds : s0.ds = []

theorem Drawn.at (h : Drawn P cfg C ops N k0 s0 sF T) {i : Nat} {o : Oper} (ho : ops[i]? = some o) : ∃ y, T[i]? = some y ∧ y.o = o := by
  have : (T.map (·.o))[i]? = some o := by rw [h.map]; simpa using ho
  rw [List.getElem?_map] at this
  cases hy : T[i]? with
  | none => rw [hy] at this; cases this
  | some y => rw [hy] at this; exact ⟨y, rfl, by simpa using this⟩
theorem Drawn.op (h : Drawn P cfg C ops N k0 s0 sF T) {i : Nat} {y : Stp} (hy : T[i]? = some y) : ops[i]? = some y.o := by
  have : (T.map (·.o))[i]? = some y.o := by rw [List.getElem?_map, hy]; rfl
  rw [h.map] at this
  simpa using this
theorem Drawn.size (h : Drawn P cfg C ops N k0 s0 sF T) : T.length = ops.size := by
  have := congrArg List.length h.map
  simpa using this

theorem Drawn.after (h : Drawn P cfg C ops N k0 s0 sF T) {i : Nat} {o : Oper} (ho : ops[i]? = some o) : ∀ e ∈ o.after, Region.binds .any e = true → e.on < i := by
  intro e he hb
  have hlt : i < ops.size := (Array.getElem?_eq_some_iff.1 ho).1
  have := List.all_eq_true.1 h.ch i (by simpa using hlt)
  rw [ho] at this
  simp only [Bool.and_eq_true] at this
  have := Array.all_eq_true'.1 this.1 e he
  simpa [hb] using this
theorem Drawn.pair (h : Drawn P cfg C ops N k0 s0 sF T) {i j : Nat} {a b : Oper} (hij : i < j) (ha : ops[i]? = some a) (hb : ops[j]? = some b) :
    (∀ d, a.dst = some d → b.dst ≠ some d) ∧ (((Region.before ops).getD j 0).testBit i = true ∨
      ((kindIn P a.op = .pure ∨ kindIn P b.op = .pure) ∧ (∀ d, a.dst = some d → d ∉ looks ops b) ∧ (∀ d, b.dst = some d → d ∉ looks ops a))) := by
  have hlt : j < ops.size := (Array.getElem?_eq_some_iff.1 hb).1
  have := List.all_eq_true.1 h.ch j (by simpa using hlt)
  rw [hb] at this
  simp only [Bool.and_eq_true] at this
  have := List.all_eq_true.1 this.2 i (by simpa using hij)
  rw [ha] at this
  simp only [Bool.and_eq_true, Bool.or_eq_true] at this
  obtain ⟨h1, h2⟩ := this
  refine ⟨fun d hd => ?_, ?_⟩
  · unfold apart2 at h1
    rw [hd] at h1
    simpa using h1
  · rcases h2 with h2 | h2
    · exact .inl h2
    · right
      unfold free2 at h2
      simp only [Bool.and_eq_true, Bool.or_eq_true, decide_eq_true_eq] at h2
      obtain ⟨⟨h3, h4⟩, h5⟩ := h2
      refine ⟨h3, fun d hd => ?_, fun d hd => ?_⟩
      · rw [hd] at h4; simpa using h4
      · rw [hd] at h5; simpa using h5

theorem Stp.post_env (x : Stp) : x.post.env = match x.o.dst with | some d => x.pre.env.set d x.v | none => x.pre.env := by
  unfold Stp.post St.put
  cases x.o.dst <;> rfl
theorem Stp.post_mem (x : Stp) : x.post.mem = x.mem' := by
  unfold Stp.post St.put
  cases x.o.dst <;> rfl
theorem Stp.post_ds (x : Stp) : x.post.ds = x.pre.ds := by
  unfold Stp.post St.put
  cases x.o.dst <;> rfl
theorem stAt_of {q : Nat} {x : Stp} (h : T[q]? = some x) : stAt T sF q = x.pre := by simp [stAt, h]

theorem Drawn.envs (h : Drawn P cfg C ops N k0 s0 sF T) : ∀ q, q ≤ T.length → (stAt T sF q).env.length = N ∧ (stAt T sF q).ds = [] ∧
    (∀ t, (∀ i y, i < q → T[i]? = some y → y.o.dst ≠ some t) → (stAt T sF q).env[t]? = s0.env[t]?) ∧
    (∀ i y t, i < q → T[i]? = some y → y.o.dst = some t → t < N → (stAt T sF q).env[t]? = some y.v) := by
  intro q
  induction q with
  | zero =>
    intro _
    rw [h.tr.at0]
    exact ⟨h.len, h.ds, fun _ _ => rfl, fun i y t hi => by omega⟩
  | succ q ih =>
    intro hq
    obtain ⟨h1, hd, h2, h3⟩ := ih (by omega)
    obtain ⟨x, hx⟩ : ∃ x, T[q]? = some x := ⟨_, List.getElem?_eq_getElem (by omega)⟩
    rw [h.tr.next q x hx, Stp.post_env, Stp.post_ds]
    rw [stAt_of hx] at h1 h2 h3 hd
    refine ⟨?_, hd, fun t ht => ?_, fun i y t hi hy hdt htN => ?_⟩
    · cases x.o.dst with
      | none => exact h1
      | some d => simpa using h1
    · have hne := ht q x (by omega) hx
      have hold := h2 t fun i y hi hy => ht i y (by omega) hy
      cases hdx : x.o.dst with
      | none => exact hold
      | some d =>
        have : d ≠ t := fun e => hne (by rw [hdx, e])
        simp only
        rw [List.getElem?_set_ne this]
        exact hold
    · by_cases hiq : i = q
      · subst hiq
        rw [hx] at hy; cases hy
        rw [hdt]
        simp only
        rw [List.getElem?_set_self (by rw [h1]; exact htN)]
      · have hiq : i < q := by omega
        have hold := h3 i y t hiq hy hdt htN
        have hne := (h.pair hiq (h.op hy) (h.op hx)).1 t hdt
        cases hdx : x.o.dst with
        | none => exact hold
        | some d =>
          have : d ≠ t := fun e => hne (by rw [hdx, e])
          simp only
          rw [List.getElem?_set_ne this]
          exact hold

def Writes (P : Program) (T : List Stp) (q : Nat) : Prop := ∃ x, T[q]? = some x ∧ x.writes P

theorem Drawn.still (h : Drawn P cfg C ops N k0 s0 sF T) {q : Nat} (hq : q < T.length) (hn : ¬ Writes P T q) : (stAt T sF (q + 1)).mem = (stAt T sF q).mem := by
  obtain ⟨x, hx⟩ : ∃ x, T[q]? = some x := ⟨_, List.getElem?_eq_getElem hq⟩
  rw [h.tr.next q x hx, Stp.post_mem, stAt_of hx]
  have hok := h.tr.ok x (List.mem_of_getElem? hx)
  cases hr : x.ran with
  | false => exact (hok.fall hr).2.2
  | true =>
    by_cases hk : kindIn P x.o.op = .pure
    · exact (hok.pure hr hk).2
    · exact absurd ⟨x, hx, hr, hk⟩ hn
theorem Drawn.between (h : Drawn P cfg C ops N k0 s0 sF T) {p : Nat} : ∀ q, p ≤ q → q ≤ T.length → (∀ q', p ≤ q' → q' < q → ¬ Writes P T q') → (stAt T sF q).mem = (stAt T sF p).mem := by
  intro q
  induction q with
  | zero =>
    intro hp _ _
    have : p = 0 := by omega
    subst this
    rfl
  | succ q ih =>
    intro hp hq hn
    by_cases e : p = q + 1
    · subst e; rfl
    · rw [h.still (by omega) (hn q (by omega) (by omega))]
      exact ih (by omega) (by omega) fun q' a b => hn q' a (by omega)

theorem reads_mem {o : Op} {env : List V} {m m' : Mem} (h : ¬ Ig.reads o = true) : opPure P env m o = opPure P env m' o := by
  cases o <;> first | rfl | (exact absurd rfl h) | (rename_i fn _ _; cases fn <;> rfl)

/-- What a drawn order has done so far. -/
structure Inv (P : Program) (n0 : Nat) (w0 : World) (gs : List Nat) (j0 : J) (m0 : Mem) (ws : World) (N : Nat) (ops : Array Oper) (s0 sF : St) (T : List Stp) (listed : Array Bool) (a : Act) (w : World) : Prop where
  size : listed.size = ops.size
  closed : ∀ i, listed.getD i false = true → ∀ o, ops[i]? = some o → ∀ e ∈ o.after, Region.binds .any e = true → listed.getD e.on false = true
  defers : a.defers = []
  tsize : a.tmps.size = N
  st : ∃ j p, p ≤ T.length ∧ MR P n0 w0 gs j (stAt T sF p).mem w ∧ Grows j0 m0 ws j (stAt T sF p).mem w ∧ (∀ q, Writes P T q → (listed.getD q false = true ↔ q < p)) ∧
    (∀ t x, s0.env[t]? = some x → (∀ i y, listed.getD i false = true → T[i]? = some y → y.o.dst ≠ some t) → ∃ x', a.tmps[t]? = some x' ∧ VR j x x') ∧
    (∀ i y t, listed.getD i false = true → T[i]? = some y → y.o.dst = some t → t < N → ∃ x', a.tmps[t]? = some x' ∧ VR j y.v x')

theorem mask_R {j : J} {env : List V} {vs : List Value} {l : List Nat} (hl : vs.length = env.length) (h : ∀ t ∈ l, ∀ x, env[t]? = some x → ∃ x', vs[t]? = some x' ∧ VR j x x') : VRs j (forgetBut l 0 env) vs := by
  have key : ∀ (env : List V) (vs : List Value) (i : Nat), vs.length = env.length → (∀ t x, i + t ∈ l → env[t]? = some x → ∃ x', vs[t]? = some x' ∧ VR j x x') → VRs j (forgetBut l i env) vs := by
    intro env
    induction env with
    | nil => intro vs i hl _; rw [List.length_eq_zero_iff.1 hl]; exact .nil
    | cons v r ih =>
      intro vs i hl h
      cases vs with
      | nil => simp at hl
      | cons v' r' =>
        simp only [forgetBut]
        refine .cons ?_ (ih r' (i + 1) (by simpa using hl) fun t x ht hx => ?_)
        · split
          · rename_i hc
            obtain ⟨x', h1, h2⟩ := h 0 v (by simpa using hc) rfl
            simp at h1; subst h1; exact h2
          · exact .any _
        · have := h (t + 1) x (by rw [show i + (t + 1) = i + 1 + t from by omega]; exact ht) (by simpa using hx)
          simpa using this
  exact key env vs 0 hl fun t x ht hx => h t (by simpa using ht) x hx
theorem mask_get {l : List Nat} {t : Nat} (h : t ∈ l) : ∀ (env : List V), (forgetBut l 0 env)[t]? = env[t]? := by
  have key : ∀ (env : List V) (i t : Nat), i + t ∈ l → (forgetBut l i env)[t]? = env[t]? := by
    intro env
    induction env with
    | nil => intro i t _; rfl
    | cons v r ih =>
      intro i t ht
      simp only [forgetBut]
      cases t with
      | zero => simp only [Nat.add_zero] at ht; simp [ht]
      | succ t => simpa using ih (i + 1) t (by rw [show i + 1 + t = i + (t + 1) from by omega]; exact ht)
  intro env
  exact key env 0 t (by simpa using h)
theorem mask_agree {o : Oper} {env : List V} : Agree P o.op env (forgetBut (looks ops o) 0 env) := by
  intro x hx
  cases x with
  | tmp t =>
    have : t ∈ looks ops o := by
      unfold looks
      refine List.mem_append_left _ (List.mem_filterMap.2 ⟨.tmp t, by simpa using hx, rfl⟩)
    simp only [evO, mask_get this]
  | _ => rfl

theorem slot_looks {o : Oper} {g : Nat} {want : Bool} {d : Tmp} (hg : o.guard = some (g, want)) (hs : slotOf ops g = some d) : d ∈ looks ops o := by
  unfold looks
  refine List.mem_append_right _ ?_
  rw [hg]
  simp [hs]

theorem put_at {a : Act} {d : Option Tmp} {v' : Value} {t : Tmp} (h : d ≠ some t) : (a.put d v').tmps[t]? = a.tmps[t]? := by
  cases d with
  | none => rfl
  | some e =>
    have : e ≠ t := fun h2 => h (by rw [h2])
    simp [Act.put, Array.getElem?_setIfInBounds_ne this]
theorem put_here {a : Act} {v' : Value} {t : Tmp} (h : t < a.tmps.size) : (a.put (some t) v').tmps[t]? = some v' := by
  simp [Act.put, h]
theorem put_size {a : Act} {d : Option Tmp} {v' : Value} : (a.put d v').tmps.size = a.tmps.size := by
  cases d <;> simp [Act.put]
theorem put_defers' {a : Act} {d : Option Tmp} {v' : Value} : (a.put d v').defers = a.defers := by
  cases d <;> rfl

theorem getD_set {l : Array Bool} {i k : Nat} (hi : i < l.size) : (l.setIfInBounds i true).getD k false = true ↔ k = i ∨ l.getD k false = true := by
  simp only [Array.getD_eq_getD_getElem?, Array.getElem?_setIfInBounds]
  by_cases h : i = k
  · subst h; simp [hi]
  · simp [h]
    intro e
    exact absurd e.symm h

/-- One operation more. -/
theorem Inv.step (hX : ExtOk P cfg) (hC : CallOk P C) (h : Drawn P cfg C ops N k0 s0 sF T) {listed : Array Bool} {a : Act} {w : World} (hI : Inv P n0 w0 gs j0 m0 ws N ops s0 sF T listed a w) {i : Nat} (hi : i ∈ Region.ready .any ops listed)
    {Q : Exit → Act → World → Prop} {K : Act → World → Prop} (hK : ∀ a' w', Inv P n0 w0 gs j0 m0 ws N ops s0 sF T (listed.setIfInBounds i true) a' w' → K a' w') : wpOp P ops Q i K a w := by
  -- the operation
  unfold Region.ready at hi
  obtain ⟨hin, hcond⟩ := List.mem_filter.1 hi
  have hin : i < ops.size := by simpa using hin
  simp only [Bool.and_eq_true, Bool.not_eq_true'] at hcond
  obtain ⟨hun, hafter⟩ := hcond
  have ho : ops[i]? = some ops[i] := Array.getElem?_eq_getElem hin
  generalize ops[i] = o at ho
  rw [ho] at hafter
  simp only [Option.map_some, Option.getD_some] at hafter
  have hafter : ∀ e ∈ o.after, Region.binds .any e = true → listed.getD e.on false = true := by
    intro e he hb
    have := Array.all_eq_true'.1 hafter e he
    simpa [hb] using this
  have hls : i < listed.size := by rw [hI.size]; exact hin
  have hun : ¬ listed.getD i false = true := by
    have : listed[i]? = some listed[i] := Array.getElem?_eq_getElem hls
    rw [Array.getD_eq_getD_getElem?, this] at hun ⊢
    simpa using hun
  have hinn : ∀ k, listed.getD k false = true → k < ops.size := by
    intro k hk
    rcases Nat.lt_or_ge k listed.size with h2 | h2
    · rw [← hI.size]; exact h2
    · rw [Array.getD_eq_getD_getElem?, Array.getElem?_eq_none h2] at hk
      cases hk
  have hbefore : ∀ k, ((Region.before ops).getD i 0).testBit k = true → listed.getD k false = true := before_closed (S := fun k => listed.getD k false = true) hI.closed hinn i o ho hafter
  have hlater : ∀ k b, listed.getD k false = true → ops[k]? = some b → ¬ ((Region.before ops).getD k 0).testBit i = true := by
    intro k b hk hb hbit
    exact hun (before_closed (S := fun k => listed.getD k false = true) hI.closed hinn k b hb (hI.closed k hk b hb) i hbit)
  obtain ⟨y, hy, hyo⟩ := h.at ho
  subst hyo
  have hok := h.tr.ok y (List.mem_of_getElem? hy)
  have hsize := h.size
  obtain ⟨hlen, hds, hold, hnew⟩ := h.envs i (by omega)
  rw [stAt_of hy] at hlen hds hold hnew
  obtain ⟨j, p, hp, hM, hG, hW, hE1, hE2⟩ := hI.st
  -- what it looks at
  have hlook : ∀ t ∈ looks ops y.o, ∀ x, y.pre.env[t]? = some x → ∃ x', a.tmps[t]? = some x' ∧ VR j x x' := by
    intro t ht x hx
    by_cases hex : ∃ k z, k < i ∧ T[k]? = some z ∧ z.o.dst = some t
    · obtain ⟨k, z, hki, hz, hzt⟩ := hex
      have htN : t < N := by rw [← hlen]; exact (List.getElem?_eq_some_iff.1 hx).1
      have hv := hnew k z t hki hz hzt htN
      rw [hx] at hv; cases hv
      rcases (h.pair hki (h.op hz) ho).2 with hb | ⟨-, hb, -⟩
      · exact hE2 k z t (hbefore k hb) hz hzt htN
      · exact absurd ht (hb t hzt)
    · have hx0 := hold t fun k z hk hz hzt => hex ⟨k, z, hk, hz, hzt⟩
      rw [hx0] at hx
      refine hE1 t x hx fun k z hk hz hzt => ?_
      rcases Nat.lt_trichotomy k i with hlt | rfl | hgt
      · exact hex ⟨k, z, hlt, hz, hzt⟩
      · exact hun hk
      · rcases (h.pair hgt ho (h.op hz)).2 with hb | ⟨-, -, hb⟩
        · exact hlater k _ hk (h.op hz) hb
        · exact absurd ht (hb t hzt)
  have hmask : VRs j (forgetBut (looks ops y.o) 0 y.pre.env) a.tmps.toList := by
    refine mask_R (by rw [Array.length_toList, hI.tsize, hlen]) fun t ht x hx => ?_
    simpa using hlook t ht x hx
  -- what is so when it is done
  have hclosed : ∀ k, (listed.setIfInBounds i true).getD k false = true → ∀ b, ops[k]? = some b → ∀ e ∈ b.after, Region.binds .any e = true → (listed.setIfInBounds i true).getD e.on false = true := by
    intro k hk b hb e he hbi
    rw [getD_set hls] at hk ⊢
    right
    rcases hk with rfl | hk
    · rw [ho] at hb; cases hb
      exact hafter e he hbi
    · exact hI.closed k hk b hb e he hbi
  have done : ∀ (j' : J) (p' : Nat) (w' : World) (v' : Value), p' ≤ T.length → VR j' y.v v' → j.le j' → MR P n0 w0 gs j' (stAt T sF p').mem w' → Grows j0 m0 ws j' (stAt T sF p').mem w' →
      (∀ q, Writes P T q → ((listed.setIfInBounds i true).getD q false = true ↔ q < p')) → K (a.put y.o.dst v') w' := by
    intro j' p' w' v' hp' hv hle hM' hG' hW'
    refine hK _ _ ⟨by simpa using hI.size, hclosed, by rw [put_defers']; exact hI.defers, by rw [put_size]; exact hI.tsize, j', p', hp', hM', hG', hW', ?_, ?_⟩
    · intro t x hx hno
      have hnt := hno i y (by rw [getD_set hls]; exact .inl rfl) hy
      rw [put_at hnt]
      obtain ⟨x', h1, h2⟩ := hE1 t x hx fun k z hk hz => hno k z (by rw [getD_set hls]; exact .inr hk) hz
      exact ⟨x', h1, h2.mono hle⟩
    · intro k z t hk hz hzt htN
      rw [getD_set hls] at hk
      by_cases hki : k = i
      · subst hki
        rw [hy] at hz; cases hz
        rw [hzt, put_here (by rw [hI.tsize]; exact htN)]
        exact ⟨v', rfl, hv⟩
      · have hk : listed.getD k false = true := hk.resolve_left hki
        have hne : y.o.dst ≠ some t := by
          intro e
          rcases Nat.lt_or_gt_of_ne hki with hlt | hgt
          · exact (h.pair hlt (h.op hz) ho).1 t hzt e
          · exact (h.pair hgt ho (h.op hz)).1 t e hzt
        rw [put_at hne]
        obtain ⟨x', h1, h2⟩ := hE2 k z t hk hz hzt htN
        exact ⟨x', h1, h2.mono hle⟩
  have same : ¬ Writes P T i → ∀ q, Writes P T q → ((listed.setIfInBounds i true).getD q false = true ↔ q < p) := by
    intro hnw q hq
    rw [getD_set hls]
    have hqi : q ≠ i := by rintro rfl; exact hnw hq
    rw [← hW q hq]
    exact ⟨fun h => h.resolve_left hqi, .inr⟩
  unfold wpOp
  rw [ho]
  simp only
  cases hr : y.ran with
  | false =>
    obtain ⟨hfall, hv, -⟩ := hok.fall hr
    have hnw : ¬ Writes P T i := by rintro ⟨x, hx, hx2, -⟩; rw [hy] at hx; cases hx; rw [hr] at hx2; cases hx2
    have hnot : ¬ Region.wanted y.o (yielded ops a.tmps) = true := by
      unfold Falls at hfall
      unfold Region.wanted
      cases hg : y.o.guard with
      | none => rw [hg] at hfall; exact hfall.elim
      | some gw =>
        obtain ⟨g, want⟩ := gw
        rw [hg] at hfall
        obtain ⟨d, hs, hv⟩ := hfall
        have hd := slot_looks hg hs
        rcases hv with hv | hv
        · rw [← mask_get hd] at hv
          simp only [yielded_bool hmask hs hv]
          cases want <;> decide
        · rw [← mask_get hd] at hv
          simp [yielded_undef hmask hs hv]
    rw [if_neg hnot]
    exact done j p w undef hp (by rw [hv]; exact .undef) (fun _ _ _ h => h) hM hG (same hnw)
  | true =>
    have hstand := hok.stand hr
    have hwant : Region.wanted y.o (yielded ops a.tmps) = true := by
      unfold Stands at hstand
      unfold Region.wanted
      cases hg : y.o.guard with
      | none => rfl
      | some gw =>
        obtain ⟨g, want⟩ := gw
        rw [hg] at hstand
        obtain ⟨d, hs, hv⟩ := hstand
        rw [← mask_get (slot_looks hg hs)] at hv
        simp [yielded_bool hmask hs hv]
    rw [if_pos hwant]
    left
    have hagree : Agree P y.o.op y.pre.env (forgetBut (looks ops y.o) 0 y.pre.env) := mask_agree
    by_cases hk : kindIn P y.o.op = .pure
    · have hnw : ¬ Writes P T i := by rintro ⟨x, hx, -, hx2⟩; rw [hy] at hx; cases hx; exact hx2 hk
      obtain ⟨hval, -⟩ := hok.pure hr hk
      have hvalp : opPure P y.pre.env (stAt T sF p).mem y.o.op = some y.v := by
        by_cases hrd : Ig.reads y.o.op = true
        · rcases Nat.lt_or_ge i p with hip | hpi
          · by_cases hex : ∃ q, i + 1 ≤ q ∧ q < p ∧ Writes P T q
            · obtain ⟨q, h1, h2, h3, h4⟩ := last_of hex
              have hm := h.between (p := q + 1) p (by omega) hp fun q' a b => h4 q' (by omega) b
              obtain ⟨z, hz, hzw⟩ := h3
              have hSq := (hW q ⟨z, hz, hzw⟩).2 h2
              rw [hm, h.tr.next q z hz, Stp.post_mem]
              rcases h.tr.read_write i q y z (by omega) hy hz ⟨hr, hk, hrd⟩ hzw with hb | hb
              · simp only [Nat.zero_add] at hb
                exact absurd hb (hlater q _ hSq (h.op hz))
              · exact hb
            · have hm := h.between (p := i) p (by omega) hp fun q' a b hw => by
                by_cases e : q' = i
                · subst e; exact hnw hw
                · exact hex ⟨q', by omega, b, hw⟩
              rw [hm, stAt_of hy]
              exact hval
          · by_cases hex : ∃ q, p ≤ q ∧ q < i ∧ Writes P T q
            · obtain ⟨q, h1, h2, h3, h4⟩ := first_of hex
              have hm := h.between (p := p) q h1 (by omega) fun q' a b => h4 q' a b
              obtain ⟨z, hz, hzw⟩ := h3
              rw [← hm, stAt_of hz]
              rcases h.tr.write_read q i z y h2 hz hy hzw ⟨hr, hk, hrd⟩ with hb | hb
              · simp only [Nat.zero_add] at hb
                have := (hW q ⟨z, hz, hzw⟩).1 (hbefore q hb)
                omega
              · exact hb
            · have hm := h.between (p := p) i hpi (by omega) fun q' a b hw => hex ⟨q', a, b, hw⟩
              rw [← hm, stAt_of hy]
              exact hval
        · rw [reads_mem (m' := y.pre.mem) hrd]
          exact hval
      rw [opPure_congr _ hagree] at hvalp
      obtain ⟨v', hrun, hv⟩ := opPure_R hM hmask y.o hvalp
      unfold Oper.wp
      rw [hrun]
      exact done j p w v' hp hv (fun _ _ _ h => h) hM hG (same hnw)
    · have hiw : Writes P T i := ⟨y, hy, hr, hk⟩
      have hpi : p ≤ i := by
        rcases Nat.lt_or_ge i p with h2 | h2
        · exact absurd ((hW i hiw).2 h2) hun
        · exact h2
      have hprior : ∀ q, q < i → Writes P T q → listed.getD q false = true := by
        rintro q hq ⟨z, hz, hzr, hzk⟩
        rcases (h.pair hq (h.op hz) ho).2 with hb | ⟨hb | hb, -, -⟩
        · exact hbefore q hb
        · exact absurd hb hzk
        · exact absurd hb hk
      have hnext : ∀ q, i < q → Writes P T q → ¬ listed.getD q false = true := by
        rintro q hq ⟨z, hz, hzr, hzk⟩ hS
        rcases (h.pair hq ho (h.op hz)).2 with hb | ⟨hb | hb, -, -⟩
        · exact hlater q _ hS (h.op hz) hb
        · exact absurd hb hk
        · exact absurd hb hzk
      have hmem : (stAt T sF p).mem = y.pre.mem := by
        have := h.between (p := p) i hpi (by omega) fun q a b hw => by
          have := (hW q hw).1 (hprior q b hw); omega
        rw [← this, stAt_of hy]
      rw [hmem] at hM hG
      have hiop := hok.mem hr hk
      have hiopM : iop P cfg C { y.pre with env := forgetBut (looks ops y.o) 0 y.pre.env } y.o.op = some (.ok y.v { y.pre with env := forgetBut (looks ops y.o) 0 y.pre.env, mem := y.mem' }) := by
        unfold iop at hiop ⊢
        cases hkk : kindIn P y.o.op with
        | pure => exact absurd hkk hk
        | new =>
          rw [hkk] at hiop
          simp only at hiop ⊢
          rw [← opNew_congr _ hagree]
          cases hn : opNew P y.pre.env y.pre.mem y.o.op with
          | none => rw [hn] at hiop; cases hiop
          | some q =>
            rw [hn] at hiop
            simp only [Option.map_some, Option.some.injEq, Res.ok.injEq] at hiop ⊢
            obtain ⟨h1, h2⟩ := hiop
            refine ⟨h1, ?_⟩
            have : q.2 = y.mem' := congrArg St.mem h2
            rw [this]
        | eff =>
          rw [hkk] at hiop
          simp only at hiop ⊢
          rw [opEff_congr hagree, hiop]
          rfl
      refine iop_R (s := { y.pre with env := forgetBut (looks ops y.o) 0 y.pre.env }) hX hC hM hmask y.o hiopM ?_ ?_
      · intro v m' j' w' v' hq hv hM' hG'
        cases hq
        have hnx : (stAt T sF (i + 1)).mem = y.mem' := by rw [h.tr.next i y hy, Stp.post_mem]
        refine done j' (i + 1) w' v' (by omega) hv hG'.ext (by rw [hnx]; exact hM') (by rw [hnx]; exact hG.trans hG') fun q hq => ?_
        rw [getD_set hls]
        constructor
        · rintro (rfl | hS)
          · omega
          · rcases Nat.lt_trichotomy q i with h2 | h2 | h2
            · omega
            · omega
            · exact absurd hS (hnext q h2 hq)
        · intro hlt
          rcases Nat.lt_or_ge q i with h2 | h2
          · exact .inr (hprior q h2 hq)
          · left; omega
      · intro v m' j' w' v' hq
        cases hq

theorem filter_less {α : Type} {p p' : α → Bool} : ∀ (l : List α), (∀ x ∈ l, p' x = true → p x = true) → (∃ x ∈ l, p x = true ∧ p' x = false) → (l.filter p').length < (l.filter p).length
  | [], _, h => by obtain ⟨x, hx, -⟩ := h; cases hx
  | x :: l, hle, h => by
    have le : ∀ l : List α, (∀ x ∈ l, p' x = true → p x = true) → (l.filter p').length ≤ (l.filter p).length := by
      intro l
      induction l with
      | nil => intro _; simp
      | cons y l ih =>
        intro hl
        have := ih fun z hz => hl z (by simp [hz])
        simp only [List.filter_cons]
        have hy := hl y (by simp)
        split
        · rename_i h1
          rw [if_pos (hy h1)]
          simpa using this
        · split
          · simp; omega
          · exact this
    simp only [List.filter_cons]
    obtain ⟨y, hy, hp, hp'⟩ := h
    rcases List.mem_cons.1 hy with rfl | hy
    · rw [if_pos hp, if_neg (by simp [hp'])]
      have := le l fun z hz => hle z (by simp [hz])
      simp; omega
    · have := filter_less l (fun z hz => hle z (by simp [hz])) ⟨y, hy, hp, hp'⟩
      have hx := hle x (by simp)
      split
      · rename_i h1
        rw [if_pos (hx h1)]
        simpa using this
      · split
        · simp; omega
        · exact this

def unlisted (ops : Array Oper) (listed : Array Bool) : Nat := ((List.range ops.size).filter fun i => !listed.getD i false).length

theorem Inv.all (h : Drawn P cfg C ops N k0 s0 sF T) {listed : Array Bool} {a : Act} {w : World} (hI : Inv P n0 w0 gs j0 m0 ws N ops s0 sF T listed a w) (hr : Region.ready .any ops listed = []) : ∀ i, i < ops.size → listed.getD i false = true := by
  intro i
  induction i using Nat.strongRecOn with
  | _ i ih =>
    intro hi
    cases hl : listed.getD i false with
    | true => rfl
    | false =>
      exfalso
      have ho : ops[i]? = some ops[i] := Array.getElem?_eq_getElem hi
      have hls : i < listed.size := by rw [hI.size]; exact hi
      have hl2 : listed.getD i true = false := by
        have : listed[i]? = some listed[i] := Array.getElem?_eq_getElem hls
        rw [Array.getD_eq_getD_getElem?, this] at hl ⊢
        simpa using hl
      have : i ∈ Region.ready .any ops listed := by
        unfold Region.ready
        refine List.mem_filter.2 ⟨by simpa using hi, ?_⟩
        rw [hl2, ho]
        simp only [Bool.not_false, Option.map_some, Option.getD_some, Bool.true_and]
        refine Array.all_eq_true'.2 fun e he => ?_
        cases hb : Region.binds .any e with
        | false => rfl
        | true =>
          have hlt := h.after ho e he hb
          simpa using ih e.on hlt (by omega)
      rw [hr] at this
      cases this

theorem any_R (hX : ExtOk P cfg) (hC : CallOk P C) (h : Drawn P cfg C ops N k0 s0 sF T) {Q : Exit → Act → World → Prop} (hQ : ∀ j' a' w', SR P n0 w0 gs j0 m0 ws N j' sF a' w' → Q .normal a' w') :
    ∀ (fuel : Nat) (listed : Array Bool) (a : Act) (w : World), unlisted ops listed ≤ fuel → Inv P n0 w0 gs j0 m0 ws N ops s0 sF T listed a w → wpAny P .any ops Q fuel listed a w := by
  have last : ∀ (listed : Array Bool) (a : Act) (w : World), Inv P n0 w0 gs j0 m0 ws N ops s0 sF T listed a w → (∀ i, i < ops.size → listed.getD i false = true) → Q .normal a w := by
    intro listed a w hI hall
    obtain ⟨j, p, hp, hM, hG, hW, hE1, hE2⟩ := hI.st
    have hsize := h.size
    obtain ⟨hlen, hds, hold, hnew⟩ := h.envs T.length (Nat.le_refl _)
    have hF : stAt T sF T.length = sF := by simp [stAt]
    rw [hF] at hlen hds hold hnew
    have hmem := h.between (p := p) T.length hp (Nat.le_refl _) fun q a b hw => by
      have := (hW q hw).1 (hall q (by omega)); omega
    rw [hF] at hmem
    rw [← hmem] at hM hG
    refine hQ j a w ⟨hM, VRs.of_get (by rw [Array.length_toList, hI.tsize, hlen]) fun t x hx => ?_, hds, hI.defers, hG, hlen⟩
    have htN : t < N := by rw [← hlen]; exact (List.getElem?_eq_some_iff.1 hx).1
    by_cases hex : ∃ k z, k < T.length ∧ T[k]? = some z ∧ z.o.dst = some t
    · obtain ⟨k, z, hk, hz, hzt⟩ := hex
      have hv := hnew k z t hk hz hzt htN
      rw [hx] at hv; cases hv
      simpa using hE2 k z t (hall k (by omega)) hz hzt htN
    · have hx0 := hold t fun k z hk hz hzt => hex ⟨k, z, hk, hz, hzt⟩
      rw [hx0] at hx
      simpa using hE1 t x hx fun k z _ hz hzt => hex ⟨k, z, (List.getElem?_eq_some_iff.1 hz).1, hz, hzt⟩
  intro fuel
  induction fuel with
  | zero =>
    intro listed a w hu hI
    have hall : ∀ i, i < ops.size → listed.getD i false = true := by
      intro i hi
      have hnil : (List.range ops.size).filter (fun i => !listed.getD i false) = [] := List.length_eq_zero_iff.1 (Nat.le_zero.1 hu)
      have := List.filter_eq_nil_iff.1 hnil i (by simpa using hi)
      simpa using this
    refine ⟨?_, last listed a w hI hall⟩
    unfold Region.ready
    refine List.filter_eq_nil_iff.2 fun i hi => ?_
    have hi : i < ops.size := by simpa using hi
    have h1 := hall i hi
    have hls : i < listed.size := by rw [hI.size]; exact hi
    have : listed[i]? = some listed[i] := Array.getElem?_eq_getElem hls
    rw [Array.getD_eq_getD_getElem?, this] at h1 ⊢
    simp only [Option.getD_some] at h1 ⊢
    simp [h1]
  | succ fuel ih =>
    intro listed a w hu hI
    refine ⟨fun hr => last listed a w hI (hI.all h hr), fun i hi => ?_⟩
    refine hI.step hX hC h hi fun a' w' hI' => ih _ a' w' ?_ hI'
    unfold Region.ready at hi
    obtain ⟨hin, hcond⟩ := List.mem_filter.1 hi
    have hin : i < ops.size := by simpa using hin
    have hls : i < listed.size := by rw [hI.size]; exact hin
    simp only [Bool.and_eq_true, Bool.not_eq_true'] at hcond
    have hun : listed.getD i false = false := by
      have h1 := hcond.1
      have : listed[i]? = some listed[i] := Array.getElem?_eq_getElem hls
      rw [Array.getD_eq_getD_getElem?, this] at h1 ⊢
      simpa using h1
    have hlt : unlisted ops (listed.setIfInBounds i true) < unlisted ops listed := by
      refine filter_less _ (fun k _ hk => ?_) ⟨i, by simpa using hin, by rw [hun]; rfl, ?_⟩
      · simp only [Bool.not_eq_true'] at hk ⊢
        cases hl : listed.getD k false with
        | false => rfl
        | true =>
          have := (getD_set (k := k) hls).2 (.inr hl)
          rw [this] at hk; cases hk
      · have := (getD_set (k := i) hls).2 (.inl rfl)
        rw [this]; rfl
    omega

/-- A region whose order is drawn. -/
theorem draw_R (hmix : P.follows .mixedOrders = true) (hX : ExtOk P cfg) (hC : CallOk P C) {id : Nat} {Q : Exit → Act → World → Prop} {r : Ex × St} {s : St} {j : J} {a : Act} {w : World} (hch : chained P ops (Region.before ops) = true) (h : idops P cfg C ops (Region.before ops) (grouped ops.toList) 0 ⟨[], []⟩ s = some r) (hS : SR P n0 w0 gs j0 m0 ws N j s a w)
    (hQ : ∀ j' e a' w', ExR j' r.1 e → SR P n0 w0 gs j0 m0 ws N j' r.2 a' w' → Q e a' w') : (Code.region id ops true).wp P Q a w := by
  obtain ⟨h1, h2⟩ := grouped_spec ops.toList
  obtain ⟨hn, T, hmap, htr⟩ := idops_tr (grouped ops.toList) 0 ⟨[], []⟩ s h2 h
  rw [h1] at hmap
  have hD : Drawn P cfg C ops N ⟨[], []⟩ s r.2 T := ⟨htr, hmap, hch, hS.len, hS.ds⟩
  refine wp_region_any hmix ?_
  have hM : MR P n0 w0 gs j s.mem { w with drawn := w.drawn + 1 } := hS.mem.drew
  have hG : Grows j0 m0 ws j s.mem { w with drawn := w.drawn + 1 } := ⟨hS.grow.ext, hS.grow.len, hS.grow.guard, hS.grow.size, hS.grow.keepR, hS.grow.keepI, hS.grow.newR⟩
  have hfalse : ∀ i, ¬ (Array.replicate ops.size false).getD i false = true := by
    intro i
    simp only [Array.getD_eq_getD_getElem?, Array.getElem?_replicate]
    split <;> simp
  have h0 := htr.at0
  refine any_R hX hC hD (fun j' a' w' hS' => hQ j' .normal a' w' (by rw [hn]; trivial) hS') ops.size _ a _ ?_
    ⟨by simp, fun i hi => absurd hi (hfalse i), hS.defers, by rw [← hS.len, ← hS.env.len, Array.length_toList], j, 0, Nat.zero_le _, by rw [h0]; exact hM, by rw [h0]; exact hG, fun q _ => ⟨fun h => absurd h (hfalse q), fun h => by omega⟩,
      fun t x hx _ => by simpa using hS.env.get hx, fun i y t hi => absurd hi (hfalse i)⟩
  unfold unlisted
  exact Nat.le_trans (List.length_filter_le _ _) (by simp)
end
end Go.Ig
