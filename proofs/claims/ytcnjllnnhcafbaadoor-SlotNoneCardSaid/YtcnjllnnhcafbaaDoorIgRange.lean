/-
  A range over a map, its rounds in whatever order: told by an invariant over what has been met.
-/
import Derived.Test.YtcnjllnnhcafbaaDoorIgSum
import Derived.Maps.RangeRun
set_option linter.unusedVariables false
namespace Go.Ig
open Go

section
variable {P : Program} {cfg : Cfg} {j : J} {w : World} {n0 : Nat} {w0 : World} {gs : List Nat} {m : Mem} {a : Act} {j0 : J} {m0 : Mem} {ws : World} {N : Nat}

/-- Blocks of which nothing more is asked. -/
def Swept (objs objs' : List Obj) : Prop := objs'.length = objs.length ∧ ∀ (i : Nat) (o' : Obj), objs'[i]? = some o' → objs[i]? = some o' ∨ (o' = .dead ∧ ∃ ob, objs[i]? = some ob ∧ ob.gen = 0)
theorem MR.sweep (hM : MR P n0 w0 gs j m w) {objs' : List Obj} (hs : Swept m.objs objs') : MR P n0 w0 gs j { m with objs := objs' } w := by
  obtain ⟨hl, hs⟩ := hs
  refine ⟨?_, fun k g L h => by simpa [hl] using hM.dom k g L h, ?_, hM.old, hM.n0le, hM.glob, by simpa [hl] using hM.gle, ?_, ?_, hM.str⟩
  · intro k o L hk hL
    rcases hs k o hk with hk | ⟨rfl, ob, hk, hg⟩
    · exact hM.objs k o L hk hL
    · trivial
  · intro k k' o o' L L' hk hk' hL hL' hm hm' he
    rcases hs k o hk with hk | ⟨rfl, -⟩
    · rcases hs k' o' hk' with hk' | ⟨rfl, -⟩
      · exact hM.sep k k' o o' L L' hk hk' hL hL' hm hm' he
      · cases hm'
    · cases hm
  · intro k o g L hk hL
    rcases hs k o hk with hk | ⟨rfl, ob, hk, hg⟩
    · exact hM.gens k o g L hk hL
    · have := hM.gens k ob g L hk hL
      rw [hg] at this
      exact this
  · intro gd hgd
    refine ⟨(hM.low gd hgd).1, fun k o L hlt hk hL => ?_⟩
    rcases hs k o hk with hk | ⟨rfl, -⟩
    · exact (hM.low gd hgd).2 k o L hlt hk hL
    · trivial
theorem Grows.sweep {m' : Mem} {j' : J} {w' : World} (h : Grows j m w j' m' w') {objs' : List Obj} (hl : objs'.length = m'.objs.length) (hk : ∀ i, i < m.objs.length → (∀ g, j i g = none) → objs'[i]? = m'.objs[i]?) : Grows j m w j' { m' with objs := objs' } w' :=
  ⟨h.ext, by simpa [hl] using h.len, h.guard, h.size, h.keepR, fun i hi hn => ⟨(hk i hi hn).trans (h.keepI i hi hn).1, (h.keepI i hi hn).2⟩, h.newR⟩

theorem EsR.mem {es : List (V × V × Nat)} {es' : List MapEntry} (h : EsR j es es') {e' : MapEntry} (he : e' ∈ es') : ∃ k v, (k, v, e'.born) ∈ es ∧ VR j k e'.key ∧ VR j v e'.val := by
  induction h with
  | nil => cases he
  | @cons k v k' v' n r r' hk hv _ ih =>
    rcases List.mem_cons.1 he with rfl | he
    · exact ⟨k, v, by simp, hk, hv⟩
    · obtain ⟨k2, v2, h1, h2, h3⟩ := ih he
      exact ⟨k2, v2, by simp [h1], h2, h3⟩
theorem EsR.stamps {es : List (V × V × Nat)} {es' : List MapEntry} (h : EsR j es es') : es'.map (·.born) = es.map (·.2.2) := by
  induction h with
  | nil => rfl
  | cons _ _ _ ih => simp [ih]

/-- The state in which a round begins, or the loop ends. -/
def atNext (b r since last : Nat) (seen : List Nat) (d0 d1 : Nat) (x : V) (t : Bool) (s : St) : St :=
  { env := (s.env.set d0 x).set d1 (.bool t), ds := s.ds, mem := s.mem.setObj b (.iter (some r) since seen last) }

structure Shape (ops : Array Oper) (it d0 d1 : Tmp) : Prop where
  op0 : ∃ o0 o1, ops.toList = [o0, o1] ∧ o0.op = .next (.tmp it) false ∧ o0.dst = some d0 ∧ o0.guard = none ∧ o1.op = .extract (.tmp d0) 0 ∧ o1.dst = some d1 ∧ o1.guard = none

/-- A plain way through. -/
def cfgH : Cfg := { live := fun _ _ => none, gc := fun _ => false, ext := fun _ => none, sum := fun _ => none, hook := fun _ _ => none }
def noCall : CallT := fun _ _ _ => none
theorem noCall_ok (P : Program) : CallOk P noCall := ⟨fun f args m out m' h => by simp [noCall] at h, fun l args m => rfl⟩

theorem wanted_none {o : Oper} {y : Nat → Option Bool} (h : o.guard = none) : Region.wanted o y = true := by
  unfold Region.wanted; rw [h]

/-- The loop's head and what follows: the state behind the head is one of the evaluator's. -/
theorem rangeLoop_R (hmix : P.follows .mixedOrders = true) (hX : ExtOk P cfg) (hH : HookOk P cfg) {f : FuncId} {n : Nat} {k0 x : Nat} {ops : Array Oper} {tail : Code} {it d0 d1 : Tmp} (hsh : Shape ops it d0 d1) (hp : ∀ b ∈ blocks tail, (hookOf cfg f b.2).isSome = true → Piece P f b)
    {l : List Nat} {b r since clock : Nat} {es : List (V × V × Nat)} (hes : ∀ e ∈ es, e.2.2 < since) (hnd : (es.map (·.2.2)).Nodup)
    {Inv : List Nat → St → Prop} (hinv : ∀ seen s, Inv seen s → s.env[it]? = some (.ptr b 0 0) ∧ (∃ last, since ≤ last ∧ s.mem.objs[b]? = some (.iter (some r) since seen last)) ∧ s.mem.objs[r]? = some (.map es clock) ∧ since ≤ clock ∧ it < s.env.length ∧ d0 < s.env.length ∧ d1 < s.env.length ∧ d0 ≠ d1)
    (hstep : ∀ seen s k v q, Inv seen s → (k, v, q) ∈ es → q ∉ seen → ∃ s2, iev P cfg noCall n f tail (atNext b r since clock (seen ++ [q]) d0 d1 (.tuple [.bool true, k, v]) true s) = some (.normal, s2) ∧ Inv (seen ++ [q]) { s2 with env := forgetBut l 0 s2.env })
    {s' : St} (hstop : ∀ seen s last, Inv seen s → (∀ e ∈ es, e.2.2 ∈ seen) → s.mem.objs[b]? = some (.iter (some r) since seen last) → ∃ s2, iev P cfg noCall n f tail (atNext b r since last seen d0 d1 (.tuple [.bool false]) false s) = some (.exit x, s2) ∧ s'.env = forgetBut l 0 s2.env ∧ s'.ds = s2.ds ∧ s'.mem.guard = s2.mem.guard ∧ Swept s2.mem.objs s'.mem.objs ∧ ∀ i, i < m0.objs.length → (∀ g, j0 i g = none) → s'.mem.objs[i]? = s2.mem.objs[i]?)
    {Q : Exit → Act → World → Prop}
    (hQ : ∀ j' a' w', SR P n0 w0 gs j0 m0 ws N j' s' a' w' → Q (.exit x) a' w') :
    ∀ (c : Nat) (seen : List Nat) (s : St) (j : J) (a : Act) (w : World), (es.filter fun e => !seen.contains e.2.2).length < c → Inv seen s → SR P n0 w0 gs j0 m0 ws N j s a w → LoopWp P (.seq (.region k0 ops false) tail) Q a w := by
  intro c
  induction c with
  | zero => intro seen s j a w hc; omega
  | succ c ih =>
    intro seen s j a w hc hI hS
    obtain ⟨hit, ⟨last, hsl, hob⟩, hmap, hsc, l1, l2, l3, hne⟩ := hinv seen s hI
    obtain ⟨o0, o1, hops, h0, hd0, hg0, h1, hd1, hg1⟩ := hsh.op0
    obtain ⟨itv, hitv, hitr⟩ := hS.env.get hit
    cases hitr with | ptr hL => ?_
    rename_i L
    obtain ⟨⟨hn0, hs0⟩, L', hL', hheap⟩ := hS.mem.objs b _ L hob hL
    obtain ⟨-, es', hmheap, hR⟩ := hS.mem.objs r _ L' hmap hL'
    have hst := hR.stamps
    have hold : ∀ y ∈ (⟨es'⟩ : Array MapEntry).toList, y.born < since := by
      intro y hy
      obtain ⟨k, v, hm, -, -⟩ := hR.mem (e' := y) (by simpa using hy)
      exact hes _ hm
    have heval : a.eval (.tmp it) = .pointer (some ⟨L.c, 0, none⟩) := by
      obtain ⟨v', hv', hr'⟩ := getD_some hS.env hit
      show a.tmps.getD it undef = _
      have e : a.tmps[it]? = some (.pointer (some ⟨L.c, L.s + 0, none⟩)) := by simpa using hitv
      simp [Array.getD_eq_getD_getElem?, e, hs0]
    -- the two operations ahead, whatever the first tells
    have head : ∀ {x' : Value} {xv : V} {t : Bool} {w2 : World} {m2 : Mem} {j2 : J}, (Instr.next (.pointer (some ⟨L.c, 0, none⟩)) false o0.type).run P w = .ok x' w2 → VR j2 xv x' → extractV xv 0 = some (.bool t) → MR P n0 w0 gs j2 m2 w2 → Grows j s.mem w j2 m2 w2 →
        ∀ {R : Exit → Act → World → Prop}, (∀ a2, SR P n0 w0 gs j0 m0 ws N j2 { env := (s.env.set d0 xv).set d1 (.bool t), ds := s.ds, mem := m2 } a2 w2 → R .normal a2 w2) → wpList P ops R ops.toList a w := by
      intro x' xv t w2 m2 j2 hrun hxv hex hM2 hG2 R hR2
      rw [hops]
      unfold wpList
      rw [if_pos (wanted_none hg0)]
      left
      have hexec : (execOp a.eval o0).run P w = .ok (.value x') w2 := by
        simp only [execOp, h0, heval, Sem.run_bind, hrun, Result.andThen_ok, Sem.run_pure]
      unfold Oper.wp
      rw [hexec, Oper.upon_value]
      have S1 := hS.put hxv hM2 hG2 o0.dst
      rw [hd0] at S1 ⊢
      unfold wpList
      rw [if_pos (wanted_none hg1)]
      left
      have hx0 : (({ s with mem := m2 } : St).put (some d0) xv).env[d0]? = some xv := by simp [St.put, l2]
      obtain ⟨v1, hv1, hr1⟩ := getD_some S1.env hx0
      obtain ⟨v', hv', hr'⟩ := extract_R (P := P) (w := w2) hr1 hex
      have hexec1 : (execOp (a.put (some d0) x').eval o1).run P w2 = .ok (.value v') w2 := by
        have : (a.put (some d0) x').eval (.tmp d0) = v1 := hv1
        simp only [execOp, h1, this, Sem.run_bind, hv', Result.andThen_ok, Sem.run_pure]
      unfold Oper.wp
      rw [hexec1, Oper.upon_value]
      have S2 := S1.put0 hr' o1.dst
      rw [hd1] at S2 ⊢
      unfold wpList
      exact hR2 _ S2
    refine LoopWp.step (wp_seq (wp_region_list ?_))
    rcases run_next_at (P := P) w o0.type L.c L'.c since last ⟨seen⟩ ⟨es'⟩ clock hheap hmheap hold hsl with ⟨hz, hrun⟩ | ⟨e', he', w1, hw1, hrun⟩
    · -- nothing is left
      have hall : ∀ e ∈ es, e.2.2 ∈ seen := by
        intro e he
        have : e.2.2 ∈ es'.map (·.born) := by rw [hst]; exact List.mem_map_of_mem he
        obtain ⟨y, hy, hyb⟩ := List.mem_map.1 this
        have hl : leftOf ⟨es'⟩ ⟨seen⟩ = #[] := Array.eq_empty_of_size_eq_zero hz
        unfold leftOf at hl
        rw [Array.filter_eq_empty_iff] at hl
        have := hl y (by simpa using hy)
        rw [← hyb]
        simpa using this
      obtain ⟨s2, hev, he1, he2, he3, hsw, hkp⟩ := hstop seen s last hI hall hob
      refine head (j2 := j) hrun (.tuple (.cons (.bool false) .nil)) rfl hS.mem (.refl _ _ _) (fun a2 S2 => ?_)
      have hsame : atNext b r since last seen d0 d1 (.tuple [.bool false]) false s = { env := (s.env.set d0 (.tuple [.bool false])).set d1 (.bool false), ds := s.ds, mem := s.mem } := by
        unfold atNext
        congr 1
        have : s.mem.objs.set b (.iter (some r) since seen last) = s.mem.objs := by
          apply List.ext_getElem?
          intro q
          by_cases hq : b = q
          · subst hq; rw [List.getElem?_set_self (List.getElem?_eq_some_iff.1 hob).1, hob]
          · rw [List.getElem?_set_ne hq]
        simp [Mem.setObj, this]
      rw [hsame] at hev
      refine iev_R hmix hX hH (noCall_ok P) tail hp _ j a2 w _ _ hev S2 ?_
      intro j' e a' w' hE hS'
      cases e <;> first | exact hE.elim | skip
      have hE : x = _ := hE
      subst hE
      refine hQ j' a' w' ?_
      have hmask := hS'.mask (l := l)
      have hmem : s'.mem = ⟨s'.mem.objs, s2.mem.guard⟩ := by rw [← he3]
      refine ⟨by rw [hmem]; exact hmask.mem.sweep hsw, by rw [he1]; exact hmask.env, by rw [he2]; exact hmask.ds, hmask.defers, by rw [hmem]; exact hmask.grow.sweep hsw.1 hkp, by rw [he1]; exact hmask.len⟩
    · -- an entry
      have hnew : e'.born ∉ seen := by
        have := (Array.mem_filter.1 (Array.mem_toList_iff.1 he')).2
        simpa using this
      have hin : e' ∈ es' := by
        have := (Array.mem_filter.1 (Array.mem_toList_iff.1 he')).1
        simpa using this
      obtain ⟨k, v, hkv, hkr, hvr⟩ := hR.mem hin
      obtain ⟨s2, hev, hI2⟩ := hstep seen s k v e'.born hI hkv hnew
      have hM1 : MR P n0 w0 gs j s.mem w1 := by
        rcases hw1 with rfl | rfl
        · exact hS.mem
        · exact hS.mem.drew
      have hh1 : w1.heap = w.heap := by rcases hw1 with rfl | rfl <;> rfl
      have hstr1 : Strm w w1 := by rcases hw1 with rfl | rfl <;> exact ⟨rfl, rfl, rfl⟩
      have hLc := (hS.mem.dom _ _ _ hL).2
      have hjid := J.new_id (g := 0) (i := b) (L := L) (j := j) hL
      have hwr := hM1.write (ob' := .iter (some r) since (seen ++ [e'.born]) clock) (w' := ChangeMaps.setBlock w1 L.c (.mapIter (some L'.c) since ((⟨seen⟩ : Array Nat).push e'.born) clock)) (L' := L) hob hL rfl (.inl ⟨rfl, rfl⟩) (.inl ⟨rfl, by simp [ChangeMaps.setBlock]⟩)
        (fun q _ hq => by simp [ChangeMaps.setBlock, Array.getElem?_setIfInBounds_ne hq.symm]) ⟨rfl, rfl, rfl⟩
        (by
          rw [show (Obj.iter (some r) since (seen ++ [e'.born]) clock).gen = 0 from rfl, hjid]
          refine ⟨⟨hn0, hs0⟩, L', hL', ?_⟩
          have : L.c < w1.heap.size := by rw [hh1]; exact hLc
          simp [ChangeMaps.setBlock, this])
        (fun gd hgd hlt => by have := (hS.mem.low gd hgd).2 b _ L hlt hob hL; exact this)
      rw [show (Obj.iter (some r) since (seen ++ [e'.born]) clock).gen = 0 from rfl, hjid] at hwr
      have hG1 : Grows j s.mem w j s.mem w1 := by
        rcases hw1 with rfl | rfl
        · exact .refl _ _ _
        · exact (hS.mem.frame (w' := w.drew) (Nat.le_refl _) (fun _ _ => rfl) ⟨rfl, rfl, rfl⟩).2
      refine head hrun (.tuple (.cons (.bool true) (.cons hkr (.cons hvr .nil)))) rfl hwr.1 (hG1.trans hwr.2) (fun a2 S2 => ?_)
      refine iev_R hmix hX hH (noCall_ok P) tail hp _ j a2 _ _ _ hev S2 ?_
      intro j' e a' w' hE hS'
      cases e <;> first | exact hE.elim | skip
      refine ih (seen ++ [e'.born]) _ j' a' w' ?_ hI2 hS'.mask
      -- one fewer is left
      have key : ∀ (l : List (V × V × Nat)), ((k, v, e'.born) ∈ l) → (l.filter fun e => !(seen ++ [e'.born]).contains e.2.2).length < (l.filter fun e => !seen.contains e.2.2).length := by
        intro l hl
        have sub : (l.filter fun e => !(seen ++ [e'.born]).contains e.2.2) = (l.filter fun e => !seen.contains e.2.2).filter fun e => !(e.2.2 == e'.born) := by
          rw [List.filter_filter]
          congr 1
          funext e
          simp
          cases hh : (e.2.2 == e'.born) <;> simp_all
        rw [sub]
        refine Nat.lt_of_le_of_ne (List.length_filter_le _ _) fun he => ?_
        have := List.length_filter_eq_length_iff.1 he (k, v, e'.born) (List.mem_filter.2 ⟨hl, by simpa using hnew⟩)
        simp at this
      have := key es hkv
      omega
end
end Go.Ig
