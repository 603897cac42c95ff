/-
  The operations that make a block.
-/
import Derived.Test.YtcnjllnnhcafbaaDoorIgMem
import Derived.Laws.IdiomRangeMap
namespace Go.Ig
open Go

section
variable {P : Program} {j : J} {w w' : World} {n0 : Nat} {w0 : World} {gs : List Nat} {m : Mem}

theorem map_one {cs : List V} {cs' : List Value} (h : VRs j cs cs') (h1 : cs.all V.one = true) : ∀ v' ∈ cs', v'.oneCell' = true := by
  induction cs generalizing cs' with
  | nil => cases h; simp
  | cons c cs ih =>
    cases h with
    | cons hv hr =>
      simp only [List.all_cons, Bool.and_eq_true] at h1
      intro v' hv'
      rcases List.mem_cons.1 hv' with rfl | hm
      · cases hv <;> simp [V.one] at h1 <;> rfl
      · exact ih hr h1.2 v' hm
theorem bytes_one (us : List UInt8) : ∀ v' ∈ us.map byteC, v'.oneCell' = true := by
  intro v' h
  obtain ⟨b, -, rfl⟩ := List.mem_map.1 h
  rfl

/-- A new row's content, as it lies in the world that has it. -/
theorem mkRow_R {t : TypeId} {md : Mode} {cs : List V} {cs' extra : List Value} {ob : Obj} {e : TypeId} {fr : Nat × Nat} {b : Nat} {room : Option Nat} (hmk : mkRow P t cs md = some ob) (hcs : VRs j cs cs') (hn0 : n0 ≤ b)
    (hh : w'.heap[b]? = some (.cells ⟨cs' ++ extra⟩ e fr)) (hfr : fr.1 = fr.2 ∨ (cs' ++ extra).length ≤ fr.1)
    (hmode : (md = .exact ∧ room = none) ∨ ∃ g, md = .vec g ∧ room = some (cs' ++ extra).length) :
    ObjR j n0 w' ⟨b, 0, room⟩ ob ∧ ob.gen = md.gen ∧ ob.mine = true := by
  have hblk : Blk w' b (cs' ++ extra).length := ⟨_, e, fr, hh, rfl, hfr⟩
  have hmd : modeR n0 w' md ⟨b, 0, room⟩ := by
    rcases hmode with ⟨rfl, rfl⟩ | ⟨g, rfl, rfl⟩
    · exact ⟨rfl, rfl, hn0, _, hblk⟩
    · exact ⟨rfl, hn0, _, rfl, hblk⟩
  have hmw : md.writes = true := by rcases hmode with ⟨rfl, -⟩ | ⟨g, rfl, -⟩ <;> rfl
  have hcell : ∀ k, k < cs'.length → w'.cell? ⟨b, 0 + k, none⟩ = cs'[k]? := by
    intro k hk
    simp [World.cell?, hh, List.getElem?_append, hk]
  unfold mkRow at hmk
  split at hmk
  · cases hu : toU8 cs with
    | none => rw [hu] at hmk; cases hmk
    | some us =>
      rw [hu] at hmk; cases hmk
      rw [toU8_eq hu] at hcs
      have hb := hcs.bytes
      refine ⟨⟨fun k x hx => ?_, hmd⟩, rfl, hmw⟩
      have hlt : k < us.length := (List.getElem?_eq_some_iff.1 hx).1
      rw [hcell k (by rw [hb]; simpa using hlt), hb]
      simp [hx, byteC]
  · split at hmk
    · cases hmk
      refine ⟨⟨fun k v hv => ?_, hmd⟩, rfl, hmw⟩
      obtain ⟨v', hv', hr⟩ := hcs.get hv
      refine ⟨v', ?_, hr⟩
      rw [hcell k (List.getElem?_eq_some_iff.1 hv').1]
      exact hv'
    · cases hmk

theorem run_newRow (e : TypeId) (cells : Array Value) : (newRow e cells).run P w = .ok ⟨w.heap.size, 0, none⟩ (w.alloc (.cells cells e)) := by
  simp [newRow]

/-- What a new block comes to, all told. -/
structure Made (P : Program) (n0 : Nat) (w0 : World) (gs : List Nat) (j : J) (m : Mem) (w : World) (v : V) (v' : Value) (m' : Mem) (w' : World) : Prop where
  mk ::
  ex : ∃ j', VR j' v v' ∧ MR P n0 w0 gs j' m' w' ∧ Grows j m w j' m' w'

theorem alloc_R (hM : MR P n0 w0 gs j m w) {t : TypeId} {cs : List V} {cs' extra : List Value} {ob : Obj} {md : Mode} {e : TypeId} {fr : Nat × Nat} {room : Option Nat} {w' : World} (hmk : mkRow P t cs md = some ob) (hcs : VRs j cs cs')
    (hh : w'.heap = w.heap.push (.cells ⟨cs' ++ extra⟩ e fr)) (hstr : Strm w w') (hfr : fr.1 = fr.2 ∨ (cs' ++ extra).length ≤ fr.1)
    (hmode : (md = .exact ∧ room = none) ∨ ∃ g, md = .vec g ∧ room = some (cs' ++ extra).length) :
    ∃ j', j' m.objs.length md.gen = some ⟨w.heap.size, 0, room⟩ ∧ MR P n0 w0 gs j' (m.add ob) w' ∧ Grows j m w j' (m.add ob) w' := by
  have hget : w'.heap[w.heap.size]? = some (.cells ⟨cs' ++ extra⟩ e fr) := by rw [hh]; simp
  obtain ⟨hob, hgen, hmine⟩ := mkRow_R (j := j) (b := w.heap.size) (room := room) hmk hcs hM.n0le hget hfr hmode
  have hk : ∀ c, c < w.heap.size → w'.heap[c]? = w.heap[c]? := by
    intro c hc
    rw [hh, Array.getElem?_push_lt hc]
    simp [hc]
  obtain ⟨hM', hG⟩ := hM.alloc room (by rw [hh]; simp) hk hstr hob
  exact ⟨_, by rw [← hgen]; exact J.new_same _ _ _ _, hM', hG⟩

theorem flat_repl {α : Type} [Inhabited α] (z : List α) (n : Nat) : (List.range (n * z.length)).map (fun i => z[i % z.length]!) = (List.replicate n z).flatten := by
  induction n with
  | zero => simp
  | succ n ih =>
    have h1 : List.range ((n + 1) * z.length) = List.range (n * z.length) ++ (List.range z.length).map (n * z.length + ·) := by
      rw [Nat.add_mul, Nat.one_mul, List.range_add]
    rw [h1, List.map_append, ih, List.replicate_succ', List.flatten_append]
    congr 1
    simp only [List.map_map, List.flatten_cons, List.flatten_nil, List.append_nil]
    apply List.ext_getElem
    · simp
    · intro i h2 h3
      have hi : i < z.length := by simpa using h3
      simp only [List.getElem_map, List.getElem_range, Function.comp]
      rw [Nat.mul_comm, Nat.mul_add_mod, Nat.mod_eq_of_lt hi]
      simp [hi]
theorem repl_R {zs : List V} {zs' : List Value} (h : VRs j zs zs') : ∀ n, VRs j (repl n zs) (List.replicate n zs').flatten
  | 0 => by simpa [repl] using VRs.nil
  | n + 1 => by
    simp only [repl, List.replicate_succ, List.flatten_cons]
    exact h.append (repl_R h n)
theorem made_eq (z : Array Value) (n : Nat) (size : Nat) (hz : z.size = size) : (madeCells z (n * size)).toList = (List.replicate n z.toList).flatten := by
  subst hz
  rw [← flat_repl]
  simp [madeCells]
  intro a _
  rw [getElem!_def]
  cases z[a % z.size]? <;> rfl

theorem no_frozen (n : Nat) : ∀ k, k < n → ¬ ((0, 0) : Nat × Nat).1 ≤ k ∧ k < ((0, 0) : Nat × Nat).2 → False := by
  intro k _ h; exact absurd h.2 (Nat.not_lt_zero k)

theorem zeroRun {t : TypeId} {z : V} (h : zeroOf P t = some z) : ∃ i z', P.info? t = some i ∧ i.zero = some z' ∧ VR j z z' ∧ z.known = true ∧ (zeroValue t).run P w = .ok z' w := by
  obtain ⟨i, z', hi, hz', hr, hk⟩ := zero_R (j := j) h
  exact ⟨i, z', hi, hz', hr, hk, by simp [zeroValue, typeInfo, hi, hz']⟩

theorem newVar_R (hM : MR P n0 w0 gs j m w) {t : TypeId} {v : V} {v' : Value} {ob : Obj} (hv : VR j v v') (hk : v.known = true) (hmk : mkRow P t v.cells .exact = some ob) :
    ∃ w' j', (newVar t v').run P w = .ok ⟨w.heap.size, 0, none⟩ w' ∧ VR j' (.ptr m.objs.length 0 0) (.pointer (some ⟨w.heap.size, 0, none⟩)) ∧ MR P n0 w0 gs j' (m.add ob) w' ∧ Grows j m w j' (m.add ob) w' := by
  have hcs := hv.cells_R hk
  obtain ⟨j', hj, hM', hG⟩ := alloc_R (extra := []) (e := t) (fr := (0, 0)) (room := none) (w' := w.alloc (.cells v'.cells t)) hM hmk hcs (by rw [List.append_nil]; rfl) ⟨rfl, rfl, rfl⟩ (.inl rfl) (.inl ⟨rfl, rfl⟩)
  exact ⟨_, j', run_newRow t v'.cells, .ptr hj, hM', hG⟩

theorem known_of_row {t : TypeId} {v : V} {ob : Obj} (h : mkRow P t v.cells .exact = some ob) : v.known = true := by
  cases v <;> first | rfl | (simp only [V.cells, mkRow] at h; split at h <;> simp [toU8, V.one] at h)

variable {env : List V} {a : Act}
theorem toU8_map : ∀ l : List UInt8, toU8 (l.map V.u8) = some l
  | [] => rfl
  | x :: l => by simp [toU8, toU8_map l]
theorem value_run' {s : Sem Value} {v : Value} {w w' : World} (h : s.run P w = .ok v w') : (do pure (Next.value (← s)) : Sem Next).run P w = .ok (.value v) w' := by
  simp only [Sem.run_bind, h, Result.andThen_ok, Sem.run_pure]
theorem opNew_R (hM : MR P n0 w0 gs j m w) (hE : VRs j env a.tmps.toList) (o : Oper) {v : V} {m' : Mem} (h : opNew P env m o.op = some (v, m')) (hkind : kindIn P o.op = .new) :
    ∃ v' w' j', (execOp a.eval o).run P w = .ok (.value v') w' ∧ VR j' v v' ∧ MR P n0 w0 gs j' m' w' ∧ Grows j m w j' m' w' := by
  obtain ⟨dst, op, type, pos, after, guard⟩ := o
  simp only at h hkind
  unfold opNew at h
  split at h
  · rename_i t
    unfold allocV at h
    obtain ⟨z, hz, h⟩ := Option.bind_eq_some_iff.1 h
    obtain ⟨ob, hob, h⟩ := Option.bind_eq_some_iff.1 h
    cases h
    obtain ⟨i, z', hi, hz', hr, hk, hrun⟩ := zeroRun (j := j) (w := w) hz
    obtain ⟨w', j', hw, hv, hM', hG⟩ := newVar_R hM hr hk hob
    refine ⟨_, w', j', ?_, hv, hM', hG⟩
    simp only [execOp, Instr.alloc, Sem.run_bind, hrun, hw, Result.andThen_ok, Sem.run_pure]
  · rename_i t x
    obtain ⟨xv, hx, h⟩ := Option.bind_eq_some_iff.1 h
    unfold boxV at h
    obtain ⟨ob, hob, h⟩ := Option.bind_eq_some_iff.1 h
    cases h
    obtain ⟨w', j', hw, hv, hM', hG⟩ := newVar_R hM (evO_R hM hE hx) (known_of_row hob) hob
    refine ⟨_, w', j', ?_, hv, hM', hG⟩
    simp only [execOp, Instr.box, Sem.run_bind, hw, Result.andThen_ok, Sem.run_pure]
  · rename_i t n ps
    obtain ⟨vs, hvs, h⟩ := Option.bind_eq_some_iff.1 h
    unfold buildSliceV at h
    split at h
    · rename_i e hd
      obtain ⟨size, hs, h⟩ := Option.bind_eq_some_iff.1 h
      obtain ⟨z, hz, h⟩ := Option.bind_eq_some_iff.1 h
      split at h
      · rename_i hc
        obtain ⟨hzl, hlim⟩ := hc
        obtain ⟨cs, hcs, h⟩ := Option.bind_eq_some_iff.1 h
        obtain ⟨ob, hob, h⟩ := Option.bind_eq_some_iff.1 h
        cases h
        obtain ⟨i, z', hi, hz', hr, hk, hrun⟩ := zeroRun (j := j) (w := w) hz
        have hzc := hr.cells_R hk
        have hzs : z'.cells.size = size := by rw [← hzl, ← hzc.len]; simp
        have hrep := repl_R hzc n
        have hmade : ((Array.range (n * size)).map (z'.cells[· % z'.cells.size]!)).toList = (List.replicate n z'.cells.toList).flatten := made_eq z'.cells n size hzs
        rw [← hmade] at hrep
        obtain ⟨r', hr', hrr⟩ := fill_R (evParts_R hM hE hvs) hrep hcs
        obtain ⟨j', hj, hM', hG⟩ := alloc_R (extra := []) (e := e) (fr := (0, 0)) (room := none) (w' := w.alloc (.cells r' e)) hM hob hrr (by rw [List.append_nil]; rfl) ⟨rfl, rfl, rfl⟩ (.inl rfl) (.inl ⟨rfl, rfl⟩)
        refine ⟨.slice (some ⟨w.heap.size, 0, none⟩) n n, _, j', ?_, .slice hj (by simp [capR]) (Nat.le_refl _), hM', hG⟩
        have hps : (ps.map fun (i, x) => (i, a.eval x)) = ((ps.toList.map fun p => (p.1, a.eval p.2)).toArray) := by
          rw [← Array.toList_map, Array.toArray_toList]
        have hr0 : ∀ f : Nat → Value, (Array.range 0).map f = #[] := fun f => by simp
        simp only [execOp, hps, Instr.buildSlice, Sem.run_bind, run_under hd, run_szO hs, Result.andThen_ok]
        rw [if_neg (by omega)]
        by_cases h0 : n * size = 0
        · rw [if_pos h0]
          rw [h0, hr0] at hr'
          simp only [Sem.run_bind, Sem.run_pure, Result.andThen_ok, h0, hr0, hr', run_newRow]
        · rw [if_neg h0]
          simp only [Sem.run_bind, hrun, Sem.run_pure, Result.andThen_ok, hr', run_newRow]
      · cases h
    · cases h
  · rename_i t b x
    obtain ⟨xv, hx, h⟩ := Option.bind_eq_some_iff.1 h
    have hxr := evO_R hM hE hx
    unfold bytesOfV at h
    split at h
    · rename_i e1 e q g o z len cap hsrc hd
      split at h
      · rename_i hc
        obtain ⟨hbt, hab⟩ := hc
        split at h
        · rename_i l md hob
          split at h
          · rename_i hc
            obtain ⟨hgen, hw⟩ := hc
            cases h
            subst hab
            subst hgen
            obtain rfl : e = e1 := by have := hd.symm.trans hsrc; simpa using this
            have he : P.underlying e = some (.int .u8) := by
              unfold isByte at hbt
              split at hbt
              · assumption
              · cases hbt
            simp only [execOp]
            generalize a.eval x = x' at hxr ⊢
            cases hxr with | slice hL hcap hl => ?_
            rename_i cap' L
            have hO := hM.objs q _ L hob hL
            have hblk : ∃ n, Blk w L.c n := by
              obtain ⟨-, hm⟩ := hO
              cases md with
              | ro => cases hw
              | exact => exact hm.2.2.2
              | vec _ => obtain ⟨-, -, n, -, hb⟩ := hm; exact ⟨n, hb⟩
            obtain ⟨n, cells, elem, fr, hheap, hsz, hfr⟩ := hblk
            have hlt : L.c < w.heap.size := (hM.dom _ _ _ hL).2
            obtain ⟨lo, hi⟩ := fr
            have hh' : (w.freeze ⟨L.c, n, none⟩ 1).heap[L.c]? = some (.cells cells elem (if (lo == hi) = true then (n, n + 1) else (min lo n, max hi (n + 1)))) := by
              simp only [World.freeze]
              rw [if_neg (by decide)]
              simp only [Array.getElem?_modify, if_true, hheap, Option.map_some]
            have ho' : ∀ c, c ≠ L.c → (w.freeze ⟨L.c, n, none⟩ 1).heap[c]? = w.heap[c]? := by
              intro c hc
              simp only [World.freeze]
              rw [if_neg (by decide)]
              simp only [Array.getElem?_modify]
              rw [if_neg (fun h => hc h.symm)]
            have hs' : (w.freeze ⟨L.c, n, none⟩ 1).heap.size = w.heap.size := by
              simp only [World.freeze]
              rw [if_neg (by decide)]
              simp
            have hb' : ∀ k, Blk w L.c k → Blk (w.freeze ⟨L.c, n, none⟩ 1) L.c k := by
              rintro k ⟨c2, e2, f2, h2, s2, f2'⟩
              rw [hheap] at h2
              cases h2
              refine ⟨_, _, _, hh', s2, ?_⟩
              by_cases hlh : lo = hi
              · subst hlh; simp; omega
              · have : (lo == hi) = false := by simpa using hlh
                simp only [this]
                simp only [Bool.false_eq_true, if_false]
                right
                rcases hfr with h | h
                · exact absurd h hlh
                · simp only at h; omega
            have hO' : ObjR j n0 (w.freeze ⟨L.c, n, none⟩ 1) L (.u8 l md) := by
              refine ⟨fun k b hk => ?_, ?_⟩
              · have := hO.1 k b hk
                simp only [World.cell?, hheap] at this
                simp only [World.cell?, hh']
                exact this
              · obtain ⟨-, hm⟩ := hO
                cases md with
                | ro => cases hw
                | exact => obtain ⟨a1, b1, c1, n1, h1⟩ := hm; exact ⟨a1, b1, c1, n1, hb' n1 h1⟩
                | vec _ => obtain ⟨a1, b1, n1, c1, h1⟩ := hm; exact ⟨a1, b1, n1, c1, hb' n1 h1⟩
            have hj : j.new q (Obj.u8 l md).gen L = j := by
              funext b g'
              by_cases e : b = q ∧ g' = (Obj.u8 l md).gen
              · obtain ⟨rfl, rfl⟩ := e; rw [J.new_same]; exact hL.symm
              · exact J.new_other e
            have hmine : (Obj.u8 l md).mine = true := hw
            have hset : m.setObj q (.u8 l md) = m := by
              unfold Mem.setObj
              have hq : q < m.objs.length := (List.getElem?_eq_some_iff.1 hob).1
              have : m.objs.set q (.u8 l md) = m.objs := by
                apply List.ext_getElem?
                intro i
                rw [List.getElem?_set]
                by_cases hi : q = i
                · subst hi; rw [if_pos rfl, if_pos hq, hob]
                · rw [if_neg hi]
              rw [this]
            have := hM.write (w' := w.freeze ⟨L.c, n, none⟩ 1) (ob' := .u8 l md) (L' := L) hob hL hmine (.inl ⟨rfl, rfl⟩) (.inl ⟨rfl, hs'⟩) (fun c _ hne => ho' c hne) ⟨rfl, rfl, rfl⟩ (by rw [hj]; exact hO') (fun gd hgd hlt => (hM.low gd hgd).2 q _ L hlt hob hL)
            rw [hj, hset] at this
            obtain ⟨hM', hG⟩ := this
            refine ⟨.slice (some ⟨L.c, L.s + o, none⟩) len cap', _, j, ?_, .slice hL hcap hl, hM', hG⟩
            apply value_run'
            have hshape : w.shape? L.c = some (elem, n) := by simp [World.shape?, hheap, hsz]
            simp only [Go.convert, Sem.run_bind, run_under hsrc, Result.andThen_ok, run_under he, markStringish, run_shape, hshape, beq_self_eq_true, run_freeze, Sem.run_pure]
          · cases h
        · cases h
      · cases h
    · rename_i e l hsrc hd
      split at h
      · rename_i hc
        obtain ⟨hbt, hlen⟩ := hc
        cases h
        have he : P.underlying e = some (.int .u8) := by
          unfold isByte at hbt
          split at hbt
          · assumption
          · cases hbt
        have hu8 : isU8 P e = true := by simp [isU8, he]
        have hmk : mkRow P e (l.map V.u8) (.vec 0) = some (.u8 l (.vec 0)) := by simp [mkRow, hu8, toU8_map]
        simp only [execOp]
        generalize a.eval x = x' at hxr ⊢
        cases hxr with | str s => ?_
        let cap := Question.cut (.appendCap s.size 0 e) (w.tape w.drawn (.appendCap s.size 0 e))
        have hcap : s.size ≤ cap := Nat.le_add_right _ _
        have hl : s.data.toList.length = s.size := Array.length_toList
        let cells : Array Value := (s.data.map fun b => .int .u8 (b.toNat : Int)) ++ Array.replicate (cap - s.size) (.int .u8 0)
        have hsz : cells.size = cap := by
          simp only [cells, Array.size_append, Array.size_map, Array.size_replicate]
          have : s.data.size = s.size := rfl
          omega
        have hcells : cells = ⟨s.data.toList.map byteC ++ List.replicate (cap - s.size) (.int .u8 0)⟩ := by
          apply Array.ext'
          simp [cells, byteC]
        have hlen2 : (s.data.toList.map byteC ++ List.replicate (cap - s.size) (Value.int .u8 0)).length = cap := by
          have := hsz
          rw [hcells] at this
          exact this
        let w2 : World := { w.drew with heap := w.heap.push (.cells cells e (cap, cap + 1)) }
        have hrun : (Conv.stringToBytes e s).run P w = .ok (.slice (some ⟨w.heap.size, 0, none⟩) s.size cap) w2 := by
          unfold Conv.stringToBytes
          have hch : (choose (.appendCap s.size 0 e)).run P w = .ok cap w.drew := by simp [choose, Sem.run, Question.forced, cap]
          simp only [Sem.run_bind, hch, Result.andThen_ok, run_newRow, markStringish, run_shape, World.drew]
          have hshape : (({ w with drawn := w.drawn + 1 } : World).alloc (.cells cells e)).shape? w.heap.size = some (e, cap) := by
            simp [World.shape?, World.alloc, hsz]
          simp only [cells] at hshape
          simp only [hshape, run_freeze, Result.andThen_ok, Sem.run_pure]
          congr 1
          simp only [World.freeze, World.alloc, w2, World.drew]
          rw [if_neg (by decide)]
          congr 1
          apply Array.ext
          · simp
          · intro k h1 h2
            simp only [Array.getElem_modify, Array.getElem_push]
            have h3 : k < w.heap.size + 1 := by simpa using h2
            by_cases hk : w.heap.size = k
            · subst hk; simp [cells]
            · have : k < w.heap.size := by omega
              simp [hk, this]
        obtain ⟨j', hj, hM', hG⟩ := alloc_R (j := j) (cs := s.data.toList.map V.u8) (cs' := s.data.toList.map byteC) (extra := List.replicate (cap - s.size) (.int .u8 0)) (e := e) (fr := (cap, cap + 1)) (room := some cap) (w' := w2) hM hmk
          (by
            have key : ∀ l : List UInt8, VRs j (l.map V.u8) (l.map byteC) := by
              intro l
              induction l with
              | nil => exact .nil
              | cons b l ih => exact .cons (.u8 b) ih
            exact key _) (by rw [← hcells]) ⟨rfl, rfl, rfl⟩ (.inr (by rw [hlen2]; exact Nat.le_refl _)) (.inr ⟨0, rfl, by rw [hlen2]⟩)
        refine ⟨.slice (some ⟨w.heap.size, 0, none⟩) s.size cap, w2, j', ?_, ?_, hM', hG⟩
        · apply value_run'
          simp only [Go.convert, Sem.run_bind, run_under hsrc, run_under hd, Result.andThen_ok, run_under he]
          exact hrun
        · rw [hl]
          refine .slice hj ?_ (Nat.le_refl _)
          simp only [capR]
          omega
      · cases h
    · cases h
  · rename_i t
    unfold makeMapV at h
    cases h
    have hk : ∀ c, c < w.heap.size → (w.alloc (.map #[] 0)).heap[c]? = w.heap[c]? := by
      intro c hc
      show (w.heap.push _)[c]? = _
      rw [Array.getElem?_push_lt hc]
      simp [hc]
    obtain ⟨hM', hG⟩ := hM.alloc (ob := .map [] 0) (w' := w.alloc (.map #[] 0)) none (by simp) hk ⟨rfl, rfl, rfl⟩ ⟨hM.n0le, [], by show (w.heap.push _)[_]? = _; simp, .nil⟩
    refine ⟨.map (some w.heap.size), _, _, ?_, .map (J.new_same _ _ _ _), hM', hG⟩
    simp [execOp, Instr.makeMap]
  · rename_i t x
    obtain ⟨xv, hx, h⟩ := Option.bind_eq_some_iff.1 h
    unfold rangeV at h
    split at h
    · rename_i kt et r hd
      have hxr := evO_R hM hE hx
      generalize hxe : a.eval x = x' at hxr
      cases hxr with | map hL => ?_
      rename_i L
      split at h
      · rename_i es c hob
        cases h
        obtain ⟨hn, es', hheap, -⟩ := hM.objs r _ L hob hL
        have hk : ∀ q, q < w.heap.size → (w.alloc (.mapIter (some L.c) c #[] c)).heap[q]? = w.heap[q]? := by
          intro q hq
          show (w.heap.push _)[q]? = _
          rw [Array.getElem?_push_lt hq]
          simp [hq]
        obtain ⟨hM', hG⟩ := hM.alloc (ob := .iter (some r) c [] c) (w' := w.alloc (.mapIter (some L.c) c #[] c)) none (by simp) hk ⟨rfl, rfl, rfl⟩ ⟨⟨hM.n0le, rfl⟩, L, hL, by show (w.heap.push _)[_]? = _; simp⟩
        refine ⟨.pointer (some ⟨w.heap.size, 0, none⟩), _, _, ?_, .ptr (L := ⟨w.heap.size, 0, none⟩) (J.new_same _ _ _ _), hM', hG⟩
        simp only [execOp, hxe, run_range_map w t kt et L.c ⟨es'⟩ c hd hheap, Sem.run_bind, Result.andThen_ok, Sem.run_pure]
      · cases h
    · cases h
  · rename_i t l c
    obtain ⟨lv, hl, h⟩ := Option.bind_eq_some_iff.1 h
    obtain ⟨cv, hc, h⟩ := Option.bind_eq_some_iff.1 h
    have hlr := evO_R hM hE hl
    have hcr := evO_R hM hE hc
    unfold makeSliceV at h
    split at h
    · rename_i e ln cn hd _
      obtain ⟨size, hs, h⟩ := Option.bind_eq_some_iff.1 h
      obtain ⟨bytes, hb, h⟩ := Option.bind_eq_some_iff.1 h
      split at h
      · rename_i hcond
        obtain ⟨h0, hlc, hbytes, h63⟩ := hcond
        obtain ⟨z, hz, h⟩ := Option.bind_eq_some_iff.1 h
        split at h
        · cases h
        rename_i hzl
        have hzl : z.cells.length = size := by simpa using hzl
        obtain ⟨i, z', hi, hz', hr, hk, hrun⟩ := zeroRun (j := j) (w := w) hz
        have hzc := hr.cells_R hk
        have hzs : z'.cells.size = size := by rw [← hzl, ← hzc.len]; simp
        obtain ⟨i2, hi2, hsz⟩ := szO_eq hs
        obtain rfl : i = i2 := by rw [hi] at hi2; exact Option.some.inj hi2
        have hby : i.bytes = bytes := by simp [byO, hi] at hb; exact hb
        have hrep := repl_R hzc cn.toNat
        have hmade := made_eq z'.cells cn.toNat i.size (by rw [hzs, hsz])
        rw [← hmade] at hrep
        have hreal : (Instr.makeSlice t (a.eval l) (a.eval c)).run P w = .ok (.slice (some ⟨w.heap.size, 0, none⟩) ln.toNat cn.toNat) (w.alloc (.cells (madeCells z'.cells (cn.toNat * i.size)) e)) := by
          rw [hlr.of_num (k := .i64) (n := ln) rfl, hcr.of_num (k := .i64) (n := cn) rfl]
          exact run_make w t e i z' hd hi hz' .i64 .i64 ln cn h0 hlc (by rw [hby]; exact hbytes) h63
        have fin : ∀ ob, mkRow P e (repl cn.toNat z.cells) .exact = some ob → ∃ j', VR j' (.slice m.objs.length 0 0 size ln.toNat cn.toNat) (.slice (some ⟨w.heap.size, 0, none⟩) ln.toNat cn.toNat) ∧ MR P n0 w0 gs j' (m.add ob) (w.alloc (.cells (madeCells z'.cells (cn.toNat * i.size)) e)) ∧ Grows j m w j' (m.add ob) (w.alloc (.cells (madeCells z'.cells (cn.toNat * i.size)) e)) := by
          intro ob hob
          obtain ⟨j', hj, hM', hG⟩ := alloc_R (extra := []) (e := e) (fr := (0, 0)) (room := none) (w' := w.alloc (.cells (madeCells z'.cells (cn.toNat * i.size)) e)) hM hob hrep (by rw [List.append_nil]; rfl) ⟨rfl, rfl, rfl⟩ (.inl rfl) (.inl ⟨rfl, rfl⟩)
          exact ⟨j', .slice hj (by simp [capR]) (by omega), hM', hG⟩
        split at h
        · rename_i hu8
          obtain ⟨us, hus, h⟩ := Option.bind_eq_some_iff.1 h
          cases h
          have hrow : mkRow P e (repl cn.toNat z.cells) .exact = some (.u8 (repl cn.toNat us) .exact) := by
            have : toU8 (repl cn.toNat z.cells) = some (repl cn.toNat us) := by
              rw [toU8_eq hus]
              have key : ∀ l : List UInt8, toU8 (l.map V.u8) = some l := by
                intro l
                induction l with
                | nil => rfl
                | cons x l ih => simp [toU8, ih]
              rw [show repl cn.toNat (us.map V.u8) = (repl cn.toNat us).map V.u8 from by simp [repl, List.map_flatten]]
              exact key _
            simp [mkRow, hu8, this]
          obtain ⟨j', h1, h2, h3⟩ := fin _ hrow
          exact ⟨_, _, j', value_run' hreal, h1, h2, h3⟩
        · rename_i hu8
          split at h
          · rename_i hone
            cases h
            have hrow : mkRow P e (repl cn.toNat z.cells) .exact = some (.row (repl cn.toNat z.cells) .exact) := by
              have : (repl cn.toNat z.cells).all V.one = true := by
                simp only [repl, List.all_flatten, List.all_replicate]
                simp [hone]
              simp [mkRow, hu8, this]
            obtain ⟨j', h1, h2, h3⟩ := fin _ hrow
            exact ⟨_, _, j', value_run' hreal, h1, h2, h3⟩
          · cases h
      · cases h
    · cases h
  · cases h
end
end Go.Ig
