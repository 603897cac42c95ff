/-
  The operations that make and write no memory, fifth part; and all of them together.
-/
import Derived.Test.YtcnjllnnhcafbaaDoorIgPure4
namespace Go.Ig
open Go

section
variable {P : Program} {j : J} {w : World} {n0 : Nat} {w0 : World} {gs : List Nat} {m : Mem}

theorem toU8_eq : ∀ {cs : List V} {us : List UInt8}, toU8 cs = some us → cs = us.map V.u8
  | [], us, h => by simp [toU8] at h; subst h; rfl
  | c :: r, us, h => by
    cases c <;> simp only [toU8] at h <;> (try cases h)
    cases hr : toU8 r with
    | none => rw [hr] at h; cases h
    | some q => rw [hr] at h; cases h; simp [toU8_eq hr]
def byteC (b : UInt8) : Value := .int .u8 (b.toNat : Int)
theorem VRs.bytes : ∀ {us : List UInt8} {vs' : List Value}, VRs j (us.map V.u8) vs' → vs' = us.map byteC
  | [], _, h => by cases h; rfl
  | u :: us, _, h => by
    cases h with
    | cons h hr => cases h; simp [VRs.bytes hr, byteC]
theorem push_all (us : List UInt8) : ∀ s : ByteArray, ((us.map fun b => (b.toNat : Int)).foldl (fun r n => r.push (UInt8.ofNat n.toNat)) s).data.toList = s.data.toList ++ us := by
  induction us with
  | nil => intro s; simp
  | cons u us ih =>
    intro s
    simp only [List.map_cons, List.foldl_cons]
    rw [ih]
    simp
theorem str_of {s : ByteArray} {l : List UInt8} (h : s.data.toList = l) : VR j (.str l) (.string s) := by subst h; exact .str s

theorem convert_R (hM : MR P n0 w0 gs j m w) {a b : TypeId} {x : V} {x' : Value} {v : V} (hx : VR j x x') (h : convertV P m a b x = some v) :
    ∃ v', (Go.convert a b x').run P w = .ok v' w ∧ VR j v v' := by
  unfold convertV at h
  cases ha : P.underlying a with
  | none =>
    simp only [ha] at h
    simp [convV, ha] at h
  | some da =>
    cases hb : P.underlying b with
    | none =>
      simp only [ha, hb] at h
      have : convV P a b x = none := by simp [convV, ha, hb]
      cases da <;> simp [this] at h
    | some db =>
      simp only [ha, hb] at h
      split at h
      · rename_i _ _ _ e h1 h2
        cases h1; cases h2
        split at h
        · rename_i hbt
          cases h
          cases hx
          have he : P.underlying e = some (.int .u8) := by
            unfold isByte at hbt
            split at hbt
            · assumption
            · cases hbt
          refine ⟨.string .empty, ?_, .str ByteArray.empty⟩
          rw [run_convert_bytes_string w a b e none 0 0 ha he hb]
          rfl
        · cases h
      · rename_i _ _ _ e h1 h2
        cases h1; cases h2
        split at h
        · rename_i hbt
          cases h
          cases hx with | emp ad => ?_
          have he : P.underlying e = some (.int .u8) := by
            unfold isByte at hbt
            split at hbt
            · assumption
            · cases hbt
          refine ⟨.string .empty, ?_, .str ByteArray.empty⟩
          rw [run_convert_bytes_string w a b e (some ad) 0 0 ha he hb]
          rfl
        · cases h
      · rename_i _ _ _ e bb g o z len cap h1 h2
        cases h1; cases h2
        split at h
        · rename_i hbt
          obtain ⟨hbt, rfl⟩ := hbt
          cases hx with
          | slice hL hc hl =>
            rename_i cap' L
            have he : P.underlying e = some (.int .u8) := by
              unfold isByte at hbt
              split at hbt
              · assumption
              · cases hbt
            cases hcs : m.cells? bb g o len with
            | none => rw [hcs] at h; cases h
            | some cs =>
              rw [hcs, Option.bind_some] at h
              cases hu : toU8 cs with
              | none => rw [hu] at h; cases h
              | some us =>
                rw [hu] at h; cases h
                obtain ⟨vs', hlen, hr, hcell⟩ := hM.cells hL hcs
                rw [toU8_eq hu] at hr
                have hv := hr.bytes
                have hload := run_loadCells_list (P := P) (w := w) ⟨L.c, L.s + o, none⟩ vs' hcell
                rw [hlen] at hload
                have hload2 : (loadCells ⟨L.c, L.s + o, none⟩ len).run P w = .ok ((us.map fun b => (b.toNat : Int)).map (Value.int .u8)).toArray w := by
                  rw [hload, hv]
                  simp [byteC, Function.comp_def]
                refine ⟨_, ?_, str_of (push_all us ByteArray.empty)⟩
                rw [run_convert_bytes_string w a b e (some ⟨L.c, L.s + o, none⟩) len cap' ha he hb]
                exact run_bytesToString w _ len cap' _ hload2
        · cases h
      · simp only [convV, ha, hb] at h
        split at h
        · rename_i k k' n h1 h2 hn
          cases h1; cases h2; cases h
          obtain rfl := hx.of_num hn
          refine ⟨_, ?_, .wrapped _ _⟩
          simp [Go.convert, run_under ha, run_under hb, Conv.intToInt]
        · rename_i h1 h2 hn
          cases h1; cases h2
          split at h
          · cases h
            cases hx with | str s => ?_
            exact ⟨.string s, by simp [Go.convert, run_under ha, run_under hb], .str s⟩
          · cases h
        · cases h

theorem s2ap_R {t : TypeId} {x : V} {x' : Value} {v : V} (hx : VR j x x') (h : s2apV P t x = some v) : ∃ v', (Instr.arrayAt t x').run P w = .ok v' w ∧ VR j v v' := by
  unfold s2apV at h
  split at h
  · rename_i n e b g o z len cap hd
    split at h
    · rename_i hle
      cases h
      cases hx with | slice hL hc hl => ?_
      refine ⟨_, ?_, .ptr hL⟩
      simp only [Instr.arrayAt, Sem.run_bind, run_under hd, Result.andThen_ok, Sem.run_ite]
      rw [if_neg (by omega)]
      rfl
    · cases h
  · cases h
theorem mkIface_R {t : TypeId} {x : V} {x' : Value} {v : V} (hx : VR j x x') (h : mkIfaceV P t x = some v) : ∃ v', (Instr.makeInterface t x').run P w = .ok v' w ∧ VR j v v' := by
  unfold mkIfaceV at h
  split at h
  · cases h
  · cases h
  · rename_i h1 h2
    cases h
    cases hd : P.underlying t with
    | none => exact absurd hd h2
    | some d =>
      refine ⟨_, ?_, .iface hx⟩
      simp only [Instr.makeInterface, Sem.run_bind, run_under hd, Result.andThen_ok]
      cases d <;> first | (exact absurd hd (h1 _)) | rfl
theorem EsR.find {es : List (V × V × Nat)} {es' : List MapEntry} (h : EsR j es es') (stamp : Nat) {e : V × V × Nat} (he : es.find? (fun e => e.2.2 == stamp) = some e) :
    ∃ e', es'.find? (fun e => e.born == stamp) = some e' ∧ VR j e.1 e'.key ∧ VR j e.2.1 e'.val := by
  induction h with
  | nil => simp at he
  | @cons k v k' v' n r r' hk hv _ ih =>
    simp only [List.find?_cons] at he ⊢
    cases hn : n == stamp with
    | true =>
      rw [hn] at he
      cases he
      exact ⟨_, rfl, hk, hv⟩
    | false =>
      rw [hn] at he
      exact ih he
theorem entry_R (hM : MR P n0 w0 gs j m w) {x : V} {x' : Value} {v : V} (hx : VR j x x') (h : entryV m x = some v) : ∃ v', (Instr.entry x').run P w = .ok v' w ∧ VR j v v' := by
  unfold entryV at h
  split at h
  · rename_i b
    cases hx with | ptr hL => ?_
    rename_i L
    split at h
    · rename_i r s seen last hob
      obtain ⟨⟨-, hs⟩, L', hL', hheap⟩ := hM.objs b _ L hob hL
      split at h
      · rename_i stamp es c hst hobm
        obtain ⟨-, es', hm, hR⟩ := hM.objs r _ L' hobm hL'
        split at h
        · rename_i hc
          subst hc
          obtain ⟨e, he, rfl⟩ := Option.map_eq_some_iff.1 h
          obtain ⟨e', he', h1, h2⟩ := hR.find stamp he
          refine ⟨.tuple #[e'.key, e'.val], ?_, .tuple (.cons h1 (.cons h2 .nil))⟩
          have hb : (⟨seen⟩ : Array Nat).back? = some stamp := by simpa [Array.back?, List.getLast?_eq_getElem?] using hst
          have hf : (⟨es'⟩ : Array MapEntry).find? (fun e => e.born == stamp) = some e' := by simpa using he'
          simp only [hs, Nat.zero_add, Instr.entry, getObj, Sem.run_bind, Sem.run, hheap, hm, Result.andThen, hb, bne_self_eq_false, Bool.false_eq_true, if_false, hf]
          rfl
        · cases h
      · cases h
    · cases h
  · cases h
theorem extract_R {x : V} {x' : Value} {i : Nat} {v : V} (hx : VR j x x') (h : extractV x i = some v) : ∃ v', (Instr.extract x' i).run P w = .ok v' w ∧ VR j v v' := by
  unfold extractV at h
  split at h
  · cases hx with | tuple hcs => ?_
    obtain ⟨v', hv', hr⟩ := hcs.get h
    exact ⟨v', by simp [Instr.extract, hv'], hr⟩
  · cases h
theorem assert_R {x : V} {x' : Value} {xT t : TypeId} {ok : Bool} {v : V} (hx : VR j x x') (h : assertV P x t ok = some v) : ∃ v', (Instr.typeAssert x' xT t ok).run P w = .ok v' w ∧ VR j v v' := by
  unfold assertV at h
  split at h
  · cases h
  · cases h
  · rename_i h1 h2
    cases hd : P.underlying t with
    | none => exact absurd hd h2
    | some d =>
      have hni : ∀ ms, d ≠ .interface ms := fun ms e => h1 ms (e ▸ hd)
      have zr : ∀ z, zeroOf P t = some z → ∃ z', (zeroValue t).run P w = .ok z' w ∧ VR j z z' := by
        intro z hz
        obtain ⟨i, z', hi, hz', hr, -⟩ := zero_R (j := j) hz
        exact ⟨z', by simp [zeroValue, typeInfo, hi, hz'], hr⟩
      split at h
      · rename_i u y
        cases hx with | iface hy => ?_
        split at h
        · rename_i hut
          subst hut
          cases h
          cases ok
          · refine ⟨_, ?_, hy⟩
            simp only [Instr.typeAssert, Sem.run_bind, run_under hd, Result.andThen_ok]
            cases d <;> first | (exact absurd rfl (hni _)) | simp
          · refine ⟨_, ?_, .tuple (.cons hy (.cons (.bool true) .nil))⟩
            simp only [Instr.typeAssert, Sem.run_bind, run_under hd, Result.andThen_ok]
            cases d <;> first | (exact absurd rfl (hni _)) | simp
        · rename_i hut
          split at h
          · rename_i hok
            subst hok
            cases hz : zeroOf P t with
            | none => rw [hz] at h; cases h
            | some z =>
              rw [hz] at h; cases h
              obtain ⟨z', hz1, hz2⟩ := zr z hz
              refine ⟨_, ?_, .tuple (.cons hz2 (.cons (.bool false) .nil))⟩
              simp only [Instr.typeAssert, Sem.run_bind, run_under hd, Result.andThen_ok]
              cases d <;> first | (exact absurd rfl (hni _)) | simp [hut, hz1]
          · cases h
      · cases hx
        split at h
        · rename_i hok
          subst hok
          cases hz : zeroOf P t with
          | none => rw [hz] at h; cases h
          | some z =>
            rw [hz] at h; cases h
            obtain ⟨z', hz1, hz2⟩ := zr z hz
            refine ⟨_, ?_, .tuple (.cons hz2 (.cons (.bool false) .nil))⟩
            simp only [Instr.typeAssert, Sem.run_bind, run_under hd, Result.andThen_ok]
            cases d <;> first | (exact absurd rfl (hni _)) | simp [hz1]
        · cases h
      · cases h
theorem pick_R {c x y : V} {c' x' y' : Value} {v : V} (hc : VR j c c') (hx : VR j x x') (hy : VR j y y') (h : pickV c x y = some v) :
    ∃ b, c' = .bool b ∧ VR j v (if b then x' else y') := by
  unfold pickV at h
  split at h
  · rename_i b
    cases hc
    refine ⟨b, rfl, ?_⟩
    cases b <;> simp at h ⊢ <;> subst h <;> assumption
  · cases h

/-! ### maps that are read, lengths -/
theorem same_R {kd : TypeDesc} {k e : V} {k' e' : Value} {b : Bool} (hk : VR j k k') (he : VR j e e') (h : keyIs kd k e = some b) : Instr.sameNow kd k' e' = some b := by
  unfold keyIs at h
  split at h
  · cases hk; cases he
    split at h
    · rename_i hkk
      subst hkk
      cases h
      simp [Instr.sameNow]
    · cases h
  · cases hk with | str s => ?_
    cases he with | str s2 => ?_
    cases h
    simp only [Instr.sameNow, Option.some.injEq]
    rw [beq_toListBytes, bytes_toList, bytes_toList]
  · cases hk; cases he; cases h
    simp [Instr.sameNow]
  · cases h
theorem find_R {kd : TypeDesc} {k : V} {k' : Value} (hk : VR j k k') : ∀ {es : List (V × V × Nat)} {es' : List MapEntry} (i : Nat) {r : Option (Nat × V)}, EsR j es es' → findK kd k es i = some r →
    (r = none ∧ Instr.findNow kd k' es' i = some none) ∨ (∃ a v v', r = some (a, v) ∧ Instr.findNow kd k' es' i = some (some (a, v')) ∧ VR j v v')
  | [], _, i, r, .nil, h => by simp only [findK] at h; cases h; exact .inl ⟨rfl, rfl⟩
  | (ek, ev, n) :: es, _, i, r, .cons (k' := ek') (v' := ev') (r' := es') hek hev hr, h => by
    simp only [findK] at h
    cases hb : keyIs kd k ek with
    | none => rw [hb] at h; cases h
    | some b =>
      have hs := same_R hk hek hb
      simp only [hb] at h
      cases b with
      | true =>
        simp only at h; cases h
        exact .inr ⟨i, ev, ev', rfl, by simp [Instr.findNow, hs], hev⟩
      | false =>
        simp only at h
        rcases find_R hk (i + 1) hr h with ⟨h1, h2⟩ | ⟨a, v, v', h1, h2, h3⟩
        · exact .inl ⟨h1, by simp [Instr.findNow, hs, h2]⟩
        · exact .inr ⟨a, v, v', h1, by simp [Instr.findNow, hs, h2], h3⟩
theorem run_checkKey {b : Bool} {n : Nat} {kt : TypeId} {kd : TypeDesc} {k' : Value} (hkd : P.underlying kt = some kd) (h : keyD kd = true) : (Instr.checkKey b (n + 1) kt k').run P w = .ok () w := by
  unfold Instr.checkKey
  simp only [Sem.run_bind, run_under hkd, Result.andThen_ok]
  cases kd <;> simp [keyD] at h <;> rfl
theorem run_findKey {kt : TypeId} {kd : TypeDesc} {k' : Value} {es' : List MapEntry} {r : Option (Nat × Value)} (hkd : P.underlying kt = some kd) (h : Instr.findNow kd k' es' 0 = some r) : (Instr.findKey kt k' es').run P w = .ok r w := by
  unfold Instr.findKey
  simp only [Sem.run_bind, run_under hkd, Result.andThen_ok, h, Sem.run_pure]

theorem lookup_R (hM : MR P n0 w0 gs j m w) {t : TypeId} {x k : V} {x' k' : Value} {ok : Bool} {v : V} (hx : VR j x x') (hk : VR j k k') (h : lookupV P m t x k ok = some v) :
    ∃ v', (Instr.lookup t x' k' ok).run P w = .ok v' w ∧ VR j v v' := by
  unfold lookupV at h
  split at h
  · rename_i kt et hd
    cases hkd : P.underlying kt with
    | none => rw [hkd] at h; cases h
    | some kd =>
      rw [hkd, Option.bind_some] at h
      split at h
      · rename_i hc
        obtain ⟨hkD, hkn⟩ := hc
        cases hes : entriesV m x with
        | none => rw [hes] at h; cases h
        | some es =>
          rw [hes, Option.bind_some] at h
          cases hf : findK kd k es 0 with
          | none => rw [hf] at h; cases h
          | some r =>
            rw [hf, Option.bind_some] at h
            have hent : ∃ es' : List MapEntry, EsR j es es' ∧ ((x' = .map none ∧ es' = []) ∨ ∃ r c, x' = .map (some r) ∧ w.heap[r]? = some (.map ⟨es'⟩ c)) := by
              unfold entriesV at hes
              split at hes
              · cases hes; cases hx; exact ⟨[], .nil, .inl ⟨rfl, rfl⟩⟩
              · rename_i r
                split at hes
                · rename_i es2 c hob
                  cases hes
                  cases hx with | map hL => ?_
                  rename_i L
                  obtain ⟨hn, es', hheap, hR⟩ := hM.objs r _ L hob hL
                  exact ⟨es', hR, .inr ⟨_, _, rfl, hheap⟩⟩
                · cases hes
              · cases hes
            obtain ⟨es', hR, hrun⟩ := hent
            have hbase : ∀ (q : Option (Nat × Value)), Instr.findNow kd k' es' 0 = some q → (Instr.lookup t x' k' ok).run P w =
                ((match q with | some (_, v) => pure (v, true) | none => do pure (← zeroValue et, false) : Sem (Value × Bool)).run P w).andThen fun p w => .ok (if ok then .tuple #[p.1, .bool p.2] else p.1) w := by
              intro q hq
              have hfk := run_findKey (P := P) (w := w) hkd hq
              have hck := fun b => run_checkKey (P := P) (w := w) (b := b) (n := 9999) (k' := k') hkd hkD
              unfold Instr.lookup
              rcases hrun with ⟨rfl, rfl⟩ | ⟨r, c, rfl, hheap⟩
              · simp only [Sem.run_bind, run_under hd, Result.andThen_ok, Sem.run_pure, hck, hfk]
                cases q with
                | none => simp only [Sem.run_bind, Sem.run_pure]; cases (zeroValue et).run P w <;> rfl
                | some q => rfl
              · simp only [Sem.run_bind, run_under hd, Result.andThen_ok, getObj, Sem.run, hheap, Sem.run_pure, hck, hfk]
                cases q with
                | none => simp only [Sem.run_bind, Sem.run_pure]; cases (zeroValue et).run P w <;> rfl
                | some q => rfl
            rcases find_R hk 0 hR hf with ⟨rfl, hq⟩ | ⟨a, v2, v2', rfl, hq, hvr⟩
            · simp only at h
              cases hz : zeroOf P et with
              | none => rw [hz] at h; cases h
              | some z =>
                rw [hz] at h; cases h
                obtain ⟨i, z', hi, hz', hzr, -⟩ := zero_R (j := j) hz
                have hzr2 : (zeroValue et).run P w = .ok z' w := by simp [zeroValue, typeInfo, hi, hz']
                rw [hbase _ hq]
                simp only [Sem.run_bind, hzr2, Result.andThen_ok, Sem.run_pure]
                cases ok
                · exact ⟨_, rfl, hzr⟩
                · exact ⟨_, rfl, .tuple (.cons hzr (.cons (.bool false) .nil))⟩
            · simp only at h; cases h
              rw [hbase _ hq]
              simp only [Sem.run_pure, Result.andThen_ok]
              cases ok
              · exact ⟨_, rfl, hvr⟩
              · exact ⟨_, rfl, .tuple (.cons hvr (.cons (.bool true) .nil))⟩
      · cases h
  · cases h

theorem EsR.len {es : List (V × V × Nat)} {es' : List MapEntry} (h : EsR j es es') : es'.length = es.length := by
  induction h with
  | nil => rfl
  | cons _ _ _ ih => simp [ih]
theorem len_R (hM : MR P n0 w0 gs j m w) {t : TypeId} {x : V} {x' : Value} {n : Int} (ts : Array TypeId) (ty : TypeId) (hts : ts[0]? = some t) (hx : VR j x x') (h : lenB P m t x = some n) :
    (Builtin.len_ ts ty #[x']).run P w = .ok (.int .i64 n) w := by
  unfold lenB at h
  have e0 : (#[x'] : Array Value)[0]? = some x' := rfl
  unfold Builtin.len_
  simp only [hts, e0]
  split at h
  · rename_i s hd
    cases hx with | str s => ?_
    cases h
    simp only [Sem.run_bind, run_under hd, Result.andThen_ok, Sem.run_pure, goInt]
    rw [show s.data.toList.length = s.size from Array.length_toList]
  · rename_i e hd
    cases hx; cases h
    simp only [Sem.run_bind, run_under hd, Result.andThen_ok, Sem.run_pure, goInt]
    rfl
  · rename_i e hd
    cases hx; cases h
    simp only [Sem.run_bind, run_under hd, Result.andThen_ok, Sem.run_pure, goInt]
    rfl
  · rename_i e b g o z k c hd
    cases hx; cases h
    simp only [Sem.run_bind, run_under hd, Result.andThen_ok, Sem.run_pure, goInt]
  · rename_i k e hd
    cases h
    simp only [Sem.run_bind, run_under hd, Result.andThen_ok, Sem.run_pure, goInt]
  · rename_i k e hd
    cases hx; cases h
    simp only [Sem.run_bind, run_under hd, Result.andThen_ok, Sem.run_pure, goInt]
  · rename_i k e r hd
    cases hx with | map hL => ?_
    rename_i L
    split at h
    · rename_i es c hob
      cases h
      obtain ⟨hn, es', hheap, hR⟩ := hM.objs r _ L hob hL
      simp only [Sem.run_bind, run_under hd, Result.andThen_ok, getObj, Sem.run, hheap, Sem.run_pure, goInt]
      simp [hR.len]
    · cases h
  · cases h
theorem firm_room (hM : MR P n0 w0 gs j m w) {b g : Nat} {L : Loc} (hL : j b g = some L) (h : m.firm b g = true) : L.room = none := by
  unfold Mem.firm at h
  split at h
  · rename_i l md hob
    simp only [Bool.and_eq_true, beq_iff_eq] at h
    obtain ⟨hf, hg⟩ := h
    subst hg
    have := (hM.objs b _ L hob hL).2
    unfold modeR at this
    cases md <;> simp [Mode.fixed] at hf <;> simp_all
  · rename_i l md hob
    simp only [Bool.and_eq_true, beq_iff_eq] at h
    obtain ⟨hf, hg⟩ := h
    subst hg
    have := (hM.objs b _ L hob hL).2
    unfold modeR at this
    cases md <;> simp [Mode.fixed] at hf <;> simp_all
  · cases h
theorem cap_R (hM : MR P n0 w0 gs j m w) {t : TypeId} {x : V} {x' : Value} {n : Int} (ts : Array TypeId) (ty : TypeId) (hts : ts[0]? = some t) (hx : VR j x x') (h : capB P m t x = some n) :
    (Builtin.cap_ ts ty #[x']).run P w = .ok (.int .i64 n) w := by
  unfold capB at h
  have e0 : (#[x'] : Array Value)[0]? = some x' := rfl
  unfold Builtin.cap_
  simp only [hts, e0]
  split at h
  · rename_i e hd
    cases hx; cases h
    simp only [Sem.run_bind, run_under hd, Result.andThen_ok, Sem.run_pure, goInt]
    rfl
  · rename_i e hd
    cases hx; cases h
    simp only [Sem.run_bind, run_under hd, Result.andThen_ok, Sem.run_pure, goInt]
    rfl
  · rename_i e b g o z k c hd
    cases hx with | slice hL hc hl => ?_
    split at h
    · rename_i hf
      cases h
      rename_i c' L
      have := firm_room hM hL hf
      unfold capR at hc
      rw [this] at hc
      subst hc
      simp only [Sem.run_bind, run_under hd, Result.andThen_ok, Sem.run_pure, goInt]
    · cases h
  · cases h

/-! ### all of them -/
variable {env : List V} {a : Act}
theorem evOpt_R (hM : MR P n0 w0 gs j m w) (hE : VRs j env a.tmps.toList) {x : Option Operand} {v : Option V} (h : evOpt P env x = some v) : OptR j v (x.map a.eval) := by
  cases x with
  | none => simp only [evOpt] at h; cases h; exact .none
  | some x =>
    simp only [evOpt] at h
    cases hx : evO P env x with
    | none => rw [hx] at h; cases h
    | some q => rw [hx] at h; cases h; exact .some (evO_R hM hE hx)
theorem value_run {s : Sem Value} {v : Value} {w : World} (h : s.run P w = .ok v w) : (do pure (Next.value (← s)) : Sem Next).run P w = .ok (.value v) w := by
  simp only [Sem.run_bind, h, Result.andThen_ok, Sem.run_pure]
theorem parts_map {l : List (Nat × Operand)} {l' : List (Nat × Value)} (e : (l.map fun p => (p.1, a.eval p.2)) = l') : ((l.toArray.map fun (i, x) => (i, a.eval x)) : Array (Nat × Value)) = l'.toArray := by
  subst e; simp

theorem opPure_R (hM : MR P n0 w0 gs j m w) (hE : VRs j env a.tmps.toList) (o : Oper) {v : V} (h : opPure P env m o.op = some v) :
    ∃ v', (execOp a.eval o).run P w = .ok (.value v') w ∧ VR j v v' := by
  obtain ⟨dst, op, type, pos, after, guard⟩ := o
  simp only at h
  unfold opPure at h
  split at h
  · rename_i x
    exact ⟨_, rfl, evO_R hM hE h⟩
  · rename_i x
    exact ⟨_, rfl, evO_R hM hE h⟩
  · rename_i c x y
    obtain ⟨cv, hc, h⟩ := Option.bind_eq_some_iff.1 h
    obtain ⟨xv, hx, h⟩ := Option.bind_eq_some_iff.1 h
    obtain ⟨yv, hy, h⟩ := Option.bind_eq_some_iff.1 h
    obtain ⟨b, hb, hr⟩ := pick_R (evO_R hM hE hc) (evO_R hM hE hx) (evO_R hM hE hy) h
    refine ⟨_, ?_, hr⟩
    simp only [execOp, hb, asBool, Sem.run_bind, Sem.run_pure, Result.andThen_ok]
  · rename_i t ps
    obtain ⟨vs, hvs, h⟩ := Option.bind_eq_some_iff.1 h
    obtain ⟨v', hv', hr⟩ := build_R (w := w) (evParts_R hM hE hvs) h
    refine ⟨v', ?_, hr⟩
    have : (ps.map fun (i, x) => (i, a.eval x)) = ((ps.toList.map fun p => (p.1, a.eval p.2)).toArray) := by
      rw [← Array.toList_map, Array.toArray_toList]
    simp only [execOp, this]
    exact value_run hv'
  · rename_i t x
    obtain ⟨xv, hx, h⟩ := Option.bind_eq_some_iff.1 h
    obtain ⟨v', hv', hr⟩ := load_R hM (evO_R hM hE hx) h
    exact ⟨v', value_run hv', hr⟩
  · rename_i x
    obtain ⟨xv, hx, h⟩ := Option.bind_eq_some_iff.1 h
    have hxr := evO_R hM hE hx
    unfold nilChkV at h
    split at h
    · cases h
    · cases h
    · cases h
    · cases h
    · rename_i n1 n2 n3 n4
      cases h
      refine ⟨a.eval x, ?_, hxr⟩
      simp only [execOp]
      generalize a.eval x = x' at hxr ⊢
      cases hxr <;> first
        | (exact absurd rfl n1)
        | (exact absurd rfl n2)
        | (exact absurd rfl n3)
        | (exact absurd rfl n4)
        | (exact (n1 rfl).elim)
        | (exact (n2 rfl).elim)
        | (exact (n3 rfl).elim)
        | (exact (n4 rfl).elim)
        | rfl
  · rename_i op t x y _
    obtain ⟨xv, hx, h⟩ := Option.bind_eq_some_iff.1 h
    obtain ⟨yv, hy, h⟩ := Option.bind_eq_some_iff.1 h
    obtain ⟨v', hv', hr⟩ := binOp_R (w := w) x y (evO_R hM hE hx) (evO_R hM hE hy) h
    exact ⟨v', value_run hv', hr⟩
  · rename_i op t x
    obtain ⟨xv, hx, h⟩ := Option.bind_eq_some_iff.1 h
    obtain ⟨v', hv', hr⟩ := unOp_R (P := P) (w := w) (evO_R hM hE hx) h
    exact ⟨v', value_run hv', hr⟩
  · rename_i t b x
    obtain ⟨xv, hx, h⟩ := Option.bind_eq_some_iff.1 h
    obtain ⟨v', hv', hr⟩ := convert_R hM (evO_R hM hE hx) h
    exact ⟨v', value_run hv', hr⟩
  · rename_i t x
    obtain ⟨xv, hx, h⟩ := Option.bind_eq_some_iff.1 h
    obtain ⟨v', hv', hr⟩ := s2ap_R (w := w) (evO_R hM hE hx) h
    exact ⟨v', value_run hv', hr⟩
  · rename_i t x
    obtain ⟨xv, hx, h⟩ := Option.bind_eq_some_iff.1 h
    obtain ⟨v', hv', hr⟩ := mkIface_R (w := w) (evO_R hM hE hx) h
    exact ⟨v', value_run hv', hr⟩
  · rename_i f first cap
    obtain ⟨xs, hx, h⟩ := Option.bind_eq_some_iff.1 h
    obtain ⟨ys, hy, h⟩ := Option.bind_eq_some_iff.1 h
    cases h
    have h1 := evOs_R hM hE hx
    have h2 := evOs_R hM hE hy
    refine ⟨.func (.func f) (first.map a.eval) (cap.map a.eval), rfl, ?_⟩
    have := VR.fn (f := f) h1 h2
    rw [← Array.toList_map, ← Array.toList_map] at this
    exact this
  · rename_i t x lo hi mx
    obtain ⟨xv, hx, h⟩ := Option.bind_eq_some_iff.1 h
    obtain ⟨l, hl, h⟩ := Option.bind_eq_some_iff.1 h
    obtain ⟨hh, hhi, h⟩ := Option.bind_eq_some_iff.1 h
    obtain ⟨mm, hmm, h⟩ := Option.bind_eq_some_iff.1 h
    obtain ⟨v', hv', hr⟩ := slice_R hM (evO_R hM hE hx) (evOpt_R hM hE hl) (evOpt_R hM hE hhi) (evOpt_R hM hE hmm) h
    exact ⟨v', value_run hv', hr⟩
  · rename_i t x f
    obtain ⟨xv, hx, h⟩ := Option.bind_eq_some_iff.1 h
    obtain ⟨v', hv', hr⟩ := fieldAddr_R (w := w) (evO_R hM hE hx) h
    exact ⟨v', value_run hv', hr⟩
  · rename_i t x f
    obtain ⟨xv, hx, h⟩ := Option.bind_eq_some_iff.1 h
    obtain ⟨v', hv', hr⟩ := field_R (w := w) (evO_R hM hE hx) h
    exact ⟨v', value_run hv', hr⟩
  · rename_i t x i
    obtain ⟨xv, hx, h⟩ := Option.bind_eq_some_iff.1 h
    obtain ⟨iv, hi, h⟩ := Option.bind_eq_some_iff.1 h
    obtain ⟨v', hv', hr⟩ := indexAddr_R (w := w) (evO_R hM hE hx) (evO_R hM hE hi) h
    exact ⟨v', value_run hv', hr⟩
  · rename_i t x i
    obtain ⟨xv, hx, h⟩ := Option.bind_eq_some_iff.1 h
    obtain ⟨iv, hi, h⟩ := Option.bind_eq_some_iff.1 h
    obtain ⟨v', hv', hr⟩ := index_R (w := w) (evO_R hM hE hx) (evO_R hM hE hi) h
    exact ⟨v', value_run hv', hr⟩
  · rename_i t x k ok
    obtain ⟨xv, hx, h⟩ := Option.bind_eq_some_iff.1 h
    obtain ⟨kv, hk, h⟩ := Option.bind_eq_some_iff.1 h
    obtain ⟨v', hv', hr⟩ := lookup_R hM (evO_R hM hE hx) (evO_R hM hE hk) h
    exact ⟨v', value_run hv', hr⟩
  · rename_i x i
    obtain ⟨xv, hx, h⟩ := Option.bind_eq_some_iff.1 h
    obtain ⟨v', hv', hr⟩ := extract_R (P := P) (w := w) (evO_R hM hE hx) h
    exact ⟨v', value_run hv', hr⟩
  · rename_i x
    obtain ⟨xv, hx, h⟩ := Option.bind_eq_some_iff.1 h
    obtain ⟨v', hv', hr⟩ := entry_R hM (evO_R hM hE hx) h
    exact ⟨v', value_run hv', hr⟩
  · rename_i x xT t ok
    obtain ⟨xv, hx, h⟩ := Option.bind_eq_some_iff.1 h
    obtain ⟨v', hv', hr⟩ := assert_R (w := w) (xT := xT) (evO_R hM hE hx) h
    exact ⟨v', value_run hv', hr⟩
  · rename_i args ts
    obtain ⟨l, hl, h⟩ := Option.bind_eq_some_iff.1 h
    split at h
    · rename_i x
      unfold lenV1 at h
      obtain ⟨t, ht, h⟩ := Option.bind_eq_some_iff.1 h
      cases hn : lenB P m t x with
      | none => rw [hn] at h; cases h
      | some n =>
        rw [hn] at h; cases h
        have hr := evOs_R hM hE hl
        obtain ⟨x', hx', hargs⟩ : ∃ x', VR j x x' ∧ args.toList.map a.eval = [x'] := by
          generalize args.toList.map a.eval = q at hr
          cases hr with
          | cons h hr => cases hr; exact ⟨_, h, rfl⟩
        refine ⟨.int .i64 n, ?_, .int _ _ (by decide)⟩
        have hm : args.map a.eval = #[x'] := by rw [← Array.toList_inj]; simpa using hargs
        have := len_R hM ts type ht hx' hn
        simp only [execOp, resolve, hm, Sem.run_bind, Sem.run_pure, Result.andThen_ok, invoke, Go.builtin, this]
    · cases h
  · rename_i args ts
    obtain ⟨l, hl, h⟩ := Option.bind_eq_some_iff.1 h
    split at h
    · rename_i x
      unfold capV1 at h
      obtain ⟨t, ht, h⟩ := Option.bind_eq_some_iff.1 h
      cases hn : capB P m t x with
      | none => rw [hn] at h; cases h
      | some n =>
        rw [hn] at h; cases h
        have hr := evOs_R hM hE hl
        obtain ⟨x', hx', hargs⟩ : ∃ x', VR j x x' ∧ args.toList.map a.eval = [x'] := by
          generalize args.toList.map a.eval = q at hr
          cases hr with
          | cons h hr => cases hr; exact ⟨_, h, rfl⟩
        refine ⟨.int .i64 n, ?_, .int _ _ (by decide)⟩
        have hm : args.map a.eval = #[x'] := by rw [← Array.toList_inj]; simpa using hargs
        have := cap_R hM ts type ht hx' hn
        simp only [execOp, resolve, hm, Sem.run_bind, Sem.run_pure, Result.andThen_ok, invoke, Go.builtin, this]
    · cases h
  · cases h
end
end Go.Ig
