/-
  The range over the loose sectors in a flush, in whatever order.
-/
import Derived.Test.YtcnjllnnhcafbaaDoorIgPc
import Derived.Test.YtcnjllnnhcafbaaDoorIgFlushP
set_option linter.unusedVariables false
set_option maxRecDepth 100000
namespace Go.Ig
open Go Go.Proofs

def envF (x y : V) : List V := [x, .any, .any, .any, .any, .any, .any, .any, .any, .any, .any, .any, .any, .any, .any, .any, .any, .any, .any, .any, .any, .any, y, .any, .any, .any, .any, .any, .any, .any, .any, .any, .any, .any, .any, .any, .any, .any, .any]
def flushMem (O : List Obj) (it fb n : Nat) (l : List UInt8) (md : Mode) (ds : List (Nat × List UInt8 × Nat)) : List Obj :=
  ((O.set it .dead).set fb (.u8 (overlay l ds) md)) ++ List.replicate n .dead
def flushH (s : St) : Option St :=
  match s.ds, (s.env[0]? : Option V), (s.env[22]? : Option V) with
  | [], some (.ptr db 0 0), some (.ptr it 0 0) =>
    match (s.mem.objs[db]? : Option Obj), (s.mem.objs[it]? : Option Obj) with
    | some (.row (.slice fb fg 0 64 len cap :: rest) .exact), some (.iter (some r) since [] last) =>
      match (s.mem.objs[r]? : Option Obj), (s.mem.objs[fb]? : Option Obj) with
      | some (.map es clock), some (.u8 l md) =>
        match decE es with
        | some ds => if s.env.length = 39 ∧ md.gen = fg ∧ md.writes = true ∧ l.length = len * 64 ∧ since = clock ∧ last = clock ∧ okE len clock ds = true then
            some { env := envF (.ptr db 0 0) (.ptr it 0 0), ds := [], mem := { s.mem with objs := flushMem s.mem.objs it fb es.length l md ds } }
          else none
        | none => none
      | _, _ => none
    | _, _ => none
  | _, _, _ => none

theorem forget_env {env : List V} {x y : V} (hl : env.length = 39) (h0 : env[0]? = some x) (h22 : env[22]? = some y) : forgetBut [0, 22] 0 env = envF x y := by
  match env, hl with
  | a0 :: a1 :: a2 :: a3 :: a4 :: a5 :: a6 :: a7 :: a8 :: a9 :: a10 :: a11 :: a12 :: a13 :: a14 :: a15 :: a16 :: a17 :: a18 :: a19 :: a20 :: a21 :: a22 :: a23 :: a24 :: a25 :: a26 :: a27 :: a28 :: a29 :: a30 :: a31 :: a32 :: a33 :: a34 :: a35 :: a36 :: a37 :: a38 :: [], _ =>
    simp at h0 h22
    subst h0 h22
    rfl

/-- How things stand at the loop's head. -/
structure FlushInv (O : List Obj) (g0 db it r fb fg len clock : Nat) (l : List UInt8) (md : Mode) (ds : List (Nat × List UInt8 × Nat)) (seen : List Nat) (s : St) : Prop where
  henv : s.env = envF (.ptr db 0 0) (.ptr it 0 0)
  hds : s.ds = []
  hguard : s.mem.guard = g0
  hmem : ∃ (B : List UInt8) (X : List Obj), s.mem.objs = ((O.set it (.iter (some r) clock seen clock)).set fb (.u8 B md)) ++ X ∧ X.length = seen.length ∧ (∀ o ∈ X, o.gen = 0) ∧ (seen.Nodup ∧ ∀ q ∈ seen, q ∈ ds.map (·.2.2)) ∧ B.length = l.length ∧ ∀ p, B[p]? = byteOver l (ds.filter fun d => seen.contains d.2.2) p

theorem z64 : ([V.u8 0, V.u8 0, V.u8 0, V.u8 0, V.u8 0, V.u8 0, V.u8 0, V.u8 0, V.u8 0, V.u8 0, V.u8 0, V.u8 0, V.u8 0, V.u8 0, V.u8 0, V.u8 0, V.u8 0, V.u8 0, V.u8 0, V.u8 0, V.u8 0, V.u8 0, V.u8 0, V.u8 0, V.u8 0, V.u8 0, V.u8 0, V.u8 0, V.u8 0, V.u8 0, V.u8 0, V.u8 0, V.u8 0, V.u8 0, V.u8 0, V.u8 0, V.u8 0, V.u8 0, V.u8 0, V.u8 0, V.u8 0, V.u8 0, V.u8 0, V.u8 0, V.u8 0, V.u8 0, V.u8 0, V.u8 0, V.u8 0, V.u8 0, V.u8 0, V.u8 0, V.u8 0, V.u8 0, V.u8 0, V.u8 0, V.u8 0, V.u8 0, V.u8 0, V.u8 0, V.u8 0, V.u8 0, V.u8 0, V.u8 0] : List V) = (List.replicate 64 (0 : UInt8)).map V.u8 := rfl

/-- A round's effect, in a memory M. -/
theorem flush_tail (k : Nat) {M : List Obj} {g0 db it r fb fg len cap clock q i : Nat} {rest : List V} {B us : List UInt8} {md : Mode} {es : List (V × V × Nat)} {seen : List Nat}
    (hdb : M[db]? = some (.row (.slice fb fg 0 64 len cap :: rest) .exact)) (hit : M[it]? = some (.iter (some r) clock (seen ++ [q]) clock)) (hr : M[r]? = some (.map es clock)) (hfb : M[fb]? = some (.u8 B md))
    (hg : md.gen = fg) (hw : md.writes = true) (hB : B.length = len * 64) (hi : i < len) (hus : us.length = 64) (hf : es.find? (fun e => e.2.2 == q) = some (.int .i64 i, .agg (us.map V.u8), q)) (t23 : V) :
    F.disk_Disk_Flush.j20 noCall k (.ptr db 0 0) .any .any .any .any .any .any .any .any .any .any .any .any .any .any .any .any .any .any .any (.ptr it 0 0) t23 (.bool true) .any .any .any .any ⟨M, g0⟩ = some (.normal, ⟨(.ptr db 0 0) :: .any :: .any :: (.int .i64 i) :: (.ptr M.length 0 0) :: .any :: .any :: .any :: .any :: .any :: .any :: .any :: .any :: .any :: .any :: .any :: .any :: .any :: .any :: .any :: .any :: .any :: (.ptr it 0 0) :: t23 :: (.bool true) :: (.tuple [.int .i64 i, .agg (us.map V.u8)]) :: (.int .i64 i) :: (.agg (us.map V.u8)) :: (.ptr db 0 0) :: (.ptr db 0 0) :: (.ptr db 0 0) :: (.slice fb fg 0 64 len cap) :: (.int .i64 i) :: (.agg (us.map V.u8)) :: (.ptr fb fg (i * 64)) :: .any :: .any :: .any :: .any :: [], [], ⟨M.set fb (.u8 (splice B (i * 64) us) md) ++ [.u8 us .exact], g0⟩⟩) := by
  have hdb' := fun l => old hdb (l := l)
  have hfb' := fun l => old hfb (l := l)
  have hfl := (List.getElem?_eq_some_iff.1 hfb).1
  have hz : (List.replicate 64 (0 : UInt8)).length = 64 := by simp
  have hsp : splice (List.replicate 64 (0 : UInt8)) 0 us = us := by simp [splice, hus]
  have htk : us.take 64 = us := List.take_of_length_le (by omega)
  have h1 : i * 64 + 64 ≤ B.length := by omega
  have h2 : ((i : Int) < (len : Int)) := by omega
  have hsB := splB_length (l := B) (us := us) (o := i * 64) (by omega)
  have n64 : ¬ (64 : Nat) = 0 := by decide
  have hset : ((M ++ [Obj.u8 us .exact]).set fb (.u8 (splice B (i * 64) us) md)) = M.set fb (.u8 (splice B (i * 64) us) md) ++ [.u8 us .exact] := by rw [List.set_append_left _ _ hfl]
  simp only [F.disk_Disk_Flush.j20, entryV, hit, List.getLast?_append, List.getLast?_singleton, Option.some_or, hr, hf, Option.map_some, Option.bind_some, extract_tuple, List.getElem?_cons_zero, List.getElem?_cons_succ, z64, xNew, xRow_true, toU8_mapU8, Mem.add_mk,
      xStore_ptr, List.length_map, hus, ne_eq, not_true_eq_false, if_false, stores_O, getA0, storesO_u8, gen_exact, writes_exact, true_and, Nat.zero_add, hz, Nat.le_refl, Mem.setObj_mk, setA0, List.set_cons_zero, if_true, hsp, nilChk_ptr, xFA_ptr, Nat.add_zero, xLoad_ptr, cell?_O, cells?_O,
      n64, Bool.false_eq_true, hdb', cellO_row, cellsO_u8, List.drop_zero, htk, xIS_int, Int.natCast_nonneg, h2, and_self, Int.toNat_natCast, hfb', hg, hw, h1, hset]

theorem find_stamp : ∀ {es : List (V × V × Nat)} {k v : V} {q : Nat}, (es.map (·.2.2)).Nodup → (k, v, q) ∈ es → es.find? (fun e => e.2.2 == q) = some (k, v, q)
  | [], _, _, _, _, h => by cases h
  | e :: r, k, v, q, hn, h => by
    simp only [List.map_cons, List.nodup_cons] at hn
    rw [List.find?_cons]
    rcases List.mem_cons.1 h with h | h
    · subst h; simp
    · have : (e.2.2 == q) = false := by
        cases hh : e.2.2 == q with
        | false => rfl
        | true =>
          have : e.2.2 = q := by simpa using hh
          exact absurd (by rw [this]; exact List.mem_map_of_mem (f := fun x : V × V × Nat => x.2.2) h) hn.1
      rw [this]
      exact find_stamp hn.2 h

/-- The loop's body, its head's operations. -/
noncomputable def flushL : Code := loopAt fn_disk_Disk_Flush 6
def headOps : Code → Array Oper
  | .seq (.region _ ops _) _ => ops
  | _ => #[]
theorem flush_shape : Shape (headOps flushL) 22 23 24 :=
  ⟨(headOps flushL)[0]!, (headOps flushL)[1]!, by kernel_rfl, by kernel_rfl, by kernel_rfl, by kernel_rfl, by kernel_rfl, by kernel_rfl, by kernel_rfl⟩
theorem flush_loop : flushL = .seq (.region 6 (headOps flushL) false) F.disk_Disk_Flush.r6_code := by kernel_rfl
theorem flush_blocks : (blocks ((fn_disk_Disk_Flush.body).getD .skip)).map (fun b => keyOf b.2) = [some 1, some 6, some 7] := by kernel_rfl
theorem flush_block1 : (blocks ((fn_disk_Disk_Flush.body).getD .skip))[1]? = some (1, .loop flushL) := by kernel_rfl
theorem flush_piece {id : Nat} {b : Code} (hp : Piece PP id_disk_Disk_Flush (id, b)) (hk : keyOf b = some 6) : id = 1 ∧ b = .loop flushL := by
  obtain ⟨fn, c, hf, hb, hin⟩ := hp
  have hfn : PP.funcs[id_disk_Disk_Flush]? = some fn_disk_Disk_Flush := by kernel_rfl
  rw [hfn] at hf
  cases hf
  have hc : (fn_disk_Disk_Flush.body).getD .skip = c := by rw [hb]; rfl
  have h1 := flush_blocks
  have h2 := flush_block1
  rw [hc] at h1 h2
  obtain ⟨q, hq⟩ := List.getElem?_of_mem hin
  have h3 : ((blocks c).map (fun b => keyOf b.2))[q]? = some (some 6) := by rw [List.getElem?_map, hq]; simp [hk]
  rw [h1] at h3
  match q, h3 with
  | 0, h3 => simp at h3
  | 1, _ =>
    rw [h2] at hq
    cases hq
    exact ⟨rfl, rfl⟩
  | 2, h3 => simp at h3
  | q + 3, h3 => simp at h3

theorem flush_hook {n0 : Nat} {w0 : World} {gs : List Nat} {j0 : J} {m0 : Mem} {ws : World} {N : Nat} {j : J} {s s' : St} {a : Act} {w : World} {Q : Exit → Act → World → Prop}
    (hmix : PP.follows .mixedOrders = true) (hs : flushH s = some s') (hS : SR PP n0 w0 gs j0 m0 ws N j s a w) (hQ : ∀ j' a' w', SR PP n0 w0 gs j0 m0 ws N j' s' a' w' → Q .normal a' w') :
    (Code.block 1 (.loop flushL)).wp PP Q a w := by
  unfold flushH at hs
  split at hs
  rotate_left
  · cases hs
  rename_i db it hds h0 h22
  split at hs
  rotate_left
  · cases hs
  rename_i fb fg len cap rest r since last hdb hit
  split at hs
  rotate_left
  · cases hs
  rename_i es clock l md hr hfb
  split at hs
  rotate_left
  · cases hs
  rename_i ds hdec
  split at hs
  rotate_left
  · cases hs
  rename_i hc
  obtain ⟨hlen, hg, hw, hll, hs1, hs2, hok⟩ := hc
  replace hs1 := hs1.symm
  subst hs1
  replace hs2 := hs2.symm
  subst hs2
  cases hs
  simp only [okE, Bool.and_eq_true, List.all_eq_true, decide_eq_true_eq] at hok
  obtain ⟨⟨hin, hnk⟩, hnq⟩ := hok
  obtain ⟨hst, hdl⟩ := decE_stamps hdec
  have hd64 := decE_len hdec
  have hds64 : ∀ d ∈ ds, d.1 < len ∧ d.2.1.length = 64 := fun d hd => ⟨(hin d hd).1, hd64 d hd⟩
  have hnd : (es.map (·.2.2)).Nodup := by rw [← hst]; exact hnq
  -- blocks apart
  have hne1 : it ≠ fb := by rintro rfl; rw [hit] at hfb; cases hfb
  have hne2 : db ≠ it := by rintro rfl; rw [hit] at hdb; cases hdb
  have hne3 : db ≠ fb := by rintro rfl; rw [hfb] at hdb; cases hdb
  have hne4 : r ≠ it := by rintro rfl; rw [hit] at hr; cases hr
  have hne5 : r ≠ fb := by rintro rfl; rw [hfb] at hr; cases hr
  have hitl := (List.getElem?_eq_some_iff.1 hit).1
  have hfbl := (List.getElem?_eq_some_iff.1 hfb).1
  have hdbl := (List.getElem?_eq_some_iff.1 hdb).1
  have hrl := (List.getElem?_eq_some_iff.1 hr).1
  generalize hO : s.mem.objs = O at *
  let Inv : List Nat → St → Prop := FlushInv O s.mem.guard db it r fb fg len clock l md ds
  have look : ∀ {seen : List Nat} {B : List UInt8} {X : List Obj} {x : Obj}, let M := ((O.set it x).set fb (.u8 B md)) ++ X
      M[db]? = some (.row (.slice fb fg 0 64 len cap :: rest) .exact) ∧ M[it]? = some x ∧ M[r]? = some (.map es clock) ∧ M[fb]? = some (.u8 B md) := by
    intro seen B X x M
    have hl : ((O.set it x).set fb (.u8 B md)).length = O.length := by simp
    refine ⟨?_, ?_, ?_, ?_⟩
    · show (_ ++ _)[db]? = _
      rw [List.getElem?_append_left (by omega), List.getElem?_set_ne hne3.symm, List.getElem?_set_ne hne2.symm]; exact hdb
    · show (_ ++ _)[it]? = _
      rw [List.getElem?_append_left (by omega), List.getElem?_set_ne hne1.symm, List.getElem?_set_self hitl]
    · show (_ ++ _)[r]? = _
      rw [List.getElem?_append_left (by omega), List.getElem?_set_ne hne5.symm, List.getElem?_set_ne hne4.symm]; exact hr
    · show (_ ++ _)[fb]? = _
      rw [List.getElem?_append_left (by omega), List.getElem?_set_self (by simpa using hfbl)]
  have hX : ExtOk PP cfgH := ext_none rfl
  have hH : HookOk PP cfgH := hook_none rfl
  refine wp_block (LoopWp.wp ?_)
  rw [flush_loop]
  refine rangeLoop_R (n := 1) (f := id_disk_Disk_Flush) (l := [0, 22]) (b := it) (r := r) (since := clock) (clock := clock) (es := es) (x := 1) (Inv := Inv) (s' := { env := envF (.ptr db 0 0) (.ptr it 0 0), ds := [], mem := { s.mem with objs := flushMem O it fb es.length l md ds } })
    hmix hX hH flush_shape ?_ ?_ hnd ?_ ?_ ?_ ?_ ((es.filter fun e => !([] : List Nat).contains e.2.2).length + 1) [] { s with env := forgetBut [0, 22] 0 s.env } j a w (Nat.lt_succ_self _) ?_ hS.mask
  · intro b _ hb
    exfalso
    simp only [hookOf, cfgH] at hb
    cases hk : keyOf b.2 <;> rw [hk] at hb <;> simp at hb
  · intro e he
    have : e.2.2 ∈ ds.map (·.2.2) := by rw [hst]; exact List.mem_map_of_mem he
    obtain ⟨d, hd, hde⟩ := List.mem_map.1 this
    rw [← hde]; exact (hin d hd).2
  · intro seen s1 hI
    obtain ⟨he, hd0, hgd, B, X, hm, -⟩ := hI
    obtain ⟨k1, k2, k3, k4⟩ := look (seen := seen) (B := B) (X := X) (x := .iter (some r) clock seen clock)
    rw [he, hm]
    exact ⟨rfl, ⟨clock, Nat.le_refl _, k2⟩, k3, Nat.le_refl _, by show 22 < 39; decide, by show 23 < 39; decide, by show 24 < 39; decide, by decide⟩
  · intro seen s1 k v q hI hkv hq
    obtain ⟨he, hd0, hgd, B, X, hm, hXl, hXg, ⟨hsn, hss⟩, hBl, hB⟩ := hI
    obtain ⟨i, us, rfl, rfl, hus, hmem⟩ := decE_mem hdec hkv
    obtain ⟨k1, k2, k3, k4⟩ := look (seen := seen ++ [q]) (B := B) (X := X) (x := .iter (some r) clock (seen ++ [q]) clock)
    have hi := (hds64 _ hmem).1
    have hfind : es.find? (fun e => e.2.2 == q) = some (.int .i64 i, .agg (us.map V.u8), q) := find_stamp hnd hkv
    have ht := flush_tail 1 k1 k2 k3 k4 hg hw (hBl.trans hll) hi hus hfind (.tuple [.bool true, .int .i64 i, .agg (us.map V.u8)]) (g0 := s.mem.guard)
    have hat : atNext it r clock clock (seen ++ [q]) 23 24 (.tuple [.bool true, .int .i64 i, .agg (us.map V.u8)]) true s1 = { env := ((envF (.ptr db 0 0) (.ptr it 0 0)).set 23 (.tuple [.bool true, .int .i64 i, .agg (us.map V.u8)])).set 24 (.bool true), ds := [], mem := ⟨((O.set it (.iter (some r) clock (seen ++ [q]) clock)).set fb (.u8 B md)) ++ X, s.mem.guard⟩ } := by
      unfold atNext
      rw [he, hd0]
      congr 1
      cases hmm : s1.mem with | mk mo mg => ?_
      rw [hmm] at hm hgd
      simp only at hm hgd
      subst hgd
      simp only [Mem.setObj, hm]
      congr 1
      rw [List.set_append_left _ _ (by simpa using hitl), List.set_comm _ _ hne1.symm, List.set_set]
    rw [hat]
    refine ⟨_, (F.disk_Disk_Flush.r6 1 _ _ _ _ _ _ _ _ _ _ _ _ _ _ _ _ _ _ _ _ _ _ _ _ _ _ _ _ _ _ _ _ _ _ _ _ _ _ _ _).trans ht, rfl, rfl, rfl, splice B (i * 64) us, X ++ [.u8 us .exact], ?_, by simp [hXl], ?_, ?_, ?_, ?_⟩
    · show _ = _
      rw [List.set_append_left _ _ (by simpa using hfbl), List.set_set, List.append_assoc]
    · intro o ho
      rcases List.mem_append.1 ho with ho | ho
      · exact hXg o ho
      · simp at ho; subst ho; rfl
    · refine ⟨?_, fun x hx => ?_⟩
      · rw [List.nodup_append]
        exact ⟨hsn, by simp, fun x hx y hy => by simp at hy; subst hy; rintro rfl; exact hq hx⟩
      · rcases List.mem_append.1 hx with hx | hx
        · exact hss x hx
        · simp at hx; subst hx; exact List.mem_map_of_mem (f := fun x : Nat × List UInt8 × Nat => x.2.2) hmem
    · rw [splB_length (by rw [hus, hBl, hll]; omega)]; exact hBl
    · exact over_step hll hBl hds64 hnk hmem hB hnq
  · intro seen s1 last hI hall hob
    obtain ⟨he, hd0, hgd, B, X, hm, hXl, hXg, ⟨hsn, hss⟩, hBl, hB⟩ := hI
    obtain ⟨k1, k2, k3, k4⟩ := look (seen := seen) (B := B) (X := X) (x := .iter (some r) clock seen clock)
    rw [hm, k2] at hob
    cases hob
    have hal : ∀ d ∈ ds, d.2.2 ∈ seen := by
      intro d hd
      have : d.2.2 ∈ es.map (·.2.2) := by rw [← hst]; exact List.mem_map_of_mem (f := fun x : Nat × List UInt8 × Nat => x.2.2) hd
      obtain ⟨e, he', hee⟩ := List.mem_map.1 this
      rw [← hee]; exact hall e he'
    have hBo : B = overlay l ds := over_all hll hds64 hnk hB hal
    have hsl : seen.length = es.length := by
      have hp : seen.Perm (ds.map (·.2.2)) := (List.perm_ext_iff_of_nodup hsn hnq).2 fun x => ⟨hss x, fun hx => by obtain ⟨d, hd, rfl⟩ := List.mem_map.1 hx; exact hal d hd⟩
      rw [hp.length_eq, List.length_map, hdl]
    have hat : atNext it r clock clock seen 23 24 (.tuple [.bool false]) false s1 = { env := ((envF (.ptr db 0 0) (.ptr it 0 0)).set 23 (.tuple [.bool false])).set 24 (.bool false), ds := [], mem := ⟨((O.set it (.iter (some r) clock seen clock)).set fb (.u8 B md)) ++ X, s.mem.guard⟩ } := by
      unfold atNext
      rw [he, hd0]
      congr 1
      cases hmm : s1.mem with | mk mo mg => ?_
      rw [hmm] at hm hgd
      simp only at hm hgd
      subst hgd
      simp only [Mem.setObj, hm]
      congr 1
      rw [List.set_append_left _ _ (by simpa using hitl), List.set_comm _ _ hne1.symm, List.set_set]
    rw [hat]
    have hlenO : ∀ (x y : Obj), ((O.set it x).set fb y).length = O.length := by simp
    refine ⟨_, F.disk_Disk_Flush.r6 1 _ _ _ _ _ _ _ _ _ _ _ _ _ _ _ _ _ _ _ _ _ _ _ _ _ _ _ _ _ _ _ _ _ _ _ _ _ _ _ _, rfl, rfl, rfl, ⟨?_, ?_⟩, ?_⟩
    · show (flushMem O it fb es.length l md ds).length = ((O.set it (.iter (some r) clock seen clock)).set fb (.u8 B md) ++ X).length
      simp [flushMem, hXl, hsl]
    · intro i o' ho
      replace ho : (flushMem O it fb es.length l md ds)[i]? = some o' := ho
      show (_ ++ _)[i]? = _ ∨ _
      unfold flushMem at ho
      by_cases hi : i < O.length
      · rw [List.getElem?_append_left (by rw [hlenO]; exact hi)] at ho ⊢
        by_cases h1 : fb = i
        · subst h1
          rw [List.getElem?_set_self (by simpa using hfbl)] at ho ⊢
          left; rw [hBo]; exact ho
        · rw [List.getElem?_set_ne h1] at ho ⊢
          by_cases h2 : it = i
          · subst h2
            rw [List.getElem?_set_self hitl] at ho
            cases ho
            right
            exact ⟨rfl, .iter (some r) clock seen clock, List.getElem?_set_self hitl, rfl⟩
          · rw [List.getElem?_set_ne h2] at ho ⊢
            left; exact ho
      · rw [List.getElem?_append_right (by rw [hlenO]; omega), hlenO] at ho
        have hlt := (List.getElem?_eq_some_iff.1 ho).1
        have hdead : o' = .dead := by
          rw [List.getElem?_replicate] at ho
          split at ho
          · exact (Option.some.inj ho).symm
          · cases ho
        right
        refine ⟨hdead, X[i - O.length]'(by simp at hlt; omega), ?_, hXg _ (List.getElem_mem _)⟩
        show (_ ++ _)[i]? = _
        rw [List.getElem?_append_right (by rw [hlenO]; omega), hlenO, List.getElem?_eq_getElem]
    · intro i hi hn
      have hm0 : m0.objs.length ≤ O.length := by have := hS.grow.len; rw [hO] at this; exact this
      have hiO : i < O.length := by omega
      have hne : it ≠ i := by
        rintro rfl
        have := (hS.grow.keepI it hi hn).2 0
        obtain ⟨v', hv', hr'⟩ := hS.env.get h22
        cases hr' with | ptr hL => rw [this] at hL; cases hL
      show (flushMem O it fb es.length l md ds)[i]? = (_ ++ _)[i]?
      unfold flushMem
      rw [List.getElem?_append_left (by rw [hlenO]; exact hiO), List.getElem?_append_left (by rw [hlenO]; exact hiO)]
      by_cases h1 : fb = i
      · subst h1
        rw [List.getElem?_set_self (by simpa using hfbl), List.getElem?_set_self (by simpa using hfbl), hBo]
      · rw [List.getElem?_set_ne h1, List.getElem?_set_ne h1, List.getElem?_set_ne hne, List.getElem?_set_ne hne]
  · intro j' a' w' h
    exact hQ j' a' w' h
  · refine ⟨forget_env hlen h0 h22, hds, rfl, l, [], ?_, rfl, (fun o ho => by cases ho), ⟨List.nodup_nil, fun q hq => by cases hq⟩, rfl, fun p => ?_⟩
    · show s.mem.objs = _
      rw [hO, List.append_nil]
      have e1 : O.set it (.iter (some r) clock [] clock) = O := by
        apply List.ext_getElem?
        intro q
        by_cases hq : it = q
        · subst hq; rw [List.getElem?_set_self hitl, hit]
        · rw [List.getElem?_set_ne hq]
      have e2 : O.set fb (.u8 l md) = O := by
        apply List.ext_getElem?
        intro q
        by_cases hq : fb = q
        · subst hq; rw [List.getElem?_set_self hfbl, hfb]
        · rw [List.getElem?_set_ne hq]
      rw [e1, e2]
    · have : (ds.filter fun d => ([] : List Nat).contains d.2.2) = [] := by simp
      rw [this]; rfl

def flushHooks (f : FuncId) (k : Nat) : Option (St → Option St) := if f = id_disk_Disk_Flush ∧ k = 6 then some flushH else none
theorem flush_hookOk {cfg : Cfg} (hmix : PP.follows .mixedOrders = true) (h : cfg.hook = flushHooks) : HookOk PP cfg := by
  intro f id b H hb hp n0 w0 gs j0 m0 ws N j s s' a w Q hs hS hQ
  unfold hookOf at hb
  rw [h] at hb
  obtain ⟨k, hk, hb2⟩ := Option.bind_eq_some_iff.1 hb
  clear hb
  unfold flushHooks at hb2
  by_cases hc : f = id_disk_Disk_Flush ∧ k = 6
  · rw [if_pos hc] at hb2
    obtain ⟨rfl, rfl⟩ := hc
    cases hb2
    obtain ⟨rfl, rfl⟩ := flush_piece hp hk
    exact flush_hook hmix hs hS hQ
  · rw [if_neg hc] at hb2; cases hb2
end Go.Ig
