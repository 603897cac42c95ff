/-
  The functions of the seat's program, one by one, as the evaluator goes through them.
-/
import Derived.Test.YtcnjllnnhcafbaaDoorIgB
set_option maxRecDepth 100000
set_option linter.unusedVariables false
set_option linter.unusedSimpArgs false
namespace Go.Ig
open Go Go.Proofs
noncomputable def F.tandemref04_Disk_Crash_body : Code := (Tryd.f62.body).getD .skip
noncomputable def F.tandemref04_Disk_Crash.j44 (C : CallT) (k : Nat) (nx3 : V → V → V → V → V → V → V → V → V → V → Mem → Option (Ex × St)) (t0 t1 t2 t6 t7 t8 t28 t29 t30 t31 : V) (m : Mem) : Option (Ex × St) :=
  ((binOpV PP .add 3 t8 (V.int .i64 1)).bind fun v45 => (nx3 t0 t1 t2 t6 t7 v45 t28 t29 t30 t31 m))
noncomputable def F.tandemref04_Disk_Crash.j38 (C : CallT) (k : Nat) (nx3 : V → V → V → V → V → V → V → V → V → V → Mem → Option (Ex × St)) (t0 t1 t2 t6 t7 t8 t9 t28 t29 t30 t31 : V) (m : Mem) : Option (Ex × St) :=
  ((nilChkV t0).bind fun v39 => ((xFA 1 v39).bind fun v40 => ((xLoad false 1 m v40).bind fun v41 => ((xIS 1 v41 t9).bind fun v42 => ((xStore 1 m v42 V.nils).bind fun m43 => (F.tandemref04_Disk_Crash.j44 C k nx3 t0 t1 t2 t6 t7 t8 t28 t29 t30 t31 m43))))))
noncomputable def F.tandemref04_Disk_Crash.j31 (C : CallT) (k : Nat) (nx3 : V → V → V → V → V → V → V → V → V → V → Mem → Option (Ex × St)) (t0 t1 t2 t6 t7 t8 t9 t10 t28 t29 t30 t31 : V) (m : Mem) : Option (Ex × St) :=
  ((nilChkV t0).bind fun v32 => ((xFA 0 v32).bind fun v33 => ((xLoad false 1 m v33).bind fun v34 => ((xIS 1 v34 t9).bind fun v35 => ((xStore 1 m v35 t10).bind fun m36 => ((binOpV PP .add 3 t7 (V.int .i64 1)).bind fun v37 => (F.tandemref04_Disk_Crash.j38 C k nx3 t0 t1 t2 t6 v37 t8 t9 t28 t29 t30 t31 m36)))))))
noncomputable def F.tandemref04_Disk_Crash.j14 (C : CallT) (k : Nat) (nx3 : V → V → V → V → V → V → V → V → V → V → Mem → Option (Ex × St)) (t0 t1 t2 t6 t7 t8 t9 t28 t29 t30 t31 t32 : V) (m : Mem) : Option (Ex × St) :=
  (condV t32 ((nilChkV t0).bind fun v15 => ((xFA 1 v15).bind fun v16 => ((xLoad false 1 m v16).bind fun v17 => ((xIS 1 v17 t9).bind fun v18 => ((xLoad false 1 m v18).bind fun v19 => ((binOpV PP .eql 3 t7 t2).bind fun v20 => (condV v20 ((xBuildSl 1 true [(V.u8 0)] m 0 []).bind fun r21 => ((xSlL r21.2 1 v19 none (some (V.int .i64 32)) none).bind fun v22 => (if (sameO (xSlL m 1 v19 none (some (V.int .i64 32)) none) v22 && true) = true then ((xApp 1 1 true r21.2 r21.1 v22).bind fun r23 => ((nilChkV t0).bind fun v24 => ((xFA 0 v24).bind fun v25 => ((xLoad false 1 r23.2 v25).bind fun v26 => (if (sameO (xLoad false 1 r21.2 v25) v26 && (sameO (xLoad false 1 m v25) v26 && true)) = true then ((xIS 1 v26 t9).bind fun v27 => ((xLoad false 1 r23.2 v27).bind fun v28 => (if (sameO (xLoad false 1 r21.2 v27) v28 && (sameO (xLoad false 1 m v27) v28 && true)) = true then ((xSlL r23.2 1 v28 (some (V.int .i64 32)) none none).bind fun v29 => (if (sameO (xSlL r21.2 1 v28 (some (V.int .i64 32)) none none) v29 && (sameO (xSlL m 1 v28 (some (V.int .i64 32)) none none) v29 && true)) = true then ((xApp 1 1 true r23.2 r23.1 v29).bind fun r30 => (F.tandemref04_Disk_Crash.j31 C k nx3 t0 t1 t2 t6 t7 t8 t9 r30.1 t28 t29 t30 t31 r30.2)) else none)) else none))) else none))))) else none))) (F.tandemref04_Disk_Crash.j31 C k nx3 t0 t1 t2 t6 t7 t8 t9 v19 t28 t29 t30 t31 m)))))))) (F.tandemref04_Disk_Crash.j38 C k nx3 t0 t1 t2 t6 t7 t8 t9 t28 t29 t30 t31 m))
noncomputable def F.tandemref04_Disk_Crash.j7 (C : CallT) (k : Nat) (nx3 : V → V → V → V → V → V → V → V → V → V → Mem → Option (Ex × St)) (t0 t1 t2 t6 t7 t8 : V) (m : Mem) : Option (Ex × St) :=
  ((xIS 1 t6 t8).bind fun v8 => ((xLoad false 1 m v8).bind fun v9 => ((xLenL t1).bind fun v10 => ((binOpV PP .lss 3 t8 v10).bind fun v11 => (gate2 v11 true ((xIS 1 t1 t8).bind fun v12 => ((xLoad false 1 m v12).bind fun v13 => (F.tandemref04_Disk_Crash.j14 C k nx3 t0 t1 t2 t6 t7 t8 v9 t1 t8 v12 v13 v13 m))) (F.tandemref04_Disk_Crash.j14 C k nx3 t0 t1 t2 t6 t7 t8 v9 V.undef V.undef V.undef V.undef (V.bool false) m))))))
noncomputable def F.tandemref04_Disk_Crash.l3 (C : CallT) (k n : Nat) (t0 t1 t2 t6 t7 t8 t28 t29 t30 t31 : V) (m : Mem) : Option (Ex × St) := loopD PP cfgB C k n 62 (loopAt Tryd.f62 3) ⟨[t0, t1, t2, V.any, V.any, V.any, t6, t7, t8, V.any, V.any, V.any, V.any, V.any, V.any, V.any, V.any, V.any, V.any, V.any, V.any, V.any, V.any, V.any, V.any, V.any, V.any, V.any, t28, t29, t30, t31, V.any, V.any, V.any, V.any, V.any, V.any, V.any, V.any, V.any, V.any, V.any, V.any, V.any, V.any, V.any, V.any, V.any, V.any, V.any, V.any, V.any, V.any, V.any, V.any, V.any, V.any, V.any, V.any, V.any, V.any, V.any, V.any, V.any, V.any, V.any, V.any, V.any, V.any, V.any, V.any, V.any, V.any, V.any, V.any, V.any], [], m⟩
noncomputable def F.tandemref04_Disk_Crash.b3 (C : CallT) (k : Nat) (nx3 : V → V → V → V → V → V → V → V → V → V → Mem → Option (Ex × St)) (t0 t1 t2 t6 t7 t8 t28 t29 t30 t31 : V) (m : Mem) : Option (Ex × St) :=
  ((xLenL t6).bind fun v5 => ((binOpV PP .lss 3 t8 v5).bind fun v6 => (condV v6 (F.tandemref04_Disk_Crash.j7 C k nx3 t0 t1 t2 t6 t7 t8 m) (some (Ex.exit 0, ⟨[t0, V.any, V.any, V.any, V.any, V.any, V.any, V.any, V.any, V.any, V.any, V.any, V.any, V.any, V.any, V.any, V.any, V.any, V.any, V.any, V.any, V.any, V.any, V.any, V.any, V.any, V.any, V.any, V.any, V.any, V.any, V.any, V.any, V.any, V.any, V.any, V.any, V.any, V.any, V.any, V.any, V.any, V.any, V.any, V.any, V.any, V.any, V.any, V.any, V.any, V.any, V.any, V.any, V.any, V.any, V.any, V.any, V.any, V.any, V.any, V.any, V.any, V.any, V.any, V.any, V.any, V.any, V.any, V.any, V.any, V.any, V.any, V.any, V.any, V.any, V.any, V.any], [], m⟩)))))
theorem F.tandemref04_Disk_Crash.l3_succ (C : CallT) (k n : Nat) (t0 t1 t2 t6 t7 t8 t28 t29 t30 t31 : V) (m : Mem) : F.tandemref04_Disk_Crash.l3 C k (n + 1) t0 t1 t2 t6 t7 t8 t28 t29 t30 t31 m = F.tandemref04_Disk_Crash.b3 C k (F.tandemref04_Disk_Crash.l3 C k n) t0 t1 t2 t6 t7 t8 t28 t29 t30 t31 m :=
  (loopD_succ PP cfgB C k n 62 (loopAt Tryd.f62 3) ⟨[t0, t1, t2, V.any, V.any, V.any, t6, t7, t8, V.any, V.any, V.any, V.any, V.any, V.any, V.any, V.any, V.any, V.any, V.any, V.any, V.any, V.any, V.any, V.any, V.any, V.any, V.any, t28, t29, t30, t31, V.any, V.any, V.any, V.any, V.any, V.any, V.any, V.any, V.any, V.any, V.any, V.any, V.any, V.any, V.any, V.any, V.any, V.any, V.any, V.any, V.any, V.any, V.any, V.any, V.any, V.any, V.any, V.any, V.any, V.any, V.any, V.any, V.any, V.any, V.any, V.any, V.any, V.any, V.any, V.any, V.any, V.any, V.any, V.any, V.any], [], m⟩).trans (by kernel_rfl)
noncomputable def F.tandemref04_Disk_Crash.g3 (C : CallT) (k : Nat) : Nat → V → V → V → V → V → V → V → V → V → V → Mem → Option (Ex × St)
  | 0, _, _, _, _, _, _, _, _, _, _, _ => none
  | n + 1, t0, t1, t2, t6, t7, t8, t28, t29, t30, t31, m => F.tandemref04_Disk_Crash.b3 C k (F.tandemref04_Disk_Crash.g3 C k n) t0 t1 t2 t6 t7 t8 t28 t29 t30 t31 m
theorem F.tandemref04_Disk_Crash.g3_succ (C : CallT) (k n : Nat) (t0 t1 t2 t6 t7 t8 t28 t29 t30 t31 : V) (m : Mem) : F.tandemref04_Disk_Crash.g3 C k (n + 1) t0 t1 t2 t6 t7 t8 t28 t29 t30 t31 m = F.tandemref04_Disk_Crash.b3 C k (F.tandemref04_Disk_Crash.g3 C k n) t0 t1 t2 t6 t7 t8 t28 t29 t30 t31 m := rfl
theorem F.tandemref04_Disk_Crash.g3_zero (C : CallT) (k : Nat) (t0 t1 t2 t6 t7 t8 t28 t29 t30 t31 : V) (m : Mem) : F.tandemref04_Disk_Crash.g3 C k 0 t0 t1 t2 t6 t7 t8 t28 t29 t30 t31 m = none := rfl
theorem F.tandemref04_Disk_Crash.l3_eqR (C : CallT) (k : Nat) : ∀ (n : Nat) (t0 t1 t2 t6 t7 t8 t28 t29 t30 t31 : V) (m : Mem), F.tandemref04_Disk_Crash.l3 C k n t0 t1 t2 t6 t7 t8 t28 t29 t30 t31 m = F.tandemref04_Disk_Crash.g3 C k n t0 t1 t2 t6 t7 t8 t28 t29 t30 t31 m
  | 0, _, _, _, _, _, _, _, _, _, _, _ => rfl
  | n + 1, t0, t1, t2, t6, t7, t8, t28, t29, t30, t31, m => by
    have h : F.tandemref04_Disk_Crash.l3 C k n = F.tandemref04_Disk_Crash.g3 C k n := by funext t0 t1 t2 t6 t7 t8 t28 t29 t30 t31 m; exact F.tandemref04_Disk_Crash.l3_eqR C k n t0 t1 t2 t6 t7 t8 t28 t29 t30 t31 m
    rw [F.tandemref04_Disk_Crash.l3_succ, h]
    rfl
noncomputable def F.tandemref04_Disk_Crash.j49 (C : CallT) (k : Nat) (m0 : Mem) (t0 : V) (m : Mem) : Option (Out × Mem) :=
  ((nilChkV t0).bind fun v50 => ((xFA 2 v50).bind fun v51 => ((xStore 1 m v51 (V.bool false)).bind fun m52 => ((nilChkV t0).bind fun v53 => ((xFA 3 v53).bind fun v54 => ((xStore 1 m52 v54 (V.int .i64 (-1))).bind fun m55 => (retV true m0 (V.tuple []) m55)))))))
noncomputable def F.tandemref04_Disk_Crash.L0 (C : CallT) (k : Nat) (a0 a1 a2 : V) (m0 : Mem) : Option (Out × Mem) :=
  (callK (C (.fn id_tandemref04_Disk_Loose) [a0] (⟨m0.objs, m0.objs.length⟩ : Mem)) (fun v1 m2 => ((F.tandemref04_Disk_Crash.l3 C k k a0 a1 a2 v1 (V.int .i64 0) (V.int .i64 0) V.undef V.undef V.undef V.undef m2).bind fun r46 => exK r46.1 (F.tandemref04_Disk_Crash.j49 C k m0 (r46.2.env.getD 0 .any) r46.2.mem) (fun i47 => (if i47 = 0 then (F.tandemref04_Disk_Crash.j49 C k m0 (r46.2.env.getD 0 .any) r46.2.mem) else none)) (retV true m0 (V.tuple []) r46.2.mem) (fun q48 => none))) (fun q3 m4 => none))
noncomputable def F.tandemref04_Disk_Crash (C : CallT) (k : Nat) (a0 a1 a2 : V) (m0 : Mem) : Option (Out × Mem) :=
  (callK (C (.fn id_tandemref04_Disk_Loose) [a0] (⟨m0.objs, m0.objs.length⟩ : Mem)) (fun v1 m2 => ((F.tandemref04_Disk_Crash.g3 C k k a0 a1 a2 v1 (V.int .i64 0) (V.int .i64 0) V.undef V.undef V.undef V.undef m2).bind fun r46 => exK r46.1 (F.tandemref04_Disk_Crash.j49 C k m0 (r46.2.env.getD 0 .any) r46.2.mem) (fun i47 => (if i47 = 0 then (F.tandemref04_Disk_Crash.j49 C k m0 (r46.2.env.getD 0 .any) r46.2.mem) else none)) (retV true m0 (V.tuple []) r46.2.mem) (fun q48 => none))) (fun q3 m4 => none))
theorem F.tandemref04_Disk_Crash.L0_eqR (C : CallT) (k : Nat) (a0 a1 a2 : V) (m0 : Mem) : F.tandemref04_Disk_Crash.L0 C k a0 a1 a2 m0 = F.tandemref04_Disk_Crash C k a0 a1 a2 m0 := by
  unfold F.tandemref04_Disk_Crash.L0 F.tandemref04_Disk_Crash
  simp only [F.tandemref04_Disk_Crash.l3_eqR]
theorem F.tandemref04_Disk_Crash.of (C : CallT) (k : Nat) (a0 a1 a2 : V) (m0 : Mem) : fnK PP cfgB C k id_tandemref04_Disk_Crash Tryd.f62 F.tandemref04_Disk_Crash_body [a0, a1, a2] m0 = F.tandemref04_Disk_Crash C k a0 a1 a2 m0 :=
  (show _ = F.tandemref04_Disk_Crash.L0 C k a0 a1 a2 m0 by kernel_rfl).trans (F.tandemref04_Disk_Crash.L0_eqR _ _ _ _ _ _)
theorem F.tandemref04_Disk_Crash.eqG (cfg : Cfg) (hp : cfg.plain = cfgB) (hs : cfg.sum id_tandemref04_Disk_Crash = none) (k : Nat) (a0 a1 a2 : V) (m0 : Mem) : icall PP cfg (k + 1) (.fn id_tandemref04_Disk_Crash) [a0, a1, a2] m0 = F.tandemref04_Disk_Crash (icall PP cfg k) k a0 a1 a2 m0 :=
  (icall_eq PP cfg hp k id_tandemref04_Disk_Crash Tryd.f62 F.tandemref04_Disk_Crash_body [a0, a1, a2] m0 hs (by kernel_rfl) (by kernel_rfl)).trans (F.tandemref04_Disk_Crash.of _ _ _ _ _ _)
noncomputable def F.tandemref04_Disk_Turn_body : Code := (Tryd.f63.body).getD .skip
noncomputable def F.tandemref04_Disk_Turn.j9 (C : CallT) (k : Nat) (m0 : Mem) (t0 t1 t2 t3 : V) (m : Mem) : Option (Out × Mem) :=
  ((xBuildSl 1 true [(V.u8 0)] m 0 []).bind fun r10 => ((nilChkV t0).bind fun v11 => ((xFA 0 v11).bind fun v12 => ((xLoad false 1 r10.2 v12).bind fun v13 => ((xIS 1 v13 t1).bind fun v14 => ((xLoad false 1 r10.2 v14).bind fun v15 => ((xApp 1 1 true r10.2 r10.1 v15).bind fun r16 => ((xIS 1 r16.1 t2).bind fun v17 => ((xLoad false 1 r16.2 v17).bind fun v18 => ((binOpV PP .xor 5 v18 t3).bind fun v19 => ((xIS 1 r16.1 t2).bind fun v20 => ((xStore 1 r16.2 v20 v19).bind fun m21 => ((nilChkV t0).bind fun v22 => ((xFA 0 v22).bind fun v23 => ((xLoad false 1 m21 v23).bind fun v24 => ((xIS 1 v24 t1).bind fun v25 => ((xStore 1 m21 v25 r16.1).bind fun m26 => (retV true m0 (V.int .i64 0) m26))))))))))))))))))
noncomputable def F.tandemref04_Disk_Turn.j8 (C : CallT) (k : Nat) (m0 : Mem) (t0 t1 t2 t3 t21 : V) (m : Mem) : Option (Out × Mem) :=
  (condV t21 (retV true m0 (V.int .i64 5) m) (F.tandemref04_Disk_Turn.j9 C k m0 t0 t1 t2 t3 m))
noncomputable def F.tandemref04_Disk_Turn (C : CallT) (k : Nat) (a0 a1 a2 a3 : V) (m0 : Mem) : Option (Out × Mem) :=
  (callK (C (.fn id_tandemref04_Disk_there) [a0, a1] (⟨m0.objs, m0.objs.length⟩ : Mem)) (fun v1 m2 => ((unOpV .not v1).bind fun v5 => (gate2 v5 false ((binOpV PP .lss 3 a2 (V.int .i64 0)).bind fun v6 => (gate2 v6 false ((binOpV PP .geq 3 a2 (V.int .i64 64)).bind fun v7 => (F.tandemref04_Disk_Turn.j8 C k m0 a0 a1 a2 a3 v7 m2)) (F.tandemref04_Disk_Turn.j8 C k m0 a0 a1 a2 a3 (V.bool true) m2))) (F.tandemref04_Disk_Turn.j8 C k m0 a0 a1 a2 a3 (V.bool true) m2)))) (fun q3 m4 => none))
theorem F.tandemref04_Disk_Turn.of (C : CallT) (k : Nat) (a0 a1 a2 a3 : V) (m0 : Mem) : fnK PP cfgB C k id_tandemref04_Disk_Turn Tryd.f63 F.tandemref04_Disk_Turn_body [a0, a1, a2, a3] m0 = F.tandemref04_Disk_Turn C k a0 a1 a2 a3 m0 :=
  by kernel_rfl
theorem F.tandemref04_Disk_Turn.eqG (cfg : Cfg) (hp : cfg.plain = cfgB) (hs : cfg.sum id_tandemref04_Disk_Turn = none) (k : Nat) (a0 a1 a2 a3 : V) (m0 : Mem) : icall PP cfg (k + 1) (.fn id_tandemref04_Disk_Turn) [a0, a1, a2, a3] m0 = F.tandemref04_Disk_Turn (icall PP cfg k) k a0 a1 a2 a3 m0 :=
  (icall_eq PP cfg hp k id_tandemref04_Disk_Turn Tryd.f63 F.tandemref04_Disk_Turn_body [a0, a1, a2, a3] m0 hs (by kernel_rfl) (by kernel_rfl)).trans (F.tandemref04_Disk_Turn.of _ _ _ _ _ _ _)
noncomputable def F.tandemref04_Disk_Fuse_body : Code := (Tryd.f64.body).getD .skip
noncomputable def F.tandemref04_Disk_Fuse.j6 (C : CallT) (k : Nat) (m0 : Mem) (t0 t1 : V) (m : Mem) : Option (Out × Mem) :=
  ((nilChkV t0).bind fun v7 => ((xFA 3 v7).bind fun v8 => ((xStore 1 m v8 t1).bind fun m9 => (retV true m0 (V.int .i64 0) m9))))
noncomputable def F.tandemref04_Disk_Fuse.j4 (C : CallT) (k : Nat) (m0 : Mem) (t0 t1 : V) (m : Mem) : Option (Out × Mem) :=
  ((binOpV PP .lss 3 t1 (V.int .i64 0)).bind fun v5 => (condV v5 (retV true m0 (V.int .i64 2) m) (F.tandemref04_Disk_Fuse.j6 C k m0 t0 t1 m)))
noncomputable def F.tandemref04_Disk_Fuse (C : CallT) (k : Nat) (a0 a1 : V) (m0 : Mem) : Option (Out × Mem) :=
  ((nilChkV a0).bind fun v1 => ((xFA 2 v1).bind fun v2 => ((xLoad false 1 (⟨m0.objs, m0.objs.length⟩ : Mem) v2).bind fun v3 => (condV v3 (retV true m0 (V.int .i64 10) (⟨m0.objs, m0.objs.length⟩ : Mem)) (F.tandemref04_Disk_Fuse.j4 C k m0 a0 a1 (⟨m0.objs, m0.objs.length⟩ : Mem))))))
theorem F.tandemref04_Disk_Fuse.of (C : CallT) (k : Nat) (a0 a1 : V) (m0 : Mem) : fnK PP cfgB C k id_tandemref04_Disk_Fuse Tryd.f64 F.tandemref04_Disk_Fuse_body [a0, a1] m0 = F.tandemref04_Disk_Fuse C k a0 a1 m0 :=
  by kernel_rfl
theorem F.tandemref04_Disk_Fuse.eqG (cfg : Cfg) (hp : cfg.plain = cfgB) (hs : cfg.sum id_tandemref04_Disk_Fuse = none) (k : Nat) (a0 a1 : V) (m0 : Mem) : icall PP cfg (k + 1) (.fn id_tandemref04_Disk_Fuse) [a0, a1] m0 = F.tandemref04_Disk_Fuse (icall PP cfg k) k a0 a1 m0 :=
  (icall_eq PP cfg hp k id_tandemref04_Disk_Fuse Tryd.f64 F.tandemref04_Disk_Fuse_body [a0, a1] m0 hs (by kernel_rfl) (by kernel_rfl)).trans (F.tandemref04_Disk_Fuse.of _ _ _ _ _)
noncomputable def F.disk_Disk_Ops_body : Code := (Tryd.f65.body).getD .skip
noncomputable def F.disk_Disk_Ops.j5 (C : CallT) (k : Nat) (m0 : Mem) (t0 : V) (m : Mem) : Option (Out × Mem) :=
  ((nilChkV t0).bind fun v6 => ((xFA 4 v6).bind fun v7 => (callK (C (.fn id_sync_atomic_Int64_Load) [v7] m) (fun v8 m9 => (retV true m0 v8 m9)) (fun q10 m11 => none))))
noncomputable def F.disk_Disk_Ops (C : CallT) (k : Nat) (a0 : V) (m0 : Mem) : Option (Out × Mem) :=
  (callK (C (.fn id_disk_Disk_none) [a0] (⟨m0.objs, m0.objs.length⟩ : Mem)) (fun v1 m2 => (condV v1 (retV true m0 (V.int .i64 0) m2) (F.disk_Disk_Ops.j5 C k m0 a0 m2))) (fun q3 m4 => none))
theorem F.disk_Disk_Ops.of (C : CallT) (k : Nat) (a0 : V) (m0 : Mem) : fnK PP cfgB C k id_disk_Disk_Ops Tryd.f65 F.disk_Disk_Ops_body [a0] m0 = F.disk_Disk_Ops C k a0 m0 :=
  by kernel_rfl
theorem F.disk_Disk_Ops.eqG (cfg : Cfg) (hp : cfg.plain = cfgB) (hs : cfg.sum id_disk_Disk_Ops = none) (k : Nat) (a0 : V) (m0 : Mem) : icall PP cfg (k + 1) (.fn id_disk_Disk_Ops) [a0] m0 = F.disk_Disk_Ops (icall PP cfg k) k a0 m0 :=
  (icall_eq PP cfg hp k id_disk_Disk_Ops Tryd.f65 F.disk_Disk_Ops_body [a0] m0 hs (by kernel_rfl) (by kernel_rfl)).trans (F.disk_Disk_Ops.of _ _ _ _)
noncomputable def F.disk_Disk_Up_body : Code := (Tryd.f66.body).getD .skip
noncomputable def F.disk_Disk_Up (C : CallT) (k : Nat) (a0 : V) (m0 : Mem) : Option (Out × Mem) :=
  (callK (C (.fn id_disk_Disk_none) [a0] (⟨m0.objs, m0.objs.length⟩ : Mem)) (fun v1 m2 => ((unOpV .not v1).bind fun v5 => (gate2 v5 true ((nilChkV a0).bind fun v6 => ((xFA 3 v6).bind fun v7 => ((xLoad false 1 m2 v7).bind fun v8 => ((unOpV .not v8).bind fun v9 => (retV true m0 v9 m2))))) (retV true m0 (V.bool false) m2)))) (fun q3 m4 => none))
theorem F.disk_Disk_Up.of (C : CallT) (k : Nat) (a0 : V) (m0 : Mem) : fnK PP cfgB C k id_disk_Disk_Up Tryd.f66 F.disk_Disk_Up_body [a0] m0 = F.disk_Disk_Up C k a0 m0 :=
  by kernel_rfl
theorem F.disk_Disk_Up.eqG (cfg : Cfg) (hp : cfg.plain = cfgB) (hs : cfg.sum id_disk_Disk_Up = none) (k : Nat) (a0 : V) (m0 : Mem) : icall PP cfg (k + 1) (.fn id_disk_Disk_Up) [a0] m0 = F.disk_Disk_Up (icall PP cfg k) k a0 m0 :=
  (icall_eq PP cfg hp k id_disk_Disk_Up Tryd.f66 F.disk_Disk_Up_body [a0] m0 hs (by kernel_rfl) (by kernel_rfl)).trans (F.disk_Disk_Up.of _ _ _ _)
noncomputable def F.tandemref04_Disk_Read_body : Code := (Tryd.f67.body).getD .skip
noncomputable def F.tandemref04_Disk_Read.j24 (C : CallT) (k : Nat) (m0 : Mem) (t0 t1 : V) (m : Mem) : Option (Out × Mem) :=
  ((xBuildSl 1 true [(V.u8 0)] m 0 []).bind fun r25 => ((nilChkV t0).bind fun v26 => ((xFA 0 v26).bind fun v27 => ((xLoad false 1 r25.2 v27).bind fun v28 => ((xIS 1 v28 t1).bind fun v29 => ((xLoad false 1 r25.2 v29).bind fun v30 => ((xApp 1 1 true r25.2 r25.1 v30).bind fun r31 => (retV true m0 (V.tuple [r31.1, (V.int .i64 0)]) r31.2))))))))
noncomputable def F.tandemref04_Disk_Read.j10 (C : CallT) (k : Nat) (m0 : Mem) (t0 t1 : V) (m : Mem) : Option (Out × Mem) :=
  ((nilChkV t0).bind fun v11 => ((xFA 1 v11).bind fun v12 => ((xLoad false 1 m v12).bind fun v13 => ((xIS 1 v13 t1).bind fun v14 => ((xLoad false 1 m v14).bind fun v15 => ((binOpV PP .neq 22 v15 V.nils).bind fun v16 => (condV v16 ((xBuildSl 1 true [(V.u8 0)] m 0 []).bind fun r17 => ((nilChkV t0).bind fun v18 => ((xFA 1 v18).bind fun v19 => ((xLoad false 1 r17.2 v19).bind fun v20 => ((xIS 1 v20 t1).bind fun v21 => ((xLoad false 1 r17.2 v21).bind fun v22 => ((xApp 1 1 true r17.2 r17.1 v22).bind fun r23 => (retV true m0 (V.tuple [r23.1, (V.int .i64 0)]) r23.2)))))))) (F.tandemref04_Disk_Read.j24 C k m0 t0 t1 m))))))))
noncomputable def F.tandemref04_Disk_Read.j4 (C : CallT) (k : Nat) (m0 : Mem) (t0 t1 : V) (m : Mem) : Option (Out × Mem) :=
  (callK (C (.fn id_tandemref04_Disk_there) [t0, t1] m) (fun v5 m6 => ((unOpV .not v5).bind fun v9 => (condV v9 (retV true m0 (V.tuple [V.nils, (V.int .i64 5)]) m6) (F.tandemref04_Disk_Read.j10 C k m0 t0 t1 m6)))) (fun q7 m8 => none))
noncomputable def F.tandemref04_Disk_Read (C : CallT) (k : Nat) (a0 a1 : V) (m0 : Mem) : Option (Out × Mem) :=
  ((nilChkV a0).bind fun v1 => ((xFA 2 v1).bind fun v2 => ((xLoad false 1 (⟨m0.objs, m0.objs.length⟩ : Mem) v2).bind fun v3 => (condV v3 (retV true m0 (V.tuple [V.nils, (V.int .i64 10)]) (⟨m0.objs, m0.objs.length⟩ : Mem)) (F.tandemref04_Disk_Read.j4 C k m0 a0 a1 (⟨m0.objs, m0.objs.length⟩ : Mem))))))
theorem F.tandemref04_Disk_Read.of (C : CallT) (k : Nat) (a0 a1 : V) (m0 : Mem) : fnK PP cfgB C k id_tandemref04_Disk_Read Tryd.f67 F.tandemref04_Disk_Read_body [a0, a1] m0 = F.tandemref04_Disk_Read C k a0 a1 m0 :=
  by kernel_rfl
theorem F.tandemref04_Disk_Read.eqG (cfg : Cfg) (hp : cfg.plain = cfgB) (hs : cfg.sum id_tandemref04_Disk_Read = none) (k : Nat) (a0 a1 : V) (m0 : Mem) : icall PP cfg (k + 1) (.fn id_tandemref04_Disk_Read) [a0, a1] m0 = F.tandemref04_Disk_Read (icall PP cfg k) k a0 a1 m0 :=
  (icall_eq PP cfg hp k id_tandemref04_Disk_Read Tryd.f67 F.tandemref04_Disk_Read_body [a0, a1] m0 hs (by kernel_rfl) (by kernel_rfl)).trans (F.tandemref04_Disk_Read.of _ _ _ _ _)
noncomputable def F.fixed_lay_body : Code := (Tryd.f68.body).getD .skip
noncomputable def F.fixed_lay.j9 (C : CallT) (k : Nat) (nx3 : V → V → V → V → Mem → Option (Ex × St)) (t0 t1 t5 t7 : V) (m : Mem) : Option (Ex × St) :=
  ((binOpV PP .add 3 t7 (V.int .i64 1)).bind fun v10 => (nx3 t0 t1 t5 v10 m))
noncomputable def F.fixed_lay.j3 (C : CallT) (k : Nat) (nx3 : V → V → V → V → Mem → Option (Ex × St)) (t0 t1 t5 t7 : V) (m : Mem) : Option (Ex × St) :=
  ((binOpV PP .mul 3 (V.int .i64 8) t7).bind fun v4 => ((binOpV PP .shr 81 t0 v4).bind fun v5 => ((xConvI .u8 v5).bind fun v6 => ((xIA 8 1 t5 t7).bind fun v7 => ((xStore 1 m v7 v6).bind fun m8 => (F.fixed_lay.j9 C k nx3 t0 t1 t5 t7 m8))))))
noncomputable def F.fixed_lay.l3 (C : CallT) (k n : Nat) (t0 t1 t5 t7 : V) (m : Mem) : Option (Ex × St) := loopD PP cfgB C k n 68 (loopAt Tryd.f68 3) ⟨[t0, t1, V.any, V.any, V.any, t5, V.any, t7, V.any, V.any, V.any, V.any, V.any, V.any, V.any, V.any, V.any, V.any, V.any, V.any, V.any, V.any], [], m⟩
noncomputable def F.fixed_lay.b3 (C : CallT) (k : Nat) (nx3 : V → V → V → V → Mem → Option (Ex × St)) (t0 t1 t5 t7 : V) (m : Mem) : Option (Ex × St) :=
  ((binOpV PP .lss 3 t7 (V.int .i64 8)).bind fun v2 => (condV v2 (F.fixed_lay.j3 C k nx3 t0 t1 t5 t7 m) (some (Ex.exit 0, ⟨[V.any, t1, V.any, V.any, V.any, t5, V.any, V.any, V.any, V.any, V.any, V.any, V.any, V.any, V.any, V.any, V.any, V.any, V.any, V.any, V.any, V.any], [], m⟩))))
theorem F.fixed_lay.l3_succ (C : CallT) (k n : Nat) (t0 t1 t5 t7 : V) (m : Mem) : F.fixed_lay.l3 C k (n + 1) t0 t1 t5 t7 m = F.fixed_lay.b3 C k (F.fixed_lay.l3 C k n) t0 t1 t5 t7 m :=
  (loopD_succ PP cfgB C k n 68 (loopAt Tryd.f68 3) ⟨[t0, t1, V.any, V.any, V.any, t5, V.any, t7, V.any, V.any, V.any, V.any, V.any, V.any, V.any, V.any, V.any, V.any, V.any, V.any, V.any, V.any], [], m⟩).trans (by kernel_rfl)
noncomputable def F.fixed_lay.g3 (C : CallT) (k : Nat) : Nat → V → V → V → V → Mem → Option (Ex × St)
  | 0, _, _, _, _, _ => none
  | n + 1, t0, t1, t5, t7, m => F.fixed_lay.b3 C k (F.fixed_lay.g3 C k n) t0 t1 t5 t7 m
theorem F.fixed_lay.g3_succ (C : CallT) (k n : Nat) (t0 t1 t5 t7 : V) (m : Mem) : F.fixed_lay.g3 C k (n + 1) t0 t1 t5 t7 m = F.fixed_lay.b3 C k (F.fixed_lay.g3 C k n) t0 t1 t5 t7 m := rfl
theorem F.fixed_lay.g3_zero (C : CallT) (k : Nat) (t0 t1 t5 t7 : V) (m : Mem) : F.fixed_lay.g3 C k 0 t0 t1 t5 t7 m = none := rfl
theorem F.fixed_lay.l3_eqR (C : CallT) (k : Nat) : ∀ (n : Nat) (t0 t1 t5 t7 : V) (m : Mem), F.fixed_lay.l3 C k n t0 t1 t5 t7 m = F.fixed_lay.g3 C k n t0 t1 t5 t7 m
  | 0, _, _, _, _, _ => rfl
  | n + 1, t0, t1, t5, t7, m => by
    have h : F.fixed_lay.l3 C k n = F.fixed_lay.g3 C k n := by funext t0 t1 t5 t7 m; exact F.fixed_lay.l3_eqR C k n t0 t1 t5 t7 m
    rw [F.fixed_lay.l3_succ, h]
    rfl
noncomputable def F.fixed_lay.j14 (C : CallT) (k : Nat) (m0 : Mem) (t1 t5 : V) (m : Mem) : Option (Out × Mem) :=
  ((xBuildSl 1 true [(V.u8 0)] m 0 []).bind fun r15 => ((xSlA r15.2 8 1 t5 none (some t1) none).bind fun v16 => ((xApp 1 1 true r15.2 r15.1 v16).bind fun r17 => (retV true m0 r17.1 r17.2))))
noncomputable def F.fixed_lay.L0 (C : CallT) (k : Nat) (a0 a1 : V) (m0 : Mem) : Option (Out × Mem) :=
  ((xNew true [(V.u8 0),(V.u8 0),(V.u8 0),(V.u8 0),(V.u8 0),(V.u8 0),(V.u8 0),(V.u8 0)] (⟨m0.objs, m0.objs.length⟩ : Mem)).bind fun r1 => ((F.fixed_lay.l3 C k k a0 a1 r1.1 (V.int .i64 0) r1.2).bind fun r11 => exK r11.1 (F.fixed_lay.j14 C k m0 (r11.2.env.getD 1 .any) (r11.2.env.getD 5 .any) r11.2.mem) (fun i12 => (if i12 = 0 then (F.fixed_lay.j14 C k m0 (r11.2.env.getD 1 .any) (r11.2.env.getD 5 .any) r11.2.mem) else none)) (retV true m0 (r11.2.env.getD 4 .any) r11.2.mem) (fun q13 => none)))
noncomputable def F.fixed_lay (C : CallT) (k : Nat) (a0 a1 : V) (m0 : Mem) : Option (Out × Mem) :=
  ((xNew true [(V.u8 0),(V.u8 0),(V.u8 0),(V.u8 0),(V.u8 0),(V.u8 0),(V.u8 0),(V.u8 0)] (⟨m0.objs, m0.objs.length⟩ : Mem)).bind fun r1 => ((F.fixed_lay.g3 C k k a0 a1 r1.1 (V.int .i64 0) r1.2).bind fun r11 => exK r11.1 (F.fixed_lay.j14 C k m0 (r11.2.env.getD 1 .any) (r11.2.env.getD 5 .any) r11.2.mem) (fun i12 => (if i12 = 0 then (F.fixed_lay.j14 C k m0 (r11.2.env.getD 1 .any) (r11.2.env.getD 5 .any) r11.2.mem) else none)) (retV true m0 (r11.2.env.getD 4 .any) r11.2.mem) (fun q13 => none)))
theorem F.fixed_lay.L0_eqR (C : CallT) (k : Nat) (a0 a1 : V) (m0 : Mem) : F.fixed_lay.L0 C k a0 a1 m0 = F.fixed_lay C k a0 a1 m0 := by
  unfold F.fixed_lay.L0 F.fixed_lay
  simp only [F.fixed_lay.l3_eqR]
theorem F.fixed_lay.of (C : CallT) (k : Nat) (a0 a1 : V) (m0 : Mem) : fnK PP cfgB C k id_fixed_lay Tryd.f68 F.fixed_lay_body [a0, a1] m0 = F.fixed_lay C k a0 a1 m0 :=
  (show _ = F.fixed_lay.L0 C k a0 a1 m0 by kernel_rfl).trans (F.fixed_lay.L0_eqR _ _ _ _ _)
theorem F.fixed_lay.eqG (cfg : Cfg) (hp : cfg.plain = cfgB) (hs : cfg.sum id_fixed_lay = none) (k : Nat) (a0 a1 : V) (m0 : Mem) : icall PP cfg (k + 1) (.fn id_fixed_lay) [a0, a1] m0 = F.fixed_lay (icall PP cfg k) k a0 a1 m0 :=
  (icall_eq PP cfg hp k id_fixed_lay Tryd.f68 F.fixed_lay_body [a0, a1] m0 hs (by kernel_rfl) (by kernel_rfl)).trans (F.fixed_lay.of _ _ _ _ _)
noncomputable def F.crc_More_body : Code := (Tryd.f69.body).getD .skip
noncomputable def F.crc_More.j19 (C : CallT) (k : Nat) (nx3 : V → V → V → V → Mem → Option (Ex × St)) (t5 t10 t11 t12 : V) (m : Mem) : Option (Ex × St) :=
  ((binOpV PP .add 3 t12 (V.int .i64 1)).bind fun v20 => (nx3 t5 t10 t11 v20 m))
noncomputable def F.crc_More.j4 (C : CallT) (k : Nat) (nx3 : V → V → V → V → Mem → Option (Ex × St)) (t5 t10 t11 t12 : V) (m : Mem) : Option (Ex × St) :=
  ((xIS 1 t10 t12).bind fun v5 => ((xLoad false 1 m v5).bind fun v6 => ((xConvI .u32 v6).bind fun v7 => ((binOpV PP .xor 83 t5 v7).bind fun v8 => ((binOpV PP .shr 83 v8 (V.int .u64 4)).bind fun v9 => ((binOpV PP .and 83 v8 (V.int .u32 15)).bind fun v10 => ((xIA 16 1 (V.ptr 0 0 0) v10).bind fun v11 => ((xLoad false 1 m v11).bind fun v12 => ((binOpV PP .xor 83 v9 v12).bind fun v13 => ((binOpV PP .shr 83 v13 (V.int .u64 4)).bind fun v14 => ((binOpV PP .and 83 v13 (V.int .u32 15)).bind fun v15 => ((xIA 16 1 (V.ptr 0 0 0) v15).bind fun v16 => ((xLoad false 1 m v16).bind fun v17 => ((binOpV PP .xor 83 v14 v17).bind fun v18 => (F.crc_More.j19 C k nx3 v18 t10 t11 t12 m)))))))))))))))
noncomputable def F.crc_More.l3 (C : CallT) (k n : Nat) (t5 t10 t11 t12 : V) (m : Mem) : Option (Ex × St) := loopD PP cfgB C k n 69 (loopAt Tryd.f69 3) ⟨[V.any, V.any, V.any, V.any, V.any, t5, V.any, V.any, V.any, V.any, t10, t11, t12, V.any, V.any, V.any, V.any, V.any, V.any, V.any, V.any, V.any, V.any, V.any, V.any, V.any, V.any, V.any, V.any, V.any, V.any, V.any, V.any, V.any, V.any, V.any, V.any], [], m⟩
noncomputable def F.crc_More.b3 (C : CallT) (k : Nat) (nx3 : V → V → V → V → Mem → Option (Ex × St)) (t5 t10 t11 t12 : V) (m : Mem) : Option (Ex × St) :=
  ((binOpV PP .lss 3 t12 t11).bind fun v3 => (condV v3 (F.crc_More.j4 C k nx3 t5 t10 t11 t12 m) (some (Ex.exit 0, ⟨[V.any, V.any, V.any, V.any, V.any, t5, V.any, V.any, V.any, V.any, V.any, V.any, V.any, V.any, V.any, V.any, V.any, V.any, V.any, V.any, V.any, V.any, V.any, V.any, V.any, V.any, V.any, V.any, V.any, V.any, V.any, V.any, V.any, V.any, V.any, V.any, V.any], [], m⟩))))
theorem F.crc_More.l3_succ (C : CallT) (k n : Nat) (t5 t10 t11 t12 : V) (m : Mem) : F.crc_More.l3 C k (n + 1) t5 t10 t11 t12 m = F.crc_More.b3 C k (F.crc_More.l3 C k n) t5 t10 t11 t12 m :=
  (loopD_succ PP cfgB C k n 69 (loopAt Tryd.f69 3) ⟨[V.any, V.any, V.any, V.any, V.any, t5, V.any, V.any, V.any, V.any, t10, t11, t12, V.any, V.any, V.any, V.any, V.any, V.any, V.any, V.any, V.any, V.any, V.any, V.any, V.any, V.any, V.any, V.any, V.any, V.any, V.any, V.any, V.any, V.any, V.any, V.any], [], m⟩).trans (by kernel_rfl)
noncomputable def F.crc_More.g3 (C : CallT) (k : Nat) : Nat → V → V → V → V → Mem → Option (Ex × St)
  | 0, _, _, _, _, _ => none
  | n + 1, t5, t10, t11, t12, m => F.crc_More.b3 C k (F.crc_More.g3 C k n) t5 t10 t11 t12 m
theorem F.crc_More.g3_succ (C : CallT) (k n : Nat) (t5 t10 t11 t12 : V) (m : Mem) : F.crc_More.g3 C k (n + 1) t5 t10 t11 t12 m = F.crc_More.b3 C k (F.crc_More.g3 C k n) t5 t10 t11 t12 m := rfl
theorem F.crc_More.g3_zero (C : CallT) (k : Nat) (t5 t10 t11 t12 : V) (m : Mem) : F.crc_More.g3 C k 0 t5 t10 t11 t12 m = none := rfl
theorem F.crc_More.l3_eqR (C : CallT) (k : Nat) : ∀ (n : Nat) (t5 t10 t11 t12 : V) (m : Mem), F.crc_More.l3 C k n t5 t10 t11 t12 m = F.crc_More.g3 C k n t5 t10 t11 t12 m
  | 0, _, _, _, _, _ => rfl
  | n + 1, t5, t10, t11, t12, m => by
    have h : F.crc_More.l3 C k n = F.crc_More.g3 C k n := by funext t5 t10 t11 t12 m; exact F.crc_More.l3_eqR C k n t5 t10 t11 t12 m
    rw [F.crc_More.l3_succ, h]
    rfl
noncomputable def F.crc_More.j24 (C : CallT) (k : Nat) (m0 : Mem) (t5 : V) (m : Mem) : Option (Out × Mem) :=
  ((binOpV PP .xor 83 t5 (V.int .u32 4294967295)).bind fun v25 => (retV true m0 v25 m))
noncomputable def F.crc_More.L0 (C : CallT) (k : Nat) (a0 a1 : V) (m0 : Mem) : Option (Out × Mem) :=
  ((binOpV PP .xor 83 a0 (V.int .u32 4294967295)).bind fun v1 => ((xLenL a1).bind fun v2 => ((F.crc_More.l3 C k k v1 a1 v2 (V.int .i64 0) (⟨m0.objs, m0.objs.length⟩ : Mem)).bind fun r21 => exK r21.1 (F.crc_More.j24 C k m0 (r21.2.env.getD 5 .any) r21.2.mem) (fun i22 => (if i22 = 0 then (F.crc_More.j24 C k m0 (r21.2.env.getD 5 .any) r21.2.mem) else none)) (retV true m0 (r21.2.env.getD 4 .any) r21.2.mem) (fun q23 => none))))
noncomputable def F.crc_More (C : CallT) (k : Nat) (a0 a1 : V) (m0 : Mem) : Option (Out × Mem) :=
  ((binOpV PP .xor 83 a0 (V.int .u32 4294967295)).bind fun v1 => ((xLenL a1).bind fun v2 => ((F.crc_More.g3 C k k v1 a1 v2 (V.int .i64 0) (⟨m0.objs, m0.objs.length⟩ : Mem)).bind fun r21 => exK r21.1 (F.crc_More.j24 C k m0 (r21.2.env.getD 5 .any) r21.2.mem) (fun i22 => (if i22 = 0 then (F.crc_More.j24 C k m0 (r21.2.env.getD 5 .any) r21.2.mem) else none)) (retV true m0 (r21.2.env.getD 4 .any) r21.2.mem) (fun q23 => none))))
theorem F.crc_More.L0_eqR (C : CallT) (k : Nat) (a0 a1 : V) (m0 : Mem) : F.crc_More.L0 C k a0 a1 m0 = F.crc_More C k a0 a1 m0 := by
  unfold F.crc_More.L0 F.crc_More
  simp only [F.crc_More.l3_eqR]
theorem F.crc_More.of (C : CallT) (k : Nat) (a0 a1 : V) (m0 : Mem) : fnK PP cfgB C k id_crc_More Tryd.f69 F.crc_More_body [a0, a1] m0 = F.crc_More C k a0 a1 m0 :=
  (show _ = F.crc_More.L0 C k a0 a1 m0 by kernel_rfl).trans (F.crc_More.L0_eqR _ _ _ _ _)
theorem F.crc_More.eqG (cfg : Cfg) (hp : cfg.plain = cfgB) (hs : cfg.sum id_crc_More = none) (k : Nat) (a0 a1 : V) (m0 : Mem) : icall PP cfg (k + 1) (.fn id_crc_More) [a0, a1] m0 = F.crc_More (icall PP cfg k) k a0 a1 m0 :=
  (icall_eq PP cfg hp k id_crc_More Tryd.f69 F.crc_More_body [a0, a1] m0 hs (by kernel_rfl) (by kernel_rfl)).trans (F.crc_More.of _ _ _ _ _)
noncomputable def F.tandemref03_bytes_body : Code := (Tryd.f70.body).getD .skip
noncomputable def F.tandemref03_bytes.j8 (C : CallT) (k : Nat) (nx3 : V → V → V → V → Mem → Option (Ex × St)) (t0 t1 t5 t6 : V) (m : Mem) : Option (Ex × St) :=
  ((binOpV PP .add 3 t6 (V.int .i64 1)).bind fun v9 => (nx3 t0 t1 t5 v9 m))
noncomputable def F.tandemref03_bytes.j2 (C : CallT) (k : Nat) (nx3 : V → V → V → V → Mem → Option (Ex × St)) (t0 t1 t5 t6 : V) (m : Mem) : Option (Ex × St) :=
  ((binOpV PP .rem 81 t0 (V.int .u64 256)).bind fun v3 => ((xConvI .u8 v3).bind fun v4 => ((xBuildSl 1 true [(V.u8 0)] m 1 [(0, v4)]).bind fun r5 => ((xApp 1 1 true r5.2 t5 r5.1).bind fun r6 => ((binOpV PP .quo 81 t0 (V.int .u64 256)).bind fun v7 => (F.tandemref03_bytes.j8 C k nx3 v7 t1 r6.1 t6 r6.2))))))
noncomputable def F.tandemref03_bytes.l3 (C : CallT) (k n : Nat) (t0 t1 t5 t6 : V) (m : Mem) : Option (Ex × St) := loopD PP cfgB C k n 70 (loopAt Tryd.f70 3) ⟨[t0, t1, V.any, V.any, V.any, t5, t6, V.any, V.any, V.any, V.any, V.any, V.any, V.any, V.any, V.any, V.any, V.any, V.any, V.any, V.any], [], m⟩
noncomputable def F.tandemref03_bytes.b3 (C : CallT) (k : Nat) (nx3 : V → V → V → V → Mem → Option (Ex × St)) (t0 t1 t5 t6 : V) (m : Mem) : Option (Ex × St) :=
  ((binOpV PP .lss 3 t6 t1).bind fun v1 => (condV v1 (F.tandemref03_bytes.j2 C k nx3 t0 t1 t5 t6 m) (some (Ex.exit 0, ⟨[V.any, V.any, V.any, V.any, V.any, t5, V.any, V.any, V.any, V.any, V.any, V.any, V.any, V.any, V.any, V.any, V.any, V.any, V.any, V.any, V.any], [], m⟩))))
theorem F.tandemref03_bytes.l3_succ (C : CallT) (k n : Nat) (t0 t1 t5 t6 : V) (m : Mem) : F.tandemref03_bytes.l3 C k (n + 1) t0 t1 t5 t6 m = F.tandemref03_bytes.b3 C k (F.tandemref03_bytes.l3 C k n) t0 t1 t5 t6 m :=
  (loopD_succ PP cfgB C k n 70 (loopAt Tryd.f70 3) ⟨[t0, t1, V.any, V.any, V.any, t5, t6, V.any, V.any, V.any, V.any, V.any, V.any, V.any, V.any, V.any, V.any, V.any, V.any, V.any, V.any], [], m⟩).trans (by kernel_rfl)
noncomputable def F.tandemref03_bytes.g3 (C : CallT) (k : Nat) : Nat → V → V → V → V → Mem → Option (Ex × St)
  | 0, _, _, _, _, _ => none
  | n + 1, t0, t1, t5, t6, m => F.tandemref03_bytes.b3 C k (F.tandemref03_bytes.g3 C k n) t0 t1 t5 t6 m
theorem F.tandemref03_bytes.g3_succ (C : CallT) (k n : Nat) (t0 t1 t5 t6 : V) (m : Mem) : F.tandemref03_bytes.g3 C k (n + 1) t0 t1 t5 t6 m = F.tandemref03_bytes.b3 C k (F.tandemref03_bytes.g3 C k n) t0 t1 t5 t6 m := rfl
theorem F.tandemref03_bytes.g3_zero (C : CallT) (k : Nat) (t0 t1 t5 t6 : V) (m : Mem) : F.tandemref03_bytes.g3 C k 0 t0 t1 t5 t6 m = none := rfl
theorem F.tandemref03_bytes.l3_eqR (C : CallT) (k : Nat) : ∀ (n : Nat) (t0 t1 t5 t6 : V) (m : Mem), F.tandemref03_bytes.l3 C k n t0 t1 t5 t6 m = F.tandemref03_bytes.g3 C k n t0 t1 t5 t6 m
  | 0, _, _, _, _, _ => rfl
  | n + 1, t0, t1, t5, t6, m => by
    have h : F.tandemref03_bytes.l3 C k n = F.tandemref03_bytes.g3 C k n := by funext t0 t1 t5 t6 m; exact F.tandemref03_bytes.l3_eqR C k n t0 t1 t5 t6 m
    rw [F.tandemref03_bytes.l3_succ, h]
    rfl
noncomputable def F.tandemref03_bytes.j13 (C : CallT) (k : Nat) (m0 : Mem) (t5 : V) (m : Mem) : Option (Out × Mem) :=
  (retV true m0 t5 m)
noncomputable def F.tandemref03_bytes.L0 (C : CallT) (k : Nat) (a0 a1 : V) (m0 : Mem) : Option (Out × Mem) :=
  ((F.tandemref03_bytes.l3 C k k a0 a1 V.nils (V.int .i64 0) (⟨m0.objs, m0.objs.length⟩ : Mem)).bind fun r10 => exK r10.1 (F.tandemref03_bytes.j13 C k m0 (r10.2.env.getD 5 .any) r10.2.mem) (fun i11 => (if i11 = 0 then (F.tandemref03_bytes.j13 C k m0 (r10.2.env.getD 5 .any) r10.2.mem) else none)) (retV true m0 (r10.2.env.getD 4 .any) r10.2.mem) (fun q12 => none))
noncomputable def F.tandemref03_bytes (C : CallT) (k : Nat) (a0 a1 : V) (m0 : Mem) : Option (Out × Mem) :=
  ((F.tandemref03_bytes.g3 C k k a0 a1 V.nils (V.int .i64 0) (⟨m0.objs, m0.objs.length⟩ : Mem)).bind fun r10 => exK r10.1 (F.tandemref03_bytes.j13 C k m0 (r10.2.env.getD 5 .any) r10.2.mem) (fun i11 => (if i11 = 0 then (F.tandemref03_bytes.j13 C k m0 (r10.2.env.getD 5 .any) r10.2.mem) else none)) (retV true m0 (r10.2.env.getD 4 .any) r10.2.mem) (fun q12 => none))
theorem F.tandemref03_bytes.L0_eqR (C : CallT) (k : Nat) (a0 a1 : V) (m0 : Mem) : F.tandemref03_bytes.L0 C k a0 a1 m0 = F.tandemref03_bytes C k a0 a1 m0 := by
  unfold F.tandemref03_bytes.L0 F.tandemref03_bytes
  simp only [F.tandemref03_bytes.l3_eqR]
theorem F.tandemref03_bytes.of (C : CallT) (k : Nat) (a0 a1 : V) (m0 : Mem) : fnK PP cfgB C k id_tandemref03_bytes Tryd.f70 F.tandemref03_bytes_body [a0, a1] m0 = F.tandemref03_bytes C k a0 a1 m0 :=
  (show _ = F.tandemref03_bytes.L0 C k a0 a1 m0 by kernel_rfl).trans (F.tandemref03_bytes.L0_eqR _ _ _ _ _)
theorem F.tandemref03_bytes.eqG (cfg : Cfg) (hp : cfg.plain = cfgB) (hs : cfg.sum id_tandemref03_bytes = none) (k : Nat) (a0 a1 : V) (m0 : Mem) : icall PP cfg (k + 1) (.fn id_tandemref03_bytes) [a0, a1] m0 = F.tandemref03_bytes (icall PP cfg k) k a0 a1 m0 :=
  (icall_eq PP cfg hp k id_tandemref03_bytes Tryd.f70 F.tandemref03_bytes_body [a0, a1] m0 hs (by kernel_rfl) (by kernel_rfl)).trans (F.tandemref03_bytes.of _ _ _ _ _)
noncomputable def F.tandemref03_Word_body : Code := (Tryd.f71.body).getD .skip
noncomputable def F.tandemref03_Word (C : CallT) (k : Nat) (a0 : V) (m0 : Mem) : Option (Out × Mem) :=
  ((xConvI .u64 a0).bind fun v1 => (callK (C (.fn id_tandemref03_bytes) [v1, (V.int .i64 4)] (⟨m0.objs, m0.objs.length⟩ : Mem)) (fun v2 m3 => (retV true m0 v2 m3)) (fun q4 m5 => none)))
theorem F.tandemref03_Word.of (C : CallT) (k : Nat) (a0 : V) (m0 : Mem) : fnK PP cfgB C k id_tandemref03_Word Tryd.f71 F.tandemref03_Word_body [a0] m0 = F.tandemref03_Word C k a0 m0 :=
  by kernel_rfl
theorem F.tandemref03_Word.eqG (cfg : Cfg) (hp : cfg.plain = cfgB) (hs : cfg.sum id_tandemref03_Word = none) (k : Nat) (a0 : V) (m0 : Mem) : icall PP cfg (k + 1) (.fn id_tandemref03_Word) [a0] m0 = F.tandemref03_Word (icall PP cfg k) k a0 m0 :=
  (icall_eq PP cfg hp k id_tandemref03_Word Tryd.f71 F.tandemref03_Word_body [a0] m0 hs (by kernel_rfl) (by kernel_rfl)).trans (F.tandemref03_Word.of _ _ _ _)
noncomputable def F.tandemref01_Sum_body : Code := (Tryd.f72.body).getD .skip
noncomputable def F.tandemref01_Sum (C : CallT) (k : Nat) (a0 : V) (m0 : Mem) : Option (Out × Mem) :=
  (callK (C (.fn id_tandemref01_More) [(V.int .u32 0), a0] (⟨m0.objs, m0.objs.length⟩ : Mem)) (fun v1 m2 => (retV true m0 v1 m2)) (fun q3 m4 => none))
theorem F.tandemref01_Sum.of (C : CallT) (k : Nat) (a0 : V) (m0 : Mem) : fnK PP cfgB C k id_tandemref01_Sum Tryd.f72 F.tandemref01_Sum_body [a0] m0 = F.tandemref01_Sum C k a0 m0 :=
  by kernel_rfl
theorem F.tandemref01_Sum.eqG (cfg : Cfg) (hp : cfg.plain = cfgB) (hs : cfg.sum id_tandemref01_Sum = none) (k : Nat) (a0 : V) (m0 : Mem) : icall PP cfg (k + 1) (.fn id_tandemref01_Sum) [a0] m0 = F.tandemref01_Sum (icall PP cfg k) k a0 m0 :=
  (icall_eq PP cfg hp k id_tandemref01_Sum Tryd.f72 F.tandemref01_Sum_body [a0] m0 hs (by kernel_rfl) (by kernel_rfl)).trans (F.tandemref01_Sum.of _ _ _ _)
noncomputable def F.fixed_get_body : Code := (Tryd.f73.body).getD .skip
noncomputable def F.fixed_get.j29 (C : CallT) (k : Nat) (nx7 : V → V → V → V → V → V → V → Mem → Option (Ex × St)) (t1 t2 t8 t9 t38 t39 t40 : V) (m : Mem) : Option (Ex × St) :=
  ((binOpV PP .add 3 t40 (V.int .i64 1)).bind fun v30 => (nx7 t1 t2 t8 t9 t38 t39 v30 m))
noncomputable def F.fixed_get.j22 (C : CallT) (k : Nat) (nx7 : V → V → V → V → V → V → V → Mem → Option (Ex × St)) (t1 t2 t8 t9 t38 t39 t40 : V) (m : Mem) : Option (Ex × St) :=
  ((xIS 1 t38 t40).bind fun v23 => ((xLoad false 1 m v23).bind fun v24 => ((xConvI .u64 v24).bind fun v25 => ((binOpV PP .mul 3 (V.int .i64 8) t40).bind fun v26 => ((binOpV PP .shl 81 v25 v26).bind fun v27 => ((binOpV PP .or 81 t9 v27).bind fun v28 => (F.fixed_get.j29 C k nx7 t1 t2 t8 v28 t38 t39 t40 m)))))))
noncomputable def F.fixed_get.l7 (C : CallT) (k n : Nat) (t1 t2 t8 t9 t38 t39 t40 : V) (m : Mem) : Option (Ex × St) := loopD PP cfgB C k n 73 (loopAt Tryd.f73 7) ⟨[V.any, t1, t2, V.any, V.any, V.any, V.any, V.any, t8, t9, V.any, V.any, V.any, V.any, V.any, V.any, V.any, V.any, V.any, V.any, V.any, V.any, V.any, V.any, V.any, V.any, V.any, V.any, V.any, V.any, V.any, V.any, V.any, V.any, V.any, V.any, V.any, V.any, t38, t39, t40, V.any, V.any, V.any, V.any, V.any, V.any, V.any, V.any, V.any, V.any, V.any, V.any, V.any, V.any, V.any, V.any, V.any], [], m⟩
noncomputable def F.fixed_get.b7 (C : CallT) (k : Nat) (nx7 : V → V → V → V → V → V → V → Mem → Option (Ex × St)) (t1 t2 t8 t9 t38 t39 t40 : V) (m : Mem) : Option (Ex × St) :=
  ((binOpV PP .lss 3 t40 t39).bind fun v21 => (condV v21 (F.fixed_get.j22 C k nx7 t1 t2 t8 t9 t38 t39 t40 m) (some (Ex.exit 1, ⟨[V.any, t1, t2, V.any, V.any, V.any, V.any, V.any, t8, t9, V.any, V.any, V.any, V.any, V.any, V.any, V.any, V.any, V.any, V.any, V.any, V.any, V.any, V.any, V.any, V.any, V.any, V.any, V.any, V.any, V.any, V.any, V.any, V.any, V.any, V.any, V.any, V.any, V.any, V.any, V.any, V.any, V.any, V.any, V.any, V.any, V.any, V.any, V.any, V.any, V.any, V.any, V.any, V.any, V.any, V.any, V.any, V.any], [], m⟩))))
theorem F.fixed_get.l7_succ (C : CallT) (k n : Nat) (t1 t2 t8 t9 t38 t39 t40 : V) (m : Mem) : F.fixed_get.l7 C k (n + 1) t1 t2 t8 t9 t38 t39 t40 m = F.fixed_get.b7 C k (F.fixed_get.l7 C k n) t1 t2 t8 t9 t38 t39 t40 m :=
  (loopD_succ PP cfgB C k n 73 (loopAt Tryd.f73 7) ⟨[V.any, t1, t2, V.any, V.any, V.any, V.any, V.any, t8, t9, V.any, V.any, V.any, V.any, V.any, V.any, V.any, V.any, V.any, V.any, V.any, V.any, V.any, V.any, V.any, V.any, V.any, V.any, V.any, V.any, V.any, V.any, V.any, V.any, V.any, V.any, V.any, V.any, t38, t39, t40, V.any, V.any, V.any, V.any, V.any, V.any, V.any, V.any, V.any, V.any, V.any, V.any, V.any, V.any, V.any, V.any, V.any], [], m⟩).trans (by kernel_rfl)
noncomputable def F.fixed_get.g7 (C : CallT) (k : Nat) : Nat → V → V → V → V → V → V → V → Mem → Option (Ex × St)
  | 0, _, _, _, _, _, _, _, _ => none
  | n + 1, t1, t2, t8, t9, t38, t39, t40, m => F.fixed_get.b7 C k (F.fixed_get.g7 C k n) t1 t2 t8 t9 t38 t39 t40 m
theorem F.fixed_get.g7_succ (C : CallT) (k n : Nat) (t1 t2 t8 t9 t38 t39 t40 : V) (m : Mem) : F.fixed_get.g7 C k (n + 1) t1 t2 t8 t9 t38 t39 t40 m = F.fixed_get.b7 C k (F.fixed_get.g7 C k n) t1 t2 t8 t9 t38 t39 t40 m := rfl
theorem F.fixed_get.g7_zero (C : CallT) (k : Nat) (t1 t2 t8 t9 t38 t39 t40 : V) (m : Mem) : F.fixed_get.g7 C k 0 t1 t2 t8 t9 t38 t39 t40 m = none := rfl
theorem F.fixed_get.l7_eqR (C : CallT) (k : Nat) : ∀ (n : Nat) (t1 t2 t8 t9 t38 t39 t40 : V) (m : Mem), F.fixed_get.l7 C k n t1 t2 t8 t9 t38 t39 t40 m = F.fixed_get.g7 C k n t1 t2 t8 t9 t38 t39 t40 m
  | 0, _, _, _, _, _, _, _, _ => rfl
  | n + 1, t1, t2, t8, t9, t38, t39, t40, m => by
    have h : F.fixed_get.l7 C k n = F.fixed_get.g7 C k n := by funext t1 t2 t8 t9 t38 t39 t40 m; exact F.fixed_get.l7_eqR C k n t1 t2 t8 t9 t38 t39 t40 m
    rw [F.fixed_get.l7_succ, h]
    rfl
noncomputable def F.fixed_get.j34 (C : CallT) (k : Nat) (m0 : Mem) (t1 t2 t8 t9 : V) (m : Mem) : Option (Out × Mem) :=
  ((binOpV PP .add 3 t1 t2).bind fun v35 => ((xBuildS [(0, 1), (1, 1)] [(V.int .i64 0),(V.int .i64 0)] []).bind fun v36 => ((xStore 2 m t8 v36).bind fun m37 => ((loadV PP m37 86 t8).bind fun v38 => (retV true m0 (V.tuple [t9, v35, v38]) m37)))))
noncomputable def F.fixed_get.j16 (C : CallT) (k : Nat) (m0 : Mem) (t0 t1 t2 t8 : V) (m : Mem) : Option (Out × Mem) :=
  ((xConvI .u64 (V.int .i64 0)).bind fun v17 => ((binOpV PP .add 3 t1 t2).bind fun v18 => ((xSlL m 1 t0 (some t1) (some v18) none).bind fun v19 => ((xLenL v19).bind fun v20 => ((F.fixed_get.l7 C k k t1 t2 t8 v17 v19 v20 (V.int .i64 0) m).bind fun r31 => exK r31.1 (F.fixed_get.j34 C k m0 (r31.2.env.getD 1 .any) (r31.2.env.getD 2 .any) (r31.2.env.getD 8 .any) (r31.2.env.getD 9 .any) r31.2.mem) (fun i32 => (if i32 = 1 then (F.fixed_get.j34 C k m0 (r31.2.env.getD 1 .any) (r31.2.env.getD 2 .any) (r31.2.env.getD 8 .any) (r31.2.env.getD 9 .any) r31.2.mem) else none)) ((loadV PP r31.2.mem 86 (r31.2.env.getD 8 .any)).bind fun v39 => (retV true m0 (V.tuple [(r31.2.env.getD 6 .any), (r31.2.env.getD 7 .any), v39]) r31.2.mem)) (fun q33 => none))))))
noncomputable def F.fixed_get.j16R (C : CallT) (k : Nat) (m0 : Mem) (t0 t1 t2 t8 : V) (m : Mem) : Option (Out × Mem) :=
  ((xConvI .u64 (V.int .i64 0)).bind fun v17 => ((binOpV PP .add 3 t1 t2).bind fun v18 => ((xSlL m 1 t0 (some t1) (some v18) none).bind fun v19 => ((xLenL v19).bind fun v20 => ((F.fixed_get.g7 C k k t1 t2 t8 v17 v19 v20 (V.int .i64 0) m).bind fun r31 => exK r31.1 (F.fixed_get.j34 C k m0 (r31.2.env.getD 1 .any) (r31.2.env.getD 2 .any) (r31.2.env.getD 8 .any) (r31.2.env.getD 9 .any) r31.2.mem) (fun i32 => (if i32 = 1 then (F.fixed_get.j34 C k m0 (r31.2.env.getD 1 .any) (r31.2.env.getD 2 .any) (r31.2.env.getD 8 .any) (r31.2.env.getD 9 .any) r31.2.mem) else none)) ((loadV PP r31.2.mem 86 (r31.2.env.getD 8 .any)).bind fun v39 => (retV true m0 (V.tuple [(r31.2.env.getD 6 .any), (r31.2.env.getD 7 .any), v39]) r31.2.mem)) (fun q33 => none))))))
theorem F.fixed_get.j16_eqR (C : CallT) (k : Nat) (m0 : Mem) (t0 t1 t2 t8 : V) (m : Mem) : F.fixed_get.j16 C k m0 t0 t1 t2 t8 m = F.fixed_get.j16R C k m0 t0 t1 t2 t8 m := by
  unfold F.fixed_get.j16 F.fixed_get.j16R
  simp only [F.fixed_get.l7_eqR]
noncomputable def F.fixed_get.j5 (C : CallT) (k : Nat) (m0 : Mem) (t0 t1 t2 t8 t12 : V) (m : Mem) : Option (Out × Mem) :=
  (condV t12 ((xBuildS [(0, 1), (1, 1)] [(V.int .i64 0),(V.int .i64 0)] [(0, (V.int .i64 5))]).bind fun v6 => ((xStore 2 m t8 v6).bind fun m7 => ((loadV PP m7 86 t8).bind fun v8 => (retV true m0 (V.tuple [(V.int .u64 0), (V.int .i64 0), v8]) m7)))) ((xLenL t0).bind fun v9 => ((binOpV PP .sub 3 v9 t1).bind fun v10 => ((binOpV PP .lss 3 v10 t2).bind fun v11 => (condV v11 ((xLenL t0).bind fun v12 => ((xBuildS [(0, 1), (1, 1)] [(V.int .i64 0),(V.int .i64 0)] [(0, (V.int .i64 4)), (1, v12)]).bind fun v13 => ((xStore 2 m t8 v13).bind fun m14 => ((loadV PP m14 86 t8).bind fun v15 => (retV true m0 (V.tuple [(V.int .u64 0), (V.int .i64 0), v15]) m14))))) (F.fixed_get.j16 C k m0 t0 t1 t2 t8 m))))))
noncomputable def F.fixed_get.j5R (C : CallT) (k : Nat) (m0 : Mem) (t0 t1 t2 t8 t12 : V) (m : Mem) : Option (Out × Mem) :=
  (condV t12 ((xBuildS [(0, 1), (1, 1)] [(V.int .i64 0),(V.int .i64 0)] [(0, (V.int .i64 5))]).bind fun v6 => ((xStore 2 m t8 v6).bind fun m7 => ((loadV PP m7 86 t8).bind fun v8 => (retV true m0 (V.tuple [(V.int .u64 0), (V.int .i64 0), v8]) m7)))) ((xLenL t0).bind fun v9 => ((binOpV PP .sub 3 v9 t1).bind fun v10 => ((binOpV PP .lss 3 v10 t2).bind fun v11 => (condV v11 ((xLenL t0).bind fun v12 => ((xBuildS [(0, 1), (1, 1)] [(V.int .i64 0),(V.int .i64 0)] [(0, (V.int .i64 4)), (1, v12)]).bind fun v13 => ((xStore 2 m t8 v13).bind fun m14 => ((loadV PP m14 86 t8).bind fun v15 => (retV true m0 (V.tuple [(V.int .u64 0), (V.int .i64 0), v15]) m14))))) (F.fixed_get.j16R C k m0 t0 t1 t2 t8 m))))))
theorem F.fixed_get.j5_eqR (C : CallT) (k : Nat) (m0 : Mem) (t0 t1 t2 t8 t12 : V) (m : Mem) : F.fixed_get.j5 C k m0 t0 t1 t2 t8 t12 m = F.fixed_get.j5R C k m0 t0 t1 t2 t8 t12 m := by
  unfold F.fixed_get.j5 F.fixed_get.j5R
  simp only [F.fixed_get.l7_eqR, F.fixed_get.j16_eqR]
noncomputable def F.fixed_get.L0 (C : CallT) (k : Nat) (a0 a1 a2 : V) (m0 : Mem) : Option (Out × Mem) :=
  ((xNew false [(V.int .i64 0),(V.int .i64 0)] (⟨m0.objs, m0.objs.length⟩ : Mem)).bind fun r1 => ((binOpV PP .lss 3 a1 (V.int .i64 0)).bind fun v2 => (gate2 v2 false ((xLenL a0).bind fun v3 => ((binOpV PP .gtr 3 a1 v3).bind fun v4 => (F.fixed_get.j5 C k m0 a0 a1 a2 r1.1 v4 r1.2))) (F.fixed_get.j5 C k m0 a0 a1 a2 r1.1 (V.bool true) r1.2))))
noncomputable def F.fixed_get (C : CallT) (k : Nat) (a0 a1 a2 : V) (m0 : Mem) : Option (Out × Mem) :=
  ((xNew false [(V.int .i64 0),(V.int .i64 0)] (⟨m0.objs, m0.objs.length⟩ : Mem)).bind fun r1 => ((binOpV PP .lss 3 a1 (V.int .i64 0)).bind fun v2 => (gate2 v2 false ((xLenL a0).bind fun v3 => ((binOpV PP .gtr 3 a1 v3).bind fun v4 => (F.fixed_get.j5R C k m0 a0 a1 a2 r1.1 v4 r1.2))) (F.fixed_get.j5R C k m0 a0 a1 a2 r1.1 (V.bool true) r1.2))))
theorem F.fixed_get.L0_eqR (C : CallT) (k : Nat) (a0 a1 a2 : V) (m0 : Mem) : F.fixed_get.L0 C k a0 a1 a2 m0 = F.fixed_get C k a0 a1 a2 m0 := by
  unfold F.fixed_get.L0 F.fixed_get
  simp only [F.fixed_get.l7_eqR, F.fixed_get.j16_eqR, F.fixed_get.j5_eqR]
theorem F.fixed_get.of (C : CallT) (k : Nat) (a0 a1 a2 : V) (m0 : Mem) : fnK PP cfgB C k id_fixed_get Tryd.f73 F.fixed_get_body [a0, a1, a2] m0 = F.fixed_get C k a0 a1 a2 m0 :=
  (show _ = F.fixed_get.L0 C k a0 a1 a2 m0 by kernel_rfl).trans (F.fixed_get.L0_eqR _ _ _ _ _ _)
theorem F.fixed_get.eqG (cfg : Cfg) (hp : cfg.plain = cfgB) (hs : cfg.sum id_fixed_get = none) (k : Nat) (a0 a1 a2 : V) (m0 : Mem) : icall PP cfg (k + 1) (.fn id_fixed_get) [a0, a1, a2] m0 = F.fixed_get (icall PP cfg k) k a0 a1 a2 m0 :=
  (icall_eq PP cfg hp k id_fixed_get Tryd.f73 F.fixed_get_body [a0, a1, a2] m0 hs (by kernel_rfl) (by kernel_rfl)).trans (F.fixed_get.of _ _ _ _ _ _)
noncomputable def F.tandemref03_get_body : Code := (Tryd.f74.body).getD .skip
noncomputable def F.tandemref03_get.j27 (C : CallT) (k : Nat) (nx7 : V → V → V → V → V → V → Mem → Option (Ex × St)) (t0 t1 t2 t8 t9 t10 : V) (m : Mem) : Option (Ex × St) :=
  ((binOpV PP .sub 3 t10 (V.int .i64 1)).bind fun v28 => (nx7 t0 t1 t2 t8 t9 v28 m))
noncomputable def F.tandemref03_get.j20 (C : CallT) (k : Nat) (nx7 : V → V → V → V → V → V → Mem → Option (Ex × St)) (t0 t1 t2 t8 t9 t10 : V) (m : Mem) : Option (Ex × St) :=
  ((binOpV PP .mul 81 (V.int .u64 256) t9).bind fun v21 => ((binOpV PP .add 3 t1 t10).bind fun v22 => ((xIS 1 t0 v22).bind fun v23 => ((xLoad false 1 m v23).bind fun v24 => ((xConvI .u64 v24).bind fun v25 => ((binOpV PP .add 81 v21 v25).bind fun v26 => (F.tandemref03_get.j27 C k nx7 t0 t1 t2 t8 v26 t10 m)))))))
noncomputable def F.tandemref03_get.l7 (C : CallT) (k n : Nat) (t0 t1 t2 t8 t9 t10 : V) (m : Mem) : Option (Ex × St) := loopD PP cfgB C k n 74 (loopAt Tryd.f74 7) ⟨[t0, t1, t2, V.any, V.any, V.any, V.any, V.any, t8, t9, t10, V.any, V.any, V.any, V.any, V.any, V.any, V.any, V.any, V.any, V.any, V.any, V.any, V.any, V.any, V.any, V.any, V.any, V.any, V.any, V.any, V.any, V.any, V.any, V.any, V.any, V.any, V.any, V.any, V.any, V.any, V.any, V.any, V.any, V.any, V.any, V.any, V.any, V.any, V.any], [], m⟩
noncomputable def F.tandemref03_get.b7 (C : CallT) (k : Nat) (nx7 : V → V → V → V → V → V → Mem → Option (Ex × St)) (t0 t1 t2 t8 t9 t10 : V) (m : Mem) : Option (Ex × St) :=
  ((binOpV PP .geq 3 t10 (V.int .i64 0)).bind fun v19 => (condV v19 (F.tandemref03_get.j20 C k nx7 t0 t1 t2 t8 t9 t10 m) (some (Ex.exit 0, ⟨[V.any, t1, t2, V.any, V.any, V.any, V.any, V.any, t8, t9, V.any, V.any, V.any, V.any, V.any, V.any, V.any, V.any, V.any, V.any, V.any, V.any, V.any, V.any, V.any, V.any, V.any, V.any, V.any, V.any, V.any, V.any, V.any, V.any, V.any, V.any, V.any, V.any, V.any, V.any, V.any, V.any, V.any, V.any, V.any, V.any, V.any, V.any, V.any, V.any], [], m⟩))))
theorem F.tandemref03_get.l7_succ (C : CallT) (k n : Nat) (t0 t1 t2 t8 t9 t10 : V) (m : Mem) : F.tandemref03_get.l7 C k (n + 1) t0 t1 t2 t8 t9 t10 m = F.tandemref03_get.b7 C k (F.tandemref03_get.l7 C k n) t0 t1 t2 t8 t9 t10 m :=
  (loopD_succ PP cfgB C k n 74 (loopAt Tryd.f74 7) ⟨[t0, t1, t2, V.any, V.any, V.any, V.any, V.any, t8, t9, t10, V.any, V.any, V.any, V.any, V.any, V.any, V.any, V.any, V.any, V.any, V.any, V.any, V.any, V.any, V.any, V.any, V.any, V.any, V.any, V.any, V.any, V.any, V.any, V.any, V.any, V.any, V.any, V.any, V.any, V.any, V.any, V.any, V.any, V.any, V.any, V.any, V.any, V.any, V.any], [], m⟩).trans (by kernel_rfl)
noncomputable def F.tandemref03_get.g7 (C : CallT) (k : Nat) : Nat → V → V → V → V → V → V → Mem → Option (Ex × St)
  | 0, _, _, _, _, _, _, _ => none
  | n + 1, t0, t1, t2, t8, t9, t10, m => F.tandemref03_get.b7 C k (F.tandemref03_get.g7 C k n) t0 t1 t2 t8 t9 t10 m
theorem F.tandemref03_get.g7_succ (C : CallT) (k n : Nat) (t0 t1 t2 t8 t9 t10 : V) (m : Mem) : F.tandemref03_get.g7 C k (n + 1) t0 t1 t2 t8 t9 t10 m = F.tandemref03_get.b7 C k (F.tandemref03_get.g7 C k n) t0 t1 t2 t8 t9 t10 m := rfl
theorem F.tandemref03_get.g7_zero (C : CallT) (k : Nat) (t0 t1 t2 t8 t9 t10 : V) (m : Mem) : F.tandemref03_get.g7 C k 0 t0 t1 t2 t8 t9 t10 m = none := rfl
theorem F.tandemref03_get.l7_eqR (C : CallT) (k : Nat) : ∀ (n : Nat) (t0 t1 t2 t8 t9 t10 : V) (m : Mem), F.tandemref03_get.l7 C k n t0 t1 t2 t8 t9 t10 m = F.tandemref03_get.g7 C k n t0 t1 t2 t8 t9 t10 m
  | 0, _, _, _, _, _, _, _ => rfl
  | n + 1, t0, t1, t2, t8, t9, t10, m => by
    have h : F.tandemref03_get.l7 C k n = F.tandemref03_get.g7 C k n := by funext t0 t1 t2 t8 t9 t10 m; exact F.tandemref03_get.l7_eqR C k n t0 t1 t2 t8 t9 t10 m
    rw [F.tandemref03_get.l7_succ, h]
    rfl
noncomputable def F.tandemref03_get.j32 (C : CallT) (k : Nat) (m0 : Mem) (t1 t2 t8 t9 : V) (m : Mem) : Option (Out × Mem) :=
  ((binOpV PP .add 3 t1 t2).bind fun v33 => ((xBuildS [(0, 1), (1, 1)] [(V.int .i64 0),(V.int .i64 0)] []).bind fun v34 => ((xStore 2 m t8 v34).bind fun m35 => ((loadV PP m35 86 t8).bind fun v36 => (retV true m0 (V.tuple [t9, v33, v36]) m35)))))
noncomputable def F.tandemref03_get.j17 (C : CallT) (k : Nat) (m0 : Mem) (t0 t1 t2 t8 : V) (m : Mem) : Option (Out × Mem) :=
  ((binOpV PP .sub 3 t2 (V.int .i64 1)).bind fun v18 => ((F.tandemref03_get.l7 C k k t0 t1 t2 t8 (V.int .u64 0) v18 m).bind fun r29 => exK r29.1 (F.tandemref03_get.j32 C k m0 (r29.2.env.getD 1 .any) (r29.2.env.getD 2 .any) (r29.2.env.getD 8 .any) (r29.2.env.getD 9 .any) r29.2.mem) (fun i30 => (if i30 = 0 then (F.tandemref03_get.j32 C k m0 (r29.2.env.getD 1 .any) (r29.2.env.getD 2 .any) (r29.2.env.getD 8 .any) (r29.2.env.getD 9 .any) r29.2.mem) else none)) ((loadV PP r29.2.mem 86 (r29.2.env.getD 8 .any)).bind fun v37 => (retV true m0 (V.tuple [(r29.2.env.getD 6 .any), (r29.2.env.getD 7 .any), v37]) r29.2.mem)) (fun q31 => none)))
noncomputable def F.tandemref03_get.j17R (C : CallT) (k : Nat) (m0 : Mem) (t0 t1 t2 t8 : V) (m : Mem) : Option (Out × Mem) :=
  ((binOpV PP .sub 3 t2 (V.int .i64 1)).bind fun v18 => ((F.tandemref03_get.g7 C k k t0 t1 t2 t8 (V.int .u64 0) v18 m).bind fun r29 => exK r29.1 (F.tandemref03_get.j32 C k m0 (r29.2.env.getD 1 .any) (r29.2.env.getD 2 .any) (r29.2.env.getD 8 .any) (r29.2.env.getD 9 .any) r29.2.mem) (fun i30 => (if i30 = 0 then (F.tandemref03_get.j32 C k m0 (r29.2.env.getD 1 .any) (r29.2.env.getD 2 .any) (r29.2.env.getD 8 .any) (r29.2.env.getD 9 .any) r29.2.mem) else none)) ((loadV PP r29.2.mem 86 (r29.2.env.getD 8 .any)).bind fun v37 => (retV true m0 (V.tuple [(r29.2.env.getD 6 .any), (r29.2.env.getD 7 .any), v37]) r29.2.mem)) (fun q31 => none)))
theorem F.tandemref03_get.j17_eqR (C : CallT) (k : Nat) (m0 : Mem) (t0 t1 t2 t8 : V) (m : Mem) : F.tandemref03_get.j17 C k m0 t0 t1 t2 t8 m = F.tandemref03_get.j17R C k m0 t0 t1 t2 t8 m := by
  unfold F.tandemref03_get.j17 F.tandemref03_get.j17R
  simp only [F.tandemref03_get.l7_eqR]
noncomputable def F.tandemref03_get.j9 (C : CallT) (k : Nat) (m0 : Mem) (t0 t1 t2 t8 : V) (m : Mem) : Option (Out × Mem) :=
  ((xLenL t0).bind fun v10 => ((binOpV PP .sub 3 v10 t1).bind fun v11 => ((binOpV PP .lss 3 v11 t2).bind fun v12 => (condV v12 ((xLenL t0).bind fun v13 => ((xBuildS [(0, 1), (1, 1)] [(V.int .i64 0),(V.int .i64 0)] [(0, (V.int .i64 4)), (1, v13)]).bind fun v14 => ((xStore 2 m t8 v14).bind fun m15 => ((loadV PP m15 86 t8).bind fun v16 => (retV true m0 (V.tuple [(V.int .u64 0), (V.int .i64 0), v16]) m15))))) (F.tandemref03_get.j17 C k m0 t0 t1 t2 t8 m)))))
noncomputable def F.tandemref03_get.j9R (C : CallT) (k : Nat) (m0 : Mem) (t0 t1 t2 t8 : V) (m : Mem) : Option (Out × Mem) :=
  ((xLenL t0).bind fun v10 => ((binOpV PP .sub 3 v10 t1).bind fun v11 => ((binOpV PP .lss 3 v11 t2).bind fun v12 => (condV v12 ((xLenL t0).bind fun v13 => ((xBuildS [(0, 1), (1, 1)] [(V.int .i64 0),(V.int .i64 0)] [(0, (V.int .i64 4)), (1, v13)]).bind fun v14 => ((xStore 2 m t8 v14).bind fun m15 => ((loadV PP m15 86 t8).bind fun v16 => (retV true m0 (V.tuple [(V.int .u64 0), (V.int .i64 0), v16]) m15))))) (F.tandemref03_get.j17R C k m0 t0 t1 t2 t8 m)))))
theorem F.tandemref03_get.j9_eqR (C : CallT) (k : Nat) (m0 : Mem) (t0 t1 t2 t8 : V) (m : Mem) : F.tandemref03_get.j9 C k m0 t0 t1 t2 t8 m = F.tandemref03_get.j9R C k m0 t0 t1 t2 t8 m := by
  unfold F.tandemref03_get.j9 F.tandemref03_get.j9R
  simp only [F.tandemref03_get.l7_eqR, F.tandemref03_get.j17_eqR]
noncomputable def F.tandemref03_get.j5 (C : CallT) (k : Nat) (m0 : Mem) (t0 t1 t2 t8 t18 : V) (m : Mem) : Option (Out × Mem) :=
  (condV t18 ((xBuildS [(0, 1), (1, 1)] [(V.int .i64 0),(V.int .i64 0)] [(0, (V.int .i64 5))]).bind fun v6 => ((xStore 2 m t8 v6).bind fun m7 => ((loadV PP m7 86 t8).bind fun v8 => (retV true m0 (V.tuple [(V.int .u64 0), (V.int .i64 0), v8]) m7)))) (F.tandemref03_get.j9 C k m0 t0 t1 t2 t8 m))
noncomputable def F.tandemref03_get.j5R (C : CallT) (k : Nat) (m0 : Mem) (t0 t1 t2 t8 t18 : V) (m : Mem) : Option (Out × Mem) :=
  (condV t18 ((xBuildS [(0, 1), (1, 1)] [(V.int .i64 0),(V.int .i64 0)] [(0, (V.int .i64 5))]).bind fun v6 => ((xStore 2 m t8 v6).bind fun m7 => ((loadV PP m7 86 t8).bind fun v8 => (retV true m0 (V.tuple [(V.int .u64 0), (V.int .i64 0), v8]) m7)))) (F.tandemref03_get.j9R C k m0 t0 t1 t2 t8 m))
theorem F.tandemref03_get.j5_eqR (C : CallT) (k : Nat) (m0 : Mem) (t0 t1 t2 t8 t18 : V) (m : Mem) : F.tandemref03_get.j5 C k m0 t0 t1 t2 t8 t18 m = F.tandemref03_get.j5R C k m0 t0 t1 t2 t8 t18 m := by
  unfold F.tandemref03_get.j5 F.tandemref03_get.j5R
  simp only [F.tandemref03_get.l7_eqR, F.tandemref03_get.j17_eqR, F.tandemref03_get.j9_eqR]
noncomputable def F.tandemref03_get.L0 (C : CallT) (k : Nat) (a0 a1 a2 : V) (m0 : Mem) : Option (Out × Mem) :=
  ((xNew false [(V.int .i64 0),(V.int .i64 0)] (⟨m0.objs, m0.objs.length⟩ : Mem)).bind fun r1 => ((binOpV PP .lss 3 a1 (V.int .i64 0)).bind fun v2 => (gate2 v2 false ((xLenL a0).bind fun v3 => ((binOpV PP .gtr 3 a1 v3).bind fun v4 => (F.tandemref03_get.j5 C k m0 a0 a1 a2 r1.1 v4 r1.2))) (F.tandemref03_get.j5 C k m0 a0 a1 a2 r1.1 (V.bool true) r1.2))))
noncomputable def F.tandemref03_get (C : CallT) (k : Nat) (a0 a1 a2 : V) (m0 : Mem) : Option (Out × Mem) :=
  ((xNew false [(V.int .i64 0),(V.int .i64 0)] (⟨m0.objs, m0.objs.length⟩ : Mem)).bind fun r1 => ((binOpV PP .lss 3 a1 (V.int .i64 0)).bind fun v2 => (gate2 v2 false ((xLenL a0).bind fun v3 => ((binOpV PP .gtr 3 a1 v3).bind fun v4 => (F.tandemref03_get.j5R C k m0 a0 a1 a2 r1.1 v4 r1.2))) (F.tandemref03_get.j5R C k m0 a0 a1 a2 r1.1 (V.bool true) r1.2))))
theorem F.tandemref03_get.L0_eqR (C : CallT) (k : Nat) (a0 a1 a2 : V) (m0 : Mem) : F.tandemref03_get.L0 C k a0 a1 a2 m0 = F.tandemref03_get C k a0 a1 a2 m0 := by
  unfold F.tandemref03_get.L0 F.tandemref03_get
  simp only [F.tandemref03_get.l7_eqR, F.tandemref03_get.j17_eqR, F.tandemref03_get.j9_eqR, F.tandemref03_get.j5_eqR]
theorem F.tandemref03_get.of (C : CallT) (k : Nat) (a0 a1 a2 : V) (m0 : Mem) : fnK PP cfgB C k id_tandemref03_get Tryd.f74 F.tandemref03_get_body [a0, a1, a2] m0 = F.tandemref03_get C k a0 a1 a2 m0 :=
  (show _ = F.tandemref03_get.L0 C k a0 a1 a2 m0 by kernel_rfl).trans (F.tandemref03_get.L0_eqR _ _ _ _ _ _)
theorem F.tandemref03_get.eqG (cfg : Cfg) (hp : cfg.plain = cfgB) (hs : cfg.sum id_tandemref03_get = none) (k : Nat) (a0 a1 a2 : V) (m0 : Mem) : icall PP cfg (k + 1) (.fn id_tandemref03_get) [a0, a1, a2] m0 = F.tandemref03_get (icall PP cfg k) k a0 a1 a2 m0 :=
  (icall_eq PP cfg hp k id_tandemref03_get Tryd.f74 F.tandemref03_get_body [a0, a1, a2] m0 hs (by kernel_rfl) (by kernel_rfl)).trans (F.tandemref03_get.of _ _ _ _ _ _)
noncomputable def F.disk_Disk_change_body : Code := (Tryd.f75.body).getD .skip
noncomputable def F.disk_Disk_change.j20 (C : CallT) (k : Nat) (m0 : Mem) (t0 : V) (m : Mem) : Option (Out × Mem) :=
  ((nilChkV t0).bind fun v21 => ((xFA 4 v21).bind fun v22 => (callK (C (.fn id_sync_atomic_Int64_Add) [v22, (V.int .i64 1)] m) (fun v23 m24 => (retV true m0 (V.bool true) m24)) (fun q25 m26 => none))))
noncomputable def F.disk_Disk_change.j8 (C : CallT) (k : Nat) (m0 : Mem) (t0 : V) (m : Mem) : Option (Out × Mem) :=
  ((nilChkV t0).bind fun v9 => ((xFA 2 v9).bind fun v10 => ((xLoad false 1 m v10).bind fun v11 => ((binOpV PP .gtr 3 v11 (V.int .i64 0)).bind fun v12 => (condV v12 ((nilChkV t0).bind fun v13 => ((xFA 2 v13).bind fun v14 => ((xLoad false 1 m v14).bind fun v15 => ((binOpV PP .sub 3 v15 (V.int .i64 1)).bind fun v16 => ((nilChkV t0).bind fun v17 => ((xFA 2 v17).bind fun v18 => ((xStore 1 m v18 v16).bind fun m19 => (F.disk_Disk_change.j20 C k m0 t0 m19)))))))) (F.disk_Disk_change.j20 C k m0 t0 m))))))
noncomputable def F.disk_Disk_change (C : CallT) (k : Nat) (a0 : V) (m0 : Mem) : Option (Out × Mem) :=
  ((nilChkV a0).bind fun v1 => ((xFA 2 v1).bind fun v2 => ((xLoad false 1 (⟨m0.objs, m0.objs.length⟩ : Mem) v2).bind fun v3 => ((binOpV PP .eql 3 v3 (V.int .i64 0)).bind fun v4 => (condV v4 ((nilChkV a0).bind fun v5 => ((xFA 3 v5).bind fun v6 => ((xStore 1 (⟨m0.objs, m0.objs.length⟩ : Mem) v6 (V.bool true)).bind fun m7 => (retV true m0 (V.bool false) m7)))) (F.disk_Disk_change.j8 C k m0 a0 (⟨m0.objs, m0.objs.length⟩ : Mem)))))))
theorem F.disk_Disk_change.of (C : CallT) (k : Nat) (a0 : V) (m0 : Mem) : fnK PP cfgB C k id_disk_Disk_change Tryd.f75 F.disk_Disk_change_body [a0] m0 = F.disk_Disk_change C k a0 m0 :=
  by kernel_rfl
theorem F.disk_Disk_change.eqG (cfg : Cfg) (hp : cfg.plain = cfgB) (hs : cfg.sum id_disk_Disk_change = none) (k : Nat) (a0 : V) (m0 : Mem) : icall PP cfg (k + 1) (.fn id_disk_Disk_change) [a0] m0 = F.disk_Disk_change (icall PP cfg k) k a0 m0 :=
  (icall_eq PP cfg hp k id_disk_Disk_change Tryd.f75 F.disk_Disk_change_body [a0] m0 hs (by kernel_rfl) (by kernel_rfl)).trans (F.disk_Disk_change.of _ _ _ _)
noncomputable def F.slices_Sorted_body : Code := (Tryd.f76.body).getD .skip
noncomputable def F.slices_Sorted (C : CallT) (k : Nat) (a0 : V) (m0 : Mem) : Option (Out × Mem) :=
  (callK (C (.fn id_slices_Collect) [a0] (⟨m0.objs, m0.objs.length⟩ : Mem)) (fun v1 m2 => (callK (C (.fn id_slices_Sort) [v1] m2) (fun v5 m6 => (retV true m0 v1 m6)) (fun q7 m8 => none))) (fun q3 m4 => none))
theorem F.slices_Sorted.of (C : CallT) (k : Nat) (a0 : V) (m0 : Mem) : fnK PP cfgB C k id_slices_Sorted Tryd.f76 F.slices_Sorted_body [a0] m0 = F.slices_Sorted C k a0 m0 :=
  by kernel_rfl
theorem F.slices_Sorted.eqG (cfg : Cfg) (hp : cfg.plain = cfgB) (hs : cfg.sum id_slices_Sorted = none) (k : Nat) (a0 : V) (m0 : Mem) : icall PP cfg (k + 1) (.fn id_slices_Sorted) [a0] m0 = F.slices_Sorted (icall PP cfg k) k a0 m0 :=
  (icall_eq PP cfg hp k id_slices_Sorted Tryd.f76 F.slices_Sorted_body [a0] m0 hs (by kernel_rfl) (by kernel_rfl)).trans (F.slices_Sorted.of _ _ _ _)
noncomputable def F.maps_Keys_body : Code := (Tryd.f77.body).getD .skip
noncomputable def F.maps_Keys (C : CallT) (k : Nat) (a0 : V) (m0 : Mem) : Option (Out × Mem) :=
  ((xBox false m0 a0).bind fun r1 => (retV false m0 (V.fn 86 [] [r1.1]) r1.2))
theorem F.maps_Keys.of (C : CallT) (k : Nat) (a0 : V) (m0 : Mem) : fnK PP cfgB C k id_maps_Keys Tryd.f77 F.maps_Keys_body [a0] m0 = F.maps_Keys C k a0 m0 :=
  by kernel_rfl
theorem F.maps_Keys.eqG (cfg : Cfg) (hp : cfg.plain = cfgB) (hs : cfg.sum id_maps_Keys = none) (k : Nat) (a0 : V) (m0 : Mem) : icall PP cfg (k + 1) (.fn id_maps_Keys) [a0] m0 = F.maps_Keys (icall PP cfg k) k a0 m0 :=
  (icall_eq PP cfg hp k id_maps_Keys Tryd.f77 F.maps_Keys_body [a0] m0 hs (by kernel_rfl) (by kernel_rfl)).trans (F.maps_Keys.of _ _ _ _)
noncomputable def F.tandemref04_Disk_there_body : Code := (Tryd.f78.body).getD .skip
noncomputable def F.tandemref04_Disk_there (C : CallT) (k : Nat) (a0 a1 : V) (m0 : Mem) : Option (Out × Mem) :=
  ((binOpV PP .geq 3 a1 (V.int .i64 0)).bind fun v1 => (gate2 v1 true ((nilChkV a0).bind fun v2 => ((xFA 0 v2).bind fun v3 => ((xLoad false 1 (⟨m0.objs, m0.objs.length⟩ : Mem) v3).bind fun v4 => ((xLenL v4).bind fun v5 => ((binOpV PP .lss 3 a1 v5).bind fun v6 => (retV true m0 v6 (⟨m0.objs, m0.objs.length⟩ : Mem))))))) (retV true m0 (V.bool false) (⟨m0.objs, m0.objs.length⟩ : Mem))))
theorem F.tandemref04_Disk_there.of (C : CallT) (k : Nat) (a0 a1 : V) (m0 : Mem) : fnK PP cfgB C k id_tandemref04_Disk_there Tryd.f78 F.tandemref04_Disk_there_body [a0, a1] m0 = F.tandemref04_Disk_there C k a0 a1 m0 :=
  by kernel_rfl
theorem F.tandemref04_Disk_there.eqG (cfg : Cfg) (hp : cfg.plain = cfgB) (hs : cfg.sum id_tandemref04_Disk_there = none) (k : Nat) (a0 a1 : V) (m0 : Mem) : icall PP cfg (k + 1) (.fn id_tandemref04_Disk_there) [a0, a1] m0 = F.tandemref04_Disk_there (icall PP cfg k) k a0 a1 m0 :=
  (icall_eq PP cfg hp k id_tandemref04_Disk_there Tryd.f78 F.tandemref04_Disk_there_body [a0, a1] m0 hs (by kernel_rfl) (by kernel_rfl)).trans (F.tandemref04_Disk_there.of _ _ _ _ _)
noncomputable def F.tandemref04_Disk_change_body : Code := (Tryd.f79.body).getD .skip
noncomputable def F.tandemref04_Disk_change.j20 (C : CallT) (k : Nat) (m0 : Mem) (t0 : V) (m : Mem) : Option (Out × Mem) :=
  ((nilChkV t0).bind fun v21 => ((xFA 4 v21).bind fun v22 => ((xLoad false 1 m v22).bind fun v23 => ((binOpV PP .add 3 v23 (V.int .i64 1)).bind fun v24 => ((nilChkV t0).bind fun v25 => ((xFA 4 v25).bind fun v26 => ((xStore 1 m v26 v24).bind fun m27 => (retV true m0 (V.bool true) m27))))))))
noncomputable def F.tandemref04_Disk_change.j8 (C : CallT) (k : Nat) (m0 : Mem) (t0 : V) (m : Mem) : Option (Out × Mem) :=
  ((nilChkV t0).bind fun v9 => ((xFA 3 v9).bind fun v10 => ((xLoad false 1 m v10).bind fun v11 => ((binOpV PP .gtr 3 v11 (V.int .i64 0)).bind fun v12 => (condV v12 ((nilChkV t0).bind fun v13 => ((xFA 3 v13).bind fun v14 => ((xLoad false 1 m v14).bind fun v15 => ((binOpV PP .sub 3 v15 (V.int .i64 1)).bind fun v16 => ((nilChkV t0).bind fun v17 => ((xFA 3 v17).bind fun v18 => ((xStore 1 m v18 v16).bind fun m19 => (F.tandemref04_Disk_change.j20 C k m0 t0 m19)))))))) (F.tandemref04_Disk_change.j20 C k m0 t0 m))))))
noncomputable def F.tandemref04_Disk_change (C : CallT) (k : Nat) (a0 : V) (m0 : Mem) : Option (Out × Mem) :=
  ((nilChkV a0).bind fun v1 => ((xFA 3 v1).bind fun v2 => ((xLoad false 1 (⟨m0.objs, m0.objs.length⟩ : Mem) v2).bind fun v3 => ((binOpV PP .eql 3 v3 (V.int .i64 0)).bind fun v4 => (condV v4 ((nilChkV a0).bind fun v5 => ((xFA 2 v5).bind fun v6 => ((xStore 1 (⟨m0.objs, m0.objs.length⟩ : Mem) v6 (V.bool true)).bind fun m7 => (retV true m0 (V.bool false) m7)))) (F.tandemref04_Disk_change.j8 C k m0 a0 (⟨m0.objs, m0.objs.length⟩ : Mem)))))))
theorem F.tandemref04_Disk_change.of (C : CallT) (k : Nat) (a0 : V) (m0 : Mem) : fnK PP cfgB C k id_tandemref04_Disk_change Tryd.f79 F.tandemref04_Disk_change_body [a0] m0 = F.tandemref04_Disk_change C k a0 m0 :=
  by kernel_rfl
theorem F.tandemref04_Disk_change.eqG (cfg : Cfg) (hp : cfg.plain = cfgB) (hs : cfg.sum id_tandemref04_Disk_change = none) (k : Nat) (a0 : V) (m0 : Mem) : icall PP cfg (k + 1) (.fn id_tandemref04_Disk_change) [a0] m0 = F.tandemref04_Disk_change (icall PP cfg k) k a0 m0 :=
  (icall_eq PP cfg hp k id_tandemref04_Disk_change Tryd.f79 F.tandemref04_Disk_change_body [a0] m0 hs (by kernel_rfl) (by kernel_rfl)).trans (F.tandemref04_Disk_change.of _ _ _ _)
noncomputable def F.tandemref04_Disk_Loose_body : Code := (Tryd.f80.body).getD .skip
noncomputable def F.tandemref04_Disk_Loose.j15 (C : CallT) (k : Nat) (nx3 : V → V → V → Mem → Option (Ex × St)) (t0 t3 t4 : V) (m : Mem) : Option (Ex × St) :=
  ((binOpV PP .add 3 t4 (V.int .i64 1)).bind fun v16 => (nx3 t0 t3 v16 m))
noncomputable def F.tandemref04_Disk_Loose.j6 (C : CallT) (k : Nat) (nx3 : V → V → V → Mem → Option (Ex × St)) (t0 t3 t4 : V) (m : Mem) : Option (Ex × St) :=
  ((nilChkV t0).bind fun v7 => ((xFA 1 v7).bind fun v8 => ((xLoad false 1 m v8).bind fun v9 => ((xIS 1 v9 t4).bind fun v10 => ((xLoad false 1 m v10).bind fun v11 => ((binOpV PP .neq 22 v11 V.nils).bind fun v12 => (condV v12 ((xBuildSl 1 false [(V.int .i64 0)] m 1 [(0, t4)]).bind fun r13 => ((xApp 1 8 false r13.2 t3 r13.1).bind fun r14 => (F.tandemref04_Disk_Loose.j15 C k nx3 t0 r14.1 t4 r14.2))) (F.tandemref04_Disk_Loose.j15 C k nx3 t0 t3 t4 m))))))))
noncomputable def F.tandemref04_Disk_Loose.l3 (C : CallT) (k n : Nat) (t0 t3 t4 : V) (m : Mem) : Option (Ex × St) := loopD PP cfgB C k n 80 (loopAt Tryd.f80 3) ⟨[t0, V.any, V.any, t3, t4, V.any, V.any, V.any, V.any, V.any, V.any, V.any, V.any, V.any, V.any, V.any, V.any, V.any, V.any, V.any, V.any, V.any, V.any, V.any, V.any, V.any, V.any], [], m⟩
noncomputable def F.tandemref04_Disk_Loose.b3 (C : CallT) (k : Nat) (nx3 : V → V → V → Mem → Option (Ex × St)) (t0 t3 t4 : V) (m : Mem) : Option (Ex × St) :=
  ((nilChkV t0).bind fun v1 => ((xFA 1 v1).bind fun v2 => ((xLoad false 1 m v2).bind fun v3 => ((xLenL v3).bind fun v4 => ((binOpV PP .lss 3 t4 v4).bind fun v5 => (condV v5 (F.tandemref04_Disk_Loose.j6 C k nx3 t0 t3 t4 m) (some (Ex.exit 0, ⟨[V.any, V.any, V.any, t3, V.any, V.any, V.any, V.any, V.any, V.any, V.any, V.any, V.any, V.any, V.any, V.any, V.any, V.any, V.any, V.any, V.any, V.any, V.any, V.any, V.any, V.any, V.any], [], m⟩))))))))
theorem F.tandemref04_Disk_Loose.l3_succ (C : CallT) (k n : Nat) (t0 t3 t4 : V) (m : Mem) : F.tandemref04_Disk_Loose.l3 C k (n + 1) t0 t3 t4 m = F.tandemref04_Disk_Loose.b3 C k (F.tandemref04_Disk_Loose.l3 C k n) t0 t3 t4 m :=
  (loopD_succ PP cfgB C k n 80 (loopAt Tryd.f80 3) ⟨[t0, V.any, V.any, t3, t4, V.any, V.any, V.any, V.any, V.any, V.any, V.any, V.any, V.any, V.any, V.any, V.any, V.any, V.any, V.any, V.any, V.any, V.any, V.any, V.any, V.any, V.any], [], m⟩).trans (by kernel_rfl)
noncomputable def F.tandemref04_Disk_Loose.g3 (C : CallT) (k : Nat) : Nat → V → V → V → Mem → Option (Ex × St)
  | 0, _, _, _, _ => none
  | n + 1, t0, t3, t4, m => F.tandemref04_Disk_Loose.b3 C k (F.tandemref04_Disk_Loose.g3 C k n) t0 t3 t4 m
theorem F.tandemref04_Disk_Loose.g3_succ (C : CallT) (k n : Nat) (t0 t3 t4 : V) (m : Mem) : F.tandemref04_Disk_Loose.g3 C k (n + 1) t0 t3 t4 m = F.tandemref04_Disk_Loose.b3 C k (F.tandemref04_Disk_Loose.g3 C k n) t0 t3 t4 m := rfl
theorem F.tandemref04_Disk_Loose.g3_zero (C : CallT) (k : Nat) (t0 t3 t4 : V) (m : Mem) : F.tandemref04_Disk_Loose.g3 C k 0 t0 t3 t4 m = none := rfl
theorem F.tandemref04_Disk_Loose.l3_eqR (C : CallT) (k : Nat) : ∀ (n : Nat) (t0 t3 t4 : V) (m : Mem), F.tandemref04_Disk_Loose.l3 C k n t0 t3 t4 m = F.tandemref04_Disk_Loose.g3 C k n t0 t3 t4 m
  | 0, _, _, _, _ => rfl
  | n + 1, t0, t3, t4, m => by
    have h : F.tandemref04_Disk_Loose.l3 C k n = F.tandemref04_Disk_Loose.g3 C k n := by funext t0 t3 t4 m; exact F.tandemref04_Disk_Loose.l3_eqR C k n t0 t3 t4 m
    rw [F.tandemref04_Disk_Loose.l3_succ, h]
    rfl
noncomputable def F.tandemref04_Disk_Loose.j20 (C : CallT) (k : Nat) (m0 : Mem) (t3 : V) (m : Mem) : Option (Out × Mem) :=
  (retV true m0 t3 m)
noncomputable def F.tandemref04_Disk_Loose.L0 (C : CallT) (k : Nat) (a0 : V) (m0 : Mem) : Option (Out × Mem) :=
  ((F.tandemref04_Disk_Loose.l3 C k k a0 V.nils (V.int .i64 0) (⟨m0.objs, m0.objs.length⟩ : Mem)).bind fun r17 => exK r17.1 (F.tandemref04_Disk_Loose.j20 C k m0 (r17.2.env.getD 3 .any) r17.2.mem) (fun i18 => (if i18 = 0 then (F.tandemref04_Disk_Loose.j20 C k m0 (r17.2.env.getD 3 .any) r17.2.mem) else none)) (retV true m0 (r17.2.env.getD 2 .any) r17.2.mem) (fun q19 => none))
noncomputable def F.tandemref04_Disk_Loose (C : CallT) (k : Nat) (a0 : V) (m0 : Mem) : Option (Out × Mem) :=
  ((F.tandemref04_Disk_Loose.g3 C k k a0 V.nils (V.int .i64 0) (⟨m0.objs, m0.objs.length⟩ : Mem)).bind fun r17 => exK r17.1 (F.tandemref04_Disk_Loose.j20 C k m0 (r17.2.env.getD 3 .any) r17.2.mem) (fun i18 => (if i18 = 0 then (F.tandemref04_Disk_Loose.j20 C k m0 (r17.2.env.getD 3 .any) r17.2.mem) else none)) (retV true m0 (r17.2.env.getD 2 .any) r17.2.mem) (fun q19 => none))
theorem F.tandemref04_Disk_Loose.L0_eqR (C : CallT) (k : Nat) (a0 : V) (m0 : Mem) : F.tandemref04_Disk_Loose.L0 C k a0 m0 = F.tandemref04_Disk_Loose C k a0 m0 := by
  unfold F.tandemref04_Disk_Loose.L0 F.tandemref04_Disk_Loose
  simp only [F.tandemref04_Disk_Loose.l3_eqR]
theorem F.tandemref04_Disk_Loose.of (C : CallT) (k : Nat) (a0 : V) (m0 : Mem) : fnK PP cfgB C k id_tandemref04_Disk_Loose Tryd.f80 F.tandemref04_Disk_Loose_body [a0] m0 = F.tandemref04_Disk_Loose C k a0 m0 :=
  (show _ = F.tandemref04_Disk_Loose.L0 C k a0 m0 by kernel_rfl).trans (F.tandemref04_Disk_Loose.L0_eqR _ _ _ _)
theorem F.tandemref04_Disk_Loose.eqG (cfg : Cfg) (hp : cfg.plain = cfgB) (hs : cfg.sum id_tandemref04_Disk_Loose = none) (k : Nat) (a0 : V) (m0 : Mem) : icall PP cfg (k + 1) (.fn id_tandemref04_Disk_Loose) [a0] m0 = F.tandemref04_Disk_Loose (icall PP cfg k) k a0 m0 :=
  (icall_eq PP cfg hp k id_tandemref04_Disk_Loose Tryd.f80 F.tandemref04_Disk_Loose_body [a0] m0 hs (by kernel_rfl) (by kernel_rfl)).trans (F.tandemref04_Disk_Loose.of _ _ _ _)
noncomputable def F.sync_atomic_Int64_Load_body : Code := (Tryd.f81.body).getD .skip
noncomputable def F.sync_atomic_Int64_Load (C : CallT) (k : Nat) (a0 : V) (m0 : Mem) : Option (Out × Mem) :=
  ((nilChkV a0).bind fun v1 => ((xFA 0 v1).bind fun v2 => ((extV .atomicLoad [v2] (⟨m0.objs, m0.objs.length⟩ : Mem)).bind fun r3 => (retV true m0 r3.1 r3.2))))
theorem F.sync_atomic_Int64_Load.of (C : CallT) (k : Nat) (a0 : V) (m0 : Mem) : fnK PP cfgB C k id_sync_atomic_Int64_Load Tryd.f81 F.sync_atomic_Int64_Load_body [a0] m0 = F.sync_atomic_Int64_Load C k a0 m0 :=
  by kernel_rfl
theorem F.sync_atomic_Int64_Load.eqG (cfg : Cfg) (hp : cfg.plain = cfgB) (hs : cfg.sum id_sync_atomic_Int64_Load = none) (k : Nat) (a0 : V) (m0 : Mem) : icall PP cfg (k + 1) (.fn id_sync_atomic_Int64_Load) [a0] m0 = F.sync_atomic_Int64_Load (icall PP cfg k) k a0 m0 :=
  (icall_eq PP cfg hp k id_sync_atomic_Int64_Load Tryd.f81 F.sync_atomic_Int64_Load_body [a0] m0 hs (by kernel_rfl) (by kernel_rfl)).trans (F.sync_atomic_Int64_Load.of _ _ _ _)
noncomputable def F.tandemref01_More_body : Code := (Tryd.f82.body).getD .skip
noncomputable def F.tandemref01_More.j15 (C : CallT) (k : Nat) (nx7 : V → V → V → V → Mem → Option (Ex × St)) (t1 t5 t6 t7 : V) (m : Mem) : Option (Ex × St) :=
  ((binOpV PP .add 3 t7 (V.int .i64 1)).bind fun v16 => (nx7 t1 t5 t6 v16 m))
noncomputable def F.tandemref01_More.j10 (C : CallT) (k : Nat) (nx7 : V → V → V → V → Mem → Option (Ex × St)) (t1 t5 t6 t7 : V) (m : Mem) : Option (Ex × St) :=
  ((binOpV PP .rem 83 t5 (V.int .u32 2)).bind fun v11 => ((binOpV PP .quo 83 t5 (V.int .u32 2)).bind fun v12 => ((binOpV PP .eql 83 v11 (V.int .u32 1)).bind fun v13 => (condV v13 ((binOpV PP .xor 83 v12 (V.int .u32 3988292384)).bind fun v14 => (F.tandemref01_More.j15 C k nx7 t1 v14 t6 t7 m)) (F.tandemref01_More.j15 C k nx7 t1 v12 t6 t7 m)))))
noncomputable def F.tandemref01_More.l7 (C : CallT) (k n : Nat) (t1 t5 t6 t7 : V) (m : Mem) : Option (Ex × St) := loopD PP cfgB C k n 82 (loopAt Tryd.f82 7) ⟨[V.any, t1, V.any, V.any, V.any, t5, t6, t7, V.any, V.any, V.any, V.any, V.any, V.any, V.any, V.any, V.any, V.any, V.any, V.any, V.any, V.any, V.any, V.any, V.any, V.any, V.any, V.any, V.any, V.any, V.any, V.any, V.any, V.any, V.any, V.any, V.any, V.any], [], m⟩
noncomputable def F.tandemref01_More.b7 (C : CallT) (k : Nat) (nx7 : V → V → V → V → Mem → Option (Ex × St)) (t1 t5 t6 t7 : V) (m : Mem) : Option (Ex × St) :=
  ((binOpV PP .lss 3 t7 (V.int .i64 8)).bind fun v9 => (condV v9 (F.tandemref01_More.j10 C k nx7 t1 t5 t6 t7 m) (some (Ex.exit 2, ⟨[V.any, t1, V.any, V.any, V.any, t5, t6, V.any, V.any, V.any, V.any, V.any, V.any, V.any, V.any, V.any, V.any, V.any, V.any, V.any, V.any, V.any, V.any, V.any, V.any, V.any, V.any, V.any, V.any, V.any, V.any, V.any, V.any, V.any, V.any, V.any, V.any, V.any], [], m⟩))))
theorem F.tandemref01_More.l7_succ (C : CallT) (k n : Nat) (t1 t5 t6 t7 : V) (m : Mem) : F.tandemref01_More.l7 C k (n + 1) t1 t5 t6 t7 m = F.tandemref01_More.b7 C k (F.tandemref01_More.l7 C k n) t1 t5 t6 t7 m :=
  (loopD_succ PP cfgB C k n 82 (loopAt Tryd.f82 7) ⟨[V.any, t1, V.any, V.any, V.any, t5, t6, t7, V.any, V.any, V.any, V.any, V.any, V.any, V.any, V.any, V.any, V.any, V.any, V.any, V.any, V.any, V.any, V.any, V.any, V.any, V.any, V.any, V.any, V.any, V.any, V.any, V.any, V.any, V.any, V.any, V.any, V.any], [], m⟩).trans (by kernel_rfl)
noncomputable def F.tandemref01_More.g7 (C : CallT) (k : Nat) : Nat → V → V → V → V → Mem → Option (Ex × St)
  | 0, _, _, _, _, _ => none
  | n + 1, t1, t5, t6, t7, m => F.tandemref01_More.b7 C k (F.tandemref01_More.g7 C k n) t1 t5 t6 t7 m
theorem F.tandemref01_More.g7_succ (C : CallT) (k n : Nat) (t1 t5 t6 t7 : V) (m : Mem) : F.tandemref01_More.g7 C k (n + 1) t1 t5 t6 t7 m = F.tandemref01_More.b7 C k (F.tandemref01_More.g7 C k n) t1 t5 t6 t7 m := rfl
theorem F.tandemref01_More.g7_zero (C : CallT) (k : Nat) (t1 t5 t6 t7 : V) (m : Mem) : F.tandemref01_More.g7 C k 0 t1 t5 t6 t7 m = none := rfl
theorem F.tandemref01_More.l7_eqR (C : CallT) (k : Nat) : ∀ (n : Nat) (t1 t5 t6 t7 : V) (m : Mem), F.tandemref01_More.l7 C k n t1 t5 t6 t7 m = F.tandemref01_More.g7 C k n t1 t5 t6 t7 m
  | 0, _, _, _, _, _ => rfl
  | n + 1, t1, t5, t6, t7, m => by
    have h : F.tandemref01_More.l7 C k n = F.tandemref01_More.g7 C k n := by funext t1 t5 t6 t7 m; exact F.tandemref01_More.l7_eqR C k n t1 t5 t6 t7 m
    rw [F.tandemref01_More.l7_succ, h]
    rfl
noncomputable def F.tandemref01_More.j20 (C : CallT) (k : Nat) (nx3 : V → V → V → Mem → Option (Ex × St)) (t1 t5 t6 : V) (m : Mem) : Option (Ex × St) :=
  ((binOpV PP .add 3 t6 (V.int .i64 1)).bind fun v21 => (nx3 t1 t5 v21 m))
noncomputable def F.tandemref01_More.j4 (C : CallT) (k : Nat) (nx3 : V → V → V → Mem → Option (Ex × St)) (t1 t5 t6 : V) (m : Mem) : Option (Ex × St) :=
  ((xIS 1 t1 t6).bind fun v5 => ((xLoad false 1 m v5).bind fun v6 => ((xConvI .u32 v6).bind fun v7 => ((binOpV PP .xor 83 t5 v7).bind fun v8 => ((F.tandemref01_More.l7 C k k t1 v8 t6 (V.int .i64 0) m).bind fun r17 => exK r17.1 (F.tandemref01_More.j20 C k nx3 (r17.2.env.getD 1 .any) (r17.2.env.getD 5 .any) (r17.2.env.getD 6 .any) r17.2.mem) (fun i18 => (if i18 = 2 then (F.tandemref01_More.j20 C k nx3 (r17.2.env.getD 1 .any) (r17.2.env.getD 5 .any) (r17.2.env.getD 6 .any) r17.2.mem) else (if i18 = 1 then (F.tandemref01_More.j20 C k nx3 (r17.2.env.getD 1 .any) (r17.2.env.getD 5 .any) (r17.2.env.getD 6 .any) r17.2.mem) else (some (Ex.exit i18, ⟨[V.any, V.any, V.any, V.any, V.any, (r17.2.env.getD 5 .any), V.any, V.any, V.any, V.any, V.any, V.any, V.any, V.any, V.any, V.any, V.any, V.any, V.any, V.any, V.any, V.any, V.any, V.any, V.any, V.any, V.any, V.any, V.any, V.any, V.any, V.any, V.any, V.any, V.any, V.any, V.any, V.any], [], r17.2.mem⟩))))) (some (Ex.ret, ⟨[V.any, V.any, V.any, V.any, V.any, (r17.2.env.getD 5 .any), V.any, V.any, V.any, V.any, V.any, V.any, V.any, V.any, V.any, V.any, V.any, V.any, V.any, V.any, V.any, V.any, V.any, V.any, V.any, V.any, V.any, V.any, V.any, V.any, V.any, V.any, V.any, V.any, V.any, V.any, V.any, V.any], [], r17.2.mem⟩)) (fun q19 => (some (Ex.panic q19, ⟨[V.any, V.any, V.any, V.any, V.any, (r17.2.env.getD 5 .any), V.any, V.any, V.any, V.any, V.any, V.any, V.any, V.any, V.any, V.any, V.any, V.any, V.any, V.any, V.any, V.any, V.any, V.any, V.any, V.any, V.any, V.any, V.any, V.any, V.any, V.any, V.any, V.any, V.any, V.any, V.any, V.any], [], r17.2.mem⟩))))))))
noncomputable def F.tandemref01_More.j4R (C : CallT) (k : Nat) (nx3 : V → V → V → Mem → Option (Ex × St)) (t1 t5 t6 : V) (m : Mem) : Option (Ex × St) :=
  ((xIS 1 t1 t6).bind fun v5 => ((xLoad false 1 m v5).bind fun v6 => ((xConvI .u32 v6).bind fun v7 => ((binOpV PP .xor 83 t5 v7).bind fun v8 => ((F.tandemref01_More.g7 C k k t1 v8 t6 (V.int .i64 0) m).bind fun r17 => exK r17.1 (F.tandemref01_More.j20 C k nx3 (r17.2.env.getD 1 .any) (r17.2.env.getD 5 .any) (r17.2.env.getD 6 .any) r17.2.mem) (fun i18 => (if i18 = 2 then (F.tandemref01_More.j20 C k nx3 (r17.2.env.getD 1 .any) (r17.2.env.getD 5 .any) (r17.2.env.getD 6 .any) r17.2.mem) else (if i18 = 1 then (F.tandemref01_More.j20 C k nx3 (r17.2.env.getD 1 .any) (r17.2.env.getD 5 .any) (r17.2.env.getD 6 .any) r17.2.mem) else (some (Ex.exit i18, ⟨[V.any, V.any, V.any, V.any, V.any, (r17.2.env.getD 5 .any), V.any, V.any, V.any, V.any, V.any, V.any, V.any, V.any, V.any, V.any, V.any, V.any, V.any, V.any, V.any, V.any, V.any, V.any, V.any, V.any, V.any, V.any, V.any, V.any, V.any, V.any, V.any, V.any, V.any, V.any, V.any, V.any], [], r17.2.mem⟩))))) (some (Ex.ret, ⟨[V.any, V.any, V.any, V.any, V.any, (r17.2.env.getD 5 .any), V.any, V.any, V.any, V.any, V.any, V.any, V.any, V.any, V.any, V.any, V.any, V.any, V.any, V.any, V.any, V.any, V.any, V.any, V.any, V.any, V.any, V.any, V.any, V.any, V.any, V.any, V.any, V.any, V.any, V.any, V.any, V.any], [], r17.2.mem⟩)) (fun q19 => (some (Ex.panic q19, ⟨[V.any, V.any, V.any, V.any, V.any, (r17.2.env.getD 5 .any), V.any, V.any, V.any, V.any, V.any, V.any, V.any, V.any, V.any, V.any, V.any, V.any, V.any, V.any, V.any, V.any, V.any, V.any, V.any, V.any, V.any, V.any, V.any, V.any, V.any, V.any, V.any, V.any, V.any, V.any, V.any, V.any], [], r17.2.mem⟩))))))))
theorem F.tandemref01_More.j4_eqR (C : CallT) (k : Nat) (nx3 : V → V → V → Mem → Option (Ex × St)) (t1 t5 t6 : V) (m : Mem) : F.tandemref01_More.j4 C k nx3 t1 t5 t6 m = F.tandemref01_More.j4R C k nx3 t1 t5 t6 m := by
  unfold F.tandemref01_More.j4 F.tandemref01_More.j4R
  simp only [F.tandemref01_More.l7_eqR]
noncomputable def F.tandemref01_More.l3 (C : CallT) (k n : Nat) (t1 t5 t6 : V) (m : Mem) : Option (Ex × St) := loopD PP cfgB C k n 82 (loopAt Tryd.f82 3) ⟨[V.any, t1, V.any, V.any, V.any, t5, t6, V.any, V.any, V.any, V.any, V.any, V.any, V.any, V.any, V.any, V.any, V.any, V.any, V.any, V.any, V.any, V.any, V.any, V.any, V.any, V.any, V.any, V.any, V.any, V.any, V.any, V.any, V.any, V.any, V.any, V.any, V.any], [], m⟩
noncomputable def F.tandemref01_More.b3 (C : CallT) (k : Nat) (nx3 : V → V → V → Mem → Option (Ex × St)) (t1 t5 t6 : V) (m : Mem) : Option (Ex × St) :=
  ((xLenL t1).bind fun v2 => ((binOpV PP .lss 3 t6 v2).bind fun v3 => (condV v3 (F.tandemref01_More.j4 C k nx3 t1 t5 t6 m) (some (Ex.exit 0, ⟨[V.any, V.any, V.any, V.any, V.any, t5, V.any, V.any, V.any, V.any, V.any, V.any, V.any, V.any, V.any, V.any, V.any, V.any, V.any, V.any, V.any, V.any, V.any, V.any, V.any, V.any, V.any, V.any, V.any, V.any, V.any, V.any, V.any, V.any, V.any, V.any, V.any, V.any], [], m⟩)))))
noncomputable def F.tandemref01_More.b3R (C : CallT) (k : Nat) (nx3 : V → V → V → Mem → Option (Ex × St)) (t1 t5 t6 : V) (m : Mem) : Option (Ex × St) :=
  ((xLenL t1).bind fun v2 => ((binOpV PP .lss 3 t6 v2).bind fun v3 => (condV v3 (F.tandemref01_More.j4R C k nx3 t1 t5 t6 m) (some (Ex.exit 0, ⟨[V.any, V.any, V.any, V.any, V.any, t5, V.any, V.any, V.any, V.any, V.any, V.any, V.any, V.any, V.any, V.any, V.any, V.any, V.any, V.any, V.any, V.any, V.any, V.any, V.any, V.any, V.any, V.any, V.any, V.any, V.any, V.any, V.any, V.any, V.any, V.any, V.any, V.any], [], m⟩)))))
theorem F.tandemref01_More.b3_eqR (C : CallT) (k : Nat) (nx3 : V → V → V → Mem → Option (Ex × St)) (t1 t5 t6 : V) (m : Mem) : F.tandemref01_More.b3 C k nx3 t1 t5 t6 m = F.tandemref01_More.b3R C k nx3 t1 t5 t6 m := by
  unfold F.tandemref01_More.b3 F.tandemref01_More.b3R
  simp only [F.tandemref01_More.l7_eqR, F.tandemref01_More.j4_eqR]
theorem F.tandemref01_More.l3_succ (C : CallT) (k n : Nat) (t1 t5 t6 : V) (m : Mem) : F.tandemref01_More.l3 C k (n + 1) t1 t5 t6 m = F.tandemref01_More.b3 C k (F.tandemref01_More.l3 C k n) t1 t5 t6 m :=
  (loopD_succ PP cfgB C k n 82 (loopAt Tryd.f82 3) ⟨[V.any, t1, V.any, V.any, V.any, t5, t6, V.any, V.any, V.any, V.any, V.any, V.any, V.any, V.any, V.any, V.any, V.any, V.any, V.any, V.any, V.any, V.any, V.any, V.any, V.any, V.any, V.any, V.any, V.any, V.any, V.any, V.any, V.any, V.any, V.any, V.any, V.any], [], m⟩).trans (by kernel_rfl)
noncomputable def F.tandemref01_More.g3 (C : CallT) (k : Nat) : Nat → V → V → V → Mem → Option (Ex × St)
  | 0, _, _, _, _ => none
  | n + 1, t1, t5, t6, m => F.tandemref01_More.b3R C k (F.tandemref01_More.g3 C k n) t1 t5 t6 m
theorem F.tandemref01_More.g3_succ (C : CallT) (k n : Nat) (t1 t5 t6 : V) (m : Mem) : F.tandemref01_More.g3 C k (n + 1) t1 t5 t6 m = F.tandemref01_More.b3R C k (F.tandemref01_More.g3 C k n) t1 t5 t6 m := rfl
theorem F.tandemref01_More.g3_zero (C : CallT) (k : Nat) (t1 t5 t6 : V) (m : Mem) : F.tandemref01_More.g3 C k 0 t1 t5 t6 m = none := rfl
theorem F.tandemref01_More.l3_eqR (C : CallT) (k : Nat) : ∀ (n : Nat) (t1 t5 t6 : V) (m : Mem), F.tandemref01_More.l3 C k n t1 t5 t6 m = F.tandemref01_More.g3 C k n t1 t5 t6 m
  | 0, _, _, _, _ => rfl
  | n + 1, t1, t5, t6, m => by
    have h : F.tandemref01_More.l3 C k n = F.tandemref01_More.g3 C k n := by funext t1 t5 t6 m; exact F.tandemref01_More.l3_eqR C k n t1 t5 t6 m
    rw [F.tandemref01_More.l3_succ, h, F.tandemref01_More.b3_eqR]
    rfl
noncomputable def F.tandemref01_More.j25 (C : CallT) (k : Nat) (m0 : Mem) (t5 : V) (m : Mem) : Option (Out × Mem) :=
  ((binOpV PP .xor 83 t5 (V.int .u32 4294967295)).bind fun v26 => (retV true m0 v26 m))
noncomputable def F.tandemref01_More.L0 (C : CallT) (k : Nat) (a0 a1 : V) (m0 : Mem) : Option (Out × Mem) :=
  ((binOpV PP .xor 83 a0 (V.int .u32 4294967295)).bind fun v1 => ((F.tandemref01_More.l3 C k k a1 v1 (V.int .i64 0) (⟨m0.objs, m0.objs.length⟩ : Mem)).bind fun r22 => exK r22.1 (F.tandemref01_More.j25 C k m0 (r22.2.env.getD 5 .any) r22.2.mem) (fun i23 => (if i23 = 0 then (F.tandemref01_More.j25 C k m0 (r22.2.env.getD 5 .any) r22.2.mem) else none)) (retV true m0 (r22.2.env.getD 4 .any) r22.2.mem) (fun q24 => none)))
noncomputable def F.tandemref01_More (C : CallT) (k : Nat) (a0 a1 : V) (m0 : Mem) : Option (Out × Mem) :=
  ((binOpV PP .xor 83 a0 (V.int .u32 4294967295)).bind fun v1 => ((F.tandemref01_More.g3 C k k a1 v1 (V.int .i64 0) (⟨m0.objs, m0.objs.length⟩ : Mem)).bind fun r22 => exK r22.1 (F.tandemref01_More.j25 C k m0 (r22.2.env.getD 5 .any) r22.2.mem) (fun i23 => (if i23 = 0 then (F.tandemref01_More.j25 C k m0 (r22.2.env.getD 5 .any) r22.2.mem) else none)) (retV true m0 (r22.2.env.getD 4 .any) r22.2.mem) (fun q24 => none)))
theorem F.tandemref01_More.L0_eqR (C : CallT) (k : Nat) (a0 a1 : V) (m0 : Mem) : F.tandemref01_More.L0 C k a0 a1 m0 = F.tandemref01_More C k a0 a1 m0 := by
  unfold F.tandemref01_More.L0 F.tandemref01_More
  simp only [F.tandemref01_More.l7_eqR, F.tandemref01_More.j4_eqR, F.tandemref01_More.b3_eqR, F.tandemref01_More.l3_eqR]
theorem F.tandemref01_More.of (C : CallT) (k : Nat) (a0 a1 : V) (m0 : Mem) : fnK PP cfgB C k id_tandemref01_More Tryd.f82 F.tandemref01_More_body [a0, a1] m0 = F.tandemref01_More C k a0 a1 m0 :=
  (show _ = F.tandemref01_More.L0 C k a0 a1 m0 by kernel_rfl).trans (F.tandemref01_More.L0_eqR _ _ _ _ _)
theorem F.tandemref01_More.eqG (cfg : Cfg) (hp : cfg.plain = cfgB) (hs : cfg.sum id_tandemref01_More = none) (k : Nat) (a0 a1 : V) (m0 : Mem) : icall PP cfg (k + 1) (.fn id_tandemref01_More) [a0, a1] m0 = F.tandemref01_More (icall PP cfg k) k a0 a1 m0 :=
  (icall_eq PP cfg hp k id_tandemref01_More Tryd.f82 F.tandemref01_More_body [a0, a1] m0 hs (by kernel_rfl) (by kernel_rfl)).trans (F.tandemref01_More.of _ _ _ _ _)
noncomputable def F.sync_atomic_Int64_Add_body : Code := (Tryd.f83.body).getD .skip
noncomputable def F.sync_atomic_Int64_Add (C : CallT) (k : Nat) (a0 a1 : V) (m0 : Mem) : Option (Out × Mem) :=
  ((nilChkV a0).bind fun v1 => ((xFA 0 v1).bind fun v2 => ((extV .atomicAdd [v2, a1] (⟨m0.objs, m0.objs.length⟩ : Mem)).bind fun r3 => (retV true m0 r3.1 r3.2))))
theorem F.sync_atomic_Int64_Add.of (C : CallT) (k : Nat) (a0 a1 : V) (m0 : Mem) : fnK PP cfgB C k id_sync_atomic_Int64_Add Tryd.f83 F.sync_atomic_Int64_Add_body [a0, a1] m0 = F.sync_atomic_Int64_Add C k a0 a1 m0 :=
  by kernel_rfl
theorem F.sync_atomic_Int64_Add.eqG (cfg : Cfg) (hp : cfg.plain = cfgB) (hs : cfg.sum id_sync_atomic_Int64_Add = none) (k : Nat) (a0 a1 : V) (m0 : Mem) : icall PP cfg (k + 1) (.fn id_sync_atomic_Int64_Add) [a0, a1] m0 = F.sync_atomic_Int64_Add (icall PP cfg k) k a0 a1 m0 :=
  (icall_eq PP cfg hp k id_sync_atomic_Int64_Add Tryd.f83 F.sync_atomic_Int64_Add_body [a0, a1] m0 hs (by kernel_rfl) (by kernel_rfl)).trans (F.sync_atomic_Int64_Add.of _ _ _ _ _)
noncomputable def F.slices_Collect_body : Code := (Tryd.f84.body).getD .skip
noncomputable def F.slices_Collect (C : CallT) (k : Nat) (a0 : V) (m0 : Mem) : Option (Out × Mem) :=
  (callK (C (.fn id_slices_AppendSeq) [V.nils, a0] (⟨m0.objs, m0.objs.length⟩ : Mem)) (fun v1 m2 => (retV true m0 v1 m2)) (fun q3 m4 => none))
theorem F.slices_Collect.of (C : CallT) (k : Nat) (a0 : V) (m0 : Mem) : fnK PP cfgB C k id_slices_Collect Tryd.f84 F.slices_Collect_body [a0] m0 = F.slices_Collect C k a0 m0 :=
  by kernel_rfl
theorem F.slices_Collect.eqG (cfg : Cfg) (hp : cfg.plain = cfgB) (hs : cfg.sum id_slices_Collect = none) (k : Nat) (a0 : V) (m0 : Mem) : icall PP cfg (k + 1) (.fn id_slices_Collect) [a0] m0 = F.slices_Collect (icall PP cfg k) k a0 m0 :=
  (icall_eq PP cfg hp k id_slices_Collect Tryd.f84 F.slices_Collect_body [a0] m0 hs (by kernel_rfl) (by kernel_rfl)).trans (F.slices_Collect.of _ _ _ _)
noncomputable def F.slices_Sort_body : Code := (Tryd.f85.body).getD .skip
noncomputable def F.slices_Sort (C : CallT) (k : Nat) (a0 : V) (m0 : Mem) : Option (Out × Mem) :=
  ((xLenL a0).bind fun v1 => ((xConvI .u64 v1).bind fun v2 => (callK (C (.fn id_math_bits_Len) [v2] (⟨m0.objs, m0.objs.length⟩ : Mem)) (fun v3 m4 => (callK (C (.fn id_slices_pdqsortOrdered) [a0, (V.int .i64 0), v1, v3] m4) (fun v7 m8 => (retV true m0 (V.tuple []) m8)) (fun q9 m10 => none))) (fun q5 m6 => none))))
theorem F.slices_Sort.of (C : CallT) (k : Nat) (a0 : V) (m0 : Mem) : fnK PP cfgB C k id_slices_Sort Tryd.f85 F.slices_Sort_body [a0] m0 = F.slices_Sort C k a0 m0 :=
  by kernel_rfl
theorem F.slices_Sort.eqG (cfg : Cfg) (hp : cfg.plain = cfgB) (hs : cfg.sum id_slices_Sort = none) (k : Nat) (a0 : V) (m0 : Mem) : icall PP cfg (k + 1) (.fn id_slices_Sort) [a0] m0 = F.slices_Sort (icall PP cfg k) k a0 m0 :=
  (icall_eq PP cfg hp k id_slices_Sort Tryd.f85 F.slices_Sort_body [a0] m0 hs (by kernel_rfl) (by kernel_rfl)).trans (F.slices_Sort.of _ _ _ _)
noncomputable def F.math_bits_Len_body : Code := (Tryd.f91.body).getD .skip
noncomputable def F.math_bits_Len.j1 (C : CallT) (k : Nat) (m0 : Mem) (t0 : V) (m : Mem) : Option (Out × Mem) :=
  (callK (C (.fn id_math_bits_Len64) [t0] m) (fun v2 m3 => (retV true m0 v2 m3)) (fun q4 m5 => none))
noncomputable def F.math_bits_Len (C : CallT) (k : Nat) (a0 : V) (m0 : Mem) : Option (Out × Mem) :=
  (F.math_bits_Len.j1 C k m0 a0 (⟨m0.objs, m0.objs.length⟩ : Mem))
theorem F.math_bits_Len.of (C : CallT) (k : Nat) (a0 : V) (m0 : Mem) : fnK PP cfgB C k id_math_bits_Len Tryd.f91 F.math_bits_Len_body [a0] m0 = F.math_bits_Len C k a0 m0 :=
  by kernel_rfl
theorem F.math_bits_Len.eqG (cfg : Cfg) (hp : cfg.plain = cfgB) (hs : cfg.sum id_math_bits_Len = none) (k : Nat) (a0 : V) (m0 : Mem) : icall PP cfg (k + 1) (.fn id_math_bits_Len) [a0] m0 = F.math_bits_Len (icall PP cfg k) k a0 m0 :=
  (icall_eq PP cfg hp k id_math_bits_Len Tryd.f91 F.math_bits_Len_body [a0] m0 hs (by kernel_rfl) (by kernel_rfl)).trans (F.math_bits_Len.of _ _ _ _)
noncomputable def F.slices_insertionSortOrdered_body : Code := (Tryd.f92.body).getD .skip
noncomputable def F.slices_insertionSortOrdered.j26 (C : CallT) (k : Nat) (nx4 : V → V → V → V → V → V → V → V → V → V → V → V → V → V → V → Mem → Option (Ex × St)) (t0 t1 t2 t6 t7 t20 t21 t22 t23 t24 t25 t26 t27 t28 t29 : V) (m : Mem) : Option (Ex × St) :=
  ((binOpV PP .sub 3 t7 (V.int .i64 1)).bind fun v27 => (nx4 t0 t1 t2 t6 v27 t20 t21 t22 t23 t24 t25 t26 t27 t28 t29 m))
noncomputable def F.slices_insertionSortOrdered.j15 (C : CallT) (k : Nat) (nx4 : V → V → V → V → V → V → V → V → V → V → V → V → V → V → V → Mem → Option (Ex × St)) (t0 t1 t2 t6 t7 t20 t21 t22 t23 t24 t25 t26 t27 t28 t29 : V) (m : Mem) : Option (Ex × St) :=
  ((binOpV PP .sub 3 t7 (V.int .i64 1)).bind fun v16 => ((binOpV PP .sub 3 t7 (V.int .i64 1)).bind fun v17 => ((xIS 1 t0 v17).bind fun v18 => ((xLoad false 1 m v18).bind fun v19 => ((xIS 1 t0 t7).bind fun v20 => ((xLoad false 1 m v20).bind fun v21 => ((xIS 1 t0 t7).bind fun v22 => ((xStore 1 m v22 v19).bind fun m23 => ((xIS 1 t0 v16).bind fun v24 => ((xStore 1 m23 v24 v21).bind fun m25 => (F.slices_insertionSortOrdered.j26 C k nx4 t0 t1 t2 t6 t7 t20 t21 t22 t23 t24 t25 t26 t27 t28 t29 m25)))))))))))
noncomputable def F.slices_insertionSortOrdered.j14 (C : CallT) (k : Nat) (nx4 : V → V → V → V → V → V → V → V → V → V → V → V → V → V → V → Mem → Option (Ex × St)) (t0 t1 t2 t6 t7 t20 t21 t22 t23 t24 t25 t26 t27 t28 t29 t30 : V) (m : Mem) : Option (Ex × St) :=
  (condV t30 (F.slices_insertionSortOrdered.j15 C k nx4 t0 t1 t2 t6 t7 t20 t21 t22 t23 t24 t25 t26 t27 t28 t29 m) (some (Ex.exit 2, ⟨[t0, t1, t2, V.any, V.any, V.any, t6, V.any, V.any, V.any, V.any, V.any, V.any, V.any, V.any, V.any, V.any, V.any, V.any, V.any, t20, t21, t22, t23, t24, t25, t26, t27, t28, t29, V.any, V.any, V.any, V.any, V.any, V.any, V.any, V.any, V.any, V.any, V.any, V.any, V.any, V.any, V.any, V.any, V.any, V.any, V.any], [], m⟩)))
noncomputable def F.slices_insertionSortOrdered.l4 (C : CallT) (k n : Nat) (t0 t1 t2 t6 t7 t20 t21 t22 t23 t24 t25 t26 t27 t28 t29 : V) (m : Mem) : Option (Ex × St) := loopD PP cfgB C k n 92 (loopAt Tryd.f92 4) ⟨[t0, t1, t2, V.any, V.any, V.any, t6, t7, V.any, V.any, V.any, V.any, V.any, V.any, V.any, V.any, V.any, V.any, V.any, V.any, t20, t21, t22, t23, t24, t25, t26, t27, t28, t29, V.any, V.any, V.any, V.any, V.any, V.any, V.any, V.any, V.any, V.any, V.any, V.any, V.any, V.any, V.any, V.any, V.any, V.any, V.any], [], m⟩
noncomputable def F.slices_insertionSortOrdered.b4 (C : CallT) (k : Nat) (nx4 : V → V → V → V → V → V → V → V → V → V → V → V → V → V → V → Mem → Option (Ex × St)) (t0 t1 t2 t6 t7 t20 t21 t22 t23 t24 t25 t26 t27 t28 t29 : V) (m : Mem) : Option (Ex × St) :=
  ((binOpV PP .gtr 3 t7 t1).bind fun v4 => (gate2 v4 true ((xIS 1 t0 t7).bind fun v5 => ((xLoad false 1 m v5).bind fun v6 => ((binOpV PP .sub 3 t7 (V.int .i64 1)).bind fun v7 => ((xIS 1 t0 v7).bind fun v8 => ((xLoad false 1 m v8).bind fun v9 => (callK (C (.fn id_cmp_Less) [v6, v9] m) (fun v10 m11 => (F.slices_insertionSortOrdered.j14 C k nx4 t0 t1 t2 t6 t7 t0 t7 v5 v6 t0 t7 v7 v8 v9 v10 v10 m11)) (fun q12 m13 => none))))))) (F.slices_insertionSortOrdered.j14 C k nx4 t0 t1 t2 t6 t7 V.undef V.undef V.undef V.undef V.undef V.undef V.undef V.undef V.undef V.undef (V.bool false) m)))
theorem F.slices_insertionSortOrdered.l4_succ (C : CallT) (k n : Nat) (t0 t1 t2 t6 t7 t20 t21 t22 t23 t24 t25 t26 t27 t28 t29 : V) (m : Mem) : F.slices_insertionSortOrdered.l4 C k (n + 1) t0 t1 t2 t6 t7 t20 t21 t22 t23 t24 t25 t26 t27 t28 t29 m = F.slices_insertionSortOrdered.b4 C k (F.slices_insertionSortOrdered.l4 C k n) t0 t1 t2 t6 t7 t20 t21 t22 t23 t24 t25 t26 t27 t28 t29 m :=
  (loopD_succ PP cfgB C k n 92 (loopAt Tryd.f92 4) ⟨[t0, t1, t2, V.any, V.any, V.any, t6, t7, V.any, V.any, V.any, V.any, V.any, V.any, V.any, V.any, V.any, V.any, V.any, V.any, t20, t21, t22, t23, t24, t25, t26, t27, t28, t29, V.any, V.any, V.any, V.any, V.any, V.any, V.any, V.any, V.any, V.any, V.any, V.any, V.any, V.any, V.any, V.any, V.any, V.any, V.any], [], m⟩).trans (by kernel_rfl)
noncomputable def F.slices_insertionSortOrdered.g4 (C : CallT) (k : Nat) : Nat → V → V → V → V → V → V → V → V → V → V → V → V → V → V → V → Mem → Option (Ex × St)
  | 0, _, _, _, _, _, _, _, _, _, _, _, _, _, _, _, _ => none
  | n + 1, t0, t1, t2, t6, t7, t20, t21, t22, t23, t24, t25, t26, t27, t28, t29, m => F.slices_insertionSortOrdered.b4 C k (F.slices_insertionSortOrdered.g4 C k n) t0 t1 t2 t6 t7 t20 t21 t22 t23 t24 t25 t26 t27 t28 t29 m
theorem F.slices_insertionSortOrdered.g4_succ (C : CallT) (k n : Nat) (t0 t1 t2 t6 t7 t20 t21 t22 t23 t24 t25 t26 t27 t28 t29 : V) (m : Mem) : F.slices_insertionSortOrdered.g4 C k (n + 1) t0 t1 t2 t6 t7 t20 t21 t22 t23 t24 t25 t26 t27 t28 t29 m = F.slices_insertionSortOrdered.b4 C k (F.slices_insertionSortOrdered.g4 C k n) t0 t1 t2 t6 t7 t20 t21 t22 t23 t24 t25 t26 t27 t28 t29 m := rfl
theorem F.slices_insertionSortOrdered.g4_zero (C : CallT) (k : Nat) (t0 t1 t2 t6 t7 t20 t21 t22 t23 t24 t25 t26 t27 t28 t29 : V) (m : Mem) : F.slices_insertionSortOrdered.g4 C k 0 t0 t1 t2 t6 t7 t20 t21 t22 t23 t24 t25 t26 t27 t28 t29 m = none := rfl
theorem F.slices_insertionSortOrdered.l4_eqR (C : CallT) (k : Nat) : ∀ (n : Nat) (t0 t1 t2 t6 t7 t20 t21 t22 t23 t24 t25 t26 t27 t28 t29 : V) (m : Mem), F.slices_insertionSortOrdered.l4 C k n t0 t1 t2 t6 t7 t20 t21 t22 t23 t24 t25 t26 t27 t28 t29 m = F.slices_insertionSortOrdered.g4 C k n t0 t1 t2 t6 t7 t20 t21 t22 t23 t24 t25 t26 t27 t28 t29 m
  | 0, _, _, _, _, _, _, _, _, _, _, _, _, _, _, _, _ => rfl
  | n + 1, t0, t1, t2, t6, t7, t20, t21, t22, t23, t24, t25, t26, t27, t28, t29, m => by
    have h : F.slices_insertionSortOrdered.l4 C k n = F.slices_insertionSortOrdered.g4 C k n := by funext t0 t1 t2 t6 t7 t20 t21 t22 t23 t24 t25 t26 t27 t28 t29 m; exact F.slices_insertionSortOrdered.l4_eqR C k n t0 t1 t2 t6 t7 t20 t21 t22 t23 t24 t25 t26 t27 t28 t29 m
    rw [F.slices_insertionSortOrdered.l4_succ, h]
    rfl
noncomputable def F.slices_insertionSortOrdered.j31 (C : CallT) (k : Nat) (nx1 : V → V → V → V → V → V → V → V → V → V → V → V → V → V → Mem → Option (Ex × St)) (t0 t1 t2 t6 t20 t21 t22 t23 t24 t25 t26 t27 t28 t29 : V) (m : Mem) : Option (Ex × St) :=
  ((binOpV PP .add 3 t6 (V.int .i64 1)).bind fun v32 => (nx1 t0 t1 t2 v32 t20 t21 t22 t23 t24 t25 t26 t27 t28 t29 m))
noncomputable def F.slices_insertionSortOrdered.j3 (C : CallT) (k : Nat) (nx1 : V → V → V → V → V → V → V → V → V → V → V → V → V → V → Mem → Option (Ex × St)) (t0 t1 t2 t6 t20 t21 t22 t23 t24 t25 t26 t27 t28 t29 : V) (m : Mem) : Option (Ex × St) :=
  ((F.slices_insertionSortOrdered.l4 C k k t0 t1 t2 t6 t6 t20 t21 t22 t23 t24 t25 t26 t27 t28 t29 m).bind fun r28 => exK r28.1 (F.slices_insertionSortOrdered.j31 C k nx1 (r28.2.env.getD 0 .any) (r28.2.env.getD 1 .any) (r28.2.env.getD 2 .any) (r28.2.env.getD 6 .any) (r28.2.env.getD 20 .any) (r28.2.env.getD 21 .any) (r28.2.env.getD 22 .any) (r28.2.env.getD 23 .any) (r28.2.env.getD 24 .any) (r28.2.env.getD 25 .any) (r28.2.env.getD 26 .any) (r28.2.env.getD 27 .any) (r28.2.env.getD 28 .any) (r28.2.env.getD 29 .any) r28.2.mem) (fun i29 => (if i29 = 2 then (F.slices_insertionSortOrdered.j31 C k nx1 (r28.2.env.getD 0 .any) (r28.2.env.getD 1 .any) (r28.2.env.getD 2 .any) (r28.2.env.getD 6 .any) (r28.2.env.getD 20 .any) (r28.2.env.getD 21 .any) (r28.2.env.getD 22 .any) (r28.2.env.getD 23 .any) (r28.2.env.getD 24 .any) (r28.2.env.getD 25 .any) (r28.2.env.getD 26 .any) (r28.2.env.getD 27 .any) (r28.2.env.getD 28 .any) (r28.2.env.getD 29 .any) r28.2.mem) else (if i29 = 1 then (F.slices_insertionSortOrdered.j31 C k nx1 (r28.2.env.getD 0 .any) (r28.2.env.getD 1 .any) (r28.2.env.getD 2 .any) (r28.2.env.getD 6 .any) (r28.2.env.getD 20 .any) (r28.2.env.getD 21 .any) (r28.2.env.getD 22 .any) (r28.2.env.getD 23 .any) (r28.2.env.getD 24 .any) (r28.2.env.getD 25 .any) (r28.2.env.getD 26 .any) (r28.2.env.getD 27 .any) (r28.2.env.getD 28 .any) (r28.2.env.getD 29 .any) r28.2.mem) else (some (Ex.exit i29, ⟨[V.any, V.any, V.any, V.any, V.any, V.any, V.any, V.any, V.any, V.any, V.any, V.any, V.any, V.any, V.any, V.any, V.any, V.any, V.any, V.any, V.any, V.any, V.any, V.any, V.any, V.any, V.any, V.any, V.any, V.any, V.any, V.any, V.any, V.any, V.any, V.any, V.any, V.any, V.any, V.any, V.any, V.any, V.any, V.any, V.any, V.any, V.any, V.any, V.any], [], r28.2.mem⟩))))) (some (Ex.ret, ⟨[V.any, V.any, V.any, V.any, V.any, V.any, V.any, V.any, V.any, V.any, V.any, V.any, V.any, V.any, V.any, V.any, V.any, V.any, V.any, V.any, V.any, V.any, V.any, V.any, V.any, V.any, V.any, V.any, V.any, V.any, V.any, V.any, V.any, V.any, V.any, V.any, V.any, V.any, V.any, V.any, V.any, V.any, V.any, V.any, V.any, V.any, V.any, V.any, V.any], [], r28.2.mem⟩)) (fun q30 => (some (Ex.panic q30, ⟨[V.any, V.any, V.any, V.any, V.any, V.any, V.any, V.any, V.any, V.any, V.any, V.any, V.any, V.any, V.any, V.any, V.any, V.any, V.any, V.any, V.any, V.any, V.any, V.any, V.any, V.any, V.any, V.any, V.any, V.any, V.any, V.any, V.any, V.any, V.any, V.any, V.any, V.any, V.any, V.any, V.any, V.any, V.any, V.any, V.any, V.any, V.any, V.any, V.any], [], r28.2.mem⟩))))
noncomputable def F.slices_insertionSortOrdered.j3R (C : CallT) (k : Nat) (nx1 : V → V → V → V → V → V → V → V → V → V → V → V → V → V → Mem → Option (Ex × St)) (t0 t1 t2 t6 t20 t21 t22 t23 t24 t25 t26 t27 t28 t29 : V) (m : Mem) : Option (Ex × St) :=
  ((F.slices_insertionSortOrdered.g4 C k k t0 t1 t2 t6 t6 t20 t21 t22 t23 t24 t25 t26 t27 t28 t29 m).bind fun r28 => exK r28.1 (F.slices_insertionSortOrdered.j31 C k nx1 (r28.2.env.getD 0 .any) (r28.2.env.getD 1 .any) (r28.2.env.getD 2 .any) (r28.2.env.getD 6 .any) (r28.2.env.getD 20 .any) (r28.2.env.getD 21 .any) (r28.2.env.getD 22 .any) (r28.2.env.getD 23 .any) (r28.2.env.getD 24 .any) (r28.2.env.getD 25 .any) (r28.2.env.getD 26 .any) (r28.2.env.getD 27 .any) (r28.2.env.getD 28 .any) (r28.2.env.getD 29 .any) r28.2.mem) (fun i29 => (if i29 = 2 then (F.slices_insertionSortOrdered.j31 C k nx1 (r28.2.env.getD 0 .any) (r28.2.env.getD 1 .any) (r28.2.env.getD 2 .any) (r28.2.env.getD 6 .any) (r28.2.env.getD 20 .any) (r28.2.env.getD 21 .any) (r28.2.env.getD 22 .any) (r28.2.env.getD 23 .any) (r28.2.env.getD 24 .any) (r28.2.env.getD 25 .any) (r28.2.env.getD 26 .any) (r28.2.env.getD 27 .any) (r28.2.env.getD 28 .any) (r28.2.env.getD 29 .any) r28.2.mem) else (if i29 = 1 then (F.slices_insertionSortOrdered.j31 C k nx1 (r28.2.env.getD 0 .any) (r28.2.env.getD 1 .any) (r28.2.env.getD 2 .any) (r28.2.env.getD 6 .any) (r28.2.env.getD 20 .any) (r28.2.env.getD 21 .any) (r28.2.env.getD 22 .any) (r28.2.env.getD 23 .any) (r28.2.env.getD 24 .any) (r28.2.env.getD 25 .any) (r28.2.env.getD 26 .any) (r28.2.env.getD 27 .any) (r28.2.env.getD 28 .any) (r28.2.env.getD 29 .any) r28.2.mem) else (some (Ex.exit i29, ⟨[V.any, V.any, V.any, V.any, V.any, V.any, V.any, V.any, V.any, V.any, V.any, V.any, V.any, V.any, V.any, V.any, V.any, V.any, V.any, V.any, V.any, V.any, V.any, V.any, V.any, V.any, V.any, V.any, V.any, V.any, V.any, V.any, V.any, V.any, V.any, V.any, V.any, V.any, V.any, V.any, V.any, V.any, V.any, V.any, V.any, V.any, V.any, V.any, V.any], [], r28.2.mem⟩))))) (some (Ex.ret, ⟨[V.any, V.any, V.any, V.any, V.any, V.any, V.any, V.any, V.any, V.any, V.any, V.any, V.any, V.any, V.any, V.any, V.any, V.any, V.any, V.any, V.any, V.any, V.any, V.any, V.any, V.any, V.any, V.any, V.any, V.any, V.any, V.any, V.any, V.any, V.any, V.any, V.any, V.any, V.any, V.any, V.any, V.any, V.any, V.any, V.any, V.any, V.any, V.any, V.any], [], r28.2.mem⟩)) (fun q30 => (some (Ex.panic q30, ⟨[V.any, V.any, V.any, V.any, V.any, V.any, V.any, V.any, V.any, V.any, V.any, V.any, V.any, V.any, V.any, V.any, V.any, V.any, V.any, V.any, V.any, V.any, V.any, V.any, V.any, V.any, V.any, V.any, V.any, V.any, V.any, V.any, V.any, V.any, V.any, V.any, V.any, V.any, V.any, V.any, V.any, V.any, V.any, V.any, V.any, V.any, V.any, V.any, V.any], [], r28.2.mem⟩))))
theorem F.slices_insertionSortOrdered.j3_eqR (C : CallT) (k : Nat) (nx1 : V → V → V → V → V → V → V → V → V → V → V → V → V → V → Mem → Option (Ex × St)) (t0 t1 t2 t6 t20 t21 t22 t23 t24 t25 t26 t27 t28 t29 : V) (m : Mem) : F.slices_insertionSortOrdered.j3 C k nx1 t0 t1 t2 t6 t20 t21 t22 t23 t24 t25 t26 t27 t28 t29 m = F.slices_insertionSortOrdered.j3R C k nx1 t0 t1 t2 t6 t20 t21 t22 t23 t24 t25 t26 t27 t28 t29 m := by
  unfold F.slices_insertionSortOrdered.j3 F.slices_insertionSortOrdered.j3R
  simp only [F.slices_insertionSortOrdered.l4_eqR]
noncomputable def F.slices_insertionSortOrdered.l1 (C : CallT) (k n : Nat) (t0 t1 t2 t6 t20 t21 t22 t23 t24 t25 t26 t27 t28 t29 : V) (m : Mem) : Option (Ex × St) := loopD PP cfgB C k n 92 (loopAt Tryd.f92 1) ⟨[t0, t1, t2, V.any, V.any, V.any, t6, V.any, V.any, V.any, V.any, V.any, V.any, V.any, V.any, V.any, V.any, V.any, V.any, V.any, t20, t21, t22, t23, t24, t25, t26, t27, t28, t29, V.any, V.any, V.any, V.any, V.any, V.any, V.any, V.any, V.any, V.any, V.any, V.any, V.any, V.any, V.any, V.any, V.any, V.any, V.any], [], m⟩
noncomputable def F.slices_insertionSortOrdered.b1 (C : CallT) (k : Nat) (nx1 : V → V → V → V → V → V → V → V → V → V → V → V → V → V → Mem → Option (Ex × St)) (t0 t1 t2 t6 t20 t21 t22 t23 t24 t25 t26 t27 t28 t29 : V) (m : Mem) : Option (Ex × St) :=
  ((binOpV PP .lss 3 t6 t2).bind fun v2 => (condV v2 (F.slices_insertionSortOrdered.j3 C k nx1 t0 t1 t2 t6 t20 t21 t22 t23 t24 t25 t26 t27 t28 t29 m) (some (Ex.exit 0, ⟨[V.any, V.any, V.any, V.any, V.any, V.any, V.any, V.any, V.any, V.any, V.any, V.any, V.any, V.any, V.any, V.any, V.any, V.any, V.any, V.any, V.any, V.any, V.any, V.any, V.any, V.any, V.any, V.any, V.any, V.any, V.any, V.any, V.any, V.any, V.any, V.any, V.any, V.any, V.any, V.any, V.any, V.any, V.any, V.any, V.any, V.any, V.any, V.any, V.any], [], m⟩))))
noncomputable def F.slices_insertionSortOrdered.b1R (C : CallT) (k : Nat) (nx1 : V → V → V → V → V → V → V → V → V → V → V → V → V → V → Mem → Option (Ex × St)) (t0 t1 t2 t6 t20 t21 t22 t23 t24 t25 t26 t27 t28 t29 : V) (m : Mem) : Option (Ex × St) :=
  ((binOpV PP .lss 3 t6 t2).bind fun v2 => (condV v2 (F.slices_insertionSortOrdered.j3R C k nx1 t0 t1 t2 t6 t20 t21 t22 t23 t24 t25 t26 t27 t28 t29 m) (some (Ex.exit 0, ⟨[V.any, V.any, V.any, V.any, V.any, V.any, V.any, V.any, V.any, V.any, V.any, V.any, V.any, V.any, V.any, V.any, V.any, V.any, V.any, V.any, V.any, V.any, V.any, V.any, V.any, V.any, V.any, V.any, V.any, V.any, V.any, V.any, V.any, V.any, V.any, V.any, V.any, V.any, V.any, V.any, V.any, V.any, V.any, V.any, V.any, V.any, V.any, V.any, V.any], [], m⟩))))
theorem F.slices_insertionSortOrdered.b1_eqR (C : CallT) (k : Nat) (nx1 : V → V → V → V → V → V → V → V → V → V → V → V → V → V → Mem → Option (Ex × St)) (t0 t1 t2 t6 t20 t21 t22 t23 t24 t25 t26 t27 t28 t29 : V) (m : Mem) : F.slices_insertionSortOrdered.b1 C k nx1 t0 t1 t2 t6 t20 t21 t22 t23 t24 t25 t26 t27 t28 t29 m = F.slices_insertionSortOrdered.b1R C k nx1 t0 t1 t2 t6 t20 t21 t22 t23 t24 t25 t26 t27 t28 t29 m := by
  unfold F.slices_insertionSortOrdered.b1 F.slices_insertionSortOrdered.b1R
  simp only [F.slices_insertionSortOrdered.l4_eqR, F.slices_insertionSortOrdered.j3_eqR]
theorem F.slices_insertionSortOrdered.l1_succ (C : CallT) (k n : Nat) (t0 t1 t2 t6 t20 t21 t22 t23 t24 t25 t26 t27 t28 t29 : V) (m : Mem) : F.slices_insertionSortOrdered.l1 C k (n + 1) t0 t1 t2 t6 t20 t21 t22 t23 t24 t25 t26 t27 t28 t29 m = F.slices_insertionSortOrdered.b1 C k (F.slices_insertionSortOrdered.l1 C k n) t0 t1 t2 t6 t20 t21 t22 t23 t24 t25 t26 t27 t28 t29 m :=
  (loopD_succ PP cfgB C k n 92 (loopAt Tryd.f92 1) ⟨[t0, t1, t2, V.any, V.any, V.any, t6, V.any, V.any, V.any, V.any, V.any, V.any, V.any, V.any, V.any, V.any, V.any, V.any, V.any, t20, t21, t22, t23, t24, t25, t26, t27, t28, t29, V.any, V.any, V.any, V.any, V.any, V.any, V.any, V.any, V.any, V.any, V.any, V.any, V.any, V.any, V.any, V.any, V.any, V.any, V.any], [], m⟩).trans (by kernel_rfl)
noncomputable def F.slices_insertionSortOrdered.g1 (C : CallT) (k : Nat) : Nat → V → V → V → V → V → V → V → V → V → V → V → V → V → V → Mem → Option (Ex × St)
  | 0, _, _, _, _, _, _, _, _, _, _, _, _, _, _, _ => none
  | n + 1, t0, t1, t2, t6, t20, t21, t22, t23, t24, t25, t26, t27, t28, t29, m => F.slices_insertionSortOrdered.b1R C k (F.slices_insertionSortOrdered.g1 C k n) t0 t1 t2 t6 t20 t21 t22 t23 t24 t25 t26 t27 t28 t29 m
theorem F.slices_insertionSortOrdered.g1_succ (C : CallT) (k n : Nat) (t0 t1 t2 t6 t20 t21 t22 t23 t24 t25 t26 t27 t28 t29 : V) (m : Mem) : F.slices_insertionSortOrdered.g1 C k (n + 1) t0 t1 t2 t6 t20 t21 t22 t23 t24 t25 t26 t27 t28 t29 m = F.slices_insertionSortOrdered.b1R C k (F.slices_insertionSortOrdered.g1 C k n) t0 t1 t2 t6 t20 t21 t22 t23 t24 t25 t26 t27 t28 t29 m := rfl
theorem F.slices_insertionSortOrdered.g1_zero (C : CallT) (k : Nat) (t0 t1 t2 t6 t20 t21 t22 t23 t24 t25 t26 t27 t28 t29 : V) (m : Mem) : F.slices_insertionSortOrdered.g1 C k 0 t0 t1 t2 t6 t20 t21 t22 t23 t24 t25 t26 t27 t28 t29 m = none := rfl
theorem F.slices_insertionSortOrdered.l1_eqR (C : CallT) (k : Nat) : ∀ (n : Nat) (t0 t1 t2 t6 t20 t21 t22 t23 t24 t25 t26 t27 t28 t29 : V) (m : Mem), F.slices_insertionSortOrdered.l1 C k n t0 t1 t2 t6 t20 t21 t22 t23 t24 t25 t26 t27 t28 t29 m = F.slices_insertionSortOrdered.g1 C k n t0 t1 t2 t6 t20 t21 t22 t23 t24 t25 t26 t27 t28 t29 m
  | 0, _, _, _, _, _, _, _, _, _, _, _, _, _, _, _ => rfl
  | n + 1, t0, t1, t2, t6, t20, t21, t22, t23, t24, t25, t26, t27, t28, t29, m => by
    have h : F.slices_insertionSortOrdered.l1 C k n = F.slices_insertionSortOrdered.g1 C k n := by funext t0 t1 t2 t6 t20 t21 t22 t23 t24 t25 t26 t27 t28 t29 m; exact F.slices_insertionSortOrdered.l1_eqR C k n t0 t1 t2 t6 t20 t21 t22 t23 t24 t25 t26 t27 t28 t29 m
    rw [F.slices_insertionSortOrdered.l1_succ, h, F.slices_insertionSortOrdered.b1_eqR]
    rfl
noncomputable def F.slices_insertionSortOrdered.L0 (C : CallT) (k : Nat) (a0 a1 a2 : V) (m0 : Mem) : Option (Out × Mem) :=
  ((binOpV PP .add 3 a1 (V.int .i64 1)).bind fun v1 => ((F.slices_insertionSortOrdered.l1 C k k a0 a1 a2 v1 V.undef V.undef V.undef V.undef V.undef V.undef V.undef V.undef V.undef V.undef (⟨m0.objs, m0.objs.length⟩ : Mem)).bind fun r33 => exK r33.1 (retV true m0 (V.tuple []) r33.2.mem) (fun i34 => (if i34 = 0 then (retV true m0 (V.tuple []) r33.2.mem) else none)) (retV true m0 (V.tuple []) r33.2.mem) (fun q35 => none)))
noncomputable def F.slices_insertionSortOrdered (C : CallT) (k : Nat) (a0 a1 a2 : V) (m0 : Mem) : Option (Out × Mem) :=
  ((binOpV PP .add 3 a1 (V.int .i64 1)).bind fun v1 => ((F.slices_insertionSortOrdered.g1 C k k a0 a1 a2 v1 V.undef V.undef V.undef V.undef V.undef V.undef V.undef V.undef V.undef V.undef (⟨m0.objs, m0.objs.length⟩ : Mem)).bind fun r33 => exK r33.1 (retV true m0 (V.tuple []) r33.2.mem) (fun i34 => (if i34 = 0 then (retV true m0 (V.tuple []) r33.2.mem) else none)) (retV true m0 (V.tuple []) r33.2.mem) (fun q35 => none)))
theorem F.slices_insertionSortOrdered.L0_eqR (C : CallT) (k : Nat) (a0 a1 a2 : V) (m0 : Mem) : F.slices_insertionSortOrdered.L0 C k a0 a1 a2 m0 = F.slices_insertionSortOrdered C k a0 a1 a2 m0 := by
  unfold F.slices_insertionSortOrdered.L0 F.slices_insertionSortOrdered
  simp only [F.slices_insertionSortOrdered.l4_eqR, F.slices_insertionSortOrdered.j3_eqR, F.slices_insertionSortOrdered.b1_eqR, F.slices_insertionSortOrdered.l1_eqR]
theorem F.slices_insertionSortOrdered.of (C : CallT) (k : Nat) (a0 a1 a2 : V) (m0 : Mem) : fnK PP cfgB C k id_slices_insertionSortOrdered Tryd.f92 F.slices_insertionSortOrdered_body [a0, a1, a2] m0 = F.slices_insertionSortOrdered C k a0 a1 a2 m0 :=
  (show _ = F.slices_insertionSortOrdered.L0 C k a0 a1 a2 m0 by kernel_rfl).trans (F.slices_insertionSortOrdered.L0_eqR _ _ _ _ _ _)
theorem F.slices_insertionSortOrdered.eqG (cfg : Cfg) (hp : cfg.plain = cfgB) (hs : cfg.sum id_slices_insertionSortOrdered = none) (k : Nat) (a0 a1 a2 : V) (m0 : Mem) : icall PP cfg (k + 1) (.fn id_slices_insertionSortOrdered) [a0, a1, a2] m0 = F.slices_insertionSortOrdered (icall PP cfg k) k a0 a1 a2 m0 :=
  (icall_eq PP cfg hp k id_slices_insertionSortOrdered Tryd.f92 F.slices_insertionSortOrdered_body [a0, a1, a2] m0 hs (by kernel_rfl) (by kernel_rfl)).trans (F.slices_insertionSortOrdered.of _ _ _ _ _ _)
end Go.Ig
