/-
  The functions of the seat's program, one by one, as the evaluator goes through them.
-/
import Derived.Test.YtkmcnopjgicneaaDoorIgB
set_option maxRecDepth 100000
set_option linter.unusedVariables false
set_option linter.unusedSimpArgs false
namespace Go.Ig
open Go Go.Proofs
noncomputable def F.disk_Disk_Crash_body : Code := (Tryd.f28.body).getD .skip
noncomputable def F.disk_Disk_Crash.j21 (C : CallT) (k : Nat) (nx5 : V → V → V → V → V → V → V → V → V → V → V → V → Mem → Option (Ex × St)) (t0 t1 t2 t7 t14 t15 t16 t26 t27 t28 t29 t30 : V) (m : Mem) : Option (Ex × St) :=
  ((binOpV PP .add 3 t16 (V.int .i64 1)).bind fun v22 => (nx5 t0 t1 t2 t7 t14 t15 v22 t26 t27 t28 t29 t30 m))
noncomputable def F.disk_Disk_Crash.j38 (C : CallT) (k : Nat) (nx5 : V → V → V → V → V → V → V → V → V → V → V → V → Mem → Option (Ex × St)) (t0 t1 t2 t7 t9 t10 t14 t15 t16 t26 t27 t28 t29 t30 : V) (m : Mem) : Option (Ex × St) :=
  ((nilChkV t0).bind fun v39 => ((xFA 0 v39).bind fun v40 => ((xLoad false 1 m v40).bind fun v41 => ((xLoad true 64 m t10).bind fun v42 => ((xIS 64 v41 t9).bind fun v43 => ((xStore 64 m v43 v42).bind fun m44 => ((binOpV PP .add 3 t7 (V.int .i64 1)).bind fun v45 => (F.disk_Disk_Crash.j21 C k nx5 t0 t1 t2 v45 t14 t15 t16 t26 t27 t28 t29 t30 m44))))))))
noncomputable def F.disk_Disk_Crash.j23 (C : CallT) (k : Nat) (nx5 : V → V → V → V → V → V → V → V → V → V → V → V → Mem → Option (Ex × St)) (t0 t1 t2 t7 t9 t14 t15 t16 t26 t27 t28 t29 t30 : V) (m : Mem) : Option (Ex × St) :=
  ((nilChkV t0).bind fun v24 => ((xFA 1 v24).bind fun v25 => ((xLoad false 1 m v25).bind fun v26 => ((xLook (.int .i64) (V.agg [(V.u8 0),(V.u8 0),(V.u8 0),(V.u8 0),(V.u8 0),(V.u8 0),(V.u8 0),(V.u8 0),(V.u8 0),(V.u8 0),(V.u8 0),(V.u8 0),(V.u8 0),(V.u8 0),(V.u8 0),(V.u8 0),(V.u8 0),(V.u8 0),(V.u8 0),(V.u8 0),(V.u8 0),(V.u8 0),(V.u8 0),(V.u8 0),(V.u8 0),(V.u8 0),(V.u8 0),(V.u8 0),(V.u8 0),(V.u8 0),(V.u8 0),(V.u8 0),(V.u8 0),(V.u8 0),(V.u8 0),(V.u8 0),(V.u8 0),(V.u8 0),(V.u8 0),(V.u8 0),(V.u8 0),(V.u8 0),(V.u8 0),(V.u8 0),(V.u8 0),(V.u8 0),(V.u8 0),(V.u8 0),(V.u8 0),(V.u8 0),(V.u8 0),(V.u8 0),(V.u8 0),(V.u8 0),(V.u8 0),(V.u8 0),(V.u8 0),(V.u8 0),(V.u8 0),(V.u8 0),(V.u8 0),(V.u8 0),(V.u8 0),(V.u8 0)]) m v26 t9 false).bind fun v27 => ((xNew true [(V.u8 0),(V.u8 0),(V.u8 0),(V.u8 0),(V.u8 0),(V.u8 0),(V.u8 0),(V.u8 0),(V.u8 0),(V.u8 0),(V.u8 0),(V.u8 0),(V.u8 0),(V.u8 0),(V.u8 0),(V.u8 0),(V.u8 0),(V.u8 0),(V.u8 0),(V.u8 0),(V.u8 0),(V.u8 0),(V.u8 0),(V.u8 0),(V.u8 0),(V.u8 0),(V.u8 0),(V.u8 0),(V.u8 0),(V.u8 0),(V.u8 0),(V.u8 0),(V.u8 0),(V.u8 0),(V.u8 0),(V.u8 0),(V.u8 0),(V.u8 0),(V.u8 0),(V.u8 0),(V.u8 0),(V.u8 0),(V.u8 0),(V.u8 0),(V.u8 0),(V.u8 0),(V.u8 0),(V.u8 0),(V.u8 0),(V.u8 0),(V.u8 0),(V.u8 0),(V.u8 0),(V.u8 0),(V.u8 0),(V.u8 0),(V.u8 0),(V.u8 0),(V.u8 0),(V.u8 0),(V.u8 0),(V.u8 0),(V.u8 0),(V.u8 0)] m).bind fun r28 => ((xStore 64 r28.2 r28.1 v27).bind fun m29 => ((binOpV PP .eql 3 t7 t2).bind fun v30 => (condV v30 ((xSlA m29 64 1 r28.1 (some (V.int .i64 32)) none none).bind fun v31 => ((nilChkV t0).bind fun v32 => ((xFA 0 v32).bind fun v33 => ((xLoad false 1 m29 v33).bind fun v34 => ((xIS 64 v34 t9).bind fun v35 => ((xSlA m29 64 1 v35 (some (V.int .i64 32)) none none).bind fun v36 => ((xCopy 1 m29 v31 v36).bind fun r37 => (F.disk_Disk_Crash.j38 C k nx5 t0 t1 t2 t7 t9 r28.1 t14 t15 t16 t26 t27 t28 t29 t30 r37.2)))))))) (F.disk_Disk_Crash.j38 C k nx5 t0 t1 t2 t7 t9 r28.1 t14 t15 t16 t26 t27 t28 t29 t30 m29)))))))))
noncomputable def F.disk_Disk_Crash.j20 (C : CallT) (k : Nat) (nx5 : V → V → V → V → V → V → V → V → V → V → V → V → Mem → Option (Ex × St)) (t0 t1 t2 t7 t9 t14 t15 t16 t26 t27 t28 t29 t30 t31 : V) (m : Mem) : Option (Ex × St) :=
  (condV t31 (F.disk_Disk_Crash.j21 C k nx5 t0 t1 t2 t7 t14 t15 t16 t26 t27 t28 t29 t30 m) (F.disk_Disk_Crash.j23 C k nx5 t0 t1 t2 t7 t9 t14 t15 t16 t26 t27 t28 t29 t30 m))
noncomputable def F.disk_Disk_Crash.j12 (C : CallT) (k : Nat) (nx5 : V → V → V → V → V → V → V → V → V → V → V → V → Mem → Option (Ex × St)) (t0 t1 t2 t7 t14 t15 t16 : V) (m : Mem) : Option (Ex × St) :=
  ((xIS 1 t14 t16).bind fun v13 => ((xLoad false 1 m v13).bind fun v14 => ((xLenL t1).bind fun v15 => ((binOpV PP .geq 3 t16 v15).bind fun v16 => (gate2 v16 false ((xIS 1 t1 t16).bind fun v17 => ((xLoad false 1 m v17).bind fun v18 => ((unOpV .not v18).bind fun v19 => (F.disk_Disk_Crash.j20 C k nx5 t0 t1 t2 t7 v14 t14 t15 t16 t1 t16 v17 v18 v19 v19 m)))) (F.disk_Disk_Crash.j20 C k nx5 t0 t1 t2 t7 v14 t14 t15 t16 V.undef V.undef V.undef V.undef V.undef (V.bool true) m))))))
noncomputable def F.disk_Disk_Crash.l5 (C : CallT) (k n : Nat) (t0 t1 t2 t7 t14 t15 t16 t26 t27 t28 t29 t30 : V) (m : Mem) : Option (Ex × St) := loopD PP cfgB C k n 28 (loopAt Tryd.f28 5) ⟨[t0, t1, t2, V.any, V.any, V.any, V.any, t7, V.any, V.any, V.any, V.any, V.any, V.any, t14, t15, t16, V.any, V.any, V.any, V.any, V.any, V.any, V.any, V.any, V.any, t26, t27, t28, t29, t30, V.any, V.any, V.any, V.any, V.any, V.any, V.any, V.any, V.any, V.any, V.any, V.any, V.any, V.any, V.any, V.any, V.any, V.any, V.any, V.any, V.any, V.any, V.any, V.any, V.any, V.any, V.any, V.any, V.any, V.any, V.any, V.any, V.any, V.any, V.any, V.any, V.any, V.any, V.any], [], m⟩
noncomputable def F.disk_Disk_Crash.b5 (C : CallT) (k : Nat) (nx5 : V → V → V → V → V → V → V → V → V → V → V → V → Mem → Option (Ex × St)) (t0 t1 t2 t7 t14 t15 t16 t26 t27 t28 t29 t30 : V) (m : Mem) : Option (Ex × St) :=
  ((binOpV PP .lss 3 t16 t15).bind fun v11 => (condV v11 (F.disk_Disk_Crash.j12 C k nx5 t0 t1 t2 t7 t14 t15 t16 m) (some (Ex.exit 0, ⟨[t0, V.any, V.any, V.any, V.any, V.any, V.any, V.any, V.any, V.any, V.any, V.any, V.any, V.any, V.any, V.any, V.any, V.any, V.any, V.any, V.any, V.any, V.any, V.any, V.any, V.any, V.any, V.any, V.any, V.any, V.any, V.any, V.any, V.any, V.any, V.any, V.any, V.any, V.any, V.any, V.any, V.any, V.any, V.any, V.any, V.any, V.any, V.any, V.any, V.any, V.any, V.any, V.any, V.any, V.any, V.any, V.any, V.any, V.any, V.any, V.any, V.any, V.any, V.any, V.any, V.any, V.any, V.any, V.any, V.any], [], m⟩))))
theorem F.disk_Disk_Crash.l5_succ (C : CallT) (k n : Nat) (t0 t1 t2 t7 t14 t15 t16 t26 t27 t28 t29 t30 : V) (m : Mem) : F.disk_Disk_Crash.l5 C k (n + 1) t0 t1 t2 t7 t14 t15 t16 t26 t27 t28 t29 t30 m = F.disk_Disk_Crash.b5 C k (F.disk_Disk_Crash.l5 C k n) t0 t1 t2 t7 t14 t15 t16 t26 t27 t28 t29 t30 m :=
  (loopD_succ PP cfgB C k n 28 (loopAt Tryd.f28 5) ⟨[t0, t1, t2, V.any, V.any, V.any, V.any, t7, V.any, V.any, V.any, V.any, V.any, V.any, t14, t15, t16, V.any, V.any, V.any, V.any, V.any, V.any, V.any, V.any, V.any, t26, t27, t28, t29, t30, V.any, V.any, V.any, V.any, V.any, V.any, V.any, V.any, V.any, V.any, V.any, V.any, V.any, V.any, V.any, V.any, V.any, V.any, V.any, V.any, V.any, V.any, V.any, V.any, V.any, V.any, V.any, V.any, V.any, V.any, V.any, V.any, V.any, V.any, V.any, V.any, V.any, V.any, V.any], [], m⟩).trans (by kernel_rfl)
noncomputable def F.disk_Disk_Crash.g5 (C : CallT) (k : Nat) : Nat → V → V → V → V → V → V → V → V → V → V → V → V → Mem → Option (Ex × St)
  | 0, _, _, _, _, _, _, _, _, _, _, _, _, _ => none
  | n + 1, t0, t1, t2, t7, t14, t15, t16, t26, t27, t28, t29, t30, m => F.disk_Disk_Crash.b5 C k (F.disk_Disk_Crash.g5 C k n) t0 t1 t2 t7 t14 t15 t16 t26 t27 t28 t29 t30 m
theorem F.disk_Disk_Crash.g5_succ (C : CallT) (k n : Nat) (t0 t1 t2 t7 t14 t15 t16 t26 t27 t28 t29 t30 : V) (m : Mem) : F.disk_Disk_Crash.g5 C k (n + 1) t0 t1 t2 t7 t14 t15 t16 t26 t27 t28 t29 t30 m = F.disk_Disk_Crash.b5 C k (F.disk_Disk_Crash.g5 C k n) t0 t1 t2 t7 t14 t15 t16 t26 t27 t28 t29 t30 m := rfl
theorem F.disk_Disk_Crash.g5_zero (C : CallT) (k : Nat) (t0 t1 t2 t7 t14 t15 t16 t26 t27 t28 t29 t30 : V) (m : Mem) : F.disk_Disk_Crash.g5 C k 0 t0 t1 t2 t7 t14 t15 t16 t26 t27 t28 t29 t30 m = none := rfl
theorem F.disk_Disk_Crash.l5_eqR (C : CallT) (k : Nat) : ∀ (n : Nat) (t0 t1 t2 t7 t14 t15 t16 t26 t27 t28 t29 t30 : V) (m : Mem), F.disk_Disk_Crash.l5 C k n t0 t1 t2 t7 t14 t15 t16 t26 t27 t28 t29 t30 m = F.disk_Disk_Crash.g5 C k n t0 t1 t2 t7 t14 t15 t16 t26 t27 t28 t29 t30 m
  | 0, _, _, _, _, _, _, _, _, _, _, _, _, _ => rfl
  | n + 1, t0, t1, t2, t7, t14, t15, t16, t26, t27, t28, t29, t30, m => by
    have h : F.disk_Disk_Crash.l5 C k n = F.disk_Disk_Crash.g5 C k n := by funext t0 t1 t2 t7 t14 t15 t16 t26 t27 t28 t29 t30 m; exact F.disk_Disk_Crash.l5_eqR C k n t0 t1 t2 t7 t14 t15 t16 t26 t27 t28 t29 t30 m
    rw [F.disk_Disk_Crash.l5_succ, h]
    rfl
noncomputable def F.disk_Disk_Crash.j49 (C : CallT) (k : Nat) (m0 : Mem) (t0 : V) (m : Mem) : Option (Out × Mem) :=
  ((nilChkV t0).bind fun v50 => ((xFA 1 v50).bind fun v51 => ((xLoad false 1 m v51).bind fun v52 => ((builtinV PP .clear #[38] [v52] m).bind fun r53 => ((nilChkV t0).bind fun v54 => ((xFA 3 v54).bind fun v55 => ((xStore 1 r53.2 v55 (V.bool false)).bind fun m56 => ((nilChkV t0).bind fun v57 => ((xFA 2 v57).bind fun v58 => ((xStore 1 m56 v58 (V.int .i64 (-1))).bind fun m59 => (retV true m0 (V.int .i64 0) m59)))))))))))
noncomputable def F.disk_Disk_Crash.j5 (C : CallT) (k : Nat) (m0 : Mem) (t0 t1 t2 t26 t27 t28 t29 t30 : V) (m : Mem) : Option (Out × Mem) :=
  (callK (C (.fn id_disk_Disk_Loose) [t0] m) (fun v6 m7 => ((xLenL v6).bind fun v10 => ((F.disk_Disk_Crash.l5 C k k t0 t1 t2 (V.int .i64 0) v6 v10 (V.int .i64 0) t26 t27 t28 t29 t30 m7).bind fun r46 => exK r46.1 (F.disk_Disk_Crash.j49 C k m0 (r46.2.env.getD 0 .any) r46.2.mem) (fun i47 => (if i47 = 0 then (F.disk_Disk_Crash.j49 C k m0 (r46.2.env.getD 0 .any) r46.2.mem) else none)) (retV true m0 (r46.2.env.getD 6 .any) r46.2.mem) (fun q48 => none)))) (fun q8 m9 => none))
noncomputable def F.disk_Disk_Crash.j5R (C : CallT) (k : Nat) (m0 : Mem) (t0 t1 t2 t26 t27 t28 t29 t30 : V) (m : Mem) : Option (Out × Mem) :=
  (callK (C (.fn id_disk_Disk_Loose) [t0] m) (fun v6 m7 => ((xLenL v6).bind fun v10 => ((F.disk_Disk_Crash.g5 C k k t0 t1 t2 (V.int .i64 0) v6 v10 (V.int .i64 0) t26 t27 t28 t29 t30 m7).bind fun r46 => exK r46.1 (F.disk_Disk_Crash.j49 C k m0 (r46.2.env.getD 0 .any) r46.2.mem) (fun i47 => (if i47 = 0 then (F.disk_Disk_Crash.j49 C k m0 (r46.2.env.getD 0 .any) r46.2.mem) else none)) (retV true m0 (r46.2.env.getD 6 .any) r46.2.mem) (fun q48 => none)))) (fun q8 m9 => none))
theorem F.disk_Disk_Crash.j5_eqR (C : CallT) (k : Nat) (m0 : Mem) (t0 t1 t2 t26 t27 t28 t29 t30 : V) (m : Mem) : F.disk_Disk_Crash.j5 C k m0 t0 t1 t2 t26 t27 t28 t29 t30 m = F.disk_Disk_Crash.j5R C k m0 t0 t1 t2 t26 t27 t28 t29 t30 m := by
  unfold F.disk_Disk_Crash.j5 F.disk_Disk_Crash.j5R
  simp only [F.disk_Disk_Crash.l5_eqR]
noncomputable def F.disk_Disk_Crash.L0 (C : CallT) (k : Nat) (a0 a1 a2 : V) (m0 : Mem) : Option (Out × Mem) :=
  (callK (C (.fn id_disk_Disk_none) [a0] (⟨m0.objs, m0.objs.length⟩ : Mem)) (fun v1 m2 => (condV v1 (retV true m0 (V.int .i64 1) m2) (F.disk_Disk_Crash.j5 C k m0 a0 a1 a2 V.undef V.undef V.undef V.undef V.undef m2))) (fun q3 m4 => none))
noncomputable def F.disk_Disk_Crash (C : CallT) (k : Nat) (a0 a1 a2 : V) (m0 : Mem) : Option (Out × Mem) :=
  (callK (C (.fn id_disk_Disk_none) [a0] (⟨m0.objs, m0.objs.length⟩ : Mem)) (fun v1 m2 => (condV v1 (retV true m0 (V.int .i64 1) m2) (F.disk_Disk_Crash.j5R C k m0 a0 a1 a2 V.undef V.undef V.undef V.undef V.undef m2))) (fun q3 m4 => none))
theorem F.disk_Disk_Crash.L0_eqR (C : CallT) (k : Nat) (a0 a1 a2 : V) (m0 : Mem) : F.disk_Disk_Crash.L0 C k a0 a1 a2 m0 = F.disk_Disk_Crash C k a0 a1 a2 m0 := by
  unfold F.disk_Disk_Crash.L0 F.disk_Disk_Crash
  simp only [F.disk_Disk_Crash.l5_eqR, F.disk_Disk_Crash.j5_eqR]
theorem F.disk_Disk_Crash.of (C : CallT) (k : Nat) (a0 a1 a2 : V) (m0 : Mem) : fnK PP cfgB C k id_disk_Disk_Crash Tryd.f28 F.disk_Disk_Crash_body [a0, a1, a2] m0 = F.disk_Disk_Crash C k a0 a1 a2 m0 :=
  (show _ = F.disk_Disk_Crash.L0 C k a0 a1 a2 m0 by kernel_rfl).trans (F.disk_Disk_Crash.L0_eqR _ _ _ _ _ _)
theorem F.disk_Disk_Crash.eqG (cfg : Cfg) (hp : cfg.plain = cfgB) (hs : cfg.sum id_disk_Disk_Crash = none) (k : Nat) (a0 a1 a2 : V) (m0 : Mem) : icall PP cfg (k + 1) (.fn id_disk_Disk_Crash) [a0, a1, a2] m0 = F.disk_Disk_Crash (icall PP cfg k) k a0 a1 a2 m0 :=
  (icall_eq PP cfg hp k id_disk_Disk_Crash Tryd.f28 F.disk_Disk_Crash_body [a0, a1, a2] m0 hs (by kernel_rfl) (by kernel_rfl)).trans (F.disk_Disk_Crash.of _ _ _ _ _ _)
noncomputable def F.tandemref04_New_body : Code := (Tryd.f29.body).getD .skip
noncomputable def F.tandemref04_New.j26 (C : CallT) (k : Nat) (nx5 : V → V → V → Mem → Option (Ex × St)) (t0 t4 t5 : V) (m : Mem) : Option (Ex × St) :=
  ((binOpV PP .add 3 t5 (V.int .i64 1)).bind fun v27 => (nx5 t0 t4 v27 m))
noncomputable def F.tandemref04_New.j8 (C : CallT) (k : Nat) (nx5 : V → V → V → Mem → Option (Ex × St)) (t0 t4 t5 : V) (m : Mem) : Option (Ex × St) :=
  ((nilChkV t4).bind fun v9 => ((xFA 0 v9).bind fun v10 => ((xLoad false 1 m v10).bind fun v11 => ((xMkSl 1 1 true [(V.u8 0)] [0] m (V.int .i64 64) (V.int .i64 64)).bind fun r12 => (if (sameO (xLoad false 1 r12.2 v10) v11 && true) = true then ((xBuildSl 1 false [V.nils] r12.2 1 [(0, r12.1)]).bind fun r13 => (if (sameO (xLoad false 1 r13.2 v10) v11 && true) = true then ((xApp 1 24 false r13.2 v11 r13.1).bind fun r14 => ((nilChkV t4).bind fun v15 => ((xFA 0 v15).bind fun v16 => ((xStore 1 r14.2 v16 r14.1).bind fun m17 => ((nilChkV t4).bind fun v18 => ((xFA 1 v18).bind fun v19 => ((xLoad false 1 m17 v19).bind fun v20 => ((xBuildSl 1 false [V.nils] m17 1 [(0, V.nils)]).bind fun r21 => ((xApp 1 24 false r21.2 v20 r21.1).bind fun r22 => ((nilChkV t4).bind fun v23 => ((xFA 1 v23).bind fun v24 => ((xStore 1 r22.2 v24 r22.1).bind fun m25 => (F.tandemref04_New.j26 C k nx5 t0 t4 t5 m25))))))))))))) else none)) else none)))))
noncomputable def F.tandemref04_New.l5 (C : CallT) (k n : Nat) (t0 t4 t5 : V) (m : Mem) : Option (Ex × St) := loopD PP cfgB C k n 29 (loopAt Tryd.f29 5) ⟨[t0, V.any, V.any, V.any, t4, t5, V.any, V.any, V.any, V.any, V.any, V.any, V.any, V.any, V.any, V.any, V.any, V.any, V.any, V.any, V.any, V.any, V.any, V.any, V.any, V.any, V.any, V.any, V.any, V.any, V.any, V.any, V.any, V.any, V.any, V.any, V.any, V.any, V.any], [], m⟩
noncomputable def F.tandemref04_New.b5 (C : CallT) (k : Nat) (nx5 : V → V → V → Mem → Option (Ex × St)) (t0 t4 t5 : V) (m : Mem) : Option (Ex × St) :=
  ((binOpV PP .lss 3 t5 t0).bind fun v7 => (condV v7 (F.tandemref04_New.j8 C k nx5 t0 t4 t5 m) (some (Ex.exit 0, ⟨[V.any, V.any, V.any, V.any, t4, V.any, V.any, V.any, V.any, V.any, V.any, V.any, V.any, V.any, V.any, V.any, V.any, V.any, V.any, V.any, V.any, V.any, V.any, V.any, V.any, V.any, V.any, V.any, V.any, V.any, V.any, V.any, V.any, V.any, V.any, V.any, V.any, V.any, V.any], [], m⟩))))
theorem F.tandemref04_New.l5_succ (C : CallT) (k n : Nat) (t0 t4 t5 : V) (m : Mem) : F.tandemref04_New.l5 C k (n + 1) t0 t4 t5 m = F.tandemref04_New.b5 C k (F.tandemref04_New.l5 C k n) t0 t4 t5 m :=
  (loopD_succ PP cfgB C k n 29 (loopAt Tryd.f29 5) ⟨[t0, V.any, V.any, V.any, t4, t5, V.any, V.any, V.any, V.any, V.any, V.any, V.any, V.any, V.any, V.any, V.any, V.any, V.any, V.any, V.any, V.any, V.any, V.any, V.any, V.any, V.any, V.any, V.any, V.any, V.any, V.any, V.any, V.any, V.any, V.any, V.any, V.any, V.any], [], m⟩).trans (by kernel_rfl)
noncomputable def F.tandemref04_New.g5 (C : CallT) (k : Nat) : Nat → V → V → V → Mem → Option (Ex × St)
  | 0, _, _, _, _ => none
  | n + 1, t0, t4, t5, m => F.tandemref04_New.b5 C k (F.tandemref04_New.g5 C k n) t0 t4 t5 m
theorem F.tandemref04_New.g5_succ (C : CallT) (k n : Nat) (t0 t4 t5 : V) (m : Mem) : F.tandemref04_New.g5 C k (n + 1) t0 t4 t5 m = F.tandemref04_New.b5 C k (F.tandemref04_New.g5 C k n) t0 t4 t5 m := rfl
theorem F.tandemref04_New.g5_zero (C : CallT) (k : Nat) (t0 t4 t5 : V) (m : Mem) : F.tandemref04_New.g5 C k 0 t0 t4 t5 m = none := rfl
theorem F.tandemref04_New.l5_eqR (C : CallT) (k : Nat) : ∀ (n : Nat) (t0 t4 t5 : V) (m : Mem), F.tandemref04_New.l5 C k n t0 t4 t5 m = F.tandemref04_New.g5 C k n t0 t4 t5 m
  | 0, _, _, _, _ => rfl
  | n + 1, t0, t4, t5, m => by
    have h : F.tandemref04_New.l5 C k n = F.tandemref04_New.g5 C k n := by funext t0 t4 t5 m; exact F.tandemref04_New.l5_eqR C k n t0 t4 t5 m
    rw [F.tandemref04_New.l5_succ, h]
    rfl
noncomputable def F.tandemref04_New.j31 (C : CallT) (k : Nat) (m0 : Mem) (t4 : V) (m : Mem) : Option (Out × Mem) :=
  (retV false m0 (V.tuple [t4, (V.int .i64 0)]) m)
noncomputable def F.tandemref04_New.j4 (C : CallT) (k : Nat) (m0 : Mem) (t0 : V) (m : Mem) : Option (Out × Mem) :=
  ((xBuildS [(0, 1), (1, 1), (2, 1), (3, 1), (4, 1)] [V.nils,V.nils,(V.bool false),(V.int .i64 0),(V.int .i64 0)] [(3, (V.int .i64 (-1)))]).bind fun v5 => ((xBox false m v5).bind fun r6 => ((F.tandemref04_New.l5 C k k t0 r6.1 (V.int .i64 0) r6.2).bind fun r28 => exK r28.1 (F.tandemref04_New.j31 C k m0 (r28.2.env.getD 4 .any) r28.2.mem) (fun i29 => (if i29 = 0 then (F.tandemref04_New.j31 C k m0 (r28.2.env.getD 4 .any) r28.2.mem) else none)) (retV false m0 (V.tuple [(r28.2.env.getD 2 .any), (r28.2.env.getD 3 .any)]) r28.2.mem) (fun q30 => none))))
noncomputable def F.tandemref04_New.j4R (C : CallT) (k : Nat) (m0 : Mem) (t0 : V) (m : Mem) : Option (Out × Mem) :=
  ((xBuildS [(0, 1), (1, 1), (2, 1), (3, 1), (4, 1)] [V.nils,V.nils,(V.bool false),(V.int .i64 0),(V.int .i64 0)] [(3, (V.int .i64 (-1)))]).bind fun v5 => ((xBox false m v5).bind fun r6 => ((F.tandemref04_New.g5 C k k t0 r6.1 (V.int .i64 0) r6.2).bind fun r28 => exK r28.1 (F.tandemref04_New.j31 C k m0 (r28.2.env.getD 4 .any) r28.2.mem) (fun i29 => (if i29 = 0 then (F.tandemref04_New.j31 C k m0 (r28.2.env.getD 4 .any) r28.2.mem) else none)) (retV false m0 (V.tuple [(r28.2.env.getD 2 .any), (r28.2.env.getD 3 .any)]) r28.2.mem) (fun q30 => none))))
theorem F.tandemref04_New.j4_eqR (C : CallT) (k : Nat) (m0 : Mem) (t0 : V) (m : Mem) : F.tandemref04_New.j4 C k m0 t0 m = F.tandemref04_New.j4R C k m0 t0 m := by
  unfold F.tandemref04_New.j4 F.tandemref04_New.j4R
  simp only [F.tandemref04_New.l5_eqR]
noncomputable def F.tandemref04_New.j3 (C : CallT) (k : Nat) (m0 : Mem) (t0 t11 : V) (m : Mem) : Option (Out × Mem) :=
  (condV t11 (retV false m0 (V.tuple [V.nilp, (V.int .i64 5)]) m) (F.tandemref04_New.j4 C k m0 t0 m))
noncomputable def F.tandemref04_New.j3R (C : CallT) (k : Nat) (m0 : Mem) (t0 t11 : V) (m : Mem) : Option (Out × Mem) :=
  (condV t11 (retV false m0 (V.tuple [V.nilp, (V.int .i64 5)]) m) (F.tandemref04_New.j4R C k m0 t0 m))
theorem F.tandemref04_New.j3_eqR (C : CallT) (k : Nat) (m0 : Mem) (t0 t11 : V) (m : Mem) : F.tandemref04_New.j3 C k m0 t0 t11 m = F.tandemref04_New.j3R C k m0 t0 t11 m := by
  unfold F.tandemref04_New.j3 F.tandemref04_New.j3R
  simp only [F.tandemref04_New.l5_eqR, F.tandemref04_New.j4_eqR]
noncomputable def F.tandemref04_New.L0 (C : CallT) (k : Nat) (a0 : V) (m0 : Mem) : Option (Out × Mem) :=
  ((binOpV PP .lss 3 a0 (V.int .i64 1)).bind fun v1 => (gate2 v1 false ((binOpV PP .gtr 3 a0 (V.int .i64 1024)).bind fun v2 => (F.tandemref04_New.j3 C k m0 a0 v2 m0)) (F.tandemref04_New.j3 C k m0 a0 (V.bool true) m0)))
noncomputable def F.tandemref04_New (C : CallT) (k : Nat) (a0 : V) (m0 : Mem) : Option (Out × Mem) :=
  ((binOpV PP .lss 3 a0 (V.int .i64 1)).bind fun v1 => (gate2 v1 false ((binOpV PP .gtr 3 a0 (V.int .i64 1024)).bind fun v2 => (F.tandemref04_New.j3R C k m0 a0 v2 m0)) (F.tandemref04_New.j3R C k m0 a0 (V.bool true) m0)))
theorem F.tandemref04_New.L0_eqR (C : CallT) (k : Nat) (a0 : V) (m0 : Mem) : F.tandemref04_New.L0 C k a0 m0 = F.tandemref04_New C k a0 m0 := by
  unfold F.tandemref04_New.L0 F.tandemref04_New
  simp only [F.tandemref04_New.l5_eqR, F.tandemref04_New.j4_eqR, F.tandemref04_New.j3_eqR]
theorem F.tandemref04_New.of (C : CallT) (k : Nat) (a0 : V) (m0 : Mem) : fnK PP cfgB C k id_tandemref04_New Tryd.f29 F.tandemref04_New_body [a0] m0 = F.tandemref04_New C k a0 m0 :=
  (show _ = F.tandemref04_New.L0 C k a0 m0 by kernel_rfl).trans (F.tandemref04_New.L0_eqR _ _ _ _)
theorem F.tandemref04_New.eqG (cfg : Cfg) (hp : cfg.plain = cfgB) (hs : cfg.sum id_tandemref04_New = none) (k : Nat) (a0 : V) (m0 : Mem) : icall PP cfg (k + 1) (.fn id_tandemref04_New) [a0] m0 = F.tandemref04_New (icall PP cfg k) k a0 m0 :=
  (icall_eq PP cfg hp k id_tandemref04_New Tryd.f29 F.tandemref04_New_body [a0] m0 hs (by kernel_rfl) (by kernel_rfl)).trans (F.tandemref04_New.of _ _ _ _)
noncomputable def F.tandemlaw05_Long_body : Code := (Tryd.f30.body).getD .skip
noncomputable def F.tandemlaw05_Long.j17 (C : CallT) (k : Nat) (nx2 : V → V → V → V → V → V → V → V → V → V → V → Mem → Option (Ex × St)) (t0 t3 t9 t10 t22 t23 t24 t25 t26 t27 t28 : V) (m : Mem) : Option (Ex × St) :=
  ((binOpV PP .add 3 t3 (V.int .i64 1)).bind fun v18 => (nx2 t0 v18 t9 t10 t22 t23 t24 t25 t26 t27 t28 m))
noncomputable def F.tandemlaw05_Long.j16 (C : CallT) (k : Nat) (nx2 : V → V → V → V → V → V → V → V → V → V → V → Mem → Option (Ex × St)) (t0 t3 t9 t10 t22 t23 t24 t25 t26 t27 t28 t29 : V) (m : Mem) : Option (Ex × St) :=
  (condV t29 (some (Ex.ret, ⟨[t0, V.any, (V.bool true), V.any, V.any, V.any, V.any, V.any, V.any, V.any, V.any, V.any, V.any, V.any, V.any, V.any, V.any, V.any, V.any, V.any, V.any, V.any, V.any, V.any, V.any, V.any, V.any, V.any, V.any, V.any, V.any, V.any, V.any], [], m⟩)) (F.tandemlaw05_Long.j17 C k nx2 t0 t3 t9 t10 t22 t23 t24 t25 t26 t27 t28 m))
noncomputable def F.tandemlaw05_Long.j5 (C : CallT) (k : Nat) (nx2 : V → V → V → V → V → V → V → V → V → V → V → Mem → Option (Ex × St)) (t0 t3 t9 t10 : V) (m : Mem) : Option (Ex × St) :=
  ((xIS 6 t0 t3).bind fun v6 => ((xFA 4 v6).bind fun v7 => ((xLoad false 1 m v7).bind fun v8 => ((xLenL v8).bind fun v9 => ((binOpV PP .gtr 3 v9 (V.int .i64 100)).bind fun v10 => (gate2 v10 false ((xIS 6 t0 t3).bind fun v11 => ((xFA 5 v11).bind fun v12 => ((xLoad false 1 m v12).bind fun v13 => ((xLenL v13).bind fun v14 => ((binOpV PP .gtr 3 v14 (V.int .i64 30)).bind fun v15 => (F.tandemlaw05_Long.j16 C k nx2 t0 t3 t9 t10 t0 t3 v11 v12 v13 v14 v15 v15 m)))))) (F.tandemlaw05_Long.j16 C k nx2 t0 t3 t9 t10 V.undef V.undef V.undef V.undef V.undef V.undef V.undef (V.bool true) m)))))))
noncomputable def F.tandemlaw05_Long.j4 (C : CallT) (k : Nat) (nx2 : V → V → V → V → V → V → V → V → V → V → V → Mem → Option (Ex × St)) (t0 t2 t3 t9 t10 t11 : V) (m : Mem) : Option (Ex × St) :=
  (condV t11 (F.tandemlaw05_Long.j5 C k nx2 t0 t3 t9 t10 m) (some (Ex.exit 0, ⟨[t0, V.any, t2, V.any, V.any, V.any, V.any, V.any, V.any, V.any, V.any, V.any, V.any, V.any, V.any, V.any, V.any, V.any, V.any, V.any, V.any, V.any, V.any, V.any, V.any, V.any, V.any, V.any, V.any, V.any, V.any, V.any, V.any], [], m⟩)))
noncomputable def F.tandemlaw05_Long.l2 (C : CallT) (k n : Nat) (t0 t3 t9 t10 t22 t23 t24 t25 t26 t27 t28 : V) (m : Mem) : Option (Ex × St) := loopD PP cfgB C k n 30 (loopAt Tryd.f30 2) ⟨[t0, V.any, V.any, t3, V.any, V.any, V.any, V.any, V.any, t9, t10, V.any, V.any, V.any, V.any, V.any, V.any, V.any, V.any, V.any, V.any, V.any, t22, t23, t24, t25, t26, t27, t28, V.any, V.any, V.any, V.any], [], m⟩
noncomputable def F.tandemlaw05_Long.b2 (C : CallT) (k : Nat) (nx2 : V → V → V → V → V → V → V → V → V → V → V → Mem → Option (Ex × St)) (t0 t3 t9 t10 t22 t23 t24 t25 t26 t27 t28 : V) (m : Mem) : Option (Ex × St) :=
  ((xLenL t0).bind fun v1 => ((binOpV PP .lss 3 t3 v1).bind fun v2 => (gate2 v2 true ((binOpV PP .lss 3 t3 (V.int .i64 61)).bind fun v3 => (F.tandemlaw05_Long.j4 C k nx2 t0 V.any t3 t3 v3 v3 m)) (F.tandemlaw05_Long.j4 C k nx2 t0 V.any t3 V.undef V.undef (V.bool false) m))))
theorem F.tandemlaw05_Long.l2_succ (C : CallT) (k n : Nat) (t0 t3 t9 t10 t22 t23 t24 t25 t26 t27 t28 : V) (m : Mem) : F.tandemlaw05_Long.l2 C k (n + 1) t0 t3 t9 t10 t22 t23 t24 t25 t26 t27 t28 m = F.tandemlaw05_Long.b2 C k (F.tandemlaw05_Long.l2 C k n) t0 t3 t9 t10 t22 t23 t24 t25 t26 t27 t28 m :=
  (loopD_succ PP cfgB C k n 30 (loopAt Tryd.f30 2) ⟨[t0, V.any, V.any, t3, V.any, V.any, V.any, V.any, V.any, t9, t10, V.any, V.any, V.any, V.any, V.any, V.any, V.any, V.any, V.any, V.any, V.any, t22, t23, t24, t25, t26, t27, t28, V.any, V.any, V.any, V.any], [], m⟩).trans (by kernel_rfl)
noncomputable def F.tandemlaw05_Long.g2 (C : CallT) (k : Nat) : Nat → V → V → V → V → V → V → V → V → V → V → V → Mem → Option (Ex × St)
  | 0, _, _, _, _, _, _, _, _, _, _, _, _ => none
  | n + 1, t0, t3, t9, t10, t22, t23, t24, t25, t26, t27, t28, m => F.tandemlaw05_Long.b2 C k (F.tandemlaw05_Long.g2 C k n) t0 t3 t9 t10 t22 t23 t24 t25 t26 t27 t28 m
theorem F.tandemlaw05_Long.g2_succ (C : CallT) (k n : Nat) (t0 t3 t9 t10 t22 t23 t24 t25 t26 t27 t28 : V) (m : Mem) : F.tandemlaw05_Long.g2 C k (n + 1) t0 t3 t9 t10 t22 t23 t24 t25 t26 t27 t28 m = F.tandemlaw05_Long.b2 C k (F.tandemlaw05_Long.g2 C k n) t0 t3 t9 t10 t22 t23 t24 t25 t26 t27 t28 m := rfl
theorem F.tandemlaw05_Long.g2_zero (C : CallT) (k : Nat) (t0 t3 t9 t10 t22 t23 t24 t25 t26 t27 t28 : V) (m : Mem) : F.tandemlaw05_Long.g2 C k 0 t0 t3 t9 t10 t22 t23 t24 t25 t26 t27 t28 m = none := rfl
theorem F.tandemlaw05_Long.l2_eqR (C : CallT) (k : Nat) : ∀ (n : Nat) (t0 t3 t9 t10 t22 t23 t24 t25 t26 t27 t28 : V) (m : Mem), F.tandemlaw05_Long.l2 C k n t0 t3 t9 t10 t22 t23 t24 t25 t26 t27 t28 m = F.tandemlaw05_Long.g2 C k n t0 t3 t9 t10 t22 t23 t24 t25 t26 t27 t28 m
  | 0, _, _, _, _, _, _, _, _, _, _, _, _ => rfl
  | n + 1, t0, t3, t9, t10, t22, t23, t24, t25, t26, t27, t28, m => by
    have h : F.tandemlaw05_Long.l2 C k n = F.tandemlaw05_Long.g2 C k n := by funext t0 t3 t9 t10 t22 t23 t24 t25 t26 t27 t28 m; exact F.tandemlaw05_Long.l2_eqR C k n t0 t3 t9 t10 t22 t23 t24 t25 t26 t27 t28 m
    rw [F.tandemlaw05_Long.l2_succ, h]
    rfl
noncomputable def F.tandemlaw05_Long.j22 (C : CallT) (k : Nat) (m0 : Mem) (t0 : V) (m : Mem) : Option (Out × Mem) :=
  ((xLenL t0).bind fun v23 => ((binOpV PP .gtr 3 v23 (V.int .i64 60)).bind fun v24 => (retV true m0 v24 m)))
noncomputable def F.tandemlaw05_Long.L0 (C : CallT) (k : Nat) (a0 : V) (m0 : Mem) : Option (Out × Mem) :=
  ((F.tandemlaw05_Long.l2 C k k a0 (V.int .i64 0) V.undef V.undef V.undef V.undef V.undef V.undef V.undef V.undef V.undef (⟨m0.objs, m0.objs.length⟩ : Mem)).bind fun r19 => exK r19.1 (F.tandemlaw05_Long.j22 C k m0 (r19.2.env.getD 0 .any) r19.2.mem) (fun i20 => (if i20 = 0 then (F.tandemlaw05_Long.j22 C k m0 (r19.2.env.getD 0 .any) r19.2.mem) else none)) (retV true m0 (r19.2.env.getD 2 .any) r19.2.mem) (fun q21 => none))
noncomputable def F.tandemlaw05_Long (C : CallT) (k : Nat) (a0 : V) (m0 : Mem) : Option (Out × Mem) :=
  ((F.tandemlaw05_Long.g2 C k k a0 (V.int .i64 0) V.undef V.undef V.undef V.undef V.undef V.undef V.undef V.undef V.undef (⟨m0.objs, m0.objs.length⟩ : Mem)).bind fun r19 => exK r19.1 (F.tandemlaw05_Long.j22 C k m0 (r19.2.env.getD 0 .any) r19.2.mem) (fun i20 => (if i20 = 0 then (F.tandemlaw05_Long.j22 C k m0 (r19.2.env.getD 0 .any) r19.2.mem) else none)) (retV true m0 (r19.2.env.getD 2 .any) r19.2.mem) (fun q21 => none))
theorem F.tandemlaw05_Long.L0_eqR (C : CallT) (k : Nat) (a0 : V) (m0 : Mem) : F.tandemlaw05_Long.L0 C k a0 m0 = F.tandemlaw05_Long C k a0 m0 := by
  unfold F.tandemlaw05_Long.L0 F.tandemlaw05_Long
  simp only [F.tandemlaw05_Long.l2_eqR]
theorem F.tandemlaw05_Long.of (C : CallT) (k : Nat) (a0 : V) (m0 : Mem) : fnK PP cfgB C k id_tandemlaw05_Long Tryd.f30 F.tandemlaw05_Long_body [a0] m0 = F.tandemlaw05_Long C k a0 m0 :=
  (show _ = F.tandemlaw05_Long.L0 C k a0 m0 by kernel_rfl).trans (F.tandemlaw05_Long.L0_eqR _ _ _ _)
theorem F.tandemlaw05_Long.eqG (cfg : Cfg) (hp : cfg.plain = cfgB) (hs : cfg.sum id_tandemlaw05_Long = none) (k : Nat) (a0 : V) (m0 : Mem) : icall PP cfg (k + 1) (.fn id_tandemlaw05_Long) [a0] m0 = F.tandemlaw05_Long (icall PP cfg k) k a0 m0 :=
  (icall_eq PP cfg hp k id_tandemlaw05_Long Tryd.f30 F.tandemlaw05_Long_body [a0] m0 hs (by kernel_rfl) (by kernel_rfl)).trans (F.tandemlaw05_Long.of _ _ _ _)
noncomputable def F.tandemref08_Write_body : Code := (Tryd.f31.body).getD .skip
noncomputable def F.tandemref08_Write.j16 (C : CallT) (k : Nat) (m0 : Mem) (t0 : V) (m : Mem) : Option (Out × Mem) :=
  (callK (C (.fn id_tandemref04_Disk_Flush) [t0] m) (fun v17 m18 => (retV true m0 v17 m18)) (fun q19 m20 => none))
noncomputable def F.tandemref08_Write.j10 (C : CallT) (k : Nat) (m0 : Mem) (t0 t1 t7 : V) (m : Mem) : Option (Out × Mem) :=
  (callK (C (.fn id_tandemref04_Disk_Write) [t0, t1, t7] m) (fun v11 m12 => ((binOpV PP .neq 26 v11 (V.int .i64 0)).bind fun v15 => (condV v15 (retV true m0 v11 m12) (F.tandemref08_Write.j16 C k m0 t0 m12)))) (fun q13 m14 => none))
noncomputable def F.tandemref08_Write (C : CallT) (k : Nat) (a0 a1 a2 : V) (m0 : Mem) : Option (Out × Mem) :=
  ((xBox false (⟨m0.objs, m0.objs.length⟩ : Mem) a2).bind fun r1 => ((xLoad true 3 r1.2 r1.1).bind fun v2 => (callK (C (.fn id_tandemref08_Bytes) [v2] r1.2) (fun v3 m4 => ((extractV v3 0).bind fun v7 => ((extractV v3 1).bind fun v8 => ((binOpV PP .neq 26 v8 (V.int .i64 0)).bind fun v9 => (condV v9 (retV true m0 v8 m4) (F.tandemref08_Write.j10 C k m0 a0 a1 v7 m4)))))) (fun q5 m6 => none))))
theorem F.tandemref08_Write.of (C : CallT) (k : Nat) (a0 a1 a2 : V) (m0 : Mem) : fnK PP cfgB C k id_tandemref08_Write Tryd.f31 F.tandemref08_Write_body [a0, a1, a2] m0 = F.tandemref08_Write C k a0 a1 a2 m0 :=
  by kernel_rfl
theorem F.tandemref08_Write.eqG (cfg : Cfg) (hp : cfg.plain = cfgB) (hs : cfg.sum id_tandemref08_Write = none) (k : Nat) (a0 a1 a2 : V) (m0 : Mem) : icall PP cfg (k + 1) (.fn id_tandemref08_Write) [a0, a1, a2] m0 = F.tandemref08_Write (icall PP cfg k) k a0 a1 a2 m0 :=
  (icall_eq PP cfg hp k id_tandemref08_Write Tryd.f31 F.tandemref08_Write_body [a0, a1, a2] m0 hs (by kernel_rfl) (by kernel_rfl)).trans (F.tandemref08_Write.of _ _ _ _ _ _)
noncomputable def F.tandemref08_Last_body : Code := (Tryd.f32.body).getD .skip
noncomputable def F.tandemref08_Last.j25 (C : CallT) (k : Nat) (m0 : Mem) (t4 t8 : V) (m : Mem) : Option (Out × Mem) :=
  ((xLoad true 3 m t8).bind fun v26 => ((xStore 3 m t4 v26).bind fun m27 => ((loadV PP m27 24 t4).bind fun v28 => (retV true m0 (V.tuple [v28, (V.int .i64 0)]) m27))))
noncomputable def F.tandemref08_Last.j12 (C : CallT) (k : Nat) (m0 : Mem) (t4 t6 : V) (m : Mem) : Option (Out × Mem) :=
  (callK (C (.fn id_tandemref08_Read) [t6] m) (fun v13 m14 => ((extractV v13 0).bind fun v17 => ((extractV v13 1).bind fun v18 => ((xNew false [(V.int .i64 0),(V.int .i64 0),V.nils] m14).bind fun r19 => ((xStore 3 r19.2 r19.1 v17).bind fun m20 => ((binOpV PP .neq 26 v18 (V.int .i64 0)).bind fun v21 => (condV v21 ((xBuildS [(0, 1), (1, 1), (2, 1)] [(V.int .i64 0),(V.int .i64 0),V.nils] []).bind fun v22 => ((xStore 3 m20 t4 v22).bind fun m23 => ((loadV PP m23 24 t4).bind fun v24 => (retV true m0 (V.tuple [v24, (V.int .i64 6)]) m23)))) (F.tandemref08_Last.j25 C k m0 t4 r19.1 m20)))))))) (fun q15 m16 => none))
noncomputable def F.tandemref08_Last (C : CallT) (k : Nat) (a0 a1 : V) (m0 : Mem) : Option (Out × Mem) :=
  ((xNew false [(V.int .i64 0),(V.int .i64 0),V.nils] (⟨m0.objs, m0.objs.length⟩ : Mem)).bind fun r1 => (callK (C (.fn id_tandemref04_Disk_Read) [a0, a1] r1.2) (fun v2 m3 => ((extractV v2 0).bind fun v6 => ((extractV v2 1).bind fun v7 => ((binOpV PP .neq 26 v7 (V.int .i64 0)).bind fun v8 => (condV v8 ((xBuildS [(0, 1), (1, 1), (2, 1)] [(V.int .i64 0),(V.int .i64 0),V.nils] []).bind fun v9 => ((xStore 3 m3 r1.1 v9).bind fun m10 => ((loadV PP m10 24 r1.1).bind fun v11 => (retV true m0 (V.tuple [v11, v7]) m10)))) (F.tandemref08_Last.j12 C k m0 r1.1 v6 m3)))))) (fun q4 m5 => none)))
theorem F.tandemref08_Last.of (C : CallT) (k : Nat) (a0 a1 : V) (m0 : Mem) : fnK PP cfgB C k id_tandemref08_Last Tryd.f32 F.tandemref08_Last_body [a0, a1] m0 = F.tandemref08_Last C k a0 a1 m0 :=
  by kernel_rfl
theorem F.tandemref08_Last.eqG (cfg : Cfg) (hp : cfg.plain = cfgB) (hs : cfg.sum id_tandemref08_Last = none) (k : Nat) (a0 a1 : V) (m0 : Mem) : icall PP cfg (k + 1) (.fn id_tandemref08_Last) [a0, a1] m0 = F.tandemref08_Last (icall PP cfg k) k a0 a1 m0 :=
  (icall_eq PP cfg hp k id_tandemref08_Last Tryd.f32 F.tandemref08_Last_body [a0, a1] m0 hs (by kernel_rfl) (by kernel_rfl)).trans (F.tandemref08_Last.of _ _ _ _ _)
noncomputable def F.tandemlaw05_Harm_body : Code := (Tryd.f33.body).getD .skip
noncomputable def F.tandemlaw05_Harm.j86 (C : CallT) (k : Nat) (m0 : Mem) (m : Mem) : Option (Out × Mem) :=
  (retV true m0 (V.bool true) m)
noncomputable def F.tandemlaw05_Harm (C : CallT) (k : Nat) (a0 a1 a2 : V) (m0 : Mem) : Option (Out × Mem) :=
  ((xBox false (⟨m0.objs, m0.objs.length⟩ : Mem) a2).bind fun r1 => ((xFA 0 r1.1).bind fun v2 => ((xLoad false 1 r1.2 v2).bind fun v3 => ((binOpV PP .eql 3 v3 (V.int .i64 2)).bind fun v4 => (condV v4 ((xFA 5 r1.1).bind fun v5 => ((xLoad false 1 r1.2 v5).bind fun v6 => ((xFA 1 r1.1).bind fun v7 => ((xLoad false 1 r1.2 v7).bind fun v8 => (callK (C (.fn id_tandemref04_Disk_Crash) [a1, v6, v8] r1.2) (fun v9 m10 => ((xFA 5 r1.1).bind fun v13 => ((xLoad false 1 m10 v13).bind fun v14 => ((xFA 1 r1.1).bind fun v15 => ((xLoad false 1 m10 v15).bind fun v16 => (callK (C (.fn id_disk_Disk_Crash) [a0, v14, v16] m10) (fun v17 m18 => ((binOpV PP .eql 26 v17 (V.int .i64 0)).bind fun v21 => (retV true m0 v21 m18))) (fun q19 m20 => none))))))) (fun q11 m12 => none)))))) ((binOpV PP .eql 3 v3 (V.int .i64 3)).bind fun v22 => (condV v22 ((xFA 1 r1.1).bind fun v23 => ((xLoad false 1 r1.2 v23).bind fun v24 => ((xFA 2 r1.1).bind fun v25 => ((xLoad false 1 r1.2 v25).bind fun v26 => ((xFA 3 r1.1).bind fun v27 => ((xLoad false 1 r1.2 v27).bind fun v28 => (callK (C (.fn id_disk_Disk_Turn) [a0, v24, v26, v28] r1.2) (fun v29 m30 => ((xFA 1 r1.1).bind fun v33 => ((xLoad false 1 m30 v33).bind fun v34 => (if (sameO (xLoad false 1 r1.2 v33) v34 && true) = true then ((xFA 2 r1.1).bind fun v35 => ((xLoad false 1 m30 v35).bind fun v36 => (if (sameO (xLoad false 1 r1.2 v35) v36 && true) = true then ((xFA 3 r1.1).bind fun v37 => ((xLoad false 1 m30 v37).bind fun v38 => (if (sameO (xLoad false 1 r1.2 v37) v38 && true) = true then (callK (C (.fn id_tandemref04_Disk_Turn) [a1, v34, v36, v38] m30) (fun v39 m40 => ((binOpV PP .eql 26 v29 v39).bind fun v43 => (retV true m0 v43 m40))) (fun q41 m42 => none)) else none))) else none))) else none)))) (fun q31 m32 => none)))))))) ((binOpV PP .eql 3 v3 (V.int .i64 4)).bind fun v44 => (condV v44 ((xFA 1 r1.1).bind fun v45 => ((xLoad false 1 r1.2 v45).bind fun v46 => (callK (C (.fn id_disk_Disk_Fuse) [a0, v46] r1.2) (fun v47 m48 => ((xFA 1 r1.1).bind fun v51 => ((xLoad false 1 m48 v51).bind fun v52 => (if (sameO (xLoad false 1 r1.2 v51) v52 && true) = true then (callK (C (.fn id_tandemref04_Disk_Fuse) [a1, v52] m48) (fun v53 m54 => ((binOpV PP .eql 26 v47 v53).bind fun v57 => (retV true m0 v57 m54))) (fun q55 m56 => none)) else none)))) (fun q49 m50 => none)))) ((binOpV PP .eql 3 v3 (V.int .i64 5)).bind fun v58 => (condV v58 ((xFA 1 r1.1).bind fun v59 => ((xLoad false 1 r1.2 v59).bind fun v60 => ((xFA 4 r1.1).bind fun v61 => ((xLoad false 1 r1.2 v61).bind fun v62 => (callK (C (.fn id_disk_Disk_Write) [a0, v60, v62] r1.2) (fun v63 m64 => ((xFA 1 r1.1).bind fun v67 => ((xLoad false 1 m64 v67).bind fun v68 => (if (sameO (xLoad false 1 r1.2 v67) v68 && true) = true then ((xFA 4 r1.1).bind fun v69 => ((xLoad false 1 m64 v69).bind fun v70 => (if (sameO (xLoad false 1 r1.2 v69) v70 && true) = true then (callK (C (.fn id_tandemref04_Disk_Write) [a1, v68, v70] m64) (fun v71 m72 => ((binOpV PP .eql 26 v63 v71).bind fun v75 => (retV true m0 v75 m72))) (fun q73 m74 => none)) else none))) else none)))) (fun q65 m66 => none)))))) ((binOpV PP .eql 3 v3 (V.int .i64 6)).bind fun v76 => (condV v76 (callK (C (.fn id_disk_Disk_Flush) [a0] r1.2) (fun v77 m78 => (callK (C (.fn id_tandemref04_Disk_Flush) [a1] m78) (fun v81 m82 => ((binOpV PP .eql 26 v77 v81).bind fun v85 => (retV true m0 v85 m82))) (fun q83 m84 => none))) (fun q79 m80 => none)) (F.tandemlaw05_Harm.j86 C k m0 r1.2))))))))))))))
theorem F.tandemlaw05_Harm.of (C : CallT) (k : Nat) (a0 a1 a2 : V) (m0 : Mem) : fnK PP cfgB C k id_tandemlaw05_Harm Tryd.f33 F.tandemlaw05_Harm_body [a0, a1, a2] m0 = F.tandemlaw05_Harm C k a0 a1 a2 m0 :=
  by kernel_rfl
theorem F.tandemlaw05_Harm.eqG (cfg : Cfg) (hp : cfg.plain = cfgB) (hs : cfg.sum id_tandemlaw05_Harm = none) (k : Nat) (a0 a1 a2 : V) (m0 : Mem) : icall PP cfg (k + 1) (.fn id_tandemlaw05_Harm) [a0, a1, a2] m0 = F.tandemlaw05_Harm (icall PP cfg k) k a0 a1 a2 m0 :=
  (icall_eq PP cfg hp k id_tandemlaw05_Harm Tryd.f33 F.tandemlaw05_Harm_body [a0, a1, a2] m0 hs (by kernel_rfl) (by kernel_rfl)).trans (F.tandemlaw05_Harm.of _ _ _ _ _ _)
noncomputable def F.tandemlaw05_Alike_body : Code := (Tryd.f34.body).getD .skip
noncomputable def F.tandemlaw05_Alike.j44 (C : CallT) (k : Nat) (nx4 : V → V → V → V → V → V → V → Mem → Option (Ex × St)) (t0 t1 t5 t51 t52 t53 t54 : V) (m : Mem) : Option (Ex × St) :=
  ((binOpV PP .add 3 t5 (V.int .i64 1)).bind fun v45 => (nx4 t0 t1 v45 t51 t52 t53 t54 m))
noncomputable def F.tandemlaw05_Alike.j43 (C : CallT) (k : Nat) (nx4 : V → V → V → V → V → V → V → Mem → Option (Ex × St)) (t0 t1 t5 t51 t52 t53 t54 t55 : V) (m : Mem) : Option (Ex × St) :=
  (condV t55 (some (Ex.ret, ⟨[V.any, V.any, V.any, V.any, (V.bool false), V.any, V.any, V.any, V.any, V.any, V.any, V.any, V.any, V.any, V.any, V.any, V.any, V.any, V.any, V.any, V.any, V.any, V.any, V.any, V.any, V.any, V.any, V.any, V.any, V.any, V.any, V.any, V.any, V.any, V.any, V.any, V.any, V.any, V.any, V.any, V.any, V.any, V.any, V.any, V.any, V.any, V.any, V.any, V.any, V.any, V.any, V.any, V.any, V.any, V.any, V.any], [], m⟩)) (F.tandemlaw05_Alike.j44 C k nx4 t0 t1 t5 t51 t52 t53 t54 m))
noncomputable def F.tandemlaw05_Alike.j24 (C : CallT) (k : Nat) (nx4 : V → V → V → V → V → V → V → Mem → Option (Ex × St)) (t0 t1 t4 t5 : V) (m : Mem) : Option (Ex × St) :=
  (callK (C (.fn id_disk_Disk_Read) [t0, t5] m) (fun v25 m26 => ((extractV v25 0).bind fun v29 => ((extractV v25 1).bind fun v30 => (callK (C (.fn id_tandemref04_Disk_Read) [t1, t5] m26) (fun v31 m32 => ((extractV v31 0).bind fun v35 => ((extractV v31 1).bind fun v36 => ((binOpV PP .neq 26 v30 v36).bind fun v37 => (gate2 v37 false (callK (C (.fn id_tandemkit_SameBytes) [v29, v35] m32) (fun v38 m39 => ((unOpV .not v38).bind fun v42 => (F.tandemlaw05_Alike.j43 C k nx4 t0 t1 t5 v29 v35 v38 v42 v42 m39))) (fun q40 m41 => (some (Ex.panic q40, ⟨[V.any, V.any, V.any, V.any, t4, V.any, V.any, V.any, V.any, V.any, V.any, V.any, V.any, V.any, V.any, V.any, V.any, V.any, V.any, V.any, V.any, V.any, V.any, V.any, V.any, V.any, V.any, V.any, V.any, V.any, V.any, V.any, V.any, V.any, V.any, V.any, V.any, V.any, V.any, V.any, V.any, V.any, V.any, V.any, V.any, V.any, V.any, V.any, V.any, V.any, V.any, V.any, V.any, V.any, V.any, V.any], [], m41⟩)))) (F.tandemlaw05_Alike.j43 C k nx4 t0 t1 t5 V.undef V.undef V.undef V.undef (V.bool true) m32)))))) (fun q33 m34 => (some (Ex.panic q33, ⟨[V.any, V.any, V.any, V.any, t4, V.any, V.any, V.any, V.any, V.any, V.any, V.any, V.any, V.any, V.any, V.any, V.any, V.any, V.any, V.any, V.any, V.any, V.any, V.any, V.any, V.any, V.any, V.any, V.any, V.any, V.any, V.any, V.any, V.any, V.any, V.any, V.any, V.any, V.any, V.any, V.any, V.any, V.any, V.any, V.any, V.any, V.any, V.any, V.any, V.any, V.any, V.any, V.any, V.any, V.any, V.any], [], m34⟩))))))) (fun q27 m28 => (some (Ex.panic q27, ⟨[V.any, V.any, V.any, V.any, t4, V.any, V.any, V.any, V.any, V.any, V.any, V.any, V.any, V.any, V.any, V.any, V.any, V.any, V.any, V.any, V.any, V.any, V.any, V.any, V.any, V.any, V.any, V.any, V.any, V.any, V.any, V.any, V.any, V.any, V.any, V.any, V.any, V.any, V.any, V.any, V.any, V.any, V.any, V.any, V.any, V.any, V.any, V.any, V.any, V.any, V.any, V.any, V.any, V.any, V.any, V.any], [], m28⟩))))
noncomputable def F.tandemlaw05_Alike.l4 (C : CallT) (k n : Nat) (t0 t1 t5 t51 t52 t53 t54 : V) (m : Mem) : Option (Ex × St) := loopD PP cfgB C k n 34 (loopAt Tryd.f34 4) ⟨[t0, t1, V.any, V.any, V.any, t5, V.any, V.any, V.any, V.any, V.any, V.any, V.any, V.any, V.any, V.any, V.any, V.any, V.any, V.any, V.any, V.any, V.any, V.any, V.any, V.any, V.any, V.any, V.any, V.any, V.any, V.any, V.any, V.any, V.any, V.any, V.any, V.any, V.any, V.any, V.any, V.any, V.any, V.any, V.any, V.any, V.any, V.any, V.any, V.any, V.any, t51, t52, t53, t54, V.any], [], m⟩
noncomputable def F.tandemlaw05_Alike.b4 (C : CallT) (k : Nat) (nx4 : V → V → V → V → V → V → V → Mem → Option (Ex × St)) (t0 t1 t5 t51 t52 t53 t54 : V) (m : Mem) : Option (Ex × St) :=
  ((nilChkV t1).bind fun v19 => ((xFA 0 v19).bind fun v20 => ((xLoad false 1 m v20).bind fun v21 => ((xLenL v21).bind fun v22 => ((binOpV PP .lss 3 t5 v22).bind fun v23 => (condV v23 (F.tandemlaw05_Alike.j24 C k nx4 t0 t1 V.any t5 m) (some (Ex.exit 0, ⟨[V.any, V.any, V.any, V.any, V.any, V.any, V.any, V.any, V.any, V.any, V.any, V.any, V.any, V.any, V.any, V.any, V.any, V.any, V.any, V.any, V.any, V.any, V.any, V.any, V.any, V.any, V.any, V.any, V.any, V.any, V.any, V.any, V.any, V.any, V.any, V.any, V.any, V.any, V.any, V.any, V.any, V.any, V.any, V.any, V.any, V.any, V.any, V.any, V.any, V.any, V.any, V.any, V.any, V.any, V.any, V.any], [], m⟩))))))))
theorem F.tandemlaw05_Alike.l4_succ (C : CallT) (k n : Nat) (t0 t1 t5 t51 t52 t53 t54 : V) (m : Mem) : F.tandemlaw05_Alike.l4 C k (n + 1) t0 t1 t5 t51 t52 t53 t54 m = F.tandemlaw05_Alike.b4 C k (F.tandemlaw05_Alike.l4 C k n) t0 t1 t5 t51 t52 t53 t54 m :=
  (loopD_succ PP cfgB C k n 34 (loopAt Tryd.f34 4) ⟨[t0, t1, V.any, V.any, V.any, t5, V.any, V.any, V.any, V.any, V.any, V.any, V.any, V.any, V.any, V.any, V.any, V.any, V.any, V.any, V.any, V.any, V.any, V.any, V.any, V.any, V.any, V.any, V.any, V.any, V.any, V.any, V.any, V.any, V.any, V.any, V.any, V.any, V.any, V.any, V.any, V.any, V.any, V.any, V.any, V.any, V.any, V.any, V.any, V.any, V.any, t51, t52, t53, t54, V.any], [], m⟩).trans (by kernel_rfl)
noncomputable def F.tandemlaw05_Alike.g4 (C : CallT) (k : Nat) : Nat → V → V → V → V → V → V → V → Mem → Option (Ex × St)
  | 0, _, _, _, _, _, _, _, _ => none
  | n + 1, t0, t1, t5, t51, t52, t53, t54, m => F.tandemlaw05_Alike.b4 C k (F.tandemlaw05_Alike.g4 C k n) t0 t1 t5 t51 t52 t53 t54 m
theorem F.tandemlaw05_Alike.g4_succ (C : CallT) (k n : Nat) (t0 t1 t5 t51 t52 t53 t54 : V) (m : Mem) : F.tandemlaw05_Alike.g4 C k (n + 1) t0 t1 t5 t51 t52 t53 t54 m = F.tandemlaw05_Alike.b4 C k (F.tandemlaw05_Alike.g4 C k n) t0 t1 t5 t51 t52 t53 t54 m := rfl
theorem F.tandemlaw05_Alike.g4_zero (C : CallT) (k : Nat) (t0 t1 t5 t51 t52 t53 t54 : V) (m : Mem) : F.tandemlaw05_Alike.g4 C k 0 t0 t1 t5 t51 t52 t53 t54 m = none := rfl
theorem F.tandemlaw05_Alike.l4_eqR (C : CallT) (k : Nat) : ∀ (n : Nat) (t0 t1 t5 t51 t52 t53 t54 : V) (m : Mem), F.tandemlaw05_Alike.l4 C k n t0 t1 t5 t51 t52 t53 t54 m = F.tandemlaw05_Alike.g4 C k n t0 t1 t5 t51 t52 t53 t54 m
  | 0, _, _, _, _, _, _, _, _ => rfl
  | n + 1, t0, t1, t5, t51, t52, t53, t54, m => by
    have h : F.tandemlaw05_Alike.l4 C k n = F.tandemlaw05_Alike.g4 C k n := by funext t0 t1 t5 t51 t52 t53 t54 m; exact F.tandemlaw05_Alike.l4_eqR C k n t0 t1 t5 t51 t52 t53 t54 m
    rw [F.tandemlaw05_Alike.l4_succ, h]
    rfl
noncomputable def F.tandemlaw05_Alike.j49 (C : CallT) (k : Nat) (m0 : Mem) (m : Mem) : Option (Out × Mem) :=
  (retV true m0 (V.bool true) m)
noncomputable def F.tandemlaw05_Alike.j18 (C : CallT) (k : Nat) (m0 : Mem) (t0 t1 t51 t52 t53 t54 : V) (m : Mem) : Option (Out × Mem) :=
  ((F.tandemlaw05_Alike.l4 C k k t0 t1 (V.int .i64 0) t51 t52 t53 t54 m).bind fun r46 => exK r46.1 (F.tandemlaw05_Alike.j49 C k m0 r46.2.mem) (fun i47 => (if i47 = 0 then (F.tandemlaw05_Alike.j49 C k m0 r46.2.mem) else none)) (retV true m0 (r46.2.env.getD 4 .any) r46.2.mem) (fun q48 => none))
noncomputable def F.tandemlaw05_Alike.j18R (C : CallT) (k : Nat) (m0 : Mem) (t0 t1 t51 t52 t53 t54 : V) (m : Mem) : Option (Out × Mem) :=
  ((F.tandemlaw05_Alike.g4 C k k t0 t1 (V.int .i64 0) t51 t52 t53 t54 m).bind fun r46 => exK r46.1 (F.tandemlaw05_Alike.j49 C k m0 r46.2.mem) (fun i47 => (if i47 = 0 then (F.tandemlaw05_Alike.j49 C k m0 r46.2.mem) else none)) (retV true m0 (r46.2.env.getD 4 .any) r46.2.mem) (fun q48 => none))
theorem F.tandemlaw05_Alike.j18_eqR (C : CallT) (k : Nat) (m0 : Mem) (t0 t1 t51 t52 t53 t54 : V) (m : Mem) : F.tandemlaw05_Alike.j18 C k m0 t0 t1 t51 t52 t53 t54 m = F.tandemlaw05_Alike.j18R C k m0 t0 t1 t51 t52 t53 t54 m := by
  unfold F.tandemlaw05_Alike.j18 F.tandemlaw05_Alike.j18R
  simp only [F.tandemlaw05_Alike.l4_eqR]
noncomputable def F.tandemlaw05_Alike.j17 (C : CallT) (k : Nat) (m0 : Mem) (t0 t1 t25 t51 t52 t53 t54 : V) (m : Mem) : Option (Out × Mem) :=
  (condV t25 (retV true m0 (V.bool false) m) (F.tandemlaw05_Alike.j18 C k m0 t0 t1 t51 t52 t53 t54 m))
noncomputable def F.tandemlaw05_Alike.j17R (C : CallT) (k : Nat) (m0 : Mem) (t0 t1 t25 t51 t52 t53 t54 : V) (m : Mem) : Option (Out × Mem) :=
  (condV t25 (retV true m0 (V.bool false) m) (F.tandemlaw05_Alike.j18R C k m0 t0 t1 t51 t52 t53 t54 m))
theorem F.tandemlaw05_Alike.j17_eqR (C : CallT) (k : Nat) (m0 : Mem) (t0 t1 t25 t51 t52 t53 t54 : V) (m : Mem) : F.tandemlaw05_Alike.j17 C k m0 t0 t1 t25 t51 t52 t53 t54 m = F.tandemlaw05_Alike.j17R C k m0 t0 t1 t25 t51 t52 t53 t54 m := by
  unfold F.tandemlaw05_Alike.j17 F.tandemlaw05_Alike.j17R
  simp only [F.tandemlaw05_Alike.l4_eqR, F.tandemlaw05_Alike.j18_eqR]
noncomputable def F.tandemlaw05_Alike.L0 (C : CallT) (k : Nat) (a0 a1 : V) (m0 : Mem) : Option (Out × Mem) :=
  (callK (C (.fn id_disk_Disk_Ops) [a0] (⟨m0.objs, m0.objs.length⟩ : Mem)) (fun v1 m2 => ((nilChkV a1).bind fun v5 => ((xFA 4 v5).bind fun v6 => ((xLoad false 1 m2 v6).bind fun v7 => (if (sameO (xLoad false 1 (⟨m0.objs, m0.objs.length⟩ : Mem) v6) v7 && true) = true then ((binOpV PP .neq 3 v1 v7).bind fun v8 => (gate2 v8 false (callK (C (.fn id_disk_Disk_Up) [a0] m2) (fun v9 m10 => ((nilChkV a1).bind fun v13 => ((xFA 2 v13).bind fun v14 => ((xLoad false 1 m10 v14).bind fun v15 => (if (sameO (xLoad false 1 m2 v14) v15 && true) = true then ((binOpV PP .eql 4 v9 v15).bind fun v16 => (F.tandemlaw05_Alike.j17 C k m0 a0 a1 v16 V.undef V.undef V.undef V.undef m10)) else none))))) (fun q11 m12 => none)) (F.tandemlaw05_Alike.j17 C k m0 a0 a1 (V.bool true) V.undef V.undef V.undef V.undef m2))) else none))))) (fun q3 m4 => none))
noncomputable def F.tandemlaw05_Alike (C : CallT) (k : Nat) (a0 a1 : V) (m0 : Mem) : Option (Out × Mem) :=
  (callK (C (.fn id_disk_Disk_Ops) [a0] (⟨m0.objs, m0.objs.length⟩ : Mem)) (fun v1 m2 => ((nilChkV a1).bind fun v5 => ((xFA 4 v5).bind fun v6 => ((xLoad false 1 m2 v6).bind fun v7 => (if (sameO (xLoad false 1 (⟨m0.objs, m0.objs.length⟩ : Mem) v6) v7 && true) = true then ((binOpV PP .neq 3 v1 v7).bind fun v8 => (gate2 v8 false (callK (C (.fn id_disk_Disk_Up) [a0] m2) (fun v9 m10 => ((nilChkV a1).bind fun v13 => ((xFA 2 v13).bind fun v14 => ((xLoad false 1 m10 v14).bind fun v15 => (if (sameO (xLoad false 1 m2 v14) v15 && true) = true then ((binOpV PP .eql 4 v9 v15).bind fun v16 => (F.tandemlaw05_Alike.j17R C k m0 a0 a1 v16 V.undef V.undef V.undef V.undef m10)) else none))))) (fun q11 m12 => none)) (F.tandemlaw05_Alike.j17R C k m0 a0 a1 (V.bool true) V.undef V.undef V.undef V.undef m2))) else none))))) (fun q3 m4 => none))
theorem F.tandemlaw05_Alike.L0_eqR (C : CallT) (k : Nat) (a0 a1 : V) (m0 : Mem) : F.tandemlaw05_Alike.L0 C k a0 a1 m0 = F.tandemlaw05_Alike C k a0 a1 m0 := by
  unfold F.tandemlaw05_Alike.L0 F.tandemlaw05_Alike
  simp only [F.tandemlaw05_Alike.l4_eqR, F.tandemlaw05_Alike.j18_eqR, F.tandemlaw05_Alike.j17_eqR]
theorem F.tandemlaw05_Alike.of (C : CallT) (k : Nat) (a0 a1 : V) (m0 : Mem) : fnK PP cfgB C k id_tandemlaw05_Alike Tryd.f34 F.tandemlaw05_Alike_body [a0, a1] m0 = F.tandemlaw05_Alike C k a0 a1 m0 :=
  (show _ = F.tandemlaw05_Alike.L0 C k a0 a1 m0 by kernel_rfl).trans (F.tandemlaw05_Alike.L0_eqR _ _ _ _ _)
theorem F.tandemlaw05_Alike.eqG (cfg : Cfg) (hp : cfg.plain = cfgB) (hs : cfg.sum id_tandemlaw05_Alike = none) (k : Nat) (a0 a1 : V) (m0 : Mem) : icall PP cfg (k + 1) (.fn id_tandemlaw05_Alike) [a0, a1] m0 = F.tandemlaw05_Alike (icall PP cfg k) k a0 a1 m0 :=
  (icall_eq PP cfg hp k id_tandemlaw05_Alike Tryd.f34 F.tandemlaw05_Alike_body [a0, a1] m0 hs (by kernel_rfl) (by kernel_rfl)).trans (F.tandemlaw05_Alike.of _ _ _ _ _)
noncomputable def F.journal_may_body : Code := (Tryd.f35.body).getD .skip
noncomputable def F.journal_may (C : CallT) (k : Nat) (a0 : V) (m0 : Mem) : Option (Out × Mem) :=
  ((xBox false (⟨m0.objs, m0.objs.length⟩ : Mem) a0).bind fun r1 => ((xFA 0 r1.1).bind fun v2 => ((xLoad false 1 r1.2 v2).bind fun v3 => ((binOpV PP .geq 3 v3 (V.int .i64 0)).bind fun v4 => (gate2 v4 true ((xFA 0 r1.1).bind fun v5 => ((xLoad false 1 r1.2 v5).bind fun v6 => ((binOpV PP .lss 3 v6 (V.int .i64 64)).bind fun v7 => (gate2 v7 true ((xFA 1 r1.1).bind fun v8 => ((xLoad false 1 r1.2 v8).bind fun v9 => ((binOpV PP .geq 3 v9 (V.int .i64 1)).bind fun v10 => (gate2 v10 true ((xFA 1 r1.1).bind fun v11 => ((xLoad false 1 r1.2 v11).bind fun v12 => ((binOpV PP .leq 3 v12 (V.int .i64 1099511627776)).bind fun v13 => (gate2 v13 true ((xFA 2 r1.1).bind fun v14 => ((xLoad false 1 r1.2 v14).bind fun v15 => ((xLenL v15).bind fun v16 => ((binOpV PP .eql 3 v16 (V.int .i64 32)).bind fun v17 => (retV true m0 v17 r1.2))))) (retV true m0 (V.bool false) r1.2))))) (retV true m0 (V.bool false) r1.2))))) (retV true m0 (V.bool false) r1.2))))) (retV true m0 (V.bool false) r1.2))))))
theorem F.journal_may.of (C : CallT) (k : Nat) (a0 : V) (m0 : Mem) : fnK PP cfgB C k id_journal_may Tryd.f35 F.journal_may_body [a0] m0 = F.journal_may C k a0 m0 :=
  by kernel_rfl
theorem F.journal_may.eqG (cfg : Cfg) (hp : cfg.plain = cfgB) (hs : cfg.sum id_journal_may = none) (k : Nat) (a0 : V) (m0 : Mem) : icall PP cfg (k + 1) (.fn id_journal_may) [a0] m0 = F.journal_may (icall PP cfg k) k a0 m0 :=
  (icall_eq PP cfg hp k id_journal_may Tryd.f35 F.journal_may_body [a0] m0 hs (by kernel_rfl) (by kernel_rfl)).trans (F.journal_may.of _ _ _ _)
noncomputable def F.fixed_Put_body : Code := (Tryd.f36.body).getD .skip
noncomputable def F.fixed_Put.j9 (C : CallT) (k : Nat) (m0 : Mem) (t0 t1 : V) (m : Mem) : Option (Out × Mem) :=
  ((xConvI .u64 t0).bind fun v10 => (callK (C (.fn id_fixed_lay) [v10, t1] m) (fun v11 m12 => (retV true m0 (V.tuple [v11, (V.int .i64 0)]) m12)) (fun q13 m14 => none)))
noncomputable def F.fixed_Put.j8 (C : CallT) (k : Nat) (m0 : Mem) (t0 t1 t13 : V) (m : Mem) : Option (Out × Mem) :=
  (condV t13 (retV true m0 (V.tuple [V.nils, (V.int .i64 5)]) m) (F.fixed_Put.j9 C k m0 t0 t1 m))
noncomputable def F.fixed_Put.j3 (C : CallT) (k : Nat) (m0 : Mem) (t0 t1 t6 : V) (m : Mem) : Option (Out × Mem) :=
  (condV t6 (retV true m0 (V.tuple [V.nils, (V.int .i64 2)]) m) ((binOpV PP .lss 3 t0 (V.int .i64 0)).bind fun v4 => (gate2 v4 false ((binOpV PP .mul 3 (V.int .i64 8) t1).bind fun v5 => ((binOpV PP .shr 3 t0 v5).bind fun v6 => ((binOpV PP .neq 3 v6 (V.int .i64 0)).bind fun v7 => (F.fixed_Put.j8 C k m0 t0 t1 v7 m)))) (F.fixed_Put.j8 C k m0 t0 t1 (V.bool true) m))))
noncomputable def F.fixed_Put (C : CallT) (k : Nat) (a0 a1 : V) (m0 : Mem) : Option (Out × Mem) :=
  ((binOpV PP .lss 3 a1 (V.int .i64 1)).bind fun v1 => (gate2 v1 false ((binOpV PP .gtr 3 a1 (V.int .i64 7)).bind fun v2 => (F.fixed_Put.j3 C k m0 a0 a1 v2 (⟨m0.objs, m0.objs.length⟩ : Mem))) (F.fixed_Put.j3 C k m0 a0 a1 (V.bool true) (⟨m0.objs, m0.objs.length⟩ : Mem))))
theorem F.fixed_Put.of (C : CallT) (k : Nat) (a0 a1 : V) (m0 : Mem) : fnK PP cfgB C k id_fixed_Put Tryd.f36 F.fixed_Put_body [a0, a1] m0 = F.fixed_Put C k a0 a1 m0 :=
  by kernel_rfl
theorem F.fixed_Put.eqG (cfg : Cfg) (hp : cfg.plain = cfgB) (hs : cfg.sum id_fixed_Put = none) (k : Nat) (a0 a1 : V) (m0 : Mem) : icall PP cfg (k + 1) (.fn id_fixed_Put) [a0, a1] m0 = F.fixed_Put (icall PP cfg k) k a0 a1 m0 :=
  (icall_eq PP cfg hp k id_fixed_Put Tryd.f36 F.fixed_Put_body [a0, a1] m0 hs (by kernel_rfl) (by kernel_rfl)).trans (F.fixed_Put.of _ _ _ _ _)
noncomputable def F.fixed_Long_body : Code := (Tryd.f37.body).getD .skip
noncomputable def F.fixed_Long (C : CallT) (k : Nat) (a0 : V) (m0 : Mem) : Option (Out × Mem) :=
  (callK (C (.fn id_fixed_lay) [a0, (V.int .i64 8)] (⟨m0.objs, m0.objs.length⟩ : Mem)) (fun v1 m2 => (retV true m0 v1 m2)) (fun q3 m4 => none))
theorem F.fixed_Long.of (C : CallT) (k : Nat) (a0 : V) (m0 : Mem) : fnK PP cfgB C k id_fixed_Long Tryd.f37 F.fixed_Long_body [a0] m0 = F.fixed_Long C k a0 m0 :=
  by kernel_rfl
theorem F.fixed_Long.eqG (cfg : Cfg) (hp : cfg.plain = cfgB) (hs : cfg.sum id_fixed_Long = none) (k : Nat) (a0 : V) (m0 : Mem) : icall PP cfg (k + 1) (.fn id_fixed_Long) [a0] m0 = F.fixed_Long (icall PP cfg k) k a0 m0 :=
  (icall_eq PP cfg hp k id_fixed_Long Tryd.f37 F.fixed_Long_body [a0] m0 hs (by kernel_rfl) (by kernel_rfl)).trans (F.fixed_Long.of _ _ _ _)
noncomputable def F.fixed_Word_body : Code := (Tryd.f38.body).getD .skip
noncomputable def F.fixed_Word (C : CallT) (k : Nat) (a0 : V) (m0 : Mem) : Option (Out × Mem) :=
  ((xConvI .u64 a0).bind fun v1 => (callK (C (.fn id_fixed_lay) [v1, (V.int .i64 4)] (⟨m0.objs, m0.objs.length⟩ : Mem)) (fun v2 m3 => (retV true m0 v2 m3)) (fun q4 m5 => none)))
theorem F.fixed_Word.of (C : CallT) (k : Nat) (a0 : V) (m0 : Mem) : fnK PP cfgB C k id_fixed_Word Tryd.f38 F.fixed_Word_body [a0] m0 = F.fixed_Word C k a0 m0 :=
  by kernel_rfl
theorem F.fixed_Word.eqG (cfg : Cfg) (hp : cfg.plain = cfgB) (hs : cfg.sum id_fixed_Word = none) (k : Nat) (a0 : V) (m0 : Mem) : icall PP cfg (k + 1) (.fn id_fixed_Word) [a0] m0 = F.fixed_Word (icall PP cfg k) k a0 m0 :=
  (icall_eq PP cfg hp k id_fixed_Word Tryd.f38 F.fixed_Word_body [a0] m0 hs (by kernel_rfl) (by kernel_rfl)).trans (F.fixed_Word.of _ _ _ _)
noncomputable def F.crc_Sum_body : Code := (Tryd.f39.body).getD .skip
noncomputable def F.crc_Sum (C : CallT) (k : Nat) (a0 : V) (m0 : Mem) : Option (Out × Mem) :=
  (callK (C (.fn id_crc_More) [(V.int .u32 0), a0] (⟨m0.objs, m0.objs.length⟩ : Mem)) (fun v1 m2 => (retV true m0 v1 m2)) (fun q3 m4 => none))
theorem F.crc_Sum.of (C : CallT) (k : Nat) (a0 : V) (m0 : Mem) : fnK PP cfgB C k id_crc_Sum Tryd.f39 F.crc_Sum_body [a0] m0 = F.crc_Sum C k a0 m0 :=
  by kernel_rfl
theorem F.crc_Sum.eqG (cfg : Cfg) (hp : cfg.plain = cfgB) (hs : cfg.sum id_crc_Sum = none) (k : Nat) (a0 : V) (m0 : Mem) : icall PP cfg (k + 1) (.fn id_crc_Sum) [a0] m0 = F.crc_Sum (icall PP cfg k) k a0 m0 :=
  (icall_eq PP cfg hp k id_crc_Sum Tryd.f39 F.crc_Sum_body [a0] m0 hs (by kernel_rfl) (by kernel_rfl)).trans (F.crc_Sum.of _ _ _ _)
noncomputable def F.tandemref03_Put_body : Code := (Tryd.f40.body).getD .skip
noncomputable def F.tandemref03_Put.j10 (C : CallT) (k : Nat) (m0 : Mem) (t0 t1 : V) (m : Mem) : Option (Out × Mem) :=
  ((xConvI .u64 t0).bind fun v11 => (callK (C (.fn id_tandemref03_bytes) [v11, t1] m) (fun v12 m13 => (retV true m0 (V.tuple [v12, (V.int .i64 0)]) m13)) (fun q14 m15 => none)))
noncomputable def F.tandemref03_Put.j9 (C : CallT) (k : Nat) (m0 : Mem) (t0 t1 t20 : V) (m : Mem) : Option (Out × Mem) :=
  (condV t20 (retV true m0 (V.tuple [V.nils, (V.int .i64 5)]) m) (F.tandemref03_Put.j10 C k m0 t0 t1 m))
noncomputable def F.tandemref03_Put.j4 (C : CallT) (k : Nat) (m0 : Mem) (t0 t1 : V) (m : Mem) : Option (Out × Mem) :=
  ((binOpV PP .lss 3 t0 (V.int .i64 0)).bind fun v5 => (gate2 v5 false ((binOpV PP .mul 3 (V.int .i64 8) t1).bind fun v6 => ((binOpV PP .shr 3 t0 v6).bind fun v7 => ((binOpV PP .neq 3 v7 (V.int .i64 0)).bind fun v8 => (F.tandemref03_Put.j9 C k m0 t0 t1 v8 m)))) (F.tandemref03_Put.j9 C k m0 t0 t1 (V.bool true) m)))
noncomputable def F.tandemref03_Put.j3 (C : CallT) (k : Nat) (m0 : Mem) (t0 t1 t11 : V) (m : Mem) : Option (Out × Mem) :=
  (condV t11 (retV true m0 (V.tuple [V.nils, (V.int .i64 2)]) m) (F.tandemref03_Put.j4 C k m0 t0 t1 m))
noncomputable def F.tandemref03_Put (C : CallT) (k : Nat) (a0 a1 : V) (m0 : Mem) : Option (Out × Mem) :=
  ((binOpV PP .lss 3 a1 (V.int .i64 1)).bind fun v1 => (gate2 v1 false ((binOpV PP .gtr 3 a1 (V.int .i64 7)).bind fun v2 => (F.tandemref03_Put.j3 C k m0 a0 a1 v2 (⟨m0.objs, m0.objs.length⟩ : Mem))) (F.tandemref03_Put.j3 C k m0 a0 a1 (V.bool true) (⟨m0.objs, m0.objs.length⟩ : Mem))))
theorem F.tandemref03_Put.of (C : CallT) (k : Nat) (a0 a1 : V) (m0 : Mem) : fnK PP cfgB C k id_tandemref03_Put Tryd.f40 F.tandemref03_Put_body [a0, a1] m0 = F.tandemref03_Put C k a0 a1 m0 :=
  by kernel_rfl
theorem F.tandemref03_Put.eqG (cfg : Cfg) (hp : cfg.plain = cfgB) (hs : cfg.sum id_tandemref03_Put = none) (k : Nat) (a0 a1 : V) (m0 : Mem) : icall PP cfg (k + 1) (.fn id_tandemref03_Put) [a0, a1] m0 = F.tandemref03_Put (icall PP cfg k) k a0 a1 m0 :=
  (icall_eq PP cfg hp k id_tandemref03_Put Tryd.f40 F.tandemref03_Put_body [a0, a1] m0 hs (by kernel_rfl) (by kernel_rfl)).trans (F.tandemref03_Put.of _ _ _ _ _)
noncomputable def F.tandemref03_Long_body : Code := (Tryd.f41.body).getD .skip
noncomputable def F.tandemref03_Long (C : CallT) (k : Nat) (a0 : V) (m0 : Mem) : Option (Out × Mem) :=
  (callK (C (.fn id_tandemref03_bytes) [a0, (V.int .i64 8)] (⟨m0.objs, m0.objs.length⟩ : Mem)) (fun v1 m2 => (retV true m0 v1 m2)) (fun q3 m4 => none))
theorem F.tandemref03_Long.of (C : CallT) (k : Nat) (a0 : V) (m0 : Mem) : fnK PP cfgB C k id_tandemref03_Long Tryd.f41 F.tandemref03_Long_body [a0] m0 = F.tandemref03_Long C k a0 m0 :=
  by kernel_rfl
theorem F.tandemref03_Long.eqG (cfg : Cfg) (hp : cfg.plain = cfgB) (hs : cfg.sum id_tandemref03_Long = none) (k : Nat) (a0 : V) (m0 : Mem) : icall PP cfg (k + 1) (.fn id_tandemref03_Long) [a0] m0 = F.tandemref03_Long (icall PP cfg k) k a0 m0 :=
  (icall_eq PP cfg hp k id_tandemref03_Long Tryd.f41 F.tandemref03_Long_body [a0] m0 hs (by kernel_rfl) (by kernel_rfl)).trans (F.tandemref03_Long.of _ _ _ _)
noncomputable def F.tandemref05_Sealed_body : Code := (Tryd.f42.body).getD .skip
noncomputable def F.tandemref05_Sealed (C : CallT) (k : Nat) (a0 : V) (m0 : Mem) : Option (Out × Mem) :=
  ((xMkSl 1 1 true [(V.u8 0)] [0] (⟨m0.objs, m0.objs.length⟩ : Mem) (V.int .i64 60) (V.int .i64 60)).bind fun r1 => ((xCopy 1 r1.2 r1.1 a0).bind fun r2 => (callK (C (.fn id_tandemref01_Sum) [r1.1] r2.2) (fun v3 m4 => (callK (C (.fn id_tandemref03_Word) [v3] m4) (fun v7 m8 => ((xApp 1 1 true m8 r1.1 v7).bind fun r11 => (retV true m0 r11.1 r11.2))) (fun q9 m10 => none))) (fun q5 m6 => none))))
theorem F.tandemref05_Sealed.of (C : CallT) (k : Nat) (a0 : V) (m0 : Mem) : fnK PP cfgB C k id_tandemref05_Sealed Tryd.f42 F.tandemref05_Sealed_body [a0] m0 = F.tandemref05_Sealed C k a0 m0 :=
  by kernel_rfl
theorem F.tandemref05_Sealed.eqG (cfg : Cfg) (hp : cfg.plain = cfgB) (hs : cfg.sum id_tandemref05_Sealed = none) (k : Nat) (a0 : V) (m0 : Mem) : icall PP cfg (k + 1) (.fn id_tandemref05_Sealed) [a0] m0 = F.tandemref05_Sealed (icall PP cfg k) k a0 m0 :=
  (icall_eq PP cfg hp k id_tandemref05_Sealed Tryd.f42 F.tandemref05_Sealed_body [a0] m0 hs (by kernel_rfl) (by kernel_rfl)).trans (F.tandemref05_Sealed.of _ _ _ _)
noncomputable def F.fixed_GetLong_body : Code := (Tryd.f43.body).getD .skip
noncomputable def F.fixed_GetLong (C : CallT) (k : Nat) (a0 a1 : V) (m0 : Mem) : Option (Out × Mem) :=
  ((xNew false [(V.int .i64 0),(V.int .i64 0)] (⟨m0.objs, m0.objs.length⟩ : Mem)).bind fun r1 => (callK (C (.fn id_fixed_get) [a0, a1, (V.int .i64 8)] r1.2) (fun v2 m3 => ((extractV v2 0).bind fun v6 => ((extractV v2 1).bind fun v7 => ((extractV v2 2).bind fun v8 => ((xStore 2 m3 r1.1 v8).bind fun m9 => ((loadV PP m9 86 r1.1).bind fun v10 => (retV true m0 (V.tuple [v6, v7, v10]) m9))))))) (fun q4 m5 => none)))
theorem F.fixed_GetLong.of (C : CallT) (k : Nat) (a0 a1 : V) (m0 : Mem) : fnK PP cfgB C k id_fixed_GetLong Tryd.f43 F.fixed_GetLong_body [a0, a1] m0 = F.fixed_GetLong C k a0 a1 m0 :=
  by kernel_rfl
theorem F.fixed_GetLong.eqG (cfg : Cfg) (hp : cfg.plain = cfgB) (hs : cfg.sum id_fixed_GetLong = none) (k : Nat) (a0 a1 : V) (m0 : Mem) : icall PP cfg (k + 1) (.fn id_fixed_GetLong) [a0, a1] m0 = F.fixed_GetLong (icall PP cfg k) k a0 a1 m0 :=
  (icall_eq PP cfg hp k id_fixed_GetLong Tryd.f43 F.fixed_GetLong_body [a0, a1] m0 hs (by kernel_rfl) (by kernel_rfl)).trans (F.fixed_GetLong.of _ _ _ _ _)
noncomputable def F.fixed_Get_body : Code := (Tryd.f44.body).getD .skip
noncomputable def F.fixed_Get.j8 (C : CallT) (k : Nat) (m0 : Mem) (t0 t1 t2 t8 : V) (m : Mem) : Option (Out × Mem) :=
  (callK (C (.fn id_fixed_get) [t0, t1, t2] m) (fun v9 m10 => ((extractV v9 0).bind fun v13 => ((extractV v9 1).bind fun v14 => ((extractV v9 2).bind fun v15 => ((xNew false [(V.int .i64 0),(V.int .i64 0)] m10).bind fun r16 => ((xStore 2 r16.2 r16.1 v15).bind fun m17 => ((xConvI .i64 v13).bind fun v18 => ((xLoad true 2 m17 r16.1).bind fun v19 => ((xStore 2 m17 t8 v19).bind fun m20 => ((loadV PP m20 86 t8).bind fun v21 => (retV true m0 (V.tuple [v18, v14, v21]) m20))))))))))) (fun q11 m12 => none))
noncomputable def F.fixed_Get.j4 (C : CallT) (k : Nat) (m0 : Mem) (t0 t1 t2 t8 t17 : V) (m : Mem) : Option (Out × Mem) :=
  (condV t17 ((xBuildS [(0, 1), (1, 1)] [(V.int .i64 0),(V.int .i64 0)] [(0, (V.int .i64 2))]).bind fun v5 => ((xStore 2 m t8 v5).bind fun m6 => ((loadV PP m6 86 t8).bind fun v7 => (retV true m0 (V.tuple [(V.int .i64 0), (V.int .i64 0), v7]) m6)))) (F.fixed_Get.j8 C k m0 t0 t1 t2 t8 m))
noncomputable def F.fixed_Get (C : CallT) (k : Nat) (a0 a1 a2 : V) (m0 : Mem) : Option (Out × Mem) :=
  ((xNew false [(V.int .i64 0),(V.int .i64 0)] (⟨m0.objs, m0.objs.length⟩ : Mem)).bind fun r1 => ((binOpV PP .lss 3 a2 (V.int .i64 1)).bind fun v2 => (gate2 v2 false ((binOpV PP .gtr 3 a2 (V.int .i64 7)).bind fun v3 => (F.fixed_Get.j4 C k m0 a0 a1 a2 r1.1 v3 r1.2)) (F.fixed_Get.j4 C k m0 a0 a1 a2 r1.1 (V.bool true) r1.2))))
theorem F.fixed_Get.of (C : CallT) (k : Nat) (a0 a1 a2 : V) (m0 : Mem) : fnK PP cfgB C k id_fixed_Get Tryd.f44 F.fixed_Get_body [a0, a1, a2] m0 = F.fixed_Get C k a0 a1 a2 m0 :=
  by kernel_rfl
theorem F.fixed_Get.eqG (cfg : Cfg) (hp : cfg.plain = cfgB) (hs : cfg.sum id_fixed_Get = none) (k : Nat) (a0 a1 a2 : V) (m0 : Mem) : icall PP cfg (k + 1) (.fn id_fixed_Get) [a0, a1, a2] m0 = F.fixed_Get (icall PP cfg k) k a0 a1 a2 m0 :=
  (icall_eq PP cfg hp k id_fixed_Get Tryd.f44 F.fixed_Get_body [a0, a1, a2] m0 hs (by kernel_rfl) (by kernel_rfl)).trans (F.fixed_Get.of _ _ _ _ _ _)
noncomputable def F.bytes_Equal_body : Code := (Tryd.f45.body).getD .skip
noncomputable def F.bytes_Equal (C : CallT) (k : Nat) (a0 a1 : V) (m0 : Mem) : Option (Out × Mem) :=
  ((xStr (⟨m0.objs, m0.objs.length⟩ : Mem) a0).bind fun v1 => ((xStr (⟨m0.objs, m0.objs.length⟩ : Mem) a1).bind fun v2 => ((binOpV PP .eql 9 v1 v2).bind fun v3 => (retV true m0 v3 (⟨m0.objs, m0.objs.length⟩ : Mem)))))
theorem F.bytes_Equal.of (C : CallT) (k : Nat) (a0 a1 : V) (m0 : Mem) : fnK PP cfgB C k id_bytes_Equal Tryd.f45 F.bytes_Equal_body [a0, a1] m0 = F.bytes_Equal C k a0 a1 m0 :=
  by kernel_rfl
theorem F.bytes_Equal.eqG (cfg : Cfg) (hp : cfg.plain = cfgB) (hs : cfg.sum id_bytes_Equal = none) (k : Nat) (a0 a1 : V) (m0 : Mem) : icall PP cfg (k + 1) (.fn id_bytes_Equal) [a0, a1] m0 = F.bytes_Equal (icall PP cfg k) k a0 a1 m0 :=
  (icall_eq PP cfg hp k id_bytes_Equal Tryd.f45 F.bytes_Equal_body [a0, a1] m0 hs (by kernel_rfl) (by kernel_rfl)).trans (F.bytes_Equal.of _ _ _ _ _)
noncomputable def F.tandemref03_GetLong_body : Code := (Tryd.f46.body).getD .skip
noncomputable def F.tandemref03_GetLong (C : CallT) (k : Nat) (a0 a1 : V) (m0 : Mem) : Option (Out × Mem) :=
  ((xNew false [(V.int .i64 0),(V.int .i64 0)] (⟨m0.objs, m0.objs.length⟩ : Mem)).bind fun r1 => (callK (C (.fn id_tandemref03_get) [a0, a1, (V.int .i64 8)] r1.2) (fun v2 m3 => ((extractV v2 0).bind fun v6 => ((extractV v2 1).bind fun v7 => ((extractV v2 2).bind fun v8 => ((xStore 2 m3 r1.1 v8).bind fun m9 => ((loadV PP m9 86 r1.1).bind fun v10 => (retV true m0 (V.tuple [v6, v7, v10]) m9))))))) (fun q4 m5 => none)))
theorem F.tandemref03_GetLong.of (C : CallT) (k : Nat) (a0 a1 : V) (m0 : Mem) : fnK PP cfgB C k id_tandemref03_GetLong Tryd.f46 F.tandemref03_GetLong_body [a0, a1] m0 = F.tandemref03_GetLong C k a0 a1 m0 :=
  by kernel_rfl
theorem F.tandemref03_GetLong.eqG (cfg : Cfg) (hp : cfg.plain = cfgB) (hs : cfg.sum id_tandemref03_GetLong = none) (k : Nat) (a0 a1 : V) (m0 : Mem) : icall PP cfg (k + 1) (.fn id_tandemref03_GetLong) [a0, a1] m0 = F.tandemref03_GetLong (icall PP cfg k) k a0 a1 m0 :=
  (icall_eq PP cfg hp k id_tandemref03_GetLong Tryd.f46 F.tandemref03_GetLong_body [a0, a1] m0 hs (by kernel_rfl) (by kernel_rfl)).trans (F.tandemref03_GetLong.of _ _ _ _ _)
noncomputable def F.tandemref03_Get_body : Code := (Tryd.f47.body).getD .skip
noncomputable def F.tandemref03_Get.j8 (C : CallT) (k : Nat) (m0 : Mem) (t0 t1 t2 t8 : V) (m : Mem) : Option (Out × Mem) :=
  (callK (C (.fn id_tandemref03_get) [t0, t1, t2] m) (fun v9 m10 => ((extractV v9 0).bind fun v13 => ((extractV v9 1).bind fun v14 => ((extractV v9 2).bind fun v15 => ((xNew false [(V.int .i64 0),(V.int .i64 0)] m10).bind fun r16 => ((xStore 2 r16.2 r16.1 v15).bind fun m17 => ((xConvI .i64 v13).bind fun v18 => ((xLoad true 2 m17 r16.1).bind fun v19 => ((xStore 2 m17 t8 v19).bind fun m20 => ((loadV PP m20 86 t8).bind fun v21 => (retV true m0 (V.tuple [v18, v14, v21]) m20))))))))))) (fun q11 m12 => none))
noncomputable def F.tandemref03_Get.j4 (C : CallT) (k : Nat) (m0 : Mem) (t0 t1 t2 t8 t17 : V) (m : Mem) : Option (Out × Mem) :=
  (condV t17 ((xBuildS [(0, 1), (1, 1)] [(V.int .i64 0),(V.int .i64 0)] [(0, (V.int .i64 2))]).bind fun v5 => ((xStore 2 m t8 v5).bind fun m6 => ((loadV PP m6 86 t8).bind fun v7 => (retV true m0 (V.tuple [(V.int .i64 0), (V.int .i64 0), v7]) m6)))) (F.tandemref03_Get.j8 C k m0 t0 t1 t2 t8 m))
noncomputable def F.tandemref03_Get (C : CallT) (k : Nat) (a0 a1 a2 : V) (m0 : Mem) : Option (Out × Mem) :=
  ((xNew false [(V.int .i64 0),(V.int .i64 0)] (⟨m0.objs, m0.objs.length⟩ : Mem)).bind fun r1 => ((binOpV PP .lss 3 a2 (V.int .i64 1)).bind fun v2 => (gate2 v2 false ((binOpV PP .gtr 3 a2 (V.int .i64 7)).bind fun v3 => (F.tandemref03_Get.j4 C k m0 a0 a1 a2 r1.1 v3 r1.2)) (F.tandemref03_Get.j4 C k m0 a0 a1 a2 r1.1 (V.bool true) r1.2))))
theorem F.tandemref03_Get.of (C : CallT) (k : Nat) (a0 a1 a2 : V) (m0 : Mem) : fnK PP cfgB C k id_tandemref03_Get Tryd.f47 F.tandemref03_Get_body [a0, a1, a2] m0 = F.tandemref03_Get C k a0 a1 a2 m0 :=
  by kernel_rfl
theorem F.tandemref03_Get.eqG (cfg : Cfg) (hp : cfg.plain = cfgB) (hs : cfg.sum id_tandemref03_Get = none) (k : Nat) (a0 a1 a2 : V) (m0 : Mem) : icall PP cfg (k + 1) (.fn id_tandemref03_Get) [a0, a1, a2] m0 = F.tandemref03_Get (icall PP cfg k) k a0 a1 a2 m0 :=
  (icall_eq PP cfg hp k id_tandemref03_Get Tryd.f47 F.tandemref03_Get_body [a0, a1, a2] m0 hs (by kernel_rfl) (by kernel_rfl)).trans (F.tandemref03_Get.of _ _ _ _ _ _)
noncomputable def F.disk_Disk_Read_body : Code := (Tryd.f48.body).getD .skip
noncomputable def F.disk_Disk_Read.j29 (C : CallT) (k : Nat) (m0 : Mem) (t6 : V) (m : Mem) : Option (Out × Mem) :=
  ((xBuildSl 1 true [(V.u8 0)] m 0 []).bind fun r30 => ((xSlA r30.2 64 1 t6 none none none).bind fun v31 => ((xApp 1 1 true r30.2 r30.1 v31).bind fun r32 => (retV true m0 (V.tuple [r32.1, (V.int .i64 0)]) r32.2))))
noncomputable def F.disk_Disk_Read.j13 (C : CallT) (k : Nat) (m0 : Mem) (t0 t1 : V) (m : Mem) : Option (Out × Mem) :=
  ((nilChkV t0).bind fun v14 => ((xFA 1 v14).bind fun v15 => ((xLoad false 1 m v15).bind fun v16 => ((xLook (.int .i64) (V.agg [(V.u8 0),(V.u8 0),(V.u8 0),(V.u8 0),(V.u8 0),(V.u8 0),(V.u8 0),(V.u8 0),(V.u8 0),(V.u8 0),(V.u8 0),(V.u8 0),(V.u8 0),(V.u8 0),(V.u8 0),(V.u8 0),(V.u8 0),(V.u8 0),(V.u8 0),(V.u8 0),(V.u8 0),(V.u8 0),(V.u8 0),(V.u8 0),(V.u8 0),(V.u8 0),(V.u8 0),(V.u8 0),(V.u8 0),(V.u8 0),(V.u8 0),(V.u8 0),(V.u8 0),(V.u8 0),(V.u8 0),(V.u8 0),(V.u8 0),(V.u8 0),(V.u8 0),(V.u8 0),(V.u8 0),(V.u8 0),(V.u8 0),(V.u8 0),(V.u8 0),(V.u8 0),(V.u8 0),(V.u8 0),(V.u8 0),(V.u8 0),(V.u8 0),(V.u8 0),(V.u8 0),(V.u8 0),(V.u8 0),(V.u8 0),(V.u8 0),(V.u8 0),(V.u8 0),(V.u8 0),(V.u8 0),(V.u8 0),(V.u8 0),(V.u8 0)]) m v16 t1 true).bind fun v17 => ((extractV v17 0).bind fun v18 => ((extractV v17 1).bind fun v19 => ((xNew true [(V.u8 0),(V.u8 0),(V.u8 0),(V.u8 0),(V.u8 0),(V.u8 0),(V.u8 0),(V.u8 0),(V.u8 0),(V.u8 0),(V.u8 0),(V.u8 0),(V.u8 0),(V.u8 0),(V.u8 0),(V.u8 0),(V.u8 0),(V.u8 0),(V.u8 0),(V.u8 0),(V.u8 0),(V.u8 0),(V.u8 0),(V.u8 0),(V.u8 0),(V.u8 0),(V.u8 0),(V.u8 0),(V.u8 0),(V.u8 0),(V.u8 0),(V.u8 0),(V.u8 0),(V.u8 0),(V.u8 0),(V.u8 0),(V.u8 0),(V.u8 0),(V.u8 0),(V.u8 0),(V.u8 0),(V.u8 0),(V.u8 0),(V.u8 0),(V.u8 0),(V.u8 0),(V.u8 0),(V.u8 0),(V.u8 0),(V.u8 0),(V.u8 0),(V.u8 0),(V.u8 0),(V.u8 0),(V.u8 0),(V.u8 0),(V.u8 0),(V.u8 0),(V.u8 0),(V.u8 0),(V.u8 0),(V.u8 0),(V.u8 0),(V.u8 0)] m).bind fun r20 => ((xStore 64 r20.2 r20.1 v18).bind fun m21 => ((unOpV .not v19).bind fun v22 => (condV v22 ((nilChkV t0).bind fun v23 => ((xFA 0 v23).bind fun v24 => ((xLoad false 1 m21 v24).bind fun v25 => ((xIS 64 v25 t1).bind fun v26 => ((xLoad true 64 m21 v26).bind fun v27 => ((xStore 64 m21 r20.1 v27).bind fun m28 => (F.disk_Disk_Read.j29 C k m0 r20.1 m28))))))) (F.disk_Disk_Read.j29 C k m0 r20.1 m21)))))))))))
noncomputable def F.disk_Disk_Read (C : CallT) (k : Nat) (a0 a1 : V) (m0 : Mem) : Option (Out × Mem) :=
  (callK (C (.fn id_disk_Disk_none) [a0] (⟨m0.objs, m0.objs.length⟩ : Mem)) (fun v1 m2 => (condV v1 (retV true m0 (V.tuple [V.nils, (V.int .i64 1)]) m2) ((nilChkV a0).bind fun v5 => ((xFA 3 v5).bind fun v6 => ((xLoad false 1 m2 v6).bind fun v7 => (condV v7 (retV true m0 (V.tuple [V.nils, (V.int .i64 10)]) m2) (callK (C (.fn id_disk_Disk_there) [a0, a1] m2) (fun v8 m9 => ((unOpV .not v8).bind fun v12 => (condV v12 (retV true m0 (V.tuple [V.nils, (V.int .i64 5)]) m9) (F.disk_Disk_Read.j13 C k m0 a0 a1 m9)))) (fun q10 m11 => none)))))))) (fun q3 m4 => none))
theorem F.disk_Disk_Read.of (C : CallT) (k : Nat) (a0 a1 : V) (m0 : Mem) : fnK PP cfgB C k id_disk_Disk_Read Tryd.f48 F.disk_Disk_Read_body [a0, a1] m0 = F.disk_Disk_Read C k a0 a1 m0 :=
  by kernel_rfl
theorem F.disk_Disk_Read.eqG (cfg : Cfg) (hp : cfg.plain = cfgB) (hs : cfg.sum id_disk_Disk_Read = none) (k : Nat) (a0 a1 : V) (m0 : Mem) : icall PP cfg (k + 1) (.fn id_disk_Disk_Read) [a0, a1] m0 = F.disk_Disk_Read (icall PP cfg k) k a0 a1 m0 :=
  (icall_eq PP cfg hp k id_disk_Disk_Read Tryd.f48 F.disk_Disk_Read_body [a0, a1] m0 hs (by kernel_rfl) (by kernel_rfl)).trans (F.disk_Disk_Read.of _ _ _ _ _)
noncomputable def F.disk_Disk_Sectors_body : Code := (Tryd.f49.body).getD .skip
noncomputable def F.disk_Disk_Sectors.j5 (C : CallT) (k : Nat) (m0 : Mem) (t0 : V) (m : Mem) : Option (Out × Mem) :=
  ((nilChkV t0).bind fun v6 => ((xFA 0 v6).bind fun v7 => ((xLoad false 1 m v7).bind fun v8 => ((xLenL v8).bind fun v9 => (retV true m0 v9 m)))))
noncomputable def F.disk_Disk_Sectors (C : CallT) (k : Nat) (a0 : V) (m0 : Mem) : Option (Out × Mem) :=
  (callK (C (.fn id_disk_Disk_none) [a0] (⟨m0.objs, m0.objs.length⟩ : Mem)) (fun v1 m2 => (condV v1 (retV true m0 (V.int .i64 0) m2) (F.disk_Disk_Sectors.j5 C k m0 a0 m2))) (fun q3 m4 => none))
theorem F.disk_Disk_Sectors.of (C : CallT) (k : Nat) (a0 : V) (m0 : Mem) : fnK PP cfgB C k id_disk_Disk_Sectors Tryd.f49 F.disk_Disk_Sectors_body [a0] m0 = F.disk_Disk_Sectors C k a0 m0 :=
  by kernel_rfl
theorem F.disk_Disk_Sectors.eqG (cfg : Cfg) (hp : cfg.plain = cfgB) (hs : cfg.sum id_disk_Disk_Sectors = none) (k : Nat) (a0 : V) (m0 : Mem) : icall PP cfg (k + 1) (.fn id_disk_Disk_Sectors) [a0] m0 = F.disk_Disk_Sectors (icall PP cfg k) k a0 m0 :=
  (icall_eq PP cfg hp k id_disk_Disk_Sectors Tryd.f49 F.disk_Disk_Sectors_body [a0] m0 hs (by kernel_rfl) (by kernel_rfl)).trans (F.disk_Disk_Sectors.of _ _ _ _)
noncomputable def F.disk_Disk_Write_body : Code := (Tryd.f50.body).getD .skip
noncomputable def F.disk_Disk_Write.j20 (C : CallT) (k : Nat) (m0 : Mem) (t0 t1 t2 : V) (m : Mem) : Option (Out × Mem) :=
  ((nilChkV t0).bind fun v21 => ((xFA 1 v21).bind fun v22 => ((xLoad false 1 m v22).bind fun v23 => ((s2apV PP 98 t2).bind fun v24 => ((xLoad true 64 m v24).bind fun v25 => ((xMapSet (.int .i64) m v23 t1 v25).bind fun m26 => (retV true m0 (V.int .i64 0) m26)))))))
noncomputable def F.disk_Disk_Write (C : CallT) (k : Nat) (a0 a1 a2 : V) (m0 : Mem) : Option (Out × Mem) :=
  (callK (C (.fn id_disk_Disk_none) [a0] (⟨m0.objs, m0.objs.length⟩ : Mem)) (fun v1 m2 => (condV v1 (retV true m0 (V.int .i64 1) m2) ((nilChkV a0).bind fun v5 => ((xFA 3 v5).bind fun v6 => ((xLoad false 1 m2 v6).bind fun v7 => (condV v7 (retV true m0 (V.int .i64 10) m2) (callK (C (.fn id_disk_Disk_there) [a0, a1] m2) (fun v8 m9 => ((unOpV .not v8).bind fun v12 => (condV v12 (retV true m0 (V.int .i64 5) m9) ((xLenL a2).bind fun v13 => ((binOpV PP .neq 3 v13 (V.int .i64 64)).bind fun v14 => (condV v14 (retV true m0 (V.int .i64 2) m9) (callK (C (.fn id_disk_Disk_change) [a0] m9) (fun v15 m16 => ((unOpV .not v15).bind fun v19 => (condV v19 (retV true m0 (V.int .i64 10) m16) (F.disk_Disk_Write.j20 C k m0 a0 a1 a2 m16)))) (fun q17 m18 => none)))))))) (fun q10 m11 => none)))))))) (fun q3 m4 => none))
theorem F.disk_Disk_Write.of (C : CallT) (k : Nat) (a0 a1 a2 : V) (m0 : Mem) : fnK PP cfgB C k id_disk_Disk_Write Tryd.f50 F.disk_Disk_Write_body [a0, a1, a2] m0 = F.disk_Disk_Write C k a0 a1 a2 m0 :=
  by kernel_rfl
theorem F.disk_Disk_Write.eqG (cfg : Cfg) (hp : cfg.plain = cfgB) (hs : cfg.sum id_disk_Disk_Write = none) (k : Nat) (a0 a1 a2 : V) (m0 : Mem) : icall PP cfg (k + 1) (.fn id_disk_Disk_Write) [a0, a1, a2] m0 = F.disk_Disk_Write (icall PP cfg k) k a0 a1 a2 m0 :=
  (icall_eq PP cfg hp k id_disk_Disk_Write Tryd.f50 F.disk_Disk_Write_body [a0, a1, a2] m0 hs (by kernel_rfl) (by kernel_rfl)).trans (F.disk_Disk_Write.of _ _ _ _ _ _)
noncomputable def F.disk_Disk_Flush_body : Code := (Tryd.f51.body).getD .skip
noncomputable def F.disk_Disk_Flush.j32 (C : CallT) (k : Nat) (m0 : Mem) (t0 : V) (m : Mem) : Option (Out × Mem) :=
  ((nilChkV t0).bind fun v33 => ((xFA 1 v33).bind fun v34 => ((xLoad false 1 m v34).bind fun v35 => ((builtinV PP .clear #[38] [v35] m).bind fun r36 => (retV true m0 (V.int .i64 0) r36.2)))))
noncomputable def F.disk_Disk_Flush.j14 (C : CallT) (k : Nat) (m0 : Mem) (t0 t1 t2 t3 t4 t5 t6 t7 t8 t9 t10 t11 t12 t13 t14 t15 t16 t17 t23 t24 t25 t26 t27 t28 t29 t30 t31 t32 t33 t34 t35 t36 t37 t38 : V) (m : Mem) : Option (Out × Mem) :=
  ((nilChkV t0).bind fun v15 => ((xFA 1 v15).bind fun v16 => ((xLoad false 1 m v16).bind fun v17 => ((rangeV PP m 38 v17).bind fun r18 => ((flushH ⟨[t0, t1, t2, t3, t4, t5, t6, t7, t8, t9, t10, t11, t12, t13, t14, t15, t16, t17, t0, v15, v16, v17, r18.1, t23, t24, t25, t26, t27, t28, t29, t30, t31, t32, t33, t34, t35, t36, t37, t38], [], r18.2⟩).bind fun h19 => (F.disk_Disk_Flush.j32 C k m0 (h19.env.getD 0 .any) h19.mem))))))
noncomputable def F.disk_Disk_Flush.j13 (C : CallT) (k : Nat) (m0 : Mem) (t0 t1 t2 t3 t4 t5 t6 t7 t8 t9 t10 t11 t12 t13 t14 t15 t16 t17 t23 t24 t25 t26 t27 t28 t29 t30 t31 t32 t33 t34 t35 t36 t37 t38 : V) (m : Mem) : Option (Out × Mem) :=
  (condV t8 (retV true m0 (V.int .i64 10) m) (F.disk_Disk_Flush.j14 C k m0 t0 t1 t2 t3 t4 t5 t6 t7 t8 t9 t10 t11 t12 t13 t14 t15 t16 t17 t23 t24 t25 t26 t27 t28 t29 t30 t31 t32 t33 t34 t35 t36 t37 t38 m))
noncomputable def F.disk_Disk_Flush (C : CallT) (k : Nat) (a0 : V) (m0 : Mem) : Option (Out × Mem) :=
  (callK (C (.fn id_disk_Disk_none) [a0] (⟨m0.objs, m0.objs.length⟩ : Mem)) (fun v1 m2 => (condV v1 (retV true m0 (V.int .i64 1) m2) ((nilChkV a0).bind fun v5 => ((xFA 3 v5).bind fun v6 => ((xLoad false 1 m2 v6).bind fun v7 => (gate2 v7 false (callK (C (.fn id_disk_Disk_change) [a0] m2) (fun v8 m9 => ((unOpV .not v8).bind fun v12 => (F.disk_Disk_Flush.j13 C k m0 a0 V.undef (V.int .i64 0) V.undef V.undef v1 a0 v1 v12 a0 v5 v6 v7 (V.bool false) a0 v8 v12 v12 V.undef V.undef V.undef V.undef V.undef V.undef V.undef V.undef V.undef V.undef V.undef V.undef V.undef V.undef V.undef V.undef m9))) (fun q10 m11 => none)) (F.disk_Disk_Flush.j13 C k m0 a0 V.undef (V.int .i64 0) V.undef V.undef v1 a0 v1 (V.bool true) a0 v5 v6 v7 (V.bool true) V.undef V.undef V.undef (V.bool true) V.undef V.undef V.undef V.undef V.undef V.undef V.undef V.undef V.undef V.undef V.undef V.undef V.undef V.undef V.undef V.undef m2))))))) (fun q3 m4 => none))
theorem F.disk_Disk_Flush.of (C : CallT) (k : Nat) (a0 : V) (m0 : Mem) : fnK PP cfgB C k id_disk_Disk_Flush Tryd.f51 F.disk_Disk_Flush_body [a0] m0 = F.disk_Disk_Flush C k a0 m0 :=
  by kernel_rfl
theorem F.disk_Disk_Flush.eqG (cfg : Cfg) (hp : cfg.plain = cfgB) (hs : cfg.sum id_disk_Disk_Flush = none) (k : Nat) (a0 : V) (m0 : Mem) : icall PP cfg (k + 1) (.fn id_disk_Disk_Flush) [a0] m0 = F.disk_Disk_Flush (icall PP cfg k) k a0 m0 :=
  (icall_eq PP cfg hp k id_disk_Disk_Flush Tryd.f51 F.disk_Disk_Flush_body [a0] m0 hs (by kernel_rfl) (by kernel_rfl)).trans (F.disk_Disk_Flush.of _ _ _ _)
noncomputable def F.disk_Disk_none_body : Code := (Tryd.f52.body).getD .skip
noncomputable def F.disk_Disk_none (C : CallT) (k : Nat) (a0 : V) (m0 : Mem) : Option (Out × Mem) :=
  ((binOpV PP .eql 36 a0 V.nilp).bind fun v1 => (gate2 v1 false ((nilChkV a0).bind fun v2 => ((xFA 1 v2).bind fun v3 => ((xLoad false 1 (⟨m0.objs, m0.objs.length⟩ : Mem) v3).bind fun v4 => ((binOpV PP .eql 38 v4 V.nilm).bind fun v5 => (retV true m0 v5 (⟨m0.objs, m0.objs.length⟩ : Mem)))))) (retV true m0 (V.bool true) (⟨m0.objs, m0.objs.length⟩ : Mem))))
theorem F.disk_Disk_none.of (C : CallT) (k : Nat) (a0 : V) (m0 : Mem) : fnK PP cfgB C k id_disk_Disk_none Tryd.f52 F.disk_Disk_none_body [a0] m0 = F.disk_Disk_none C k a0 m0 :=
  by kernel_rfl
theorem F.disk_Disk_none.eqG (cfg : Cfg) (hp : cfg.plain = cfgB) (hs : cfg.sum id_disk_Disk_none = none) (k : Nat) (a0 : V) (m0 : Mem) : icall PP cfg (k + 1) (.fn id_disk_Disk_none) [a0] m0 = F.disk_Disk_none (icall PP cfg k) k a0 m0 :=
  (icall_eq PP cfg hp k id_disk_Disk_none Tryd.f52 F.disk_Disk_none_body [a0] m0 hs (by kernel_rfl) (by kernel_rfl)).trans (F.disk_Disk_none.of _ _ _ _)
noncomputable def F.disk_Disk_Loose_body : Code := (Tryd.f53.body).getD .skip
noncomputable def F.disk_Disk_Loose.j5 (C : CallT) (k : Nat) (m0 : Mem) (t0 : V) (m : Mem) : Option (Out × Mem) :=
  ((nilChkV t0).bind fun v6 => ((xFA 1 v6).bind fun v7 => ((xLoad false 1 m v7).bind fun v8 => (callK (C (.fn id_maps_Keys) [v8] m) (fun v9 m10 => (callK (C (.fn id_slices_Sorted) [v9] m10) (fun v13 m14 => (retV true m0 v13 m14)) (fun q15 m16 => none))) (fun q11 m12 => none)))))
noncomputable def F.disk_Disk_Loose (C : CallT) (k : Nat) (a0 : V) (m0 : Mem) : Option (Out × Mem) :=
  (callK (C (.fn id_disk_Disk_none) [a0] (⟨m0.objs, m0.objs.length⟩ : Mem)) (fun v1 m2 => (condV v1 (retV true m0 V.nils m2) (F.disk_Disk_Loose.j5 C k m0 a0 m2))) (fun q3 m4 => none))
theorem F.disk_Disk_Loose.of (C : CallT) (k : Nat) (a0 : V) (m0 : Mem) : fnK PP cfgB C k id_disk_Disk_Loose Tryd.f53 F.disk_Disk_Loose_body [a0] m0 = F.disk_Disk_Loose C k a0 m0 :=
  by kernel_rfl
theorem F.disk_Disk_Loose.eqG (cfg : Cfg) (hp : cfg.plain = cfgB) (hs : cfg.sum id_disk_Disk_Loose = none) (k : Nat) (a0 : V) (m0 : Mem) : icall PP cfg (k + 1) (.fn id_disk_Disk_Loose) [a0] m0 = F.disk_Disk_Loose (icall PP cfg k) k a0 m0 :=
  (icall_eq PP cfg hp k id_disk_Disk_Loose Tryd.f53 F.disk_Disk_Loose_body [a0] m0 hs (by kernel_rfl) (by kernel_rfl)).trans (F.disk_Disk_Loose.of _ _ _ _)
noncomputable def F.tandemref04_Disk_Write_body : Code := (Tryd.f54.body).getD .skip
noncomputable def F.tandemref04_Disk_Write.j19 (C : CallT) (k : Nat) (m0 : Mem) (t0 t1 t2 : V) (m : Mem) : Option (Out × Mem) :=
  ((nilChkV t0).bind fun v20 => ((xFA 1 v20).bind fun v21 => ((xLoad false 1 m v21).bind fun v22 => ((xBuildSl 1 true [(V.u8 0)] m 0 []).bind fun r23 => (if (sameO (xLoad false 1 r23.2 v21) v22 && true) = true then ((xApp 1 1 true r23.2 r23.1 t2).bind fun r24 => (if (sameO (xLoad false 1 r24.2 v21) v22 && true) = true then ((xIS 1 v22 t1).bind fun v25 => ((xStore 1 r24.2 v25 r24.1).bind fun m26 => (retV true m0 (V.int .i64 0) m26))) else none)) else none)))))
noncomputable def F.tandemref04_Disk_Write.j13 (C : CallT) (k : Nat) (m0 : Mem) (t0 t1 t2 : V) (m : Mem) : Option (Out × Mem) :=
  (callK (C (.fn id_tandemref04_Disk_change) [t0] m) (fun v14 m15 => ((unOpV .not v14).bind fun v18 => (condV v18 (retV true m0 (V.int .i64 10) m15) (F.tandemref04_Disk_Write.j19 C k m0 t0 t1 t2 m15)))) (fun q16 m17 => none))
noncomputable def F.tandemref04_Disk_Write.j10 (C : CallT) (k : Nat) (m0 : Mem) (t0 t1 t2 : V) (m : Mem) : Option (Out × Mem) :=
  ((xLenL t2).bind fun v11 => ((binOpV PP .neq 3 v11 (V.int .i64 64)).bind fun v12 => (condV v12 (retV true m0 (V.int .i64 2) m) (F.tandemref04_Disk_Write.j13 C k m0 t0 t1 t2 m))))
noncomputable def F.tandemref04_Disk_Write.j4 (C : CallT) (k : Nat) (m0 : Mem) (t0 t1 t2 : V) (m : Mem) : Option (Out × Mem) :=
  (callK (C (.fn id_tandemref04_Disk_there) [t0, t1] m) (fun v5 m6 => ((unOpV .not v5).bind fun v9 => (condV v9 (retV true m0 (V.int .i64 5) m6) (F.tandemref04_Disk_Write.j10 C k m0 t0 t1 t2 m6)))) (fun q7 m8 => none))
noncomputable def F.tandemref04_Disk_Write (C : CallT) (k : Nat) (a0 a1 a2 : V) (m0 : Mem) : Option (Out × Mem) :=
  ((nilChkV a0).bind fun v1 => ((xFA 2 v1).bind fun v2 => ((xLoad false 1 (⟨m0.objs, m0.objs.length⟩ : Mem) v2).bind fun v3 => (condV v3 (retV true m0 (V.int .i64 10) (⟨m0.objs, m0.objs.length⟩ : Mem)) (F.tandemref04_Disk_Write.j4 C k m0 a0 a1 a2 (⟨m0.objs, m0.objs.length⟩ : Mem))))))
theorem F.tandemref04_Disk_Write.of (C : CallT) (k : Nat) (a0 a1 a2 : V) (m0 : Mem) : fnK PP cfgB C k id_tandemref04_Disk_Write Tryd.f54 F.tandemref04_Disk_Write_body [a0, a1, a2] m0 = F.tandemref04_Disk_Write C k a0 a1 a2 m0 :=
  by kernel_rfl
theorem F.tandemref04_Disk_Write.eqG (cfg : Cfg) (hp : cfg.plain = cfgB) (hs : cfg.sum id_tandemref04_Disk_Write = none) (k : Nat) (a0 a1 a2 : V) (m0 : Mem) : icall PP cfg (k + 1) (.fn id_tandemref04_Disk_Write) [a0, a1, a2] m0 = F.tandemref04_Disk_Write (icall PP cfg k) k a0 a1 a2 m0 :=
  (icall_eq PP cfg hp k id_tandemref04_Disk_Write Tryd.f54 F.tandemref04_Disk_Write_body [a0, a1, a2] m0 hs (by kernel_rfl) (by kernel_rfl)).trans (F.tandemref04_Disk_Write.of _ _ _ _ _ _)
noncomputable def F.tandemref04_Disk_Flush_body : Code := (Tryd.f55.body).getD .skip
noncomputable def F.tandemref04_Disk_Flush.j38 (C : CallT) (k : Nat) (nx4 : V → V → Mem → Option (Ex × St)) (t0 t3 : V) (m : Mem) : Option (Ex × St) :=
  ((binOpV PP .add 3 t3 (V.int .i64 1)).bind fun v39 => (nx4 t0 v39 m))
noncomputable def F.tandemref04_Disk_Flush.j16 (C : CallT) (k : Nat) (nx4 : V → V → Mem → Option (Ex × St)) (t0 t3 : V) (m : Mem) : Option (Ex × St) :=
  ((nilChkV t0).bind fun v17 => ((xFA 1 v17).bind fun v18 => ((xLoad false 1 m v18).bind fun v19 => ((xIS 1 v19 t3).bind fun v20 => ((xLoad false 1 m v20).bind fun v21 => ((binOpV PP .neq 22 v21 V.nils).bind fun v22 => (condV v22 ((nilChkV t0).bind fun v23 => ((xFA 0 v23).bind fun v24 => ((xLoad false 1 m v24).bind fun v25 => ((nilChkV t0).bind fun v26 => ((xFA 1 v26).bind fun v27 => ((xLoad false 1 m v27).bind fun v28 => ((xIS 1 v28 t3).bind fun v29 => ((xLoad false 1 m v29).bind fun v30 => ((xIS 1 v25 t3).bind fun v31 => ((xStore 1 m v31 v30).bind fun m32 => ((nilChkV t0).bind fun v33 => ((xFA 1 v33).bind fun v34 => ((xLoad false 1 m32 v34).bind fun v35 => ((xIS 1 v35 t3).bind fun v36 => ((xStore 1 m32 v36 V.nils).bind fun m37 => (F.tandemref04_Disk_Flush.j38 C k nx4 t0 t3 m37)))))))))))))))) (F.tandemref04_Disk_Flush.j38 C k nx4 t0 t3 m))))))))
noncomputable def F.tandemref04_Disk_Flush.l4 (C : CallT) (k n : Nat) (t0 t3 : V) (m : Mem) : Option (Ex × St) := loopD PP cfgB C k n 55 (loopAt Tryd.f55 4) ⟨[t0, V.any, V.any, t3, V.any, V.any, V.any, V.any, V.any, V.any, V.any, V.any, V.any, V.any, V.any, V.any, V.any, V.any, V.any, V.any, V.any, V.any, V.any, V.any, V.any, V.any, V.any, V.any, V.any, V.any, V.any, V.any, V.any, V.any, V.any, V.any, V.any, V.any, V.any, V.any, V.any, V.any, V.any, V.any, V.any, V.any, V.any, V.any, V.any], [], m⟩
noncomputable def F.tandemref04_Disk_Flush.b4 (C : CallT) (k : Nat) (nx4 : V → V → Mem → Option (Ex × St)) (t0 t3 : V) (m : Mem) : Option (Ex × St) :=
  ((nilChkV t0).bind fun v11 => ((xFA 1 v11).bind fun v12 => ((xLoad false 1 m v12).bind fun v13 => ((xLenL v13).bind fun v14 => ((binOpV PP .lss 3 t3 v14).bind fun v15 => (condV v15 (F.tandemref04_Disk_Flush.j16 C k nx4 t0 t3 m) (some (Ex.exit 0, ⟨[V.any, V.any, V.any, V.any, V.any, V.any, V.any, V.any, V.any, V.any, V.any, V.any, V.any, V.any, V.any, V.any, V.any, V.any, V.any, V.any, V.any, V.any, V.any, V.any, V.any, V.any, V.any, V.any, V.any, V.any, V.any, V.any, V.any, V.any, V.any, V.any, V.any, V.any, V.any, V.any, V.any, V.any, V.any, V.any, V.any, V.any, V.any, V.any, V.any], [], m⟩))))))))
theorem F.tandemref04_Disk_Flush.l4_succ (C : CallT) (k n : Nat) (t0 t3 : V) (m : Mem) : F.tandemref04_Disk_Flush.l4 C k (n + 1) t0 t3 m = F.tandemref04_Disk_Flush.b4 C k (F.tandemref04_Disk_Flush.l4 C k n) t0 t3 m :=
  (loopD_succ PP cfgB C k n 55 (loopAt Tryd.f55 4) ⟨[t0, V.any, V.any, t3, V.any, V.any, V.any, V.any, V.any, V.any, V.any, V.any, V.any, V.any, V.any, V.any, V.any, V.any, V.any, V.any, V.any, V.any, V.any, V.any, V.any, V.any, V.any, V.any, V.any, V.any, V.any, V.any, V.any, V.any, V.any, V.any, V.any, V.any, V.any, V.any, V.any, V.any, V.any, V.any, V.any, V.any, V.any, V.any, V.any], [], m⟩).trans (by kernel_rfl)
noncomputable def F.tandemref04_Disk_Flush.g4 (C : CallT) (k : Nat) : Nat → V → V → Mem → Option (Ex × St)
  | 0, _, _, _ => none
  | n + 1, t0, t3, m => F.tandemref04_Disk_Flush.b4 C k (F.tandemref04_Disk_Flush.g4 C k n) t0 t3 m
theorem F.tandemref04_Disk_Flush.g4_succ (C : CallT) (k n : Nat) (t0 t3 : V) (m : Mem) : F.tandemref04_Disk_Flush.g4 C k (n + 1) t0 t3 m = F.tandemref04_Disk_Flush.b4 C k (F.tandemref04_Disk_Flush.g4 C k n) t0 t3 m := rfl
theorem F.tandemref04_Disk_Flush.g4_zero (C : CallT) (k : Nat) (t0 t3 : V) (m : Mem) : F.tandemref04_Disk_Flush.g4 C k 0 t0 t3 m = none := rfl
theorem F.tandemref04_Disk_Flush.l4_eqR (C : CallT) (k : Nat) : ∀ (n : Nat) (t0 t3 : V) (m : Mem), F.tandemref04_Disk_Flush.l4 C k n t0 t3 m = F.tandemref04_Disk_Flush.g4 C k n t0 t3 m
  | 0, _, _, _ => rfl
  | n + 1, t0, t3, m => by
    have h : F.tandemref04_Disk_Flush.l4 C k n = F.tandemref04_Disk_Flush.g4 C k n := by funext t0 t3 m; exact F.tandemref04_Disk_Flush.l4_eqR C k n t0 t3 m
    rw [F.tandemref04_Disk_Flush.l4_succ, h]
    rfl
noncomputable def F.tandemref04_Disk_Flush.j43 (C : CallT) (k : Nat) (m0 : Mem) (m : Mem) : Option (Out × Mem) :=
  (retV true m0 (V.int .i64 0) m)
noncomputable def F.tandemref04_Disk_Flush.j10 (C : CallT) (k : Nat) (m0 : Mem) (t0 : V) (m : Mem) : Option (Out × Mem) :=
  ((F.tandemref04_Disk_Flush.l4 C k k t0 (V.int .i64 0) m).bind fun r40 => exK r40.1 (F.tandemref04_Disk_Flush.j43 C k m0 r40.2.mem) (fun i41 => (if i41 = 0 then (F.tandemref04_Disk_Flush.j43 C k m0 r40.2.mem) else none)) (retV true m0 (r40.2.env.getD 2 .any) r40.2.mem) (fun q42 => none))
noncomputable def F.tandemref04_Disk_Flush.j10R (C : CallT) (k : Nat) (m0 : Mem) (t0 : V) (m : Mem) : Option (Out × Mem) :=
  ((F.tandemref04_Disk_Flush.g4 C k k t0 (V.int .i64 0) m).bind fun r40 => exK r40.1 (F.tandemref04_Disk_Flush.j43 C k m0 r40.2.mem) (fun i41 => (if i41 = 0 then (F.tandemref04_Disk_Flush.j43 C k m0 r40.2.mem) else none)) (retV true m0 (r40.2.env.getD 2 .any) r40.2.mem) (fun q42 => none))
theorem F.tandemref04_Disk_Flush.j10_eqR (C : CallT) (k : Nat) (m0 : Mem) (t0 : V) (m : Mem) : F.tandemref04_Disk_Flush.j10 C k m0 t0 m = F.tandemref04_Disk_Flush.j10R C k m0 t0 m := by
  unfold F.tandemref04_Disk_Flush.j10 F.tandemref04_Disk_Flush.j10R
  simp only [F.tandemref04_Disk_Flush.l4_eqR]
noncomputable def F.tandemref04_Disk_Flush.j9 (C : CallT) (k : Nat) (m0 : Mem) (t0 t12 : V) (m : Mem) : Option (Out × Mem) :=
  (condV t12 (retV true m0 (V.int .i64 10) m) (F.tandemref04_Disk_Flush.j10 C k m0 t0 m))
noncomputable def F.tandemref04_Disk_Flush.j9R (C : CallT) (k : Nat) (m0 : Mem) (t0 t12 : V) (m : Mem) : Option (Out × Mem) :=
  (condV t12 (retV true m0 (V.int .i64 10) m) (F.tandemref04_Disk_Flush.j10R C k m0 t0 m))
theorem F.tandemref04_Disk_Flush.j9_eqR (C : CallT) (k : Nat) (m0 : Mem) (t0 t12 : V) (m : Mem) : F.tandemref04_Disk_Flush.j9 C k m0 t0 t12 m = F.tandemref04_Disk_Flush.j9R C k m0 t0 t12 m := by
  unfold F.tandemref04_Disk_Flush.j9 F.tandemref04_Disk_Flush.j9R
  simp only [F.tandemref04_Disk_Flush.l4_eqR, F.tandemref04_Disk_Flush.j10_eqR]
noncomputable def F.tandemref04_Disk_Flush.L0 (C : CallT) (k : Nat) (a0 : V) (m0 : Mem) : Option (Out × Mem) :=
  ((nilChkV a0).bind fun v1 => ((xFA 2 v1).bind fun v2 => ((xLoad false 1 (⟨m0.objs, m0.objs.length⟩ : Mem) v2).bind fun v3 => (gate2 v3 false (callK (C (.fn id_tandemref04_Disk_change) [a0] (⟨m0.objs, m0.objs.length⟩ : Mem)) (fun v4 m5 => ((unOpV .not v4).bind fun v8 => (F.tandemref04_Disk_Flush.j9 C k m0 a0 v8 m5))) (fun q6 m7 => none)) (F.tandemref04_Disk_Flush.j9 C k m0 a0 (V.bool true) (⟨m0.objs, m0.objs.length⟩ : Mem))))))
noncomputable def F.tandemref04_Disk_Flush (C : CallT) (k : Nat) (a0 : V) (m0 : Mem) : Option (Out × Mem) :=
  ((nilChkV a0).bind fun v1 => ((xFA 2 v1).bind fun v2 => ((xLoad false 1 (⟨m0.objs, m0.objs.length⟩ : Mem) v2).bind fun v3 => (gate2 v3 false (callK (C (.fn id_tandemref04_Disk_change) [a0] (⟨m0.objs, m0.objs.length⟩ : Mem)) (fun v4 m5 => ((unOpV .not v4).bind fun v8 => (F.tandemref04_Disk_Flush.j9R C k m0 a0 v8 m5))) (fun q6 m7 => none)) (F.tandemref04_Disk_Flush.j9R C k m0 a0 (V.bool true) (⟨m0.objs, m0.objs.length⟩ : Mem))))))
theorem F.tandemref04_Disk_Flush.L0_eqR (C : CallT) (k : Nat) (a0 : V) (m0 : Mem) : F.tandemref04_Disk_Flush.L0 C k a0 m0 = F.tandemref04_Disk_Flush C k a0 m0 := by
  unfold F.tandemref04_Disk_Flush.L0 F.tandemref04_Disk_Flush
  simp only [F.tandemref04_Disk_Flush.l4_eqR, F.tandemref04_Disk_Flush.j10_eqR, F.tandemref04_Disk_Flush.j9_eqR]
theorem F.tandemref04_Disk_Flush.of (C : CallT) (k : Nat) (a0 : V) (m0 : Mem) : fnK PP cfgB C k id_tandemref04_Disk_Flush Tryd.f55 F.tandemref04_Disk_Flush_body [a0] m0 = F.tandemref04_Disk_Flush C k a0 m0 :=
  (show _ = F.tandemref04_Disk_Flush.L0 C k a0 m0 by kernel_rfl).trans (F.tandemref04_Disk_Flush.L0_eqR _ _ _ _)
theorem F.tandemref04_Disk_Flush.eqG (cfg : Cfg) (hp : cfg.plain = cfgB) (hs : cfg.sum id_tandemref04_Disk_Flush = none) (k : Nat) (a0 : V) (m0 : Mem) : icall PP cfg (k + 1) (.fn id_tandemref04_Disk_Flush) [a0] m0 = F.tandemref04_Disk_Flush (icall PP cfg k) k a0 m0 :=
  (icall_eq PP cfg hp k id_tandemref04_Disk_Flush Tryd.f55 F.tandemref04_Disk_Flush_body [a0] m0 hs (by kernel_rfl) (by kernel_rfl)).trans (F.tandemref04_Disk_Flush.of _ _ _ _)
noncomputable def F.tandemref04_Disk_Read_body : Code := (Tryd.f56.body).getD .skip
noncomputable def F.tandemref04_Disk_Read.j24 (C : CallT) (k : Nat) (m0 : Mem) (t0 t1 : V) (m : Mem) : Option (Out × Mem) :=
  ((xBuildSl 1 true [(V.u8 0)] m 0 []).bind fun r25 => ((nilChkV t0).bind fun v26 => ((xFA 0 v26).bind fun v27 => ((xLoad false 1 r25.2 v27).bind fun v28 => ((xIS 1 v28 t1).bind fun v29 => ((xLoad false 1 r25.2 v29).bind fun v30 => ((xApp 1 1 true r25.2 r25.1 v30).bind fun r31 => (retV true m0 (V.tuple [r31.1, (V.int .i64 0)]) r31.2))))))))
noncomputable def F.tandemref04_Disk_Read.j10 (C : CallT) (k : Nat) (m0 : Mem) (t0 t1 : V) (m : Mem) : Option (Out × Mem) :=
  ((nilChkV t0).bind fun v11 => ((xFA 1 v11).bind fun v12 => ((xLoad false 1 m v12).bind fun v13 => ((xIS 1 v13 t1).bind fun v14 => ((xLoad false 1 m v14).bind fun v15 => ((binOpV PP .neq 22 v15 V.nils).bind fun v16 => (condV v16 ((xBuildSl 1 true [(V.u8 0)] m 0 []).bind fun r17 => ((nilChkV t0).bind fun v18 => ((xFA 1 v18).bind fun v19 => ((xLoad false 1 r17.2 v19).bind fun v20 => ((xIS 1 v20 t1).bind fun v21 => ((xLoad false 1 r17.2 v21).bind fun v22 => ((xApp 1 1 true r17.2 r17.1 v22).bind fun r23 => (retV true m0 (V.tuple [r23.1, (V.int .i64 0)]) r23.2)))))))) (F.tandemref04_Disk_Read.j24 C k m0 t0 t1 m))))))))
noncomputable def F.tandemref04_Disk_Read.j4 (C : CallT) (k : Nat) (m0 : Mem) (t0 t1 : V) (m : Mem) : Option (Out × Mem) :=
  (callK (C (.fn id_tandemref04_Disk_there) [t0, t1] m) (fun v5 m6 => ((unOpV .not v5).bind fun v9 => (condV v9 (retV true m0 (V.tuple [V.nils, (V.int .i64 5)]) m6) (F.tandemref04_Disk_Read.j10 C k m0 t0 t1 m6)))) (fun q7 m8 => none))
noncomputable def F.tandemref04_Disk_Read (C : CallT) (k : Nat) (a0 a1 : V) (m0 : Mem) : Option (Out × Mem) :=
  ((nilChkV a0).bind fun v1 => ((xFA 2 v1).bind fun v2 => ((xLoad false 1 (⟨m0.objs, m0.objs.length⟩ : Mem) v2).bind fun v3 => (condV v3 (retV true m0 (V.tuple [V.nils, (V.int .i64 10)]) (⟨m0.objs, m0.objs.length⟩ : Mem)) (F.tandemref04_Disk_Read.j4 C k m0 a0 a1 (⟨m0.objs, m0.objs.length⟩ : Mem))))))
theorem F.tandemref04_Disk_Read.of (C : CallT) (k : Nat) (a0 a1 : V) (m0 : Mem) : fnK PP cfgB C k id_tandemref04_Disk_Read Tryd.f56 F.tandemref04_Disk_Read_body [a0, a1] m0 = F.tandemref04_Disk_Read C k a0 a1 m0 :=
  by kernel_rfl
theorem F.tandemref04_Disk_Read.eqG (cfg : Cfg) (hp : cfg.plain = cfgB) (hs : cfg.sum id_tandemref04_Disk_Read = none) (k : Nat) (a0 a1 : V) (m0 : Mem) : icall PP cfg (k + 1) (.fn id_tandemref04_Disk_Read) [a0, a1] m0 = F.tandemref04_Disk_Read (icall PP cfg k) k a0 a1 m0 :=
  (icall_eq PP cfg hp k id_tandemref04_Disk_Read Tryd.f56 F.tandemref04_Disk_Read_body [a0, a1] m0 hs (by kernel_rfl) (by kernel_rfl)).trans (F.tandemref04_Disk_Read.of _ _ _ _ _)
noncomputable def F.tandemref04_Disk_Crash_body : Code := (Tryd.f57.body).getD .skip
noncomputable def F.tandemref04_Disk_Crash.j44 (C : CallT) (k : Nat) (nx3 : V → V → V → V → V → V → V → V → V → V → Mem → Option (Ex × St)) (t0 t1 t2 t6 t7 t8 t28 t29 t30 t31 : V) (m : Mem) : Option (Ex × St) :=
  ((binOpV PP .add 3 t8 (V.int .i64 1)).bind fun v45 => (nx3 t0 t1 t2 t6 t7 v45 t28 t29 t30 t31 m))
noncomputable def F.tandemref04_Disk_Crash.j38 (C : CallT) (k : Nat) (nx3 : V → V → V → V → V → V → V → V → V → V → Mem → Option (Ex × St)) (t0 t1 t2 t6 t7 t8 t9 t28 t29 t30 t31 : V) (m : Mem) : Option (Ex × St) :=
  ((nilChkV t0).bind fun v39 => ((xFA 1 v39).bind fun v40 => ((xLoad false 1 m v40).bind fun v41 => ((xIS 1 v41 t9).bind fun v42 => ((xStore 1 m v42 V.nils).bind fun m43 => (F.tandemref04_Disk_Crash.j44 C k nx3 t0 t1 t2 t6 t7 t8 t28 t29 t30 t31 m43))))))
noncomputable def F.tandemref04_Disk_Crash.j31 (C : CallT) (k : Nat) (nx3 : V → V → V → V → V → V → V → V → V → V → Mem → Option (Ex × St)) (t0 t1 t2 t6 t7 t8 t9 t10 t28 t29 t30 t31 : V) (m : Mem) : Option (Ex × St) :=
  ((nilChkV t0).bind fun v32 => ((xFA 0 v32).bind fun v33 => ((xLoad false 1 m v33).bind fun v34 => ((xIS 1 v34 t9).bind fun v35 => ((xStore 1 m v35 t10).bind fun m36 => ((binOpV PP .add 3 t7 (V.int .i64 1)).bind fun v37 => (F.tandemref04_Disk_Crash.j38 C k nx3 t0 t1 t2 t6 v37 t8 t9 t28 t29 t30 t31 m36)))))))
noncomputable def F.tandemref04_Disk_Crash.j14 (C : CallT) (k : Nat) (nx3 : V → V → V → V → V → V → V → V → V → V → Mem → Option (Ex × St)) (t0 t1 t2 t6 t7 t8 t9 t28 t29 t30 t31 t32 : V) (m : Mem) : Option (Ex × St) :=
  (condV t32 ((nilChkV t0).bind fun v15 => ((xFA 1 v15).bind fun v16 => ((xLoad false 1 m v16).bind fun v17 => ((xIS 1 v17 t9).bind fun v18 => ((xLoad false 1 m v18).bind fun v19 => ((binOpV PP .eql 3 t7 t2).bind fun v20 => (condV v20 ((xBuildSl 1 true [(V.u8 0)] m 0 []).bind fun r21 => ((xSlL r21.2 1 v19 none (some (V.int .i64 32)) none).bind fun v22 => (if (sameO (xSlL m 1 v19 none (some (V.int .i64 32)) none) v22 && true) = true then ((xApp 1 1 true r21.2 r21.1 v22).bind fun r23 => ((nilChkV t0).bind fun v24 => ((xFA 0 v24).bind fun v25 => ((xLoad false 1 r23.2 v25).bind fun v26 => (if (sameO (xLoad false 1 r21.2 v25) v26 && (sameO (xLoad false 1 m v25) v26 && true)) = true then ((xIS 1 v26 t9).bind fun v27 => ((xLoad false 1 r23.2 v27).bind fun v28 => (if (sameO (xLoad false 1 r21.2 v27) v28 && (sameO (xLoad false 1 m v27) v28 && true)) = true then ((xSlL r23.2 1 v28 (some (V.int .i64 32)) none none).bind fun v29 => (if (sameO (xSlL r21.2 1 v28 (some (V.int .i64 32)) none none) v29 && (sameO (xSlL m 1 v28 (some (V.int .i64 32)) none none) v29 && true)) = true then ((xApp 1 1 true r23.2 r23.1 v29).bind fun r30 => (F.tandemref04_Disk_Crash.j31 C k nx3 t0 t1 t2 t6 t7 t8 t9 r30.1 t28 t29 t30 t31 r30.2)) else none)) else none))) else none))))) else none))) (F.tandemref04_Disk_Crash.j31 C k nx3 t0 t1 t2 t6 t7 t8 t9 v19 t28 t29 t30 t31 m)))))))) (F.tandemref04_Disk_Crash.j38 C k nx3 t0 t1 t2 t6 t7 t8 t9 t28 t29 t30 t31 m))
noncomputable def F.tandemref04_Disk_Crash.j7 (C : CallT) (k : Nat) (nx3 : V → V → V → V → V → V → V → V → V → V → Mem → Option (Ex × St)) (t0 t1 t2 t6 t7 t8 : V) (m : Mem) : Option (Ex × St) :=
  ((xIS 1 t6 t8).bind fun v8 => ((xLoad false 1 m v8).bind fun v9 => ((xLenL t1).bind fun v10 => ((binOpV PP .lss 3 t8 v10).bind fun v11 => (gate2 v11 true ((xIS 1 t1 t8).bind fun v12 => ((xLoad false 1 m v12).bind fun v13 => (F.tandemref04_Disk_Crash.j14 C k nx3 t0 t1 t2 t6 t7 t8 v9 t1 t8 v12 v13 v13 m))) (F.tandemref04_Disk_Crash.j14 C k nx3 t0 t1 t2 t6 t7 t8 v9 V.undef V.undef V.undef V.undef (V.bool false) m))))))
noncomputable def F.tandemref04_Disk_Crash.l3 (C : CallT) (k n : Nat) (t0 t1 t2 t6 t7 t8 t28 t29 t30 t31 : V) (m : Mem) : Option (Ex × St) := loopD PP cfgB C k n 57 (loopAt Tryd.f57 3) ⟨[t0, t1, t2, V.any, V.any, V.any, t6, t7, t8, V.any, V.any, V.any, V.any, V.any, V.any, V.any, V.any, V.any, V.any, V.any, V.any, V.any, V.any, V.any, V.any, V.any, V.any, V.any, t28, t29, t30, t31, V.any, V.any, V.any, V.any, V.any, V.any, V.any, V.any, V.any, V.any, V.any, V.any, V.any, V.any, V.any, V.any, V.any, V.any, V.any, V.any, V.any, V.any, V.any, V.any, V.any, V.any, V.any, V.any, V.any, V.any, V.any, V.any, V.any, V.any, V.any, V.any, V.any, V.any, V.any, V.any, V.any, V.any, V.any, V.any, V.any], [], m⟩
noncomputable def F.tandemref04_Disk_Crash.b3 (C : CallT) (k : Nat) (nx3 : V → V → V → V → V → V → V → V → V → V → Mem → Option (Ex × St)) (t0 t1 t2 t6 t7 t8 t28 t29 t30 t31 : V) (m : Mem) : Option (Ex × St) :=
  ((xLenL t6).bind fun v5 => ((binOpV PP .lss 3 t8 v5).bind fun v6 => (condV v6 (F.tandemref04_Disk_Crash.j7 C k nx3 t0 t1 t2 t6 t7 t8 m) (some (Ex.exit 0, ⟨[t0, V.any, V.any, V.any, V.any, V.any, V.any, V.any, V.any, V.any, V.any, V.any, V.any, V.any, V.any, V.any, V.any, V.any, V.any, V.any, V.any, V.any, V.any, V.any, V.any, V.any, V.any, V.any, V.any, V.any, V.any, V.any, V.any, V.any, V.any, V.any, V.any, V.any, V.any, V.any, V.any, V.any, V.any, V.any, V.any, V.any, V.any, V.any, V.any, V.any, V.any, V.any, V.any, V.any, V.any, V.any, V.any, V.any, V.any, V.any, V.any, V.any, V.any, V.any, V.any, V.any, V.any, V.any, V.any, V.any, V.any, V.any, V.any, V.any, V.any, V.any, V.any], [], m⟩)))))
theorem F.tandemref04_Disk_Crash.l3_succ (C : CallT) (k n : Nat) (t0 t1 t2 t6 t7 t8 t28 t29 t30 t31 : V) (m : Mem) : F.tandemref04_Disk_Crash.l3 C k (n + 1) t0 t1 t2 t6 t7 t8 t28 t29 t30 t31 m = F.tandemref04_Disk_Crash.b3 C k (F.tandemref04_Disk_Crash.l3 C k n) t0 t1 t2 t6 t7 t8 t28 t29 t30 t31 m :=
  (loopD_succ PP cfgB C k n 57 (loopAt Tryd.f57 3) ⟨[t0, t1, t2, V.any, V.any, V.any, t6, t7, t8, V.any, V.any, V.any, V.any, V.any, V.any, V.any, V.any, V.any, V.any, V.any, V.any, V.any, V.any, V.any, V.any, V.any, V.any, V.any, t28, t29, t30, t31, V.any, V.any, V.any, V.any, V.any, V.any, V.any, V.any, V.any, V.any, V.any, V.any, V.any, V.any, V.any, V.any, V.any, V.any, V.any, V.any, V.any, V.any, V.any, V.any, V.any, V.any, V.any, V.any, V.any, V.any, V.any, V.any, V.any, V.any, V.any, V.any, V.any, V.any, V.any, V.any, V.any, V.any, V.any, V.any, V.any], [], m⟩).trans (by kernel_rfl)
noncomputable def F.tandemref04_Disk_Crash.g3 (C : CallT) (k : Nat) : Nat → V → V → V → V → V → V → V → V → V → V → Mem → Option (Ex × St)
  | 0, _, _, _, _, _, _, _, _, _, _, _ => none
  | n + 1, t0, t1, t2, t6, t7, t8, t28, t29, t30, t31, m => F.tandemref04_Disk_Crash.b3 C k (F.tandemref04_Disk_Crash.g3 C k n) t0 t1 t2 t6 t7 t8 t28 t29 t30 t31 m
theorem F.tandemref04_Disk_Crash.g3_succ (C : CallT) (k n : Nat) (t0 t1 t2 t6 t7 t8 t28 t29 t30 t31 : V) (m : Mem) : F.tandemref04_Disk_Crash.g3 C k (n + 1) t0 t1 t2 t6 t7 t8 t28 t29 t30 t31 m = F.tandemref04_Disk_Crash.b3 C k (F.tandemref04_Disk_Crash.g3 C k n) t0 t1 t2 t6 t7 t8 t28 t29 t30 t31 m := rfl
theorem F.tandemref04_Disk_Crash.g3_zero (C : CallT) (k : Nat) (t0 t1 t2 t6 t7 t8 t28 t29 t30 t31 : V) (m : Mem) : F.tandemref04_Disk_Crash.g3 C k 0 t0 t1 t2 t6 t7 t8 t28 t29 t30 t31 m = none := rfl
theorem F.tandemref04_Disk_Crash.l3_eqR (C : CallT) (k : Nat) : ∀ (n : Nat) (t0 t1 t2 t6 t7 t8 t28 t29 t30 t31 : V) (m : Mem), F.tandemref04_Disk_Crash.l3 C k n t0 t1 t2 t6 t7 t8 t28 t29 t30 t31 m = F.tandemref04_Disk_Crash.g3 C k n t0 t1 t2 t6 t7 t8 t28 t29 t30 t31 m
  | 0, _, _, _, _, _, _, _, _, _, _, _ => rfl
  | n + 1, t0, t1, t2, t6, t7, t8, t28, t29, t30, t31, m => by
    have h : F.tandemref04_Disk_Crash.l3 C k n = F.tandemref04_Disk_Crash.g3 C k n := by funext t0 t1 t2 t6 t7 t8 t28 t29 t30 t31 m; exact F.tandemref04_Disk_Crash.l3_eqR C k n t0 t1 t2 t6 t7 t8 t28 t29 t30 t31 m
    rw [F.tandemref04_Disk_Crash.l3_succ, h]
    rfl
noncomputable def F.tandemref04_Disk_Crash.j49 (C : CallT) (k : Nat) (m0 : Mem) (t0 : V) (m : Mem) : Option (Out × Mem) :=
  ((nilChkV t0).bind fun v50 => ((xFA 2 v50).bind fun v51 => ((xStore 1 m v51 (V.bool false)).bind fun m52 => ((nilChkV t0).bind fun v53 => ((xFA 3 v53).bind fun v54 => ((xStore 1 m52 v54 (V.int .i64 (-1))).bind fun m55 => (retV true m0 (V.tuple []) m55)))))))
noncomputable def F.tandemref04_Disk_Crash.L0 (C : CallT) (k : Nat) (a0 a1 a2 : V) (m0 : Mem) : Option (Out × Mem) :=
  (callK (C (.fn id_tandemref04_Disk_Loose) [a0] (⟨m0.objs, m0.objs.length⟩ : Mem)) (fun v1 m2 => ((F.tandemref04_Disk_Crash.l3 C k k a0 a1 a2 v1 (V.int .i64 0) (V.int .i64 0) V.undef V.undef V.undef V.undef m2).bind fun r46 => exK r46.1 (F.tandemref04_Disk_Crash.j49 C k m0 (r46.2.env.getD 0 .any) r46.2.mem) (fun i47 => (if i47 = 0 then (F.tandemref04_Disk_Crash.j49 C k m0 (r46.2.env.getD 0 .any) r46.2.mem) else none)) (retV true m0 (V.tuple []) r46.2.mem) (fun q48 => none))) (fun q3 m4 => none))
noncomputable def F.tandemref04_Disk_Crash (C : CallT) (k : Nat) (a0 a1 a2 : V) (m0 : Mem) : Option (Out × Mem) :=
  (callK (C (.fn id_tandemref04_Disk_Loose) [a0] (⟨m0.objs, m0.objs.length⟩ : Mem)) (fun v1 m2 => ((F.tandemref04_Disk_Crash.g3 C k k a0 a1 a2 v1 (V.int .i64 0) (V.int .i64 0) V.undef V.undef V.undef V.undef m2).bind fun r46 => exK r46.1 (F.tandemref04_Disk_Crash.j49 C k m0 (r46.2.env.getD 0 .any) r46.2.mem) (fun i47 => (if i47 = 0 then (F.tandemref04_Disk_Crash.j49 C k m0 (r46.2.env.getD 0 .any) r46.2.mem) else none)) (retV true m0 (V.tuple []) r46.2.mem) (fun q48 => none))) (fun q3 m4 => none))
theorem F.tandemref04_Disk_Crash.L0_eqR (C : CallT) (k : Nat) (a0 a1 a2 : V) (m0 : Mem) : F.tandemref04_Disk_Crash.L0 C k a0 a1 a2 m0 = F.tandemref04_Disk_Crash C k a0 a1 a2 m0 := by
  unfold F.tandemref04_Disk_Crash.L0 F.tandemref04_Disk_Crash
  simp only [F.tandemref04_Disk_Crash.l3_eqR]
theorem F.tandemref04_Disk_Crash.of (C : CallT) (k : Nat) (a0 a1 a2 : V) (m0 : Mem) : fnK PP cfgB C k id_tandemref04_Disk_Crash Tryd.f57 F.tandemref04_Disk_Crash_body [a0, a1, a2] m0 = F.tandemref04_Disk_Crash C k a0 a1 a2 m0 :=
  (show _ = F.tandemref04_Disk_Crash.L0 C k a0 a1 a2 m0 by kernel_rfl).trans (F.tandemref04_Disk_Crash.L0_eqR _ _ _ _ _ _)
theorem F.tandemref04_Disk_Crash.eqG (cfg : Cfg) (hp : cfg.plain = cfgB) (hs : cfg.sum id_tandemref04_Disk_Crash = none) (k : Nat) (a0 a1 a2 : V) (m0 : Mem) : icall PP cfg (k + 1) (.fn id_tandemref04_Disk_Crash) [a0, a1, a2] m0 = F.tandemref04_Disk_Crash (icall PP cfg k) k a0 a1 a2 m0 :=
  (icall_eq PP cfg hp k id_tandemref04_Disk_Crash Tryd.f57 F.tandemref04_Disk_Crash_body [a0, a1, a2] m0 hs (by kernel_rfl) (by kernel_rfl)).trans (F.tandemref04_Disk_Crash.of _ _ _ _ _ _)
noncomputable def F.disk_Disk_Turn_body : Code := (Tryd.f58.body).getD .skip
noncomputable def F.disk_Disk_Turn.j13 (C : CallT) (k : Nat) (m0 : Mem) (t0 t1 t2 t3 : V) (m : Mem) : Option (Out × Mem) :=
  ((nilChkV t0).bind fun v14 => ((xFA 0 v14).bind fun v15 => ((xLoad false 1 m v15).bind fun v16 => ((xIS 64 v16 t1).bind fun v17 => ((xIA 64 1 v17 t2).bind fun v18 => ((xLoad false 1 m v18).bind fun v19 => ((binOpV PP .xor 5 v19 t3).bind fun v20 => ((xIS 64 v16 t1).bind fun v21 => ((xIA 64 1 v21 t2).bind fun v22 => ((xStore 1 m v22 v20).bind fun m23 => (retV true m0 (V.int .i64 0) m23)))))))))))
noncomputable def F.disk_Disk_Turn.j12 (C : CallT) (k : Nat) (m0 : Mem) (t0 t1 t2 t3 t12 : V) (m : Mem) : Option (Out × Mem) :=
  (condV t12 (retV true m0 (V.int .i64 5) m) (F.disk_Disk_Turn.j13 C k m0 t0 t1 t2 t3 m))
noncomputable def F.disk_Disk_Turn (C : CallT) (k : Nat) (a0 a1 a2 a3 : V) (m0 : Mem) : Option (Out × Mem) :=
  (callK (C (.fn id_disk_Disk_none) [a0] (⟨m0.objs, m0.objs.length⟩ : Mem)) (fun v1 m2 => (condV v1 (retV true m0 (V.int .i64 1) m2) (callK (C (.fn id_disk_Disk_there) [a0, a1] m2) (fun v5 m6 => ((unOpV .not v5).bind fun v9 => (gate2 v9 false ((binOpV PP .lss 3 a2 (V.int .i64 0)).bind fun v10 => (gate2 v10 false ((binOpV PP .geq 3 a2 (V.int .i64 64)).bind fun v11 => (F.disk_Disk_Turn.j12 C k m0 a0 a1 a2 a3 v11 m6)) (F.disk_Disk_Turn.j12 C k m0 a0 a1 a2 a3 (V.bool true) m6))) (F.disk_Disk_Turn.j12 C k m0 a0 a1 a2 a3 (V.bool true) m6)))) (fun q7 m8 => none)))) (fun q3 m4 => none))
theorem F.disk_Disk_Turn.of (C : CallT) (k : Nat) (a0 a1 a2 a3 : V) (m0 : Mem) : fnK PP cfgB C k id_disk_Disk_Turn Tryd.f58 F.disk_Disk_Turn_body [a0, a1, a2, a3] m0 = F.disk_Disk_Turn C k a0 a1 a2 a3 m0 :=
  by kernel_rfl
theorem F.disk_Disk_Turn.eqG (cfg : Cfg) (hp : cfg.plain = cfgB) (hs : cfg.sum id_disk_Disk_Turn = none) (k : Nat) (a0 a1 a2 a3 : V) (m0 : Mem) : icall PP cfg (k + 1) (.fn id_disk_Disk_Turn) [a0, a1, a2, a3] m0 = F.disk_Disk_Turn (icall PP cfg k) k a0 a1 a2 a3 m0 :=
  (icall_eq PP cfg hp k id_disk_Disk_Turn Tryd.f58 F.disk_Disk_Turn_body [a0, a1, a2, a3] m0 hs (by kernel_rfl) (by kernel_rfl)).trans (F.disk_Disk_Turn.of _ _ _ _ _ _ _)
noncomputable def F.tandemref04_Disk_Turn_body : Code := (Tryd.f59.body).getD .skip
noncomputable def F.tandemref04_Disk_Turn.j9 (C : CallT) (k : Nat) (m0 : Mem) (t0 t1 t2 t3 : V) (m : Mem) : Option (Out × Mem) :=
  ((xBuildSl 1 true [(V.u8 0)] m 0 []).bind fun r10 => ((nilChkV t0).bind fun v11 => ((xFA 0 v11).bind fun v12 => ((xLoad false 1 r10.2 v12).bind fun v13 => ((xIS 1 v13 t1).bind fun v14 => ((xLoad false 1 r10.2 v14).bind fun v15 => ((xApp 1 1 true r10.2 r10.1 v15).bind fun r16 => ((xIS 1 r16.1 t2).bind fun v17 => ((xLoad false 1 r16.2 v17).bind fun v18 => ((binOpV PP .xor 5 v18 t3).bind fun v19 => ((xIS 1 r16.1 t2).bind fun v20 => ((xStore 1 r16.2 v20 v19).bind fun m21 => ((nilChkV t0).bind fun v22 => ((xFA 0 v22).bind fun v23 => ((xLoad false 1 m21 v23).bind fun v24 => ((xIS 1 v24 t1).bind fun v25 => ((xStore 1 m21 v25 r16.1).bind fun m26 => (retV true m0 (V.int .i64 0) m26))))))))))))))))))
noncomputable def F.tandemref04_Disk_Turn.j8 (C : CallT) (k : Nat) (m0 : Mem) (t0 t1 t2 t3 t21 : V) (m : Mem) : Option (Out × Mem) :=
  (condV t21 (retV true m0 (V.int .i64 5) m) (F.tandemref04_Disk_Turn.j9 C k m0 t0 t1 t2 t3 m))
noncomputable def F.tandemref04_Disk_Turn (C : CallT) (k : Nat) (a0 a1 a2 a3 : V) (m0 : Mem) : Option (Out × Mem) :=
  (callK (C (.fn id_tandemref04_Disk_there) [a0, a1] (⟨m0.objs, m0.objs.length⟩ : Mem)) (fun v1 m2 => ((unOpV .not v1).bind fun v5 => (gate2 v5 false ((binOpV PP .lss 3 a2 (V.int .i64 0)).bind fun v6 => (gate2 v6 false ((binOpV PP .geq 3 a2 (V.int .i64 64)).bind fun v7 => (F.tandemref04_Disk_Turn.j8 C k m0 a0 a1 a2 a3 v7 m2)) (F.tandemref04_Disk_Turn.j8 C k m0 a0 a1 a2 a3 (V.bool true) m2))) (F.tandemref04_Disk_Turn.j8 C k m0 a0 a1 a2 a3 (V.bool true) m2)))) (fun q3 m4 => none))
theorem F.tandemref04_Disk_Turn.of (C : CallT) (k : Nat) (a0 a1 a2 a3 : V) (m0 : Mem) : fnK PP cfgB C k id_tandemref04_Disk_Turn Tryd.f59 F.tandemref04_Disk_Turn_body [a0, a1, a2, a3] m0 = F.tandemref04_Disk_Turn C k a0 a1 a2 a3 m0 :=
  by kernel_rfl
theorem F.tandemref04_Disk_Turn.eqG (cfg : Cfg) (hp : cfg.plain = cfgB) (hs : cfg.sum id_tandemref04_Disk_Turn = none) (k : Nat) (a0 a1 a2 a3 : V) (m0 : Mem) : icall PP cfg (k + 1) (.fn id_tandemref04_Disk_Turn) [a0, a1, a2, a3] m0 = F.tandemref04_Disk_Turn (icall PP cfg k) k a0 a1 a2 a3 m0 :=
  (icall_eq PP cfg hp k id_tandemref04_Disk_Turn Tryd.f59 F.tandemref04_Disk_Turn_body [a0, a1, a2, a3] m0 hs (by kernel_rfl) (by kernel_rfl)).trans (F.tandemref04_Disk_Turn.of _ _ _ _ _ _ _)
noncomputable def F.tandemref04_Disk_Fuse_body : Code := (Tryd.f60.body).getD .skip
noncomputable def F.tandemref04_Disk_Fuse.j6 (C : CallT) (k : Nat) (m0 : Mem) (t0 t1 : V) (m : Mem) : Option (Out × Mem) :=
  ((nilChkV t0).bind fun v7 => ((xFA 3 v7).bind fun v8 => ((xStore 1 m v8 t1).bind fun m9 => (retV true m0 (V.int .i64 0) m9))))
noncomputable def F.tandemref04_Disk_Fuse.j4 (C : CallT) (k : Nat) (m0 : Mem) (t0 t1 : V) (m : Mem) : Option (Out × Mem) :=
  ((binOpV PP .lss 3 t1 (V.int .i64 0)).bind fun v5 => (condV v5 (retV true m0 (V.int .i64 2) m) (F.tandemref04_Disk_Fuse.j6 C k m0 t0 t1 m)))
noncomputable def F.tandemref04_Disk_Fuse (C : CallT) (k : Nat) (a0 a1 : V) (m0 : Mem) : Option (Out × Mem) :=
  ((nilChkV a0).bind fun v1 => ((xFA 2 v1).bind fun v2 => ((xLoad false 1 (⟨m0.objs, m0.objs.length⟩ : Mem) v2).bind fun v3 => (condV v3 (retV true m0 (V.int .i64 10) (⟨m0.objs, m0.objs.length⟩ : Mem)) (F.tandemref04_Disk_Fuse.j4 C k m0 a0 a1 (⟨m0.objs, m0.objs.length⟩ : Mem))))))
theorem F.tandemref04_Disk_Fuse.of (C : CallT) (k : Nat) (a0 a1 : V) (m0 : Mem) : fnK PP cfgB C k id_tandemref04_Disk_Fuse Tryd.f60 F.tandemref04_Disk_Fuse_body [a0, a1] m0 = F.tandemref04_Disk_Fuse C k a0 a1 m0 :=
  by kernel_rfl
theorem F.tandemref04_Disk_Fuse.eqG (cfg : Cfg) (hp : cfg.plain = cfgB) (hs : cfg.sum id_tandemref04_Disk_Fuse = none) (k : Nat) (a0 a1 : V) (m0 : Mem) : icall PP cfg (k + 1) (.fn id_tandemref04_Disk_Fuse) [a0, a1] m0 = F.tandemref04_Disk_Fuse (icall PP cfg k) k a0 a1 m0 :=
  (icall_eq PP cfg hp k id_tandemref04_Disk_Fuse Tryd.f60 F.tandemref04_Disk_Fuse_body [a0, a1] m0 hs (by kernel_rfl) (by kernel_rfl)).trans (F.tandemref04_Disk_Fuse.of _ _ _ _ _)
noncomputable def F.disk_Disk_Ops_body : Code := (Tryd.f61.body).getD .skip
noncomputable def F.disk_Disk_Ops.j5 (C : CallT) (k : Nat) (m0 : Mem) (t0 : V) (m : Mem) : Option (Out × Mem) :=
  ((nilChkV t0).bind fun v6 => ((xFA 4 v6).bind fun v7 => (callK (C (.fn id_sync_atomic_Int64_Load) [v7] m) (fun v8 m9 => (retV true m0 v8 m9)) (fun q10 m11 => none))))
noncomputable def F.disk_Disk_Ops (C : CallT) (k : Nat) (a0 : V) (m0 : Mem) : Option (Out × Mem) :=
  (callK (C (.fn id_disk_Disk_none) [a0] (⟨m0.objs, m0.objs.length⟩ : Mem)) (fun v1 m2 => (condV v1 (retV true m0 (V.int .i64 0) m2) (F.disk_Disk_Ops.j5 C k m0 a0 m2))) (fun q3 m4 => none))
theorem F.disk_Disk_Ops.of (C : CallT) (k : Nat) (a0 : V) (m0 : Mem) : fnK PP cfgB C k id_disk_Disk_Ops Tryd.f61 F.disk_Disk_Ops_body [a0] m0 = F.disk_Disk_Ops C k a0 m0 :=
  by kernel_rfl
theorem F.disk_Disk_Ops.eqG (cfg : Cfg) (hp : cfg.plain = cfgB) (hs : cfg.sum id_disk_Disk_Ops = none) (k : Nat) (a0 : V) (m0 : Mem) : icall PP cfg (k + 1) (.fn id_disk_Disk_Ops) [a0] m0 = F.disk_Disk_Ops (icall PP cfg k) k a0 m0 :=
  (icall_eq PP cfg hp k id_disk_Disk_Ops Tryd.f61 F.disk_Disk_Ops_body [a0] m0 hs (by kernel_rfl) (by kernel_rfl)).trans (F.disk_Disk_Ops.of _ _ _ _)
noncomputable def F.disk_Disk_Up_body : Code := (Tryd.f62.body).getD .skip
noncomputable def F.disk_Disk_Up (C : CallT) (k : Nat) (a0 : V) (m0 : Mem) : Option (Out × Mem) :=
  (callK (C (.fn id_disk_Disk_none) [a0] (⟨m0.objs, m0.objs.length⟩ : Mem)) (fun v1 m2 => ((unOpV .not v1).bind fun v5 => (gate2 v5 true ((nilChkV a0).bind fun v6 => ((xFA 3 v6).bind fun v7 => ((xLoad false 1 m2 v7).bind fun v8 => ((unOpV .not v8).bind fun v9 => (retV true m0 v9 m2))))) (retV true m0 (V.bool false) m2)))) (fun q3 m4 => none))
theorem F.disk_Disk_Up.of (C : CallT) (k : Nat) (a0 : V) (m0 : Mem) : fnK PP cfgB C k id_disk_Disk_Up Tryd.f62 F.disk_Disk_Up_body [a0] m0 = F.disk_Disk_Up C k a0 m0 :=
  by kernel_rfl
theorem F.disk_Disk_Up.eqG (cfg : Cfg) (hp : cfg.plain = cfgB) (hs : cfg.sum id_disk_Disk_Up = none) (k : Nat) (a0 : V) (m0 : Mem) : icall PP cfg (k + 1) (.fn id_disk_Disk_Up) [a0] m0 = F.disk_Disk_Up (icall PP cfg k) k a0 m0 :=
  (icall_eq PP cfg hp k id_disk_Disk_Up Tryd.f62 F.disk_Disk_Up_body [a0] m0 hs (by kernel_rfl) (by kernel_rfl)).trans (F.disk_Disk_Up.of _ _ _ _)
noncomputable def F.fixed_lay_body : Code := (Tryd.f63.body).getD .skip
noncomputable def F.fixed_lay.j9 (C : CallT) (k : Nat) (nx3 : V → V → V → V → Mem → Option (Ex × St)) (t0 t1 t5 t7 : V) (m : Mem) : Option (Ex × St) :=
  ((binOpV PP .add 3 t7 (V.int .i64 1)).bind fun v10 => (nx3 t0 t1 t5 v10 m))
noncomputable def F.fixed_lay.j3 (C : CallT) (k : Nat) (nx3 : V → V → V → V → Mem → Option (Ex × St)) (t0 t1 t5 t7 : V) (m : Mem) : Option (Ex × St) :=
  ((binOpV PP .mul 3 (V.int .i64 8) t7).bind fun v4 => ((binOpV PP .shr 82 t0 v4).bind fun v5 => ((xConvI .u8 v5).bind fun v6 => ((xIA 8 1 t5 t7).bind fun v7 => ((xStore 1 m v7 v6).bind fun m8 => (F.fixed_lay.j9 C k nx3 t0 t1 t5 t7 m8))))))
noncomputable def F.fixed_lay.l3 (C : CallT) (k n : Nat) (t0 t1 t5 t7 : V) (m : Mem) : Option (Ex × St) := loopD PP cfgB C k n 63 (loopAt Tryd.f63 3) ⟨[t0, t1, V.any, V.any, V.any, t5, V.any, t7, V.any, V.any, V.any, V.any, V.any, V.any, V.any, V.any, V.any, V.any, V.any, V.any, V.any, V.any], [], m⟩
noncomputable def F.fixed_lay.b3 (C : CallT) (k : Nat) (nx3 : V → V → V → V → Mem → Option (Ex × St)) (t0 t1 t5 t7 : V) (m : Mem) : Option (Ex × St) :=
  ((binOpV PP .lss 3 t7 (V.int .i64 8)).bind fun v2 => (condV v2 (F.fixed_lay.j3 C k nx3 t0 t1 t5 t7 m) (some (Ex.exit 0, ⟨[V.any, t1, V.any, V.any, V.any, t5, V.any, V.any, V.any, V.any, V.any, V.any, V.any, V.any, V.any, V.any, V.any, V.any, V.any, V.any, V.any, V.any], [], m⟩))))
theorem F.fixed_lay.l3_succ (C : CallT) (k n : Nat) (t0 t1 t5 t7 : V) (m : Mem) : F.fixed_lay.l3 C k (n + 1) t0 t1 t5 t7 m = F.fixed_lay.b3 C k (F.fixed_lay.l3 C k n) t0 t1 t5 t7 m :=
  (loopD_succ PP cfgB C k n 63 (loopAt Tryd.f63 3) ⟨[t0, t1, V.any, V.any, V.any, t5, V.any, t7, V.any, V.any, V.any, V.any, V.any, V.any, V.any, V.any, V.any, V.any, V.any, V.any, V.any, V.any], [], m⟩).trans (by kernel_rfl)
noncomputable def F.fixed_lay.g3 (C : CallT) (k : Nat) : Nat → V → V → V → V → Mem → Option (Ex × St)
  | 0, _, _, _, _, _ => none
  | n + 1, t0, t1, t5, t7, m => F.fixed_lay.b3 C k (F.fixed_lay.g3 C k n) t0 t1 t5 t7 m
theorem F.fixed_lay.g3_succ (C : CallT) (k n : Nat) (t0 t1 t5 t7 : V) (m : Mem) : F.fixed_lay.g3 C k (n + 1) t0 t1 t5 t7 m = F.fixed_lay.b3 C k (F.fixed_lay.g3 C k n) t0 t1 t5 t7 m := rfl
theorem F.fixed_lay.g3_zero (C : CallT) (k : Nat) (t0 t1 t5 t7 : V) (m : Mem) : F.fixed_lay.g3 C k 0 t0 t1 t5 t7 m = none := rfl
theorem F.fixed_lay.l3_eqR (C : CallT) (k : Nat) : ∀ (n : Nat) (t0 t1 t5 t7 : V) (m : Mem), F.fixed_lay.l3 C k n t0 t1 t5 t7 m = F.fixed_lay.g3 C k n t0 t1 t5 t7 m
  | 0, _, _, _, _, _ => rfl
  | n + 1, t0, t1, t5, t7, m => by
    have h : F.fixed_lay.l3 C k n = F.fixed_lay.g3 C k n := by funext t0 t1 t5 t7 m; exact F.fixed_lay.l3_eqR C k n t0 t1 t5 t7 m
    rw [F.fixed_lay.l3_succ, h]
    rfl
noncomputable def F.fixed_lay.j14 (C : CallT) (k : Nat) (m0 : Mem) (t1 t5 : V) (m : Mem) : Option (Out × Mem) :=
  ((xBuildSl 1 true [(V.u8 0)] m 0 []).bind fun r15 => ((xSlA r15.2 8 1 t5 none (some t1) none).bind fun v16 => ((xApp 1 1 true r15.2 r15.1 v16).bind fun r17 => (retV true m0 r17.1 r17.2))))
noncomputable def F.fixed_lay.L0 (C : CallT) (k : Nat) (a0 a1 : V) (m0 : Mem) : Option (Out × Mem) :=
  ((xNew true [(V.u8 0),(V.u8 0),(V.u8 0),(V.u8 0),(V.u8 0),(V.u8 0),(V.u8 0),(V.u8 0)] (⟨m0.objs, m0.objs.length⟩ : Mem)).bind fun r1 => ((F.fixed_lay.l3 C k k a0 a1 r1.1 (V.int .i64 0) r1.2).bind fun r11 => exK r11.1 (F.fixed_lay.j14 C k m0 (r11.2.env.getD 1 .any) (r11.2.env.getD 5 .any) r11.2.mem) (fun i12 => (if i12 = 0 then (F.fixed_lay.j14 C k m0 (r11.2.env.getD 1 .any) (r11.2.env.getD 5 .any) r11.2.mem) else none)) (retV true m0 (r11.2.env.getD 4 .any) r11.2.mem) (fun q13 => none)))
noncomputable def F.fixed_lay (C : CallT) (k : Nat) (a0 a1 : V) (m0 : Mem) : Option (Out × Mem) :=
  ((xNew true [(V.u8 0),(V.u8 0),(V.u8 0),(V.u8 0),(V.u8 0),(V.u8 0),(V.u8 0),(V.u8 0)] (⟨m0.objs, m0.objs.length⟩ : Mem)).bind fun r1 => ((F.fixed_lay.g3 C k k a0 a1 r1.1 (V.int .i64 0) r1.2).bind fun r11 => exK r11.1 (F.fixed_lay.j14 C k m0 (r11.2.env.getD 1 .any) (r11.2.env.getD 5 .any) r11.2.mem) (fun i12 => (if i12 = 0 then (F.fixed_lay.j14 C k m0 (r11.2.env.getD 1 .any) (r11.2.env.getD 5 .any) r11.2.mem) else none)) (retV true m0 (r11.2.env.getD 4 .any) r11.2.mem) (fun q13 => none)))
theorem F.fixed_lay.L0_eqR (C : CallT) (k : Nat) (a0 a1 : V) (m0 : Mem) : F.fixed_lay.L0 C k a0 a1 m0 = F.fixed_lay C k a0 a1 m0 := by
  unfold F.fixed_lay.L0 F.fixed_lay
  simp only [F.fixed_lay.l3_eqR]
theorem F.fixed_lay.of (C : CallT) (k : Nat) (a0 a1 : V) (m0 : Mem) : fnK PP cfgB C k id_fixed_lay Tryd.f63 F.fixed_lay_body [a0, a1] m0 = F.fixed_lay C k a0 a1 m0 :=
  (show _ = F.fixed_lay.L0 C k a0 a1 m0 by kernel_rfl).trans (F.fixed_lay.L0_eqR _ _ _ _ _)
theorem F.fixed_lay.eqG (cfg : Cfg) (hp : cfg.plain = cfgB) (hs : cfg.sum id_fixed_lay = none) (k : Nat) (a0 a1 : V) (m0 : Mem) : icall PP cfg (k + 1) (.fn id_fixed_lay) [a0, a1] m0 = F.fixed_lay (icall PP cfg k) k a0 a1 m0 :=
  (icall_eq PP cfg hp k id_fixed_lay Tryd.f63 F.fixed_lay_body [a0, a1] m0 hs (by kernel_rfl) (by kernel_rfl)).trans (F.fixed_lay.of _ _ _ _ _)
end Go.Ig
