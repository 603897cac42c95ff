/-
  Pieces of functions, by themselves.
-/
import Derived.Test.YtcnjllnnhcafbaaDoorIgCfg
import Derived.Test.YtcnjllnnhcafbaaDoorIgRange
set_option maxRecDepth 100000
set_option linter.unusedVariables false
namespace Go.Ig
open Go Go.Proofs
noncomputable def F.disk_Disk_Flush.j20 (C : CallT) (k : Nat) (t0 t1 t2 t5 t6 t7 t8 t9 t10 t11 t12 t13 t14 t15 t16 t17 t18 t19 t20 t21 t22 t23 t24 t35 t36 t37 t38 : V) (m : Mem) : Option (Ex × St) :=
  ((entryV m t22).bind fun v21 => ((extractV v21 0).bind fun v22 => ((extractV v21 1).bind fun v23 => ((xNew true [(V.u8 0),(V.u8 0),(V.u8 0),(V.u8 0),(V.u8 0),(V.u8 0),(V.u8 0),(V.u8 0),(V.u8 0),(V.u8 0),(V.u8 0),(V.u8 0),(V.u8 0),(V.u8 0),(V.u8 0),(V.u8 0),(V.u8 0),(V.u8 0),(V.u8 0),(V.u8 0),(V.u8 0),(V.u8 0),(V.u8 0),(V.u8 0),(V.u8 0),(V.u8 0),(V.u8 0),(V.u8 0),(V.u8 0),(V.u8 0),(V.u8 0),(V.u8 0),(V.u8 0),(V.u8 0),(V.u8 0),(V.u8 0),(V.u8 0),(V.u8 0),(V.u8 0),(V.u8 0),(V.u8 0),(V.u8 0),(V.u8 0),(V.u8 0),(V.u8 0),(V.u8 0),(V.u8 0),(V.u8 0),(V.u8 0),(V.u8 0),(V.u8 0),(V.u8 0),(V.u8 0),(V.u8 0),(V.u8 0),(V.u8 0),(V.u8 0),(V.u8 0),(V.u8 0),(V.u8 0),(V.u8 0),(V.u8 0),(V.u8 0),(V.u8 0)] m).bind fun r24 => ((xStore 64 r24.2 r24.1 v23).bind fun m25 => ((nilChkV t0).bind fun v26 => ((xFA 0 v26).bind fun v27 => ((xLoad false 1 m25 v27).bind fun v28 => ((xLoad true 64 m25 r24.1).bind fun v29 => ((xIS 64 v28 v22).bind fun v30 => ((xStore 64 m25 v30 v29).bind fun m31 => (some (Ex.normal, ⟨[t0, t1, t2, v22, r24.1, t5, t6, t7, t8, t9, t10, t11, t12, t13, t14, t15, t16, t17, t18, t19, t20, t21, t22, t23, t24, v21, v22, v23, t0, v26, v27, v28, v22, v29, v30, t35, t36, t37, t38], [], m31⟩)))))))))))))
noncomputable def F.disk_Disk_Flush.r6_code : Code := tailOf (loopAt Tryd.f54 6)
theorem F.disk_Disk_Flush.r6 (k : Nat) (t0 t1 t2 t3 t4 t5 t6 t7 t8 t9 t10 t11 t12 t13 t14 t15 t16 t17 t18 t19 t20 t21 t22 t23 t24 t25 t26 t27 t28 t29 t30 t31 t32 t33 t34 t35 t36 t37 t38 : V) (m : Mem) : iev PP cfgH noCall k 54 F.disk_Disk_Flush.r6_code ⟨[t0, t1, t2, t3, t4, t5, t6, t7, t8, t9, t10, t11, t12, t13, t14, t15, t16, t17, t18, t19, t20, t21, t22, t23, t24, t25, t26, t27, t28, t29, t30, t31, t32, t33, t34, t35, t36, t37, t38], [], m⟩ =
  (condV t24 (F.disk_Disk_Flush.j20 noCall k t0 t1 t2 t5 t6 t7 t8 t9 t10 t11 t12 t13 t14 t15 t16 t17 t18 t19 t20 t21 t22 t23 t24 t35 t36 t37 t38 m) (some (Ex.exit 1, ⟨[t0, t1, t2, t3, t4, t5, t6, t7, t8, t9, t10, t11, t12, t13, t14, t15, t16, t17, t18, t19, t20, t21, t22, t23, t24, t25, t26, t27, t28, t29, t30, t31, t32, t33, t34, t35, t36, t37, t38], [], m⟩))) := (evK_raw _ _ _ _ _ _ _).symm.trans (by kernel_rfl)
end Go.Ig
