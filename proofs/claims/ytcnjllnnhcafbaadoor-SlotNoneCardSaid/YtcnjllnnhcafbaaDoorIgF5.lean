/-
  The functions of the seat's program, one by one, as the evaluator goes through them.
-/
import Derived.Test.YtcnjllnnhcafbaaDoorIgB
set_option maxRecDepth 100000
set_option linter.unusedVariables false
set_option linter.unusedSimpArgs false
namespace Go.Ig
open Go Go.Proofs
noncomputable def F.cmp_isNaN_body : Code := (Tryd.f108.body).getD .skip
noncomputable def F.cmp_isNaN (C : CallT) (k : Nat) (a0 : V) (m0 : Mem) : Option (Out × Mem) :=
  ((binOpV PP .neq 3 a0 a0).bind fun v1 => (retV true m0 v1 (⟨m0.objs, m0.objs.length⟩ : Mem)))
theorem F.cmp_isNaN.of (C : CallT) (k : Nat) (a0 : V) (m0 : Mem) : fnK PP cfgB C k id_cmp_isNaN Tryd.f108 F.cmp_isNaN_body [a0] m0 = F.cmp_isNaN C k a0 m0 :=
  by kernel_rfl
theorem F.cmp_isNaN.eqG (cfg : Cfg) (hp : cfg.plain = cfgB) (hs : cfg.sum id_cmp_isNaN = none) (k : Nat) (a0 : V) (m0 : Mem) : icall PP cfg (k + 1) (.fn id_cmp_isNaN) [a0] m0 = F.cmp_isNaN (icall PP cfg k) k a0 m0 :=
  (icall_eq PP cfg hp k id_cmp_isNaN Tryd.f108 F.cmp_isNaN_body [a0] m0 hs (by kernel_rfl) (by kernel_rfl)).trans (F.cmp_isNaN.of _ _ _ _)
noncomputable def F.slices_order2Ordered_body : Code := (Tryd.f109.body).getD .skip
noncomputable def F.slices_order2Ordered.j14 (C : CallT) (k : Nat) (m0 : Mem) (t1 t2 : V) (m : Mem) : Option (Out × Mem) :=
  (retV true m0 (V.tuple [t1, t2]) m)
noncomputable def F.slices_order2Ordered (C : CallT) (k : Nat) (a0 a1 a2 a3 : V) (m0 : Mem) : Option (Out × Mem) :=
  ((xIS 1 a0 a2).bind fun v1 => ((xLoad false 1 (⟨m0.objs, m0.objs.length⟩ : Mem) v1).bind fun v2 => ((xIS 1 a0 a1).bind fun v3 => ((xLoad false 1 (⟨m0.objs, m0.objs.length⟩ : Mem) v3).bind fun v4 => (callK (C (.fn id_cmp_Less) [v2, v4] (⟨m0.objs, m0.objs.length⟩ : Mem)) (fun v5 m6 => (condV v5 ((nilChkV a3).bind fun v9 => ((xLoad false 1 m6 v9).bind fun v10 => ((binOpV PP .add 3 v10 (V.int .i64 1)).bind fun v11 => ((nilChkV a3).bind fun v12 => ((xStore 1 m6 v12 v11).bind fun m13 => (retV true m0 (V.tuple [a2, a1]) m13)))))) (F.slices_order2Ordered.j14 C k m0 a1 a2 m6))) (fun q7 m8 => none))))))
theorem F.slices_order2Ordered.of (C : CallT) (k : Nat) (a0 a1 a2 a3 : V) (m0 : Mem) : fnK PP cfgB C k id_slices_order2Ordered Tryd.f109 F.slices_order2Ordered_body [a0, a1, a2, a3] m0 = F.slices_order2Ordered C k a0 a1 a2 a3 m0 :=
  by kernel_rfl
theorem F.slices_order2Ordered.eqG (cfg : Cfg) (hp : cfg.plain = cfgB) (hs : cfg.sum id_slices_order2Ordered = none) (k : Nat) (a0 a1 a2 a3 : V) (m0 : Mem) : icall PP cfg (k + 1) (.fn id_slices_order2Ordered) [a0, a1, a2, a3] m0 = F.slices_order2Ordered (icall PP cfg k) k a0 a1 a2 a3 m0 :=
  (icall_eq PP cfg hp k id_slices_order2Ordered Tryd.f109 F.slices_order2Ordered_body [a0, a1, a2, a3] m0 hs (by kernel_rfl) (by kernel_rfl)).trans (F.slices_order2Ordered.of _ _ _ _ _ _ _)
end Go.Ig
