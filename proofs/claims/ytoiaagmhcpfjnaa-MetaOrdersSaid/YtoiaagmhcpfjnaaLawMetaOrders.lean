/-
  For every input, without condition, the law MetaOrders holds of the given program: the call returns true, and what was handed in reads as it did.
-/
import Derived.Test.YtoiaagmhcpfjnaaRows
import Derived.Test.YtoiaagmhcpfjnaaPr1
import Derived.Test.YtoiaagmhcpfjnaaIgRow
namespace Go.Proofs.Ytoiaagmhcpfjnaa.metaOrdersDone
open Go Go.ChangeShapes Go.WideShapes Go.ChangeAt Go.RowKit Go.Ig
set_option linter.unusedVariables false

theorem own : ownKnob Try.prog.godebug = none := by kernel_rfl
theorem laidOut : laidOutB Try.prog = true := by kernel_rfl
set_option maxRecDepth 100000 in
theorem lifted (os : Os) (started : os.Started) (H : Type) (enc : TypeId × Value → H) :
    ReturnsInHanded {} Try.checked os 3 .any (Rows.metaOrdersSpec.pre6 enc Try.prog Try.f3 Rows.metaOrdersRow.domain false) (Rows.metaOrdersSpec.post enc Try.prog Try.f3 false true false false) := by
  refine returnsInHanded_of_change (C := Try.checked) own started (by kernel_rfl) Try.func3
    (ChangeSpec.witness6 (enc := enc) (C := Try.checked) false ⟨#[], #[.agg #[.int .i64 0, .int .i64 0, .int .i64 0], .agg #[.int .i64 0, .int .i64 0, .int .i64 0], .agg #[.int .i64 0, .int .i64 0, .int .i64 0]], []⟩ 8 (by kernel_rfl) (by kernel_rfl) (by kernel_rfl) (by kernel_rfl)) ?_
  intro W base args ds gs before hval hW hcnd _
  have hW' := hW
  obtain ⟨p, q, hA0, hV, rfl, hfz, hnd⟩ := hW
  have hA : DataW.TrodAll enc Try.prog W 0 (fun _ => true) true Try.f3.params.toList args.toList ds p := hA0
  clear hA0
  obtain ⟨rfl, rfl⟩ := trodVars_none hV
  refine (law_calls hmix hXT hST hN (d := 12) (tl := Try.f3.params.toList) (tys := [tyRec, tyRec, tyRec]) (by kernel_rfl) hA (vals_of hval) (MR.none hG W) metaOrders_law).mono fun e W' ⟨he, bel⟩ => ?_
  subst he
  have hag := again laidOut bel (by kernel_rfl) hA
  have hlen := (trodAll_len hA).1
  rw [Try.params3] at hlen
  rcases ds with _ | ⟨d0, ds⟩
  · simp at hlen
  rcases ds with _ | ⟨d1, ds⟩
  · simp at hlen
  rcases ds with _ | ⟨d2, ds⟩
  · simp at hlen
  rcases ds with _ | ⟨e, ds⟩
  rotate_left
  · simp at hlen
  exact ⟨_, rfl, _, _, _, [], _, [], hW', trodAll_mk1 (shut_bool Try.underlying4 _), hag, rfl, bel.frame _, fun h => by cases h⟩

theorem over : Rows.metaOrdersRow.holds Try.pinned (OpenSpec.ofChange Rows.metaOrdersSpec) :=
  OpenClaim.holds_of_wide 3 Try.f3 rfl rfl rfl rfl rfl rfl rfl ⟨rfl, rfl, rfl, rfl, rfl⟩ rfl rfl rfl rfl rfl (by kernel_rfl) Try.func3 (by kernel_rfl)
    (of_decide_eq_true (by kernel_rfl)) (by unfold Func.isWrapper; first | (rw [if_pos (by decide +kernel)]; kernel_rfl) | (rw [if_neg (by decide +kernel)]; exact ⟨rfl, rfl⟩))
    (fun os started H enc _ => lifted os started H enc)

theorem proved : Rows.MetaOrdersSaid := over
#print axioms proved
end Go.Proofs.Ytoiaagmhcpfjnaa.metaOrdersDone
