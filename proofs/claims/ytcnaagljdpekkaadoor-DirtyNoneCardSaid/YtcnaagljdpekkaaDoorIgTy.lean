/-
  When values of this program's types are equal.
-/
import Derived.Test.YtcnaagljdpekkaaDoorIgCfg
set_option maxRecDepth 100000
set_option linter.unusedSimpArgs false
namespace Go.Ig
open Go Go.Proofs
@[simp] theorem eq_eql_23a (b g o : Nat) : binOpV PP .eql 23 (.ptr b g o) .nilp = some (.bool false) := by kernel_rfl
@[simp] theorem eq_eql_23b : binOpV PP .eql 23 .nilp .nilp = some (.bool true) := by kernel_rfl
@[simp] theorem eq_eql_23c (b g o : Nat) : binOpV PP .eql 23 .nilp (.ptr b g o) = some (.bool false) := by kernel_rfl
@[simp] theorem eq_eql_24a (b g o : Nat) : binOpV PP .eql 24 (.ptr b g o) .nilp = some (.bool false) := by kernel_rfl
@[simp] theorem eq_eql_24b : binOpV PP .eql 24 .nilp .nilp = some (.bool true) := by kernel_rfl
@[simp] theorem eq_eql_24c (b g o : Nat) : binOpV PP .eql 24 .nilp (.ptr b g o) = some (.bool false) := by kernel_rfl
@[simp] theorem eq_eql_31a (b : Nat) : binOpV PP .eql 31 (.map b) .nilm = some (.bool false) := by kernel_rfl
@[simp] theorem eq_eql_31b : binOpV PP .eql 31 .nilm .nilm = some (.bool true) := by kernel_rfl
@[simp] theorem eq_neq_23a (b g o : Nat) : binOpV PP .neq 23 (.ptr b g o) .nilp = some (.bool true) := by kernel_rfl
@[simp] theorem eq_neq_23b : binOpV PP .neq 23 .nilp .nilp = some (.bool false) := by kernel_rfl
@[simp] theorem eq_neq_23c (b g o : Nat) : binOpV PP .neq 23 .nilp (.ptr b g o) = some (.bool true) := by kernel_rfl
end Go.Ig
