/-
  When values of this program's types are equal.
-/
import Derived.Test.YtoiaagmhcpfjnaaIgCfg
set_option maxRecDepth 100000
set_option linter.unusedSimpArgs false
namespace Go.Ig
open Go Go.Proofs
@[simp] theorem eq_eql_4 (a b : Bool) : binOpV PP .eql 4 (.bool a) (.bool b) = some (.bool (a == b)) := by kernel_rfl
theorem eqc_eql_28 (x1 y1 : Int) (x2 y2 : Int) (x3 y3 : Int) (x4 y4 : Int) (x5 y5 : Int) (x6 y6 : Int) : binOpV PP .eql 28 (.agg [(.int .i64 x1), (.int .i64 x2), (.int .i64 x3), (.int .i64 x4), (.int .i64 x5), (.int .i64 x6)]) (.agg [(.int .i64 y1), (.int .i64 y2), (.int .i64 y3), (.int .i64 y4), (.int .i64 y5), (.int .i64 y6)]) = (chainO [some (x1 == y1), some (x2 == y2), chainO [some (x3 == y3), some (x4 == y4), some (x5 == y5)], some (x6 == y6)]).map V.bool := by kernel_rfl
@[simp] theorem eq_eql_28 (x1 y1 : Int) (x2 y2 : Int) (x3 y3 : Int) (x4 y4 : Int) (x5 y5 : Int) (x6 y6 : Int) : binOpV PP .eql 28 (.agg [(.int .i64 x1), (.int .i64 x2), (.int .i64 x3), (.int .i64 x4), (.int .i64 x5), (.int .i64 x6)]) (.agg [(.int .i64 y1), (.int .i64 y2), (.int .i64 y3), (.int .i64 y4), (.int .i64 y5), (.int .i64 y6)]) = some (.bool ((x1 == y1) && ((x2 == y2) && (((x3 == y3) && ((x4 == y4) && ((x5 == y5) && true))) && ((x6 == y6) && true))))) := by
  rw [eqc_eql_28]
  simp only [chainO_step, chainO_nil, cond_some, Option.map_some]
@[simp] theorem eq_neq_4 (a b : Bool) : binOpV PP .neq 4 (.bool a) (.bool b) = some (.bool !(a == b)) := by kernel_rfl
theorem eqc_neq_28 (x1 y1 : Int) (x2 y2 : Int) (x3 y3 : Int) (x4 y4 : Int) (x5 y5 : Int) (x6 y6 : Int) : binOpV PP .neq 28 (.agg [(.int .i64 x1), (.int .i64 x2), (.int .i64 x3), (.int .i64 x4), (.int .i64 x5), (.int .i64 x6)]) (.agg [(.int .i64 y1), (.int .i64 y2), (.int .i64 y3), (.int .i64 y4), (.int .i64 y5), (.int .i64 y6)]) = (chainO [some (x1 == y1), some (x2 == y2), chainO [some (x3 == y3), some (x4 == y4), some (x5 == y5)], some (x6 == y6)]).map fun r => V.bool !r := by kernel_rfl
@[simp] theorem eq_neq_28 (x1 y1 : Int) (x2 y2 : Int) (x3 y3 : Int) (x4 y4 : Int) (x5 y5 : Int) (x6 y6 : Int) : binOpV PP .neq 28 (.agg [(.int .i64 x1), (.int .i64 x2), (.int .i64 x3), (.int .i64 x4), (.int .i64 x5), (.int .i64 x6)]) (.agg [(.int .i64 y1), (.int .i64 y2), (.int .i64 y3), (.int .i64 y4), (.int .i64 y5), (.int .i64 y6)]) = some (.bool (!((x1 == y1) && ((x2 == y2) && (((x3 == y3) && ((x4 == y4) && ((x5 == y5) && true))) && ((x6 == y6) && true)))))) := by
  rw [eqc_neq_28]
  simp only [chainO_step, chainO_nil, cond_some, Option.map_some]
end Go.Ig
