/-
  The program's own facts; the closed calls.
-/
import Derived.Test.YtoiaagmhcpfjnaaIgCfg
set_option maxRecDepth 100000
namespace Go.Ig
open Go Go.Proofs
theorem hmix : PP.follows .mixedOrders = true := by kernel_rfl
theorem hN : NamesOk PP := names_ok (by kernel_rfl)
theorem hG : PP.globals.size = 0 := by kernel_rfl
theorem hX0 : ExtOk PP cfg0 := ext_none rfl
theorem hS0 : SumOk PP cfg0 := sums_none rfl
theorem awake_ran : (icall PP cfg0 60 (.fn id_tandemlaw06_awake) [] ⟨[], 0⟩).map (·.1) = some (.ret (.bool true)) := by kernel_rfl
def sumT : List (FuncId × (List V → Mem → Option (V × Mem))) := [(id_tandemlaw06_awake, closedS (.bool true))]
def cfgT : Cfg := { cfg0 with sum := sums sumT }
theorem hST : SumOk PP cfgT := sums_ok (l := sumT) (fun x hx => by
  simp only [sumT, List.mem_singleton] at hx
  subst hx
  obtain ⟨m', h⟩ := ran awake_ran
  exact closed_one hmix hX0 hS0 hN hG rfl h) rfl
theorem hXT : ExtOk PP cfgT := ext_none rfl
end Go.Ig
