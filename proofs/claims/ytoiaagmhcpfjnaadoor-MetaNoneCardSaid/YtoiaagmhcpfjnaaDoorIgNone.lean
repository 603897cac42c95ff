/-
  Where there is no disk, or one that nobody made.
-/
import Derived.Test.YtoiaagmhcpfjnaaDoorIgCfgT
import Derived.Test.YtoiaagmhcpfjnaaDoorIgFlat
namespace Go.Ig
open Go Go.Proofs
set_option maxRecDepth 100000
def noneS : List V → Option V
  | [.int .i64 _, .agg [.int .i64 _, .int .i64 _, .int .i64 _, .int .i64 _, .int .i64 _, .int .i64 _]] => some (.bool true)
  | _ => none
theorem none_ran (x a b c d e f : Int) : (icall PP cfgT 30 (.fn id_tandemlaw06_MetaNone) [.int .i64 x, .agg [.int .i64 a, .int .i64 b, .int .i64 c, .int .i64 d, .int .i64 e, .int .i64 f]] ⟨[.row halves .ro], 0⟩).map (·.1) = some (.ret (.bool true)) := by kernel_rfl
theorem none_one : OneOk PP id_tandemlaw06_MetaNone (flatT halves noneS) := by
  refine flat_table hST hG (by decide) ?_ ?_
  · obtain ⟨m', h⟩ := ran (none_ran 0 0 0 0 0 0 0)
    exact ((hST.call _).calls _ _ _ _ _ h).1
  · intro args v _ h
    unfold noneS at h
    split at h
    · cases h
      obtain ⟨m', h⟩ := ran (none_ran _ _ _ _ _ _ _)
      exact ⟨rfl, _, _, h⟩
    · cases h
noncomputable def sumN : List (FuncId × (List V → Mem → Option (V × Mem))) := [(id_tandemlaw06_MetaNone, flatT halves noneS)]
noncomputable def cfgN : Cfg := { cfgB with sum := sums sumN }
theorem hSN : Sound PP cfgN := ⟨hmix, hXB, hSB.hook, sums_ok (l := sumN) (fun x hx => by
  simp only [sumN, List.mem_cons, List.not_mem_nil, or_false] at hx
  subst hx
  exact none_one) rfl, hN⟩
def tyI : Ty := .int .i64
def tyMeta : Ty := .st (.pair tyI (.pair tyI (.pair (.st (.pair tyI (.pair tyI tyI))) tyI)))
theorem metaNone_law : LawOk PP cfgN id_tandemlaw06_MetaNone [.row halves .ro] [tyI, tyMeta] := by
  intro m xs vs hp hg h
  obtain ⟨_, _, rfl, ⟨_, -, ⟨rfl, -⟩, rfl⟩, _, _, rfl, ⟨_, -, ⟨_, _, rfl, ⟨rfl, -⟩, _, _, rfl, ⟨rfl, -⟩, _, _, rfl, ⟨_, _, rfl, ⟨rfl, -⟩, _, _, rfl, ⟨rfl, -⟩, ⟨rfl, -⟩⟩, ⟨rfl, -⟩⟩, rfl⟩, rfl⟩ := h
  refine ⟨1, m, ?_⟩
  simp only [icall, show cfgN.sum id_tandemlaw06_MetaNone = some (flatT halves noneS) from by kernel_rfl]
  rw [flatT_at (v := .bool true) halves_same rfl rfl hp]
  rfl
end Go.Ig
