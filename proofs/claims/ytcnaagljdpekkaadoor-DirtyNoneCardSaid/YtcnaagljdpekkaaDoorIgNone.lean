/-
  Where there is no disk, or one that nobody made: the law.
-/
import Derived.Test.YtcnaagljdpekkaaDoorIgNo
namespace Go.Ig
open Go Go.Proofs
set_option maxRecDepth 100000
def makeS : List V → Mem → Option (V × Mem) := fun args m =>
  if tabsB [halves] m.objs = true then
    match args with
    | [.nilp, .int .i64 _] => some (.int .i64 1, m)
    | [.ptr z 0 0, .int .i64 _] => match m.objs[z]? with
      | some (.row [.nils, .nilm, .int .i64 0, .bool false, .int .i64 0] .exact) => some (.int .i64 1, m)
      | _ => none
    | _ => none
  else none
theorem make_one : OneOk PP id_dirty_Make makeS := sum_direct hSU fun args m v m' h => by
  unfold makeS at h
  split at h
  · rename_i hp
    split at h
    · cases h
      exact ⟨5, make_no 0 (.inl rfl) (tabsB_prefix hp)⟩
    · split at h
      · rename_i hz
        cases h
        exact ⟨5, make_no 0 (.inr ⟨_, rfl, hz⟩) (tabsB_prefix hp)⟩
      · cases h
    · cases h
  · cases h
noncomputable def sumW : List (FuncId × (List V → Mem → Option (V × Mem))) := [(id_tandemlaw10_awake, closedT halves (.bool true)), (id_dirty_Make, makeS)]
noncomputable def cfgW : Cfg := { cfgB with sum := sums sumW }
theorem hSW : Sound PP cfgW := ⟨hmix, hXB, hSB.hook, sums_ok (l := sumW) (fun x hx => by
  simp only [sumW, List.mem_cons, List.not_mem_nil, or_false] at hx
  rcases hx with rfl | rfl
  · obtain ⟨m', h⟩ := ranD awake_ran
    exact closed_table hSB hG (by decide) rfl h
  · exact make_one) rfl, hN⟩
theorem none_ran (x a : Int) : (icall PP cfgW 30 (.fn id_tandemlaw10_DirtyNone) [.int .i64 x, .int .u64 a] ⟨[.row halves .ro], 0⟩).map (·.1) = some (.ret (.bool true)) := by kernel_rfl
def tyI : Ty := .int .i64
def tyU : Ty := .int .u64
theorem dirtyNone_law : LawOkR PP cfgW id_tandemlaw10_DirtyNone [.row halves .ro] [tyI, tyU] := by
  intro m xs vs hp hg h
  obtain ⟨_, _, rfl, ⟨_, -, ⟨rfl, -⟩, rfl⟩, _, _, rfl, ⟨_, -, ⟨rfl, -⟩, rfl⟩, rfl⟩ := h
  obtain ⟨m', hr⟩ := ran (none_ran _ _)
  exact ⟨_, _, Restr.flat tabs_size tabs_flat hp rfl, _, m', hr⟩
end Go.Ig
