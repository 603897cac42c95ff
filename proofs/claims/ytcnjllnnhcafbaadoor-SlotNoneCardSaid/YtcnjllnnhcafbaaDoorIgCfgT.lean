/-
  The program's own facts; the closed calls.
-/
import Derived.Test.YtcnjllnnhcafbaaDoorIgD
import Derived.Test.YtcnjllnnhcafbaaDoorIgDoor
set_option maxRecDepth 100000
namespace Go.Ig
open Go Go.Proofs
theorem hG : PP.globals.size = 1 := by kernel_rfl
def halves : List V := [.int .u32 0, .int .u32 498536548, .int .u32 997073096, .int .u32 651767980, .int .u32 1994146192, .int .u32 1802195444, .int .u32 1303535960, .int .u32 1342533948, .int .u32 3988292384, .int .u32 4027552580, .int .u32 3604390888, .int .u32 3412177804, .int .u32 2607071920, .int .u32 2262029012, .int .u32 2685067896, .int .u32 3183342108]
theorem halves_same : V.sames halves halves = true := by kernel_rfl
theorem awake_ran : (D 200 (.fn id_tandemlaw05_awake) [] ⟨[.row halves .ro], 0⟩).map (·.1) = some (.ret (.bool true)) := by kernel_rfl
theorem known_ran : (D 200 (.fn id_tandemlaw05_SlotKnown) [] ⟨[.row halves .ro], 0⟩).map (·.1) = some (.ret (.bool true)) := by kernel_rfl
noncomputable def sumT : List (FuncId × (List V → Mem → Option (V × Mem))) := [(id_tandemlaw05_awake, closedT halves (.bool true)), (id_tandemlaw05_SlotKnown, closedT halves (.bool true))]
noncomputable def cfgT : Cfg := { cfgB with sum := sums sumT }
theorem hST : Sound PP cfgT := ⟨hmix, hXB, hSB.hook, sums_ok (l := sumT) (fun x hx => by
  simp only [sumT, List.mem_cons, List.not_mem_nil, or_false] at hx
  rcases hx with rfl | rfl
  · obtain ⟨m', h⟩ := ranD awake_ran
    exact closed_table hSB hG (by decide) rfl h
  · obtain ⟨m', h⟩ := ranD known_ran
    exact closed_table hSB hG (by decide) rfl h) rfl, hN⟩
theorem slotKnown_law : LawOk PP cfgT id_tandemlaw05_SlotKnown [.row halves .ro] [] := closed_law (by kernel_rfl) halves_same
end Go.Ig
