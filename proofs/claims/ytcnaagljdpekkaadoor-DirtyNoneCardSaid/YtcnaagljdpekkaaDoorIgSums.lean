/-
  Numbers' bytes.
-/
import Derived.Test.YtcnaagljdpekkaaDoorIgCfgT
import Derived.Test.YtcnaagljdpekkaaDoorIgFresh
namespace Go.Ig
open Go Go.Proofs
set_option maxRecDepth 100000
theorem long_ran (n : Int) : icall PP cfgT 40 (.fn id_fixed_Long) [.int .u64 n] ⟨[.row halves .ro], 0⟩ = some (.ret (.slice 1 0 0 1 8 8), ⟨[.row halves .ro, .u8 [byteAt n 0, byteAt n 1, byteAt n 2, byteAt n 3, byteAt n 4, byteAt n 5, byteAt n 6, byteAt n 7] (.vec 0)], 0⟩) := by kernel_rfl
def longT : List V → Option (V × List (List UInt8))
  | [.int .u64 n] => some (.slice 0 0 0 1 8 8, [[byteAt n 0, byteAt n 1, byteAt n 2, byteAt n 3, byteAt n 4, byteAt n 5, byteAt n 6, byteAt n 7]])
  | _ => none
theorem tabs_size : PP.globals.size = [halves].length := hG
theorem tabs_flat : ∀ t ∈ [halves], t.all V.flat = true := by decide
theorem tabs_same : [halves].all (fun t => V.sames t t) = true := by kernel_rfl
theorem long_one : OneOk PP id_fixed_Long (freshS [halves] longT) := fresh_one hST tabs_size tabs_flat fun args v new _ h => by
  unfold longT at h
  split at h
  · cases h
    exact ⟨rfl, 40, 0, long_ran _⟩
  · cases h
noncomputable def sumU : List (FuncId × (List V → Mem → Option (V × Mem))) := [(id_tandemlaw10_awake, closedT halves (.bool true)), (id_fixed_Long, freshS [halves] longT)]
noncomputable def cfgU : Cfg := { cfgB with sum := sums sumU }
theorem hSU : Sound PP cfgU := ⟨hmix, hXB, hSB.hook, sums_ok (l := sumU) (fun x hx => by
  simp only [sumU, List.mem_cons, List.not_mem_nil, or_false] at hx
  rcases hx with rfl | rfl
  · obtain ⟨m', h⟩ := ranD awake_ran
    exact closed_table hSB hG (by decide) rfl h
  · exact long_one) rfl, hN⟩
end Go.Ig
