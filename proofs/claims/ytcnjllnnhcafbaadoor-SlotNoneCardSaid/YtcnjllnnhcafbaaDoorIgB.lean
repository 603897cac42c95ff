/-
  How the evaluator goes through this program, nothing told elsewhere but blocks.
-/
import Derived.Test.YtcnjllnnhcafbaaDoorIgCfg
import Derived.Test.YtcnjllnnhcafbaaDoorIgFlush
namespace Go.Ig
open Go
noncomputable def cfgB : Cfg := { live := cfgLive, gc := cfgGc, ext := cfgExt, sum := fun _ => none, hook := flushHooks }
open Go.Proofs
theorem hXB : ExtOk PP cfgB := by
  intro f x h
  have h' : cfgExt f = some x := h
  unfold cfgExt at h'
  split at h'
  · cases h'; exact ⟨Tryd.f87, by kernel_rfl, by kernel_rfl, by kernel_rfl, by kernel_rfl, by kernel_rfl⟩
  · cases h'; exact ⟨Tryd.f88, by kernel_rfl, by kernel_rfl, by kernel_rfl, by kernel_rfl, by kernel_rfl⟩
  · cases h'
theorem hmix : PP.follows .mixedOrders = true := by kernel_rfl
theorem hN : NamesOk PP := names_ok (by kernel_rfl)
theorem hSB : Sound PP cfgB := ⟨hmix, hXB, flush_hookOk hmix rfl, sums_none rfl, hN⟩
end Go.Ig
