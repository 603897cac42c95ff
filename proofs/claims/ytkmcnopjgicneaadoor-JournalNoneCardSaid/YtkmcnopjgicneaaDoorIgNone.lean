/-
  Where there is no disk, or one that nobody made.
-/
import Derived.Test.YtkmcnopjgicneaaDoorIgCfgT
import Derived.Test.YtkmcnopjgicneaaDoorIgBytes
namespace Go.Ig
open Go Go.Proofs
set_option maxRecDepth 100000
theorem none_ran (x a b : Int) : (icall PP cfgT 30 (.fn id_tandemlaw08_JournalNone) [.int .i64 x, .agg [.int .i64 a, .int .i64 b, .nils]] ⟨[.row halves .ro], 0⟩).map (·.1) = some (.ret (.bool true)) := by kernel_rfl
theorem none_ran0 (x a b : Int) : (icall PP cfgT 30 (.fn id_tandemlaw08_JournalNone) [.int .i64 x, .agg [.int .i64 a, .int .i64 b, .emp]] ⟨[.row halves .ro], 0⟩).map (·.1) = some (.ret (.bool true)) := by kernel_rfl
theorem none_ran1 (x a b : Int) (l : List UInt8) (len cap : Nat) : (icall PP cfgT 30 (.fn id_tandemlaw08_JournalNone) [.int .i64 x, .agg [.int .i64 a, .int .i64 b, .slice 1 0 0 1 len cap]] ⟨[.row halves .ro, .u8 l .ro], 0⟩).map (·.1) = some (.ret (.bool true)) := by kernel_rfl
def tyI : Ty := .int .i64
def tyEntry : Ty := .st (.pair tyI (.pair tyI tyBs))
theorem journalNone_law : LawOkR PP cfgT id_tandemlaw08_JournalNone [.row halves .ro] [tyI, tyEntry] := by
  intro m xs vs hp hg h
  obtain ⟨_, _, rfl, ⟨_, -, ⟨rfl, -⟩, rfl⟩, _, _, rfl, ⟨_, -, ⟨_, _, rfl, ⟨rfl, -⟩, _, _, rfl, ⟨rfl, -⟩, hb⟩, rfl⟩, rfl⟩ := h
  have hg1 : PP.globals.size = [halves].length := hG
  have hfl : ∀ t ∈ [halves], t.all V.flat = true := by decide
  rcases bytes_of hb with ⟨-, rfl⟩ | ⟨-, rfl⟩ | ⟨b, cap, rfl, -, -, hc, hf⟩
  · obtain ⟨m', hr⟩ := ran (none_ran _ _ _)
    exact ⟨_, _, Restr.flat hg1 hfl hp rfl, _, m', hr⟩
  · obtain ⟨m', hr⟩ := ran (none_ran0 _ _ _)
    exact ⟨_, _, Restr.flat hg1 hfl hp rfl, _, m', hr⟩
  · obtain ⟨m', hr⟩ := ran (none_ran1 _ _ _ _ _ _)
    exact ⟨_, _, Restr.bytes hg1 hfl hp hc hf ⟨_, List.mem_cons_of_mem _ (List.mem_cons_self ..), by simp [V.inA, V.inF, V.flat, Ty.arg, tyEntry, tyI], .inr ⟨_, rfl, _, _, _, _, List.mem_cons_of_mem _ (List.mem_cons_of_mem _ (List.mem_cons_self ..))⟩⟩ (by simp [V.inA, V.inF, V.flat, Ty.arg, tyI, tyEntry]), _, m', hr⟩
end Go.Ig
