/-
  Where there is no disk, or one that nobody made.
-/
import Derived.Test.YtcnjllnnhcafbaaDoorIgCfgT
import Derived.Test.YtcnjllnnhcafbaaDoorIgBytes
namespace Go.Ig
open Go Go.Proofs
set_option maxRecDepth 100000
theorem none_eq (k : Nat) (a0 a1 : V) (m0 : Mem) : icall PP cfgT (k + 1) (.fn id_tandemlaw05_SlotNone) [a0, a1] m0 = F.tandemlaw05_SlotNone (icall PP cfgT k) k a0 a1 m0 := F.tandemlaw05_SlotNone.eqG cfgT rfl (by kernel_rfl) k a0 a1 m0
theorem none_ran (x : Int) : (icall PP cfgT 30 (.fn id_tandemlaw05_SlotNone) [.int .i64 x, .nils] ⟨[.row halves .ro], 0⟩).map (·.1) = some (.ret (.bool true)) := by kernel_rfl
theorem none_ran0 (x : Int) : (icall PP cfgT 30 (.fn id_tandemlaw05_SlotNone) [.int .i64 x, .emp] ⟨[.row halves .ro], 0⟩).map (·.1) = some (.ret (.bool true)) := by kernel_rfl
theorem none_cond (C : CallT) (k : Nat) (x : V) (b len cap : Nat) (m : Mem) : F.tandemlaw05_SlotNone C k x (.slice b 0 0 1 len cap) m = condV (.bool (decide ((len : Int) > 100))) (callK (C (.fn id_tandemlaw05_awake) [] ⟨m.objs, m.objs.length⟩) (fun v m4 => retV true m v m4) (fun _ _ => none))
    (F.tandemlaw05_SlotNone.j7R C k m x (.slice b 0 0 1 len cap) V.undef V.undef V.undef V.undef V.undef V.undef V.undef V.undef V.undef V.undef V.undef ⟨m.objs, m.objs.length⟩) := by kernel_rfl
theorem none_ran1 (x : Int) (l : List UInt8) (len cap : Nat) : (icall PP cfgT 30 (.fn id_tandemlaw05_SlotNone) [.int .i64 x, .slice 1 0 0 1 len cap] ⟨[.row halves .ro, .u8 l .ro], 0⟩).map (·.1) = some (.ret (.bool true)) := by
  rw [none_eq, none_cond]
  cases decide ((len : Int) > 100)
  · show (F.tandemlaw05_SlotNone.j7R (icall PP cfgT 29) 29 ⟨[.row halves .ro, .u8 l .ro], 0⟩ (.int .i64 x) (.slice 1 0 0 1 len cap) V.undef V.undef V.undef V.undef V.undef V.undef V.undef V.undef V.undef V.undef V.undef ⟨[.row halves .ro, .u8 l .ro], 2⟩).map (·.1) = _
    kernel_rfl
  · show (callK (icall PP cfgT 29 (.fn id_tandemlaw05_awake) [] ⟨[.row halves .ro, .u8 l .ro], 2⟩) (fun v m4 => retV true ⟨[.row halves .ro, .u8 l .ro], 0⟩ v m4) (fun _ _ => none)).map (·.1) = _
    kernel_rfl
def tyI : Ty := .int .i64
theorem slotNone_law : LawOkR PP cfgT id_tandemlaw05_SlotNone [.row halves .ro] [tyI, tyBs] := by
  intro m xs vs hp hg h
  obtain ⟨_, _, rfl, ⟨_, -, ⟨rfl, -⟩, rfl⟩, _, _, rfl, ⟨_, -, hb, rfl⟩, rfl⟩ := h
  have hg1 : PP.globals.size = [halves].length := hG
  have hfl : ∀ t ∈ [halves], t.all V.flat = true := by decide
  rcases bytes_of hb with ⟨-, rfl⟩ | ⟨-, rfl⟩ | ⟨b, cap, rfl, -, -, hc, hf⟩
  · obtain ⟨m', hr⟩ := ran (none_ran _)
    exact ⟨_, _, Restr.flat hg1 hfl hp rfl, _, m', hr⟩
  · obtain ⟨m', hr⟩ := ran (none_ran0 _)
    exact ⟨_, _, Restr.flat hg1 hfl hp rfl, _, m', hr⟩
  · obtain ⟨m', hr⟩ := ran (none_ran1 _ _ _ _)
    exact ⟨_, _, Restr.bytes hg1 hfl hp hc hf ⟨_, List.mem_cons_of_mem _ (List.mem_cons_self ..), by simp [V.inA, V.inF, Ty.arg, tyBs], .inl ⟨_, _, _, _, rfl⟩⟩ (by simp [V.inA, V.inF, V.flat, Ty.arg, tyI, tyBs]), _, m', hr⟩
end Go.Ig
