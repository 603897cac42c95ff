/-
  Where there is no disk, or one that nobody made.
-/
import Derived.Test.YtcnaagljdpekkaaDoorIgEqU
import Derived.Test.YtcnaagljdpekkaaDoorIgTy
import Derived.Test.YtcnaagljdpekkaaDoorIgSym
namespace Go.Ig
open Go Go.Proofs
set_option maxRecDepth 10000
/-- None, or one that nobody made. -/
def NoDisk (m : Mem) (d : V) : Prop := d = .nilp ∨ ∃ z, d = .ptr z 0 0 ∧ m.objs[z]? = some (.row [.nils, .nilm, .int .i64 0, .bool false, .int .i64 0] .exact)
theorem NoDisk.add {m : Mem} {d : V} (h : NoDisk m d) (l : List Obj) (g : Nat) : NoDisk ⟨m.objs ++ l, g⟩ d := by
  rcases h with rfl | ⟨z, rfl, h⟩
  · exact .inl rfl
  · exact .inr ⟨z, rfl, old h⟩
theorem none_no (k : Nat) {m : Mem} {d : V} (h : NoDisk m d) : icall PP cfgU (k + 1) (.fn id_disk_Disk_none) [d] m = some (.ret (.bool true), m) := by
  rw [F.disk_Disk_none.eq]
  rcases h with rfl | ⟨z, rfl, h⟩
  · simp [F.disk_Disk_none]
  · simp [F.disk_Disk_none, h]
theorem sectors_no (k : Nat) {m : Mem} {d : V} (h : NoDisk m d) : icall PP cfgU (k + 2) (.fn id_disk_Disk_Sectors) [d] m = some (.ret (.int .i64 0), m) := by
  rw [F.disk_Disk_Sectors.eq]
  have h1 := none_no k (h.add [] m.objs.length)
  simp at h1
  simp [F.disk_Disk_Sectors, h1]
theorem save_no (k : Nat) {m : Mem} {d a b : V} (h : NoDisk m d) : icall PP cfgU (k + 3) (.fn id_slot_Save) [d, a, b] m = some (.ret (.int .i64 1), m) := by
  rw [F.slot_Save.eq]
  have h1 := sectors_no k (h.add [] m.objs.length)
  simp at h1
  simp [F.slot_Save, h1]
theorem long_at (k : Nat) {m : Mem} (n : Int) (hp : tabsG [halves] <+: m.objs) : icall PP cfgU (k + 1) (.fn id_fixed_Long) [.int .u64 n] m =
    some (.ret (.slice m.objs.length 0 0 1 8 8), ⟨m.objs ++ [.u8 [byteAt n 0, byteAt n 1, byteAt n 2, byteAt n 3, byteAt n 4, byteAt n 5, byteAt n 6, byteAt n 7] (.vec 0)], m.guard⟩) :=
  icall_sum (S := freshS [halves] longT) (by kernel_rfl) k (freshS_at (T := longT) (v := .slice 0 0 0 1 8 8) (new := [[byteAt n 0, byteAt n 1, byteAt n 2, byteAt n 3, byteAt n 4, byteAt n 5, byteAt n 6, byteAt n 7]]) tabs_same rfl rfl hp)
theorem place_no (k : Nat) {m : Mem} {d : V} {x n : Int} (h : NoDisk m d) (hp : tabsG [halves] <+: m.objs) : icall PP cfgU (k + 4) (.fn id_dirty_place_save) [.agg [d, .int .i64 x], .int .u64 n] m = some (.ret (.int .i64 1), m) := by
  rw [F.dirty_place_save.eq]
  have h1 := long_at (k + 2) (m := ⟨m.objs ++ [.row [d, .int .i64 x] .exact], m.objs.length⟩) n (hp.trans (List.prefix_append ..))
  have h2 := save_no k (a := .int .i64 x) (b := .slice (m.objs.length + 1) 0 0 1 8 8) (h.add [.row [d, .int .i64 x] .exact, .u8 [byteAt n 0, byteAt n 1, byteAt n 2, byteAt n 3, byteAt n 4, byteAt n 5, byteAt n 6, byteAt n 7] (.vec 0)] m.objs.length)
  simp at h1
  change icall PP cfgU (k + 3) _ _ _ = _ at h1
  have ho : d.one = true := by rcases h with rfl | ⟨_, rfl, _⟩ <;> rfl
  have hs : V.same d d = true := by rcases h with rfl | ⟨_, rfl, _⟩ <;> simp [V.same]
  simp [F.dirty_place_save, h1, h2, ho, hs]
  simp [V.same]
theorem make_no (k : Nat) {m : Mem} {d : V} {x : Int} (h : NoDisk m d) (hp : tabsG [halves] <+: m.objs) : icall PP cfgU (k + 5) (.fn id_dirty_Make) [d, .int .i64 x] m = some (.ret (.int .i64 1), m) := by
  rw [F.dirty_Make.eq]
  have h1 := place_no k (x := x) (n := 0) (h.add [] m.objs.length) (by simpa using hp)
  simp at h1
  rcases h with rfl | ⟨z, rfl, _⟩
  · simp [F.dirty_Make, splice, h1]
  · simp [F.dirty_Make, splice, h1]
end Go.Ig
