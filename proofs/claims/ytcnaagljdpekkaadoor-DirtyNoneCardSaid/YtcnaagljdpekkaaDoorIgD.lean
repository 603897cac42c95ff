/-
  Calls, handed on to the functions as they are printed.
-/
import Derived.Test.YtcnaagljdpekkaaDoorIgF0
import Derived.Test.YtcnaagljdpekkaaDoorIgF1
import Derived.Test.YtcnaagljdpekkaaDoorIgF2
set_option maxRecDepth 100000
namespace Go.Ig
open Go Go.Proofs
noncomputable def DF (C : CallT) (k : Nat) (f : FuncId) (args : List V) (m : Mem) (fb : Option (Out × Mem)) : Option (Out × Mem) :=
  if f = id_tandemlaw10_DirtyNone then (match args with | [a0, a1] => F.tandemlaw10_DirtyNone C k a0 a1 m | _ => fb) else
  if f = id_tandemlaw10_DirtyKnown then (match args with | [] => F.tandemlaw10_DirtyKnown C k m | _ => fb) else
  if f = id_dirty_Open then (match args with | [a0, a1] => F.dirty_Open C k a0 a1 m | _ => fb) else
  if f = id_dirty_Map_Mark then (match args with | [a0, a1] => F.dirty_Map_Mark C k a0 a1 m | _ => fb) else
  if f = id_dirty_Map_Merge then (match args with | [a0, a1] => F.dirty_Map_Merge C k a0 a1 m | _ => fb) else
  if f = id_dirty_Map_Clear then (match args with | [a0, a1] => F.dirty_Map_Clear C k a0 a1 m | _ => fb) else
  if f = id_dirty_Map_Bits then (match args with | [a0] => F.dirty_Map_Bits C k a0 m | _ => fb) else
  if f = id_dirty_Make then (match args with | [a0, a1] => F.dirty_Make C k a0 a1 m | _ => fb) else
  if f = id_tandemlaw10_awake then (match args with | [] => F.tandemlaw10_awake C k m | _ => fb) else
  if f = id_tandemlaw10_made then (match args with | [] => F.tandemlaw10_made C k m | _ => fb) else
  if f = id_disk_Disk_Ops then (match args with | [a0] => F.disk_Disk_Ops C k a0 m | _ => fb) else
  if f = id_disk_New then (match args with | [a0] => F.disk_New C k a0 m | _ => fb) else
  if f = id_tandemkit_Pick then (match args with | [a0, a1] => F.tandemkit_Pick C k a0 a1 m | _ => fb) else
  if f = id_disk_Disk_Fuse then (match args with | [a0, a1] => F.disk_Disk_Fuse C k a0 a1 m | _ => fb) else
  if f = id_tandemlaw10_Step_does then (match args with | [a0, a1] => F.tandemlaw10_Step_does C k a0 a1 m | _ => fb) else
  if f = id_tandemlaw10_Step_want then (match args with | [a0, a1] => F.tandemlaw10_Step_want C k a0 a1 m | _ => fb) else
  if f = id_disk_Disk_Crash then (match args with | [a0, a1, a2] => F.disk_Disk_Crash C k a0 a1 a2 m | _ => fb) else
  if f = id_slot_Load then (match args with | [a0, a1] => F.slot_Load C k a0 a1 m | _ => fb) else
  if f = id_fixed_GetLong then (match args with | [a0, a1] => F.fixed_GetLong C k a0 a1 m | _ => fb) else
  if f = id_dirty_Map_none then (match args with | [a0] => F.dirty_Map_none C k a0 m | _ => fb) else
  if f = id_dirty_Map_turn then (match args with | [a0, a1] => F.dirty_Map_turn C k a0 a1 m | _ => fb) else
  if f = id_dirty_place_save then (match args with | [a0, a1] => F.dirty_place_save C k a0 a1 m | _ => fb) else
  if f = id_disk_Disk_none then (match args with | [a0] => F.disk_Disk_none C k a0 m | _ => fb) else
  if f = id_sync_atomic_Int64_Load then (match args with | [a0] => F.sync_atomic_Int64_Load C k a0 m | _ => fb) else
  if f = id_disk_Disk_Loose then (match args with | [a0] => F.disk_Disk_Loose C k a0 m | _ => fb) else
  if f = id_slot_halves then (match args with | [a0, a1] => F.slot_halves C k a0 a1 m | _ => fb) else
  if f = id_fixed_get then (match args with | [a0, a1, a2] => F.fixed_get C k a0 a1 a2 m | _ => fb) else
  if f = id_slot_Save then (match args with | [a0, a1, a2] => F.slot_Save C k a0 a1 a2 m | _ => fb) else
  if f = id_fixed_Long then (match args with | [a0] => F.fixed_Long C k a0 m | _ => fb) else
  if f = id_slices_Sorted then (match args with | [a0] => F.slices_Sorted C k a0 m | _ => fb) else
  if f = id_maps_Keys then (match args with | [a0] => F.maps_Keys C k a0 m | _ => fb) else
  if f = id_disk_Disk_Read then (match args with | [a0, a1] => F.disk_Disk_Read C k a0 a1 m | _ => fb) else
  if f = id_slot_Read then (match args with | [a0] => F.slot_Read C k a0 m | _ => fb) else
  if f = id_disk_Disk_Sectors then (match args with | [a0] => F.disk_Disk_Sectors C k a0 m | _ => fb) else
  if f = id_slot_Bytes then (match args with | [a0, a1] => F.slot_Bytes C k a0 a1 m | _ => fb) else
  if f = id_disk_Disk_Write then (match args with | [a0, a1, a2] => F.disk_Disk_Write C k a0 a1 a2 m | _ => fb) else
  if f = id_disk_Disk_Flush then (match args with | [a0] => F.disk_Disk_Flush C k a0 m | _ => fb) else
  if f = id_fixed_lay then (match args with | [a0, a1] => F.fixed_lay C k a0 a1 m | _ => fb) else
  if f = id_slices_Collect then (match args with | [a0] => F.slices_Collect C k a0 m | _ => fb) else
  if f = id_slices_Sort then (match args with | [a0] => F.slices_Sort C k a0 m | _ => fb) else
  if f = id_disk_Disk_there then (match args with | [a0, a1] => F.disk_Disk_there C k a0 a1 m | _ => fb) else
  if f = id_bytes_Equal then (match args with | [a0, a1] => F.bytes_Equal C k a0 a1 m | _ => fb) else
  if f = id_fixed_Get then (match args with | [a0, a1, a2] => F.fixed_Get C k a0 a1 a2 m | _ => fb) else
  if f = id_fixed_Put then (match args with | [a0, a1] => F.fixed_Put C k a0 a1 m | _ => fb) else
  if f = id_fixed_Word then (match args with | [a0] => F.fixed_Word C k a0 m | _ => fb) else
  if f = id_crc_Sum then (match args with | [a0] => F.crc_Sum C k a0 m | _ => fb) else
  if f = id_disk_Disk_change then (match args with | [a0] => F.disk_Disk_change C k a0 m | _ => fb) else
  if f = id_math_bits_Len then (match args with | [a0] => F.math_bits_Len C k a0 m | _ => fb) else
  if f = id_crc_More then (match args with | [a0, a1] => F.crc_More C k a0 a1 m | _ => fb) else
  if f = id_sync_atomic_Int64_Add then (match args with | [a0, a1] => F.sync_atomic_Int64_Add C k a0 a1 m | _ => fb) else
  if f = id_slices_insertionSortOrdered then (match args with | [a0, a1, a2] => F.slices_insertionSortOrdered C k a0 a1 a2 m | _ => fb) else
  if f = id_slices_heapSortOrdered then (match args with | [a0, a1, a2] => F.slices_heapSortOrdered C k a0 a1 a2 m | _ => fb) else
  if f = id_slices_breakPatternsOrdered then (match args with | [a0, a1, a2] => F.slices_breakPatternsOrdered C k a0 a1 a2 m | _ => fb) else
  if f = id_slices_choosePivotOrdered then (match args with | [a0, a1, a2] => F.slices_choosePivotOrdered C k a0 a1 a2 m | _ => fb) else
  if f = id_slices_reverseRangeOrdered then (match args with | [a0, a1, a2] => F.slices_reverseRangeOrdered C k a0 a1 a2 m | _ => fb) else
  if f = id_slices_partialInsertionSortOrdered then (match args with | [a0, a1, a2] => F.slices_partialInsertionSortOrdered C k a0 a1 a2 m | _ => fb) else
  if f = id_cmp_Less then (match args with | [a0, a1] => F.cmp_Less C k a0 a1 m | _ => fb) else
  if f = id_math_bits_Len32 then (match args with | [a0] => F.math_bits_Len32 C k a0 m | _ => fb) else
  if f = id_math_bits_Len64 then (match args with | [a0] => F.math_bits_Len64 C k a0 m | _ => fb) else
  if f = id_slices_nextPowerOfTwo then (match args with | [a0] => F.slices_nextPowerOfTwo C k a0 m | _ => fb) else
  if f = id_slices_xorshift_Next then (match args with | [a0] => F.slices_xorshift_Next C k a0 m | _ => fb) else
  if f = id_slices_medianAdjacentOrdered then (match args with | [a0, a1, a2] => F.slices_medianAdjacentOrdered C k a0 a1 a2 m | _ => fb) else
  if f = id_slices_medianOrdered then (match args with | [a0, a1, a2, a3, a4] => F.slices_medianOrdered C k a0 a1 a2 a3 a4 m | _ => fb) else
  if f = id_cmp_isNaN then (match args with | [a0] => F.cmp_isNaN C k a0 m | _ => fb) else
  if f = id_slices_order2Ordered then (match args with | [a0, a1, a2, a3] => F.slices_order2Ordered C k a0 a1 a2 a3 m | _ => fb) else
  fb
noncomputable def D : Nat → CallT
  | 0 => fun _ _ _ => none
  | .succ k => fun tg args m => match tg with
    | .fn f => (match DF (D k) k f args m (stepC PP cfgB (D k) k f args m) with
      | some (Out.ret v, m) => fV v fun v => fMem m fun m => some (Out.ret v, m)
      | r => r)
    | .yield _ => none
theorem DF_eq (k : Nat) (f : FuncId) (args : List V) (m : Mem) : DF (icall PP cfgB k) k f args m (icall PP cfgB (k + 1) (.fn f) args m) = icall PP cfgB (k + 1) (.fn f) args m := by
  unfold DF
  by_cases h3 : f = id_tandemlaw10_DirtyNone
  · subst h3
    rw [if_pos rfl]
    split
    · exact (F.tandemlaw10_DirtyNone.eqG cfgB rfl rfl _ _ _ _).symm
    · rfl
  rw [if_neg h3]
  clear h3
  by_cases h4 : f = id_tandemlaw10_DirtyKnown
  · subst h4
    rw [if_pos rfl]
    split
    · exact (F.tandemlaw10_DirtyKnown.eqG cfgB rfl rfl _ _).symm
    · rfl
  rw [if_neg h4]
  clear h4
  by_cases h7 : f = id_dirty_Open
  · subst h7
    rw [if_pos rfl]
    split
    · exact (F.dirty_Open.eqG cfgB rfl rfl _ _ _ _).symm
    · rfl
  rw [if_neg h7]
  clear h7
  by_cases h8 : f = id_dirty_Map_Mark
  · subst h8
    rw [if_pos rfl]
    split
    · exact (F.dirty_Map_Mark.eqG cfgB rfl rfl _ _ _ _).symm
    · rfl
  rw [if_neg h8]
  clear h8
  by_cases h9 : f = id_dirty_Map_Merge
  · subst h9
    rw [if_pos rfl]
    split
    · exact (F.dirty_Map_Merge.eqG cfgB rfl rfl _ _ _ _).symm
    · rfl
  rw [if_neg h9]
  clear h9
  by_cases h10 : f = id_dirty_Map_Clear
  · subst h10
    rw [if_pos rfl]
    split
    · exact (F.dirty_Map_Clear.eqG cfgB rfl rfl _ _ _ _).symm
    · rfl
  rw [if_neg h10]
  clear h10
  by_cases h11 : f = id_dirty_Map_Bits
  · subst h11
    rw [if_pos rfl]
    split
    · exact (F.dirty_Map_Bits.eqG cfgB rfl rfl _ _ _).symm
    · rfl
  rw [if_neg h11]
  clear h11
  by_cases h12 : f = id_dirty_Make
  · subst h12
    rw [if_pos rfl]
    split
    · exact (F.dirty_Make.eqG cfgB rfl rfl _ _ _ _).symm
    · rfl
  rw [if_neg h12]
  clear h12
  by_cases h13 : f = id_tandemlaw10_awake
  · subst h13
    rw [if_pos rfl]
    split
    · exact (F.tandemlaw10_awake.eqG cfgB rfl rfl _ _).symm
    · rfl
  rw [if_neg h13]
  clear h13
  by_cases h14 : f = id_tandemlaw10_made
  · subst h14
    rw [if_pos rfl]
    split
    · exact (F.tandemlaw10_made.eqG cfgB rfl rfl _ _).symm
    · rfl
  rw [if_neg h14]
  clear h14
  by_cases h15 : f = id_disk_Disk_Ops
  · subst h15
    rw [if_pos rfl]
    split
    · exact (F.disk_Disk_Ops.eqG cfgB rfl rfl _ _ _).symm
    · rfl
  rw [if_neg h15]
  clear h15
  by_cases h16 : f = id_disk_New
  · subst h16
    rw [if_pos rfl]
    split
    · exact (F.disk_New.eqG cfgB rfl rfl _ _ _).symm
    · rfl
  rw [if_neg h16]
  clear h16
  by_cases h17 : f = id_tandemkit_Pick
  · subst h17
    rw [if_pos rfl]
    split
    · exact (F.tandemkit_Pick.eqG cfgB rfl rfl _ _ _ _).symm
    · rfl
  rw [if_neg h17]
  clear h17
  by_cases h18 : f = id_disk_Disk_Fuse
  · subst h18
    rw [if_pos rfl]
    split
    · exact (F.disk_Disk_Fuse.eqG cfgB rfl rfl _ _ _ _).symm
    · rfl
  rw [if_neg h18]
  clear h18
  by_cases h19 : f = id_tandemlaw10_Step_does
  · subst h19
    rw [if_pos rfl]
    split
    · exact (F.tandemlaw10_Step_does.eqG cfgB rfl rfl _ _ _ _).symm
    · rfl
  rw [if_neg h19]
  clear h19
  by_cases h20 : f = id_tandemlaw10_Step_want
  · subst h20
    rw [if_pos rfl]
    split
    · exact (F.tandemlaw10_Step_want.eqG cfgB rfl rfl _ _ _ _).symm
    · rfl
  rw [if_neg h20]
  clear h20
  by_cases h21 : f = id_disk_Disk_Crash
  · subst h21
    rw [if_pos rfl]
    split
    · exact (F.disk_Disk_Crash.eqG cfgB rfl rfl _ _ _ _ _).symm
    · rfl
  rw [if_neg h21]
  clear h21
  by_cases h22 : f = id_slot_Load
  · subst h22
    rw [if_pos rfl]
    split
    · exact (F.slot_Load.eqG cfgB rfl rfl _ _ _ _).symm
    · rfl
  rw [if_neg h22]
  clear h22
  by_cases h23 : f = id_fixed_GetLong
  · subst h23
    rw [if_pos rfl]
    split
    · exact (F.fixed_GetLong.eqG cfgB rfl rfl _ _ _ _).symm
    · rfl
  rw [if_neg h23]
  clear h23
  by_cases h24 : f = id_dirty_Map_none
  · subst h24
    rw [if_pos rfl]
    split
    · exact (F.dirty_Map_none.eqG cfgB rfl rfl _ _ _).symm
    · rfl
  rw [if_neg h24]
  clear h24
  by_cases h25 : f = id_dirty_Map_turn
  · subst h25
    rw [if_pos rfl]
    split
    · exact (F.dirty_Map_turn.eqG cfgB rfl rfl _ _ _ _).symm
    · rfl
  rw [if_neg h25]
  clear h25
  by_cases h26 : f = id_dirty_place_save
  · subst h26
    rw [if_pos rfl]
    split
    · exact (F.dirty_place_save.eqG cfgB rfl rfl _ _ _ _).symm
    · rfl
  rw [if_neg h26]
  clear h26
  by_cases h27 : f = id_disk_Disk_none
  · subst h27
    rw [if_pos rfl]
    split
    · exact (F.disk_Disk_none.eqG cfgB rfl rfl _ _ _).symm
    · rfl
  rw [if_neg h27]
  clear h27
  by_cases h28 : f = id_sync_atomic_Int64_Load
  · subst h28
    rw [if_pos rfl]
    split
    · exact (F.sync_atomic_Int64_Load.eqG cfgB rfl rfl _ _ _).symm
    · rfl
  rw [if_neg h28]
  clear h28
  by_cases h29 : f = id_disk_Disk_Loose
  · subst h29
    rw [if_pos rfl]
    split
    · exact (F.disk_Disk_Loose.eqG cfgB rfl rfl _ _ _).symm
    · rfl
  rw [if_neg h29]
  clear h29
  by_cases h30 : f = id_slot_halves
  · subst h30
    rw [if_pos rfl]
    split
    · exact (F.slot_halves.eqG cfgB rfl rfl _ _ _ _).symm
    · rfl
  rw [if_neg h30]
  clear h30
  by_cases h31 : f = id_fixed_get
  · subst h31
    rw [if_pos rfl]
    split
    · exact (F.fixed_get.eqG cfgB rfl rfl _ _ _ _ _).symm
    · rfl
  rw [if_neg h31]
  clear h31
  by_cases h32 : f = id_slot_Save
  · subst h32
    rw [if_pos rfl]
    split
    · exact (F.slot_Save.eqG cfgB rfl rfl _ _ _ _ _).symm
    · rfl
  rw [if_neg h32]
  clear h32
  by_cases h33 : f = id_fixed_Long
  · subst h33
    rw [if_pos rfl]
    split
    · exact (F.fixed_Long.eqG cfgB rfl rfl _ _ _).symm
    · rfl
  rw [if_neg h33]
  clear h33
  by_cases h35 : f = id_slices_Sorted
  · subst h35
    rw [if_pos rfl]
    split
    · exact (F.slices_Sorted.eqG cfgB rfl rfl _ _ _).symm
    · rfl
  rw [if_neg h35]
  clear h35
  by_cases h36 : f = id_maps_Keys
  · subst h36
    rw [if_pos rfl]
    split
    · exact (F.maps_Keys.eqG cfgB rfl rfl _ _ _).symm
    · rfl
  rw [if_neg h36]
  clear h36
  by_cases h37 : f = id_disk_Disk_Read
  · subst h37
    rw [if_pos rfl]
    split
    · exact (F.disk_Disk_Read.eqG cfgB rfl rfl _ _ _ _).symm
    · rfl
  rw [if_neg h37]
  clear h37
  by_cases h38 : f = id_slot_Read
  · subst h38
    rw [if_pos rfl]
    split
    · exact (F.slot_Read.eqG cfgB rfl rfl _ _ _).symm
    · rfl
  rw [if_neg h38]
  clear h38
  by_cases h39 : f = id_disk_Disk_Sectors
  · subst h39
    rw [if_pos rfl]
    split
    · exact (F.disk_Disk_Sectors.eqG cfgB rfl rfl _ _ _).symm
    · rfl
  rw [if_neg h39]
  clear h39
  by_cases h40 : f = id_slot_Bytes
  · subst h40
    rw [if_pos rfl]
    split
    · exact (F.slot_Bytes.eqG cfgB rfl rfl _ _ _ _).symm
    · rfl
  rw [if_neg h40]
  clear h40
  by_cases h41 : f = id_disk_Disk_Write
  · subst h41
    rw [if_pos rfl]
    split
    · exact (F.disk_Disk_Write.eqG cfgB rfl rfl _ _ _ _ _).symm
    · rfl
  rw [if_neg h41]
  clear h41
  by_cases h42 : f = id_disk_Disk_Flush
  · subst h42
    rw [if_pos rfl]
    split
    · exact (F.disk_Disk_Flush.eqG cfgB rfl rfl _ _ _).symm
    · rfl
  rw [if_neg h42]
  clear h42
  by_cases h43 : f = id_fixed_lay
  · subst h43
    rw [if_pos rfl]
    split
    · exact (F.fixed_lay.eqG cfgB rfl rfl _ _ _ _).symm
    · rfl
  rw [if_neg h43]
  clear h43
  by_cases h44 : f = id_slices_Collect
  · subst h44
    rw [if_pos rfl]
    split
    · exact (F.slices_Collect.eqG cfgB rfl rfl _ _ _).symm
    · rfl
  rw [if_neg h44]
  clear h44
  by_cases h45 : f = id_slices_Sort
  · subst h45
    rw [if_pos rfl]
    split
    · exact (F.slices_Sort.eqG cfgB rfl rfl _ _ _).symm
    · rfl
  rw [if_neg h45]
  clear h45
  by_cases h47 : f = id_disk_Disk_there
  · subst h47
    rw [if_pos rfl]
    split
    · exact (F.disk_Disk_there.eqG cfgB rfl rfl _ _ _ _).symm
    · rfl
  rw [if_neg h47]
  clear h47
  by_cases h48 : f = id_bytes_Equal
  · subst h48
    rw [if_pos rfl]
    split
    · exact (F.bytes_Equal.eqG cfgB rfl rfl _ _ _ _).symm
    · rfl
  rw [if_neg h48]
  clear h48
  by_cases h49 : f = id_fixed_Get
  · subst h49
    rw [if_pos rfl]
    split
    · exact (F.fixed_Get.eqG cfgB rfl rfl _ _ _ _ _).symm
    · rfl
  rw [if_neg h49]
  clear h49
  by_cases h50 : f = id_fixed_Put
  · subst h50
    rw [if_pos rfl]
    split
    · exact (F.fixed_Put.eqG cfgB rfl rfl _ _ _ _).symm
    · rfl
  rw [if_neg h50]
  clear h50
  by_cases h51 : f = id_fixed_Word
  · subst h51
    rw [if_pos rfl]
    split
    · exact (F.fixed_Word.eqG cfgB rfl rfl _ _ _).symm
    · rfl
  rw [if_neg h51]
  clear h51
  by_cases h52 : f = id_crc_Sum
  · subst h52
    rw [if_pos rfl]
    split
    · exact (F.crc_Sum.eqG cfgB rfl rfl _ _ _).symm
    · rfl
  rw [if_neg h52]
  clear h52
  by_cases h53 : f = id_disk_Disk_change
  · subst h53
    rw [if_pos rfl]
    split
    · exact (F.disk_Disk_change.eqG cfgB rfl rfl _ _ _).symm
    · rfl
  rw [if_neg h53]
  clear h53
  by_cases h56 : f = id_math_bits_Len
  · subst h56
    rw [if_pos rfl]
    split
    · exact (F.math_bits_Len.eqG cfgB rfl rfl _ _ _).symm
    · rfl
  rw [if_neg h56]
  clear h56
  by_cases h57 : f = id_crc_More
  · subst h57
    rw [if_pos rfl]
    split
    · exact (F.crc_More.eqG cfgB rfl rfl _ _ _ _).symm
    · rfl
  rw [if_neg h57]
  clear h57
  by_cases h58 : f = id_sync_atomic_Int64_Add
  · subst h58
    rw [if_pos rfl]
    split
    · exact (F.sync_atomic_Int64_Add.eqG cfgB rfl rfl _ _ _ _).symm
    · rfl
  rw [if_neg h58]
  clear h58
  by_cases h59 : f = id_slices_insertionSortOrdered
  · subst h59
    rw [if_pos rfl]
    split
    · exact (F.slices_insertionSortOrdered.eqG cfgB rfl rfl _ _ _ _ _).symm
    · rfl
  rw [if_neg h59]
  clear h59
  by_cases h60 : f = id_slices_heapSortOrdered
  · subst h60
    rw [if_pos rfl]
    split
    · exact (F.slices_heapSortOrdered.eqG cfgB rfl rfl _ _ _ _ _).symm
    · rfl
  rw [if_neg h60]
  clear h60
  by_cases h61 : f = id_slices_breakPatternsOrdered
  · subst h61
    rw [if_pos rfl]
    split
    · exact (F.slices_breakPatternsOrdered.eqG cfgB rfl rfl _ _ _ _ _).symm
    · rfl
  rw [if_neg h61]
  clear h61
  by_cases h62 : f = id_slices_choosePivotOrdered
  · subst h62
    rw [if_pos rfl]
    split
    · exact (F.slices_choosePivotOrdered.eqG cfgB rfl rfl _ _ _ _ _).symm
    · rfl
  rw [if_neg h62]
  clear h62
  by_cases h63 : f = id_slices_reverseRangeOrdered
  · subst h63
    rw [if_pos rfl]
    split
    · exact (F.slices_reverseRangeOrdered.eqG cfgB rfl rfl _ _ _ _ _).symm
    · rfl
  rw [if_neg h63]
  clear h63
  by_cases h64 : f = id_slices_partialInsertionSortOrdered
  · subst h64
    rw [if_pos rfl]
    split
    · exact (F.slices_partialInsertionSortOrdered.eqG cfgB rfl rfl _ _ _ _ _).symm
    · rfl
  rw [if_neg h64]
  clear h64
  by_cases h65 : f = id_cmp_Less
  · subst h65
    rw [if_pos rfl]
    split
    · exact (F.cmp_Less.eqG cfgB rfl rfl _ _ _ _).symm
    · rfl
  rw [if_neg h65]
  clear h65
  by_cases h68 : f = id_math_bits_Len32
  · subst h68
    rw [if_pos rfl]
    split
    · exact (F.math_bits_Len32.eqG cfgB rfl rfl _ _ _).symm
    · rfl
  rw [if_neg h68]
  clear h68
  by_cases h69 : f = id_math_bits_Len64
  · subst h69
    rw [if_pos rfl]
    split
    · exact (F.math_bits_Len64.eqG cfgB rfl rfl _ _ _).symm
    · rfl
  rw [if_neg h69]
  clear h69
  by_cases h72 : f = id_slices_nextPowerOfTwo
  · subst h72
    rw [if_pos rfl]
    split
    · exact (F.slices_nextPowerOfTwo.eqG cfgB rfl rfl _ _ _).symm
    · rfl
  rw [if_neg h72]
  clear h72
  by_cases h73 : f = id_slices_xorshift_Next
  · subst h73
    rw [if_pos rfl]
    split
    · exact (F.slices_xorshift_Next.eqG cfgB rfl rfl _ _ _).symm
    · rfl
  rw [if_neg h73]
  clear h73
  by_cases h74 : f = id_slices_medianAdjacentOrdered
  · subst h74
    rw [if_pos rfl]
    split
    · exact (F.slices_medianAdjacentOrdered.eqG cfgB rfl rfl _ _ _ _ _).symm
    · rfl
  rw [if_neg h74]
  clear h74
  by_cases h75 : f = id_slices_medianOrdered
  · subst h75
    rw [if_pos rfl]
    split
    · exact (F.slices_medianOrdered.eqG cfgB rfl rfl _ _ _ _ _ _ _).symm
    · rfl
  rw [if_neg h75]
  clear h75
  by_cases h76 : f = id_cmp_isNaN
  · subst h76
    rw [if_pos rfl]
    split
    · exact (F.cmp_isNaN.eqG cfgB rfl rfl _ _ _).symm
    · rfl
  rw [if_neg h76]
  clear h76
  by_cases h77 : f = id_slices_order2Ordered
  · subst h77
    rw [if_pos rfl]
    split
    · exact (F.slices_order2Ordered.eqG cfgB rfl rfl _ _ _ _ _ _).symm
    · rfl
  rw [if_neg h77]
theorem D_eq : ∀ k, D k = icall PP cfgB k
  | 0 => rfl
  | k + 1 => by
    funext tg args m
    cases tg with
    | yield l => rfl
    | fn f =>
      show (match DF (D k) k f args m (stepC PP cfgB (D k) k f args m) with | some (Out.ret v, m) => fV v fun v => fMem m fun m => some (Out.ret v, m) | r => r) = _
      rw [D_eq k, stepC_eq _ _ _ _ _ _ rfl, DF_eq]
      rcases icall PP cfgB (k + 1) (.fn f) args m with _ | ⟨_ | _, _⟩ <;> simp [fV_eq, fMem_eq]
theorem ranD {k : Nat} {f : FuncId} {args : List V} {m : Mem} {o : Out} (h : (D k (.fn f) args m).map (·.1) = some o) : ∃ m', icall PP cfgB k (.fn f) args m = some (o, m') := by
  rw [D_eq] at h
  exact ran h
end Go.Ig
