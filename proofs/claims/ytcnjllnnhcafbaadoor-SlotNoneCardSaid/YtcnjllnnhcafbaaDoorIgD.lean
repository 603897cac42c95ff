/-
  Calls, handed on to the functions as they are printed.
-/
import Derived.Test.YtcnjllnnhcafbaaDoorIgF0
import Derived.Test.YtcnjllnnhcafbaaDoorIgF1
import Derived.Test.YtcnjllnnhcafbaaDoorIgF2
import Derived.Test.YtcnjllnnhcafbaaDoorIgF3
import Derived.Test.YtcnjllnnhcafbaaDoorIgF4
import Derived.Test.YtcnjllnnhcafbaaDoorIgF5
set_option maxRecDepth 100000
namespace Go.Ig
open Go Go.Proofs
noncomputable def DF (C : CallT) (k : Nat) (f : FuncId) (args : List V) (m : Mem) (fb : Option (Out × Mem)) : Option (Out × Mem) :=
  if f = id_tandemlaw05_SlotSectors then (match args with | [a0, a1, a2] => F.tandemlaw05_SlotSectors C k a0 a1 a2 m | _ => fb) else
  if f = id_tandemlaw05_SlotNone then (match args with | [a0, a1] => F.tandemlaw05_SlotNone C k a0 a1 m | _ => fb) else
  if f = id_tandemlaw05_SlotTurned then (match args with | [a0, a1, a2, a3, a4] => F.tandemlaw05_SlotTurned C k a0 a1 a2 a3 a4 m | _ => fb) else
  if f = id_tandemlaw05_SlotBack then (match args with | [a0, a1, a2] => F.tandemlaw05_SlotBack C k a0 a1 a2 m | _ => fb) else
  if f = id_tandemlaw05_SlotNumbers then (match args with | [a0, a1] => F.tandemlaw05_SlotNumbers C k a0 a1 m | _ => fb) else
  if f = id_tandemlaw05_SlotTorn then (match args with | [a0, a1, a2, a3] => F.tandemlaw05_SlotTorn C k a0 a1 a2 a3 m | _ => fb) else
  if f = id_tandemlaw05_SlotKnown then (match args with | [] => F.tandemlaw05_SlotKnown C k m | _ => fb) else
  if f = id_tandemlaw05_SlotScript then (match args with | [a0, a1] => F.tandemlaw05_SlotScript C k a0 a1 m | _ => fb) else
  if f = id_tandemkit_LentBytes then (match args with | [a0] => F.tandemkit_LentBytes C k a0 m | _ => fb) else
  if f = id_slot_Bytes then (match args with | [a0, a1] => F.slot_Bytes C k a0 a1 m | _ => fb) else
  if f = id_tandemref05_Bytes then (match args with | [a0, a1] => F.tandemref05_Bytes C k a0 a1 m | _ => fb) else
  if f = id_slot_Read then (match args with | [a0] => F.slot_Read C k a0 m | _ => fb) else
  if f = id_tandemref05_Read then (match args with | [a0] => F.tandemref05_Read C k a0 m | _ => fb) else
  if f = id_tandemkit_SameBytes then (match args with | [a0, a1] => F.tandemkit_SameBytes C k a0 a1 m | _ => fb) else
  if f = id_tandemkit_OverBytes then (match args with | [a0] => F.tandemkit_OverBytes C k a0 m | _ => fb) else
  if f = id_tandemkit_KeptBytes then (match args with | [a0, a1] => F.tandemkit_KeptBytes C k a0 a1 m | _ => fb) else
  if f = id_tandemlaw05_awake then (match args with | [] => F.tandemlaw05_awake C k m | _ => fb) else
  if f = id_slot_Load then (match args with | [a0, a1] => F.slot_Load C k a0 a1 m | _ => fb) else
  if f = id_slot_Save then (match args with | [a0, a1, a2] => F.slot_Save C k a0 a1 a2 m | _ => fb) else
  if f = id_disk_New then (match args with | [a0] => F.disk_New C k a0 m | _ => fb) else
  if f = id_tandemkit_Pick then (match args with | [a0, a1] => F.tandemkit_Pick C k a0 a1 m | _ => fb) else
  if f = id_disk_Disk_Turn then (match args with | [a0, a1, a2, a3] => F.disk_Disk_Turn C k a0 a1 a2 a3 m | _ => fb) else
  if f = id_tandemlaw05_forged then (match args with | [a0, a1, a2, a3] => F.tandemlaw05_forged C k a0 a1 a2 a3 m | _ => fb) else
  if f = id_tandemlaw05_loads then (match args with | [a0, a1] => F.tandemlaw05_loads C k a0 a1 m | _ => fb) else
  if f = id_tandemlaw05_whole then (match args with | [a0, a1, a2, a3] => F.tandemlaw05_whole C k a0 a1 a2 a3 m | _ => fb) else
  if f = id_tandemkit_CopyBytes then (match args with | [a0] => F.tandemkit_CopyBytes C k a0 m | _ => fb) else
  if f = id_disk_Disk_Fuse then (match args with | [a0, a1] => F.disk_Disk_Fuse C k a0 a1 m | _ => fb) else
  if f = id_disk_Disk_Crash then (match args with | [a0, a1, a2] => F.disk_Disk_Crash C k a0 a1 a2 m | _ => fb) else
  if f = id_tandemlaw05_Long then (match args with | [a0] => F.tandemlaw05_Long C k a0 m | _ => fb) else
  if f = id_tandemref04_New then (match args with | [a0] => F.tandemref04_New C k a0 m | _ => fb) else
  if f = id_tandemref05_Save then (match args with | [a0, a1, a2] => F.tandemref05_Save C k a0 a1 a2 m | _ => fb) else
  if f = id_tandemref05_Load then (match args with | [a0, a1] => F.tandemref05_Load C k a0 a1 m | _ => fb) else
  if f = id_tandemlaw05_Harm then (match args with | [a0, a1, a2] => F.tandemlaw05_Harm C k a0 a1 a2 m | _ => fb) else
  if f = id_tandemlaw05_Alike then (match args with | [a0, a1] => F.tandemlaw05_Alike C k a0 a1 m | _ => fb) else
  if f = id_fixed_Put then (match args with | [a0, a1] => F.fixed_Put C k a0 a1 m | _ => fb) else
  if f = id_fixed_Long then (match args with | [a0] => F.fixed_Long C k a0 m | _ => fb) else
  if f = id_fixed_Word then (match args with | [a0] => F.fixed_Word C k a0 m | _ => fb) else
  if f = id_crc_Sum then (match args with | [a0] => F.crc_Sum C k a0 m | _ => fb) else
  if f = id_tandemref03_Put then (match args with | [a0, a1] => F.tandemref03_Put C k a0 a1 m | _ => fb) else
  if f = id_tandemref03_Long then (match args with | [a0] => F.tandemref03_Long C k a0 m | _ => fb) else
  if f = id_tandemref05_Sealed then (match args with | [a0] => F.tandemref05_Sealed C k a0 m | _ => fb) else
  if f = id_bytes_Equal then (match args with | [a0, a1] => F.bytes_Equal C k a0 a1 m | _ => fb) else
  if f = id_fixed_GetLong then (match args with | [a0, a1] => F.fixed_GetLong C k a0 a1 m | _ => fb) else
  if f = id_fixed_Get then (match args with | [a0, a1, a2] => F.fixed_Get C k a0 a1 a2 m | _ => fb) else
  if f = id_tandemref05_same then (match args with | [a0, a1] => F.tandemref05_same C k a0 a1 m | _ => fb) else
  if f = id_tandemref03_GetLong then (match args with | [a0, a1] => F.tandemref03_GetLong C k a0 a1 m | _ => fb) else
  if f = id_tandemref03_Get then (match args with | [a0, a1, a2] => F.tandemref03_Get C k a0 a1 a2 m | _ => fb) else
  if f = id_slot_halves then (match args with | [a0, a1] => F.slot_halves C k a0 a1 m | _ => fb) else
  if f = id_disk_Disk_Sectors then (match args with | [a0] => F.disk_Disk_Sectors C k a0 m | _ => fb) else
  if f = id_disk_Disk_Write then (match args with | [a0, a1, a2] => F.disk_Disk_Write C k a0 a1 a2 m | _ => fb) else
  if f = id_disk_Disk_Flush then (match args with | [a0] => F.disk_Disk_Flush C k a0 m | _ => fb) else
  if f = id_disk_Disk_none then (match args with | [a0] => F.disk_Disk_none C k a0 m | _ => fb) else
  if f = id_disk_Disk_there then (match args with | [a0, a1] => F.disk_Disk_there C k a0 a1 m | _ => fb) else
  if f = id_disk_Disk_Read then (match args with | [a0, a1] => F.disk_Disk_Read C k a0 a1 m | _ => fb) else
  if f = id_disk_Disk_Loose then (match args with | [a0] => F.disk_Disk_Loose C k a0 m | _ => fb) else
  if f = id_tandemref05_look then (match args with | [a0, a1] => F.tandemref05_look C k a0 a1 m | _ => fb) else
  if f = id_tandemref04_Disk_Write then (match args with | [a0, a1, a2] => F.tandemref04_Disk_Write C k a0 a1 a2 m | _ => fb) else
  if f = id_tandemref04_Disk_Flush then (match args with | [a0] => F.tandemref04_Disk_Flush C k a0 m | _ => fb) else
  if f = id_tandemref04_Disk_Crash then (match args with | [a0, a1, a2] => F.tandemref04_Disk_Crash C k a0 a1 a2 m | _ => fb) else
  if f = id_tandemref04_Disk_Turn then (match args with | [a0, a1, a2, a3] => F.tandemref04_Disk_Turn C k a0 a1 a2 a3 m | _ => fb) else
  if f = id_tandemref04_Disk_Fuse then (match args with | [a0, a1] => F.tandemref04_Disk_Fuse C k a0 a1 m | _ => fb) else
  if f = id_disk_Disk_Ops then (match args with | [a0] => F.disk_Disk_Ops C k a0 m | _ => fb) else
  if f = id_disk_Disk_Up then (match args with | [a0] => F.disk_Disk_Up C k a0 m | _ => fb) else
  if f = id_tandemref04_Disk_Read then (match args with | [a0, a1] => F.tandemref04_Disk_Read C k a0 a1 m | _ => fb) else
  if f = id_fixed_lay then (match args with | [a0, a1] => F.fixed_lay C k a0 a1 m | _ => fb) else
  if f = id_crc_More then (match args with | [a0, a1] => F.crc_More C k a0 a1 m | _ => fb) else
  if f = id_tandemref03_bytes then (match args with | [a0, a1] => F.tandemref03_bytes C k a0 a1 m | _ => fb) else
  if f = id_tandemref03_Word then (match args with | [a0] => F.tandemref03_Word C k a0 m | _ => fb) else
  if f = id_tandemref01_Sum then (match args with | [a0] => F.tandemref01_Sum C k a0 m | _ => fb) else
  if f = id_fixed_get then (match args with | [a0, a1, a2] => F.fixed_get C k a0 a1 a2 m | _ => fb) else
  if f = id_tandemref03_get then (match args with | [a0, a1, a2] => F.tandemref03_get C k a0 a1 a2 m | _ => fb) else
  if f = id_disk_Disk_change then (match args with | [a0] => F.disk_Disk_change C k a0 m | _ => fb) else
  if f = id_slices_Sorted then (match args with | [a0] => F.slices_Sorted C k a0 m | _ => fb) else
  if f = id_maps_Keys then (match args with | [a0] => F.maps_Keys C k a0 m | _ => fb) else
  if f = id_tandemref04_Disk_there then (match args with | [a0, a1] => F.tandemref04_Disk_there C k a0 a1 m | _ => fb) else
  if f = id_tandemref04_Disk_change then (match args with | [a0] => F.tandemref04_Disk_change C k a0 m | _ => fb) else
  if f = id_tandemref04_Disk_Loose then (match args with | [a0] => F.tandemref04_Disk_Loose C k a0 m | _ => fb) else
  if f = id_sync_atomic_Int64_Load then (match args with | [a0] => F.sync_atomic_Int64_Load C k a0 m | _ => fb) else
  if f = id_tandemref01_More then (match args with | [a0, a1] => F.tandemref01_More C k a0 a1 m | _ => fb) else
  if f = id_sync_atomic_Int64_Add then (match args with | [a0, a1] => F.sync_atomic_Int64_Add C k a0 a1 m | _ => fb) else
  if f = id_slices_Collect then (match args with | [a0] => F.slices_Collect C k a0 m | _ => fb) else
  if f = id_slices_Sort then (match args with | [a0] => F.slices_Sort C k a0 m | _ => fb) else
  if f = id_math_bits_Len then (match args with | [a0] => F.math_bits_Len C k a0 m | _ => fb) else
  if f = id_slices_insertionSortOrdered then (match args with | [a0, a1, a2] => F.slices_insertionSortOrdered C k a0 a1 a2 m | _ => fb) else
  if f = id_slices_heapSortOrdered then (match args with | [a0, a1, a2] => F.slices_heapSortOrdered C k a0 a1 a2 m | _ => fb) else
  if f = id_slices_breakPatternsOrdered then (match args with | [a0, a1, a2] => F.slices_breakPatternsOrdered C k a0 a1 a2 m | _ => fb) else
  if f = id_slices_choosePivotOrdered then (match args with | [a0, a1, a2] => F.slices_choosePivotOrdered C k a0 a1 a2 m | _ => fb) else
  if f = id_slices_reverseRangeOrdered then (match args with | [a0, a1, a2] => F.slices_reverseRangeOrdered C k a0 a1 a2 m | _ => fb) else
  if f = id_slices_partialInsertionSortOrdered then (match args with | [a0, a1, a2] => F.slices_partialInsertionSortOrdered C k a0 a1 a2 m | _ => fb) else
  if f = id_cmp_Less then (match args with | [a0, a1] => F.cmp_Less C k a0 a1 m | _ => fb) else
  if f = id_math_bits_Len32 then (match args with | [a0] => F.math_bits_Len32 C k a0 m | _ => fb) else
  if f = id_math_bits_Len64 then (match args with | [a0] => F.math_bits_Len64 C k a0 m | _ => fb) else
  if f = id_slices_nextPowerOfTwo then (match args with | [a0] => F.slices_nextPowerOfTwo C k a0 m | _ => fb) else
  if f = id_slices_xorshift_Next then (match args with | [a0] => F.slices_xorshift_Next C k a0 m | _ => fb) else
  if f = id_slices_medianAdjacentOrdered then (match args with | [a0, a1, a2] => F.slices_medianAdjacentOrdered C k a0 a1 a2 m | _ => fb) else
  if f = id_slices_medianOrdered then (match args with | [a0, a1, a2, a3, a4] => F.slices_medianOrdered C k a0 a1 a2 a3 a4 m | _ => fb) else
  if f = id_cmp_isNaN then (match args with | [a0] => F.cmp_isNaN C k a0 m | _ => fb) else
  if f = id_slices_order2Ordered then (match args with | [a0, a1, a2, a3] => F.slices_order2Ordered C k a0 a1 a2 a3 m | _ => fb) else
  fb
noncomputable def D : Nat → CallT
  | 0 => fun _ _ _ => none
  | .succ k => fun tg args m => match tg with
    | .fn f => (match DF (D k) k f args m (stepC PP cfgB (D k) k f args m) with
      | some (Out.ret v, m) => fV v fun v => fMem m fun m => some (Out.ret v, m)
      | r => r)
    | .yield _ => none
theorem DF_eq (k : Nat) (f : FuncId) (args : List V) (m : Mem) : DF (icall PP cfgB k) k f args m (icall PP cfgB (k + 1) (.fn f) args m) = icall PP cfgB (k + 1) (.fn f) args m := by
  unfold DF
  by_cases h3 : f = id_tandemlaw05_SlotSectors
  · subst h3
    rw [if_pos rfl]
    split
    · exact (F.tandemlaw05_SlotSectors.eqG cfgB rfl rfl _ _ _ _ _).symm
    · rfl
  rw [if_neg h3]
  clear h3
  by_cases h4 : f = id_tandemlaw05_SlotNone
  · subst h4
    rw [if_pos rfl]
    split
    · exact (F.tandemlaw05_SlotNone.eqG cfgB rfl rfl _ _ _ _).symm
    · rfl
  rw [if_neg h4]
  clear h4
  by_cases h5 : f = id_tandemlaw05_SlotTurned
  · subst h5
    rw [if_pos rfl]
    split
    · exact (F.tandemlaw05_SlotTurned.eqG cfgB rfl rfl _ _ _ _ _ _ _).symm
    · rfl
  rw [if_neg h5]
  clear h5
  by_cases h6 : f = id_tandemlaw05_SlotBack
  · subst h6
    rw [if_pos rfl]
    split
    · exact (F.tandemlaw05_SlotBack.eqG cfgB rfl rfl _ _ _ _ _).symm
    · rfl
  rw [if_neg h6]
  clear h6
  by_cases h7 : f = id_tandemlaw05_SlotNumbers
  · subst h7
    rw [if_pos rfl]
    split
    · exact (F.tandemlaw05_SlotNumbers.eqG cfgB rfl rfl _ _ _ _).symm
    · rfl
  rw [if_neg h7]
  clear h7
  by_cases h8 : f = id_tandemlaw05_SlotTorn
  · subst h8
    rw [if_pos rfl]
    split
    · exact (F.tandemlaw05_SlotTorn.eqG cfgB rfl rfl _ _ _ _ _ _).symm
    · rfl
  rw [if_neg h8]
  clear h8
  by_cases h9 : f = id_tandemlaw05_SlotKnown
  · subst h9
    rw [if_pos rfl]
    split
    · exact (F.tandemlaw05_SlotKnown.eqG cfgB rfl rfl _ _).symm
    · rfl
  rw [if_neg h9]
  clear h9
  by_cases h11 : f = id_tandemlaw05_SlotScript
  · subst h11
    rw [if_pos rfl]
    split
    · exact (F.tandemlaw05_SlotScript.eqG cfgB rfl rfl _ _ _ _).symm
    · rfl
  rw [if_neg h11]
  clear h11
  by_cases h12 : f = id_tandemkit_LentBytes
  · subst h12
    rw [if_pos rfl]
    split
    · exact (F.tandemkit_LentBytes.eqG cfgB rfl rfl _ _ _).symm
    · rfl
  rw [if_neg h12]
  clear h12
  by_cases h13 : f = id_slot_Bytes
  · subst h13
    rw [if_pos rfl]
    split
    · exact (F.slot_Bytes.eqG cfgB rfl rfl _ _ _ _).symm
    · rfl
  rw [if_neg h13]
  clear h13
  by_cases h14 : f = id_tandemref05_Bytes
  · subst h14
    rw [if_pos rfl]
    split
    · exact (F.tandemref05_Bytes.eqG cfgB rfl rfl _ _ _ _).symm
    · rfl
  rw [if_neg h14]
  clear h14
  by_cases h15 : f = id_slot_Read
  · subst h15
    rw [if_pos rfl]
    split
    · exact (F.slot_Read.eqG cfgB rfl rfl _ _ _).symm
    · rfl
  rw [if_neg h15]
  clear h15
  by_cases h16 : f = id_tandemref05_Read
  · subst h16
    rw [if_pos rfl]
    split
    · exact (F.tandemref05_Read.eqG cfgB rfl rfl _ _ _).symm
    · rfl
  rw [if_neg h16]
  clear h16
  by_cases h17 : f = id_tandemkit_SameBytes
  · subst h17
    rw [if_pos rfl]
    split
    · exact (F.tandemkit_SameBytes.eqG cfgB rfl rfl _ _ _ _).symm
    · rfl
  rw [if_neg h17]
  clear h17
  by_cases h18 : f = id_tandemkit_OverBytes
  · subst h18
    rw [if_pos rfl]
    split
    · exact (F.tandemkit_OverBytes.eqG cfgB rfl rfl _ _ _).symm
    · rfl
  rw [if_neg h18]
  clear h18
  by_cases h19 : f = id_tandemkit_KeptBytes
  · subst h19
    rw [if_pos rfl]
    split
    · exact (F.tandemkit_KeptBytes.eqG cfgB rfl rfl _ _ _ _).symm
    · rfl
  rw [if_neg h19]
  clear h19
  by_cases h20 : f = id_tandemlaw05_awake
  · subst h20
    rw [if_pos rfl]
    split
    · exact (F.tandemlaw05_awake.eqG cfgB rfl rfl _ _).symm
    · rfl
  rw [if_neg h20]
  clear h20
  by_cases h21 : f = id_slot_Load
  · subst h21
    rw [if_pos rfl]
    split
    · exact (F.slot_Load.eqG cfgB rfl rfl _ _ _ _).symm
    · rfl
  rw [if_neg h21]
  clear h21
  by_cases h22 : f = id_slot_Save
  · subst h22
    rw [if_pos rfl]
    split
    · exact (F.slot_Save.eqG cfgB rfl rfl _ _ _ _ _).symm
    · rfl
  rw [if_neg h22]
  clear h22
  by_cases h23 : f = id_disk_New
  · subst h23
    rw [if_pos rfl]
    split
    · exact (F.disk_New.eqG cfgB rfl rfl _ _ _).symm
    · rfl
  rw [if_neg h23]
  clear h23
  by_cases h24 : f = id_tandemkit_Pick
  · subst h24
    rw [if_pos rfl]
    split
    · exact (F.tandemkit_Pick.eqG cfgB rfl rfl _ _ _ _).symm
    · rfl
  rw [if_neg h24]
  clear h24
  by_cases h25 : f = id_disk_Disk_Turn
  · subst h25
    rw [if_pos rfl]
    split
    · exact (F.disk_Disk_Turn.eqG cfgB rfl rfl _ _ _ _ _ _).symm
    · rfl
  rw [if_neg h25]
  clear h25
  by_cases h26 : f = id_tandemlaw05_forged
  · subst h26
    rw [if_pos rfl]
    split
    · exact (F.tandemlaw05_forged.eqG cfgB rfl rfl _ _ _ _ _ _).symm
    · rfl
  rw [if_neg h26]
  clear h26
  by_cases h27 : f = id_tandemlaw05_loads
  · subst h27
    rw [if_pos rfl]
    split
    · exact (F.tandemlaw05_loads.eqG cfgB rfl rfl _ _ _ _).symm
    · rfl
  rw [if_neg h27]
  clear h27
  by_cases h28 : f = id_tandemlaw05_whole
  · subst h28
    rw [if_pos rfl]
    split
    · exact (F.tandemlaw05_whole.eqG cfgB rfl rfl _ _ _ _ _ _).symm
    · rfl
  rw [if_neg h28]
  clear h28
  by_cases h29 : f = id_tandemkit_CopyBytes
  · subst h29
    rw [if_pos rfl]
    split
    · exact (F.tandemkit_CopyBytes.eqG cfgB rfl rfl _ _ _).symm
    · rfl
  rw [if_neg h29]
  clear h29
  by_cases h30 : f = id_disk_Disk_Fuse
  · subst h30
    rw [if_pos rfl]
    split
    · exact (F.disk_Disk_Fuse.eqG cfgB rfl rfl _ _ _ _).symm
    · rfl
  rw [if_neg h30]
  clear h30
  by_cases h31 : f = id_disk_Disk_Crash
  · subst h31
    rw [if_pos rfl]
    split
    · exact (F.disk_Disk_Crash.eqG cfgB rfl rfl _ _ _ _ _).symm
    · rfl
  rw [if_neg h31]
  clear h31
  by_cases h32 : f = id_tandemlaw05_Long
  · subst h32
    rw [if_pos rfl]
    split
    · exact (F.tandemlaw05_Long.eqG cfgB rfl rfl _ _ _).symm
    · rfl
  rw [if_neg h32]
  clear h32
  by_cases h33 : f = id_tandemref04_New
  · subst h33
    rw [if_pos rfl]
    split
    · exact (F.tandemref04_New.eqG cfgB rfl rfl _ _ _).symm
    · rfl
  rw [if_neg h33]
  clear h33
  by_cases h34 : f = id_tandemref05_Save
  · subst h34
    rw [if_pos rfl]
    split
    · exact (F.tandemref05_Save.eqG cfgB rfl rfl _ _ _ _ _).symm
    · rfl
  rw [if_neg h34]
  clear h34
  by_cases h35 : f = id_tandemref05_Load
  · subst h35
    rw [if_pos rfl]
    split
    · exact (F.tandemref05_Load.eqG cfgB rfl rfl _ _ _ _).symm
    · rfl
  rw [if_neg h35]
  clear h35
  by_cases h36 : f = id_tandemlaw05_Harm
  · subst h36
    rw [if_pos rfl]
    split
    · exact (F.tandemlaw05_Harm.eqG cfgB rfl rfl _ _ _ _ _).symm
    · rfl
  rw [if_neg h36]
  clear h36
  by_cases h37 : f = id_tandemlaw05_Alike
  · subst h37
    rw [if_pos rfl]
    split
    · exact (F.tandemlaw05_Alike.eqG cfgB rfl rfl _ _ _ _).symm
    · rfl
  rw [if_neg h37]
  clear h37
  by_cases h38 : f = id_fixed_Put
  · subst h38
    rw [if_pos rfl]
    split
    · exact (F.fixed_Put.eqG cfgB rfl rfl _ _ _ _).symm
    · rfl
  rw [if_neg h38]
  clear h38
  by_cases h39 : f = id_fixed_Long
  · subst h39
    rw [if_pos rfl]
    split
    · exact (F.fixed_Long.eqG cfgB rfl rfl _ _ _).symm
    · rfl
  rw [if_neg h39]
  clear h39
  by_cases h40 : f = id_fixed_Word
  · subst h40
    rw [if_pos rfl]
    split
    · exact (F.fixed_Word.eqG cfgB rfl rfl _ _ _).symm
    · rfl
  rw [if_neg h40]
  clear h40
  by_cases h41 : f = id_crc_Sum
  · subst h41
    rw [if_pos rfl]
    split
    · exact (F.crc_Sum.eqG cfgB rfl rfl _ _ _).symm
    · rfl
  rw [if_neg h41]
  clear h41
  by_cases h42 : f = id_tandemref03_Put
  · subst h42
    rw [if_pos rfl]
    split
    · exact (F.tandemref03_Put.eqG cfgB rfl rfl _ _ _ _).symm
    · rfl
  rw [if_neg h42]
  clear h42
  by_cases h43 : f = id_tandemref03_Long
  · subst h43
    rw [if_pos rfl]
    split
    · exact (F.tandemref03_Long.eqG cfgB rfl rfl _ _ _).symm
    · rfl
  rw [if_neg h43]
  clear h43
  by_cases h44 : f = id_tandemref05_Sealed
  · subst h44
    rw [if_pos rfl]
    split
    · exact (F.tandemref05_Sealed.eqG cfgB rfl rfl _ _ _).symm
    · rfl
  rw [if_neg h44]
  clear h44
  by_cases h45 : f = id_bytes_Equal
  · subst h45
    rw [if_pos rfl]
    split
    · exact (F.bytes_Equal.eqG cfgB rfl rfl _ _ _ _).symm
    · rfl
  rw [if_neg h45]
  clear h45
  by_cases h46 : f = id_fixed_GetLong
  · subst h46
    rw [if_pos rfl]
    split
    · exact (F.fixed_GetLong.eqG cfgB rfl rfl _ _ _ _).symm
    · rfl
  rw [if_neg h46]
  clear h46
  by_cases h47 : f = id_fixed_Get
  · subst h47
    rw [if_pos rfl]
    split
    · exact (F.fixed_Get.eqG cfgB rfl rfl _ _ _ _ _).symm
    · rfl
  rw [if_neg h47]
  clear h47
  by_cases h48 : f = id_tandemref05_same
  · subst h48
    rw [if_pos rfl]
    split
    · exact (F.tandemref05_same.eqG cfgB rfl rfl _ _ _ _).symm
    · rfl
  rw [if_neg h48]
  clear h48
  by_cases h49 : f = id_tandemref03_GetLong
  · subst h49
    rw [if_pos rfl]
    split
    · exact (F.tandemref03_GetLong.eqG cfgB rfl rfl _ _ _ _).symm
    · rfl
  rw [if_neg h49]
  clear h49
  by_cases h50 : f = id_tandemref03_Get
  · subst h50
    rw [if_pos rfl]
    split
    · exact (F.tandemref03_Get.eqG cfgB rfl rfl _ _ _ _ _).symm
    · rfl
  rw [if_neg h50]
  clear h50
  by_cases h51 : f = id_slot_halves
  · subst h51
    rw [if_pos rfl]
    split
    · exact (F.slot_halves.eqG cfgB rfl rfl _ _ _ _).symm
    · rfl
  rw [if_neg h51]
  clear h51
  by_cases h52 : f = id_disk_Disk_Sectors
  · subst h52
    rw [if_pos rfl]
    split
    · exact (F.disk_Disk_Sectors.eqG cfgB rfl rfl _ _ _).symm
    · rfl
  rw [if_neg h52]
  clear h52
  by_cases h53 : f = id_disk_Disk_Write
  · subst h53
    rw [if_pos rfl]
    split
    · exact (F.disk_Disk_Write.eqG cfgB rfl rfl _ _ _ _ _).symm
    · rfl
  rw [if_neg h53]
  clear h53
  by_cases h54 : f = id_disk_Disk_Flush
  · subst h54
    rw [if_pos rfl]
    split
    · exact (F.disk_Disk_Flush.eqG cfgB rfl rfl _ _ _).symm
    · rfl
  rw [if_neg h54]
  clear h54
  by_cases h55 : f = id_disk_Disk_none
  · subst h55
    rw [if_pos rfl]
    split
    · exact (F.disk_Disk_none.eqG cfgB rfl rfl _ _ _).symm
    · rfl
  rw [if_neg h55]
  clear h55
  by_cases h56 : f = id_disk_Disk_there
  · subst h56
    rw [if_pos rfl]
    split
    · exact (F.disk_Disk_there.eqG cfgB rfl rfl _ _ _ _).symm
    · rfl
  rw [if_neg h56]
  clear h56
  by_cases h57 : f = id_disk_Disk_Read
  · subst h57
    rw [if_pos rfl]
    split
    · exact (F.disk_Disk_Read.eqG cfgB rfl rfl _ _ _ _).symm
    · rfl
  rw [if_neg h57]
  clear h57
  by_cases h58 : f = id_disk_Disk_Loose
  · subst h58
    rw [if_pos rfl]
    split
    · exact (F.disk_Disk_Loose.eqG cfgB rfl rfl _ _ _).symm
    · rfl
  rw [if_neg h58]
  clear h58
  by_cases h59 : f = id_tandemref05_look
  · subst h59
    rw [if_pos rfl]
    split
    · exact (F.tandemref05_look.eqG cfgB rfl rfl _ _ _ _).symm
    · rfl
  rw [if_neg h59]
  clear h59
  by_cases h60 : f = id_tandemref04_Disk_Write
  · subst h60
    rw [if_pos rfl]
    split
    · exact (F.tandemref04_Disk_Write.eqG cfgB rfl rfl _ _ _ _ _).symm
    · rfl
  rw [if_neg h60]
  clear h60
  by_cases h61 : f = id_tandemref04_Disk_Flush
  · subst h61
    rw [if_pos rfl]
    split
    · exact (F.tandemref04_Disk_Flush.eqG cfgB rfl rfl _ _ _).symm
    · rfl
  rw [if_neg h61]
  clear h61
  by_cases h62 : f = id_tandemref04_Disk_Crash
  · subst h62
    rw [if_pos rfl]
    split
    · exact (F.tandemref04_Disk_Crash.eqG cfgB rfl rfl _ _ _ _ _).symm
    · rfl
  rw [if_neg h62]
  clear h62
  by_cases h63 : f = id_tandemref04_Disk_Turn
  · subst h63
    rw [if_pos rfl]
    split
    · exact (F.tandemref04_Disk_Turn.eqG cfgB rfl rfl _ _ _ _ _ _).symm
    · rfl
  rw [if_neg h63]
  clear h63
  by_cases h64 : f = id_tandemref04_Disk_Fuse
  · subst h64
    rw [if_pos rfl]
    split
    · exact (F.tandemref04_Disk_Fuse.eqG cfgB rfl rfl _ _ _ _).symm
    · rfl
  rw [if_neg h64]
  clear h64
  by_cases h65 : f = id_disk_Disk_Ops
  · subst h65
    rw [if_pos rfl]
    split
    · exact (F.disk_Disk_Ops.eqG cfgB rfl rfl _ _ _).symm
    · rfl
  rw [if_neg h65]
  clear h65
  by_cases h66 : f = id_disk_Disk_Up
  · subst h66
    rw [if_pos rfl]
    split
    · exact (F.disk_Disk_Up.eqG cfgB rfl rfl _ _ _).symm
    · rfl
  rw [if_neg h66]
  clear h66
  by_cases h67 : f = id_tandemref04_Disk_Read
  · subst h67
    rw [if_pos rfl]
    split
    · exact (F.tandemref04_Disk_Read.eqG cfgB rfl rfl _ _ _ _).symm
    · rfl
  rw [if_neg h67]
  clear h67
  by_cases h68 : f = id_fixed_lay
  · subst h68
    rw [if_pos rfl]
    split
    · exact (F.fixed_lay.eqG cfgB rfl rfl _ _ _ _).symm
    · rfl
  rw [if_neg h68]
  clear h68
  by_cases h69 : f = id_crc_More
  · subst h69
    rw [if_pos rfl]
    split
    · exact (F.crc_More.eqG cfgB rfl rfl _ _ _ _).symm
    · rfl
  rw [if_neg h69]
  clear h69
  by_cases h70 : f = id_tandemref03_bytes
  · subst h70
    rw [if_pos rfl]
    split
    · exact (F.tandemref03_bytes.eqG cfgB rfl rfl _ _ _ _).symm
    · rfl
  rw [if_neg h70]
  clear h70
  by_cases h71 : f = id_tandemref03_Word
  · subst h71
    rw [if_pos rfl]
    split
    · exact (F.tandemref03_Word.eqG cfgB rfl rfl _ _ _).symm
    · rfl
  rw [if_neg h71]
  clear h71
  by_cases h72 : f = id_tandemref01_Sum
  · subst h72
    rw [if_pos rfl]
    split
    · exact (F.tandemref01_Sum.eqG cfgB rfl rfl _ _ _).symm
    · rfl
  rw [if_neg h72]
  clear h72
  by_cases h73 : f = id_fixed_get
  · subst h73
    rw [if_pos rfl]
    split
    · exact (F.fixed_get.eqG cfgB rfl rfl _ _ _ _ _).symm
    · rfl
  rw [if_neg h73]
  clear h73
  by_cases h74 : f = id_tandemref03_get
  · subst h74
    rw [if_pos rfl]
    split
    · exact (F.tandemref03_get.eqG cfgB rfl rfl _ _ _ _ _).symm
    · rfl
  rw [if_neg h74]
  clear h74
  by_cases h75 : f = id_disk_Disk_change
  · subst h75
    rw [if_pos rfl]
    split
    · exact (F.disk_Disk_change.eqG cfgB rfl rfl _ _ _).symm
    · rfl
  rw [if_neg h75]
  clear h75
  by_cases h76 : f = id_slices_Sorted
  · subst h76
    rw [if_pos rfl]
    split
    · exact (F.slices_Sorted.eqG cfgB rfl rfl _ _ _).symm
    · rfl
  rw [if_neg h76]
  clear h76
  by_cases h77 : f = id_maps_Keys
  · subst h77
    rw [if_pos rfl]
    split
    · exact (F.maps_Keys.eqG cfgB rfl rfl _ _ _).symm
    · rfl
  rw [if_neg h77]
  clear h77
  by_cases h78 : f = id_tandemref04_Disk_there
  · subst h78
    rw [if_pos rfl]
    split
    · exact (F.tandemref04_Disk_there.eqG cfgB rfl rfl _ _ _ _).symm
    · rfl
  rw [if_neg h78]
  clear h78
  by_cases h79 : f = id_tandemref04_Disk_change
  · subst h79
    rw [if_pos rfl]
    split
    · exact (F.tandemref04_Disk_change.eqG cfgB rfl rfl _ _ _).symm
    · rfl
  rw [if_neg h79]
  clear h79
  by_cases h80 : f = id_tandemref04_Disk_Loose
  · subst h80
    rw [if_pos rfl]
    split
    · exact (F.tandemref04_Disk_Loose.eqG cfgB rfl rfl _ _ _).symm
    · rfl
  rw [if_neg h80]
  clear h80
  by_cases h81 : f = id_sync_atomic_Int64_Load
  · subst h81
    rw [if_pos rfl]
    split
    · exact (F.sync_atomic_Int64_Load.eqG cfgB rfl rfl _ _ _).symm
    · rfl
  rw [if_neg h81]
  clear h81
  by_cases h82 : f = id_tandemref01_More
  · subst h82
    rw [if_pos rfl]
    split
    · exact (F.tandemref01_More.eqG cfgB rfl rfl _ _ _ _).symm
    · rfl
  rw [if_neg h82]
  clear h82
  by_cases h83 : f = id_sync_atomic_Int64_Add
  · subst h83
    rw [if_pos rfl]
    split
    · exact (F.sync_atomic_Int64_Add.eqG cfgB rfl rfl _ _ _ _).symm
    · rfl
  rw [if_neg h83]
  clear h83
  by_cases h84 : f = id_slices_Collect
  · subst h84
    rw [if_pos rfl]
    split
    · exact (F.slices_Collect.eqG cfgB rfl rfl _ _ _).symm
    · rfl
  rw [if_neg h84]
  clear h84
  by_cases h85 : f = id_slices_Sort
  · subst h85
    rw [if_pos rfl]
    split
    · exact (F.slices_Sort.eqG cfgB rfl rfl _ _ _).symm
    · rfl
  rw [if_neg h85]
  clear h85
  by_cases h91 : f = id_math_bits_Len
  · subst h91
    rw [if_pos rfl]
    split
    · exact (F.math_bits_Len.eqG cfgB rfl rfl _ _ _).symm
    · rfl
  rw [if_neg h91]
  clear h91
  by_cases h92 : f = id_slices_insertionSortOrdered
  · subst h92
    rw [if_pos rfl]
    split
    · exact (F.slices_insertionSortOrdered.eqG cfgB rfl rfl _ _ _ _ _).symm
    · rfl
  rw [if_neg h92]
  clear h92
  by_cases h93 : f = id_slices_heapSortOrdered
  · subst h93
    rw [if_pos rfl]
    split
    · exact (F.slices_heapSortOrdered.eqG cfgB rfl rfl _ _ _ _ _).symm
    · rfl
  rw [if_neg h93]
  clear h93
  by_cases h94 : f = id_slices_breakPatternsOrdered
  · subst h94
    rw [if_pos rfl]
    split
    · exact (F.slices_breakPatternsOrdered.eqG cfgB rfl rfl _ _ _ _ _).symm
    · rfl
  rw [if_neg h94]
  clear h94
  by_cases h95 : f = id_slices_choosePivotOrdered
  · subst h95
    rw [if_pos rfl]
    split
    · exact (F.slices_choosePivotOrdered.eqG cfgB rfl rfl _ _ _ _ _).symm
    · rfl
  rw [if_neg h95]
  clear h95
  by_cases h96 : f = id_slices_reverseRangeOrdered
  · subst h96
    rw [if_pos rfl]
    split
    · exact (F.slices_reverseRangeOrdered.eqG cfgB rfl rfl _ _ _ _ _).symm
    · rfl
  rw [if_neg h96]
  clear h96
  by_cases h97 : f = id_slices_partialInsertionSortOrdered
  · subst h97
    rw [if_pos rfl]
    split
    · exact (F.slices_partialInsertionSortOrdered.eqG cfgB rfl rfl _ _ _ _ _).symm
    · rfl
  rw [if_neg h97]
  clear h97
  by_cases h98 : f = id_cmp_Less
  · subst h98
    rw [if_pos rfl]
    split
    · exact (F.cmp_Less.eqG cfgB rfl rfl _ _ _ _).symm
    · rfl
  rw [if_neg h98]
  clear h98
  by_cases h101 : f = id_math_bits_Len32
  · subst h101
    rw [if_pos rfl]
    split
    · exact (F.math_bits_Len32.eqG cfgB rfl rfl _ _ _).symm
    · rfl
  rw [if_neg h101]
  clear h101
  by_cases h102 : f = id_math_bits_Len64
  · subst h102
    rw [if_pos rfl]
    split
    · exact (F.math_bits_Len64.eqG cfgB rfl rfl _ _ _).symm
    · rfl
  rw [if_neg h102]
  clear h102
  by_cases h104 : f = id_slices_nextPowerOfTwo
  · subst h104
    rw [if_pos rfl]
    split
    · exact (F.slices_nextPowerOfTwo.eqG cfgB rfl rfl _ _ _).symm
    · rfl
  rw [if_neg h104]
  clear h104
  by_cases h105 : f = id_slices_xorshift_Next
  · subst h105
    rw [if_pos rfl]
    split
    · exact (F.slices_xorshift_Next.eqG cfgB rfl rfl _ _ _).symm
    · rfl
  rw [if_neg h105]
  clear h105
  by_cases h106 : f = id_slices_medianAdjacentOrdered
  · subst h106
    rw [if_pos rfl]
    split
    · exact (F.slices_medianAdjacentOrdered.eqG cfgB rfl rfl _ _ _ _ _).symm
    · rfl
  rw [if_neg h106]
  clear h106
  by_cases h107 : f = id_slices_medianOrdered
  · subst h107
    rw [if_pos rfl]
    split
    · exact (F.slices_medianOrdered.eqG cfgB rfl rfl _ _ _ _ _ _ _).symm
    · rfl
  rw [if_neg h107]
  clear h107
  by_cases h108 : f = id_cmp_isNaN
  · subst h108
    rw [if_pos rfl]
    split
    · exact (F.cmp_isNaN.eqG cfgB rfl rfl _ _ _).symm
    · rfl
  rw [if_neg h108]
  clear h108
  by_cases h109 : f = id_slices_order2Ordered
  · subst h109
    rw [if_pos rfl]
    split
    · exact (F.slices_order2Ordered.eqG cfgB rfl rfl _ _ _ _ _ _).symm
    · rfl
  rw [if_neg h109]
theorem D_eq : ∀ k, D k = icall PP cfgB k
  | 0 => rfl
  | k + 1 => by
    funext tg args m
    cases tg with
    | yield l => rfl
    | fn f =>
      show (match DF (D k) k f args m (stepC PP cfgB (D k) k f args m) with | some (Out.ret v, m) => fV v fun v => fMem m fun m => some (Out.ret v, m) | r => r) = _
      rw [D_eq k, stepC_eq _ _ _ _ _ _ rfl, DF_eq]
      rcases icall PP cfgB (k + 1) (.fn f) args m with _ | ⟨_ | _, _⟩ <;> simp [fV_eq, fMem_eq]
theorem ranD {k : Nat} {f : FuncId} {args : List V} {m : Mem} {o : Out} (h : (D k (.fn f) args m).map (·.1) = some o) : ∃ m', icall PP cfgB k (.fn f) args m = some (o, m') := by
  rw [D_eq] at h
  exact ran h
end Go.Ig
