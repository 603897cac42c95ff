/-
  The program of this seat, and how the evaluator goes through it.
-/
import Derived.Test.YtoiaagmhcpfjnaaIgX
import Derived.Test.YtoiaagmhcpfjnaaIgSum
import Derived.Test.YtoiaagmhcpfjnaaChecked
import Derived.KernelRfl
namespace Go.Ig
open Go Go.Proofs
noncomputable abbrev PP : Program := Try.prog
abbrev id_main_main : FuncId := 0
abbrev id_gosem_cut : FuncId := 1
abbrev id_gosem_cut_init : FuncId := 2
abbrev id_tandemlaw06_MetaOrders : FuncId := 3
abbrev id_tandemlaw06_MetaBack : FuncId := 4
abbrev id_tandemlaw06_MetaTells : FuncId := 5
abbrev id_tandemlaw06_awake : FuncId := 6
abbrev id_meta_Newer : FuncId := 7
abbrev id_meta_Bytes : FuncId := 8
abbrev id_meta_Check : FuncId := 9
abbrev id_meta_Read : FuncId := 10
abbrev id_tandemkit_SameBytes : FuncId := 11
abbrev id_tandemkit_LentBytes : FuncId := 12
abbrev id_tandemref06_Bytes : FuncId := 13
abbrev id_tandemref06_Read : FuncId := 14
abbrev id_tandemref06_Check : FuncId := 15
abbrev id_tandemref06_Newer : FuncId := 16
abbrev id_meta_First : FuncId := 17
abbrev id_tandemref06_First : FuncId := 18
abbrev id_tandemkit_OverBytes : FuncId := 19
abbrev id_tandemkit_KeptBytes : FuncId := 20
abbrev id_meta_fields : FuncId := 21
abbrev id_fixed_Put : FuncId := 22
abbrev id_meta_number : FuncId := 23
abbrev id_fixed_Get : FuncId := 24
abbrev id_tandemref06_put : FuncId := 25
abbrev id_tandemref03_Get : FuncId := 26
abbrev id_tandemref06_number : FuncId := 27
abbrev id_tandemref06_Record : FuncId := 28
abbrev id_fixed_lay : FuncId := 29
abbrev id_fixed_get : FuncId := 30
abbrev id_tandemref03_Put : FuncId := 31
abbrev id_tandemref03_get : FuncId := 32
abbrev id_tandemref03_bytes : FuncId := 33
abbrev id_runtime_boundsError_Error : FuncId := 34
abbrev id_runtime_boundsError_RuntimeError : FuncId := 35
abbrev id_runtime_errorString_Error : FuncId := 36
abbrev id_runtime_errorString_RuntimeError : FuncId := 37
abbrev id_runtime_plainError_Error : FuncId := 38
abbrev id_runtime_plainError_RuntimeError : FuncId := 39
abbrev id_runtime_errorAddressString_Error : FuncId := 40
abbrev id_runtime_errorAddressString_RuntimeError : FuncId := 41
abbrev id_runtime_TypeAssertionError_Error : FuncId := 42
abbrev id_runtime_TypeAssertionError_RuntimeError : FuncId := 43
abbrev id_runtime_PanicNilError_Error : FuncId := 44
abbrev id_runtime_PanicNilError_RuntimeError : FuncId := 45
abbrev id_internal_abi_Type_Align : FuncId := 46
abbrev id_internal_runtime_maps_unhashableTypeError_Error : FuncId := 47
abbrev id_internal_runtime_maps_unhashableTypeError_RuntimeError : FuncId := 48
abbrev id_api_Errno_Error : FuncId := 49
abbrev id_internal_abi_Kind_String : FuncId := 50
def cfgLive : FuncId → Nat → Option (List Nat × List Nat)
  | 8, 6 => some ([5, 16, 17], [5])
  | 10, 4 => some ([0, 2, 4, 5, 13, 14, 56, 57, 58], [0, 2, 3, 4, 5, 56, 57, 58])
  | 12, 4 => some ([0, 3, 4], [0, 3])
  | 19, 2 => some ([2, 3], [])
  | 25, 3 => some ([0, 1, 5, 6], [5])
  | 29, 3 => some ([0, 1, 5, 7], [1, 5])
  | 30, 7 => some ([1, 2, 8, 9, 38, 39, 40], [1, 2, 8, 9])
  | 32, 7 => some ([0, 1, 2, 8, 9, 10], [1, 2, 8, 9])
  | 33, 3 => some ([0, 1, 5, 6], [5])
  | _, _ => none
def cfgExt : FuncId → Option Ext
  | _ => none
def cfgGc (f : FuncId) : Bool := [2, 3, 4, 5, 6, 7, 8, 9, 10, 11, 12, 13, 14, 15, 16, 17, 18, 19, 20, 21, 22, 23, 24, 25, 26, 27, 28, 29, 30, 31, 32, 33].contains f
def cfg0 : Cfg := { live := cfgLive, gc := cfgGc, ext := cfgExt, sum := fun _ => none }
end Go.Ig
