/- The functions' numbers. -/
import Derived.Test.YthljhmjigpfpnaaXRule
import Derived.Test.YthljhmjigpfpnaaProg
namespace Go.X
open Go.Proofs
abbrev F.main_main : FuncId := 0
noncomputable abbrev Fn.main_main : Func := Try.f0
theorem Fu.main_main : Try.prog.funcs[F.main_main]? = some Fn.main_main := Try.func0
abbrev F.gosem_cut : FuncId := 1
noncomputable abbrev Fn.gosem_cut : Func := Try.f1
theorem Fu.gosem_cut : Try.prog.funcs[F.gosem_cut]? = some Fn.gosem_cut := Try.func1
abbrev F.gosem_cut_init : FuncId := 2
noncomputable abbrev Fn.gosem_cut_init : Func := Try.f2
theorem Fu.gosem_cut_init : Try.prog.funcs[F.gosem_cut_init]? = some Fn.gosem_cut_init := Try.func2
abbrev F.barquelaw14_DiskTorn : FuncId := 3
noncomputable abbrev Fn.barquelaw14_DiskTorn : Func := Try.f3
theorem Fu.barquelaw14_DiskTorn : Try.prog.funcs[F.barquelaw14_DiskTorn]? = some Fn.barquelaw14_DiskTorn := Try.func3
abbrev F.barquelaw14_DiskFull : FuncId := 4
noncomputable abbrev Fn.barquelaw14_DiskFull : Func := Try.f4
theorem Fu.barquelaw14_DiskFull : Try.prog.funcs[F.barquelaw14_DiskFull]? = some Fn.barquelaw14_DiskFull := Try.func4
abbrev F.barquelaw14_DiskFuse : FuncId := 5
noncomputable abbrev Fn.barquelaw14_DiskFuse : Func := Try.f5
theorem Fu.barquelaw14_DiskFuse : Try.prog.funcs[F.barquelaw14_DiskFuse]? = some Fn.barquelaw14_DiskFuse := Try.func5
abbrev F.barquelaw14_DiskKeeps : FuncId := 6
noncomputable abbrev Fn.barquelaw14_DiskKeeps : Func := Try.f6
theorem Fu.barquelaw14_DiskKeeps : Try.prog.funcs[F.barquelaw14_DiskKeeps]? = some Fn.barquelaw14_DiskKeeps := Try.func6
abbrev F.barquelaw14_DiskPlays : FuncId := 7
noncomputable abbrev Fn.barquelaw14_DiskPlays : Func := Try.f7
theorem Fu.barquelaw14_DiskPlays : Try.prog.funcs[F.barquelaw14_DiskPlays]? = some Fn.barquelaw14_DiskPlays := Try.func7
abbrev F.barquelaw14_DiskCopies : FuncId := 8
noncomputable abbrev Fn.barquelaw14_DiskCopies : Func := Try.f8
theorem Fu.barquelaw14_DiskCopies : Try.prog.funcs[F.barquelaw14_DiskCopies]? = some Fn.barquelaw14_DiskCopies := Try.func8
abbrev F.barquelaw14_DiskNobody : FuncId := 9
noncomputable abbrev Fn.barquelaw14_DiskNobody : Func := Try.f9
theorem Fu.barquelaw14_DiskNobody : Try.prog.funcs[F.barquelaw14_DiskNobody]? = some Fn.barquelaw14_DiskNobody := Try.func9
abbrev F.barquelaw14_cut : FuncId := 10
noncomputable abbrev Fn.barquelaw14_cut : Func := Try.f10
theorem Fu.barquelaw14_cut : Try.prog.funcs[F.barquelaw14_cut]? = some Fn.barquelaw14_cut := Try.func10
abbrev F.barquelaw14_awake : FuncId := 11
noncomputable abbrev Fn.barquelaw14_awake : Func := Try.f11
theorem Fu.barquelaw14_awake : Try.prog.funcs[F.barquelaw14_awake]? = some Fn.barquelaw14_awake := Try.func11
abbrev F.disk_New : FuncId := 12
noncomputable abbrev Fn.disk_New : Func := Try.f12
theorem Fu.disk_New : Try.prog.funcs[F.disk_New]? = some Fn.disk_New := Try.func12
abbrev F.disk_Disk_Create : FuncId := 13
noncomputable abbrev Fn.disk_Disk_Create : Func := Try.f13
theorem Fu.disk_Disk_Create : Try.prog.funcs[F.disk_Disk_Create]? = some Fn.disk_Disk_Create := Try.func13
abbrev F.disk_Disk_Write : FuncId := 14
noncomputable abbrev Fn.disk_Disk_Write : Func := Try.f14
theorem Fu.disk_Disk_Write : Try.prog.funcs[F.disk_Disk_Write]? = some Fn.disk_Disk_Write := Try.func14
abbrev F.disk_Disk_Crash : FuncId := 15
noncomputable abbrev Fn.disk_Disk_Crash : Func := Try.f15
theorem Fu.disk_Disk_Crash : Try.prog.funcs[F.disk_Disk_Crash]? = some Fn.disk_Disk_Crash := Try.func15
abbrev F.disk_Disk_Read : FuncId := 16
noncomputable abbrev Fn.disk_Disk_Read : Func := Try.f16
theorem Fu.disk_Disk_Read : Try.prog.funcs[F.disk_Disk_Read]? = some Fn.disk_Disk_Read := Try.func16
abbrev F.disk_Disk_Size : FuncId := 17
noncomputable abbrev Fn.disk_Disk_Size : Func := Try.f17
theorem Fu.disk_Disk_Size : Try.prog.funcs[F.disk_Disk_Size]? = some Fn.disk_Disk_Size := Try.func17
abbrev F.disk_Disk_Free : FuncId := 18
noncomputable abbrev Fn.disk_Disk_Free : Func := Try.f18
theorem Fu.disk_Disk_Free : Try.prog.funcs[F.disk_Disk_Free]? = some Fn.disk_Disk_Free := Try.func18
abbrev F.disk_Disk_Waiting : FuncId := 19
noncomputable abbrev Fn.disk_Disk_Waiting : Func := Try.f19
theorem Fu.disk_Disk_Waiting : Try.prog.funcs[F.disk_Disk_Waiting]? = some Fn.disk_Disk_Waiting := Try.func19
abbrev F.disk_Disk_Arm : FuncId := 20
noncomputable abbrev Fn.disk_Disk_Arm : Func := Try.f20
theorem Fu.disk_Disk_Arm : Try.prog.funcs[F.disk_Disk_Arm]? = some Fn.disk_Disk_Arm := Try.func20
abbrev F.disk_Disk_Up : FuncId := 21
noncomputable abbrev Fn.disk_Disk_Up : Func := Try.f21
theorem Fu.disk_Disk_Up : Try.prog.funcs[F.disk_Disk_Up]? = some Fn.disk_Disk_Up := Try.func21
abbrev F.disk_Disk_Append : FuncId := 22
noncomputable abbrev Fn.disk_Disk_Append : Func := Try.f22
theorem Fu.disk_Disk_Append : Try.prog.funcs[F.disk_Disk_Append]? = some Fn.disk_Disk_Append := Try.func22
abbrev F.disk_Disk_Writes : FuncId := 23
noncomputable abbrev Fn.disk_Disk_Writes : Func := Try.f23
theorem Fu.disk_Disk_Writes : Try.prog.funcs[F.disk_Disk_Writes]? = some Fn.disk_Disk_Writes := Try.func23
abbrev F.disk_Disk_Sync : FuncId := 24
noncomputable abbrev Fn.disk_Disk_Sync : Func := Try.f24
theorem Fu.disk_Disk_Sync : Try.prog.funcs[F.disk_Disk_Sync]? = some Fn.disk_Disk_Sync := Try.func24
abbrev F.disk_Disk_Copy : FuncId := 25
noncomputable abbrev Fn.disk_Disk_Copy : Func := Try.f25
theorem Fu.disk_Disk_Copy : Try.prog.funcs[F.disk_Disk_Copy]? = some Fn.disk_Disk_Copy := Try.func25
abbrev F.barquelaw14_step : FuncId := 26
noncomputable abbrev Fn.barquelaw14_step : Func := Try.f26
theorem Fu.barquelaw14_step : Try.prog.funcs[F.barquelaw14_step]? = some Fn.barquelaw14_step := Try.func26
abbrev F.barquelaw14_stands : FuncId := 27
noncomputable abbrev Fn.barquelaw14_stands : Func := Try.f27
theorem Fu.barquelaw14_stands : Try.prog.funcs[F.barquelaw14_stands]? = some Fn.barquelaw14_stands := Try.func27
abbrev F.barqueref14_Disk_Copy : FuncId := 28
noncomputable abbrev Fn.barqueref14_Disk_Copy : Func := Try.f28
theorem Fu.barqueref14_Disk_Copy : Try.prog.funcs[F.barqueref14_Disk_Copy]? = some Fn.barqueref14_Disk_Copy := Try.func28
abbrev F.disk_Disk_List : FuncId := 29
noncomputable abbrev Fn.disk_Disk_List : Func := Try.f29
theorem Fu.disk_Disk_List : Try.prog.funcs[F.disk_Disk_List]? = some Fn.disk_Disk_List := Try.func29
abbrev F.disk_Disk_Remove : FuncId := 30
noncomputable abbrev Fn.disk_Disk_Remove : Func := Try.f30
theorem Fu.disk_Disk_Remove : Try.prog.funcs[F.disk_Disk_Remove]? = some Fn.disk_Disk_Remove := Try.func30
abbrev F.disk_Disk_Rename : FuncId := 31
noncomputable abbrev Fn.disk_Disk_Rename : Func := Try.f31
theorem Fu.disk_Disk_Rename : Try.prog.funcs[F.disk_Disk_Rename]? = some Fn.disk_Disk_Rename := Try.func31
abbrev F.disk_Disk_Spoil : FuncId := 32
noncomputable abbrev Fn.disk_Disk_Spoil : Func := Try.f32
theorem Fu.disk_Disk_Spoil : Try.prog.funcs[F.disk_Disk_Spoil]? = some Fn.disk_Disk_Spoil := Try.func32
abbrev F.disk_Disk_ready : FuncId := 33
noncomputable abbrev Fn.disk_Disk_ready : Func := Try.f33
theorem Fu.disk_Disk_ready : Try.prog.funcs[F.disk_Disk_ready]? = some Fn.disk_Disk_ready := Try.func33
abbrev F.disk_named : FuncId := 34
noncomputable abbrev Fn.disk_named : Func := Try.f34
theorem Fu.disk_named : Try.prog.funcs[F.disk_named]? = some Fn.disk_named := Try.func34
abbrev F.disk_Disk_place : FuncId := 35
noncomputable abbrev Fn.disk_Disk_place : Func := Try.f35
theorem Fu.disk_Disk_place : Try.prog.funcs[F.disk_Disk_place]? = some Fn.disk_Disk_place := Try.func35
abbrev F.slices_Insert : FuncId := 36
noncomputable abbrev Fn.slices_Insert : Func := Try.f36
theorem Fu.slices_Insert : Try.prog.funcs[F.slices_Insert]? = some Fn.slices_Insert := Try.func36
abbrev F.disk_Disk_find : FuncId := 37
noncomputable abbrev Fn.disk_Disk_find : Func := Try.f37
theorem Fu.disk_Disk_find : Try.prog.funcs[F.disk_Disk_find]? = some Fn.disk_Disk_find := Try.func37
abbrev F.disk_sectors : FuncId := 38
noncomputable abbrev Fn.disk_sectors : Func := Try.f38
theorem Fu.disk_sectors : Try.prog.funcs[F.disk_sectors]? = some Fn.disk_sectors := Try.func38
abbrev F.disk_grown : FuncId := 39
noncomputable abbrev Fn.disk_grown : Func := Try.f39
theorem Fu.disk_grown : Try.prog.funcs[F.disk_grown]? = some Fn.disk_grown := Try.func39
abbrev F.disk_Disk_last : FuncId := 40
noncomputable abbrev Fn.disk_Disk_last : Func := Try.f40
theorem Fu.disk_Disk_last : Try.prog.funcs[F.disk_Disk_last]? = some Fn.disk_Disk_last := Try.func40
abbrev F.slices_Clone : FuncId := 41
noncomputable abbrev Fn.slices_Clone : Func := Try.f41
theorem Fu.slices_Clone : Try.prog.funcs[F.slices_Clone]? = some Fn.slices_Clone := Try.func41
abbrev F.disk_Disk_used : FuncId := 42
noncomputable abbrev Fn.disk_Disk_used : Func := Try.f42
theorem Fu.disk_Disk_used : Try.prog.funcs[F.disk_Disk_used]? = some Fn.disk_Disk_used := Try.func42
abbrev F.slices_Clone_43 : FuncId := 43
noncomputable abbrev Fn.slices_Clone_43 : Func := Try.f43
theorem Fu.slices_Clone_43 : Try.prog.funcs[F.slices_Clone_43]? = some Fn.slices_Clone_43 := Try.func43
abbrev F.barqueref14_Disk_Create : FuncId := 44
noncomputable abbrev Fn.barqueref14_Disk_Create : Func := Try.f44
theorem Fu.barqueref14_Disk_Create : Try.prog.funcs[F.barqueref14_Disk_Create]? = some Fn.barqueref14_Disk_Create := Try.func44
abbrev F.barqueref14_Disk_Remove : FuncId := 45
noncomputable abbrev Fn.barqueref14_Disk_Remove : Func := Try.f45
theorem Fu.barqueref14_Disk_Remove : Try.prog.funcs[F.barqueref14_Disk_Remove]? = some Fn.barqueref14_Disk_Remove := Try.func45
abbrev F.barqueref14_Disk_Rename : FuncId := 46
noncomputable abbrev Fn.barqueref14_Disk_Rename : Func := Try.f46
theorem Fu.barqueref14_Disk_Rename : Try.prog.funcs[F.barqueref14_Disk_Rename]? = some Fn.barqueref14_Disk_Rename := Try.func46
abbrev F.barqueref14_Disk_List : FuncId := 47
noncomputable abbrev Fn.barqueref14_Disk_List : Func := Try.f47
theorem Fu.barqueref14_Disk_List : Try.prog.funcs[F.barqueref14_Disk_List]? = some Fn.barqueref14_Disk_List := Try.func47
abbrev F.barquelaw14_names : FuncId := 48
noncomputable abbrev Fn.barquelaw14_names : Func := Try.f48
theorem Fu.barquelaw14_names : Try.prog.funcs[F.barquelaw14_names]? = some Fn.barquelaw14_names := Try.func48
abbrev F.barqueref14_Disk_Size : FuncId := 49
noncomputable abbrev Fn.barqueref14_Disk_Size : Func := Try.f49
theorem Fu.barqueref14_Disk_Size : Try.prog.funcs[F.barqueref14_Disk_Size]? = some Fn.barqueref14_Disk_Size := Try.func49
abbrev F.barqueref14_Disk_Read : FuncId := 50
noncomputable abbrev Fn.barqueref14_Disk_Read : Func := Try.f50
theorem Fu.barqueref14_Disk_Read : Try.prog.funcs[F.barqueref14_Disk_Read]? = some Fn.barqueref14_Disk_Read := Try.func50
abbrev F.barquelaw14_low : FuncId := 51
noncomputable abbrev Fn.barquelaw14_low : Func := Try.f51
theorem Fu.barquelaw14_low : Try.prog.funcs[F.barquelaw14_low]? = some Fn.barquelaw14_low := Try.func51
abbrev F.barqueref14_Disk_Write : FuncId := 52
noncomputable abbrev Fn.barqueref14_Disk_Write : Func := Try.f52
theorem Fu.barqueref14_Disk_Write : Try.prog.funcs[F.barqueref14_Disk_Write]? = some Fn.barqueref14_Disk_Write := Try.func52
abbrev F.barqueref14_Disk_Sync : FuncId := 53
noncomputable abbrev Fn.barqueref14_Disk_Sync : Func := Try.f53
theorem Fu.barqueref14_Disk_Sync : Try.prog.funcs[F.barqueref14_Disk_Sync]? = some Fn.barqueref14_Disk_Sync := Try.func53
abbrev F.barqueref14_Disk_Arm : FuncId := 54
noncomputable abbrev Fn.barqueref14_Disk_Arm : Func := Try.f54
theorem Fu.barqueref14_Disk_Arm : Try.prog.funcs[F.barqueref14_Disk_Arm]? = some Fn.barqueref14_Disk_Arm := Try.func54
abbrev F.barqueref14_Disk_Crash : FuncId := 55
noncomputable abbrev Fn.barqueref14_Disk_Crash : Func := Try.f55
theorem Fu.barqueref14_Disk_Crash : Try.prog.funcs[F.barqueref14_Disk_Crash]? = some Fn.barqueref14_Disk_Crash := Try.func55
abbrev F.barqueref14_Disk_Spoil : FuncId := 56
noncomputable abbrev Fn.barqueref14_Disk_Spoil : Func := Try.f56
theorem Fu.barqueref14_Disk_Spoil : Try.prog.funcs[F.barqueref14_Disk_Spoil]? = some Fn.barqueref14_Disk_Spoil := Try.func56
abbrev F.barqueref14_Disk_Free : FuncId := 57
noncomputable abbrev Fn.barqueref14_Disk_Free : Func := Try.f57
theorem Fu.barqueref14_Disk_Free : Try.prog.funcs[F.barqueref14_Disk_Free]? = some Fn.barqueref14_Disk_Free := Try.func57
abbrev F.slices_Delete : FuncId := 58
noncomputable abbrev Fn.slices_Delete : Func := Try.f58
theorem Fu.slices_Delete : Try.prog.funcs[F.slices_Delete]? = some Fn.slices_Delete := Try.func58
abbrev F.slices_DeleteFunc : FuncId := 59
noncomputable abbrev Fn.slices_DeleteFunc : Func := Try.f59
theorem Fu.slices_DeleteFunc : Try.prog.funcs[F.slices_DeleteFunc]? = some Fn.slices_DeleteFunc := Try.func59
abbrev F.disk_Disk_Remove_1 : FuncId := 60
noncomputable abbrev Fn.disk_Disk_Remove_1 : Func := Try.f60
theorem Fu.disk_Disk_Remove_1 : Try.prog.funcs[F.disk_Disk_Remove_1]? = some Fn.disk_Disk_Remove_1 := Try.func60
abbrev F.slices_BinarySearchFunc : FuncId := 61
noncomputable abbrev Fn.slices_BinarySearchFunc : Func := Try.f61
theorem Fu.slices_BinarySearchFunc : Try.prog.funcs[F.slices_BinarySearchFunc]? = some Fn.slices_BinarySearchFunc := Try.func61
abbrev F.disk_Disk_place_1 : FuncId := 62
noncomputable abbrev Fn.disk_Disk_place_1 : Func := Try.f62
theorem Fu.disk_Disk_place_1 : Try.prog.funcs[F.disk_Disk_place_1]? = some Fn.disk_Disk_place_1 := Try.func62
abbrev F.strings_Compare : FuncId := 63
noncomputable abbrev Fn.strings_Compare : Func := Try.f63
theorem Fu.strings_Compare : Try.prog.funcs[F.strings_Compare]? = some Fn.strings_Compare := Try.func63
abbrev F.slices_overlaps : FuncId := 64
noncomputable abbrev Fn.slices_overlaps : Func := Try.f64
theorem Fu.slices_overlaps : Try.prog.funcs[F.slices_overlaps]? = some Fn.slices_overlaps := Try.func64
abbrev F.slices_rotateRight : FuncId := 65
noncomputable abbrev Fn.slices_rotateRight : Func := Try.f65
theorem Fu.slices_rotateRight : Try.prog.funcs[F.slices_rotateRight]? = some Fn.slices_rotateRight := Try.func65
abbrev F.barqueref14_Name : FuncId := 66
noncomputable abbrev Fn.barqueref14_Name : Func := Try.f66
theorem Fu.barqueref14_Name : Try.prog.funcs[F.barqueref14_Name]? = some Fn.barqueref14_Name := Try.func66
abbrev F.barqueref14_Disk_find : FuncId := 67
noncomputable abbrev Fn.barqueref14_Disk_find : Func := Try.f67
theorem Fu.barqueref14_Disk_find : Try.prog.funcs[F.barqueref14_Disk_find]? = some Fn.barqueref14_Disk_find := Try.func67
abbrev F.barqueref14_taken : FuncId := 68
noncomputable abbrev Fn.barqueref14_taken : Func := Try.f68
theorem Fu.barqueref14_taken : Try.prog.funcs[F.barqueref14_taken]? = some Fn.barqueref14_taken := Try.func68
abbrev F.barqueref14_takes : FuncId := 69
noncomputable abbrev Fn.barqueref14_takes : Func := Try.f69
theorem Fu.barqueref14_takes : Try.prog.funcs[F.barqueref14_takes]? = some Fn.barqueref14_takes := Try.func69
abbrev F.barqueref14_laid : FuncId := 70
noncomputable abbrev Fn.barqueref14_laid : Func := Try.f70
theorem Fu.barqueref14_laid : Try.prog.funcs[F.barqueref14_laid]? = some Fn.barqueref14_laid := Try.func70
abbrev F.barqueref14_Disk_lasts : FuncId := 71
noncomputable abbrev Fn.barqueref14_Disk_lasts : Func := Try.f71
theorem Fu.barqueref14_Disk_lasts : Try.prog.funcs[F.barqueref14_Disk_lasts]? = some Fn.barqueref14_Disk_lasts := Try.func71
abbrev F.barqueref14_bent : FuncId := 72
noncomputable abbrev Fn.barqueref14_bent : Func := Try.f72
theorem Fu.barqueref14_bent : Try.prog.funcs[F.barqueref14_bent]? = some Fn.barqueref14_bent := Try.func72
abbrev F.slices_IndexFunc : FuncId := 73
noncomputable abbrev Fn.slices_IndexFunc : Func := Try.f73
theorem Fu.slices_IndexFunc : Try.prog.funcs[F.slices_IndexFunc]? = some Fn.slices_IndexFunc := Try.func73
abbrev F.internal_bytealg_CompareString : FuncId := 74
noncomputable abbrev Fn.internal_bytealg_CompareString : Func := Try.f74
theorem Fu.internal_bytealg_CompareString : Try.prog.funcs[F.internal_bytealg_CompareString]? = some Fn.internal_bytealg_CompareString := Try.func74
abbrev F.slices_rotateLeft : FuncId := 75
noncomputable abbrev Fn.slices_rotateLeft : Func := Try.f75
theorem Fu.slices_rotateLeft : Try.prog.funcs[F.slices_rotateLeft]? = some Fn.slices_rotateLeft := Try.func75
abbrev F.internal_bytealg_abigen_runtime_cmpstring : FuncId := 76
noncomputable abbrev Fn.internal_bytealg_abigen_runtime_cmpstring : Func := Try.f76
theorem Fu.internal_bytealg_abigen_runtime_cmpstring : Try.prog.funcs[F.internal_bytealg_abigen_runtime_cmpstring]? = some Fn.internal_bytealg_abigen_runtime_cmpstring := Try.func76
abbrev F.slices_Reverse : FuncId := 77
noncomputable abbrev Fn.slices_Reverse : Func := Try.f77
theorem Fu.slices_Reverse : Try.prog.funcs[F.slices_Reverse]? = some Fn.slices_Reverse := Try.func77
abbrev F._runtime_boundsError_Error : FuncId := 78
noncomputable abbrev Fn._runtime_boundsError_Error : Func := Try.f78
theorem Fu._runtime_boundsError_Error : Try.prog.funcs[F._runtime_boundsError_Error]? = some Fn._runtime_boundsError_Error := Try.func78
abbrev F._runtime_boundsError_RuntimeError : FuncId := 79
noncomputable abbrev Fn._runtime_boundsError_RuntimeError : Func := Try.f79
theorem Fu._runtime_boundsError_RuntimeError : Try.prog.funcs[F._runtime_boundsError_RuntimeError]? = some Fn._runtime_boundsError_RuntimeError := Try.func79
abbrev F._runtime_errorString_Error : FuncId := 80
noncomputable abbrev Fn._runtime_errorString_Error : Func := Try.f80
theorem Fu._runtime_errorString_Error : Try.prog.funcs[F._runtime_errorString_Error]? = some Fn._runtime_errorString_Error := Try.func80
abbrev F._runtime_errorString_RuntimeError : FuncId := 81
noncomputable abbrev Fn._runtime_errorString_RuntimeError : Func := Try.f81
theorem Fu._runtime_errorString_RuntimeError : Try.prog.funcs[F._runtime_errorString_RuntimeError]? = some Fn._runtime_errorString_RuntimeError := Try.func81
abbrev F._runtime_plainError_Error : FuncId := 82
noncomputable abbrev Fn._runtime_plainError_Error : Func := Try.f82
theorem Fu._runtime_plainError_Error : Try.prog.funcs[F._runtime_plainError_Error]? = some Fn._runtime_plainError_Error := Try.func82
abbrev F._runtime_plainError_RuntimeError : FuncId := 83
noncomputable abbrev Fn._runtime_plainError_RuntimeError : Func := Try.f83
theorem Fu._runtime_plainError_RuntimeError : Try.prog.funcs[F._runtime_plainError_RuntimeError]? = some Fn._runtime_plainError_RuntimeError := Try.func83
abbrev F._runtime_errorAddressString_Error : FuncId := 84
noncomputable abbrev Fn._runtime_errorAddressString_Error : Func := Try.f84
theorem Fu._runtime_errorAddressString_Error : Try.prog.funcs[F._runtime_errorAddressString_Error]? = some Fn._runtime_errorAddressString_Error := Try.func84
abbrev F._runtime_errorAddressString_RuntimeError : FuncId := 85
noncomputable abbrev Fn._runtime_errorAddressString_RuntimeError : Func := Try.f85
theorem Fu._runtime_errorAddressString_RuntimeError : Try.prog.funcs[F._runtime_errorAddressString_RuntimeError]? = some Fn._runtime_errorAddressString_RuntimeError := Try.func85
abbrev F.runtime_TypeAssertionError_Error : FuncId := 86
noncomputable abbrev Fn.runtime_TypeAssertionError_Error : Func := Try.f86
theorem Fu.runtime_TypeAssertionError_Error : Try.prog.funcs[F.runtime_TypeAssertionError_Error]? = some Fn.runtime_TypeAssertionError_Error := Try.func86
abbrev F.runtime_TypeAssertionError_RuntimeError : FuncId := 87
noncomputable abbrev Fn.runtime_TypeAssertionError_RuntimeError : Func := Try.f87
theorem Fu.runtime_TypeAssertionError_RuntimeError : Try.prog.funcs[F.runtime_TypeAssertionError_RuntimeError]? = some Fn.runtime_TypeAssertionError_RuntimeError := Try.func87
abbrev F.runtime_PanicNilError_Error : FuncId := 88
noncomputable abbrev Fn.runtime_PanicNilError_Error : Func := Try.f88
theorem Fu.runtime_PanicNilError_Error : Try.prog.funcs[F.runtime_PanicNilError_Error]? = some Fn.runtime_PanicNilError_Error := Try.func88
abbrev F.runtime_PanicNilError_RuntimeError : FuncId := 89
noncomputable abbrev Fn.runtime_PanicNilError_RuntimeError : Func := Try.f89
theorem Fu.runtime_PanicNilError_RuntimeError : Try.prog.funcs[F.runtime_PanicNilError_RuntimeError]? = some Fn.runtime_PanicNilError_RuntimeError := Try.func89
abbrev F.internal_abi_Type_Align : FuncId := 90
noncomputable abbrev Fn.internal_abi_Type_Align : Func := Try.f90
theorem Fu.internal_abi_Type_Align : Try.prog.funcs[F.internal_abi_Type_Align]? = some Fn.internal_abi_Type_Align := Try.func90
abbrev F._internal_runtime_maps_unhashableTypeError_Error : FuncId := 91
noncomputable abbrev Fn._internal_runtime_maps_unhashableTypeError_Error : Func := Try.f91
theorem Fu._internal_runtime_maps_unhashableTypeError_Error : Try.prog.funcs[F._internal_runtime_maps_unhashableTypeError_Error]? = some Fn._internal_runtime_maps_unhashableTypeError_Error := Try.func91
abbrev F._internal_runtime_maps_unhashableTypeError_RuntimeError : FuncId := 92
noncomputable abbrev Fn._internal_runtime_maps_unhashableTypeError_RuntimeError : Func := Try.f92
theorem Fu._internal_runtime_maps_unhashableTypeError_RuntimeError : Try.prog.funcs[F._internal_runtime_maps_unhashableTypeError_RuntimeError]? = some Fn._internal_runtime_maps_unhashableTypeError_RuntimeError := Try.func92
abbrev F._api_Errno_Error : FuncId := 93
noncomputable abbrev Fn._api_Errno_Error : Func := Try.f93
theorem Fu._api_Errno_Error : Try.prog.funcs[F._api_Errno_Error]? = some Fn._api_Errno_Error := Try.func93
abbrev F._internal_abi_Kind_String : FuncId := 94
noncomputable abbrev Fn._internal_abi_Kind_String : Func := Try.f94
theorem Fu._internal_abi_Kind_String : Try.prog.funcs[F._internal_abi_Kind_String]? = some Fn._internal_abi_Kind_String := Try.func94
end Go.X
