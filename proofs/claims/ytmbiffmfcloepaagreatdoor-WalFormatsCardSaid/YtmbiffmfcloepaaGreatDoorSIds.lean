/- The functions' numbers. -/
import Derived.Test.YtmbiffmfcloepaaGreatDoorXRule
import Derived.Test.YtmbiffmfcloepaaGreatDoorProg
namespace Go.X
open Go.Proofs
abbrev F.main_main : FuncId := 0
noncomputable abbrev Fn.main_main : Func := Tryz.f0
theorem Fu.main_main : Tryz.prog.funcs[F.main_main]? = some Fn.main_main := Tryz.func0
abbrev F.gosem_cut : FuncId := 1
noncomputable abbrev Fn.gosem_cut : Func := Tryz.f1
theorem Fu.gosem_cut : Tryz.prog.funcs[F.gosem_cut]? = some Fn.gosem_cut := Tryz.func1
abbrev F.gosem_cut_init : FuncId := 2
noncomputable abbrev Fn.gosem_cut_init : Func := Tryz.f2
theorem Fu.gosem_cut_init : Tryz.prog.funcs[F.gosem_cut_init]? = some Fn.gosem_cut_init := Tryz.func2
abbrev F.barquelaw15_WalSpoilt : FuncId := 3
noncomputable abbrev Fn.barquelaw15_WalSpoilt : Func := Tryz.f3
theorem Fu.barquelaw15_WalSpoilt : Tryz.prog.funcs[F.barquelaw15_WalSpoilt]? = some Fn.barquelaw15_WalSpoilt := Tryz.func3
abbrev F.barquelaw15_WalTurns : FuncId := 4
noncomputable abbrev Fn.barquelaw15_WalTurns : Func := Tryz.f4
theorem Fu.barquelaw15_WalTurns : Tryz.prog.funcs[F.barquelaw15_WalTurns]? = some Fn.barquelaw15_WalTurns := Tryz.func4
abbrev F.barquelaw15_WalPlays : FuncId := 5
noncomputable abbrev Fn.barquelaw15_WalPlays : Func := Tryz.f5
theorem Fu.barquelaw15_WalPlays : Tryz.prog.funcs[F.barquelaw15_WalPlays]? = some Fn.barquelaw15_WalPlays := Tryz.func5
abbrev F.barquelaw15_WalBroken : FuncId := 6
noncomputable abbrev Fn.barquelaw15_WalBroken : Func := Tryz.f6
theorem Fu.barquelaw15_WalBroken : Tryz.prog.funcs[F.barquelaw15_WalBroken]? = some Fn.barquelaw15_WalBroken := Tryz.func6
abbrev F.barquelaw15_WalFormats : FuncId := 7
noncomputable abbrev Fn.barquelaw15_WalFormats : Func := Tryz.f7
theorem Fu.barquelaw15_WalFormats : Tryz.prog.funcs[F.barquelaw15_WalFormats]? = some Fn.barquelaw15_WalFormats := Tryz.func7
abbrev F.barquelaw15_WalFull : FuncId := 8
noncomputable abbrev Fn.barquelaw15_WalFull : Func := Tryz.f8
theorem Fu.barquelaw15_WalFull : Tryz.prog.funcs[F.barquelaw15_WalFull]? = some Fn.barquelaw15_WalFull := Tryz.func8
abbrev F.barquelaw15_WalAgain : FuncId := 9
noncomputable abbrev Fn.barquelaw15_WalAgain : Func := Tryz.f9
theorem Fu.barquelaw15_WalAgain : Tryz.prog.funcs[F.barquelaw15_WalAgain]? = some Fn.barquelaw15_WalAgain := Tryz.func9
abbrev F.barquelaw15_laid : FuncId := 10
noncomputable abbrev Fn.barquelaw15_laid : Func := Tryz.f10
theorem Fu.barquelaw15_laid : Tryz.prog.funcs[F.barquelaw15_laid]? = some Fn.barquelaw15_laid := Tryz.func10
abbrev F.wal_Log_Append : FuncId := 11
noncomputable abbrev Fn.wal_Log_Append : Func := Tryz.f11
theorem Fu.wal_Log_Append : Tryz.prog.funcs[F.wal_Log_Append]? = some Fn.wal_Log_Append := Tryz.func11
abbrev F.barquelaw15_cut : FuncId := 12
noncomputable abbrev Fn.barquelaw15_cut : Func := Tryz.f12
theorem Fu.barquelaw15_cut : Tryz.prog.funcs[F.barquelaw15_cut]? = some Fn.barquelaw15_cut := Tryz.func12
abbrev F.wal_Log_Sync : FuncId := 13
noncomputable abbrev Fn.wal_Log_Sync : Func := Tryz.f13
theorem Fu.wal_Log_Sync : Tryz.prog.funcs[F.wal_Log_Sync]? = some Fn.wal_Log_Sync := Tryz.func13
abbrev F.disk_Disk_Spoil : FuncId := 14
noncomputable abbrev Fn.disk_Disk_Spoil : Func := Tryz.f14
theorem Fu.disk_Disk_Spoil : Tryz.prog.funcs[F.disk_Disk_Spoil]? = some Fn.disk_Disk_Spoil := Tryz.func14
abbrev F.wal_Open : FuncId := 15
noncomputable abbrev Fn.wal_Open : Func := Tryz.f15
theorem Fu.wal_Open : Tryz.prog.funcs[F.wal_Open]? = some Fn.wal_Open := Tryz.func15
abbrev F.barquelaw15_awake : FuncId := 16
noncomputable abbrev Fn.barquelaw15_awake : Func := Tryz.f16
theorem Fu.barquelaw15_awake : Tryz.prog.funcs[F.barquelaw15_awake]? = some Fn.barquelaw15_awake := Tryz.func16
abbrev F.barquelaw15_begins : FuncId := 17
noncomputable abbrev Fn.barquelaw15_begins : Func := Tryz.f17
theorem Fu.barquelaw15_begins : Tryz.prog.funcs[F.barquelaw15_begins]? = some Fn.barquelaw15_begins := Tryz.func17
abbrev F.barquelaw15_few : FuncId := 18
noncomputable abbrev Fn.barquelaw15_few : Func := Tryz.f18
theorem Fu.barquelaw15_few : Tryz.prog.funcs[F.barquelaw15_few]? = some Fn.barquelaw15_few := Tryz.func18
abbrev F.wal_Log_Turn : FuncId := 19
noncomputable abbrev Fn.wal_Log_Turn : Func := Tryz.f19
theorem Fu.wal_Log_Turn : Tryz.prog.funcs[F.wal_Log_Turn]? = some Fn.wal_Log_Turn := Tryz.func19
abbrev F.disk_Disk_Crash : FuncId := 20
noncomputable abbrev Fn.disk_Disk_Crash : Func := Tryz.f20
theorem Fu.disk_Disk_Crash : Tryz.prog.funcs[F.disk_Disk_Crash]? = some Fn.disk_Disk_Crash := Tryz.func20
abbrev F.disk_Disk_List : FuncId := 21
noncomputable abbrev Fn.disk_Disk_List : Func := Tryz.f21
theorem Fu.disk_Disk_List : Tryz.prog.funcs[F.disk_Disk_List]? = some Fn.disk_Disk_List := Tryz.func21
abbrev F.barquelaw15_same : FuncId := 22
noncomputable abbrev Fn.barquelaw15_same : Func := Tryz.f22
theorem Fu.barquelaw15_same : Tryz.prog.funcs[F.barquelaw15_same]? = some Fn.barquelaw15_same := Tryz.func22
abbrev F.wal_Log_Segment : FuncId := 23
noncomputable abbrev Fn.wal_Log_Segment : Func := Tryz.f23
theorem Fu.wal_Log_Segment : Tryz.prog.funcs[F.wal_Log_Segment]? = some Fn.wal_Log_Segment := Tryz.func23
abbrev F.wal_Log_Size : FuncId := 24
noncomputable abbrev Fn.wal_Log_Size : Func := Tryz.f24
theorem Fu.wal_Log_Size : Tryz.prog.funcs[F.wal_Log_Size]? = some Fn.wal_Log_Size := Tryz.func24
abbrev F.barquelaw15_world_step : FuncId := 25
noncomputable abbrev Fn.barquelaw15_world_step : Func := Tryz.f25
theorem Fu.barquelaw15_world_step : Tryz.prog.funcs[F.barquelaw15_world_step]? = some Fn.barquelaw15_world_step := Tryz.func25
abbrev F.barquelaw15_world_open : FuncId := 26
noncomputable abbrev Fn.barquelaw15_world_open : Func := Tryz.f26
theorem Fu.barquelaw15_world_open : Tryz.prog.funcs[F.barquelaw15_world_open]? = some Fn.barquelaw15_world_open := Tryz.func26
abbrev F.disk_Disk_Arm : FuncId := 27
noncomputable abbrev Fn.disk_Disk_Arm : Func := Tryz.f27
theorem Fu.disk_Disk_Arm : Tryz.prog.funcs[F.disk_Disk_Arm]? = some Fn.disk_Disk_Arm := Tryz.func27
abbrev F.disk_Disk_Create : FuncId := 28
noncomputable abbrev Fn.disk_Disk_Create : Func := Tryz.f28
theorem Fu.disk_Disk_Create : Tryz.prog.funcs[F.disk_Disk_Create]? = some Fn.disk_Disk_Create := Tryz.func28
abbrev F.wal_Format : FuncId := 29
noncomputable abbrev Fn.wal_Format : Func := Tryz.f29
theorem Fu.wal_Format : Tryz.prog.funcs[F.wal_Format]? = some Fn.wal_Format := Tryz.func29
abbrev F.disk_Disk_Size : FuncId := 30
noncomputable abbrev Fn.disk_Disk_Size : Func := Tryz.f30
theorem Fu.disk_Disk_Size : Tryz.prog.funcs[F.disk_Disk_Size]? = some Fn.disk_Disk_Size := Tryz.func30
abbrev F.disk_Disk_Writes : FuncId := 31
noncomputable abbrev Fn.disk_Disk_Writes : Func := Tryz.f31
theorem Fu.disk_Disk_Writes : Tryz.prog.funcs[F.disk_Disk_Writes]? = some Fn.disk_Disk_Writes := Tryz.func31
abbrev F.disk_New : FuncId := 32
noncomputable abbrev Fn.disk_New : Func := Tryz.f32
theorem Fu.disk_New : Tryz.prog.funcs[F.disk_New]? = some Fn.disk_New := Tryz.func32
abbrev F.marks_Ideal : FuncId := 33
noncomputable abbrev Fn.marks_Ideal : Func := Tryz.f33
theorem Fu.marks_Ideal : Tryz.prog.funcs[F.marks_Ideal]? = some Fn.marks_Ideal := Tryz.func33
abbrev F.wal_Log_closed : FuncId := 34
noncomputable abbrev Fn.wal_Log_closed : Func := Tryz.f34
theorem Fu.wal_Log_closed : Tryz.prog.funcs[F.wal_Log_closed]? = some Fn.wal_Log_closed := Tryz.func34
abbrev F.wal_Log_put : FuncId := 35
noncomputable abbrev Fn.wal_Log_put : Func := Tryz.f35
theorem Fu.wal_Log_put : Tryz.prog.funcs[F.wal_Log_put]? = some Fn.wal_Log_put := Tryz.func35
abbrev F.disk_Disk_Sync : FuncId := 36
noncomputable abbrev Fn.disk_Disk_Sync : Func := Tryz.f36
theorem Fu.disk_Disk_Sync : Tryz.prog.funcs[F.disk_Disk_Sync]? = some Fn.disk_Disk_Sync := Tryz.func36
abbrev F.disk_Disk_find : FuncId := 37
noncomputable abbrev Fn.disk_Disk_find : Func := Tryz.f37
theorem Fu.disk_Disk_find : Tryz.prog.funcs[F.disk_Disk_find]? = some Fn.disk_Disk_find := Tryz.func37
abbrev F.wal_none : FuncId := 38
noncomputable abbrev Fn.wal_none : Func := Tryz.f38
theorem Fu.wal_none : Tryz.prog.funcs[F.wal_none]? = some Fn.wal_none := Tryz.func38
abbrev F.wal_segments : FuncId := 39
noncomputable abbrev Fn.wal_segments : Func := Tryz.f39
theorem Fu.wal_segments : Tryz.prog.funcs[F.wal_segments]? = some Fn.wal_segments := Tryz.func39
abbrev F.wal_load : FuncId := 40
noncomputable abbrev Fn.wal_load : Func := Tryz.f40
theorem Fu.wal_load : Tryz.prog.funcs[F.wal_load]? = some Fn.wal_load := Tryz.func40
abbrev F.disk_Disk_Remove : FuncId := 41
noncomputable abbrev Fn.disk_Disk_Remove : Func := Tryz.f41
theorem Fu.disk_Disk_Remove : Tryz.prog.funcs[F.disk_Disk_Remove]? = some Fn.disk_Disk_Remove := Tryz.func41
abbrev F.wal_name : FuncId := 42
noncomputable abbrev Fn.wal_name : Func := Tryz.f42
theorem Fu.wal_name : Tryz.prog.funcs[F.wal_name]? = some Fn.wal_name := Tryz.func42
abbrev F.wal_Log_wipe : FuncId := 43
noncomputable abbrev Fn.wal_Log_wipe : Func := Tryz.f43
theorem Fu.wal_Log_wipe : Tryz.prog.funcs[F.wal_Log_wipe]? = some Fn.wal_Log_wipe := Tryz.func43
abbrev F.wal_begin : FuncId := 44
noncomputable abbrev Fn.wal_begin : Func := Tryz.f44
theorem Fu.wal_begin : Tryz.prog.funcs[F.wal_begin]? = some Fn.wal_begin := Tryz.func44
abbrev F.disk_Disk_last : FuncId := 45
noncomputable abbrev Fn.disk_Disk_last : Func := Tryz.f45
theorem Fu.disk_Disk_last : Tryz.prog.funcs[F.disk_Disk_last]? = some Fn.disk_Disk_last := Tryz.func45
abbrev F.slices_Clone : FuncId := 46
noncomputable abbrev Fn.slices_Clone : Func := Tryz.f46
theorem Fu.slices_Clone : Tryz.prog.funcs[F.slices_Clone]? = some Fn.slices_Clone := Tryz.func46
abbrev F.disk_Disk_ready : FuncId := 47
noncomputable abbrev Fn.disk_Disk_ready : Func := Tryz.f47
theorem Fu.disk_Disk_ready : Tryz.prog.funcs[F.disk_Disk_ready]? = some Fn.disk_Disk_ready := Tryz.func47
abbrev F.disk_Disk_Up : FuncId := 48
noncomputable abbrev Fn.disk_Disk_Up : Func := Tryz.f48
theorem Fu.disk_Disk_Up : Tryz.prog.funcs[F.disk_Disk_Up]? = some Fn.disk_Disk_Up := Tryz.func48
abbrev F.barquelaw15_world_turn : FuncId := 49
noncomputable abbrev Fn.barquelaw15_world_turn : Func := Tryz.f49
theorem Fu.barquelaw15_world_turn : Tryz.prog.funcs[F.barquelaw15_world_turn]? = some Fn.barquelaw15_world_turn := Tryz.func49
abbrev F.disk_named : FuncId := 50
noncomputable abbrev Fn.disk_named : Func := Tryz.f50
theorem Fu.disk_named : Tryz.prog.funcs[F.disk_named]? = some Fn.disk_named := Tryz.func50
abbrev F.disk_Disk_place : FuncId := 51
noncomputable abbrev Fn.disk_Disk_place : Func := Tryz.f51
theorem Fu.disk_Disk_place : Tryz.prog.funcs[F.disk_Disk_place]? = some Fn.disk_Disk_place := Tryz.func51
abbrev F.slices_Insert : FuncId := 52
noncomputable abbrev Fn.slices_Insert : Func := Tryz.f52
theorem Fu.slices_Insert : Tryz.prog.funcs[F.slices_Insert]? = some Fn.slices_Insert := Tryz.func52
abbrev F.wal_record : FuncId := 53
noncomputable abbrev Fn.wal_record : Func := Tryz.f53
theorem Fu.wal_record : Tryz.prog.funcs[F.wal_record]? = some Fn.wal_record := Tryz.func53
abbrev F.strings_Builder_WriteString : FuncId := 54
noncomputable abbrev Fn.strings_Builder_WriteString : Func := Tryz.f54
theorem Fu.strings_Builder_WriteString : Tryz.prog.funcs[F.strings_Builder_WriteString]? = some Fn.strings_Builder_WriteString := Tryz.func54
abbrev F.disk_Disk_Write : FuncId := 55
noncomputable abbrev Fn.disk_Disk_Write : Func := Tryz.f55
theorem Fu.disk_Disk_Write : Tryz.prog.funcs[F.disk_Disk_Write]? = some Fn.disk_Disk_Write := Tryz.func55
abbrev F.strings_Builder_String : FuncId := 56
noncomputable abbrev Fn.strings_Builder_String : Func := Tryz.f56
theorem Fu.strings_Builder_String : Tryz.prog.funcs[F.strings_Builder_String]? = some Fn.strings_Builder_String := Tryz.func56
abbrev F.strings_Builder_Len : FuncId := 57
noncomputable abbrev Fn.strings_Builder_Len : Func := Tryz.f57
theorem Fu.strings_Builder_Len : Tryz.prog.funcs[F.strings_Builder_Len]? = some Fn.strings_Builder_Len := Tryz.func57
abbrev F.marks_Book_Ready : FuncId := 58
noncomputable abbrev Fn.marks_Book_Ready : Func := Tryz.f58
theorem Fu.marks_Book_Ready : Tryz.prog.funcs[F.marks_Book_Ready]? = some Fn.marks_Book_Ready := Tryz.func58
abbrev F.wal_number : FuncId := 59
noncomputable abbrev Fn.wal_number : Func := Tryz.f59
theorem Fu.wal_number : Tryz.prog.funcs[F.wal_number]? = some Fn.wal_number := Tryz.func59
abbrev F.disk_Disk_Read : FuncId := 60
noncomputable abbrev Fn.disk_Disk_Read : Func := Tryz.f60
theorem Fu.disk_Disk_Read : Tryz.prog.funcs[F.disk_Disk_Read]? = some Fn.disk_Disk_Read := Tryz.func60
abbrev F.wal_first : FuncId := 61
noncomputable abbrev Fn.wal_first : Func := Tryz.f61
theorem Fu.wal_first : Tryz.prog.funcs[F.wal_first]? = some Fn.wal_first := Tryz.func61
abbrev F.wal_next : FuncId := 62
noncomputable abbrev Fn.wal_next : Func := Tryz.f62
theorem Fu.wal_next : Tryz.prog.funcs[F.wal_next]? = some Fn.wal_next := Tryz.func62
abbrev F.slices_Delete : FuncId := 63
noncomputable abbrev Fn.slices_Delete : Func := Tryz.f63
theorem Fu.slices_Delete : Tryz.prog.funcs[F.slices_Delete]? = some Fn.slices_Delete := Tryz.func63
abbrev F.slices_DeleteFunc : FuncId := 64
noncomputable abbrev Fn.slices_DeleteFunc : Func := Tryz.f64
theorem Fu.slices_DeleteFunc : Tryz.prog.funcs[F.slices_DeleteFunc]? = some Fn.slices_DeleteFunc := Tryz.func64
abbrev F.disk_Disk_Remove_1 : FuncId := 65
noncomputable abbrev Fn.disk_Disk_Remove_1 : Func := Tryz.f65
theorem Fu.disk_Disk_Remove_1 : Tryz.prog.funcs[F.disk_Disk_Remove_1]? = some Fn.disk_Disk_Remove_1 := Tryz.func65
abbrev F.strings_Trim : FuncId := 66
noncomputable abbrev Fn.strings_Trim : Func := Tryz.f66
theorem Fu.strings_Trim : Tryz.prog.funcs[F.strings_Trim]? = some Fn.strings_Trim := Tryz.func66
abbrev F.strings_Repeat : FuncId := 67
noncomputable abbrev Fn.strings_Repeat : Func := Tryz.f67
theorem Fu.strings_Repeat : Tryz.prog.funcs[F.strings_Repeat]? = some Fn.strings_Repeat := Tryz.func67
abbrev F.disk_grown : FuncId := 68
noncomputable abbrev Fn.disk_grown : Func := Tryz.f68
theorem Fu.disk_grown : Tryz.prog.funcs[F.disk_grown]? = some Fn.disk_grown := Tryz.func68
abbrev F.slices_BinarySearchFunc : FuncId := 69
noncomputable abbrev Fn.slices_BinarySearchFunc : Func := Tryz.f69
theorem Fu.slices_BinarySearchFunc : Tryz.prog.funcs[F.slices_BinarySearchFunc]? = some Fn.slices_BinarySearchFunc := Tryz.func69
abbrev F.disk_Disk_place_1 : FuncId := 70
noncomputable abbrev Fn.disk_Disk_place_1 : Func := Tryz.f70
theorem Fu.disk_Disk_place_1 : Tryz.prog.funcs[F.disk_Disk_place_1]? = some Fn.disk_Disk_place_1 := Tryz.func70
abbrev F.strings_Compare : FuncId := 71
noncomputable abbrev Fn.strings_Compare : Func := Tryz.f71
theorem Fu.strings_Compare : Tryz.prog.funcs[F.strings_Compare]? = some Fn.strings_Compare := Tryz.func71
abbrev F.slices_overlaps : FuncId := 72
noncomputable abbrev Fn.slices_overlaps : Func := Tryz.f72
theorem Fu.slices_overlaps : Tryz.prog.funcs[F.slices_overlaps]? = some Fn.slices_overlaps := Tryz.func72
abbrev F.slices_rotateRight : FuncId := 73
noncomputable abbrev Fn.slices_rotateRight : Func := Tryz.f73
theorem Fu.slices_rotateRight : Tryz.prog.funcs[F.slices_rotateRight]? = some Fn.slices_rotateRight := Tryz.func73
abbrev F.marks_Book_Mark : FuncId := 74
noncomputable abbrev Fn.marks_Book_Mark : Func := Tryz.f74
theorem Fu.marks_Book_Mark : Tryz.prog.funcs[F.marks_Book_Mark]? = some Fn.marks_Book_Mark := Tryz.func74
abbrev F.wal_four : FuncId := 75
noncomputable abbrev Fn.wal_four : Func := Tryz.f75
theorem Fu.wal_four : Tryz.prog.funcs[F.wal_four]? = some Fn.wal_four := Tryz.func75
abbrev F.strings_Builder_copyCheck : FuncId := 76
noncomputable abbrev Fn.strings_Builder_copyCheck : Func := Tryz.f76
theorem Fu.strings_Builder_copyCheck : Tryz.prog.funcs[F.strings_Builder_copyCheck]? = some Fn.strings_Builder_copyCheck := Tryz.func76
abbrev F.disk_sectors : FuncId := 77
noncomputable abbrev Fn.disk_sectors : Func := Tryz.f77
theorem Fu.disk_sectors : Tryz.prog.funcs[F.disk_sectors]? = some Fn.disk_sectors := Tryz.func77
abbrev F.disk_Disk_Free : FuncId := 78
noncomputable abbrev Fn.disk_Disk_Free : Func := Tryz.f78
theorem Fu.disk_Disk_Free : Tryz.prog.funcs[F.disk_Disk_Free]? = some Fn.disk_Disk_Free := Tryz.func78
abbrev F.marks_Book_none : FuncId := 79
noncomputable abbrev Fn.marks_Book_none : Func := Tryz.f79
theorem Fu.marks_Book_none : Tryz.prog.funcs[F.marks_Book_none]? = some Fn.marks_Book_none := Tryz.func79
abbrev F.strings_HasPrefix : FuncId := 80
noncomputable abbrev Fn.strings_HasPrefix : Func := Tryz.f80
theorem Fu.strings_HasPrefix : Tryz.prog.funcs[F.strings_HasPrefix]? = some Fn.strings_HasPrefix := Tryz.func80
abbrev F.wal_value : FuncId := 81
noncomputable abbrev Fn.wal_value : Func := Tryz.f81
theorem Fu.wal_value : Tryz.prog.funcs[F.wal_value]? = some Fn.wal_value := Tryz.func81
abbrev F.marks_Book_Is : FuncId := 82
noncomputable abbrev Fn.marks_Book_Is : Func := Tryz.f82
theorem Fu.marks_Book_Is : Tryz.prog.funcs[F.marks_Book_Is]? = some Fn.marks_Book_Is := Tryz.func82
abbrev F.slices_IndexFunc : FuncId := 83
noncomputable abbrev Fn.slices_IndexFunc : Func := Tryz.f83
theorem Fu.slices_IndexFunc : Tryz.prog.funcs[F.slices_IndexFunc]? = some Fn.slices_IndexFunc := Tryz.func83
abbrev F.strings_trimLeftByte : FuncId := 84
noncomputable abbrev Fn.strings_trimLeftByte : Func := Tryz.f84
theorem Fu.strings_trimLeftByte : Tryz.prog.funcs[F.strings_trimLeftByte]? = some Fn.strings_trimLeftByte := Tryz.func84
abbrev F.strings_trimRightByte : FuncId := 85
noncomputable abbrev Fn.strings_trimRightByte : Func := Tryz.f85
theorem Fu.strings_trimRightByte : Tryz.prog.funcs[F.strings_trimRightByte]? = some Fn.strings_trimRightByte := Tryz.func85
abbrev F.strings_makeASCIISet : FuncId := 86
noncomputable abbrev Fn.strings_makeASCIISet : Func := Tryz.f86
theorem Fu.strings_makeASCIISet : Tryz.prog.funcs[F.strings_makeASCIISet]? = some Fn.strings_makeASCIISet := Tryz.func86
abbrev F.strings_trimLeftASCII : FuncId := 87
noncomputable abbrev Fn.strings_trimLeftASCII : Func := Tryz.f87
theorem Fu.strings_trimLeftASCII : Tryz.prog.funcs[F.strings_trimLeftASCII]? = some Fn.strings_trimLeftASCII := Tryz.func87
abbrev F.strings_trimRightASCII : FuncId := 88
noncomputable abbrev Fn.strings_trimRightASCII : Func := Tryz.f88
theorem Fu.strings_trimRightASCII : Tryz.prog.funcs[F.strings_trimRightASCII]? = some Fn.strings_trimRightASCII := Tryz.func88
abbrev F.strings_trimLeftUnicode : FuncId := 89
noncomputable abbrev Fn.strings_trimLeftUnicode : Func := Tryz.f89
theorem Fu.strings_trimLeftUnicode : Tryz.prog.funcs[F.strings_trimLeftUnicode]? = some Fn.strings_trimLeftUnicode := Tryz.func89
abbrev F.strings_trimRightUnicode : FuncId := 90
noncomputable abbrev Fn.strings_trimRightUnicode : Func := Tryz.f90
theorem Fu.strings_trimRightUnicode : Tryz.prog.funcs[F.strings_trimRightUnicode]? = some Fn.strings_trimRightUnicode := Tryz.func90
abbrev F.math_bits_Mul : FuncId := 91
noncomputable abbrev Fn.math_bits_Mul : Func := Tryz.f91
theorem Fu.math_bits_Mul : Tryz.prog.funcs[F.math_bits_Mul]? = some Fn.math_bits_Mul := Tryz.func91
abbrev F.strings_Builder_Grow : FuncId := 92
noncomputable abbrev Fn.strings_Builder_Grow : Func := Tryz.f92
theorem Fu.strings_Builder_Grow : Tryz.prog.funcs[F.strings_Builder_Grow]? = some Fn.strings_Builder_Grow := Tryz.func92
abbrev F.internal_bytealg_CompareString : FuncId := 93
noncomputable abbrev Fn.internal_bytealg_CompareString : Func := Tryz.f93
theorem Fu.internal_bytealg_CompareString : Tryz.prog.funcs[F.internal_bytealg_CompareString]? = some Fn.internal_bytealg_CompareString := Tryz.func93
abbrev F.slices_rotateLeft : FuncId := 94
noncomputable abbrev Fn.slices_rotateLeft : Func := Tryz.f94
theorem Fu.slices_rotateLeft : Tryz.prog.funcs[F.slices_rotateLeft]? = some Fn.slices_rotateLeft := Tryz.func94
abbrev F._marks_mixer_sum : FuncId := 95
noncomputable abbrev Fn._marks_mixer_sum : Func := Tryz.f95
theorem Fu._marks_mixer_sum : Tryz.prog.funcs[F._marks_mixer_sum]? = some Fn._marks_mixer_sum := Tryz.func95
abbrev F.marks_numbered : FuncId := 96
noncomputable abbrev Fn.marks_numbered : Func := Tryz.f96
theorem Fu.marks_numbered : Tryz.prog.funcs[F.marks_numbered]? = some Fn.marks_numbered := Tryz.func96
abbrev F.internal_abi_NoEscape : FuncId := 97
noncomputable abbrev Fn.internal_abi_NoEscape : Func := Tryz.f97
theorem Fu.internal_abi_NoEscape : Tryz.prog.funcs[F.internal_abi_NoEscape]? = some Fn.internal_abi_NoEscape := Tryz.func97
abbrev F.disk_Disk_used : FuncId := 98
noncomputable abbrev Fn.disk_Disk_used : Func := Tryz.f98
theorem Fu.disk_Disk_used : Tryz.prog.funcs[F.disk_Disk_used]? = some Fn.disk_Disk_used := Tryz.func98
abbrev F.internal_stringslite_HasPrefix : FuncId := 99
noncomputable abbrev Fn.internal_stringslite_HasPrefix : Func := Tryz.f99
theorem Fu.internal_stringslite_HasPrefix : Tryz.prog.funcs[F.internal_stringslite_HasPrefix]? = some Fn.internal_stringslite_HasPrefix := Tryz.func99
abbrev F.strings_asciiSet_contains : FuncId := 100
noncomputable abbrev Fn.strings_asciiSet_contains : Func := Tryz.f100
theorem Fu.strings_asciiSet_contains : Tryz.prog.funcs[F.strings_asciiSet_contains]? = some Fn.strings_asciiSet_contains := Tryz.func100
abbrev F.unicode_utf8_DecodeRuneInString : FuncId := 101
noncomputable abbrev Fn.unicode_utf8_DecodeRuneInString : Func := Tryz.f101
theorem Fu.unicode_utf8_DecodeRuneInString : Tryz.prog.funcs[F.unicode_utf8_DecodeRuneInString]? = some Fn.unicode_utf8_DecodeRuneInString := Tryz.func101
abbrev F.strings_ContainsRune : FuncId := 102
noncomputable abbrev Fn.strings_ContainsRune : Func := Tryz.f102
theorem Fu.strings_ContainsRune : Tryz.prog.funcs[F.strings_ContainsRune]? = some Fn.strings_ContainsRune := Tryz.func102
abbrev F.unicode_utf8_DecodeLastRuneInString : FuncId := 103
noncomputable abbrev Fn.unicode_utf8_DecodeLastRuneInString : Func := Tryz.f103
theorem Fu.unicode_utf8_DecodeLastRuneInString : Tryz.prog.funcs[F.unicode_utf8_DecodeLastRuneInString]? = some Fn.unicode_utf8_DecodeLastRuneInString := Tryz.func103
abbrev F.math_bits_Mul32 : FuncId := 104
noncomputable abbrev Fn.math_bits_Mul32 : Func := Tryz.f104
theorem Fu.math_bits_Mul32 : Tryz.prog.funcs[F.math_bits_Mul32]? = some Fn.math_bits_Mul32 := Tryz.func104
abbrev F.math_bits_Mul64 : FuncId := 105
noncomputable abbrev Fn.math_bits_Mul64 : Func := Tryz.f105
theorem Fu.math_bits_Mul64 : Tryz.prog.funcs[F.math_bits_Mul64]? = some Fn.math_bits_Mul64 := Tryz.func105
abbrev F.strings_Builder_grow : FuncId := 106
noncomputable abbrev Fn.strings_Builder_grow : Func := Tryz.f106
theorem Fu.strings_Builder_grow : Tryz.prog.funcs[F.strings_Builder_grow]? = some Fn.strings_Builder_grow := Tryz.func106
abbrev F.internal_bytealg_abigen_runtime_cmpstring : FuncId := 107
noncomputable abbrev Fn.internal_bytealg_abigen_runtime_cmpstring : Func := Tryz.f107
theorem Fu.internal_bytealg_abigen_runtime_cmpstring : Tryz.prog.funcs[F.internal_bytealg_abigen_runtime_cmpstring]? = some Fn.internal_bytealg_abigen_runtime_cmpstring := Tryz.func107
abbrev F.slices_Reverse : FuncId := 108
noncomputable abbrev Fn.slices_Reverse : Func := Tryz.f108
theorem Fu.slices_Reverse : Tryz.prog.funcs[F.slices_Reverse]? = some Fn.slices_Reverse := Tryz.func108
abbrev F.marks_mixer_block : FuncId := 109
noncomputable abbrev Fn.marks_mixer_block : Func := Tryz.f109
theorem Fu.marks_mixer_block : Tryz.prog.funcs[F.marks_mixer_block]? = some Fn.marks_mixer_block := Tryz.func109
abbrev F.marks_ending : FuncId := 110
noncomputable abbrev Fn.marks_ending : Func := Tryz.f110
theorem Fu.marks_ending : Tryz.prog.funcs[F.marks_ending]? = some Fn.marks_ending := Tryz.func110
abbrev F.unicode_utf8_decodeRuneInStringSlow : FuncId := 111
noncomputable abbrev Fn.unicode_utf8_decodeRuneInStringSlow : Func := Tryz.f111
theorem Fu.unicode_utf8_decodeRuneInStringSlow : Tryz.prog.funcs[F.unicode_utf8_decodeRuneInStringSlow]? = some Fn.unicode_utf8_decodeRuneInStringSlow := Tryz.func111
abbrev F.strings_IndexRune : FuncId := 112
noncomputable abbrev Fn.strings_IndexRune : Func := Tryz.f112
theorem Fu.strings_IndexRune : Tryz.prog.funcs[F.strings_IndexRune]? = some Fn.strings_IndexRune := Tryz.func112
abbrev F.unicode_utf8_RuneStart : FuncId := 113
noncomputable abbrev Fn.unicode_utf8_RuneStart : Func := Tryz.f113
theorem Fu.unicode_utf8_RuneStart : Tryz.prog.funcs[F.unicode_utf8_RuneStart]? = some Fn.unicode_utf8_RuneStart := Tryz.func113
abbrev F.internal_bytealg_MakeNoZero : FuncId := 114
noncomputable abbrev Fn.internal_bytealg_MakeNoZero : Func := Tryz.f114
theorem Fu.internal_bytealg_MakeNoZero : Tryz.prog.funcs[F.internal_bytealg_MakeNoZero]? = some Fn.internal_bytealg_MakeNoZero := Tryz.func114
abbrev F.marks_turn : FuncId := 115
noncomputable abbrev Fn.marks_turn : Func := Tryz.f115
theorem Fu.marks_turn : Tryz.prog.funcs[F.marks_turn]? = some Fn.marks_turn := Tryz.func115
abbrev F.marks_word : FuncId := 116
noncomputable abbrev Fn.marks_word : Func := Tryz.f116
theorem Fu.marks_word : Tryz.prog.funcs[F.marks_word]? = some Fn.marks_word := Tryz.func116
abbrev F.strings_IndexByte : FuncId := 117
noncomputable abbrev Fn.strings_IndexByte : Func := Tryz.f117
theorem Fu.strings_IndexByte : Tryz.prog.funcs[F.strings_IndexByte]? = some Fn.strings_IndexByte := Tryz.func117
abbrev F.unicode_utf8_ValidRune : FuncId := 118
noncomputable abbrev Fn.unicode_utf8_ValidRune : Func := Tryz.f118
theorem Fu.unicode_utf8_ValidRune : Tryz.prog.funcs[F.unicode_utf8_ValidRune]? = some Fn.unicode_utf8_ValidRune := Tryz.func118
abbrev F.internal_bytealg_Cutover : FuncId := 119
noncomputable abbrev Fn.internal_bytealg_Cutover : Func := Tryz.f119
theorem Fu.internal_bytealg_Cutover : Tryz.prog.funcs[F.internal_bytealg_Cutover]? = some Fn.internal_bytealg_Cutover := Tryz.func119
abbrev F.internal_bytealg_IndexString : FuncId := 120
noncomputable abbrev Fn.internal_bytealg_IndexString : Func := Tryz.f120
theorem Fu.internal_bytealg_IndexString : Tryz.prog.funcs[F.internal_bytealg_IndexString]? = some Fn.internal_bytealg_IndexString := Tryz.func120
abbrev F.math_bits_RotateLeft32 : FuncId := 121
noncomputable abbrev Fn.math_bits_RotateLeft32 : Func := Tryz.f121
theorem Fu.math_bits_RotateLeft32 : Tryz.prog.funcs[F.math_bits_RotateLeft32]? = some Fn.math_bits_RotateLeft32 := Tryz.func121
abbrev F.internal_stringslite_IndexByte : FuncId := 122
noncomputable abbrev Fn.internal_stringslite_IndexByte : Func := Tryz.f122
theorem Fu.internal_stringslite_IndexByte : Tryz.prog.funcs[F.internal_stringslite_IndexByte]? = some Fn.internal_stringslite_IndexByte := Tryz.func122
abbrev F.internal_bytealg_IndexByteString : FuncId := 123
noncomputable abbrev Fn.internal_bytealg_IndexByteString : Func := Tryz.f123
theorem Fu.internal_bytealg_IndexByteString : Tryz.prog.funcs[F.internal_bytealg_IndexByteString]? = some Fn.internal_bytealg_IndexByteString := Tryz.func123
abbrev F._runtime_boundsError_Error : FuncId := 124
noncomputable abbrev Fn._runtime_boundsError_Error : Func := Tryz.f124
theorem Fu._runtime_boundsError_Error : Tryz.prog.funcs[F._runtime_boundsError_Error]? = some Fn._runtime_boundsError_Error := Tryz.func124
abbrev F._runtime_boundsError_RuntimeError : FuncId := 125
noncomputable abbrev Fn._runtime_boundsError_RuntimeError : Func := Tryz.f125
theorem Fu._runtime_boundsError_RuntimeError : Tryz.prog.funcs[F._runtime_boundsError_RuntimeError]? = some Fn._runtime_boundsError_RuntimeError := Tryz.func125
abbrev F._runtime_errorString_Error : FuncId := 126
noncomputable abbrev Fn._runtime_errorString_Error : Func := Tryz.f126
theorem Fu._runtime_errorString_Error : Tryz.prog.funcs[F._runtime_errorString_Error]? = some Fn._runtime_errorString_Error := Tryz.func126
abbrev F._runtime_errorString_RuntimeError : FuncId := 127
noncomputable abbrev Fn._runtime_errorString_RuntimeError : Func := Tryz.f127
theorem Fu._runtime_errorString_RuntimeError : Tryz.prog.funcs[F._runtime_errorString_RuntimeError]? = some Fn._runtime_errorString_RuntimeError := Tryz.func127
abbrev F._runtime_plainError_Error : FuncId := 128
noncomputable abbrev Fn._runtime_plainError_Error : Func := Tryz.f128
theorem Fu._runtime_plainError_Error : Tryz.prog.funcs[F._runtime_plainError_Error]? = some Fn._runtime_plainError_Error := Tryz.func128
abbrev F._runtime_plainError_RuntimeError : FuncId := 129
noncomputable abbrev Fn._runtime_plainError_RuntimeError : Func := Tryz.f129
theorem Fu._runtime_plainError_RuntimeError : Tryz.prog.funcs[F._runtime_plainError_RuntimeError]? = some Fn._runtime_plainError_RuntimeError := Tryz.func129
abbrev F._runtime_errorAddressString_Error : FuncId := 130
noncomputable abbrev Fn._runtime_errorAddressString_Error : Func := Tryz.f130
theorem Fu._runtime_errorAddressString_Error : Tryz.prog.funcs[F._runtime_errorAddressString_Error]? = some Fn._runtime_errorAddressString_Error := Tryz.func130
abbrev F._runtime_errorAddressString_RuntimeError : FuncId := 131
noncomputable abbrev Fn._runtime_errorAddressString_RuntimeError : Func := Tryz.f131
theorem Fu._runtime_errorAddressString_RuntimeError : Tryz.prog.funcs[F._runtime_errorAddressString_RuntimeError]? = some Fn._runtime_errorAddressString_RuntimeError := Tryz.func131
abbrev F.runtime_TypeAssertionError_Error : FuncId := 132
noncomputable abbrev Fn.runtime_TypeAssertionError_Error : Func := Tryz.f132
theorem Fu.runtime_TypeAssertionError_Error : Tryz.prog.funcs[F.runtime_TypeAssertionError_Error]? = some Fn.runtime_TypeAssertionError_Error := Tryz.func132
abbrev F.runtime_TypeAssertionError_RuntimeError : FuncId := 133
noncomputable abbrev Fn.runtime_TypeAssertionError_RuntimeError : Func := Tryz.f133
theorem Fu.runtime_TypeAssertionError_RuntimeError : Tryz.prog.funcs[F.runtime_TypeAssertionError_RuntimeError]? = some Fn.runtime_TypeAssertionError_RuntimeError := Tryz.func133
abbrev F.runtime_PanicNilError_Error : FuncId := 134
noncomputable abbrev Fn.runtime_PanicNilError_Error : Func := Tryz.f134
theorem Fu.runtime_PanicNilError_Error : Tryz.prog.funcs[F.runtime_PanicNilError_Error]? = some Fn.runtime_PanicNilError_Error := Tryz.func134
abbrev F.runtime_PanicNilError_RuntimeError : FuncId := 135
noncomputable abbrev Fn.runtime_PanicNilError_RuntimeError : Func := Tryz.f135
theorem Fu.runtime_PanicNilError_RuntimeError : Tryz.prog.funcs[F.runtime_PanicNilError_RuntimeError]? = some Fn.runtime_PanicNilError_RuntimeError := Tryz.func135
abbrev F.internal_abi_Type_Align : FuncId := 136
noncomputable abbrev Fn.internal_abi_Type_Align : Func := Tryz.f136
theorem Fu.internal_abi_Type_Align : Tryz.prog.funcs[F.internal_abi_Type_Align]? = some Fn.internal_abi_Type_Align := Tryz.func136
abbrev F._internal_runtime_maps_unhashableTypeError_Error : FuncId := 137
noncomputable abbrev Fn._internal_runtime_maps_unhashableTypeError_Error : Func := Tryz.f137
theorem Fu._internal_runtime_maps_unhashableTypeError_Error : Tryz.prog.funcs[F._internal_runtime_maps_unhashableTypeError_Error]? = some Fn._internal_runtime_maps_unhashableTypeError_Error := Tryz.func137
abbrev F._internal_runtime_maps_unhashableTypeError_RuntimeError : FuncId := 138
noncomputable abbrev Fn._internal_runtime_maps_unhashableTypeError_RuntimeError : Func := Tryz.f138
theorem Fu._internal_runtime_maps_unhashableTypeError_RuntimeError : Tryz.prog.funcs[F._internal_runtime_maps_unhashableTypeError_RuntimeError]? = some Fn._internal_runtime_maps_unhashableTypeError_RuntimeError := Tryz.func138
abbrev F._api_Errno_Error : FuncId := 139
noncomputable abbrev Fn._api_Errno_Error : Func := Tryz.f139
theorem Fu._api_Errno_Error : Tryz.prog.funcs[F._api_Errno_Error]? = some Fn._api_Errno_Error := Tryz.func139
abbrev F.strings_Builder_Reset : FuncId := 140
noncomputable abbrev Fn.strings_Builder_Reset : Func := Tryz.f140
theorem Fu.strings_Builder_Reset : Tryz.prog.funcs[F.strings_Builder_Reset]? = some Fn.strings_Builder_Reset := Tryz.func140
abbrev F._internal_abi_Kind_String : FuncId := 141
noncomputable abbrev Fn._internal_abi_Kind_String : Func := Tryz.f141
theorem Fu._internal_abi_Kind_String : Tryz.prog.funcs[F._internal_abi_Kind_String]? = some Fn._internal_abi_Kind_String := Tryz.func141
abbrev F.var_s_door__gosem_cut_vars_holds_initialisers_alone__see_the_manifest_s_row_cutvarsword__look_11__test_files_too : FuncId := 142
noncomputable abbrev Fn.var_s_door__gosem_cut_vars_holds_initialisers_alone__see_the_manifest_s_row_cutvarsword__look_11__test_files_too : Func := Tryz.f142
theorem Fu.var_s_door__gosem_cut_vars_holds_initialisers_alone__see_the_manifest_s_row_cutvarsword__look_11__test_files_too : Tryz.prog.funcs[F.var_s_door__gosem_cut_vars_holds_initialisers_alone__see_the_manifest_s_row_cutvarsword__look_11__test_files_too]? = some Fn.var_s_door__gosem_cut_vars_holds_initialisers_alone__see_the_manifest_s_row_cutvarsword__look_11__test_files_too := Tryz.func142
abbrev F.var_s_door__the_look_of_gosem_cut_vars_went_over_the_folder_that_the_caller_named_as_the_repository_s_root__look_11 : FuncId := 143
noncomputable abbrev Fn.var_s_door__the_look_of_gosem_cut_vars_went_over_the_folder_that_the_caller_named_as_the_repository_s_root__look_11 : Func := Tryz.f143
theorem Fu.var_s_door__the_look_of_gosem_cut_vars_went_over_the_folder_that_the_caller_named_as_the_repository_s_root__look_11 : Tryz.prog.funcs[F.var_s_door__the_look_of_gosem_cut_vars_went_over_the_folder_that_the_caller_named_as_the_repository_s_root__look_11]? = some Fn.var_s_door__the_look_of_gosem_cut_vars_went_over_the_folder_that_the_caller_named_as_the_repository_s_root__look_11 := Tryz.func143
abbrev F.var_s_door__unicode_utf8_acceptRanges_is_laid_by_its_own_initialiser__plain_data__look_11 : FuncId := 144
noncomputable abbrev Fn.var_s_door__unicode_utf8_acceptRanges_is_laid_by_its_own_initialiser__plain_data__look_11 : Func := Tryz.f144
theorem Fu.var_s_door__unicode_utf8_acceptRanges_is_laid_by_its_own_initialiser__plain_data__look_11 : Tryz.prog.funcs[F.var_s_door__unicode_utf8_acceptRanges_is_laid_by_its_own_initialiser__plain_data__look_11]? = some Fn.var_s_door__unicode_utf8_acceptRanges_is_laid_by_its_own_initialiser__plain_data__look_11 := Tryz.func144
abbrev F.var_s_door__unicode_utf8_first_is_laid_by_its_text_alone__pinned_1 : FuncId := 145
noncomputable abbrev Fn.var_s_door__unicode_utf8_first_is_laid_by_its_text_alone__pinned_1 : Func := Tryz.f145
theorem Fu.var_s_door__unicode_utf8_first_is_laid_by_its_text_alone__pinned_1 : Tryz.prog.funcs[F.var_s_door__unicode_utf8_first_is_laid_by_its_text_alone__pinned_1]? = some Fn.var_s_door__unicode_utf8_first_is_laid_by_its_text_alone__pinned_1 := Tryz.func145
abbrev F.gosem_cut_vars : FuncId := 146
noncomputable abbrev Fn.gosem_cut_vars : Func := Tryz.f146
theorem Fu.gosem_cut_vars : Tryz.prog.funcs[F.gosem_cut_vars]? = some Fn.gosem_cut_vars := Tryz.func146
end Go.X
