/- The functions' numbers. -/
import Derived.Test.YtjhifcooocjagaaGreatDoorKVaultNobodyA
import Derived.Test.YtjhifcooocjagaaGreatDoorProg
namespace Go.X
open Go.Proofs
abbrev F.barquelaw18_VaultNobody : FuncId := 3
noncomputable abbrev Fn.barquelaw18_VaultNobody : Func := Tryz.f3
theorem Fu.barquelaw18_VaultNobody : Tryz.prog.funcs[F.barquelaw18_VaultNobody]? = some Fn.barquelaw18_VaultNobody := Tryz.func3
abbrev F.disk_New : FuncId := 9
noncomputable abbrev Fn.disk_New : Func := Tryz.f9
theorem Fu.disk_New : Tryz.prog.funcs[F.disk_New]? = some Fn.disk_New := Tryz.func9
abbrev F.vault_Make : FuncId := 10
noncomputable abbrev Fn.vault_Make : Func := Tryz.f10
theorem Fu.vault_Make : Tryz.prog.funcs[F.vault_Make]? = some Fn.vault_Make := Tryz.func10
abbrev F.marks_Ideal : FuncId := 11
noncomputable abbrev Fn.marks_Ideal : Func := Tryz.f11
theorem Fu.marks_Ideal : Tryz.prog.funcs[F.marks_Ideal]? = some Fn.marks_Ideal := Tryz.func11
abbrev F.vault_Open : FuncId := 12
noncomputable abbrev Fn.vault_Open : Func := Tryz.f12
theorem Fu.vault_Open : Tryz.prog.funcs[F.vault_Open]? = some Fn.vault_Open := Tryz.func12
abbrev F.vault_Vault_Image : FuncId := 13
noncomputable abbrev Fn.vault_Vault_Image : Func := Tryz.f13
theorem Fu.vault_Vault_Image : Tryz.prog.funcs[F.vault_Vault_Image]? = some Fn.vault_Vault_Image := Tryz.func13
abbrev F.vault_Vault_Handle : FuncId := 14
noncomputable abbrev Fn.vault_Vault_Handle : Func := Tryz.f14
theorem Fu.vault_Vault_Handle : Tryz.prog.funcs[F.vault_Vault_Handle]? = some Fn.vault_Vault_Handle := Tryz.func14
abbrev F.vault_Vault_Up : FuncId := 15
noncomputable abbrev Fn.vault_Vault_Up : Func := Tryz.f15
theorem Fu.vault_Vault_Up : Tryz.prog.funcs[F.vault_Vault_Up]? = some Fn.vault_Vault_Up := Tryz.func15
abbrev F.vault_Vault_Scrub : FuncId := 16
noncomputable abbrev Fn.vault_Vault_Scrub : Func := Tryz.f16
theorem Fu.vault_Vault_Scrub : Tryz.prog.funcs[F.vault_Vault_Scrub]? = some Fn.vault_Vault_Scrub := Tryz.func16
abbrev F.vault_Vault_View : FuncId := 17
noncomputable abbrev Fn.vault_Vault_View : Func := Tryz.f17
theorem Fu.vault_Vault_View : Tryz.prog.funcs[F.vault_Vault_View]? = some Fn.vault_Vault_View := Tryz.func17
abbrev F.barquelaw18_awake : FuncId := 18
noncomputable abbrev Fn.barquelaw18_awake : Func := Tryz.f18
theorem Fu.barquelaw18_awake : Tryz.prog.funcs[F.barquelaw18_awake]? = some Fn.barquelaw18_awake := Tryz.func18
abbrev F.barquelaw18_fresh : FuncId := 19
noncomputable abbrev Fn.barquelaw18_fresh : Func := Tryz.f19
theorem Fu.barquelaw18_fresh : Tryz.prog.funcs[F.barquelaw18_fresh]? = some Fn.barquelaw18_fresh := Tryz.func19
abbrev F.disk_Disk_List : FuncId := 29
noncomputable abbrev Fn.disk_Disk_List : Func := Tryz.f29
theorem Fu.disk_Disk_List : Tryz.prog.funcs[F.disk_Disk_List]? = some Fn.disk_Disk_List := Tryz.func29
abbrev F.disk_Disk_Spoil : FuncId := 30
noncomputable abbrev Fn.disk_Disk_Spoil : Func := Tryz.f30
theorem Fu.disk_Disk_Spoil : Tryz.prog.funcs[F.disk_Disk_Spoil]? = some Fn.disk_Disk_Spoil := Tryz.func30
abbrev F.marks_Book_Is : FuncId := 31
noncomputable abbrev Fn.marks_Book_Is : Func := Tryz.f31
theorem Fu.marks_Book_Is : Tryz.prog.funcs[F.marks_Book_Is]? = some Fn.marks_Book_Is := Tryz.func31
abbrev F.wal_Format : FuncId := 32
noncomputable abbrev Fn.wal_Format : Func := Tryz.f32
theorem Fu.wal_Format : Tryz.prog.funcs[F.wal_Format]? = some Fn.wal_Format := Tryz.func32
abbrev F.vault_fresh : FuncId := 33
noncomputable abbrev Fn.vault_fresh : Func := Tryz.f33
theorem Fu.vault_fresh : Tryz.prog.funcs[F.vault_fresh]? = some Fn.vault_fresh := Tryz.func33
abbrev F.wal_Open : FuncId := 34
noncomputable abbrev Fn.wal_Open : Func := Tryz.f34
theorem Fu.wal_Open : Tryz.prog.funcs[F.wal_Open]? = some Fn.wal_Open := Tryz.func34
abbrev F.vault_state_do : FuncId := 35
noncomputable abbrev Fn.vault_state_do : Func := Tryz.f35
theorem Fu.vault_state_do : Tryz.prog.funcs[F.vault_state_do]? = some Fn.vault_state_do := Tryz.func35
abbrev F.store_Store_Image : FuncId := 36
noncomputable abbrev Fn.store_Store_Image : Func := Tryz.f36
theorem Fu.store_Store_Image : Tryz.prog.funcs[F.store_Store_Image]? = some Fn.store_Store_Image := Tryz.func36
abbrev F.vault_Vault_none : FuncId := 37
noncomputable abbrev Fn.vault_Vault_none : Func := Tryz.f37
theorem Fu.vault_Vault_none : Tryz.prog.funcs[F.vault_Vault_none]? = some Fn.vault_Vault_none := Tryz.func37
abbrev F.vault_Vault_chosen : FuncId := 38
noncomputable abbrev Fn.vault_Vault_chosen : Func := Tryz.f38
theorem Fu.vault_Vault_chosen : Tryz.prog.funcs[F.vault_Vault_chosen]? = some Fn.vault_Vault_chosen := Tryz.func38
abbrev F.vault_Vault_fetch : FuncId := 39
noncomputable abbrev Fn.vault_Vault_fetch : Func := Tryz.f39
theorem Fu.vault_Vault_fetch : Tryz.prog.funcs[F.vault_Vault_fetch]? = some Fn.vault_Vault_fetch := Tryz.func39
abbrev F.vault_Vault_bound : FuncId := 40
noncomputable abbrev Fn.vault_Vault_bound : Func := Tryz.f40
theorem Fu.vault_Vault_bound : Tryz.prog.funcs[F.vault_Vault_bound]? = some Fn.vault_Vault_bound := Tryz.func40
abbrev F.vault_Vault_nack : FuncId := 41
noncomputable abbrev Fn.vault_Vault_nack : Func := Tryz.f41
theorem Fu.vault_Vault_nack : Tryz.prog.funcs[F.vault_Vault_nack]? = some Fn.vault_Vault_nack := Tryz.func41
abbrev F.vault_Vault_promise : FuncId := 42
noncomputable abbrev Fn.vault_Vault_promise : Func := Tryz.f42
theorem Fu.vault_Vault_promise : Tryz.prog.funcs[F.vault_Vault_promise]? = some Fn.vault_Vault_promise := Tryz.func42
abbrev F.vault_Vault_part : FuncId := 43
noncomputable abbrev Fn.vault_Vault_part : Func := Tryz.f43
theorem Fu.vault_Vault_part : Tryz.prog.funcs[F.vault_Vault_part]? = some Fn.vault_Vault_part := Tryz.func43
abbrev F.vault_Vault_accepts : FuncId := 44
noncomputable abbrev Fn.vault_Vault_accepts : Func := Tryz.f44
theorem Fu.vault_Vault_accepts : Tryz.prog.funcs[F.vault_Vault_accepts]? = some Fn.vault_Vault_accepts := Tryz.func44
abbrev F.vault_Vault_reply : FuncId := 45
noncomputable abbrev Fn.vault_Vault_reply : Func := Tryz.f45
theorem Fu.vault_Vault_reply : Tryz.prog.funcs[F.vault_Vault_reply]? = some Fn.vault_Vault_reply := Tryz.func45
abbrev F.vault_Vault_prune : FuncId := 46
noncomputable abbrev Fn.vault_Vault_prune : Func := Tryz.f46
theorem Fu.vault_Vault_prune : Tryz.prog.funcs[F.vault_Vault_prune]? = some Fn.vault_Vault_prune := Tryz.func46
abbrev F.store_Store_Scrub : FuncId := 47
noncomputable abbrev Fn.store_Store_Scrub : Func := Tryz.f47
theorem Fu.store_Store_Scrub : Tryz.prog.funcs[F.store_Store_Scrub]? = some Fn.store_Store_Scrub := Tryz.func47
abbrev F.slices_Clone_Entry : FuncId := 48
noncomputable abbrev Fn.slices_Clone_Entry : Func := Tryz.f48
theorem Fu.slices_Clone_Entry : Tryz.prog.funcs[F.slices_Clone_Entry]? = some Fn.slices_Clone_Entry := Tryz.func48
abbrev F.store_Store_Gens : FuncId := 49
noncomputable abbrev Fn.store_Store_Gens : Func := Tryz.f49
theorem Fu.store_Store_Gens : Tryz.prog.funcs[F.store_Store_Gens]? = some Fn.store_Store_Gens := Tryz.func49
abbrev F.disk_Disk_Crash : FuncId := 66
noncomputable abbrev Fn.disk_Disk_Crash : Func := Tryz.f66
theorem Fu.disk_Disk_Crash : Tryz.prog.funcs[F.disk_Disk_Crash]? = some Fn.disk_Disk_Crash := Tryz.func66
abbrev F.disk_Disk_Arm : FuncId := 67
noncomputable abbrev Fn.disk_Disk_Arm : Func := Tryz.f67
theorem Fu.disk_Disk_Arm : Tryz.prog.funcs[F.disk_Disk_Arm]? = some Fn.disk_Disk_Arm := Tryz.func67
abbrev F.marks_Book_Mark : FuncId := 70
noncomputable abbrev Fn.marks_Book_Mark : Func := Tryz.f70
theorem Fu.marks_Book_Mark : Tryz.prog.funcs[F.marks_Book_Mark]? = some Fn.marks_Book_Mark := Tryz.func70
abbrev F.disk_Disk_ready : FuncId := 71
noncomputable abbrev Fn.disk_Disk_ready : Func := Tryz.f71
theorem Fu.disk_Disk_ready : Tryz.prog.funcs[F.disk_Disk_ready]? = some Fn.disk_Disk_ready := Tryz.func71
abbrev F.disk_Disk_find : FuncId := 72
noncomputable abbrev Fn.disk_Disk_find : Func := Tryz.f72
theorem Fu.disk_Disk_find : Tryz.prog.funcs[F.disk_Disk_find]? = some Fn.disk_Disk_find := Tryz.func72
abbrev F.marks_Book_none : FuncId := 73
noncomputable abbrev Fn.marks_Book_none : Func := Tryz.f73
theorem Fu.marks_Book_none : Tryz.prog.funcs[F.marks_Book_none]? = some Fn.marks_Book_none := Tryz.func73
abbrev F._marks_mixer_sum : FuncId := 74
noncomputable abbrev Fn._marks_mixer_sum : Func := Tryz.f74
theorem Fu._marks_mixer_sum : Tryz.prog.funcs[F._marks_mixer_sum]? = some Fn._marks_mixer_sum := Tryz.func74
abbrev F.marks_numbered : FuncId := 75
noncomputable abbrev Fn.marks_numbered : Func := Tryz.f75
theorem Fu.marks_numbered : Tryz.prog.funcs[F.marks_numbered]? = some Fn.marks_numbered := Tryz.func75
abbrev F.wal_none : FuncId := 76
noncomputable abbrev Fn.wal_none : Func := Tryz.f76
theorem Fu.wal_none : Tryz.prog.funcs[F.wal_none]? = some Fn.wal_none := Tryz.func76
abbrev F.wal_segments : FuncId := 77
noncomputable abbrev Fn.wal_segments : Func := Tryz.f77
theorem Fu.wal_segments : Tryz.prog.funcs[F.wal_segments]? = some Fn.wal_segments := Tryz.func77
abbrev F.disk_Disk_Remove : FuncId := 78
noncomputable abbrev Fn.disk_Disk_Remove : Func := Tryz.f78
theorem Fu.disk_Disk_Remove : Tryz.prog.funcs[F.disk_Disk_Remove]? = some Fn.disk_Disk_Remove := Tryz.func78
abbrev F.wal_name : FuncId := 79
noncomputable abbrev Fn.wal_name : Func := Tryz.f79
theorem Fu.wal_name : Tryz.prog.funcs[F.wal_name]? = some Fn.wal_name := Tryz.func79
abbrev F.wal_begin : FuncId := 80
noncomputable abbrev Fn.wal_begin : Func := Tryz.f80
theorem Fu.wal_begin : Tryz.prog.funcs[F.wal_begin]? = some Fn.wal_begin := Tryz.func80
abbrev F.store_New : FuncId := 81
noncomputable abbrev Fn.store_New : Func := Tryz.f81
theorem Fu.store_New : Tryz.prog.funcs[F.store_New]? = some Fn.store_New := Tryz.func81
abbrev F.wal_load : FuncId := 82
noncomputable abbrev Fn.wal_load : Func := Tryz.f82
theorem Fu.wal_load : Tryz.prog.funcs[F.wal_load]? = some Fn.wal_load := Tryz.func82
abbrev F.wal_Log_wipe : FuncId := 83
noncomputable abbrev Fn.wal_Log_wipe : Func := Tryz.f83
theorem Fu.wal_Log_wipe : Tryz.prog.funcs[F.wal_Log_wipe]? = some Fn.wal_Log_wipe := Tryz.func83
abbrev F.code_Read : FuncId := 84
noncomputable abbrev Fn.code_Read : Func := Tryz.f84
theorem Fu.code_Read : Tryz.prog.funcs[F.code_Read]? = some Fn.code_Read := Tryz.func84
abbrev F.vault_state_many : FuncId := 85
noncomputable abbrev Fn.vault_state_many : Func := Tryz.f85
theorem Fu.vault_state_many : Tryz.prog.funcs[F.vault_state_many]? = some Fn.vault_state_many := Tryz.func85
abbrev F.code_Reader_Num : FuncId := 86
noncomputable abbrev Fn.code_Reader_Num : Func := Tryz.f86
theorem Fu.code_Reader_Num : Tryz.prog.funcs[F.code_Reader_Num]? = some Fn.code_Reader_Num := Tryz.func86
abbrev F.code_Reader_End : FuncId := 87
noncomputable abbrev Fn.code_Reader_End : Func := Tryz.f87
theorem Fu.code_Reader_End : Tryz.prog.funcs[F.code_Reader_End]? = some Fn.code_Reader_End := Tryz.func87
abbrev F.code_Reader_Err : FuncId := 88
noncomputable abbrev Fn.code_Reader_Err : Func := Tryz.f88
theorem Fu.code_Reader_Err : Tryz.prog.funcs[F.code_Reader_Err]? = some Fn.code_Reader_Err := Tryz.func88
abbrev F.code_Reader_Raw : FuncId := 89
noncomputable abbrev Fn.code_Reader_Raw : Func := Tryz.f89
theorem Fu.code_Reader_Raw : Tryz.prog.funcs[F.code_Reader_Raw]? = some Fn.code_Reader_Raw := Tryz.func89
abbrev F.vault_state_accept : FuncId := 90
noncomputable abbrev Fn.vault_state_accept : Func := Tryz.f90
theorem Fu.vault_state_accept : Tryz.prog.funcs[F.vault_state_accept]? = some Fn.vault_state_accept := Tryz.func90
abbrev F.vault_state_forget : FuncId := 91
noncomputable abbrev Fn.vault_state_forget : Func := Tryz.f91
theorem Fu.vault_state_forget : Tryz.prog.funcs[F.vault_state_forget]? = some Fn.vault_state_forget := Tryz.func91
abbrev F.slices_DeleteFunc_Entry : FuncId := 92
noncomputable abbrev Fn.slices_DeleteFunc_Entry : Func := Tryz.f92
theorem Fu.slices_DeleteFunc_Entry : Tryz.prog.funcs[F.slices_DeleteFunc_Entry]? = some Fn.slices_DeleteFunc_Entry := Tryz.func92
abbrev F.vault_state_do_1 : FuncId := 93
noncomputable abbrev Fn.vault_state_do_1 : Func := Tryz.f93
theorem Fu.vault_state_do_1 : Tryz.prog.funcs[F.vault_state_do_1]? = some Fn.vault_state_do_1 := Tryz.func93
abbrev F.store_Store_Do : FuncId := 94
noncomputable abbrev Fn.store_Store_Do : Func := Tryz.f94
theorem Fu.store_Store_Do : Tryz.prog.funcs[F.store_Store_Do]? = some Fn.store_Store_Do := Tryz.func94
abbrev F.store_Store_none : FuncId := 95
noncomputable abbrev Fn.store_Store_none : Func := Tryz.f95
theorem Fu.store_Store_none : Tryz.prog.funcs[F.store_Store_none]? = some Fn.store_Store_none := Tryz.func95
abbrev F.disk_Disk_Up : FuncId := 97
noncomputable abbrev Fn.disk_Disk_Up : Func := Tryz.f97
theorem Fu.disk_Disk_Up : Tryz.prog.funcs[F.disk_Disk_Up]? = some Fn.disk_Disk_Up := Tryz.func97
abbrev F.vault_Vault_write : FuncId := 100
noncomputable abbrev Fn.vault_Vault_write : Func := Tryz.f100
theorem Fu.vault_Vault_write : Tryz.prog.funcs[F.vault_Vault_write]? = some Fn.vault_Vault_write := Tryz.func100
abbrev F.vault_num : FuncId := 101
noncomputable abbrev Fn.vault_num : Func := Tryz.f101
theorem Fu.vault_num : Tryz.prog.funcs[F.vault_num]? = some Fn.vault_num := Tryz.func101
abbrev F.vault_Vault_marked : FuncId := 102
noncomputable abbrev Fn.vault_Vault_marked : Func := Tryz.f102
theorem Fu.vault_Vault_marked : Tryz.prog.funcs[F.vault_Vault_marked]? = some Fn.vault_Vault_marked := Tryz.func102
abbrev F.vault_entry : FuncId := 112
noncomputable abbrev Fn.vault_entry : Func := Tryz.f112
theorem Fu.vault_entry : Tryz.prog.funcs[F.vault_entry]? = some Fn.vault_entry := Tryz.func112
abbrev F.code_Num : FuncId := 120
noncomputable abbrev Fn.code_Num : Func := Tryz.f120
theorem Fu.code_Num : Tryz.prog.funcs[F.code_Num]? = some Fn.code_Num := Tryz.func120
abbrev F.strings_Builder_WriteString : FuncId := 121
noncomputable abbrev Fn.strings_Builder_WriteString : Func := Tryz.f121
theorem Fu.strings_Builder_WriteString : Tryz.prog.funcs[F.strings_Builder_WriteString]? = some Fn.strings_Builder_WriteString := Tryz.func121
abbrev F.strings_Builder_String : FuncId := 122
noncomputable abbrev Fn.strings_Builder_String : Func := Tryz.f122
theorem Fu.strings_Builder_String : Tryz.prog.funcs[F.strings_Builder_String]? = some Fn.strings_Builder_String := Tryz.func122
abbrev F.disk_Disk_last : FuncId := 130
noncomputable abbrev Fn.disk_Disk_last : Func := Tryz.f130
theorem Fu.disk_Disk_last : Tryz.prog.funcs[F.disk_Disk_last]? = some Fn.disk_Disk_last := Tryz.func130
abbrev F.slices_Clone : FuncId := 131
noncomputable abbrev Fn.slices_Clone : Func := Tryz.f131
theorem Fu.slices_Clone : Tryz.prog.funcs[F.slices_Clone]? = some Fn.slices_Clone := Tryz.func131
abbrev F.disk_Disk_place : FuncId := 134
noncomputable abbrev Fn.disk_Disk_place : Func := Tryz.f134
theorem Fu.disk_Disk_place : Tryz.prog.funcs[F.disk_Disk_place]? = some Fn.disk_Disk_place := Tryz.func134
abbrev F.marks_Book_Ready : FuncId := 137
noncomputable abbrev Fn.marks_Book_Ready : Func := Tryz.f137
theorem Fu.marks_Book_Ready : Tryz.prog.funcs[F.marks_Book_Ready]? = some Fn.marks_Book_Ready := Tryz.func137
abbrev F.wal_number : FuncId := 138
noncomputable abbrev Fn.wal_number : Func := Tryz.f138
theorem Fu.wal_number : Tryz.prog.funcs[F.wal_number]? = some Fn.wal_number := Tryz.func138
abbrev F.slices_Delete : FuncId := 139
noncomputable abbrev Fn.slices_Delete : Func := Tryz.f139
theorem Fu.slices_Delete : Tryz.prog.funcs[F.slices_Delete]? = some Fn.slices_Delete := Tryz.func139
abbrev F.slices_DeleteFunc : FuncId := 140
noncomputable abbrev Fn.slices_DeleteFunc : Func := Tryz.f140
theorem Fu.slices_DeleteFunc : Tryz.prog.funcs[F.slices_DeleteFunc]? = some Fn.slices_DeleteFunc := Tryz.func140
abbrev F.disk_Disk_Remove_1 : FuncId := 141
noncomputable abbrev Fn.disk_Disk_Remove_1 : Func := Tryz.f141
theorem Fu.disk_Disk_Remove_1 : Tryz.prog.funcs[F.disk_Disk_Remove_1]? = some Fn.disk_Disk_Remove_1 := Tryz.func141
abbrev F.disk_Disk_Create : FuncId := 142
noncomputable abbrev Fn.disk_Disk_Create : Func := Tryz.f142
theorem Fu.disk_Disk_Create : Tryz.prog.funcs[F.disk_Disk_Create]? = some Fn.disk_Disk_Create := Tryz.func142
abbrev F.wal_first : FuncId := 143
noncomputable abbrev Fn.wal_first : Func := Tryz.f143
theorem Fu.wal_first : Tryz.prog.funcs[F.wal_first]? = some Fn.wal_first := Tryz.func143
abbrev F.wal_Log_put : FuncId := 144
noncomputable abbrev Fn.wal_Log_put : Func := Tryz.f144
theorem Fu.wal_Log_put : Tryz.prog.funcs[F.wal_Log_put]? = some Fn.wal_Log_put := Tryz.func144
abbrev F.disk_Disk_Sync : FuncId := 145
noncomputable abbrev Fn.disk_Disk_Sync : Func := Tryz.f145
theorem Fu.disk_Disk_Sync : Tryz.prog.funcs[F.disk_Disk_Sync]? = some Fn.disk_Disk_Sync := Tryz.func145
abbrev F.disk_Disk_Size : FuncId := 146
noncomputable abbrev Fn.disk_Disk_Size : Func := Tryz.f146
theorem Fu.disk_Disk_Size : Tryz.prog.funcs[F.disk_Disk_Size]? = some Fn.disk_Disk_Size := Tryz.func146
abbrev F.disk_Disk_Read : FuncId := 147
noncomputable abbrev Fn.disk_Disk_Read : Func := Tryz.f147
theorem Fu.disk_Disk_Read : Tryz.prog.funcs[F.disk_Disk_Read]? = some Fn.disk_Disk_Read := Tryz.func147
abbrev F.wal_next : FuncId := 148
noncomputable abbrev Fn.wal_next : Func := Tryz.f148
theorem Fu.wal_next : Tryz.prog.funcs[F.wal_next]? = some Fn.wal_next := Tryz.func148
abbrev F.strings_Trim : FuncId := 149
noncomputable abbrev Fn.strings_Trim : Func := Tryz.f149
theorem Fu.strings_Trim : Tryz.prog.funcs[F.strings_Trim]? = some Fn.strings_Trim := Tryz.func149
abbrev F.disk_Disk_Write : FuncId := 150
noncomputable abbrev Fn.disk_Disk_Write : Func := Tryz.f150
theorem Fu.disk_Disk_Write : Tryz.prog.funcs[F.disk_Disk_Write]? = some Fn.disk_Disk_Write := Tryz.func150
abbrev F.strings_Repeat : FuncId := 151
noncomputable abbrev Fn.strings_Repeat : Func := Tryz.f151
theorem Fu.strings_Repeat : Tryz.prog.funcs[F.strings_Repeat]? = some Fn.strings_Repeat := Tryz.func151
abbrev F.code_Reader_Texts : FuncId := 152
noncomputable abbrev Fn.code_Reader_Texts : Func := Tryz.f152
theorem Fu.code_Reader_Texts : Tryz.prog.funcs[F.code_Reader_Texts]? = some Fn.code_Reader_Texts := Tryz.func152
abbrev F.strings_HasPrefix : FuncId := 153
noncomputable abbrev Fn.strings_HasPrefix : Func := Tryz.f153
theorem Fu.strings_HasPrefix : Tryz.prog.funcs[F.strings_HasPrefix]? = some Fn.strings_HasPrefix := Tryz.func153
abbrev F.code_Reader_Byte : FuncId := 154
noncomputable abbrev Fn.code_Reader_Byte : Func := Tryz.f154
theorem Fu.code_Reader_Byte : Tryz.prog.funcs[F.code_Reader_Byte]? = some Fn.code_Reader_Byte := Tryz.func154
abbrev F.code_Reader_off : FuncId := 155
noncomputable abbrev Fn.code_Reader_off : Func := Tryz.f155
theorem Fu.code_Reader_off : Tryz.prog.funcs[F.code_Reader_off]? = some Fn.code_Reader_off := Tryz.func155
abbrev F.code_Reader_fail : FuncId := 156
noncomputable abbrev Fn.code_Reader_fail : Func := Tryz.f156
theorem Fu.code_Reader_fail : Tryz.prog.funcs[F.code_Reader_fail]? = some Fn.code_Reader_fail := Tryz.func156
abbrev F.code_Reader_Left : FuncId := 157
noncomputable abbrev Fn.code_Reader_Left : Func := Tryz.f157
theorem Fu.code_Reader_Left : Tryz.prog.funcs[F.code_Reader_Left]? = some Fn.code_Reader_Left := Tryz.func157
abbrev F.slices_Insert_Entry : FuncId := 158
noncomputable abbrev Fn.slices_Insert_Entry : Func := Tryz.f158
theorem Fu.slices_Insert_Entry : Tryz.prog.funcs[F.slices_Insert_Entry]? = some Fn.slices_Insert_Entry := Tryz.func158
abbrev F.vault_state_forget_1 : FuncId := 159
noncomputable abbrev Fn.vault_state_forget_1 : Func := Tryz.f159
theorem Fu.vault_state_forget_1 : Tryz.prog.funcs[F.vault_state_forget_1]? = some Fn.vault_state_forget_1 := Tryz.func159
abbrev F.slices_IndexFunc_Entry : FuncId := 160
noncomputable abbrev Fn.slices_IndexFunc_Entry : Func := Tryz.f160
theorem Fu.slices_IndexFunc_Entry : Tryz.prog.funcs[F.slices_IndexFunc_Entry]? = some Fn.slices_IndexFunc_Entry := Tryz.func160
abbrev F.store_Store_place : FuncId := 165
noncomputable abbrev Fn.store_Store_place : Func := Tryz.f165
theorem Fu.store_Store_place : Tryz.prog.funcs[F.store_Store_place]? = some Fn.store_Store_place := Tryz.func165
abbrev F.store_Store_Mark : FuncId := 168
noncomputable abbrev Fn.store_Store_Mark : Func := Tryz.f168
theorem Fu.store_Store_Mark : Tryz.prog.funcs[F.store_Store_Mark]? = some Fn.store_Store_Mark := Tryz.func168
abbrev F.code_Texts : FuncId := 169
noncomputable abbrev Fn.code_Texts : Func := Tryz.f169
theorem Fu.code_Texts : Tryz.prog.funcs[F.code_Texts]? = some Fn.code_Texts := Tryz.func169
abbrev F.wal_Log_Append : FuncId := 170
noncomputable abbrev Fn.wal_Log_Append : Func := Tryz.f170
theorem Fu.wal_Log_Append : Tryz.prog.funcs[F.wal_Log_Append]? = some Fn.wal_Log_Append := Tryz.func170
abbrev F.vault_noRoom : FuncId := 171
noncomputable abbrev Fn.vault_noRoom : Func := Tryz.f171
theorem Fu.vault_noRoom : Tryz.prog.funcs[F.vault_noRoom]? = some Fn.vault_noRoom := Tryz.func171
abbrev F.wal_Log_Turn : FuncId := 172
noncomputable abbrev Fn.wal_Log_Turn : Func := Tryz.f172
theorem Fu.wal_Log_Turn : Tryz.prog.funcs[F.wal_Log_Turn]? = some Fn.wal_Log_Turn := Tryz.func172
abbrev F.vault_state_records : FuncId := 173
noncomputable abbrev Fn.vault_state_records : Func := Tryz.f173
theorem Fu.vault_state_records : Tryz.prog.funcs[F.vault_state_records]? = some Fn.vault_state_records := Tryz.func173
abbrev F.wal_Log_Sync : FuncId := 174
noncomputable abbrev Fn.wal_Log_Sync : Func := Tryz.f174
theorem Fu.wal_Log_Sync : Tryz.prog.funcs[F.wal_Log_Sync]? = some Fn.wal_Log_Sync := Tryz.func174
abbrev F.wal_Log_Size : FuncId := 175
noncomputable abbrev Fn.wal_Log_Size : Func := Tryz.f175
theorem Fu.wal_Log_Size : Tryz.prog.funcs[F.wal_Log_Size]? = some Fn.wal_Log_Size := Tryz.func175
abbrev F.store_Store_Bytes : FuncId := 176
noncomputable abbrev Fn.store_Store_Bytes : Func := Tryz.f176
theorem Fu.store_Store_Bytes : Tryz.prog.funcs[F.store_Store_Bytes]? = some Fn.store_Store_Bytes := Tryz.func176
abbrev F.strings_Join : FuncId := 177
noncomputable abbrev Fn.strings_Join : Func := Tryz.f177
theorem Fu.strings_Join : Tryz.prog.funcs[F.strings_Join]? = some Fn.strings_Join := Tryz.func177
abbrev F.strings_Builder_copyCheck : FuncId := 199
noncomputable abbrev Fn.strings_Builder_copyCheck : Func := Tryz.f199
theorem Fu.strings_Builder_copyCheck : Tryz.prog.funcs[F.strings_Builder_copyCheck]? = some Fn.strings_Builder_copyCheck := Tryz.func199
abbrev F.disk_grown : FuncId := 201
noncomputable abbrev Fn.disk_grown : Func := Tryz.f201
theorem Fu.disk_grown : Tryz.prog.funcs[F.disk_grown]? = some Fn.disk_grown := Tryz.func201
abbrev F.slices_BinarySearchFunc : FuncId := 202
noncomputable abbrev Fn.slices_BinarySearchFunc : Func := Tryz.f202
theorem Fu.slices_BinarySearchFunc : Tryz.prog.funcs[F.slices_BinarySearchFunc]? = some Fn.slices_BinarySearchFunc := Tryz.func202
abbrev F.disk_Disk_place_1 : FuncId := 203
noncomputable abbrev Fn.disk_Disk_place_1 : Func := Tryz.f203
theorem Fu.disk_Disk_place_1 : Tryz.prog.funcs[F.disk_Disk_place_1]? = some Fn.disk_Disk_place_1 := Tryz.func203
abbrev F.strings_Compare : FuncId := 204
noncomputable abbrev Fn.strings_Compare : Func := Tryz.f204
theorem Fu.strings_Compare : Tryz.prog.funcs[F.strings_Compare]? = some Fn.strings_Compare := Tryz.func204
abbrev F.slices_IndexFunc : FuncId := 207
noncomputable abbrev Fn.slices_IndexFunc : Func := Tryz.f207
theorem Fu.slices_IndexFunc : Tryz.prog.funcs[F.slices_IndexFunc]? = some Fn.slices_IndexFunc := Tryz.func207
abbrev F.disk_named : FuncId := 208
noncomputable abbrev Fn.disk_named : Func := Tryz.f208
theorem Fu.disk_named : Tryz.prog.funcs[F.disk_named]? = some Fn.disk_named := Tryz.func208
abbrev F.slices_Insert : FuncId := 209
noncomputable abbrev Fn.slices_Insert : Func := Tryz.f209
theorem Fu.slices_Insert : Tryz.prog.funcs[F.slices_Insert]? = some Fn.slices_Insert := Tryz.func209
abbrev F.wal_record : FuncId := 210
noncomputable abbrev Fn.wal_record : Func := Tryz.f210
theorem Fu.wal_record : Tryz.prog.funcs[F.wal_record]? = some Fn.wal_record := Tryz.func210
abbrev F.strings_Builder_Len : FuncId := 211
noncomputable abbrev Fn.strings_Builder_Len : Func := Tryz.f211
theorem Fu.strings_Builder_Len : Tryz.prog.funcs[F.strings_Builder_Len]? = some Fn.strings_Builder_Len := Tryz.func211
abbrev F.wal_value : FuncId := 212
noncomputable abbrev Fn.wal_value : Func := Tryz.f212
theorem Fu.wal_value : Tryz.prog.funcs[F.wal_value]? = some Fn.wal_value := Tryz.func212
abbrev F.strings_trimLeftByte : FuncId := 213
noncomputable abbrev Fn.strings_trimLeftByte : Func := Tryz.f213
theorem Fu.strings_trimLeftByte : Tryz.prog.funcs[F.strings_trimLeftByte]? = some Fn.strings_trimLeftByte := Tryz.func213
abbrev F.strings_trimRightByte : FuncId := 214
noncomputable abbrev Fn.strings_trimRightByte : Func := Tryz.f214
theorem Fu.strings_trimRightByte : Tryz.prog.funcs[F.strings_trimRightByte]? = some Fn.strings_trimRightByte := Tryz.func214
abbrev F.strings_makeASCIISet : FuncId := 215
noncomputable abbrev Fn.strings_makeASCIISet : Func := Tryz.f215
theorem Fu.strings_makeASCIISet : Tryz.prog.funcs[F.strings_makeASCIISet]? = some Fn.strings_makeASCIISet := Tryz.func215
abbrev F.strings_trimLeftASCII : FuncId := 216
noncomputable abbrev Fn.strings_trimLeftASCII : Func := Tryz.f216
theorem Fu.strings_trimLeftASCII : Tryz.prog.funcs[F.strings_trimLeftASCII]? = some Fn.strings_trimLeftASCII := Tryz.func216
abbrev F.strings_trimRightASCII : FuncId := 217
noncomputable abbrev Fn.strings_trimRightASCII : Func := Tryz.f217
theorem Fu.strings_trimRightASCII : Tryz.prog.funcs[F.strings_trimRightASCII]? = some Fn.strings_trimRightASCII := Tryz.func217
abbrev F.strings_trimLeftUnicode : FuncId := 218
noncomputable abbrev Fn.strings_trimLeftUnicode : Func := Tryz.f218
theorem Fu.strings_trimLeftUnicode : Tryz.prog.funcs[F.strings_trimLeftUnicode]? = some Fn.strings_trimLeftUnicode := Tryz.func218
abbrev F.strings_trimRightUnicode : FuncId := 219
noncomputable abbrev Fn.strings_trimRightUnicode : Func := Tryz.f219
theorem Fu.strings_trimRightUnicode : Tryz.prog.funcs[F.strings_trimRightUnicode]? = some Fn.strings_trimRightUnicode := Tryz.func219
abbrev F.disk_sectors : FuncId := 220
noncomputable abbrev Fn.disk_sectors : Func := Tryz.f220
theorem Fu.disk_sectors : Tryz.prog.funcs[F.disk_sectors]? = some Fn.disk_sectors := Tryz.func220
abbrev F.disk_Disk_Free : FuncId := 221
noncomputable abbrev Fn.disk_Disk_Free : Func := Tryz.f221
theorem Fu.disk_Disk_Free : Tryz.prog.funcs[F.disk_Disk_Free]? = some Fn.disk_Disk_Free := Tryz.func221
abbrev F.math_bits_Mul : FuncId := 222
noncomputable abbrev Fn.math_bits_Mul : Func := Tryz.f222
theorem Fu.math_bits_Mul : Tryz.prog.funcs[F.math_bits_Mul]? = some Fn.math_bits_Mul := Tryz.func222
abbrev F.strings_Builder_Grow : FuncId := 223
noncomputable abbrev Fn.strings_Builder_Grow : Func := Tryz.f223
theorem Fu.strings_Builder_Grow : Tryz.prog.funcs[F.strings_Builder_Grow]? = some Fn.strings_Builder_Grow := Tryz.func223
abbrev F.code_Reader_Count : FuncId := 224
noncomputable abbrev Fn.code_Reader_Count : Func := Tryz.f224
theorem Fu.code_Reader_Count : Tryz.prog.funcs[F.code_Reader_Count]? = some Fn.code_Reader_Count := Tryz.func224
abbrev F.code_Reader_Text : FuncId := 225
noncomputable abbrev Fn.code_Reader_Text : Func := Tryz.f225
theorem Fu.code_Reader_Text : Tryz.prog.funcs[F.code_Reader_Text]? = some Fn.code_Reader_Text := Tryz.func225
abbrev F.internal_stringslite_HasPrefix : FuncId := 226
noncomputable abbrev Fn.internal_stringslite_HasPrefix : Func := Tryz.f226
theorem Fu.internal_stringslite_HasPrefix : Tryz.prog.funcs[F.internal_stringslite_HasPrefix]? = some Fn.internal_stringslite_HasPrefix := Tryz.func226
abbrev F.slices_overlaps_Entry : FuncId := 227
noncomputable abbrev Fn.slices_overlaps_Entry : Func := Tryz.f227
theorem Fu.slices_overlaps_Entry : Tryz.prog.funcs[F.slices_overlaps_Entry]? = some Fn.slices_overlaps_Entry := Tryz.func227
abbrev F.slices_rotateRight_Entry : FuncId := 228
noncomputable abbrev Fn.slices_rotateRight_Entry : Func := Tryz.f228
theorem Fu.slices_rotateRight_Entry : Tryz.prog.funcs[F.slices_rotateRight_Entry]? = some Fn.slices_rotateRight_Entry := Tryz.func228
abbrev F.slices_DeleteFunc_gen : FuncId := 232
noncomputable abbrev Fn.slices_DeleteFunc_gen : Func := Tryz.f232
theorem Fu.slices_DeleteFunc_gen : Tryz.prog.funcs[F.slices_DeleteFunc_gen]? = some Fn.slices_DeleteFunc_gen := Tryz.func232
abbrev F.code_Text : FuncId := 239
noncomputable abbrev Fn.code_Text : Func := Tryz.f239
theorem Fu.code_Text : Tryz.prog.funcs[F.code_Text]? = some Fn.code_Text := Tryz.func239
abbrev F.wal_Log_closed : FuncId := 240
noncomputable abbrev Fn.wal_Log_closed : Func := Tryz.f240
theorem Fu.wal_Log_closed : Tryz.prog.funcs[F.wal_Log_closed]? = some Fn.wal_Log_closed := Tryz.func240
abbrev F.errors_Is : FuncId := 241
noncomputable abbrev Fn.errors_Is : Func := Tryz.f241
theorem Fu.errors_Is : Tryz.prog.funcs[F.errors_Is]? = some Fn.errors_Is := Tryz.func241
abbrev F.store_Store_Records : FuncId := 242
noncomputable abbrev Fn.store_Store_Records : Func := Tryz.f242
theorem Fu.store_Store_Records : Tryz.prog.funcs[F.store_Store_Records]? = some Fn.store_Store_Records := Tryz.func242
abbrev F.internal_abi_NoEscape : FuncId := 259
noncomputable abbrev Fn.internal_abi_NoEscape : Func := Tryz.f259
theorem Fu.internal_abi_NoEscape : Tryz.prog.funcs[F.internal_abi_NoEscape]? = some Fn.internal_abi_NoEscape := Tryz.func259
abbrev F.internal_bytealg_CompareString : FuncId := 260
noncomputable abbrev Fn.internal_bytealg_CompareString : Func := Tryz.f260
theorem Fu.internal_bytealg_CompareString : Tryz.prog.funcs[F.internal_bytealg_CompareString]? = some Fn.internal_bytealg_CompareString := Tryz.func260
abbrev F.slices_overlaps : FuncId := 262
noncomputable abbrev Fn.slices_overlaps : Func := Tryz.f262
theorem Fu.slices_overlaps : Tryz.prog.funcs[F.slices_overlaps]? = some Fn.slices_overlaps := Tryz.func262
abbrev F.slices_rotateRight : FuncId := 263
noncomputable abbrev Fn.slices_rotateRight : Func := Tryz.f263
theorem Fu.slices_rotateRight : Tryz.prog.funcs[F.slices_rotateRight]? = some Fn.slices_rotateRight := Tryz.func263
abbrev F.wal_four : FuncId := 264
noncomputable abbrev Fn.wal_four : Func := Tryz.f264
theorem Fu.wal_four : Tryz.prog.funcs[F.wal_four]? = some Fn.wal_four := Tryz.func264
abbrev F.disk_Disk_used : FuncId := 269
noncomputable abbrev Fn.disk_Disk_used : Func := Tryz.f269
theorem Fu.disk_Disk_used : Tryz.prog.funcs[F.disk_Disk_used]? = some Fn.disk_Disk_used := Tryz.func269
abbrev F.math_bits_Mul64 : FuncId := 271
noncomputable abbrev Fn.math_bits_Mul64 : Func := Tryz.f271
theorem Fu.math_bits_Mul64 : Tryz.prog.funcs[F.math_bits_Mul64]? = some Fn.math_bits_Mul64 := Tryz.func271
abbrev F.strings_Builder_grow : FuncId := 272
noncomputable abbrev Fn.strings_Builder_grow : Func := Tryz.f272
theorem Fu.strings_Builder_grow : Tryz.prog.funcs[F.strings_Builder_grow]? = some Fn.strings_Builder_grow := Tryz.func272
abbrev F.slices_Insert_gen : FuncId := 276
noncomputable abbrev Fn.slices_Insert_gen : Func := Tryz.f276
theorem Fu.slices_Insert_gen : Tryz.prog.funcs[F.slices_Insert_gen]? = some Fn.slices_Insert_gen := Tryz.func276
abbrev F.slices_IndexFunc_gen : FuncId := 277
noncomputable abbrev Fn.slices_IndexFunc_gen : Func := Tryz.f277
theorem Fu.slices_IndexFunc_gen : Tryz.prog.funcs[F.slices_IndexFunc_gen]? = some Fn.slices_IndexFunc_gen := Tryz.func277
abbrev F.internal_bytealg_abigen_runtime_cmpstring : FuncId := 287
noncomputable abbrev Fn.internal_bytealg_abigen_runtime_cmpstring : Func := Tryz.f287
theorem Fu.internal_bytealg_abigen_runtime_cmpstring : Tryz.prog.funcs[F.internal_bytealg_abigen_runtime_cmpstring]? = some Fn.internal_bytealg_abigen_runtime_cmpstring := Tryz.func287
abbrev F.internal_bytealg_MakeNoZero : FuncId := 292
noncomputable abbrev Fn.internal_bytealg_MakeNoZero : Func := Tryz.f292
theorem Fu.internal_bytealg_MakeNoZero : Tryz.prog.funcs[F.internal_bytealg_MakeNoZero]? = some Fn.internal_bytealg_MakeNoZero := Tryz.func292
abbrev F.slices_overlaps_gen : FuncId := 294
noncomputable abbrev Fn.slices_overlaps_gen : Func := Tryz.f294
theorem Fu.slices_overlaps_gen : Tryz.prog.funcs[F.slices_overlaps_gen]? = some Fn.slices_overlaps_gen := Tryz.func294
abbrev F.slices_rotateRight_gen : FuncId := 295
noncomputable abbrev Fn.slices_rotateRight_gen : Func := Tryz.f295
theorem Fu.slices_rotateRight_gen : Tryz.prog.funcs[F.slices_rotateRight_gen]? = some Fn.slices_rotateRight_gen := Tryz.func295
theorem S.hm : Tryz.prog.follows .mixedOrders = true := by kernel_rfl
end Go.X
