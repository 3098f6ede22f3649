import Derived.Test.YtkaiiopoilpjeaaGreatMC
import Derived.KernelRfl
import Derived.Test.YtkaiiopoilpjeaaGreatProg
set_option maxRecDepth 100000
set_option maxHeartbeats 4000000
namespace Go.Proofs.YtkaiiopoilpjeaaGreat
open Go.AI
abbrev n_law27_CrashSnap : Nat := 6
abbrev n_law05_Heavy : Nat := 14
abbrev n_snap_Create : Nat := 16
abbrev n_snap_Delete : Nat := 17
abbrev n_snap_Rollback : Nat := 18
abbrev n_keep_Bytes : Nat := 26
abbrev n_crash_After : Nat := 29
abbrev n_crash_States : Nat := 30
abbrev n_crash_Commits : Nat := 31
abbrev n_keep_View : Nat := 33
abbrev n_law27_wakes : Nat := 34
abbrev n_dev_Apply : Nat := 39
abbrev n_view_Of : Nat := 40
abbrev n_fsck_Sound : Nat := 42
abbrev n_keep_Snaps : Nat := 43
abbrev n_keep_Rows : Nat := 44
abbrev n_law27_holds : Nat := 45
abbrev n_open_New : Nat := 46
abbrev n_open_Find : Nat := 51
abbrev n_dev_Crash : Nat := 52
abbrev n_open_Look : Nat := 53
abbrev n_snap_create : Nat := 54
abbrev n_snap_Makes : Nat := 55
abbrev n_snap_find : Nat := 56
abbrev n_snap_pending : Nat := 57
abbrev n_commit_Steps : Nat := 58
abbrev n_dev_Steps : Nat := 65
abbrev n_dev_Flushes : Nat := 66
abbrev n_slices_Clone___byte_byte_ : Nat := 70
abbrev n_dev_Of : Nat := 71
abbrev n_view_sectors : Nat := 72
abbrev n_alloc_free : Nat := 74
abbrev n_fsck_Check : Nat := 75
abbrev n_keep_Snap : Nat := 76
abbrev n_super_Bytes : Nat := 77
abbrev n_slices_IndexFunc___api_Record_api_Record_ : Nat := 85
abbrev n_open_Find_1 : Nat := 86
abbrev n_dev_Check : Nat := 87
abbrev n_super_Pick : Nat := 88
abbrev n_open_follow : Nat := 89
abbrev n_tree_Go : Nat := 90
abbrev n_open_beyond : Nat := 91
abbrev n___open_Image__clash : Nat := 92
abbrev n_ids_Check : Nat := 93
abbrev n_slices_ContainsFunc___api_Record_api_Record_ : Nat := 94
abbrev n_snap_create_1 : Nat := 95
abbrev n_commit_Records : Nat := 96
abbrev n_head_Free : Nat := 97
abbrev n_commit_ready : Nat := 98
abbrev n_slices_ContainsFunc___api_Io_api_Io_ : Nat := 99
abbrev n_commit_Steps_1 : Nat := 100
abbrev n_commit_write : Nat := 101
abbrev n_dev_Steps_1 : Nat := 109
abbrev n_dev_right : Nat := 110
abbrev n_walk_Of : Nat := 112
abbrev n_super_Check : Nat := 113
abbrev n_super_Make : Nat := 114
abbrev n_super_layout : Nat := 115
abbrev n_super_Parse : Nat := 123
abbrev n_slices_Contains___int_int_ : Nat := 124
abbrev n_record_Parse : Nat := 125
abbrev n___open_chain__may : Nat := 126
abbrev n___tree_Walk__goes : Nat := 127
abbrev n_slices_ContainsFunc___int_int_ : Nat := 128
abbrev n_tree_Go_1 : Nat := 129
abbrev n_open_beyond_1 : Nat := 130
abbrev n_commit_may : Nat := 131
abbrev n_slices_Clone___api_Record_api_Record_ : Nat := 132
abbrev n_slices_Reverse___api_Record_api_Record_ : Nat := 133
abbrev n_record_Bytes : Nat := 134
abbrev n_slices_Clone___int_int_ : Nat := 135
abbrev n_alloc_Free : Nat := 136
abbrev n_slices_IndexFunc___api_Io_api_Io_ : Nat := 137
abbrev n_node_Parse : Nat := 148
abbrev n_super_in : Nat := 149
abbrev n_le_Set : Nat := 150
abbrev n_crc_Seal : Nat := 151
abbrev n_super_Read : Nat := 156
abbrev n_slices_Index___int_int_ : Nat := 157
abbrev n_record_layout : Nat := 158
abbrev n_record_Check : Nat := 159
abbrev n___open_chain__may_1 : Nat := 160
abbrev n_tree_At : Nat := 161
abbrev n_node_Under : Nat := 162
abbrev n_slices_IndexFunc___int_int_ : Nat := 163
abbrev n_commit_may_1 : Nat := 164
abbrev n_slices_Concat___int_int_ : Nat := 165
abbrev n_commit_may_2 : Nat := 166
abbrev n_commit_place : Nat := 167
abbrev n_alloc_right : Nat := 168
abbrev n_node_layout : Nat := 177
abbrev n_node_Check : Nat := 178
abbrev n_crc_Sum : Nat := 179
abbrev n_crc_Good : Nat := 184
abbrev n_le_Get : Nat := 185
abbrev n_le_Zeros : Nat := 186
abbrev n_node_Pointer : Nat := 187
abbrev n_record_Parents : Nat := 188
abbrev n_record_in : Nat := 189
abbrev n_slices_Grow___int_int_ : Nat := 190
abbrev n_alloc_right_1 : Nat := 191
abbrev n_crc_More : Nat := 196
abbrev n_le_right : Nat := 202
abbrev n_le_within : Nat := 203
def x_law27_CrashSnap : Laying Tryz.prog [] Tryz.f6 := layIt
def law27_CrashSnap : SFun := x_law27_CrashSnap.1
def x_law05_Heavy : Laying Tryz.prog [] Tryz.f14 := layIt
def law05_Heavy : SFun := x_law05_Heavy.1
def x_snap_Create : Laying Tryz.prog [(6, 14, ⟨0, .pure, false⟩)] Tryz.f16 := layIt
def snap_Create : SFun := x_snap_Create.1
def x_snap_Delete : Laying Tryz.prog [(7, 8, ⟨0, .pure, false⟩)] Tryz.f17 := layIt
def snap_Delete : SFun := x_snap_Delete.1
def x_snap_Rollback : Laying Tryz.prog [(7, 8, ⟨0, .pure, false⟩)] Tryz.f18 := layIt
def snap_Rollback : SFun := x_snap_Rollback.1
def x_keep_Bytes : Laying Tryz.prog [] Tryz.f26 := layIt
def keep_Bytes : SFun := x_keep_Bytes.1
def y_keep_Bytes_l0 : Lp keep_Bytes.code 0 := lpIt
def keep_Bytes_l0 : SCode := y_keep_Bytes_l0.1
def x_crash_After : Laying Tryz.prog [(0, 0, ⟨0, .pure, false⟩)] Tryz.f29 := layIt
def crash_After : SFun := x_crash_After.1
def x_crash_States : Laying Tryz.prog [(0, 0, ⟨0, .pure, true⟩), (3, 1, ⟨1, .pure, true⟩), (4, 5, ⟨2, .pure, false⟩), (6, 1, ⟨3, .pure, true⟩), (7, 1, ⟨4, .pure, false⟩), (17, 1, ⟨5, .pure, true⟩), (18, 2, ⟨6, .pure, false⟩), (18, 3, ⟨7, .pure, false⟩)] Tryz.f30 := layIt
def crash_States : SFun := x_crash_States.1
def y_crash_States_l0 : Lp crash_States.code 0 := lpIt
def crash_States_l0 : SCode := y_crash_States_l0.1
def x_crash_Commits : Laying Tryz.prog [] Tryz.f31 := layIt
def crash_Commits : SFun := x_crash_Commits.1
def x_keep_View : Laying Tryz.prog [(0, 0, ⟨0, .pure, false⟩), (0, 1, ⟨1, .pure, false⟩)] Tryz.f33 := layIt
def keep_View : SFun := x_keep_View.1
def x_law27_wakes : Laying Tryz.prog [(3, 8, ⟨0, .pure, false⟩), (4, 6, ⟨1, .pure, false⟩)] Tryz.f34 := layIt
def law27_wakes : SFun := x_law27_wakes.1
def x_dev_Apply : Laying Tryz.prog [(4, 1, ⟨0, (.fresh 0), false⟩), (7, 2, ⟨1, .pure, false⟩), (9, 3, ⟨0, (.peek 2), false⟩)] Tryz.f39 := layIt
def dev_Apply : SFun := x_dev_Apply.1
def y_dev_Apply_l0 : Lp dev_Apply.code 0 := lpIt
def dev_Apply_l0 : SCode := y_dev_Apply_l0.1
def x_view_Of : Laying Tryz.prog [(0, 0, ⟨0, .pure, false⟩), (4, 18, ⟨1, .pure, false⟩), (7, 3, ⟨2, .pure, false⟩), (8, 24, ⟨3, .pure, false⟩), (10, 3, ⟨4, .pure, false⟩), (10, 4, ⟨5, .pure, false⟩), (11, 3, ⟨6, .pure, false⟩), (11, 4, ⟨7, .pure, false⟩)] Tryz.f40 := layIt
def view_Of : SFun := x_view_Of.1
def y_view_Of_l0 : Lp view_Of.code 0 := lpIt
def view_Of_l0 : SCode := y_view_Of_l0.1
def x_fsck_Sound : Laying Tryz.prog [] Tryz.f42 := layIt
def fsck_Sound : SFun := x_fsck_Sound.1
def x_keep_Snaps : Laying Tryz.prog [] Tryz.f43 := layIt
def keep_Snaps : SFun := x_keep_Snaps.1
def y_keep_Snaps_l0 : Lp keep_Snaps.code 0 := lpIt
def keep_Snaps_l0 : SCode := y_keep_Snaps_l0.1
def x_keep_Rows : Laying Tryz.prog [] Tryz.f44 := layIt
def keep_Rows : SFun := x_keep_Rows.1
def y_keep_Rows_l0 : Lp keep_Rows.code 0 := lpIt
def keep_Rows_l0 : SCode := y_keep_Rows_l0.1
def x_law27_holds : Laying Tryz.prog [(2, 8, ⟨0, .pure, false⟩)] Tryz.f45 := layIt
def law27_holds : SFun := x_law27_holds.1
def x_open_New : Laying Tryz.prog [(3, 2, ⟨0, .pure, false⟩)] Tryz.f46 := layIt
def open_New : SFun := x_open_New.1
def x_open_Find : Laying Tryz.prog [(0, 0, ⟨0, .pure, false⟩), (0, 1, ⟨1, .pure, false⟩)] Tryz.f51 := layIt
def open_Find : SFun := x_open_Find.1
def x_dev_Crash : Laying Tryz.prog [(10, 1, ⟨0, (.fresh 0), false⟩), (13, 3, ⟨1, .pure, false⟩), (20, 3, ⟨0, (.peek 2), false⟩)] Tryz.f52 := layIt
def dev_Crash : SFun := x_dev_Crash.1
def y_dev_Crash_l0 : Lp dev_Crash.code 0 := lpIt
def dev_Crash_l0 : SCode := y_dev_Crash_l0.1
def x_open_Look : Laying Tryz.prog [(4, 1, ⟨0, .pure, false⟩), (12, 6, ⟨1, .pure, false⟩), (12, 13, ⟨2, .pure, false⟩), (15, 2, ⟨3, .pure, false⟩), (16, 3, ⟨4, .pure, false⟩), (16, 4, ⟨5, .pure, false⟩), (16, 8, ⟨6, .pure, false⟩), (16, 9, ⟨7, .pure, false⟩), (24, 6, ⟨8, .pure, false⟩), (24, 7, ⟨9, .pure, false⟩)] Tryz.f53 := layIt
def open_Look : SFun := x_open_Look.1
def y_open_Look_l0 : Lp open_Look.code 0 := lpIt
def open_Look_l0 : SCode := y_open_Look_l0.1
def y_open_Look_l1 : Lp open_Look.code 1 := lpIt
def open_Look_l1 : SCode := y_open_Look_l1.1
def x_snap_create : Laying Tryz.prog [(0, 0, ⟨0, .pure, false⟩), (0, 1, ⟨1, .pure, false⟩), (1, 5, ⟨2, .pure, false⟩)] Tryz.f54 := layIt
def snap_create : SFun := x_snap_create.1
def x_snap_Makes : Laying Tryz.prog [(0, 0, ⟨0, .pure, false⟩), (1, 5, ⟨1, .pure, false⟩)] Tryz.f55 := layIt
def snap_Makes : SFun := x_snap_Makes.1
def x_snap_find : Laying Tryz.prog [(0, 0, ⟨0, .pure, false⟩)] Tryz.f56 := layIt
def snap_find : SFun := x_snap_find.1
def x_snap_pending : Laying Tryz.prog [(0, 0, ⟨0, .pure, false⟩), (0, 1, ⟨1, .pure, false⟩)] Tryz.f57 := layIt
def snap_pending : SFun := x_snap_pending.1
def x_commit_Steps : Laying Tryz.prog [(0, 0, ⟨0, .pure, false⟩), (0, 1, ⟨1, .pure, true⟩), (2, 0, ⟨2, .pure, true⟩), (3, 11, ⟨3, .pure, false⟩), (6, 0, ⟨4, .pure, true⟩), (7, 0, ⟨5, .pure, true⟩), (10, 2, ⟨6, .pure, false⟩), (11, 7, ⟨7, .pure, false⟩), (11, 8, ⟨8, .pure, false⟩), (13, 1, ⟨9, .pure, false⟩), (14, 8, ⟨10, .pure, false⟩), (14, 9, ⟨11, .pure, false⟩)] Tryz.f58 := layIt
def commit_Steps : SFun := x_commit_Steps.1
def y_commit_Steps_l0 : Lp commit_Steps.code 0 := lpIt
def commit_Steps_l0 : SCode := y_commit_Steps_l0.1
def x_dev_Steps : Laying Tryz.prog [(1, 5, ⟨0, .pure, false⟩)] Tryz.f65 := layIt
def dev_Steps : SFun := x_dev_Steps.1
def x_dev_Flushes : Laying Tryz.prog [(0, 0, ⟨0, .pure, true⟩), (1, 0, ⟨1, .pure, true⟩), (4, 3, ⟨2, .pure, false⟩), (6, 2, ⟨3, .pure, false⟩), (6, 3, ⟨4, .pure, false⟩)] Tryz.f66 := layIt
def dev_Flushes : SFun := x_dev_Flushes.1
def y_dev_Flushes_l0 : Lp dev_Flushes.code 0 := lpIt
def dev_Flushes_l0 : SCode := y_dev_Flushes_l0.1
def x_slices_Clone___byte_byte_ : Laying Tryz.prog [(0, 0, ⟨0, .pure, true⟩), (2, 0, ⟨1, .pure, true⟩), (3, 2, ⟨2, .pure, false⟩)] Tryz.f70 := layIt
def slices_Clone___byte_byte_ : SFun := x_slices_Clone___byte_byte_.1
def x_dev_Of : Laying Tryz.prog [] Tryz.f71 := layIt
def dev_Of : SFun := x_dev_Of.1
def x_view_sectors : Laying Tryz.prog [(0, 0, ⟨0, .pure, true⟩), (1, 0, ⟨1, .pure, true⟩), (5, 0, ⟨2, .pure, false⟩), (7, 3, ⟨0, (.inl 3), false⟩), (8, 2, ⟨3, .pure, false⟩), (8, 3, ⟨4, .pure, false⟩)] Tryz.f72 := layIt
def view_sectors : SFun := x_view_sectors.1
def y_view_sectors_l0 : Lp view_sectors.code 0 := lpIt
def view_sectors_l0 : SCode := y_view_sectors_l0.1
def x_alloc_free : Laying Tryz.prog [(0, 0, ⟨0, .pure, true⟩), (1, 0, ⟨1, .pure, true⟩), (6, 2, ⟨2, .pure, false⟩), (6, 3, ⟨3, .pure, false⟩)] Tryz.f74 := layIt
def alloc_free : SFun := x_alloc_free.1
def x_fsck_Check : Laying Tryz.prog [(4, 3, ⟨0, .pure, false⟩)] Tryz.f75 := layIt
def fsck_Check : SFun := x_fsck_Check.1
def x_keep_Snap : Laying Tryz.prog [(0, 0, ⟨0, .pure, false⟩), (0, 1, ⟨1, .pure, false⟩)] Tryz.f76 := layIt
def keep_Snap : SFun := x_keep_Snap.1
def x_super_Bytes : Laying Tryz.prog [(0, 0, ⟨0, .pure, false⟩), (4, 11, ⟨1, .pure, false⟩)] Tryz.f77 := layIt
def super_Bytes : SFun := x_super_Bytes.1
def x_slices_IndexFunc___api_Record_api_Record_ : Laying Tryz.prog [] Tryz.f85 := layIt
def slices_IndexFunc___api_Record_api_Record_ : SFun := x_slices_IndexFunc___api_Record_api_Record_.1
def x_open_Find_1 : Laying Tryz.prog [(0, 0, ⟨0, .pure, false⟩)] Tryz.f86 := layIt
def open_Find_1 : SFun := x_open_Find_1.1
def x_dev_Check : Laying Tryz.prog [] Tryz.f87 := layIt
def dev_Check : SFun := x_dev_Check.1
def x_super_Pick : Laying Tryz.prog [(0, 0, ⟨0, .pure, false⟩), (8, 2, ⟨0, (.inl 1), false⟩), (8, 7, ⟨1, .pure, false⟩)] Tryz.f88 := layIt
def super_Pick : SFun := x_super_Pick.1
def x_open_follow : Laying Tryz.prog [(2, 1, ⟨0, .pure, false⟩), (8, 2, ⟨0, (.inl 1), false⟩), (8, 7, ⟨1, .pure, false⟩), (13, 8, ⟨2, .pure, false⟩), (13, 9, ⟨3, .pure, false⟩), (13, 15, ⟨4, .pure, false⟩), (13, 16, ⟨5, .pure, false⟩)] Tryz.f89 := layIt
def open_follow : SFun := x_open_follow.1
def y_open_follow_l0 : Lp open_follow.code 0 := lpIt
def open_follow_l0 : SCode := y_open_follow_l0.1
def x_tree_Go : Laying Tryz.prog [(2, 2, ⟨0, .pure, false⟩), (2, 4, ⟨1, .pure, false⟩), (2, 5, ⟨2, .pure, false⟩), (5, 2, ⟨0, (.inl 3), false⟩)] Tryz.f90 := layIt
def tree_Go : SFun := x_tree_Go.1
def x_open_beyond : Laying Tryz.prog [] Tryz.f91 := layIt
def open_beyond : SFun := x_open_beyond.1
def x___open_Image__clash : Laying Tryz.prog [(1, 1, ⟨0, .pure, false⟩), (1, 3, ⟨1, .pure, false⟩), (1, 5, ⟨2, .pure, false⟩), (1, 7, ⟨3, .pure, false⟩)] Tryz.f92 := layIt
def __open_Image__clash : SFun := x___open_Image__clash.1
def y___open_Image__clash_l0 : Lp __open_Image__clash.code 0 := lpIt
def __open_Image__clash_l0 : SCode := y___open_Image__clash_l0.1
def y___open_Image__clash_l1 : Lp __open_Image__clash.code 1 := lpIt
def __open_Image__clash_l1 : SCode := y___open_Image__clash_l1.1
def y___open_Image__clash_l2 : Lp __open_Image__clash.code 2 := lpIt
def __open_Image__clash_l2 : SCode := y___open_Image__clash_l2.1
def y___open_Image__clash_l3 : Lp __open_Image__clash.code 3 := lpIt
def __open_Image__clash_l3 : SCode := y___open_Image__clash_l3.1
def y___open_Image__clash_l4 : Lp __open_Image__clash.code 4 := lpIt
def __open_Image__clash_l4 : SCode := y___open_Image__clash_l4.1
def x_ids_Check : Laying Tryz.prog [] Tryz.f93 := layIt
def ids_Check : SFun := x_ids_Check.1
def x_slices_ContainsFunc___api_Record_api_Record_ : Laying Tryz.prog [] Tryz.f94 := layIt
def slices_ContainsFunc___api_Record_api_Record_ : SFun := x_slices_ContainsFunc___api_Record_api_Record_.1
def x_snap_create_1 : Laying Tryz.prog [(0, 0, ⟨0, .pure, false⟩)] Tryz.f95 := layIt
def snap_create_1 : SFun := x_snap_create_1.1
def x_commit_Records : Laying Tryz.prog [(0, 0, ⟨0, .pure, false⟩), (0, 1, ⟨1, .pure, true⟩), (0, 3, ⟨2, .pure, true⟩), (2, 0, ⟨3, .pure, true⟩), (2, 2, ⟨4, .pure, true⟩), (3, 5, ⟨0, (.fresh 5), false⟩), (4, 1, ⟨0, (.inl 6), false⟩), (6, 2, ⟨6, .pure, false⟩), (6, 3, ⟨7, .pure, false⟩), (8, 0, ⟨8, .pure, true⟩), (8, 2, ⟨9, .pure, true⟩), (13, 3, ⟨10, .pure, false⟩), (17, 4, ⟨11, .pure, false⟩), (17, 5, ⟨12, .pure, false⟩)] Tryz.f96 := layIt
def commit_Records : SFun := x_commit_Records.1
def y_commit_Records_l0 : Lp commit_Records.code 0 := lpIt
def commit_Records_l0 : SCode := y_commit_Records_l0.1
def x_head_Free : Laying Tryz.prog [] Tryz.f97 := layIt
def head_Free : SFun := x_head_Free.1
def x_commit_ready : Laying Tryz.prog [(0, 0, ⟨0, .pure, false⟩)] Tryz.f98 := layIt
def commit_ready : SFun := x_commit_ready.1
def x_slices_ContainsFunc___api_Io_api_Io_ : Laying Tryz.prog [] Tryz.f99 := layIt
def slices_ContainsFunc___api_Io_api_Io_ : SFun := x_slices_ContainsFunc___api_Io_api_Io_.1
def x_commit_Steps_1 : Laying Tryz.prog [(0, 0, ⟨0, .pure, false⟩)] Tryz.f100 := layIt
def commit_Steps_1 : SFun := x_commit_Steps_1.1
def x_commit_write : Laying Tryz.prog [(0, 0, ⟨0, .pure, false⟩)] Tryz.f101 := layIt
def commit_write : SFun := x_commit_write.1
def x_dev_Steps_1 : Laying Tryz.prog [(0, 0, ⟨0, .pure, false⟩)] Tryz.f109 := layIt
def dev_Steps_1 : SFun := x_dev_Steps_1.1
def x_dev_right : Laying Tryz.prog [(0, 0, ⟨0, .pure, false⟩)] Tryz.f110 := layIt
def dev_right : SFun := x_dev_right.1
def x_walk_Of : Laying Tryz.prog [(0, 0, ⟨0, .pure, true⟩), (2, 1, ⟨1, .pure, false⟩), (13, 6, ⟨2, .pure, false⟩), (16, 2, ⟨3, .pure, false⟩), (17, 3, ⟨4, .pure, false⟩), (17, 4, ⟨5, .pure, false⟩), (19, 1, ⟨6, .pure, false⟩), (30, 2, ⟨0, (.inl 7), false⟩), (30, 7, ⟨7, .pure, false⟩)] Tryz.f112 := layIt
def walk_Of : SFun := x_walk_Of.1
def y_walk_Of_l0 : Lp walk_Of.code 0 := lpIt
def walk_Of_l0 : SCode := y_walk_Of_l0.1
def y_walk_Of_l1 : Lp walk_Of.code 1 := lpIt
def walk_Of_l1 : SCode := y_walk_Of_l1.1
def y_walk_Of_l2 : Lp walk_Of.code 2 := lpIt
def walk_Of_l2 : SCode := y_walk_Of_l2.1
def y_walk_Of_l3 : Lp walk_Of.code 3 := lpIt
def walk_Of_l3 : SCode := y_walk_Of_l3.1
def y_walk_Of_l4 : Lp walk_Of.code 4 := lpIt
def walk_Of_l4 : SCode := y_walk_Of_l4.1
def y_walk_Of_l5 : Lp walk_Of.code 5 := lpIt
def walk_Of_l5 : SCode := y_walk_Of_l5.1
def x_super_Check : Laying Tryz.prog [(0, 0, ⟨0, .pure, false⟩)] Tryz.f113 := layIt
def super_Check : SFun := x_super_Check.1
def x_super_Make : Laying Tryz.prog [(1, 0, ⟨0, .pure, false⟩), (5, 3, ⟨1, .pure, false⟩), (6, 9, ⟨0, (.inl 2), false⟩), (8, 1, ⟨0, (.inl 2), false⟩)] Tryz.f114 := layIt
def super_Make : SFun := x_super_Make.1
def x_super_layout : Laying Tryz.prog [(1, 0, ⟨0, .pure, false⟩)] Tryz.f115 := layIt
def super_layout : SFun := x_super_layout.1
def x_super_Parse : Laying Tryz.prog [(0, 0, ⟨0, .pure, false⟩), (4, 16, ⟨1, .pure, false⟩)] Tryz.f123 := layIt
def super_Parse : SFun := x_super_Parse.1
def x_slices_Contains___int_int_ : Laying Tryz.prog [] Tryz.f124 := layIt
def slices_Contains___int_int_ : SFun := x_slices_Contains___int_int_.1
def x_record_Parse : Laying Tryz.prog [(0, 0, ⟨0, .pure, false⟩), (4, 25, ⟨1, .pure, false⟩)] Tryz.f125 := layIt
def record_Parse : SFun := x_record_Parse.1
def x___open_chain__may : Laying Tryz.prog [(0, 0, ⟨0, .pure, false⟩)] Tryz.f126 := layIt
def __open_chain__may : SFun := x___open_chain__may.1
def x___tree_Walk__goes : Laying Tryz.prog [(0, 14, ⟨0, .pure, false⟩), (3, 6, ⟨1, .pure, false⟩), (3, 7, ⟨2, .pure, false⟩), (14, 5, ⟨0, (.inl 3), false⟩)] Tryz.f127 := layIt
def __tree_Walk__goes : SFun := x___tree_Walk__goes.1
def x_slices_ContainsFunc___int_int_ : Laying Tryz.prog [] Tryz.f128 := layIt
def slices_ContainsFunc___int_int_ : SFun := x_slices_ContainsFunc___int_int_.1
def x_tree_Go_1 : Laying Tryz.prog [] Tryz.f129 := layIt
def tree_Go_1 : SFun := x_tree_Go_1.1
def x_open_beyond_1 : Laying Tryz.prog [] Tryz.f130 := layIt
def open_beyond_1 : SFun := x_open_beyond_1.1
def x_commit_may : Laying Tryz.prog [(0, 0, ⟨0, .pure, false⟩), (4, 4, ⟨1, .pure, false⟩)] Tryz.f131 := layIt
def commit_may : SFun := x_commit_may.1
def y_commit_may_l0 : Lp commit_may.code 0 := lpIt
def commit_may_l0 : SCode := y_commit_may_l0.1
def x_slices_Clone___api_Record_api_Record_ : Laying Tryz.prog [(0, 0, ⟨0, .pure, true⟩), (2, 0, ⟨1, .pure, true⟩), (3, 2, ⟨2, .pure, false⟩)] Tryz.f132 := layIt
def slices_Clone___api_Record_api_Record_ : SFun := x_slices_Clone___api_Record_api_Record_.1
def x_slices_Reverse___api_Record_api_Record_ : Laying Tryz.prog [] Tryz.f133 := layIt
def slices_Reverse___api_Record_api_Record_ : SFun := x_slices_Reverse___api_Record_api_Record_.1
def x_record_Bytes : Laying Tryz.prog [(0, 0, ⟨0, .pure, false⟩), (4, 17, ⟨1, .pure, false⟩)] Tryz.f134 := layIt
def record_Bytes : SFun := x_record_Bytes.1
def x_slices_Clone___int_int_ : Laying Tryz.prog [(0, 0, ⟨0, .pure, true⟩), (2, 0, ⟨1, .pure, true⟩), (3, 2, ⟨2, .pure, false⟩)] Tryz.f135 := layIt
def slices_Clone___int_int_ : SFun := x_slices_Clone___int_int_.1
def x_alloc_Free : Laying Tryz.prog [] Tryz.f136 := layIt
def alloc_Free : SFun := x_alloc_Free.1
def x_slices_IndexFunc___api_Io_api_Io_ : Laying Tryz.prog [] Tryz.f137 := layIt
def slices_IndexFunc___api_Io_api_Io_ : SFun := x_slices_IndexFunc___api_Io_api_Io_.1
def x_node_Parse : Laying Tryz.prog [(0, 0, ⟨0, .pure, false⟩), (4, 4, ⟨1, .pure, true⟩)] Tryz.f148 := layIt
def node_Parse : SFun := x_node_Parse.1
def x_super_in : Laying Tryz.prog [] Tryz.f149 := layIt
def super_in : SFun := x_super_in.1
def x_le_Set : Laying Tryz.prog [] Tryz.f150 := layIt
def le_Set : SFun := x_le_Set.1
def y_le_Set_l0 : Lp le_Set.code 0 := lpIt
def le_Set_l0 : SCode := y_le_Set_l0.1
def x_crc_Seal : Laying Tryz.prog [(1, 6, ⟨0, (.inl 0), false⟩)] Tryz.f151 := layIt
def crc_Seal : SFun := x_crc_Seal.1
def x_super_Layout : Laying Tryz.prog [(0, 0, ⟨0, .pure, true⟩), (1, 0, ⟨1, .pure, true⟩), (6, 4, ⟨2, .pure, false⟩), (6, 5, ⟨3, .pure, false⟩)] Tryz.f152 := layIt
def super_Layout : SFun := x_super_Layout.1
def x_super_Read : Laying Tryz.prog [(0, 0, ⟨0, .pure, true⟩), (2, 0, ⟨1, .pure, true⟩), (4, 0, ⟨2, .pure, true⟩), (6, 0, ⟨3, .pure, true⟩), (7, 0, ⟨4, .pure, true⟩), (11, 2, ⟨5, .pure, false⟩), (14, 0, ⟨6, .pure, true⟩), (15, 2, ⟨7, .pure, false⟩), (15, 3, ⟨8, .pure, false⟩), (19, 0, ⟨9, .pure, true⟩)] Tryz.f156 := layIt
def super_Read : SFun := x_super_Read.1
def x_slices_Index___int_int_ : Laying Tryz.prog [] Tryz.f157 := layIt
def slices_Index___int_int_ : SFun := x_slices_Index___int_int_.1
def x_record_layout : Laying Tryz.prog [(1, 0, ⟨0, .pure, false⟩)] Tryz.f158 := layIt
def record_layout : SFun := x_record_layout.1
def x_record_Check : Laying Tryz.prog [(0, 0, ⟨0, .pure, false⟩)] Tryz.f159 := layIt
def record_Check : SFun := x_record_Check.1
def x___open_chain__may_1 : Laying Tryz.prog [(0, 0, ⟨0, .pure, false⟩)] Tryz.f160 := layIt
def __open_chain__may_1 : SFun := x___open_chain__may_1.1
def x_tree_At : Laying Tryz.prog [(0, 0, ⟨0, .pure, false⟩), (3, 2, ⟨0, (.inl 1), false⟩), (3, 7, ⟨1, .pure, false⟩)] Tryz.f161 := layIt
def tree_At : SFun := x_tree_At.1
def x_node_Under : Laying Tryz.prog [] Tryz.f162 := layIt
def node_Under : SFun := x_node_Under.1
def x_slices_IndexFunc___int_int_ : Laying Tryz.prog [] Tryz.f163 := layIt
def slices_IndexFunc___int_int_ : SFun := x_slices_IndexFunc___int_int_.1
def x_commit_may_1 : Laying Tryz.prog [(0, 0, ⟨0, .pure, false⟩)] Tryz.f164 := layIt
def commit_may_1 : SFun := x_commit_may_1.1
def x_slices_Concat___int_int_ : Laying Tryz.prog [(0, 0, ⟨0, .pure, true⟩), (9, 1, ⟨0, (.inl 1), false⟩), (13, 2, ⟨3, .pure, false⟩)] Tryz.f165 := layIt
def slices_Concat___int_int_ : SFun := x_slices_Concat___int_int_.1
def x_commit_may_2 : Laying Tryz.prog [] Tryz.f166 := layIt
def commit_may_2 : SFun := x_commit_may_2.1
def x_commit_place : Laying Tryz.prog [] Tryz.f167 := layIt
def commit_place : SFun := x_commit_place.1
def x_alloc_right : Laying Tryz.prog [] Tryz.f168 := layIt
def alloc_right : SFun := x_alloc_right.1
def x_node_layout : Laying Tryz.prog [(1, 0, ⟨0, .pure, false⟩)] Tryz.f177 := layIt
def node_layout : SFun := x_node_layout.1
def x_node_Check : Laying Tryz.prog [(0, 0, ⟨0, .pure, false⟩)] Tryz.f178 := layIt
def node_Check : SFun := x_node_Check.1
def x_crc_Sum : Laying Tryz.prog [] Tryz.f179 := layIt
def crc_Sum : SFun := x_crc_Sum.1
def x_crc_Good : Laying Tryz.prog [] Tryz.f184 := layIt
def crc_Good : SFun := x_crc_Good.1
def x_le_Get : Laying Tryz.prog [] Tryz.f185 := layIt
def le_Get : SFun := x_le_Get.1
def y_le_Get_l0 : Lp le_Get.code 0 := lpIt
def le_Get_l0 : SCode := y_le_Get_l0.1
def x_le_Zeros : Laying Tryz.prog [] Tryz.f186 := layIt
def le_Zeros : SFun := x_le_Zeros.1
def x_node_Pointer : Laying Tryz.prog [] Tryz.f187 := layIt
def node_Pointer : SFun := x_node_Pointer.1
def x_record_Parents : Laying Tryz.prog [] Tryz.f188 := layIt
def record_Parents : SFun := x_record_Parents.1
def x_record_in : Laying Tryz.prog [] Tryz.f189 := layIt
def record_in : SFun := x_record_in.1
def x_slices_Grow___int_int_ : Laying Tryz.prog [(0, 0, ⟨0, .pure, true⟩), (5, 5, ⟨1, .pure, false⟩)] Tryz.f190 := layIt
def slices_Grow___int_int_ : SFun := x_slices_Grow___int_int_.1
def x_alloc_right_1 : Laying Tryz.prog [] Tryz.f191 := layIt
def alloc_right_1 : SFun := x_alloc_right_1.1
def x_crc_More : Laying Tryz.prog [] Tryz.f196 := layIt
def crc_More : SFun := x_crc_More.1
def y_crc_More_l0 : Lp crc_More.code 0 := lpIt
def crc_More_l0 : SCode := y_crc_More_l0.1
def y_crc_More_l1 : Lp crc_More.code 1 := lpIt
def crc_More_l1 : SCode := y_crc_More_l1.1
def x_le_right : Laying Tryz.prog [] Tryz.f202 := layIt
def le_right : SFun := x_le_right.1
def x_le_within : Laying Tryz.prog [] Tryz.f203 := layIt
def le_within : SFun := x_le_within.1
def tab : List (Nat × SFun) := [(6, law27_CrashSnap), (14, law05_Heavy), (16, snap_Create), (17, snap_Delete), (18, snap_Rollback), (26, keep_Bytes), (29, crash_After), (30, crash_States), (31, crash_Commits), (33, keep_View), (34, law27_wakes), (39, dev_Apply), (40, view_Of), (42, fsck_Sound), (43, keep_Snaps), (44, keep_Rows), (45, law27_holds), (46, open_New), (51, open_Find), (52, dev_Crash), (53, open_Look), (54, snap_create), (55, snap_Makes), (56, snap_find), (57, snap_pending), (58, commit_Steps), (65, dev_Steps), (66, dev_Flushes), (71, dev_Of), (72, view_sectors), (74, alloc_free), (75, fsck_Check), (76, keep_Snap), (77, super_Bytes), (85, slices_IndexFunc___api_Record_api_Record_), (86, open_Find_1), (87, dev_Check), (88, super_Pick), (89, open_follow), (90, tree_Go), (91, open_beyond), (92, __open_Image__clash), (93, ids_Check), (94, slices_ContainsFunc___api_Record_api_Record_), (95, snap_create_1), (96, commit_Records), (97, head_Free), (98, commit_ready), (99, slices_ContainsFunc___api_Io_api_Io_), (100, commit_Steps_1), (101, commit_write), (109, dev_Steps_1), (110, dev_right), (112, walk_Of), (113, super_Check), (114, super_Make), (115, super_layout), (123, super_Parse), (124, slices_Contains___int_int_), (125, record_Parse), (126, __open_chain__may), (127, __tree_Walk__goes), (128, slices_ContainsFunc___int_int_), (129, tree_Go_1), (130, open_beyond_1), (131, commit_may), (133, slices_Reverse___api_Record_api_Record_), (134, record_Bytes), (136, alloc_Free), (137, slices_IndexFunc___api_Io_api_Io_), (148, node_Parse), (149, super_in), (150, le_Set), (151, crc_Seal), (152, super_Layout), (156, super_Read), (157, slices_Index___int_int_), (158, record_layout), (159, record_Check), (160, __open_chain__may_1), (161, tree_At), (162, node_Under), (163, slices_IndexFunc___int_int_), (164, commit_may_1), (165, slices_Concat___int_int_), (166, commit_may_2), (167, commit_place), (168, alloc_right), (177, node_layout), (178, node_Check), (179, crc_Sum), (184, crc_Good), (185, le_Get), (186, le_Zeros), (187, node_Pointer), (188, record_Parents), (189, record_in), (190, slices_Grow___int_int_), (191, alloc_right_1), (196, crc_More), (202, le_right), (203, le_within)]
def B : Prog := Go.AI.look tab
theorem laid : Laid Tryz.prog (Go.AI.look tab) := by
 refine laid_cons ⟨_, _, Tryz.func6, x_law27_CrashSnap.2.1, by decide⟩ ?_
 refine laid_cons ⟨_, _, Tryz.func14, x_law05_Heavy.2.1, by decide⟩ ?_
 refine laid_cons ⟨_, _, Tryz.func16, x_snap_Create.2.1, by decide⟩ ?_
 refine laid_cons ⟨_, _, Tryz.func17, x_snap_Delete.2.1, by decide⟩ ?_
 refine laid_cons ⟨_, _, Tryz.func18, x_snap_Rollback.2.1, by decide⟩ ?_
 refine laid_cons ⟨_, _, Tryz.func26, x_keep_Bytes.2.1, by decide⟩ ?_
 refine laid_cons ⟨_, _, Tryz.func29, x_crash_After.2.1, by decide⟩ ?_
 refine laid_cons ⟨_, _, Tryz.func30, x_crash_States.2.1, by decide⟩ ?_
 refine laid_cons ⟨_, _, Tryz.func31, x_crash_Commits.2.1, by decide⟩ ?_
 refine laid_cons ⟨_, _, Tryz.func33, x_keep_View.2.1, by decide⟩ ?_
 refine laid_cons ⟨_, _, Tryz.func34, x_law27_wakes.2.1, by decide⟩ ?_
 refine laid_cons ⟨_, _, Tryz.func39, x_dev_Apply.2.1, by decide⟩ ?_
 refine laid_cons ⟨_, _, Tryz.func40, x_view_Of.2.1, by decide⟩ ?_
 refine laid_cons ⟨_, _, Tryz.func42, x_fsck_Sound.2.1, by decide⟩ ?_
 refine laid_cons ⟨_, _, Tryz.func43, x_keep_Snaps.2.1, by decide⟩ ?_
 refine laid_cons ⟨_, _, Tryz.func44, x_keep_Rows.2.1, by decide⟩ ?_
 refine laid_cons ⟨_, _, Tryz.func45, x_law27_holds.2.1, by decide⟩ ?_
 refine laid_cons ⟨_, _, Tryz.func46, x_open_New.2.1, by decide⟩ ?_
 refine laid_cons ⟨_, _, Tryz.func51, x_open_Find.2.1, by decide⟩ ?_
 refine laid_cons ⟨_, _, Tryz.func52, x_dev_Crash.2.1, by decide⟩ ?_
 refine laid_cons ⟨_, _, Tryz.func53, x_open_Look.2.1, by decide⟩ ?_
 refine laid_cons ⟨_, _, Tryz.func54, x_snap_create.2.1, by decide⟩ ?_
 refine laid_cons ⟨_, _, Tryz.func55, x_snap_Makes.2.1, by decide⟩ ?_
 refine laid_cons ⟨_, _, Tryz.func56, x_snap_find.2.1, by decide⟩ ?_
 refine laid_cons ⟨_, _, Tryz.func57, x_snap_pending.2.1, by decide⟩ ?_
 refine laid_cons ⟨_, _, Tryz.func58, x_commit_Steps.2.1, by decide⟩ ?_
 refine laid_cons ⟨_, _, Tryz.func65, x_dev_Steps.2.1, by decide⟩ ?_
 refine laid_cons ⟨_, _, Tryz.func66, x_dev_Flushes.2.1, by decide⟩ ?_
 refine laid_cons ⟨_, _, Tryz.func71, x_dev_Of.2.1, by decide⟩ ?_
 refine laid_cons ⟨_, _, Tryz.func72, x_view_sectors.2.1, by decide⟩ ?_
 refine laid_cons ⟨_, _, Tryz.func74, x_alloc_free.2.1, by decide⟩ ?_
 refine laid_cons ⟨_, _, Tryz.func75, x_fsck_Check.2.1, by decide⟩ ?_
 refine laid_cons ⟨_, _, Tryz.func76, x_keep_Snap.2.1, by decide⟩ ?_
 refine laid_cons ⟨_, _, Tryz.func77, x_super_Bytes.2.1, by decide⟩ ?_
 refine laid_cons ⟨_, _, Tryz.func85, x_slices_IndexFunc___api_Record_api_Record_.2.1, by decide⟩ ?_
 refine laid_cons ⟨_, _, Tryz.func86, x_open_Find_1.2.1, by decide⟩ ?_
 refine laid_cons ⟨_, _, Tryz.func87, x_dev_Check.2.1, by decide⟩ ?_
 refine laid_cons ⟨_, _, Tryz.func88, x_super_Pick.2.1, by decide⟩ ?_
 refine laid_cons ⟨_, _, Tryz.func89, x_open_follow.2.1, by decide⟩ ?_
 refine laid_cons ⟨_, _, Tryz.func90, x_tree_Go.2.1, by decide⟩ ?_
 refine laid_cons ⟨_, _, Tryz.func91, x_open_beyond.2.1, by decide⟩ ?_
 refine laid_cons ⟨_, _, Tryz.func92, x___open_Image__clash.2.1, by decide⟩ ?_
 refine laid_cons ⟨_, _, Tryz.func93, x_ids_Check.2.1, by decide⟩ ?_
 refine laid_cons ⟨_, _, Tryz.func94, x_slices_ContainsFunc___api_Record_api_Record_.2.1, by decide⟩ ?_
 refine laid_cons ⟨_, _, Tryz.func95, x_snap_create_1.2.1, by decide⟩ ?_
 refine laid_cons ⟨_, _, Tryz.func96, x_commit_Records.2.1, by decide⟩ ?_
 refine laid_cons ⟨_, _, Tryz.func97, x_head_Free.2.1, by decide⟩ ?_
 refine laid_cons ⟨_, _, Tryz.func98, x_commit_ready.2.1, by decide⟩ ?_
 refine laid_cons ⟨_, _, Tryz.func99, x_slices_ContainsFunc___api_Io_api_Io_.2.1, by decide⟩ ?_
 refine laid_cons ⟨_, _, Tryz.func100, x_commit_Steps_1.2.1, by decide⟩ ?_
 refine laid_cons ⟨_, _, Tryz.func101, x_commit_write.2.1, by decide⟩ ?_
 refine laid_cons ⟨_, _, Tryz.func109, x_dev_Steps_1.2.1, by decide⟩ ?_
 refine laid_cons ⟨_, _, Tryz.func110, x_dev_right.2.1, by decide⟩ ?_
 refine laid_cons ⟨_, _, Tryz.func112, x_walk_Of.2.1, by decide⟩ ?_
 refine laid_cons ⟨_, _, Tryz.func113, x_super_Check.2.1, by decide⟩ ?_
 refine laid_cons ⟨_, _, Tryz.func114, x_super_Make.2.1, by decide⟩ ?_
 refine laid_cons ⟨_, _, Tryz.func115, x_super_layout.2.1, by decide⟩ ?_
 refine laid_cons ⟨_, _, Tryz.func123, x_super_Parse.2.1, by decide⟩ ?_
 refine laid_cons ⟨_, _, Tryz.func124, x_slices_Contains___int_int_.2.1, by decide⟩ ?_
 refine laid_cons ⟨_, _, Tryz.func125, x_record_Parse.2.1, by decide⟩ ?_
 refine laid_cons ⟨_, _, Tryz.func126, x___open_chain__may.2.1, by decide⟩ ?_
 refine laid_cons ⟨_, _, Tryz.func127, x___tree_Walk__goes.2.1, by decide⟩ ?_
 refine laid_cons ⟨_, _, Tryz.func128, x_slices_ContainsFunc___int_int_.2.1, by decide⟩ ?_
 refine laid_cons ⟨_, _, Tryz.func129, x_tree_Go_1.2.1, by decide⟩ ?_
 refine laid_cons ⟨_, _, Tryz.func130, x_open_beyond_1.2.1, by decide⟩ ?_
 refine laid_cons ⟨_, _, Tryz.func131, x_commit_may.2.1, by decide⟩ ?_
 refine laid_cons ⟨_, _, Tryz.func133, x_slices_Reverse___api_Record_api_Record_.2.1, by decide⟩ ?_
 refine laid_cons ⟨_, _, Tryz.func134, x_record_Bytes.2.1, by decide⟩ ?_
 refine laid_cons ⟨_, _, Tryz.func136, x_alloc_Free.2.1, by decide⟩ ?_
 refine laid_cons ⟨_, _, Tryz.func137, x_slices_IndexFunc___api_Io_api_Io_.2.1, by decide⟩ ?_
 refine laid_cons ⟨_, _, Tryz.func148, x_node_Parse.2.1, by decide⟩ ?_
 refine laid_cons ⟨_, _, Tryz.func149, x_super_in.2.1, by decide⟩ ?_
 refine laid_cons ⟨_, _, Tryz.func150, x_le_Set.2.1, by decide⟩ ?_
 refine laid_cons ⟨_, _, Tryz.func151, x_crc_Seal.2.1, by decide⟩ ?_
 refine laid_cons ⟨_, _, Tryz.func152, x_super_Layout.2.1, by decide⟩ ?_
 refine laid_cons ⟨_, _, Tryz.func156, x_super_Read.2.1, by decide⟩ ?_
 refine laid_cons ⟨_, _, Tryz.func157, x_slices_Index___int_int_.2.1, by decide⟩ ?_
 refine laid_cons ⟨_, _, Tryz.func158, x_record_layout.2.1, by decide⟩ ?_
 refine laid_cons ⟨_, _, Tryz.func159, x_record_Check.2.1, by decide⟩ ?_
 refine laid_cons ⟨_, _, Tryz.func160, x___open_chain__may_1.2.1, by decide⟩ ?_
 refine laid_cons ⟨_, _, Tryz.func161, x_tree_At.2.1, by decide⟩ ?_
 refine laid_cons ⟨_, _, Tryz.func162, x_node_Under.2.1, by decide⟩ ?_
 refine laid_cons ⟨_, _, Tryz.func163, x_slices_IndexFunc___int_int_.2.1, by decide⟩ ?_
 refine laid_cons ⟨_, _, Tryz.func164, x_commit_may_1.2.1, by decide⟩ ?_
 refine laid_cons ⟨_, _, Tryz.func165, x_slices_Concat___int_int_.2.1, by decide⟩ ?_
 refine laid_cons ⟨_, _, Tryz.func166, x_commit_may_2.2.1, by decide⟩ ?_
 refine laid_cons ⟨_, _, Tryz.func167, x_commit_place.2.1, by decide⟩ ?_
 refine laid_cons ⟨_, _, Tryz.func168, x_alloc_right.2.1, by decide⟩ ?_
 refine laid_cons ⟨_, _, Tryz.func177, x_node_layout.2.1, by decide⟩ ?_
 refine laid_cons ⟨_, _, Tryz.func178, x_node_Check.2.1, by decide⟩ ?_
 refine laid_cons ⟨_, _, Tryz.func179, x_crc_Sum.2.1, by decide⟩ ?_
 refine laid_cons ⟨_, _, Tryz.func184, x_crc_Good.2.1, by decide⟩ ?_
 refine laid_cons ⟨_, _, Tryz.func185, x_le_Get.2.1, by decide⟩ ?_
 refine laid_cons ⟨_, _, Tryz.func186, x_le_Zeros.2.1, by decide⟩ ?_
 refine laid_cons ⟨_, _, Tryz.func187, x_node_Pointer.2.1, by decide⟩ ?_
 refine laid_cons ⟨_, _, Tryz.func188, x_record_Parents.2.1, by decide⟩ ?_
 refine laid_cons ⟨_, _, Tryz.func189, x_record_in.2.1, by decide⟩ ?_
 refine laid_cons ⟨_, _, Tryz.func190, x_slices_Grow___int_int_.2.1, by decide⟩ ?_
 refine laid_cons ⟨_, _, Tryz.func191, x_alloc_right_1.2.1, by decide⟩ ?_
 refine laid_cons ⟨_, _, Tryz.func196, x_crc_More.2.1, by decide⟩ ?_
 refine laid_cons ⟨_, _, Tryz.func202, x_le_right.2.1, by decide⟩ ?_
 refine laid_cons ⟨_, _, Tryz.func203, x_le_within.2.1, by decide⟩ ?_
 exact laid_nil
theorem B_law27_CrashSnap : B n_law27_CrashSnap = some law27_CrashSnap := rfl
theorem B_law05_Heavy : B n_law05_Heavy = some law05_Heavy := rfl
theorem B_snap_Create : B n_snap_Create = some snap_Create := rfl
theorem B_snap_Delete : B n_snap_Delete = some snap_Delete := rfl
theorem B_snap_Rollback : B n_snap_Rollback = some snap_Rollback := rfl
theorem B_keep_Bytes : B n_keep_Bytes = some keep_Bytes := rfl
theorem B_crash_After : B n_crash_After = some crash_After := rfl
theorem B_crash_States : B n_crash_States = some crash_States := rfl
theorem B_crash_Commits : B n_crash_Commits = some crash_Commits := rfl
theorem B_keep_View : B n_keep_View = some keep_View := rfl
theorem B_law27_wakes : B n_law27_wakes = some law27_wakes := rfl
theorem B_dev_Apply : B n_dev_Apply = some dev_Apply := rfl
theorem B_view_Of : B n_view_Of = some view_Of := rfl
theorem B_fsck_Sound : B n_fsck_Sound = some fsck_Sound := rfl
theorem B_keep_Snaps : B n_keep_Snaps = some keep_Snaps := rfl
theorem B_keep_Rows : B n_keep_Rows = some keep_Rows := rfl
theorem B_law27_holds : B n_law27_holds = some law27_holds := rfl
theorem B_open_New : B n_open_New = some open_New := rfl
theorem B_open_Find : B n_open_Find = some open_Find := rfl
theorem B_dev_Crash : B n_dev_Crash = some dev_Crash := rfl
theorem B_open_Look : B n_open_Look = some open_Look := rfl
theorem B_snap_create : B n_snap_create = some snap_create := rfl
theorem B_snap_Makes : B n_snap_Makes = some snap_Makes := rfl
theorem B_snap_find : B n_snap_find = some snap_find := rfl
theorem B_snap_pending : B n_snap_pending = some snap_pending := rfl
theorem B_commit_Steps : B n_commit_Steps = some commit_Steps := rfl
theorem B_dev_Steps : B n_dev_Steps = some dev_Steps := rfl
theorem B_dev_Flushes : B n_dev_Flushes = some dev_Flushes := rfl
theorem B_dev_Of : B n_dev_Of = some dev_Of := rfl
theorem B_view_sectors : B n_view_sectors = some view_sectors := rfl
theorem B_alloc_free : B n_alloc_free = some alloc_free := rfl
theorem B_fsck_Check : B n_fsck_Check = some fsck_Check := rfl
theorem B_keep_Snap : B n_keep_Snap = some keep_Snap := rfl
theorem B_super_Bytes : B n_super_Bytes = some super_Bytes := rfl
theorem B_slices_IndexFunc___api_Record_api_Record_ : B n_slices_IndexFunc___api_Record_api_Record_ = some slices_IndexFunc___api_Record_api_Record_ := rfl
theorem B_open_Find_1 : B n_open_Find_1 = some open_Find_1 := rfl
theorem B_dev_Check : B n_dev_Check = some dev_Check := rfl
theorem B_super_Pick : B n_super_Pick = some super_Pick := rfl
theorem B_open_follow : B n_open_follow = some open_follow := rfl
theorem B_tree_Go : B n_tree_Go = some tree_Go := rfl
theorem B_open_beyond : B n_open_beyond = some open_beyond := rfl
theorem B___open_Image__clash : B n___open_Image__clash = some __open_Image__clash := rfl
theorem B_ids_Check : B n_ids_Check = some ids_Check := rfl
theorem B_slices_ContainsFunc___api_Record_api_Record_ : B n_slices_ContainsFunc___api_Record_api_Record_ = some slices_ContainsFunc___api_Record_api_Record_ := rfl
theorem B_snap_create_1 : B n_snap_create_1 = some snap_create_1 := rfl
theorem B_commit_Records : B n_commit_Records = some commit_Records := rfl
theorem B_head_Free : B n_head_Free = some head_Free := rfl
theorem B_commit_ready : B n_commit_ready = some commit_ready := rfl
theorem B_slices_ContainsFunc___api_Io_api_Io_ : B n_slices_ContainsFunc___api_Io_api_Io_ = some slices_ContainsFunc___api_Io_api_Io_ := rfl
theorem B_commit_Steps_1 : B n_commit_Steps_1 = some commit_Steps_1 := rfl
theorem B_commit_write : B n_commit_write = some commit_write := rfl
theorem B_dev_Steps_1 : B n_dev_Steps_1 = some dev_Steps_1 := rfl
theorem B_dev_right : B n_dev_right = some dev_right := rfl
theorem B_walk_Of : B n_walk_Of = some walk_Of := rfl
theorem B_super_Check : B n_super_Check = some super_Check := rfl
theorem B_super_Make : B n_super_Make = some super_Make := rfl
theorem B_super_Parse : B n_super_Parse = some super_Parse := rfl
theorem B_slices_Contains___int_int_ : B n_slices_Contains___int_int_ = some slices_Contains___int_int_ := rfl
theorem B_record_Parse : B n_record_Parse = some record_Parse := rfl
theorem B___open_chain__may : B n___open_chain__may = some __open_chain__may := rfl
theorem B___tree_Walk__goes : B n___tree_Walk__goes = some __tree_Walk__goes := rfl
theorem B_slices_ContainsFunc___int_int_ : B n_slices_ContainsFunc___int_int_ = some slices_ContainsFunc___int_int_ := rfl
theorem B_tree_Go_1 : B n_tree_Go_1 = some tree_Go_1 := rfl
theorem B_open_beyond_1 : B n_open_beyond_1 = some open_beyond_1 := rfl
theorem B_commit_may : B n_commit_may = some commit_may := rfl
theorem B_slices_Reverse___api_Record_api_Record_ : B n_slices_Reverse___api_Record_api_Record_ = some slices_Reverse___api_Record_api_Record_ := rfl
theorem B_record_Bytes : B n_record_Bytes = some record_Bytes := rfl
theorem B_alloc_Free : B n_alloc_Free = some alloc_Free := rfl
theorem B_slices_IndexFunc___api_Io_api_Io_ : B n_slices_IndexFunc___api_Io_api_Io_ = some slices_IndexFunc___api_Io_api_Io_ := rfl
theorem B_node_Parse : B n_node_Parse = some node_Parse := rfl
theorem B_super_in : B n_super_in = some super_in := rfl
theorem B_le_Set : B n_le_Set = some le_Set := rfl
theorem B_crc_Seal : B n_crc_Seal = some crc_Seal := rfl
theorem B_super_Read : B n_super_Read = some super_Read := rfl
theorem B_slices_Index___int_int_ : B n_slices_Index___int_int_ = some slices_Index___int_int_ := rfl
theorem B_record_Check : B n_record_Check = some record_Check := rfl
theorem B___open_chain__may_1 : B n___open_chain__may_1 = some __open_chain__may_1 := rfl
theorem B_tree_At : B n_tree_At = some tree_At := rfl
theorem B_slices_IndexFunc___int_int_ : B n_slices_IndexFunc___int_int_ = some slices_IndexFunc___int_int_ := rfl
theorem B_commit_may_1 : B n_commit_may_1 = some commit_may_1 := rfl
theorem B_slices_Concat___int_int_ : B n_slices_Concat___int_int_ = some slices_Concat___int_int_ := rfl
theorem B_commit_may_2 : B n_commit_may_2 = some commit_may_2 := rfl
theorem B_commit_place : B n_commit_place = some commit_place := rfl
theorem B_alloc_right : B n_alloc_right = some alloc_right := rfl
theorem B_node_Check : B n_node_Check = some node_Check := rfl
theorem B_crc_Sum : B n_crc_Sum = some crc_Sum := rfl
theorem B_crc_Good : B n_crc_Good = some crc_Good := rfl
theorem B_le_Get : B n_le_Get = some le_Get := rfl
theorem B_le_Zeros : B n_le_Zeros = some le_Zeros := rfl
theorem B_node_Pointer : B n_node_Pointer = some node_Pointer := rfl
theorem B_record_Parents : B n_record_Parents = some record_Parents := rfl
theorem B_record_in : B n_record_in = some record_in := rfl
theorem B_slices_Grow___int_int_ : B n_slices_Grow___int_int_ = some slices_Grow___int_int_ := rfl
theorem B_alloc_right_1 : B n_alloc_right_1 = some alloc_right_1 := rfl
theorem B_crc_More : B n_crc_More = some crc_More := rfl
theorem B_le_right : B n_le_right = some le_right := rfl
theorem B_le_within : B n_le_within = some le_within := rfl
end Go.Proofs.YtkaiiopoilpjeaaGreat

