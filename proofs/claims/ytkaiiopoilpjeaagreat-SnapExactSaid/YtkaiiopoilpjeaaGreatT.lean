import Derived.Test.YtkaiiopoilpjeaaGreatMC
import Derived.KernelRfl
import Derived.Test.YtkaiiopoilpjeaaGreatProg
set_option maxRecDepth 100000
set_option maxHeartbeats 4000000
namespace Go.Proofs.YtkaiiopoilpjeaaGreat
open Go.AI
abbrev n_law19_SnapExact : Nat := 3
abbrev n_law05_Heavy : Nat := 14
abbrev n_keep_Twin : Nat := 15
abbrev n_snap_Create : Nat := 16
abbrev n_snap_Delete : Nat := 17
abbrev n_snap_Rollback : Nat := 18
abbrev n_snap_List : Nat := 19
abbrev n_ref18_Create : Nat := 20
abbrev n_ref18_Delete : Nat := 21
abbrev n_ref18_Rollback : Nat := 22
abbrev n_ref18_List : Nat := 23
abbrev n_keep_Ios : Nat := 24
abbrev n_keep_Ints : Nat := 25
abbrev n_keep_Bytes : Nat := 26
abbrev n_law19_wakes : Nat := 27
abbrev n_dev_Apply : Nat := 39
abbrev n_open_New : Nat := 46
abbrev n_open_Find : Nat := 51
abbrev n_open_Look : Nat := 53
abbrev n_snap_create : Nat := 54
abbrev n_snap_Makes : Nat := 55
abbrev n_snap_find : Nat := 56
abbrev n_snap_pending : Nat := 57
abbrev n_commit_Steps : Nat := 58
abbrev n_ref10_Open : Nat := 59
abbrev n_ref01_Id : Nat := 60
abbrev n_ref18_pending : Nat := 61
abbrev n_ref18_Find : Nat := 62
abbrev n_ref18_chain : Nat := 63
abbrev n_ref10_Commit : Nat := 64
abbrev n_dev_Steps : Nat := 65
abbrev n_ref01_Blocks : Nat := 67
abbrev n_ref01_In : Nat := 68
abbrev n_slices_Clone___byte_byte_ : Nat := 70
abbrev n_dev_Of : Nat := 71
abbrev n_alloc_free : Nat := 74
abbrev n_super_Bytes : Nat := 77
abbrev n_slices_IndexFunc___api_Record_api_Record_ : Nat := 85
abbrev n_open_Find_1 : Nat := 86
abbrev n_dev_Check : Nat := 87
abbrev n_super_Pick : Nat := 88
abbrev n_open_follow : Nat := 89
abbrev n_tree_Go : Nat := 90
abbrev n_open_beyond : Nat := 91
abbrev n___open_Image__clash : Nat := 92
abbrev n_ids_Check : Nat := 93
abbrev n_slices_ContainsFunc___api_Record_api_Record_ : Nat := 94
abbrev n_snap_create_1 : Nat := 95
abbrev n_commit_Records : Nat := 96
abbrev n_head_Free : Nat := 97
abbrev n_commit_ready : Nat := 98
abbrev n_slices_ContainsFunc___api_Io_api_Io_ : Nat := 99
abbrev n_commit_Steps_1 : Nat := 100
abbrev n_commit_write : Nat := 101
abbrev n_ref01_Pick : Nat := 102
abbrev n_ref10_Records : Nat := 103
abbrev n_ref10_Tree : Nat := 104
abbrev n_ref10_Free : Nat := 105
abbrev n_ref10_Counts : Nat := 106
abbrev n_ref10_Chain : Nat := 107
abbrev n_ref01_SuperBytes : Nat := 108
abbrev n_dev_Steps_1 : Nat := 109
abbrev n_dev_right : Nat := 110
abbrev n_walk_Of : Nat := 112
abbrev n_super_Check : Nat := 113
abbrev n_super_Make : Nat := 114
abbrev n_super_layout : Nat := 115
abbrev n_super_Parse : Nat := 123
abbrev n_slices_Contains___int_int_ : Nat := 124
abbrev n_record_Parse : Nat := 125
abbrev n___open_chain__may : Nat := 126
abbrev n___tree_Walk__goes : Nat := 127
abbrev n_slices_ContainsFunc___int_int_ : Nat := 128
abbrev n_tree_Go_1 : Nat := 129
abbrev n_open_beyond_1 : Nat := 130
abbrev n_commit_may : Nat := 131
abbrev n_slices_Clone___api_Record_api_Record_ : Nat := 132
abbrev n_slices_Reverse___api_Record_api_Record_ : Nat := 133
abbrev n_record_Bytes : Nat := 134
abbrev n_slices_Clone___int_int_ : Nat := 135
abbrev n_alloc_Free : Nat := 136
abbrev n_slices_IndexFunc___api_Io_api_Io_ : Nat := 137
abbrev n_ref01_ParseSuper : Nat := 138
abbrev n_ref01_Block : Nat := 139
abbrev n_ref10_in : Nat := 140
abbrev n_ref10_has : Nat := 141
abbrev n_ref01_ParseRecord : Nat := 142
abbrev n___ref10_walk__node : Nat := 143
abbrev n_ref01_ParseNode : Nat := 144
abbrev n_ref01_RecordBytes : Nat := 145
abbrev n_ref01_Bytes : Nat := 146
abbrev n_ref01_seal : Nat := 147
abbrev n_node_Parse : Nat := 148
abbrev n_super_in : Nat := 149
abbrev n_le_Set : Nat := 150
abbrev n_crc_Seal : Nat := 151
abbrev n_super_Read : Nat := 156
abbrev n_slices_Index___int_int_ : Nat := 157
abbrev n_record_layout : Nat := 158
abbrev n_record_Check : Nat := 159
abbrev n___open_chain__may_1 : Nat := 160
abbrev n_tree_At : Nat := 161
abbrev n_node_Under : Nat := 162
abbrev n_slices_IndexFunc___int_int_ : Nat := 163
abbrev n_commit_may_1 : Nat := 164
abbrev n_slices_Concat___int_int_ : Nat := 165
abbrev n_commit_may_2 : Nat := 166
abbrev n_commit_place : Nat := 167
abbrev n_alloc_right : Nat := 168
abbrev n_ref01_open : Nat := 169
abbrev n_ref01_Get8 : Nat := 170
abbrev n_ref01_Get4 : Nat := 171
abbrev n_ref01_Super : Nat := 172
abbrev n_ref01_Zeros : Nat := 173
abbrev n_ref01_Record : Nat := 174
abbrev n_ref01_Node : Nat := 175
abbrev n_ref01_Sum : Nat := 176
abbrev n_node_layout : Nat := 177
abbrev n_node_Check : Nat := 178
abbrev n_crc_Sum : Nat := 179
abbrev n_crc_Good : Nat := 184
abbrev n_le_Get : Nat := 185
abbrev n_le_Zeros : Nat := 186
abbrev n_node_Pointer : Nat := 187
abbrev n_record_Parents : Nat := 188
abbrev n_record_in : Nat := 189
abbrev n_slices_Grow___int_int_ : Nat := 190
abbrev n_alloc_right_1 : Nat := 191
abbrev n_ref01_Good : Nat := 192
abbrev n_ref01_Number : Nat := 193
abbrev n_ref01_link : Nat := 194
abbrev n_ref01_More : Nat := 195
abbrev n_crc_More : Nat := 196
abbrev n_le_right : Nat := 202
abbrev n_le_within : Nat := 203
def x_law19_SnapExact : Laying Tryz.prog [] Tryz.f3 := layIt
def law19_SnapExact : SFun := x_law19_SnapExact.1
def x_law05_Heavy : Laying Tryz.prog [] Tryz.f14 := layIt
def law05_Heavy : SFun := x_law05_Heavy.1
def x_keep_Twin : Laying Tryz.prog [(0, 0, ⟨0, .pure, true⟩), (1, 0, ⟨1, .pure, true⟩), (2, 2, ⟨2, .pure, false⟩)] Tryz.f15 := layIt
def keep_Twin : SFun := x_keep_Twin.1
def x_snap_Create : Laying Tryz.prog [(6, 14, ⟨0, .pure, false⟩)] Tryz.f16 := layIt
def snap_Create : SFun := x_snap_Create.1
def x_snap_Delete : Laying Tryz.prog [(7, 8, ⟨0, .pure, false⟩)] Tryz.f17 := layIt
def snap_Delete : SFun := x_snap_Delete.1
def x_snap_Rollback : Laying Tryz.prog [(7, 8, ⟨0, .pure, false⟩)] Tryz.f18 := layIt
def snap_Rollback : SFun := x_snap_Rollback.1
def x_snap_List : Laying Tryz.prog [(0, 0, ⟨0, .pure, true⟩), (3, 1, ⟨1, .pure, true⟩), (4, 0, ⟨2, .pure, true⟩), (7, 2, ⟨3, .pure, false⟩), (9, 3, ⟨4, .pure, false⟩), (9, 4, ⟨5, .pure, false⟩)] Tryz.f19 := layIt
def snap_List : SFun := x_snap_List.1
def y_snap_List_l0 : Lp snap_List.code 0 := lpIt
def snap_List_l0 : SCode := y_snap_List_l0.1
def x_ref18_Create : Laying Tryz.prog [(1, 5, ⟨0, .pure, false⟩), (1, 6, ⟨1, .pure, false⟩), (12, 10, ⟨2, .pure, false⟩)] Tryz.f20 := layIt
def ref18_Create : SFun := x_ref18_Create.1
def x_ref18_Delete : Laying Tryz.prog [(1, 5, ⟨0, .pure, false⟩), (1, 6, ⟨1, .pure, false⟩)] Tryz.f21 := layIt
def ref18_Delete : SFun := x_ref18_Delete.1
def x_ref18_Rollback : Laying Tryz.prog [(1, 5, ⟨0, .pure, false⟩), (1, 6, ⟨1, .pure, false⟩), (11, 6, ⟨2, .pure, false⟩)] Tryz.f22 := layIt
def ref18_Rollback : SFun := x_ref18_Rollback.1
def x_ref18_List : Laying Tryz.prog [(0, 0, ⟨0, .pure, true⟩), (1, 5, ⟨1, .pure, false⟩), (1, 6, ⟨2, .pure, false⟩), (3, 2, ⟨3, .pure, true⟩), (4, 0, ⟨4, .pure, true⟩), (9, 8, ⟨5, .pure, false⟩), (9, 9, ⟨6, .pure, false⟩)] Tryz.f23 := layIt
def ref18_List : SFun := x_ref18_List.1
def x_keep_Ios : Laying Tryz.prog [] Tryz.f24 := layIt
def keep_Ios : SFun := x_keep_Ios.1
def y_keep_Ios_l0 : Lp keep_Ios.code 0 := lpIt
def keep_Ios_l0 : SCode := y_keep_Ios_l0.1
def x_keep_Ints : Laying Tryz.prog [] Tryz.f25 := layIt
def keep_Ints : SFun := x_keep_Ints.1
def y_keep_Ints_l0 : Lp keep_Ints.code 0 := lpIt
def keep_Ints_l0 : SCode := y_keep_Ints_l0.1
def x_keep_Bytes : Laying Tryz.prog [] Tryz.f26 := layIt
def keep_Bytes : SFun := x_keep_Bytes.1
def y_keep_Bytes_l0 : Lp keep_Bytes.code 0 := lpIt
def keep_Bytes_l0 : SCode := y_keep_Bytes_l0.1
def x_law19_wakes : Laying Tryz.prog [(8, 21, ⟨0, .pure, false⟩)] Tryz.f27 := layIt
def law19_wakes : SFun := x_law19_wakes.1
def x_dev_Apply : Laying Tryz.prog [(4, 1, ⟨0, (.fresh 0), false⟩), (7, 2, ⟨1, .pure, false⟩), (9, 3, ⟨0, (.peek 2), false⟩)] Tryz.f39 := layIt
def dev_Apply : SFun := x_dev_Apply.1
def y_dev_Apply_l0 : Lp dev_Apply.code 0 := lpIt
def dev_Apply_l0 : SCode := y_dev_Apply_l0.1
def x_open_New : Laying Tryz.prog [(3, 2, ⟨0, .pure, false⟩)] Tryz.f46 := layIt
def open_New : SFun := x_open_New.1
def x_open_Find : Laying Tryz.prog [(0, 0, ⟨0, .pure, false⟩), (0, 1, ⟨1, .pure, false⟩)] Tryz.f51 := layIt
def open_Find : SFun := x_open_Find.1
def x_open_Look : Laying Tryz.prog [(4, 1, ⟨0, .pure, false⟩), (12, 6, ⟨1, .pure, false⟩), (12, 13, ⟨2, .pure, false⟩), (15, 2, ⟨3, .pure, false⟩), (16, 3, ⟨4, .pure, false⟩), (16, 4, ⟨5, .pure, false⟩), (16, 8, ⟨6, .pure, false⟩), (16, 9, ⟨7, .pure, false⟩), (24, 6, ⟨8, .pure, false⟩), (24, 7, ⟨9, .pure, false⟩)] Tryz.f53 := layIt
def open_Look : SFun := x_open_Look.1
def y_open_Look_l0 : Lp open_Look.code 0 := lpIt
def open_Look_l0 : SCode := y_open_Look_l0.1
def y_open_Look_l1 : Lp open_Look.code 1 := lpIt
def open_Look_l1 : SCode := y_open_Look_l1.1
def x_snap_create : Laying Tryz.prog [(0, 0, ⟨0, .pure, false⟩), (0, 1, ⟨1, .pure, false⟩), (1, 5, ⟨2, .pure, false⟩)] Tryz.f54 := layIt
def snap_create : SFun := x_snap_create.1
def x_snap_Makes : Laying Tryz.prog [(0, 0, ⟨0, .pure, false⟩), (1, 5, ⟨1, .pure, false⟩)] Tryz.f55 := layIt
def snap_Makes : SFun := x_snap_Makes.1
def x_snap_find : Laying Tryz.prog [(0, 0, ⟨0, .pure, false⟩)] Tryz.f56 := layIt
def snap_find : SFun := x_snap_find.1
def x_snap_pending : Laying Tryz.prog [(0, 0, ⟨0, .pure, false⟩), (0, 1, ⟨1, .pure, false⟩)] Tryz.f57 := layIt
def snap_pending : SFun := x_snap_pending.1
def x_commit_Steps : Laying Tryz.prog [(0, 0, ⟨0, .pure, false⟩), (0, 1, ⟨1, .pure, true⟩), (2, 0, ⟨2, .pure, true⟩), (3, 11, ⟨3, .pure, false⟩), (6, 0, ⟨4, .pure, true⟩), (7, 0, ⟨5, .pure, true⟩), (10, 2, ⟨6, .pure, false⟩), (11, 7, ⟨7, .pure, false⟩), (11, 8, ⟨8, .pure, false⟩), (13, 1, ⟨9, .pure, false⟩), (14, 8, ⟨10, .pure, false⟩), (14, 9, ⟨11, .pure, false⟩)] Tryz.f58 := layIt
def commit_Steps : SFun := x_commit_Steps.1
def y_commit_Steps_l0 : Lp commit_Steps.code 0 := lpIt
def commit_Steps_l0 : SCode := y_commit_Steps_l0.1
def x_ref10_Open : Laying Tryz.prog [(0, 0, ⟨0, .pure, false⟩), (0, 1, ⟨1, .pure, false⟩), (1, 0, ⟨2, .pure, false⟩), (5, 6, ⟨3, .pure, false⟩), (25, 3, ⟨4, .pure, false⟩), (25, 4, ⟨5, .pure, false⟩), (25, 8, ⟨6, .pure, false⟩), (25, 9, ⟨7, .pure, false⟩), (26, 1, ⟨8, .pure, false⟩)] Tryz.f59 := layIt
def ref10_Open : SFun := x_ref10_Open.1
def y_ref10_Open_l0 : Lp ref10_Open.code 0 := lpIt
def ref10_Open_l0 : SCode := y_ref10_Open_l0.1
def y_ref10_Open_l1 : Lp ref10_Open.code 1 := lpIt
def ref10_Open_l1 : SCode := y_ref10_Open_l1.1
def y_ref10_Open_l2 : Lp ref10_Open.code 2 := lpIt
def ref10_Open_l2 : SCode := y_ref10_Open_l2.1
def y_ref10_Open_l3 : Lp ref10_Open.code 3 := lpIt
def ref10_Open_l3 : SCode := y_ref10_Open_l3.1
def y_ref10_Open_l4 : Lp ref10_Open.code 4 := lpIt
def ref10_Open_l4 : SCode := y_ref10_Open_l4.1
def y_ref10_Open_l5 : Lp ref10_Open.code 5 := lpIt
def ref10_Open_l5 : SCode := y_ref10_Open_l5.1
def x_ref01_Id : Laying Tryz.prog [] Tryz.f60 := layIt
def ref01_Id : SFun := x_ref01_Id.1
def x_ref18_pending : Laying Tryz.prog [(0, 0, ⟨0, .pure, false⟩)] Tryz.f61 := layIt
def ref18_pending : SFun := x_ref18_pending.1
def x_ref18_Find : Laying Tryz.prog [(0, 0, ⟨0, .pure, false⟩)] Tryz.f62 := layIt
def ref18_Find : SFun := x_ref18_Find.1
def x_ref18_chain : Laying Tryz.prog [(0, 0, ⟨0, .pure, false⟩), (0, 1, ⟨1, .pure, false⟩)] Tryz.f63 := layIt
def ref18_chain : SFun := x_ref18_chain.1
def x_ref10_Commit : Laying Tryz.prog [(0, 0, ⟨0, .pure, false⟩), (0, 1, ⟨1, .pure, true⟩), (1, 0, ⟨2, .pure, true⟩), (2, 2, ⟨3, .pure, false⟩), (3, 11, ⟨4, .pure, false⟩), (4, 9, ⟨5, .pure, false⟩), (4, 10, ⟨6, .pure, false⟩)] Tryz.f64 := layIt
def ref10_Commit : SFun := x_ref10_Commit.1
def x_dev_Steps : Laying Tryz.prog [(1, 5, ⟨0, .pure, false⟩)] Tryz.f65 := layIt
def dev_Steps : SFun := x_dev_Steps.1
def x_ref01_Blocks : Laying Tryz.prog [] Tryz.f67 := layIt
def ref01_Blocks : SFun := x_ref01_Blocks.1
def x_ref01_In : Laying Tryz.prog [] Tryz.f68 := layIt
def ref01_In : SFun := x_ref01_In.1
def x_slices_Clone___byte_byte_ : Laying Tryz.prog [(0, 0, ⟨0, .pure, true⟩), (2, 0, ⟨1, .pure, true⟩), (3, 2, ⟨2, .pure, false⟩)] Tryz.f70 := layIt
def slices_Clone___byte_byte_ : SFun := x_slices_Clone___byte_byte_.1
def x_dev_Of : Laying Tryz.prog [] Tryz.f71 := layIt
def dev_Of : SFun := x_dev_Of.1
def x_alloc_free : Laying Tryz.prog [(0, 0, ⟨0, .pure, true⟩), (1, 0, ⟨1, .pure, true⟩), (6, 2, ⟨2, .pure, false⟩), (6, 3, ⟨3, .pure, false⟩)] Tryz.f74 := layIt
def alloc_free : SFun := x_alloc_free.1
def x_super_Bytes : Laying Tryz.prog [(0, 0, ⟨0, .pure, false⟩), (4, 11, ⟨1, .pure, false⟩)] Tryz.f77 := layIt
def super_Bytes : SFun := x_super_Bytes.1
def x_slices_IndexFunc___api_Record_api_Record_ : Laying Tryz.prog [] Tryz.f85 := layIt
def slices_IndexFunc___api_Record_api_Record_ : SFun := x_slices_IndexFunc___api_Record_api_Record_.1
def x_open_Find_1 : Laying Tryz.prog [(0, 0, ⟨0, .pure, false⟩)] Tryz.f86 := layIt
def open_Find_1 : SFun := x_open_Find_1.1
def x_dev_Check : Laying Tryz.prog [] Tryz.f87 := layIt
def dev_Check : SFun := x_dev_Check.1
def x_super_Pick : Laying Tryz.prog [(0, 0, ⟨0, .pure, false⟩), (8, 2, ⟨0, (.inl 1), false⟩), (8, 7, ⟨1, .pure, false⟩)] Tryz.f88 := layIt
def super_Pick : SFun := x_super_Pick.1
def x_open_follow : Laying Tryz.prog [(2, 1, ⟨0, .pure, false⟩), (8, 2, ⟨0, (.inl 1), false⟩), (8, 7, ⟨1, .pure, false⟩), (13, 8, ⟨2, .pure, false⟩), (13, 9, ⟨3, .pure, false⟩), (13, 15, ⟨4, .pure, false⟩), (13, 16, ⟨5, .pure, false⟩)] Tryz.f89 := layIt
def open_follow : SFun := x_open_follow.1
def y_open_follow_l0 : Lp open_follow.code 0 := lpIt
def open_follow_l0 : SCode := y_open_follow_l0.1
def x_tree_Go : Laying Tryz.prog [(2, 2, ⟨0, .pure, false⟩), (2, 4, ⟨1, .pure, false⟩), (2, 5, ⟨2, .pure, false⟩), (5, 2, ⟨0, (.inl 3), false⟩)] Tryz.f90 := layIt
def tree_Go : SFun := x_tree_Go.1
def x_open_beyond : Laying Tryz.prog [] Tryz.f91 := layIt
def open_beyond : SFun := x_open_beyond.1
def x___open_Image__clash : Laying Tryz.prog [(1, 1, ⟨0, .pure, false⟩), (1, 3, ⟨1, .pure, false⟩), (1, 5, ⟨2, .pure, false⟩), (1, 7, ⟨3, .pure, false⟩)] Tryz.f92 := layIt
def __open_Image__clash : SFun := x___open_Image__clash.1
def y___open_Image__clash_l0 : Lp __open_Image__clash.code 0 := lpIt
def __open_Image__clash_l0 : SCode := y___open_Image__clash_l0.1
def y___open_Image__clash_l1 : Lp __open_Image__clash.code 1 := lpIt
def __open_Image__clash_l1 : SCode := y___open_Image__clash_l1.1
def y___open_Image__clash_l2 : Lp __open_Image__clash.code 2 := lpIt
def __open_Image__clash_l2 : SCode := y___open_Image__clash_l2.1
def y___open_Image__clash_l3 : Lp __open_Image__clash.code 3 := lpIt
def __open_Image__clash_l3 : SCode := y___open_Image__clash_l3.1
def y___open_Image__clash_l4 : Lp __open_Image__clash.code 4 := lpIt
def __open_Image__clash_l4 : SCode := y___open_Image__clash_l4.1
def x_ids_Check : Laying Tryz.prog [] Tryz.f93 := layIt
def ids_Check : SFun := x_ids_Check.1
def x_slices_ContainsFunc___api_Record_api_Record_ : Laying Tryz.prog [] Tryz.f94 := layIt
def slices_ContainsFunc___api_Record_api_Record_ : SFun := x_slices_ContainsFunc___api_Record_api_Record_.1
def x_snap_create_1 : Laying Tryz.prog [(0, 0, ⟨0, .pure, false⟩)] Tryz.f95 := layIt
def snap_create_1 : SFun := x_snap_create_1.1
def x_commit_Records : Laying Tryz.prog [(0, 0, ⟨0, .pure, false⟩), (0, 1, ⟨1, .pure, true⟩), (0, 3, ⟨2, .pure, true⟩), (2, 0, ⟨3, .pure, true⟩), (2, 2, ⟨4, .pure, true⟩), (3, 5, ⟨0, (.fresh 5), false⟩), (4, 1, ⟨0, (.inl 6), false⟩), (6, 2, ⟨6, .pure, false⟩), (6, 3, ⟨7, .pure, false⟩), (8, 0, ⟨8, .pure, true⟩), (8, 2, ⟨9, .pure, true⟩), (13, 3, ⟨10, .pure, false⟩), (17, 4, ⟨11, .pure, false⟩), (17, 5, ⟨12, .pure, false⟩)] Tryz.f96 := layIt
def commit_Records : SFun := x_commit_Records.1
def y_commit_Records_l0 : Lp commit_Records.code 0 := lpIt
def commit_Records_l0 : SCode := y_commit_Records_l0.1
def x_head_Free : Laying Tryz.prog [] Tryz.f97 := layIt
def head_Free : SFun := x_head_Free.1
def x_commit_ready : Laying Tryz.prog [(0, 0, ⟨0, .pure, false⟩)] Tryz.f98 := layIt
def commit_ready : SFun := x_commit_ready.1
def x_slices_ContainsFunc___api_Io_api_Io_ : Laying Tryz.prog [] Tryz.f99 := layIt
def slices_ContainsFunc___api_Io_api_Io_ : SFun := x_slices_ContainsFunc___api_Io_api_Io_.1
def x_commit_Steps_1 : Laying Tryz.prog [(0, 0, ⟨0, .pure, false⟩)] Tryz.f100 := layIt
def commit_Steps_1 : SFun := x_commit_Steps_1.1
def x_commit_write : Laying Tryz.prog [(0, 0, ⟨0, .pure, false⟩)] Tryz.f101 := layIt
def commit_write : SFun := x_commit_write.1
def x_ref01_Pick : Laying Tryz.prog [(0, 0, ⟨0, .pure, false⟩), (2, 1, ⟨0, (.inl 1), false⟩), (2, 6, ⟨1, .pure, false⟩), (3, 1, ⟨0, (.inl 2), false⟩), (3, 6, ⟨2, .pure, false⟩)] Tryz.f102 := layIt
def ref01_Pick : SFun := x_ref01_Pick.1
def x_ref10_Records : Laying Tryz.prog [(0, 0, ⟨0, .pure, true⟩), (0, 1, ⟨1, .pure, true⟩), (6, 1, ⟨2, .pure, true⟩), (6, 2, ⟨3, .pure, true⟩), (7, 2, ⟨0, (.inl 4), false⟩), (7, 7, ⟨4, .pure, false⟩), (9, 1, ⟨5, .pure, true⟩), (9, 2, ⟨6, .pure, true⟩), (16, 1, ⟨7, .pure, true⟩), (16, 2, ⟨8, .pure, true⟩), (18, 1, ⟨9, .pure, true⟩), (18, 2, ⟨10, .pure, true⟩), (19, 2, ⟨11, .pure, false⟩), (19, 3, ⟨12, .pure, false⟩), (19, 6, ⟨13, .pure, false⟩), (19, 7, ⟨14, .pure, false⟩)] Tryz.f103 := layIt
def ref10_Records : SFun := x_ref10_Records.1
def y_ref10_Records_l0 : Lp ref10_Records.code 0 := lpIt
def ref10_Records_l0 : SCode := y_ref10_Records_l0.1
def y_ref10_Records_l1 : Lp ref10_Records.code 1 := lpIt
def ref10_Records_l1 : SCode := y_ref10_Records_l1.1
def x_ref10_Tree : Laying Tryz.prog [(2, 3, ⟨0, .pure, false⟩), (2, 5, ⟨1, .pure, false⟩), (2, 6, ⟨2, .pure, false⟩), (2, 8, ⟨3, .pure, false⟩), (5, 1, ⟨0, (.inl 4), false⟩)] Tryz.f104 := layIt
def ref10_Tree : SFun := x_ref10_Tree.1
def y_ref10_Tree_l0 : Lp ref10_Tree.code 0 := lpIt
def ref10_Tree_l0 : SCode := y_ref10_Tree_l0.1
def x_ref10_Free : Laying Tryz.prog [(0, 0, ⟨0, .pure, true⟩), (1, 0, ⟨1, .pure, true⟩), (6, 2, ⟨2, .pure, false⟩), (6, 3, ⟨3, .pure, false⟩)] Tryz.f105 := layIt
def ref10_Free : SFun := x_ref10_Free.1
def x_ref10_Counts : Laying Tryz.prog [(0, 0, ⟨0, .pure, false⟩), (2, 1, ⟨1, .pure, false⟩), (4, 1, ⟨2, .pure, false⟩), (23, 2, ⟨0, (.inl 3), false⟩), (23, 7, ⟨3, .pure, false⟩)] Tryz.f106 := layIt
def ref10_Counts : SFun := x_ref10_Counts.1
def y_ref10_Counts_l0 : Lp ref10_Counts.code 0 := lpIt
def ref10_Counts_l0 : SCode := y_ref10_Counts_l0.1
def y_ref10_Counts_l1 : Lp ref10_Counts.code 1 := lpIt
def ref10_Counts_l1 : SCode := y_ref10_Counts_l1.1
def y_ref10_Counts_l2 : Lp ref10_Counts.code 2 := lpIt
def ref10_Counts_l2 : SCode := y_ref10_Counts_l2.1
def y_ref10_Counts_l3 : Lp ref10_Counts.code 3 := lpIt
def ref10_Counts_l3 : SCode := y_ref10_Counts_l3.1
def x_ref10_Chain : Laying Tryz.prog [(0, 0, ⟨0, .pure, false⟩), (0, 1, ⟨1, .pure, true⟩), (0, 3, ⟨2, .pure, true⟩), (3, 0, ⟨3, .pure, true⟩), (7, 5, ⟨4, .pure, false⟩), (7, 6, ⟨5, .pure, false⟩), (9, 2, ⟨6, .pure, false⟩), (9, 3, ⟨7, .pure, false⟩), (11, 0, ⟨8, .pure, true⟩), (11, 2, ⟨9, .pure, true⟩), (15, 4, ⟨10, .pure, false⟩), (18, 5, ⟨11, .pure, false⟩), (18, 6, ⟨12, .pure, false⟩), (19, 7, ⟨13, .pure, false⟩)] Tryz.f107 := layIt
def ref10_Chain : SFun := x_ref10_Chain.1
def y_ref10_Chain_l0 : Lp ref10_Chain.code 0 := lpIt
def ref10_Chain_l0 : SCode := y_ref10_Chain_l0.1
def y_ref10_Chain_l1 : Lp ref10_Chain.code 1 := lpIt
def ref10_Chain_l1 : SCode := y_ref10_Chain_l1.1
def x_ref01_SuperBytes : Laying Tryz.prog [(0, 0, ⟨0, .pure, false⟩), (0, 1, ⟨1, .pure, true⟩), (1, 0, ⟨2, .pure, false⟩), (2, 3, ⟨0, (.fresh 3), false⟩), (2, 4, ⟨4, .pure, false⟩), (3, 3, ⟨0, (.fresh 5), false⟩), (3, 4, ⟨6, .pure, false⟩), (4, 3, ⟨0, (.fresh 7), false⟩), (4, 4, ⟨8, .pure, false⟩), (5, 3, ⟨0, (.fresh 9), false⟩), (5, 4, ⟨10, .pure, false⟩), (6, 3, ⟨0, (.fresh 11), false⟩), (6, 4, ⟨12, .pure, false⟩), (6, 5, ⟨0, (.inl 13), false⟩)] Tryz.f108 := layIt
def ref01_SuperBytes : SFun := x_ref01_SuperBytes.1
def x_dev_Steps_1 : Laying Tryz.prog [(0, 0, ⟨0, .pure, false⟩)] Tryz.f109 := layIt
def dev_Steps_1 : SFun := x_dev_Steps_1.1
def x_dev_right : Laying Tryz.prog [(0, 0, ⟨0, .pure, false⟩)] Tryz.f110 := layIt
def dev_right : SFun := x_dev_right.1
def x_walk_Of : Laying Tryz.prog [(0, 0, ⟨0, .pure, true⟩), (2, 1, ⟨1, .pure, false⟩), (13, 6, ⟨2, .pure, false⟩), (16, 2, ⟨3, .pure, false⟩), (17, 3, ⟨4, .pure, false⟩), (17, 4, ⟨5, .pure, false⟩), (19, 1, ⟨6, .pure, false⟩), (30, 2, ⟨0, (.inl 7), false⟩), (30, 7, ⟨7, .pure, false⟩)] Tryz.f112 := layIt
def walk_Of : SFun := x_walk_Of.1
def y_walk_Of_l0 : Lp walk_Of.code 0 := lpIt
def walk_Of_l0 : SCode := y_walk_Of_l0.1
def y_walk_Of_l1 : Lp walk_Of.code 1 := lpIt
def walk_Of_l1 : SCode := y_walk_Of_l1.1
def y_walk_Of_l2 : Lp walk_Of.code 2 := lpIt
def walk_Of_l2 : SCode := y_walk_Of_l2.1
def y_walk_Of_l3 : Lp walk_Of.code 3 := lpIt
def walk_Of_l3 : SCode := y_walk_Of_l3.1
def y_walk_Of_l4 : Lp walk_Of.code 4 := lpIt
def walk_Of_l4 : SCode := y_walk_Of_l4.1
def y_walk_Of_l5 : Lp walk_Of.code 5 := lpIt
def walk_Of_l5 : SCode := y_walk_Of_l5.1
def x_super_Check : Laying Tryz.prog [(0, 0, ⟨0, .pure, false⟩)] Tryz.f113 := layIt
def super_Check : SFun := x_super_Check.1
def x_super_Make : Laying Tryz.prog [(1, 0, ⟨0, .pure, false⟩), (5, 3, ⟨1, .pure, false⟩), (6, 9, ⟨0, (.inl 2), false⟩), (8, 1, ⟨0, (.inl 2), false⟩)] Tryz.f114 := layIt
def super_Make : SFun := x_super_Make.1
def x_super_layout : Laying Tryz.prog [(1, 0, ⟨0, .pure, false⟩)] Tryz.f115 := layIt
def super_layout : SFun := x_super_layout.1
def x_super_Parse : Laying Tryz.prog [(0, 0, ⟨0, .pure, false⟩), (4, 16, ⟨1, .pure, false⟩)] Tryz.f123 := layIt
def super_Parse : SFun := x_super_Parse.1
def x_slices_Contains___int_int_ : Laying Tryz.prog [] Tryz.f124 := layIt
def slices_Contains___int_int_ : SFun := x_slices_Contains___int_int_.1
def x_record_Parse : Laying Tryz.prog [(0, 0, ⟨0, .pure, false⟩), (4, 25, ⟨1, .pure, false⟩)] Tryz.f125 := layIt
def record_Parse : SFun := x_record_Parse.1
def x___open_chain__may : Laying Tryz.prog [(0, 0, ⟨0, .pure, false⟩)] Tryz.f126 := layIt
def __open_chain__may : SFun := x___open_chain__may.1
def x___tree_Walk__goes : Laying Tryz.prog [(0, 14, ⟨0, .pure, false⟩), (3, 6, ⟨1, .pure, false⟩), (3, 7, ⟨2, .pure, false⟩), (14, 5, ⟨0, (.inl 3), false⟩)] Tryz.f127 := layIt
def __tree_Walk__goes : SFun := x___tree_Walk__goes.1
def x_slices_ContainsFunc___int_int_ : Laying Tryz.prog [] Tryz.f128 := layIt
def slices_ContainsFunc___int_int_ : SFun := x_slices_ContainsFunc___int_int_.1
def x_tree_Go_1 : Laying Tryz.prog [] Tryz.f129 := layIt
def tree_Go_1 : SFun := x_tree_Go_1.1
def x_open_beyond_1 : Laying Tryz.prog [] Tryz.f130 := layIt
def open_beyond_1 : SFun := x_open_beyond_1.1
def x_commit_may : Laying Tryz.prog [(0, 0, ⟨0, .pure, false⟩), (4, 4, ⟨1, .pure, false⟩)] Tryz.f131 := layIt
def commit_may : SFun := x_commit_may.1
def y_commit_may_l0 : Lp commit_may.code 0 := lpIt
def commit_may_l0 : SCode := y_commit_may_l0.1
def x_slices_Clone___api_Record_api_Record_ : Laying Tryz.prog [(0, 0, ⟨0, .pure, true⟩), (2, 0, ⟨1, .pure, true⟩), (3, 2, ⟨2, .pure, false⟩)] Tryz.f132 := layIt
def slices_Clone___api_Record_api_Record_ : SFun := x_slices_Clone___api_Record_api_Record_.1
def x_slices_Reverse___api_Record_api_Record_ : Laying Tryz.prog [] Tryz.f133 := layIt
def slices_Reverse___api_Record_api_Record_ : SFun := x_slices_Reverse___api_Record_api_Record_.1
def x_record_Bytes : Laying Tryz.prog [(0, 0, ⟨0, .pure, false⟩), (4, 17, ⟨1, .pure, false⟩)] Tryz.f134 := layIt
def record_Bytes : SFun := x_record_Bytes.1
def x_slices_Clone___int_int_ : Laying Tryz.prog [(0, 0, ⟨0, .pure, true⟩), (2, 0, ⟨1, .pure, true⟩), (3, 2, ⟨2, .pure, false⟩)] Tryz.f135 := layIt
def slices_Clone___int_int_ : SFun := x_slices_Clone___int_int_.1
def x_alloc_Free : Laying Tryz.prog [] Tryz.f136 := layIt
def alloc_Free : SFun := x_alloc_Free.1
def x_slices_IndexFunc___api_Io_api_Io_ : Laying Tryz.prog [] Tryz.f137 := layIt
def slices_IndexFunc___api_Io_api_Io_ : SFun := x_slices_IndexFunc___api_Io_api_Io_.1
def x_ref01_ParseSuper : Laying Tryz.prog [(0, 0, ⟨0, .pure, false⟩), (5, 10, ⟨1, .pure, false⟩)] Tryz.f138 := layIt
def ref01_ParseSuper : SFun := x_ref01_ParseSuper.1
def x_ref01_Block : Laying Tryz.prog [] Tryz.f139 := layIt
def ref01_Block : SFun := x_ref01_Block.1
def x_ref10_in : Laying Tryz.prog [] Tryz.f140 := layIt
def ref10_in : SFun := x_ref10_in.1
def x_ref10_has : Laying Tryz.prog [] Tryz.f141 := layIt
def ref10_has : SFun := x_ref10_has.1
def x_ref01_ParseRecord : Laying Tryz.prog [(0, 0, ⟨0, .pure, false⟩), (6, 15, ⟨1, .pure, false⟩)] Tryz.f142 := layIt
def ref01_ParseRecord : SFun := x_ref01_ParseRecord.1
def x___ref10_walk__node : Laying Tryz.prog [(2, 5, ⟨0, (.inl 0), false⟩), (2, 10, ⟨0, .pure, false⟩), (6, 6, ⟨1, .pure, false⟩), (6, 7, ⟨2, .pure, false⟩), (22, 9, ⟨0, (.inl 3), false⟩)] Tryz.f143 := layIt
def __ref10_walk__node : SFun := x___ref10_walk__node.1
def x_ref01_ParseNode : Laying Tryz.prog [(0, 0, ⟨0, .pure, false⟩), (4, 3, ⟨1, .pure, false⟩)] Tryz.f144 := layIt
def ref01_ParseNode : SFun := x_ref01_ParseNode.1
def x_ref01_RecordBytes : Laying Tryz.prog [(0, 0, ⟨0, .pure, false⟩), (0, 1, ⟨1, .pure, true⟩), (1, 0, ⟨2, .pure, false⟩), (1, 4, ⟨0, (.fresh 3), false⟩), (1, 5, ⟨4, .pure, false⟩), (2, 3, ⟨0, (.fresh 5), false⟩), (2, 4, ⟨6, .pure, false⟩), (3, 3, ⟨0, (.fresh 7), false⟩), (3, 4, ⟨8, .pure, false⟩), (4, 3, ⟨0, (.fresh 9), false⟩), (4, 4, ⟨10, .pure, false⟩), (5, 3, ⟨0, (.fresh 11), false⟩), (5, 4, ⟨12, .pure, false⟩), (6, 3, ⟨0, (.fresh 13), false⟩), (6, 4, ⟨14, .pure, false⟩), (7, 3, ⟨0, (.fresh 15), false⟩), (7, 4, ⟨16, .pure, false⟩), (8, 3, ⟨0, (.fresh 17), false⟩), (8, 4, ⟨18, .pure, false⟩), (8, 5, ⟨0, (.inl 19), false⟩)] Tryz.f145 := layIt
def ref01_RecordBytes : SFun := x_ref01_RecordBytes.1
def x_ref01_Bytes : Laying Tryz.prog [(0, 0, ⟨0, .pure, true⟩), (1, 0, ⟨1, .pure, true⟩), (5, 4, ⟨2, .pure, false⟩), (5, 5, ⟨3, .pure, false⟩)] Tryz.f146 := layIt
def ref01_Bytes : SFun := x_ref01_Bytes.1
def y_ref01_Bytes_l0 : Lp ref01_Bytes.code 0 := lpIt
def ref01_Bytes_l0 : SCode := y_ref01_Bytes_l0.1
def x_ref01_seal : Laying Tryz.prog [(0, 0, ⟨0, .pure, true⟩), (2, 1, ⟨1, .pure, false⟩), (2, 2, ⟨2, .pure, false⟩), (3, 3, ⟨0, (.fresh 3), false⟩), (3, 4, ⟨4, .pure, false⟩)] Tryz.f147 := layIt
def ref01_seal : SFun := x_ref01_seal.1
def x_node_Parse : Laying Tryz.prog [(0, 0, ⟨0, .pure, false⟩), (4, 4, ⟨1, .pure, true⟩)] Tryz.f148 := layIt
def node_Parse : SFun := x_node_Parse.1
def x_super_in : Laying Tryz.prog [] Tryz.f149 := layIt
def super_in : SFun := x_super_in.1
def x_le_Set : Laying Tryz.prog [] Tryz.f150 := layIt
def le_Set : SFun := x_le_Set.1
def y_le_Set_l0 : Lp le_Set.code 0 := lpIt
def le_Set_l0 : SCode := y_le_Set_l0.1
def x_crc_Seal : Laying Tryz.prog [(1, 6, ⟨0, (.inl 0), false⟩)] Tryz.f151 := layIt
def crc_Seal : SFun := x_crc_Seal.1
def x_super_Layout : Laying Tryz.prog [(0, 0, ⟨0, .pure, true⟩), (1, 0, ⟨1, .pure, true⟩), (6, 4, ⟨2, .pure, false⟩), (6, 5, ⟨3, .pure, false⟩)] Tryz.f152 := layIt
def super_Layout : SFun := x_super_Layout.1
def x_super_Read : Laying Tryz.prog [(0, 0, ⟨0, .pure, true⟩), (2, 0, ⟨1, .pure, true⟩), (4, 0, ⟨2, .pure, true⟩), (6, 0, ⟨3, .pure, true⟩), (7, 0, ⟨4, .pure, true⟩), (11, 2, ⟨5, .pure, false⟩), (14, 0, ⟨6, .pure, true⟩), (15, 2, ⟨7, .pure, false⟩), (15, 3, ⟨8, .pure, false⟩), (19, 0, ⟨9, .pure, true⟩)] Tryz.f156 := layIt
def super_Read : SFun := x_super_Read.1
def x_slices_Index___int_int_ : Laying Tryz.prog [] Tryz.f157 := layIt
def slices_Index___int_int_ : SFun := x_slices_Index___int_int_.1
def x_record_layout : Laying Tryz.prog [(1, 0, ⟨0, .pure, false⟩)] Tryz.f158 := layIt
def record_layout : SFun := x_record_layout.1
def x_record_Check : Laying Tryz.prog [(0, 0, ⟨0, .pure, false⟩)] Tryz.f159 := layIt
def record_Check : SFun := x_record_Check.1
def x___open_chain__may_1 : Laying Tryz.prog [(0, 0, ⟨0, .pure, false⟩)] Tryz.f160 := layIt
def __open_chain__may_1 : SFun := x___open_chain__may_1.1
def x_tree_At : Laying Tryz.prog [(0, 0, ⟨0, .pure, false⟩), (3, 2, ⟨0, (.inl 1), false⟩), (3, 7, ⟨1, .pure, false⟩)] Tryz.f161 := layIt
def tree_At : SFun := x_tree_At.1
def x_node_Under : Laying Tryz.prog [] Tryz.f162 := layIt
def node_Under : SFun := x_node_Under.1
def x_slices_IndexFunc___int_int_ : Laying Tryz.prog [] Tryz.f163 := layIt
def slices_IndexFunc___int_int_ : SFun := x_slices_IndexFunc___int_int_.1
def x_commit_may_1 : Laying Tryz.prog [(0, 0, ⟨0, .pure, false⟩)] Tryz.f164 := layIt
def commit_may_1 : SFun := x_commit_may_1.1
def x_slices_Concat___int_int_ : Laying Tryz.prog [(0, 0, ⟨0, .pure, true⟩), (9, 1, ⟨0, (.inl 1), false⟩), (13, 2, ⟨3, .pure, false⟩)] Tryz.f165 := layIt
def slices_Concat___int_int_ : SFun := x_slices_Concat___int_int_.1
def x_commit_may_2 : Laying Tryz.prog [] Tryz.f166 := layIt
def commit_may_2 : SFun := x_commit_may_2.1
def x_commit_place : Laying Tryz.prog [] Tryz.f167 := layIt
def commit_place : SFun := x_commit_place.1
def x_alloc_right : Laying Tryz.prog [] Tryz.f168 := layIt
def alloc_right : SFun := x_alloc_right.1
def x_ref01_open : Laying Tryz.prog [] Tryz.f169 := layIt
def ref01_open : SFun := x_ref01_open.1
def x_ref01_Get8 : Laying Tryz.prog [] Tryz.f170 := layIt
def ref01_Get8 : SFun := x_ref01_Get8.1
def x_ref01_Get4 : Laying Tryz.prog [] Tryz.f171 := layIt
def ref01_Get4 : SFun := x_ref01_Get4.1
def x_ref01_Super : Laying Tryz.prog [(0, 0, ⟨0, .pure, false⟩)] Tryz.f172 := layIt
def ref01_Super : SFun := x_ref01_Super.1
def x_ref01_Zeros : Laying Tryz.prog [] Tryz.f173 := layIt
def ref01_Zeros : SFun := x_ref01_Zeros.1
def x_ref01_Record : Laying Tryz.prog [(0, 0, ⟨0, .pure, false⟩)] Tryz.f174 := layIt
def ref01_Record : SFun := x_ref01_Record.1
def x_ref01_Node : Laying Tryz.prog [(0, 0, ⟨0, .pure, false⟩)] Tryz.f175 := layIt
def ref01_Node : SFun := x_ref01_Node.1
def x_ref01_Sum : Laying Tryz.prog [] Tryz.f176 := layIt
def ref01_Sum : SFun := x_ref01_Sum.1
def x_node_layout : Laying Tryz.prog [(1, 0, ⟨0, .pure, false⟩)] Tryz.f177 := layIt
def node_layout : SFun := x_node_layout.1
def x_node_Check : Laying Tryz.prog [(0, 0, ⟨0, .pure, false⟩)] Tryz.f178 := layIt
def node_Check : SFun := x_node_Check.1
def x_crc_Sum : Laying Tryz.prog [] Tryz.f179 := layIt
def crc_Sum : SFun := x_crc_Sum.1
def x_crc_Good : Laying Tryz.prog [] Tryz.f184 := layIt
def crc_Good : SFun := x_crc_Good.1
def x_le_Get : Laying Tryz.prog [] Tryz.f185 := layIt
def le_Get : SFun := x_le_Get.1
def y_le_Get_l0 : Lp le_Get.code 0 := lpIt
def le_Get_l0 : SCode := y_le_Get_l0.1
def x_le_Zeros : Laying Tryz.prog [] Tryz.f186 := layIt
def le_Zeros : SFun := x_le_Zeros.1
def x_node_Pointer : Laying Tryz.prog [] Tryz.f187 := layIt
def node_Pointer : SFun := x_node_Pointer.1
def x_record_Parents : Laying Tryz.prog [] Tryz.f188 := layIt
def record_Parents : SFun := x_record_Parents.1
def x_record_in : Laying Tryz.prog [] Tryz.f189 := layIt
def record_in : SFun := x_record_in.1
def x_slices_Grow___int_int_ : Laying Tryz.prog [(0, 0, ⟨0, .pure, true⟩), (5, 5, ⟨1, .pure, false⟩)] Tryz.f190 := layIt
def slices_Grow___int_int_ : SFun := x_slices_Grow___int_int_.1
def x_alloc_right_1 : Laying Tryz.prog [] Tryz.f191 := layIt
def alloc_right_1 : SFun := x_alloc_right_1.1
def x_ref01_Good : Laying Tryz.prog [] Tryz.f192 := layIt
def ref01_Good : SFun := x_ref01_Good.1
def x_ref01_Number : Laying Tryz.prog [] Tryz.f193 := layIt
def ref01_Number : SFun := x_ref01_Number.1
def y_ref01_Number_l0 : Lp ref01_Number.code 0 := lpIt
def ref01_Number_l0 : SCode := y_ref01_Number_l0.1
def x_ref01_link : Laying Tryz.prog [] Tryz.f194 := layIt
def ref01_link : SFun := x_ref01_link.1
def x_ref01_More : Laying Tryz.prog [] Tryz.f195 := layIt
def ref01_More : SFun := x_ref01_More.1
def y_ref01_More_l0 : Lp ref01_More.code 0 := lpIt
def ref01_More_l0 : SCode := y_ref01_More_l0.1
def y_ref01_More_l1 : Lp ref01_More.code 1 := lpIt
def ref01_More_l1 : SCode := y_ref01_More_l1.1
def x_crc_More : Laying Tryz.prog [] Tryz.f196 := layIt
def crc_More : SFun := x_crc_More.1
def y_crc_More_l0 : Lp crc_More.code 0 := lpIt
def crc_More_l0 : SCode := y_crc_More_l0.1
def y_crc_More_l1 : Lp crc_More.code 1 := lpIt
def crc_More_l1 : SCode := y_crc_More_l1.1
def x_le_right : Laying Tryz.prog [] Tryz.f202 := layIt
def le_right : SFun := x_le_right.1
def x_le_within : Laying Tryz.prog [] Tryz.f203 := layIt
def le_within : SFun := x_le_within.1
def tab : List (Nat × SFun) := [(3, law19_SnapExact), (14, law05_Heavy), (15, keep_Twin), (16, snap_Create), (17, snap_Delete), (18, snap_Rollback), (19, snap_List), (20, ref18_Create), (21, ref18_Delete), (22, ref18_Rollback), (23, ref18_List), (24, keep_Ios), (25, keep_Ints), (26, keep_Bytes), (27, law19_wakes), (39, dev_Apply), (46, open_New), (51, open_Find), (53, open_Look), (54, snap_create), (55, snap_Makes), (56, snap_find), (57, snap_pending), (58, commit_Steps), (59, ref10_Open), (60, ref01_Id), (61, ref18_pending), (62, ref18_Find), (63, ref18_chain), (64, ref10_Commit), (65, dev_Steps), (67, ref01_Blocks), (68, ref01_In), (71, dev_Of), (74, alloc_free), (77, super_Bytes), (85, slices_IndexFunc___api_Record_api_Record_), (86, open_Find_1), (87, dev_Check), (88, super_Pick), (89, open_follow), (90, tree_Go), (91, open_beyond), (92, __open_Image__clash), (93, ids_Check), (94, slices_ContainsFunc___api_Record_api_Record_), (95, snap_create_1), (96, commit_Records), (97, head_Free), (98, commit_ready), (99, slices_ContainsFunc___api_Io_api_Io_), (100, commit_Steps_1), (101, commit_write), (102, ref01_Pick), (103, ref10_Records), (104, ref10_Tree), (105, ref10_Free), (106, ref10_Counts), (107, ref10_Chain), (108, ref01_SuperBytes), (109, dev_Steps_1), (110, dev_right), (112, walk_Of), (113, super_Check), (114, super_Make), (115, super_layout), (123, super_Parse), (124, slices_Contains___int_int_), (125, record_Parse), (126, __open_chain__may), (127, __tree_Walk__goes), (128, slices_ContainsFunc___int_int_), (129, tree_Go_1), (130, open_beyond_1), (131, commit_may), (133, slices_Reverse___api_Record_api_Record_), (134, record_Bytes), (136, alloc_Free), (137, slices_IndexFunc___api_Io_api_Io_), (138, ref01_ParseSuper), (139, ref01_Block), (140, ref10_in), (141, ref10_has), (142, ref01_ParseRecord), (143, __ref10_walk__node), (144, ref01_ParseNode), (145, ref01_RecordBytes), (146, ref01_Bytes), (147, ref01_seal), (148, node_Parse), (149, super_in), (150, le_Set), (151, crc_Seal), (152, super_Layout), (156, super_Read), (157, slices_Index___int_int_), (158, record_layout), (159, record_Check), (160, __open_chain__may_1), (161, tree_At), (162, node_Under), (163, slices_IndexFunc___int_int_), (164, commit_may_1), (165, slices_Concat___int_int_), (166, commit_may_2), (167, commit_place), (168, alloc_right), (169, ref01_open), (170, ref01_Get8), (171, ref01_Get4), (172, ref01_Super), (173, ref01_Zeros), (174, ref01_Record), (175, ref01_Node), (176, ref01_Sum), (177, node_layout), (178, node_Check), (179, crc_Sum), (184, crc_Good), (185, le_Get), (186, le_Zeros), (187, node_Pointer), (188, record_Parents), (189, record_in), (190, slices_Grow___int_int_), (191, alloc_right_1), (192, ref01_Good), (193, ref01_Number), (194, ref01_link), (195, ref01_More), (196, crc_More), (202, le_right), (203, le_within)]
def B : Prog := Go.AI.look tab
theorem laid : Laid Tryz.prog (Go.AI.look tab) := by
 refine laid_cons ⟨_, _, Tryz.func3, x_law19_SnapExact.2.1, by decide⟩ ?_
 refine laid_cons ⟨_, _, Tryz.func14, x_law05_Heavy.2.1, by decide⟩ ?_
 refine laid_cons ⟨_, _, Tryz.func15, x_keep_Twin.2.1, by decide⟩ ?_
 refine laid_cons ⟨_, _, Tryz.func16, x_snap_Create.2.1, by decide⟩ ?_
 refine laid_cons ⟨_, _, Tryz.func17, x_snap_Delete.2.1, by decide⟩ ?_
 refine laid_cons ⟨_, _, Tryz.func18, x_snap_Rollback.2.1, by decide⟩ ?_
 refine laid_cons ⟨_, _, Tryz.func19, x_snap_List.2.1, by decide⟩ ?_
 refine laid_cons ⟨_, _, Tryz.func20, x_ref18_Create.2.1, by decide⟩ ?_
 refine laid_cons ⟨_, _, Tryz.func21, x_ref18_Delete.2.1, by decide⟩ ?_
 refine laid_cons ⟨_, _, Tryz.func22, x_ref18_Rollback.2.1, by decide⟩ ?_
 refine laid_cons ⟨_, _, Tryz.func23, x_ref18_List.2.1, by decide⟩ ?_
 refine laid_cons ⟨_, _, Tryz.func24, x_keep_Ios.2.1, by decide⟩ ?_
 refine laid_cons ⟨_, _, Tryz.func25, x_keep_Ints.2.1, by decide⟩ ?_
 refine laid_cons ⟨_, _, Tryz.func26, x_keep_Bytes.2.1, by decide⟩ ?_
 refine laid_cons ⟨_, _, Tryz.func27, x_law19_wakes.2.1, by decide⟩ ?_
 refine laid_cons ⟨_, _, Tryz.func39, x_dev_Apply.2.1, by decide⟩ ?_
 refine laid_cons ⟨_, _, Tryz.func46, x_open_New.2.1, by decide⟩ ?_
 refine laid_cons ⟨_, _, Tryz.func51, x_open_Find.2.1, by decide⟩ ?_
 refine laid_cons ⟨_, _, Tryz.func53, x_open_Look.2.1, by decide⟩ ?_
 refine laid_cons ⟨_, _, Tryz.func54, x_snap_create.2.1, by decide⟩ ?_
 refine laid_cons ⟨_, _, Tryz.func55, x_snap_Makes.2.1, by decide⟩ ?_
 refine laid_cons ⟨_, _, Tryz.func56, x_snap_find.2.1, by decide⟩ ?_
 refine laid_cons ⟨_, _, Tryz.func57, x_snap_pending.2.1, by decide⟩ ?_
 refine laid_cons ⟨_, _, Tryz.func58, x_commit_Steps.2.1, by decide⟩ ?_
 refine laid_cons ⟨_, _, Tryz.func59, x_ref10_Open.2.1, by decide⟩ ?_
 refine laid_cons ⟨_, _, Tryz.func60, x_ref01_Id.2.1, by decide⟩ ?_
 refine laid_cons ⟨_, _, Tryz.func61, x_ref18_pending.2.1, by decide⟩ ?_
 refine laid_cons ⟨_, _, Tryz.func62, x_ref18_Find.2.1, by decide⟩ ?_
 refine laid_cons ⟨_, _, Tryz.func63, x_ref18_chain.2.1, by decide⟩ ?_
 refine laid_cons ⟨_, _, Tryz.func64, x_ref10_Commit.2.1, by decide⟩ ?_
 refine laid_cons ⟨_, _, Tryz.func65, x_dev_Steps.2.1, by decide⟩ ?_
 refine laid_cons ⟨_, _, Tryz.func67, x_ref01_Blocks.2.1, by decide⟩ ?_
 refine laid_cons ⟨_, _, Tryz.func68, x_ref01_In.2.1, by decide⟩ ?_
 refine laid_cons ⟨_, _, Tryz.func71, x_dev_Of.2.1, by decide⟩ ?_
 refine laid_cons ⟨_, _, Tryz.func74, x_alloc_free.2.1, by decide⟩ ?_
 refine laid_cons ⟨_, _, Tryz.func77, x_super_Bytes.2.1, by decide⟩ ?_
 refine laid_cons ⟨_, _, Tryz.func85, x_slices_IndexFunc___api_Record_api_Record_.2.1, by decide⟩ ?_
 refine laid_cons ⟨_, _, Tryz.func86, x_open_Find_1.2.1, by decide⟩ ?_
 refine laid_cons ⟨_, _, Tryz.func87, x_dev_Check.2.1, by decide⟩ ?_
 refine laid_cons ⟨_, _, Tryz.func88, x_super_Pick.2.1, by decide⟩ ?_
 refine laid_cons ⟨_, _, Tryz.func89, x_open_follow.2.1, by decide⟩ ?_
 refine laid_cons ⟨_, _, Tryz.func90, x_tree_Go.2.1, by decide⟩ ?_
 refine laid_cons ⟨_, _, Tryz.func91, x_open_beyond.2.1, by decide⟩ ?_
 refine laid_cons ⟨_, _, Tryz.func92, x___open_Image__clash.2.1, by decide⟩ ?_
 refine laid_cons ⟨_, _, Tryz.func93, x_ids_Check.2.1, by decide⟩ ?_
 refine laid_cons ⟨_, _, Tryz.func94, x_slices_ContainsFunc___api_Record_api_Record_.2.1, by decide⟩ ?_
 refine laid_cons ⟨_, _, Tryz.func95, x_snap_create_1.2.1, by decide⟩ ?_
 refine laid_cons ⟨_, _, Tryz.func96, x_commit_Records.2.1, by decide⟩ ?_
 refine laid_cons ⟨_, _, Tryz.func97, x_head_Free.2.1, by decide⟩ ?_
 refine laid_cons ⟨_, _, Tryz.func98, x_commit_ready.2.1, by decide⟩ ?_
 refine laid_cons ⟨_, _, Tryz.func99, x_slices_ContainsFunc___api_Io_api_Io_.2.1, by decide⟩ ?_
 refine laid_cons ⟨_, _, Tryz.func100, x_commit_Steps_1.2.1, by decide⟩ ?_
 refine laid_cons ⟨_, _, Tryz.func101, x_commit_write.2.1, by decide⟩ ?_
 refine laid_cons ⟨_, _, Tryz.func102, x_ref01_Pick.2.1, by decide⟩ ?_
 refine laid_cons ⟨_, _, Tryz.func103, x_ref10_Records.2.1, by decide⟩ ?_
 refine laid_cons ⟨_, _, Tryz.func104, x_ref10_Tree.2.1, by decide⟩ ?_
 refine laid_cons ⟨_, _, Tryz.func105, x_ref10_Free.2.1, by decide⟩ ?_
 refine laid_cons ⟨_, _, Tryz.func106, x_ref10_Counts.2.1, by decide⟩ ?_
 refine laid_cons ⟨_, _, Tryz.func107, x_ref10_Chain.2.1, by decide⟩ ?_
 refine laid_cons ⟨_, _, Tryz.func108, x_ref01_SuperBytes.2.1, by decide⟩ ?_
 refine laid_cons ⟨_, _, Tryz.func109, x_dev_Steps_1.2.1, by decide⟩ ?_
 refine laid_cons ⟨_, _, Tryz.func110, x_dev_right.2.1, by decide⟩ ?_
 refine laid_cons ⟨_, _, Tryz.func112, x_walk_Of.2.1, by decide⟩ ?_
 refine laid_cons ⟨_, _, Tryz.func113, x_super_Check.2.1, by decide⟩ ?_
 refine laid_cons ⟨_, _, Tryz.func114, x_super_Make.2.1, by decide⟩ ?_
 refine laid_cons ⟨_, _, Tryz.func115, x_super_layout.2.1, by decide⟩ ?_
 refine laid_cons ⟨_, _, Tryz.func123, x_super_Parse.2.1, by decide⟩ ?_
 refine laid_cons ⟨_, _, Tryz.func124, x_slices_Contains___int_int_.2.1, by decide⟩ ?_
 refine laid_cons ⟨_, _, Tryz.func125, x_record_Parse.2.1, by decide⟩ ?_
 refine laid_cons ⟨_, _, Tryz.func126, x___open_chain__may.2.1, by decide⟩ ?_
 refine laid_cons ⟨_, _, Tryz.func127, x___tree_Walk__goes.2.1, by decide⟩ ?_
 refine laid_cons ⟨_, _, Tryz.func128, x_slices_ContainsFunc___int_int_.2.1, by decide⟩ ?_
 refine laid_cons ⟨_, _, Tryz.func129, x_tree_Go_1.2.1, by decide⟩ ?_
 refine laid_cons ⟨_, _, Tryz.func130, x_open_beyond_1.2.1, by decide⟩ ?_
 refine laid_cons ⟨_, _, Tryz.func131, x_commit_may.2.1, by decide⟩ ?_
 refine laid_cons ⟨_, _, Tryz.func133, x_slices_Reverse___api_Record_api_Record_.2.1, by decide⟩ ?_
 refine laid_cons ⟨_, _, Tryz.func134, x_record_Bytes.2.1, by decide⟩ ?_
 refine laid_cons ⟨_, _, Tryz.func136, x_alloc_Free.2.1, by decide⟩ ?_
 refine laid_cons ⟨_, _, Tryz.func137, x_slices_IndexFunc___api_Io_api_Io_.2.1, by decide⟩ ?_
 refine laid_cons ⟨_, _, Tryz.func138, x_ref01_ParseSuper.2.1, by decide⟩ ?_
 refine laid_cons ⟨_, _, Tryz.func139, x_ref01_Block.2.1, by decide⟩ ?_
 refine laid_cons ⟨_, _, Tryz.func140, x_ref10_in.2.1, by decide⟩ ?_
 refine laid_cons ⟨_, _, Tryz.func141, x_ref10_has.2.1, by decide⟩ ?_
 refine laid_cons ⟨_, _, Tryz.func142, x_ref01_ParseRecord.2.1, by decide⟩ ?_
 refine laid_cons ⟨_, _, Tryz.func143, x___ref10_walk__node.2.1, by decide⟩ ?_
 refine laid_cons ⟨_, _, Tryz.func144, x_ref01_ParseNode.2.1, by decide⟩ ?_
 refine laid_cons ⟨_, _, Tryz.func145, x_ref01_RecordBytes.2.1, by decide⟩ ?_
 refine laid_cons ⟨_, _, Tryz.func146, x_ref01_Bytes.2.1, by decide⟩ ?_
 refine laid_cons ⟨_, _, Tryz.func147, x_ref01_seal.2.1, by decide⟩ ?_
 refine laid_cons ⟨_, _, Tryz.func148, x_node_Parse.2.1, by decide⟩ ?_
 refine laid_cons ⟨_, _, Tryz.func149, x_super_in.2.1, by decide⟩ ?_
 refine laid_cons ⟨_, _, Tryz.func150, x_le_Set.2.1, by decide⟩ ?_
 refine laid_cons ⟨_, _, Tryz.func151, x_crc_Seal.2.1, by decide⟩ ?_
 refine laid_cons ⟨_, _, Tryz.func152, x_super_Layout.2.1, by decide⟩ ?_
 refine laid_cons ⟨_, _, Tryz.func156, x_super_Read.2.1, by decide⟩ ?_
 refine laid_cons ⟨_, _, Tryz.func157, x_slices_Index___int_int_.2.1, by decide⟩ ?_
 refine laid_cons ⟨_, _, Tryz.func158, x_record_layout.2.1, by decide⟩ ?_
 refine laid_cons ⟨_, _, Tryz.func159, x_record_Check.2.1, by decide⟩ ?_
 refine laid_cons ⟨_, _, Tryz.func160, x___open_chain__may_1.2.1, by decide⟩ ?_
 refine laid_cons ⟨_, _, Tryz.func161, x_tree_At.2.1, by decide⟩ ?_
 refine laid_cons ⟨_, _, Tryz.func162, x_node_Under.2.1, by decide⟩ ?_
 refine laid_cons ⟨_, _, Tryz.func163, x_slices_IndexFunc___int_int_.2.1, by decide⟩ ?_
 refine laid_cons ⟨_, _, Tryz.func164, x_commit_may_1.2.1, by decide⟩ ?_
 refine laid_cons ⟨_, _, Tryz.func165, x_slices_Concat___int_int_.2.1, by decide⟩ ?_
 refine laid_cons ⟨_, _, Tryz.func166, x_commit_may_2.2.1, by decide⟩ ?_
 refine laid_cons ⟨_, _, Tryz.func167, x_commit_place.2.1, by decide⟩ ?_
 refine laid_cons ⟨_, _, Tryz.func168, x_alloc_right.2.1, by decide⟩ ?_
 refine laid_cons ⟨_, _, Tryz.func169, x_ref01_open.2.1, by decide⟩ ?_
 refine laid_cons ⟨_, _, Tryz.func170, x_ref01_Get8.2.1, by decide⟩ ?_
 refine laid_cons ⟨_, _, Tryz.func171, x_ref01_Get4.2.1, by decide⟩ ?_
 refine laid_cons ⟨_, _, Tryz.func172, x_ref01_Super.2.1, by decide⟩ ?_
 refine laid_cons ⟨_, _, Tryz.func173, x_ref01_Zeros.2.1, by decide⟩ ?_
 refine laid_cons ⟨_, _, Tryz.func174, x_ref01_Record.2.1, by decide⟩ ?_
 refine laid_cons ⟨_, _, Tryz.func175, x_ref01_Node.2.1, by decide⟩ ?_
 refine laid_cons ⟨_, _, Tryz.func176, x_ref01_Sum.2.1, by decide⟩ ?_
 refine laid_cons ⟨_, _, Tryz.func177, x_node_layout.2.1, by decide⟩ ?_
 refine laid_cons ⟨_, _, Tryz.func178, x_node_Check.2.1, by decide⟩ ?_
 refine laid_cons ⟨_, _, Tryz.func179, x_crc_Sum.2.1, by decide⟩ ?_
 refine laid_cons ⟨_, _, Tryz.func184, x_crc_Good.2.1, by decide⟩ ?_
 refine laid_cons ⟨_, _, Tryz.func185, x_le_Get.2.1, by decide⟩ ?_
 refine laid_cons ⟨_, _, Tryz.func186, x_le_Zeros.2.1, by decide⟩ ?_
 refine laid_cons ⟨_, _, Tryz.func187, x_node_Pointer.2.1, by decide⟩ ?_
 refine laid_cons ⟨_, _, Tryz.func188, x_record_Parents.2.1, by decide⟩ ?_
 refine laid_cons ⟨_, _, Tryz.func189, x_record_in.2.1, by decide⟩ ?_
 refine laid_cons ⟨_, _, Tryz.func190, x_slices_Grow___int_int_.2.1, by decide⟩ ?_
 refine laid_cons ⟨_, _, Tryz.func191, x_alloc_right_1.2.1, by decide⟩ ?_
 refine laid_cons ⟨_, _, Tryz.func192, x_ref01_Good.2.1, by decide⟩ ?_
 refine laid_cons ⟨_, _, Tryz.func193, x_ref01_Number.2.1, by decide⟩ ?_
 refine laid_cons ⟨_, _, Tryz.func194, x_ref01_link.2.1, by decide⟩ ?_
 refine laid_cons ⟨_, _, Tryz.func195, x_ref01_More.2.1, by decide⟩ ?_
 refine laid_cons ⟨_, _, Tryz.func196, x_crc_More.2.1, by decide⟩ ?_
 refine laid_cons ⟨_, _, Tryz.func202, x_le_right.2.1, by decide⟩ ?_
 refine laid_cons ⟨_, _, Tryz.func203, x_le_within.2.1, by decide⟩ ?_
 exact laid_nil
theorem B_law19_SnapExact : B n_law19_SnapExact = some law19_SnapExact := rfl
theorem B_law05_Heavy : B n_law05_Heavy = some law05_Heavy := rfl
theorem B_keep_Twin : B n_keep_Twin = some keep_Twin := rfl
theorem B_snap_Create : B n_snap_Create = some snap_Create := rfl
theorem B_snap_Delete : B n_snap_Delete = some snap_Delete := rfl
theorem B_snap_Rollback : B n_snap_Rollback = some snap_Rollback := rfl
theorem B_snap_List : B n_snap_List = some snap_List := rfl
theorem B_ref18_Create : B n_ref18_Create = some ref18_Create := rfl
theorem B_ref18_Delete : B n_ref18_Delete = some ref18_Delete := rfl
theorem B_ref18_Rollback : B n_ref18_Rollback = some ref18_Rollback := rfl
theorem B_ref18_List : B n_ref18_List = some ref18_List := rfl
theorem B_keep_Ios : B n_keep_Ios = some keep_Ios := rfl
theorem B_keep_Ints : B n_keep_Ints = some keep_Ints := rfl
theorem B_keep_Bytes : B n_keep_Bytes = some keep_Bytes := rfl
theorem B_law19_wakes : B n_law19_wakes = some law19_wakes := rfl
theorem B_dev_Apply : B n_dev_Apply = some dev_Apply := rfl
theorem B_open_New : B n_open_New = some open_New := rfl
theorem B_open_Find : B n_open_Find = some open_Find := rfl
theorem B_open_Look : B n_open_Look = some open_Look := rfl
theorem B_snap_create : B n_snap_create = some snap_create := rfl
theorem B_snap_Makes : B n_snap_Makes = some snap_Makes := rfl
theorem B_snap_find : B n_snap_find = some snap_find := rfl
theorem B_snap_pending : B n_snap_pending = some snap_pending := rfl
theorem B_commit_Steps : B n_commit_Steps = some commit_Steps := rfl
theorem B_ref10_Open : B n_ref10_Open = some ref10_Open := rfl
theorem B_ref01_Id : B n_ref01_Id = some ref01_Id := rfl
theorem B_ref18_pending : B n_ref18_pending = some ref18_pending := rfl
theorem B_ref18_Find : B n_ref18_Find = some ref18_Find := rfl
theorem B_ref18_chain : B n_ref18_chain = some ref18_chain := rfl
theorem B_ref10_Commit : B n_ref10_Commit = some ref10_Commit := rfl
theorem B_dev_Steps : B n_dev_Steps = some dev_Steps := rfl
theorem B_ref01_Blocks : B n_ref01_Blocks = some ref01_Blocks := rfl
theorem B_ref01_In : B n_ref01_In = some ref01_In := rfl
theorem B_dev_Of : B n_dev_Of = some dev_Of := rfl
theorem B_alloc_free : B n_alloc_free = some alloc_free := rfl
theorem B_super_Bytes : B n_super_Bytes = some super_Bytes := rfl
theorem B_slices_IndexFunc___api_Record_api_Record_ : B n_slices_IndexFunc___api_Record_api_Record_ = some slices_IndexFunc___api_Record_api_Record_ := rfl
theorem B_open_Find_1 : B n_open_Find_1 = some open_Find_1 := rfl
theorem B_dev_Check : B n_dev_Check = some dev_Check := rfl
theorem B_super_Pick : B n_super_Pick = some super_Pick := rfl
theorem B_open_follow : B n_open_follow = some open_follow := rfl
theorem B_tree_Go : B n_tree_Go = some tree_Go := rfl
theorem B_open_beyond : B n_open_beyond = some open_beyond := rfl
theorem B___open_Image__clash : B n___open_Image__clash = some __open_Image__clash := rfl
theorem B_ids_Check : B n_ids_Check = some ids_Check := rfl
theorem B_slices_ContainsFunc___api_Record_api_Record_ : B n_slices_ContainsFunc___api_Record_api_Record_ = some slices_ContainsFunc___api_Record_api_Record_ := rfl
theorem B_snap_create_1 : B n_snap_create_1 = some snap_create_1 := rfl
theorem B_commit_Records : B n_commit_Records = some commit_Records := rfl
theorem B_head_Free : B n_head_Free = some head_Free := rfl
theorem B_commit_ready : B n_commit_ready = some commit_ready := rfl
theorem B_slices_ContainsFunc___api_Io_api_Io_ : B n_slices_ContainsFunc___api_Io_api_Io_ = some slices_ContainsFunc___api_Io_api_Io_ := rfl
theorem B_commit_Steps_1 : B n_commit_Steps_1 = some commit_Steps_1 := rfl
theorem B_commit_write : B n_commit_write = some commit_write := rfl
theorem B_ref01_Pick : B n_ref01_Pick = some ref01_Pick := rfl
theorem B_ref10_Records : B n_ref10_Records = some ref10_Records := rfl
theorem B_ref10_Tree : B n_ref10_Tree = some ref10_Tree := rfl
theorem B_ref10_Free : B n_ref10_Free = some ref10_Free := rfl
theorem B_ref10_Counts : B n_ref10_Counts = some ref10_Counts := rfl
theorem B_ref10_Chain : B n_ref10_Chain = some ref10_Chain := rfl
theorem B_ref01_SuperBytes : B n_ref01_SuperBytes = some ref01_SuperBytes := rfl
theorem B_dev_Steps_1 : B n_dev_Steps_1 = some dev_Steps_1 := rfl
theorem B_dev_right : B n_dev_right = some dev_right := rfl
theorem B_walk_Of : B n_walk_Of = some walk_Of := rfl
theorem B_super_Check : B n_super_Check = some super_Check := rfl
theorem B_super_Make : B n_super_Make = some super_Make := rfl
theorem B_super_Parse : B n_super_Parse = some super_Parse := rfl
theorem B_slices_Contains___int_int_ : B n_slices_Contains___int_int_ = some slices_Contains___int_int_ := rfl
theorem B_record_Parse : B n_record_Parse = some record_Parse := rfl
theorem B___open_chain__may : B n___open_chain__may = some __open_chain__may := rfl
theorem B___tree_Walk__goes : B n___tree_Walk__goes = some __tree_Walk__goes := rfl
theorem B_slices_ContainsFunc___int_int_ : B n_slices_ContainsFunc___int_int_ = some slices_ContainsFunc___int_int_ := rfl
theorem B_tree_Go_1 : B n_tree_Go_1 = some tree_Go_1 := rfl
theorem B_open_beyond_1 : B n_open_beyond_1 = some open_beyond_1 := rfl
theorem B_commit_may : B n_commit_may = some commit_may := rfl
theorem B_slices_Reverse___api_Record_api_Record_ : B n_slices_Reverse___api_Record_api_Record_ = some slices_Reverse___api_Record_api_Record_ := rfl
theorem B_record_Bytes : B n_record_Bytes = some record_Bytes := rfl
theorem B_alloc_Free : B n_alloc_Free = some alloc_Free := rfl
theorem B_slices_IndexFunc___api_Io_api_Io_ : B n_slices_IndexFunc___api_Io_api_Io_ = some slices_IndexFunc___api_Io_api_Io_ := rfl
theorem B_ref01_ParseSuper : B n_ref01_ParseSuper = some ref01_ParseSuper := rfl
theorem B_ref01_Block : B n_ref01_Block = some ref01_Block := rfl
theorem B_ref10_in : B n_ref10_in = some ref10_in := rfl
theorem B_ref10_has : B n_ref10_has = some ref10_has := rfl
theorem B_ref01_ParseRecord : B n_ref01_ParseRecord = some ref01_ParseRecord := rfl
theorem B___ref10_walk__node : B n___ref10_walk__node = some __ref10_walk__node := rfl
theorem B_ref01_ParseNode : B n_ref01_ParseNode = some ref01_ParseNode := rfl
theorem B_ref01_RecordBytes : B n_ref01_RecordBytes = some ref01_RecordBytes := rfl
theorem B_ref01_Bytes : B n_ref01_Bytes = some ref01_Bytes := rfl
theorem B_ref01_seal : B n_ref01_seal = some ref01_seal := rfl
theorem B_node_Parse : B n_node_Parse = some node_Parse := rfl
theorem B_super_in : B n_super_in = some super_in := rfl
theorem B_le_Set : B n_le_Set = some le_Set := rfl
theorem B_crc_Seal : B n_crc_Seal = some crc_Seal := rfl
theorem B_super_Read : B n_super_Read = some super_Read := rfl
theorem B_slices_Index___int_int_ : B n_slices_Index___int_int_ = some slices_Index___int_int_ := rfl
theorem B_record_Check : B n_record_Check = some record_Check := rfl
theorem B___open_chain__may_1 : B n___open_chain__may_1 = some __open_chain__may_1 := rfl
theorem B_tree_At : B n_tree_At = some tree_At := rfl
theorem B_slices_IndexFunc___int_int_ : B n_slices_IndexFunc___int_int_ = some slices_IndexFunc___int_int_ := rfl
theorem B_commit_may_1 : B n_commit_may_1 = some commit_may_1 := rfl
theorem B_slices_Concat___int_int_ : B n_slices_Concat___int_int_ = some slices_Concat___int_int_ := rfl
theorem B_commit_may_2 : B n_commit_may_2 = some commit_may_2 := rfl
theorem B_commit_place : B n_commit_place = some commit_place := rfl
theorem B_alloc_right : B n_alloc_right = some alloc_right := rfl
theorem B_ref01_open : B n_ref01_open = some ref01_open := rfl
theorem B_ref01_Get8 : B n_ref01_Get8 = some ref01_Get8 := rfl
theorem B_ref01_Get4 : B n_ref01_Get4 = some ref01_Get4 := rfl
theorem B_ref01_Super : B n_ref01_Super = some ref01_Super := rfl
theorem B_ref01_Zeros : B n_ref01_Zeros = some ref01_Zeros := rfl
theorem B_ref01_Record : B n_ref01_Record = some ref01_Record := rfl
theorem B_ref01_Node : B n_ref01_Node = some ref01_Node := rfl
theorem B_ref01_Sum : B n_ref01_Sum = some ref01_Sum := rfl
theorem B_node_Check : B n_node_Check = some node_Check := rfl
theorem B_crc_Sum : B n_crc_Sum = some crc_Sum := rfl
theorem B_crc_Good : B n_crc_Good = some crc_Good := rfl
theorem B_le_Get : B n_le_Get = some le_Get := rfl
theorem B_le_Zeros : B n_le_Zeros = some le_Zeros := rfl
theorem B_node_Pointer : B n_node_Pointer = some node_Pointer := rfl
theorem B_record_Parents : B n_record_Parents = some record_Parents := rfl
theorem B_record_in : B n_record_in = some record_in := rfl
theorem B_slices_Grow___int_int_ : B n_slices_Grow___int_int_ = some slices_Grow___int_int_ := rfl
theorem B_alloc_right_1 : B n_alloc_right_1 = some alloc_right_1 := rfl
theorem B_ref01_Good : B n_ref01_Good = some ref01_Good := rfl
theorem B_ref01_Number : B n_ref01_Number = some ref01_Number := rfl
theorem B_ref01_link : B n_ref01_link = some ref01_link := rfl
theorem B_ref01_More : B n_ref01_More = some ref01_More := rfl
theorem B_crc_More : B n_crc_More = some crc_More := rfl
theorem B_le_right : B n_le_right = some le_right := rfl
theorem B_le_within : B n_le_within = some le_within := rfl
end Go.Proofs.YtkaiiopoilpjeaaGreat

