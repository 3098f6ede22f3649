import Derived.Test.YtkaiiopoilpjeaaMC
import Derived.KernelRfl
import Derived.Test.YtkaiiopoilpjeaaProg
set_option maxRecDepth 100000
set_option maxHeartbeats 4000000
namespace Go.Proofs.Ytkaiiopoilpjeaa
open Go.AI
abbrev n_law19_SnapMany : Nat := 3
abbrev n_open_New : Nat := 5
abbrev n_snap_Create : Nat := 6
abbrev n_dev_Apply : Nat := 7
abbrev n_snap_Delete : Nat := 8
abbrev n_law19_wakes : Nat := 9
abbrev n_snap_List : Nat := 10
abbrev n_keep_Ints : Nat := 12
abbrev n_super_Bytes : Nat := 14
abbrev n_open_Look : Nat := 15
abbrev n_snap_create : Nat := 16
abbrev n_snap_Makes : Nat := 17
abbrev n_dev_Steps : Nat := 18
abbrev n_slices_Clone___byte_byte_ : Nat := 19
abbrev n_dev_Of : Nat := 20
abbrev n_snap_find : Nat := 21
abbrev n_snap_pending : Nat := 22
abbrev n_snap_Rollback : Nat := 23
abbrev n_super_Check : Nat := 26
abbrev n_super_Make : Nat := 27
abbrev n_super_layout : Nat := 28
abbrev n_dev_Check : Nat := 29
abbrev n_super_Pick : Nat := 30
abbrev n_open_follow : Nat := 31
abbrev n_tree_Go : Nat := 32
abbrev n_open_beyond : Nat := 33
abbrev n___open_Image__clash : Nat := 34
abbrev n_ids_Check : Nat := 35
abbrev n_slices_ContainsFunc___api_Record_api_Record_ : Nat := 36
abbrev n_snap_create_1 : Nat := 37
abbrev n_commit_Records : Nat := 38
abbrev n_head_Free : Nat := 39
abbrev n_commit_Steps : Nat := 40
abbrev n_slices_ContainsFunc___api_Io_api_Io_ : Nat := 41
abbrev n_dev_Steps_1 : Nat := 42
abbrev n_dev_right : Nat := 43
abbrev n_open_Find : Nat := 44
abbrev n_super_in : Nat := 45
abbrev n_le_Set : Nat := 46
abbrev n_crc_Seal : Nat := 47
abbrev n_super_Parse : Nat := 49
abbrev n_slices_Contains___int_int_ : Nat := 50
abbrev n_record_Parse : Nat := 51
abbrev n___open_chain__may : Nat := 52
abbrev n___tree_Walk__goes : Nat := 53
abbrev n_slices_ContainsFunc___int_int_ : Nat := 54
abbrev n_tree_Go_1 : Nat := 55
abbrev n_open_beyond_1 : Nat := 56
abbrev n_slices_IndexFunc___api_Record_api_Record_ : Nat := 57
abbrev n_commit_may : Nat := 58
abbrev n_slices_Clone___api_Record_api_Record_ : Nat := 59
abbrev n_slices_Reverse___api_Record_api_Record_ : Nat := 60
abbrev n_record_Bytes : Nat := 61
abbrev n_slices_Clone___int_int_ : Nat := 62
abbrev n_alloc_Free : Nat := 63
abbrev n_walk_Of : Nat := 64
abbrev n_commit_ready : Nat := 65
abbrev n_commit_Steps_1 : Nat := 66
abbrev n_commit_write : Nat := 67
abbrev n_slices_IndexFunc___api_Io_api_Io_ : Nat := 68
abbrev n_open_Find_1 : Nat := 69
abbrev n_crc_Sum : Nat := 70
abbrev n_super_Read : Nat := 71
abbrev n_slices_Index___int_int_ : Nat := 72
abbrev n_record_layout : Nat := 73
abbrev n_record_Check : Nat := 74
abbrev n___open_chain__may_1 : Nat := 75
abbrev n_tree_At : Nat := 76
abbrev n_node_Under : Nat := 77
abbrev n_slices_IndexFunc___int_int_ : Nat := 78
abbrev n_commit_may_1 : Nat := 79
abbrev n_slices_Concat___int_int_ : Nat := 80
abbrev n_commit_may_2 : Nat := 81
abbrev n_commit_place : Nat := 82
abbrev n_alloc_right : Nat := 83
abbrev n_alloc_free : Nat := 84
abbrev n_node_Parse : Nat := 85
abbrev n_crc_More : Nat := 86
abbrev n_crc_Good : Nat := 87
abbrev n_le_Get : Nat := 88
abbrev n_le_Zeros : Nat := 89
abbrev n_node_Pointer : Nat := 90
abbrev n_record_Parents : Nat := 91
abbrev n_record_in : Nat := 92
abbrev n_slices_Grow___int_int_ : Nat := 93
abbrev n_alloc_right_1 : Nat := 94
abbrev n_node_layout : Nat := 95
abbrev n_node_Check : Nat := 96
abbrev n_le_right : Nat := 97
abbrev n_le_within : Nat := 98
def x_law19_SnapMany : Laying Try.prog [] Try.f3 := layIt
def law19_SnapMany : SFun := x_law19_SnapMany.1
def y_law19_SnapMany_l0 : Lp law19_SnapMany.code 0 := lpIt
def law19_SnapMany_l0 : SCode := y_law19_SnapMany_l0.1
def x_open_New : Laying Try.prog [(3, 2, ⟨0, .pure, false⟩)] Try.f5 := layIt
def open_New : SFun := x_open_New.1
def x_snap_Create : Laying Try.prog [(6, 14, ⟨0, .pure, false⟩)] Try.f6 := layIt
def snap_Create : SFun := x_snap_Create.1
def x_dev_Apply : Laying Try.prog [(4, 1, ⟨0, (.fresh 0), false⟩), (7, 2, ⟨1, .pure, false⟩), (9, 3, ⟨0, (.peek 2), false⟩)] Try.f7 := layIt
def dev_Apply : SFun := x_dev_Apply.1
def y_dev_Apply_l0 : Lp dev_Apply.code 0 := lpIt
def dev_Apply_l0 : SCode := y_dev_Apply_l0.1
def x_snap_Delete : Laying Try.prog [(7, 8, ⟨0, .pure, false⟩)] Try.f8 := layIt
def snap_Delete : SFun := x_snap_Delete.1
def x_law19_wakes : Laying Try.prog [(8, 21, ⟨0, .pure, false⟩)] Try.f9 := layIt
def law19_wakes : SFun := x_law19_wakes.1
def x_snap_List : Laying Try.prog [(0, 0, ⟨0, .pure, true⟩), (3, 1, ⟨1, .pure, true⟩), (4, 0, ⟨2, .pure, true⟩), (7, 2, ⟨3, .pure, false⟩), (9, 3, ⟨4, .pure, false⟩), (9, 4, ⟨5, .pure, false⟩)] Try.f10 := layIt
def snap_List : SFun := x_snap_List.1
def y_snap_List_l0 : Lp snap_List.code 0 := lpIt
def snap_List_l0 : SCode := y_snap_List_l0.1
def x_keep_Ints : Laying Try.prog [] Try.f12 := layIt
def keep_Ints : SFun := x_keep_Ints.1
def y_keep_Ints_l0 : Lp keep_Ints.code 0 := lpIt
def keep_Ints_l0 : SCode := y_keep_Ints_l0.1
def x_super_Bytes : Laying Try.prog [(0, 0, ⟨0, .pure, false⟩), (4, 11, ⟨1, .pure, false⟩)] Try.f14 := layIt
def super_Bytes : SFun := x_super_Bytes.1
def x_open_Look : Laying Try.prog [(4, 1, ⟨0, .pure, false⟩), (12, 6, ⟨1, .pure, false⟩), (12, 13, ⟨2, .pure, false⟩), (15, 2, ⟨3, .pure, false⟩), (16, 3, ⟨4, .pure, false⟩), (16, 4, ⟨5, .pure, false⟩), (16, 8, ⟨6, .pure, false⟩), (16, 9, ⟨7, .pure, false⟩), (24, 6, ⟨8, .pure, false⟩), (24, 7, ⟨9, .pure, false⟩)] Try.f15 := layIt
def open_Look : SFun := x_open_Look.1
def y_open_Look_l0 : Lp open_Look.code 0 := lpIt
def open_Look_l0 : SCode := y_open_Look_l0.1
def y_open_Look_l1 : Lp open_Look.code 1 := lpIt
def open_Look_l1 : SCode := y_open_Look_l1.1
def x_snap_create : Laying Try.prog [(0, 0, ⟨0, .pure, false⟩), (0, 1, ⟨1, .pure, false⟩), (1, 5, ⟨2, .pure, false⟩)] Try.f16 := layIt
def snap_create : SFun := x_snap_create.1
def x_snap_Makes : Laying Try.prog [(0, 0, ⟨0, .pure, false⟩), (1, 5, ⟨1, .pure, false⟩)] Try.f17 := layIt
def snap_Makes : SFun := x_snap_Makes.1
def x_dev_Steps : Laying Try.prog [(1, 5, ⟨0, .pure, false⟩)] Try.f18 := layIt
def dev_Steps : SFun := x_dev_Steps.1
def x_slices_Clone___byte_byte_ : Laying Try.prog [(0, 0, ⟨0, .pure, true⟩), (2, 0, ⟨1, .pure, true⟩), (3, 2, ⟨2, .pure, false⟩)] Try.f19 := layIt
def slices_Clone___byte_byte_ : SFun := x_slices_Clone___byte_byte_.1
def x_dev_Of : Laying Try.prog [] Try.f20 := layIt
def dev_Of : SFun := x_dev_Of.1
def x_snap_find : Laying Try.prog [(0, 0, ⟨0, .pure, false⟩)] Try.f21 := layIt
def snap_find : SFun := x_snap_find.1
def x_snap_pending : Laying Try.prog [(0, 0, ⟨0, .pure, false⟩), (0, 1, ⟨1, .pure, false⟩)] Try.f22 := layIt
def snap_pending : SFun := x_snap_pending.1
def x_snap_Rollback : Laying Try.prog [(7, 8, ⟨0, .pure, false⟩)] Try.f23 := layIt
def snap_Rollback : SFun := x_snap_Rollback.1
def x_super_Check : Laying Try.prog [(0, 0, ⟨0, .pure, false⟩)] Try.f26 := layIt
def super_Check : SFun := x_super_Check.1
def x_super_Make : Laying Try.prog [(1, 0, ⟨0, .pure, false⟩), (5, 3, ⟨1, .pure, false⟩), (6, 9, ⟨0, (.inl 2), false⟩), (8, 1, ⟨0, (.inl 2), false⟩)] Try.f27 := layIt
def super_Make : SFun := x_super_Make.1
def x_super_layout : Laying Try.prog [(1, 0, ⟨0, .pure, false⟩)] Try.f28 := layIt
def super_layout : SFun := x_super_layout.1
def x_dev_Check : Laying Try.prog [] Try.f29 := layIt
def dev_Check : SFun := x_dev_Check.1
def x_super_Pick : Laying Try.prog [(0, 0, ⟨0, .pure, false⟩), (8, 2, ⟨0, (.inl 1), false⟩), (8, 7, ⟨1, .pure, false⟩)] Try.f30 := layIt
def super_Pick : SFun := x_super_Pick.1
def x_open_follow : Laying Try.prog [(2, 1, ⟨0, .pure, false⟩), (8, 2, ⟨0, (.inl 1), false⟩), (8, 7, ⟨1, .pure, false⟩), (13, 8, ⟨2, .pure, false⟩), (13, 9, ⟨3, .pure, false⟩), (13, 15, ⟨4, .pure, false⟩), (13, 16, ⟨5, .pure, false⟩)] Try.f31 := layIt
def open_follow : SFun := x_open_follow.1
def y_open_follow_l0 : Lp open_follow.code 0 := lpIt
def open_follow_l0 : SCode := y_open_follow_l0.1
def x_tree_Go : Laying Try.prog [(2, 2, ⟨0, .pure, false⟩), (2, 4, ⟨1, .pure, false⟩), (2, 5, ⟨2, .pure, false⟩), (5, 2, ⟨0, (.inl 3), false⟩)] Try.f32 := layIt
def tree_Go : SFun := x_tree_Go.1
def x_open_beyond : Laying Try.prog [] Try.f33 := layIt
def open_beyond : SFun := x_open_beyond.1
def x___open_Image__clash : Laying Try.prog [(1, 1, ⟨0, .pure, false⟩), (1, 3, ⟨1, .pure, false⟩), (1, 5, ⟨2, .pure, false⟩), (1, 7, ⟨3, .pure, false⟩)] Try.f34 := layIt
def __open_Image__clash : SFun := x___open_Image__clash.1
def y___open_Image__clash_l0 : Lp __open_Image__clash.code 0 := lpIt
def __open_Image__clash_l0 : SCode := y___open_Image__clash_l0.1
def y___open_Image__clash_l1 : Lp __open_Image__clash.code 1 := lpIt
def __open_Image__clash_l1 : SCode := y___open_Image__clash_l1.1
def y___open_Image__clash_l2 : Lp __open_Image__clash.code 2 := lpIt
def __open_Image__clash_l2 : SCode := y___open_Image__clash_l2.1
def y___open_Image__clash_l3 : Lp __open_Image__clash.code 3 := lpIt
def __open_Image__clash_l3 : SCode := y___open_Image__clash_l3.1
def y___open_Image__clash_l4 : Lp __open_Image__clash.code 4 := lpIt
def __open_Image__clash_l4 : SCode := y___open_Image__clash_l4.1
def x_ids_Check : Laying Try.prog [] Try.f35 := layIt
def ids_Check : SFun := x_ids_Check.1
def x_slices_ContainsFunc___api_Record_api_Record_ : Laying Try.prog [] Try.f36 := layIt
def slices_ContainsFunc___api_Record_api_Record_ : SFun := x_slices_ContainsFunc___api_Record_api_Record_.1
def x_snap_create_1 : Laying Try.prog [(0, 0, ⟨0, .pure, false⟩)] Try.f37 := layIt
def snap_create_1 : SFun := x_snap_create_1.1
def x_commit_Records : Laying Try.prog [(0, 0, ⟨0, .pure, false⟩), (0, 1, ⟨1, .pure, true⟩), (0, 3, ⟨2, .pure, true⟩), (2, 0, ⟨3, .pure, true⟩), (2, 2, ⟨4, .pure, true⟩), (3, 5, ⟨0, (.fresh 5), false⟩), (4, 1, ⟨0, (.inl 6), false⟩), (6, 2, ⟨6, .pure, false⟩), (6, 3, ⟨7, .pure, false⟩), (8, 0, ⟨8, .pure, true⟩), (8, 2, ⟨9, .pure, true⟩), (13, 3, ⟨10, .pure, false⟩), (17, 4, ⟨11, .pure, false⟩), (17, 5, ⟨12, .pure, false⟩)] Try.f38 := layIt
def commit_Records : SFun := x_commit_Records.1
def y_commit_Records_l0 : Lp commit_Records.code 0 := lpIt
def commit_Records_l0 : SCode := y_commit_Records_l0.1
def x_head_Free : Laying Try.prog [] Try.f39 := layIt
def head_Free : SFun := x_head_Free.1
def x_commit_Steps : Laying Try.prog [(0, 0, ⟨0, .pure, false⟩), (0, 1, ⟨1, .pure, true⟩), (2, 0, ⟨2, .pure, true⟩), (3, 11, ⟨3, .pure, false⟩), (6, 0, ⟨4, .pure, true⟩), (7, 0, ⟨5, .pure, true⟩), (10, 2, ⟨6, .pure, false⟩), (11, 7, ⟨7, .pure, false⟩), (11, 8, ⟨8, .pure, false⟩), (13, 1, ⟨9, .pure, false⟩), (14, 8, ⟨10, .pure, false⟩), (14, 9, ⟨11, .pure, false⟩)] Try.f40 := layIt
def commit_Steps : SFun := x_commit_Steps.1
def y_commit_Steps_l0 : Lp commit_Steps.code 0 := lpIt
def commit_Steps_l0 : SCode := y_commit_Steps_l0.1
def x_slices_ContainsFunc___api_Io_api_Io_ : Laying Try.prog [] Try.f41 := layIt
def slices_ContainsFunc___api_Io_api_Io_ : SFun := x_slices_ContainsFunc___api_Io_api_Io_.1
def x_dev_Steps_1 : Laying Try.prog [(0, 0, ⟨0, .pure, false⟩)] Try.f42 := layIt
def dev_Steps_1 : SFun := x_dev_Steps_1.1
def x_dev_right : Laying Try.prog [(0, 0, ⟨0, .pure, false⟩)] Try.f43 := layIt
def dev_right : SFun := x_dev_right.1
def x_open_Find : Laying Try.prog [(0, 0, ⟨0, .pure, false⟩), (0, 1, ⟨1, .pure, false⟩)] Try.f44 := layIt
def open_Find : SFun := x_open_Find.1
def x_super_in : Laying Try.prog [] Try.f45 := layIt
def super_in : SFun := x_super_in.1
def x_le_Set : Laying Try.prog [] Try.f46 := layIt
def le_Set : SFun := x_le_Set.1
def y_le_Set_l0 : Lp le_Set.code 0 := lpIt
def le_Set_l0 : SCode := y_le_Set_l0.1
def x_crc_Seal : Laying Try.prog [(1, 6, ⟨0, (.inl 0), false⟩)] Try.f47 := layIt
def crc_Seal : SFun := x_crc_Seal.1
def x_super_Layout : Laying Try.prog [(0, 0, ⟨0, .pure, true⟩), (1, 0, ⟨1, .pure, true⟩), (6, 4, ⟨2, .pure, false⟩), (6, 5, ⟨3, .pure, false⟩)] Try.f48 := layIt
def super_Layout : SFun := x_super_Layout.1
def x_super_Parse : Laying Try.prog [(0, 0, ⟨0, .pure, false⟩), (4, 16, ⟨1, .pure, false⟩)] Try.f49 := layIt
def super_Parse : SFun := x_super_Parse.1
def x_slices_Contains___int_int_ : Laying Try.prog [] Try.f50 := layIt
def slices_Contains___int_int_ : SFun := x_slices_Contains___int_int_.1
def x_record_Parse : Laying Try.prog [(0, 0, ⟨0, .pure, false⟩), (4, 25, ⟨1, .pure, false⟩)] Try.f51 := layIt
def record_Parse : SFun := x_record_Parse.1
def x___open_chain__may : Laying Try.prog [(0, 0, ⟨0, .pure, false⟩)] Try.f52 := layIt
def __open_chain__may : SFun := x___open_chain__may.1
def x___tree_Walk__goes : Laying Try.prog [(0, 14, ⟨0, .pure, false⟩), (3, 6, ⟨1, .pure, false⟩), (3, 7, ⟨2, .pure, false⟩), (14, 5, ⟨0, (.inl 3), false⟩)] Try.f53 := layIt
def __tree_Walk__goes : SFun := x___tree_Walk__goes.1
def x_slices_ContainsFunc___int_int_ : Laying Try.prog [] Try.f54 := layIt
def slices_ContainsFunc___int_int_ : SFun := x_slices_ContainsFunc___int_int_.1
def x_tree_Go_1 : Laying Try.prog [] Try.f55 := layIt
def tree_Go_1 : SFun := x_tree_Go_1.1
def x_open_beyond_1 : Laying Try.prog [] Try.f56 := layIt
def open_beyond_1 : SFun := x_open_beyond_1.1
def x_slices_IndexFunc___api_Record_api_Record_ : Laying Try.prog [] Try.f57 := layIt
def slices_IndexFunc___api_Record_api_Record_ : SFun := x_slices_IndexFunc___api_Record_api_Record_.1
def x_commit_may : Laying Try.prog [(0, 0, ⟨0, .pure, false⟩), (4, 4, ⟨1, .pure, false⟩)] Try.f58 := layIt
def commit_may : SFun := x_commit_may.1
def y_commit_may_l0 : Lp commit_may.code 0 := lpIt
def commit_may_l0 : SCode := y_commit_may_l0.1
def x_slices_Clone___api_Record_api_Record_ : Laying Try.prog [(0, 0, ⟨0, .pure, true⟩), (2, 0, ⟨1, .pure, true⟩), (3, 2, ⟨2, .pure, false⟩)] Try.f59 := layIt
def slices_Clone___api_Record_api_Record_ : SFun := x_slices_Clone___api_Record_api_Record_.1
def x_slices_Reverse___api_Record_api_Record_ : Laying Try.prog [] Try.f60 := layIt
def slices_Reverse___api_Record_api_Record_ : SFun := x_slices_Reverse___api_Record_api_Record_.1
def x_record_Bytes : Laying Try.prog [(0, 0, ⟨0, .pure, false⟩), (4, 17, ⟨1, .pure, false⟩)] Try.f61 := layIt
def record_Bytes : SFun := x_record_Bytes.1
def x_slices_Clone___int_int_ : Laying Try.prog [(0, 0, ⟨0, .pure, true⟩), (2, 0, ⟨1, .pure, true⟩), (3, 2, ⟨2, .pure, false⟩)] Try.f62 := layIt
def slices_Clone___int_int_ : SFun := x_slices_Clone___int_int_.1
def x_alloc_Free : Laying Try.prog [] Try.f63 := layIt
def alloc_Free : SFun := x_alloc_Free.1
def x_walk_Of : Laying Try.prog [(0, 0, ⟨0, .pure, true⟩), (2, 1, ⟨1, .pure, false⟩), (13, 6, ⟨2, .pure, false⟩), (16, 2, ⟨3, .pure, false⟩), (17, 3, ⟨4, .pure, false⟩), (17, 4, ⟨5, .pure, false⟩), (19, 1, ⟨6, .pure, false⟩), (30, 2, ⟨0, (.inl 7), false⟩), (30, 7, ⟨7, .pure, false⟩)] Try.f64 := layIt
def walk_Of : SFun := x_walk_Of.1
def y_walk_Of_l0 : Lp walk_Of.code 0 := lpIt
def walk_Of_l0 : SCode := y_walk_Of_l0.1
def y_walk_Of_l1 : Lp walk_Of.code 1 := lpIt
def walk_Of_l1 : SCode := y_walk_Of_l1.1
def y_walk_Of_l2 : Lp walk_Of.code 2 := lpIt
def walk_Of_l2 : SCode := y_walk_Of_l2.1
def y_walk_Of_l3 : Lp walk_Of.code 3 := lpIt
def walk_Of_l3 : SCode := y_walk_Of_l3.1
def y_walk_Of_l4 : Lp walk_Of.code 4 := lpIt
def walk_Of_l4 : SCode := y_walk_Of_l4.1
def y_walk_Of_l5 : Lp walk_Of.code 5 := lpIt
def walk_Of_l5 : SCode := y_walk_Of_l5.1
def x_commit_ready : Laying Try.prog [(0, 0, ⟨0, .pure, false⟩)] Try.f65 := layIt
def commit_ready : SFun := x_commit_ready.1
def x_commit_Steps_1 : Laying Try.prog [(0, 0, ⟨0, .pure, false⟩)] Try.f66 := layIt
def commit_Steps_1 : SFun := x_commit_Steps_1.1
def x_commit_write : Laying Try.prog [(0, 0, ⟨0, .pure, false⟩)] Try.f67 := layIt
def commit_write : SFun := x_commit_write.1
def x_slices_IndexFunc___api_Io_api_Io_ : Laying Try.prog [] Try.f68 := layIt
def slices_IndexFunc___api_Io_api_Io_ : SFun := x_slices_IndexFunc___api_Io_api_Io_.1
def x_open_Find_1 : Laying Try.prog [(0, 0, ⟨0, .pure, false⟩)] Try.f69 := layIt
def open_Find_1 : SFun := x_open_Find_1.1
def x_crc_Sum : Laying Try.prog [] Try.f70 := layIt
def crc_Sum : SFun := x_crc_Sum.1
def x_super_Read : Laying Try.prog [(0, 0, ⟨0, .pure, true⟩), (2, 0, ⟨1, .pure, true⟩), (4, 0, ⟨2, .pure, true⟩), (6, 0, ⟨3, .pure, true⟩), (7, 0, ⟨4, .pure, true⟩), (11, 2, ⟨5, .pure, false⟩), (14, 0, ⟨6, .pure, true⟩), (15, 2, ⟨7, .pure, false⟩), (15, 3, ⟨8, .pure, false⟩), (19, 0, ⟨9, .pure, true⟩)] Try.f71 := layIt
def super_Read : SFun := x_super_Read.1
def x_slices_Index___int_int_ : Laying Try.prog [] Try.f72 := layIt
def slices_Index___int_int_ : SFun := x_slices_Index___int_int_.1
def x_record_layout : Laying Try.prog [(1, 0, ⟨0, .pure, false⟩)] Try.f73 := layIt
def record_layout : SFun := x_record_layout.1
def x_record_Check : Laying Try.prog [(0, 0, ⟨0, .pure, false⟩)] Try.f74 := layIt
def record_Check : SFun := x_record_Check.1
def x___open_chain__may_1 : Laying Try.prog [(0, 0, ⟨0, .pure, false⟩)] Try.f75 := layIt
def __open_chain__may_1 : SFun := x___open_chain__may_1.1
def x_tree_At : Laying Try.prog [(0, 0, ⟨0, .pure, false⟩), (3, 2, ⟨0, (.inl 1), false⟩), (3, 7, ⟨1, .pure, false⟩)] Try.f76 := layIt
def tree_At : SFun := x_tree_At.1
def x_node_Under : Laying Try.prog [] Try.f77 := layIt
def node_Under : SFun := x_node_Under.1
def x_slices_IndexFunc___int_int_ : Laying Try.prog [] Try.f78 := layIt
def slices_IndexFunc___int_int_ : SFun := x_slices_IndexFunc___int_int_.1
def x_commit_may_1 : Laying Try.prog [(0, 0, ⟨0, .pure, false⟩)] Try.f79 := layIt
def commit_may_1 : SFun := x_commit_may_1.1
def x_slices_Concat___int_int_ : Laying Try.prog [(0, 0, ⟨0, .pure, true⟩), (9, 1, ⟨0, (.inl 1), false⟩), (13, 2, ⟨3, .pure, false⟩)] Try.f80 := layIt
def slices_Concat___int_int_ : SFun := x_slices_Concat___int_int_.1
def x_commit_may_2 : Laying Try.prog [] Try.f81 := layIt
def commit_may_2 : SFun := x_commit_may_2.1
def x_commit_place : Laying Try.prog [] Try.f82 := layIt
def commit_place : SFun := x_commit_place.1
def x_alloc_right : Laying Try.prog [] Try.f83 := layIt
def alloc_right : SFun := x_alloc_right.1
def x_alloc_free : Laying Try.prog [(0, 0, ⟨0, .pure, true⟩), (1, 0, ⟨1, .pure, true⟩), (6, 2, ⟨2, .pure, false⟩), (6, 3, ⟨3, .pure, false⟩)] Try.f84 := layIt
def alloc_free : SFun := x_alloc_free.1
def x_node_Parse : Laying Try.prog [(0, 0, ⟨0, .pure, false⟩), (4, 4, ⟨1, .pure, true⟩)] Try.f85 := layIt
def node_Parse : SFun := x_node_Parse.1
def x_crc_More : Laying Try.prog [] Try.f86 := layIt
def crc_More : SFun := x_crc_More.1
def y_crc_More_l0 : Lp crc_More.code 0 := lpIt
def crc_More_l0 : SCode := y_crc_More_l0.1
def y_crc_More_l1 : Lp crc_More.code 1 := lpIt
def crc_More_l1 : SCode := y_crc_More_l1.1
def x_crc_Good : Laying Try.prog [] Try.f87 := layIt
def crc_Good : SFun := x_crc_Good.1
def x_le_Get : Laying Try.prog [] Try.f88 := layIt
def le_Get : SFun := x_le_Get.1
def y_le_Get_l0 : Lp le_Get.code 0 := lpIt
def le_Get_l0 : SCode := y_le_Get_l0.1
def x_le_Zeros : Laying Try.prog [] Try.f89 := layIt
def le_Zeros : SFun := x_le_Zeros.1
def x_node_Pointer : Laying Try.prog [] Try.f90 := layIt
def node_Pointer : SFun := x_node_Pointer.1
def x_record_Parents : Laying Try.prog [] Try.f91 := layIt
def record_Parents : SFun := x_record_Parents.1
def x_record_in : Laying Try.prog [] Try.f92 := layIt
def record_in : SFun := x_record_in.1
def x_slices_Grow___int_int_ : Laying Try.prog [(0, 0, ⟨0, .pure, true⟩), (5, 5, ⟨1, .pure, false⟩)] Try.f93 := layIt
def slices_Grow___int_int_ : SFun := x_slices_Grow___int_int_.1
def x_alloc_right_1 : Laying Try.prog [] Try.f94 := layIt
def alloc_right_1 : SFun := x_alloc_right_1.1
def x_node_layout : Laying Try.prog [(1, 0, ⟨0, .pure, false⟩)] Try.f95 := layIt
def node_layout : SFun := x_node_layout.1
def x_node_Check : Laying Try.prog [(0, 0, ⟨0, .pure, false⟩)] Try.f96 := layIt
def node_Check : SFun := x_node_Check.1
def x_le_right : Laying Try.prog [] Try.f97 := layIt
def le_right : SFun := x_le_right.1
def x_le_within : Laying Try.prog [] Try.f98 := layIt
def le_within : SFun := x_le_within.1
def tab : List (Nat × SFun) := [(3, law19_SnapMany), (5, open_New), (6, snap_Create), (7, dev_Apply), (8, snap_Delete), (9, law19_wakes), (10, snap_List), (12, keep_Ints), (14, super_Bytes), (15, open_Look), (16, snap_create), (17, snap_Makes), (18, dev_Steps), (20, dev_Of), (21, snap_find), (22, snap_pending), (23, snap_Rollback), (26, super_Check), (27, super_Make), (28, super_layout), (29, dev_Check), (30, super_Pick), (31, open_follow), (32, tree_Go), (33, open_beyond), (34, __open_Image__clash), (35, ids_Check), (36, slices_ContainsFunc___api_Record_api_Record_), (37, snap_create_1), (38, commit_Records), (39, head_Free), (40, commit_Steps), (41, slices_ContainsFunc___api_Io_api_Io_), (42, dev_Steps_1), (43, dev_right), (44, open_Find), (45, super_in), (46, le_Set), (47, crc_Seal), (48, super_Layout), (49, super_Parse), (50, slices_Contains___int_int_), (51, record_Parse), (52, __open_chain__may), (53, __tree_Walk__goes), (54, slices_ContainsFunc___int_int_), (55, tree_Go_1), (56, open_beyond_1), (57, slices_IndexFunc___api_Record_api_Record_), (58, commit_may), (60, slices_Reverse___api_Record_api_Record_), (61, record_Bytes), (63, alloc_Free), (64, walk_Of), (65, commit_ready), (66, commit_Steps_1), (67, commit_write), (68, slices_IndexFunc___api_Io_api_Io_), (69, open_Find_1), (70, crc_Sum), (71, super_Read), (72, slices_Index___int_int_), (73, record_layout), (74, record_Check), (75, __open_chain__may_1), (76, tree_At), (77, node_Under), (78, slices_IndexFunc___int_int_), (79, commit_may_1), (80, slices_Concat___int_int_), (81, commit_may_2), (82, commit_place), (83, alloc_right), (84, alloc_free), (85, node_Parse), (86, crc_More), (87, crc_Good), (88, le_Get), (89, le_Zeros), (90, node_Pointer), (91, record_Parents), (92, record_in), (93, slices_Grow___int_int_), (94, alloc_right_1), (95, node_layout), (96, node_Check), (97, le_right), (98, le_within)]
def B : Prog := Go.AI.look tab
theorem laid : Laid Try.prog (Go.AI.look tab) := by
 refine laid_cons ⟨_, _, Try.func3, x_law19_SnapMany.2.1, by decide⟩ ?_
 refine laid_cons ⟨_, _, Try.func5, x_open_New.2.1, by decide⟩ ?_
 refine laid_cons ⟨_, _, Try.func6, x_snap_Create.2.1, by decide⟩ ?_
 refine laid_cons ⟨_, _, Try.func7, x_dev_Apply.2.1, by decide⟩ ?_
 refine laid_cons ⟨_, _, Try.func8, x_snap_Delete.2.1, by decide⟩ ?_
 refine laid_cons ⟨_, _, Try.func9, x_law19_wakes.2.1, by decide⟩ ?_
 refine laid_cons ⟨_, _, Try.func10, x_snap_List.2.1, by decide⟩ ?_
 refine laid_cons ⟨_, _, Try.func12, x_keep_Ints.2.1, by decide⟩ ?_
 refine laid_cons ⟨_, _, Try.func14, x_super_Bytes.2.1, by decide⟩ ?_
 refine laid_cons ⟨_, _, Try.func15, x_open_Look.2.1, by decide⟩ ?_
 refine laid_cons ⟨_, _, Try.func16, x_snap_create.2.1, by decide⟩ ?_
 refine laid_cons ⟨_, _, Try.func17, x_snap_Makes.2.1, by decide⟩ ?_
 refine laid_cons ⟨_, _, Try.func18, x_dev_Steps.2.1, by decide⟩ ?_
 refine laid_cons ⟨_, _, Try.func20, x_dev_Of.2.1, by decide⟩ ?_
 refine laid_cons ⟨_, _, Try.func21, x_snap_find.2.1, by decide⟩ ?_
 refine laid_cons ⟨_, _, Try.func22, x_snap_pending.2.1, by decide⟩ ?_
 refine laid_cons ⟨_, _, Try.func23, x_snap_Rollback.2.1, by decide⟩ ?_
 refine laid_cons ⟨_, _, Try.func26, x_super_Check.2.1, by decide⟩ ?_
 refine laid_cons ⟨_, _, Try.func27, x_super_Make.2.1, by decide⟩ ?_
 refine laid_cons ⟨_, _, Try.func28, x_super_layout.2.1, by decide⟩ ?_
 refine laid_cons ⟨_, _, Try.func29, x_dev_Check.2.1, by decide⟩ ?_
 refine laid_cons ⟨_, _, Try.func30, x_super_Pick.2.1, by decide⟩ ?_
 refine laid_cons ⟨_, _, Try.func31, x_open_follow.2.1, by decide⟩ ?_
 refine laid_cons ⟨_, _, Try.func32, x_tree_Go.2.1, by decide⟩ ?_
 refine laid_cons ⟨_, _, Try.func33, x_open_beyond.2.1, by decide⟩ ?_
 refine laid_cons ⟨_, _, Try.func34, x___open_Image__clash.2.1, by decide⟩ ?_
 refine laid_cons ⟨_, _, Try.func35, x_ids_Check.2.1, by decide⟩ ?_
 refine laid_cons ⟨_, _, Try.func36, x_slices_ContainsFunc___api_Record_api_Record_.2.1, by decide⟩ ?_
 refine laid_cons ⟨_, _, Try.func37, x_snap_create_1.2.1, by decide⟩ ?_
 refine laid_cons ⟨_, _, Try.func38, x_commit_Records.2.1, by decide⟩ ?_
 refine laid_cons ⟨_, _, Try.func39, x_head_Free.2.1, by decide⟩ ?_
 refine laid_cons ⟨_, _, Try.func40, x_commit_Steps.2.1, by decide⟩ ?_
 refine laid_cons ⟨_, _, Try.func41, x_slices_ContainsFunc___api_Io_api_Io_.2.1, by decide⟩ ?_
 refine laid_cons ⟨_, _, Try.func42, x_dev_Steps_1.2.1, by decide⟩ ?_
 refine laid_cons ⟨_, _, Try.func43, x_dev_right.2.1, by decide⟩ ?_
 refine laid_cons ⟨_, _, Try.func44, x_open_Find.2.1, by decide⟩ ?_
 refine laid_cons ⟨_, _, Try.func45, x_super_in.2.1, by decide⟩ ?_
 refine laid_cons ⟨_, _, Try.func46, x_le_Set.2.1, by decide⟩ ?_
 refine laid_cons ⟨_, _, Try.func47, x_crc_Seal.2.1, by decide⟩ ?_
 refine laid_cons ⟨_, _, Try.func48, x_super_Layout.2.1, by decide⟩ ?_
 refine laid_cons ⟨_, _, Try.func49, x_super_Parse.2.1, by decide⟩ ?_
 refine laid_cons ⟨_, _, Try.func50, x_slices_Contains___int_int_.2.1, by decide⟩ ?_
 refine laid_cons ⟨_, _, Try.func51, x_record_Parse.2.1, by decide⟩ ?_
 refine laid_cons ⟨_, _, Try.func52, x___open_chain__may.2.1, by decide⟩ ?_
 refine laid_cons ⟨_, _, Try.func53, x___tree_Walk__goes.2.1, by decide⟩ ?_
 refine laid_cons ⟨_, _, Try.func54, x_slices_ContainsFunc___int_int_.2.1, by decide⟩ ?_
 refine laid_cons ⟨_, _, Try.func55, x_tree_Go_1.2.1, by decide⟩ ?_
 refine laid_cons ⟨_, _, Try.func56, x_open_beyond_1.2.1, by decide⟩ ?_
 refine laid_cons ⟨_, _, Try.func57, x_slices_IndexFunc___api_Record_api_Record_.2.1, by decide⟩ ?_
 refine laid_cons ⟨_, _, Try.func58, x_commit_may.2.1, by decide⟩ ?_
 refine laid_cons ⟨_, _, Try.func60, x_slices_Reverse___api_Record_api_Record_.2.1, by decide⟩ ?_
 refine laid_cons ⟨_, _, Try.func61, x_record_Bytes.2.1, by decide⟩ ?_
 refine laid_cons ⟨_, _, Try.func63, x_alloc_Free.2.1, by decide⟩ ?_
 refine laid_cons ⟨_, _, Try.func64, x_walk_Of.2.1, by decide⟩ ?_
 refine laid_cons ⟨_, _, Try.func65, x_commit_ready.2.1, by decide⟩ ?_
 refine laid_cons ⟨_, _, Try.func66, x_commit_Steps_1.2.1, by decide⟩ ?_
 refine laid_cons ⟨_, _, Try.func67, x_commit_write.2.1, by decide⟩ ?_
 refine laid_cons ⟨_, _, Try.func68, x_slices_IndexFunc___api_Io_api_Io_.2.1, by decide⟩ ?_
 refine laid_cons ⟨_, _, Try.func69, x_open_Find_1.2.1, by decide⟩ ?_
 refine laid_cons ⟨_, _, Try.func70, x_crc_Sum.2.1, by decide⟩ ?_
 refine laid_cons ⟨_, _, Try.func71, x_super_Read.2.1, by decide⟩ ?_
 refine laid_cons ⟨_, _, Try.func72, x_slices_Index___int_int_.2.1, by decide⟩ ?_
 refine laid_cons ⟨_, _, Try.func73, x_record_layout.2.1, by decide⟩ ?_
 refine laid_cons ⟨_, _, Try.func74, x_record_Check.2.1, by decide⟩ ?_
 refine laid_cons ⟨_, _, Try.func75, x___open_chain__may_1.2.1, by decide⟩ ?_
 refine laid_cons ⟨_, _, Try.func76, x_tree_At.2.1, by decide⟩ ?_
 refine laid_cons ⟨_, _, Try.func77, x_node_Under.2.1, by decide⟩ ?_
 refine laid_cons ⟨_, _, Try.func78, x_slices_IndexFunc___int_int_.2.1, by decide⟩ ?_
 refine laid_cons ⟨_, _, Try.func79, x_commit_may_1.2.1, by decide⟩ ?_
 refine laid_cons ⟨_, _, Try.func80, x_slices_Concat___int_int_.2.1, by decide⟩ ?_
 refine laid_cons ⟨_, _, Try.func81, x_commit_may_2.2.1, by decide⟩ ?_
 refine laid_cons ⟨_, _, Try.func82, x_commit_place.2.1, by decide⟩ ?_
 refine laid_cons ⟨_, _, Try.func83, x_alloc_right.2.1, by decide⟩ ?_
 refine laid_cons ⟨_, _, Try.func84, x_alloc_free.2.1, by decide⟩ ?_
 refine laid_cons ⟨_, _, Try.func85, x_node_Parse.2.1, by decide⟩ ?_
 refine laid_cons ⟨_, _, Try.func86, x_crc_More.2.1, by decide⟩ ?_
 refine laid_cons ⟨_, _, Try.func87, x_crc_Good.2.1, by decide⟩ ?_
 refine laid_cons ⟨_, _, Try.func88, x_le_Get.2.1, by decide⟩ ?_
 refine laid_cons ⟨_, _, Try.func89, x_le_Zeros.2.1, by decide⟩ ?_
 refine laid_cons ⟨_, _, Try.func90, x_node_Pointer.2.1, by decide⟩ ?_
 refine laid_cons ⟨_, _, Try.func91, x_record_Parents.2.1, by decide⟩ ?_
 refine laid_cons ⟨_, _, Try.func92, x_record_in.2.1, by decide⟩ ?_
 refine laid_cons ⟨_, _, Try.func93, x_slices_Grow___int_int_.2.1, by decide⟩ ?_
 refine laid_cons ⟨_, _, Try.func94, x_alloc_right_1.2.1, by decide⟩ ?_
 refine laid_cons ⟨_, _, Try.func95, x_node_layout.2.1, by decide⟩ ?_
 refine laid_cons ⟨_, _, Try.func96, x_node_Check.2.1, by decide⟩ ?_
 refine laid_cons ⟨_, _, Try.func97, x_le_right.2.1, by decide⟩ ?_
 refine laid_cons ⟨_, _, Try.func98, x_le_within.2.1, by decide⟩ ?_
 exact laid_nil
theorem B_law19_SnapMany : B n_law19_SnapMany = some law19_SnapMany := rfl
theorem B_open_New : B n_open_New = some open_New := rfl
theorem B_snap_Create : B n_snap_Create = some snap_Create := rfl
theorem B_dev_Apply : B n_dev_Apply = some dev_Apply := rfl
theorem B_snap_Delete : B n_snap_Delete = some snap_Delete := rfl
theorem B_law19_wakes : B n_law19_wakes = some law19_wakes := rfl
theorem B_snap_List : B n_snap_List = some snap_List := rfl
theorem B_keep_Ints : B n_keep_Ints = some keep_Ints := rfl
theorem B_super_Bytes : B n_super_Bytes = some super_Bytes := rfl
theorem B_open_Look : B n_open_Look = some open_Look := rfl
theorem B_snap_create : B n_snap_create = some snap_create := rfl
theorem B_snap_Makes : B n_snap_Makes = some snap_Makes := rfl
theorem B_dev_Steps : B n_dev_Steps = some dev_Steps := rfl
theorem B_dev_Of : B n_dev_Of = some dev_Of := rfl
theorem B_snap_find : B n_snap_find = some snap_find := rfl
theorem B_snap_pending : B n_snap_pending = some snap_pending := rfl
theorem B_snap_Rollback : B n_snap_Rollback = some snap_Rollback := rfl
theorem B_super_Check : B n_super_Check = some super_Check := rfl
theorem B_super_Make : B n_super_Make = some super_Make := rfl
theorem B_dev_Check : B n_dev_Check = some dev_Check := rfl
theorem B_super_Pick : B n_super_Pick = some super_Pick := rfl
theorem B_open_follow : B n_open_follow = some open_follow := rfl
theorem B_tree_Go : B n_tree_Go = some tree_Go := rfl
theorem B_open_beyond : B n_open_beyond = some open_beyond := rfl
theorem B___open_Image__clash : B n___open_Image__clash = some __open_Image__clash := rfl
theorem B_ids_Check : B n_ids_Check = some ids_Check := rfl
theorem B_slices_ContainsFunc___api_Record_api_Record_ : B n_slices_ContainsFunc___api_Record_api_Record_ = some slices_ContainsFunc___api_Record_api_Record_ := rfl
theorem B_snap_create_1 : B n_snap_create_1 = some snap_create_1 := rfl
theorem B_commit_Records : B n_commit_Records = some commit_Records := rfl
theorem B_head_Free : B n_head_Free = some head_Free := rfl
theorem B_commit_Steps : B n_commit_Steps = some commit_Steps := rfl
theorem B_slices_ContainsFunc___api_Io_api_Io_ : B n_slices_ContainsFunc___api_Io_api_Io_ = some slices_ContainsFunc___api_Io_api_Io_ := rfl
theorem B_dev_Steps_1 : B n_dev_Steps_1 = some dev_Steps_1 := rfl
theorem B_dev_right : B n_dev_right = some dev_right := rfl
theorem B_open_Find : B n_open_Find = some open_Find := rfl
theorem B_super_in : B n_super_in = some super_in := rfl
theorem B_le_Set : B n_le_Set = some le_Set := rfl
theorem B_crc_Seal : B n_crc_Seal = some crc_Seal := rfl
theorem B_super_Parse : B n_super_Parse = some super_Parse := rfl
theorem B_slices_Contains___int_int_ : B n_slices_Contains___int_int_ = some slices_Contains___int_int_ := rfl
theorem B_record_Parse : B n_record_Parse = some record_Parse := rfl
theorem B___open_chain__may : B n___open_chain__may = some __open_chain__may := rfl
theorem B___tree_Walk__goes : B n___tree_Walk__goes = some __tree_Walk__goes := rfl
theorem B_slices_ContainsFunc___int_int_ : B n_slices_ContainsFunc___int_int_ = some slices_ContainsFunc___int_int_ := rfl
theorem B_tree_Go_1 : B n_tree_Go_1 = some tree_Go_1 := rfl
theorem B_open_beyond_1 : B n_open_beyond_1 = some open_beyond_1 := rfl
theorem B_slices_IndexFunc___api_Record_api_Record_ : B n_slices_IndexFunc___api_Record_api_Record_ = some slices_IndexFunc___api_Record_api_Record_ := rfl
theorem B_commit_may : B n_commit_may = some commit_may := rfl
theorem B_slices_Reverse___api_Record_api_Record_ : B n_slices_Reverse___api_Record_api_Record_ = some slices_Reverse___api_Record_api_Record_ := rfl
theorem B_record_Bytes : B n_record_Bytes = some record_Bytes := rfl
theorem B_alloc_Free : B n_alloc_Free = some alloc_Free := rfl
theorem B_walk_Of : B n_walk_Of = some walk_Of := rfl
theorem B_commit_ready : B n_commit_ready = some commit_ready := rfl
theorem B_commit_Steps_1 : B n_commit_Steps_1 = some commit_Steps_1 := rfl
theorem B_commit_write : B n_commit_write = some commit_write := rfl
theorem B_slices_IndexFunc___api_Io_api_Io_ : B n_slices_IndexFunc___api_Io_api_Io_ = some slices_IndexFunc___api_Io_api_Io_ := rfl
theorem B_open_Find_1 : B n_open_Find_1 = some open_Find_1 := rfl
theorem B_crc_Sum : B n_crc_Sum = some crc_Sum := rfl
theorem B_super_Read : B n_super_Read = some super_Read := rfl
theorem B_slices_Index___int_int_ : B n_slices_Index___int_int_ = some slices_Index___int_int_ := rfl
theorem B_record_Check : B n_record_Check = some record_Check := rfl
theorem B___open_chain__may_1 : B n___open_chain__may_1 = some __open_chain__may_1 := rfl
theorem B_tree_At : B n_tree_At = some tree_At := rfl
theorem B_slices_IndexFunc___int_int_ : B n_slices_IndexFunc___int_int_ = some slices_IndexFunc___int_int_ := rfl
theorem B_commit_may_1 : B n_commit_may_1 = some commit_may_1 := rfl
theorem B_slices_Concat___int_int_ : B n_slices_Concat___int_int_ = some slices_Concat___int_int_ := rfl
theorem B_commit_may_2 : B n_commit_may_2 = some commit_may_2 := rfl
theorem B_commit_place : B n_commit_place = some commit_place := rfl
theorem B_alloc_right : B n_alloc_right = some alloc_right := rfl
theorem B_alloc_free : B n_alloc_free = some alloc_free := rfl
theorem B_node_Parse : B n_node_Parse = some node_Parse := rfl
theorem B_crc_More : B n_crc_More = some crc_More := rfl
theorem B_crc_Good : B n_crc_Good = some crc_Good := rfl
theorem B_le_Get : B n_le_Get = some le_Get := rfl
theorem B_le_Zeros : B n_le_Zeros = some le_Zeros := rfl
theorem B_node_Pointer : B n_node_Pointer = some node_Pointer := rfl
theorem B_record_Parents : B n_record_Parents = some record_Parents := rfl
theorem B_record_in : B n_record_in = some record_in := rfl
theorem B_slices_Grow___int_int_ : B n_slices_Grow___int_int_ = some slices_Grow___int_int_ := rfl
theorem B_alloc_right_1 : B n_alloc_right_1 = some alloc_right_1 := rfl
theorem B_node_Check : B n_node_Check = some node_Check := rfl
theorem B_le_right : B n_le_right = some le_right := rfl
theorem B_le_within : B n_le_within = some le_within := rfl
end Go.Proofs.Ytkaiiopoilpjeaa

