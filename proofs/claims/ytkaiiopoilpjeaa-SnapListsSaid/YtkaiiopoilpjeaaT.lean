import Derived.Test.YtkaiiopoilpjeaaMC
import Derived.KernelRfl
import Derived.Test.YtkaiiopoilpjeaaProg
set_option maxRecDepth 100000
set_option maxHeartbeats 4000000
namespace Go.Proofs.Ytkaiiopoilpjeaa
open Go.AI
abbrev Me : Nat := 4
abbrev Xa : Nat := 5
abbrev Nb : Nat := 6
abbrev Tb : Nat := 7
abbrev Qf : Nat := 8
abbrev Vz : Nat := 9
abbrev Sv : Nat := 10
abbrev kQ : Nat := 11
abbrev Tr : Nat := 12
abbrev Yh : Nat := 13
abbrev Qa : Nat := 14
abbrev Px : Nat := 15
abbrev Wa : Nat := 16
abbrev Ro : Nat := 17
abbrev cP : Nat := 18
abbrev Ci : Nat := 19
abbrev Qy : Nat := 20
abbrev dE : Nat := 21
abbrev Ly : Nat := 22
abbrev Oa : Nat := 23
abbrev Ue : Nat := 24
abbrev Rw : Nat := 25
abbrev Vn : Nat := 26
abbrev Zb : Nat := 27
abbrev iS : Nat := 28
abbrev Pv : Nat := 29
abbrev Oj : Nat := 30
abbrev Wh : Nat := 31
abbrev aX : Nat := 32
abbrev Vv : Nat := 33
abbrev Mn : Nat := 34
abbrev Te : Nat := 35
abbrev Bs : Nat := 36
abbrev Km : Nat := 37
abbrev Qs : Nat := 38
abbrev cM : Nat := 39
abbrev Tu : Nat := 40
abbrev Cs : Nat := 41
abbrev Nd : Nat := 42
abbrev cZ : Nat := 43
abbrev cT : Nat := 44
abbrev iD : Nat := 45
abbrev Ye : Nat := 46
abbrev Xq : Nat := 47
abbrev Qe : Nat := 49
abbrev Cm : Nat := 50
abbrev Uc : Nat := 51
abbrev Ka : Nat := 52
abbrev Ia : Nat := 53
abbrev Ed : Nat := 54
abbrev Nn : Nat := 55
abbrev Nw : Nat := 56
abbrev Cy : Nat := 57
abbrev Ze : Nat := 58
abbrev Bl : Nat := 59
abbrev Cb : Nat := 60
abbrev Lz : Nat := 61
abbrev Co : Nat := 62
abbrev Zp : Nat := 63
abbrev kV : Nat := 64
abbrev Uo : Nat := 65
abbrev Jw : Nat := 66
abbrev Tf : Nat := 67
abbrev Fa : Nat := 68
abbrev Nj : Nat := 69
abbrev bE : Nat := 70
abbrev Yd : Nat := 71
abbrev Hm : Nat := 72
abbrev dI : Nat := 73
abbrev Pf : Nat := 74
abbrev Hh : Nat := 75
abbrev mC : Nat := 76
abbrev Sf : Nat := 77
abbrev Gi : Nat := 78
abbrev Mh : Nat := 79
abbrev Jm : Nat := 80
abbrev Lm : Nat := 81
abbrev Ug : Nat := 82
abbrev Vy : Nat := 83
abbrev Zi : Nat := 84
abbrev Zm : Nat := 85
abbrev iC : Nat := 86
abbrev Xh : Nat := 87
abbrev Xy : Nat := 88
abbrev fN : Nat := 89
abbrev Pg : Nat := 90
abbrev Mz : Nat := 91
abbrev dB : Nat := 92
abbrev Hw : Nat := 93
abbrev Nx : Nat := 94
abbrev kC : Nat := 95
abbrev Ys : Nat := 96
abbrev eI : Nat := 97
abbrev cK : Nat := 98
def x_law19_SnapLists : Bf Try.prog [(6, 0, ⟨0, .pure, true⟩), (14, 4, ⟨1, .pure, true⟩), (14, 6, ⟨13, .pure, false⟩), (16, 5, ⟨14, .pure, false⟩), (30, 4, ⟨15, .pure, false⟩), (30, 9, ⟨16, .pure, false⟩)] Try.f4 := Bv
def law19_SnapLists : SFun := x_law19_SnapLists.1
def y_law19_SnapLists_l0 : Lp law19_SnapLists.code 0 := lpIt
def Pc : SCode := y_law19_SnapLists_l0.1
def y_law19_SnapLists_l1 : Lp law19_SnapLists.code 1 := lpIt
def Oy : SCode := y_law19_SnapLists_l1.1
def x_open_New : Bf Try.prog [(3, 2, ⟨0, .pure, false⟩)] Try.f5 := Bv
def iF : SFun := x_open_New.1
def x_snap_Create : Bf Try.prog [(6, 14, ⟨0, .pure, false⟩)] Try.f6 := Bv
def Tk : SFun := x_snap_Create.1
def x_dev_Apply : Bf Try.prog [(4, 1, ⟨0, (.fresh 0), false⟩), (7, 2, ⟨1, .pure, false⟩), (9, 3, ⟨0, (.peek 2), false⟩)] Try.f7 := Bv
def dev_Apply : SFun := x_dev_Apply.1
def y_dev_Apply_l0 : Lp dev_Apply.code 0 := lpIt
def Zu : SCode := y_dev_Apply_l0.1
def x_snap_Delete : Bf Try.prog [(7, 8, ⟨0, .pure, false⟩)] Try.f8 := Bv
def Tx : SFun := x_snap_Delete.1
def x_law19_wakes : Bf Try.prog [(8, 21, ⟨0, .pure, false⟩)] Try.f9 := Bv
def Tc : SFun := x_law19_wakes.1
def x_snap_List : Bf Try.prog [(0, 0, ⟨0, .pure, true⟩), (3, 1, ⟨1, .pure, true⟩), (4, 0, ⟨2, .pure, true⟩), (7, 2, ⟨3, .pure, false⟩), (9, 3, ⟨4, .pure, false⟩), (9, 4, ⟨5, .pure, false⟩)] Try.f10 := Bv
def snap_List : SFun := x_snap_List.1
def y_snap_List_l0 : Lp snap_List.code 0 := lpIt
def Yg : SCode := y_snap_List_l0.1
def x_view_Of : Bf Try.prog [(0, 0, ⟨0, .pure, false⟩), (4, 18, ⟨1, .pure, false⟩), (7, 3, ⟨2, .pure, false⟩), (8, 24, ⟨3, .pure, false⟩), (10, 3, ⟨4, .pure, false⟩), (10, 4, ⟨5, .pure, false⟩), (11, 3, ⟨6, .pure, false⟩), (11, 4, ⟨7, .pure, false⟩)] Try.f11 := Bv
def view_Of : SFun := x_view_Of.1
def y_view_Of_l0 : Lp view_Of.code 0 := lpIt
def gD : SCode := y_view_Of_l0.1
def x_keep_Ints : Bf Try.prog [] Try.f12 := Bv
def keep_Ints : SFun := x_keep_Ints.1
def y_keep_Ints_l0 : Lp keep_Ints.code 0 := lpIt
def Zh : SCode := y_keep_Ints_l0.1
def x_fsck_Sound : Bf Try.prog [] Try.f13 := Bv
def Rc : SFun := x_fsck_Sound.1
def x_super_Bytes : Bf Try.prog [(0, 0, ⟨0, .pure, false⟩), (4, 11, ⟨1, .pure, false⟩)] Try.f14 := Bv
def Uf : SFun := x_super_Bytes.1
def x_open_Look : Bf Try.prog [(4, 1, ⟨0, .pure, false⟩), (12, 6, ⟨1, .pure, false⟩), (12, 13, ⟨2, .pure, false⟩), (15, 2, ⟨3, .pure, false⟩), (16, 3, ⟨4, .pure, false⟩), (16, 4, ⟨5, .pure, false⟩), (16, 8, ⟨6, .pure, false⟩), (16, 9, ⟨7, .pure, false⟩), (24, 6, ⟨8, .pure, false⟩), (24, 7, ⟨9, .pure, false⟩)] Try.f15 := Bv
def open_Look : SFun := x_open_Look.1
def y_open_Look_l0 : Lp open_Look.code 0 := lpIt
def Zg : SCode := y_open_Look_l0.1
def y_open_Look_l1 : Lp open_Look.code 1 := lpIt
def Yx : SCode := y_open_Look_l1.1
def x_snap_create : Bf Try.prog [(0, 0, ⟨0, .pure, false⟩), (0, 1, ⟨1, .pure, false⟩), (1, 5, ⟨2, .pure, false⟩)] Try.f16 := Bv
def Ti : SFun := x_snap_create.1
def x_snap_Makes : Bf Try.prog [(0, 0, ⟨0, .pure, false⟩), (1, 5, ⟨1, .pure, false⟩)] Try.f17 := Bv
def Xi : SFun := x_snap_Makes.1
def x_dev_Steps : Bf Try.prog [(1, 5, ⟨0, .pure, false⟩)] Try.f18 := Bv
def bX : SFun := x_dev_Steps.1
def x_slices_Clone___byte_byte_ : Bf Try.prog [(0, 0, ⟨0, .pure, true⟩), (2, 0, ⟨1, .pure, true⟩), (3, 2, ⟨2, .pure, false⟩)] Try.f19 := Bv
def slices_Clone___byte_byte_ : SFun := x_slices_Clone___byte_byte_.1
def x_dev_Of : Bf Try.prog [] Try.f20 := Bv
def oC : SFun := x_dev_Of.1
def x_snap_find : Bf Try.prog [(0, 0, ⟨0, .pure, false⟩)] Try.f21 := Bv
def aF : SFun := x_snap_find.1
def x_snap_pending : Bf Try.prog [(0, 0, ⟨0, .pure, false⟩), (0, 1, ⟨1, .pure, false⟩)] Try.f22 := Bv
def Rf : SFun := x_snap_pending.1
def x_snap_Rollback : Bf Try.prog [(7, 8, ⟨0, .pure, false⟩)] Try.f23 := Bv
def Qh : SFun := x_snap_Rollback.1
def x_view_sectors : Bf Try.prog [(0, 0, ⟨0, .pure, true⟩), (1, 0, ⟨1, .pure, true⟩), (5, 0, ⟨2, .pure, false⟩), (7, 3, ⟨0, (.inl 3), false⟩), (8, 2, ⟨3, .pure, false⟩), (8, 3, ⟨4, .pure, false⟩)] Try.f24 := Bv
def view_sectors : SFun := x_view_sectors.1
def y_view_sectors_l0 : Lp view_sectors.code 0 := lpIt
def Sj : SCode := y_view_sectors_l0.1
def x_fsck_Check : Bf Try.prog [(4, 3, ⟨0, .pure, false⟩)] Try.f25 := Bv
def Rs : SFun := x_fsck_Check.1
def x_super_Check : Bf Try.prog [(0, 0, ⟨0, .pure, false⟩)] Try.f26 := Bv
def Tj : SFun := x_super_Check.1
def x_super_Make : Bf Try.prog [(1, 0, ⟨0, .pure, false⟩), (5, 3, ⟨1, .pure, false⟩), (6, 9, ⟨0, (.inl 2), false⟩), (8, 1, ⟨0, (.inl 2), false⟩)] Try.f27 := Bv
def Xf : SFun := x_super_Make.1
def x_super_layout : Bf Try.prog [(1, 0, ⟨0, .pure, false⟩)] Try.f28 := Bv
def nU : SFun := x_super_layout.1
def x_dev_Check : Bf Try.prog [] Try.f29 := Bv
def aS : SFun := x_dev_Check.1
def x_super_Pick : Bf Try.prog [(0, 0, ⟨0, .pure, false⟩), (8, 2, ⟨0, (.inl 1), false⟩), (8, 7, ⟨1, .pure, false⟩)] Try.f30 := Bv
def Xj : SFun := x_super_Pick.1
def x_open_follow : Bf Try.prog [(2, 1, ⟨0, .pure, false⟩), (8, 2, ⟨0, (.inl 1), false⟩), (8, 7, ⟨1, .pure, false⟩), (13, 8, ⟨2, .pure, false⟩), (13, 9, ⟨3, .pure, false⟩), (13, 15, ⟨4, .pure, false⟩), (13, 16, ⟨5, .pure, false⟩)] Try.f31 := Bv
def open_follow : SFun := x_open_follow.1
def y_open_follow_l0 : Lp open_follow.code 0 := lpIt
def Su : SCode := y_open_follow_l0.1
def x_tree_Go : Bf Try.prog [(2, 2, ⟨0, .pure, false⟩), (2, 4, ⟨1, .pure, false⟩), (2, 5, ⟨2, .pure, false⟩), (5, 2, ⟨0, (.inl 3), false⟩)] Try.f32 := Bv
def nY : SFun := x_tree_Go.1
def x_open_beyond : Bf Try.prog [] Try.f33 := Bv
def Tn : SFun := x_open_beyond.1
def x___open_Image__clash : Bf Try.prog [(1, 1, ⟨0, .pure, false⟩), (1, 3, ⟨1, .pure, false⟩), (1, 5, ⟨2, .pure, false⟩), (1, 7, ⟨3, .pure, false⟩)] Try.f34 := Bv
def __open_Image__clash : SFun := x___open_Image__clash.1
def y___open_Image__clash_l0 : Lp __open_Image__clash.code 0 := lpIt
def Lg : SCode := y___open_Image__clash_l0.1
def y___open_Image__clash_l1 : Lp __open_Image__clash.code 1 := lpIt
def Lo : SCode := y___open_Image__clash_l1.1
def y___open_Image__clash_l2 : Lp __open_Image__clash.code 2 := lpIt
def Mi : SCode := y___open_Image__clash_l2.1
def y___open_Image__clash_l3 : Lp __open_Image__clash.code 3 := lpIt
def Lx : SCode := y___open_Image__clash_l3.1
def y___open_Image__clash_l4 : Lp __open_Image__clash.code 4 := lpIt
def Mg : SCode := y___open_Image__clash_l4.1
def x_ids_Check : Bf Try.prog [] Try.f35 := Bv
def aA : SFun := x_ids_Check.1
def x_slices_ContainsFunc___api_Record_api_Record_ : Bf Try.prog [] Try.f36 := Bv
def Cu : SFun := x_slices_ContainsFunc___api_Record_api_Record_.1
def x_snap_create_1 : Bf Try.prog [(0, 0, ⟨0, .pure, false⟩)] Try.f37 := Bv
def Qg : SFun := x_snap_create_1.1
def x_commit_Records : Bf Try.prog [(0, 0, ⟨0, .pure, false⟩), (0, 1, ⟨1, .pure, true⟩), (0, 3, ⟨2, .pure, true⟩), (2, 0, ⟨3, .pure, true⟩), (2, 2, ⟨4, .pure, true⟩), (3, 5, ⟨0, (.fresh 5), false⟩), (4, 1, ⟨0, (.inl 6), false⟩), (6, 2, ⟨6, .pure, false⟩), (6, 3, ⟨7, .pure, false⟩), (8, 0, ⟨8, .pure, true⟩), (8, 2, ⟨9, .pure, true⟩), (13, 3, ⟨10, .pure, false⟩), (17, 4, ⟨11, .pure, false⟩), (17, 5, ⟨12, .pure, false⟩)] Try.f38 := Bv
def commit_Records : SFun := x_commit_Records.1
def y_commit_Records_l0 : Lp commit_Records.code 0 := lpIt
def Ji : SCode := y_commit_Records_l0.1
def x_head_Free : Bf Try.prog [] Try.f39 := Bv
def bF : SFun := x_head_Free.1
def x_commit_Steps : Bf Try.prog [(0, 0, ⟨0, .pure, false⟩), (0, 1, ⟨1, .pure, true⟩), (2, 0, ⟨2, .pure, true⟩), (3, 11, ⟨3, .pure, false⟩), (6, 0, ⟨4, .pure, true⟩), (7, 0, ⟨5, .pure, true⟩), (10, 2, ⟨6, .pure, false⟩), (11, 7, ⟨7, .pure, false⟩), (11, 8, ⟨8, .pure, false⟩), (13, 1, ⟨9, .pure, false⟩), (14, 8, ⟨10, .pure, false⟩), (14, 9, ⟨11, .pure, false⟩)] Try.f40 := Bv
def commit_Steps : SFun := x_commit_Steps.1
def y_commit_Steps_l0 : Lp commit_Steps.code 0 := lpIt
def Si : SCode := y_commit_Steps_l0.1
def x_slices_ContainsFunc___api_Io_api_Io_ : Bf Try.prog [] Try.f41 := Bv
def Dp : SFun := x_slices_ContainsFunc___api_Io_api_Io_.1
def x_dev_Steps_1 : Bf Try.prog [(0, 0, ⟨0, .pure, false⟩)] Try.f42 := Bv
def Tz : SFun := x_dev_Steps_1.1
def x_dev_right : Bf Try.prog [(0, 0, ⟨0, .pure, false⟩)] Try.f43 := Bv
def aK : SFun := x_dev_right.1
def x_open_Find : Bf Try.prog [(0, 0, ⟨0, .pure, false⟩), (0, 1, ⟨1, .pure, false⟩)] Try.f44 := Bv
def bW : SFun := x_open_Find.1
def x_super_in : Bf Try.prog [] Try.f45 := Bv
def eQ : SFun := x_super_in.1
def x_le_Set : Bf Try.prog [] Try.f46 := Bv
def le_Set : SFun := x_le_Set.1
def y_le_Set_l0 : Lp le_Set.code 0 := lpIt
def mB : SCode := y_le_Set_l0.1
def x_crc_Seal : Bf Try.prog [(1, 6, ⟨0, (.inl 0), false⟩)] Try.f47 := Bv
def gT : SFun := x_crc_Seal.1
def x_super_Layout : Bf Try.prog [(0, 0, ⟨0, .pure, true⟩), (1, 0, ⟨1, .pure, true⟩), (6, 4, ⟨2, .pure, false⟩), (6, 5, ⟨3, .pure, false⟩)] Try.f48 := Bv
def oN : SFun := x_super_Layout.1
def x_super_Parse : Bf Try.prog [(0, 0, ⟨0, .pure, false⟩), (4, 16, ⟨1, .pure, false⟩)] Try.f49 := Bv
def Uk : SFun := x_super_Parse.1
def x_slices_Contains___int_int_ : Bf Try.prog [] Try.f50 := Bv
def Fo : SFun := x_slices_Contains___int_int_.1
def x_record_Parse : Bf Try.prog [(0, 0, ⟨0, .pure, false⟩), (4, 25, ⟨1, .pure, false⟩)] Try.f51 := Bv
def Sb : SFun := x_record_Parse.1
def x___open_chain__may : Bf Try.prog [(0, 0, ⟨0, .pure, false⟩)] Try.f52 := Bv
def Lw : SFun := x___open_chain__may.1
def x___tree_Walk__goes : Bf Try.prog [(0, 14, ⟨0, .pure, false⟩), (3, 6, ⟨1, .pure, false⟩), (3, 7, ⟨2, .pure, false⟩), (14, 5, ⟨0, (.inl 3), false⟩)] Try.f53 := Bv
def Ht : SFun := x___tree_Walk__goes.1
def x_slices_ContainsFunc___int_int_ : Bf Try.prog [] Try.f54 := Bv
def Eo : SFun := x_slices_ContainsFunc___int_int_.1
def x_tree_Go_1 : Bf Try.prog [] Try.f55 := Bv
def bK : SFun := x_tree_Go_1.1
def x_open_beyond_1 : Bf Try.prog [] Try.f56 := Bv
def Qd : SFun := x_open_beyond_1.1
def x_slices_IndexFunc___api_Record_api_Record_ : Bf Try.prog [] Try.f57 := Bv
def Df : SFun := x_slices_IndexFunc___api_Record_api_Record_.1
def x_commit_may : Bf Try.prog [(0, 0, ⟨0, .pure, false⟩), (4, 4, ⟨1, .pure, false⟩)] Try.f58 := Bv
def commit_may : SFun := x_commit_may.1
def y_commit_may_l0 : Lp commit_may.code 0 := lpIt
def Vs : SCode := y_commit_may_l0.1
def x_slices_Clone___api_Record_api_Record_ : Bf Try.prog [(0, 0, ⟨0, .pure, true⟩), (2, 0, ⟨1, .pure, true⟩), (3, 2, ⟨2, .pure, false⟩)] Try.f59 := Bv
def slices_Clone___api_Record_api_Record_ : SFun := x_slices_Clone___api_Record_api_Record_.1
def x_slices_Reverse___api_Record_api_Record_ : Bf Try.prog [] Try.f60 := Bv
def Di : SFun := x_slices_Reverse___api_Record_api_Record_.1
def x_record_Bytes : Bf Try.prog [(0, 0, ⟨0, .pure, false⟩), (4, 17, ⟨1, .pure, false⟩)] Try.f61 := Bv
def Rd : SFun := x_record_Bytes.1
def x_slices_Clone___int_int_ : Bf Try.prog [(0, 0, ⟨0, .pure, true⟩), (2, 0, ⟨1, .pure, true⟩), (3, 2, ⟨2, .pure, false⟩)] Try.f62 := Bv
def slices_Clone___int_int_ : SFun := x_slices_Clone___int_int_.1
def x_alloc_Free : Bf Try.prog [] Try.f63 := Bv
def Xg : SFun := x_alloc_Free.1
def x_walk_Of : Bf Try.prog [(0, 0, ⟨0, .pure, true⟩), (2, 1, ⟨1, .pure, false⟩), (13, 6, ⟨2, .pure, false⟩), (16, 2, ⟨3, .pure, false⟩), (17, 3, ⟨4, .pure, false⟩), (17, 4, ⟨5, .pure, false⟩), (19, 1, ⟨6, .pure, false⟩), (30, 2, ⟨0, (.inl 7), false⟩), (30, 7, ⟨7, .pure, false⟩)] Try.f64 := Bv
def walk_Of : SFun := x_walk_Of.1
def y_walk_Of_l0 : Lp walk_Of.code 0 := lpIt
def gY : SCode := y_walk_Of_l0.1
def y_walk_Of_l1 : Lp walk_Of.code 1 := lpIt
def fT : SCode := y_walk_Of_l1.1
def y_walk_Of_l2 : Lp walk_Of.code 2 := lpIt
def eX : SCode := y_walk_Of_l2.1
def y_walk_Of_l3 : Lp walk_Of.code 3 := lpIt
def fW : SCode := y_walk_Of_l3.1
def y_walk_Of_l4 : Lp walk_Of.code 4 := lpIt
def hM : SCode := y_walk_Of_l4.1
def y_walk_Of_l5 : Lp walk_Of.code 5 := lpIt
def fR : SCode := y_walk_Of_l5.1
def x_commit_ready : Bf Try.prog [(0, 0, ⟨0, .pure, false⟩)] Try.f65 := Bv
def Rj : SFun := x_commit_ready.1
def x_commit_Steps_1 : Bf Try.prog [(0, 0, ⟨0, .pure, false⟩)] Try.f66 := Bv
def Pe : SFun := x_commit_Steps_1.1
def x_commit_write : Bf Try.prog [(0, 0, ⟨0, .pure, false⟩)] Try.f67 := Bv
def Rp : SFun := x_commit_write.1
def x_slices_IndexFunc___api_Io_api_Io_ : Bf Try.prog [] Try.f68 := Bv
def Dw : SFun := x_slices_IndexFunc___api_Io_api_Io_.1
def x_open_Find_1 : Bf Try.prog [(0, 0, ⟨0, .pure, false⟩)] Try.f69 := Bv
def Ud : SFun := x_open_Find_1.1
def x_crc_Sum : Bf Try.prog [] Try.f70 := Bv
def pB : SFun := x_crc_Sum.1
def x_super_Read : Bf Try.prog [(0, 0, ⟨0, .pure, true⟩), (2, 0, ⟨1, .pure, true⟩), (4, 0, ⟨2, .pure, true⟩), (6, 0, ⟨3, .pure, true⟩), (7, 0, ⟨4, .pure, true⟩), (11, 2, ⟨5, .pure, false⟩), (14, 0, ⟨6, .pure, true⟩), (15, 2, ⟨7, .pure, false⟩), (15, 3, ⟨8, .pure, false⟩), (19, 0, ⟨9, .pure, true⟩)] Try.f71 := Bv
def Wz : SFun := x_super_Read.1
def x_slices_Index___int_int_ : Bf Try.prog [] Try.f72 := Bv
def Gl : SFun := x_slices_Index___int_int_.1
def x_record_layout : Bf Try.prog [(1, 0, ⟨0, .pure, false⟩)] Try.f73 := Bv
def jT : SFun := x_record_layout.1
def x_record_Check : Bf Try.prog [(0, 0, ⟨0, .pure, false⟩)] Try.f74 := Bv
def Re : SFun := x_record_Check.1
def x___open_chain__may_1 : Bf Try.prog [(0, 0, ⟨0, .pure, false⟩)] Try.f75 := Bv
def Kd : SFun := x___open_chain__may_1.1
def x_tree_At : Bf Try.prog [(0, 0, ⟨0, .pure, false⟩), (3, 2, ⟨0, (.inl 1), false⟩), (3, 7, ⟨1, .pure, false⟩)] Try.f76 := Bv
def nP : SFun := x_tree_At.1
def x_node_Under : Bf Try.prog [] Try.f77 := Bv
def vH : SFun := x_node_Under.1
def x_slices_IndexFunc___int_int_ : Bf Try.prog [] Try.f78 := Bv
def Fg : SFun := x_slices_IndexFunc___int_int_.1
def x_commit_may_1 : Bf Try.prog [(0, 0, ⟨0, .pure, false⟩)] Try.f79 := Bv
def Rx : SFun := x_commit_may_1.1
def x_slices_Concat___int_int_ : Bf Try.prog [(0, 0, ⟨0, .pure, true⟩), (9, 1, ⟨0, (.inl 1), false⟩), (13, 2, ⟨3, .pure, false⟩)] Try.f80 := Bv
def Gf : SFun := x_slices_Concat___int_int_.1
def x_commit_may_2 : Bf Try.prog [] Try.f81 := Bv
def Rq : SFun := x_commit_may_2.1
def x_commit_place : Bf Try.prog [] Try.f82 := Bv
def Rl : SFun := x_commit_place.1
def x_alloc_right : Bf Try.prog [] Try.f83 := Bv
def Sx : SFun := x_alloc_right.1
def x_alloc_free : Bf Try.prog [(0, 0, ⟨0, .pure, true⟩), (1, 0, ⟨1, .pure, true⟩), (6, 2, ⟨2, .pure, false⟩), (6, 3, ⟨3, .pure, false⟩)] Try.f84 := Bv
def Wv : SFun := x_alloc_free.1
def x_node_Parse : Bf Try.prog [(0, 0, ⟨0, .pure, false⟩), (4, 4, ⟨1, .pure, true⟩)] Try.f85 := Bv
def Wy : SFun := x_node_Parse.1
def x_crc_More : Bf Try.prog [] Try.f86 := Bv
def crc_More : SFun := x_crc_More.1
def y_crc_More_l0 : Lp crc_More.code 0 := lpIt
def cL : SCode := y_crc_More_l0.1
def y_crc_More_l1 : Lp crc_More.code 1 := lpIt
def cI : SCode := y_crc_More_l1.1
def x_crc_Good : Bf Try.prog [] Try.f87 := Bv
def iY : SFun := x_crc_Good.1
def x_le_Get : Bf Try.prog [] Try.f88 := Bv
def le_Get : SFun := x_le_Get.1
def y_le_Get_l0 : Lp le_Get.code 0 := lpIt
def bD : SCode := y_le_Get_l0.1
def x_le_Zeros : Bf Try.prog [] Try.f89 := Bv
def iR : SFun := x_le_Zeros.1
def x_node_Pointer : Bf Try.prog [] Try.f90 := Bv
def Rh : SFun := x_node_Pointer.1
def x_record_Parents : Bf Try.prog [] Try.f91 := Bv
def Pb : SFun := x_record_Parents.1
def x_record_in : Bf Try.prog [] Try.f92 := Bv
def aD : SFun := x_record_in.1
def x_slices_Grow___int_int_ : Bf Try.prog [(0, 0, ⟨0, .pure, true⟩), (5, 5, ⟨1, .pure, false⟩)] Try.f93 := Bv
def Gy : SFun := x_slices_Grow___int_int_.1
def x_alloc_right_1 : Bf Try.prog [] Try.f94 := Bv
def Py : SFun := x_alloc_right_1.1
def x_node_layout : Bf Try.prog [(1, 0, ⟨0, .pure, false⟩)] Try.f95 := Bv
def qE : SFun := x_node_layout.1
def x_node_Check : Bf Try.prog [(0, 0, ⟨0, .pure, false⟩)] Try.f96 := Bv
def Wu : SFun := x_node_Check.1
def x_le_right : Bf Try.prog [] Try.f97 := Bv
def iN : SFun := x_le_right.1
def x_le_within : Bf Try.prog [] Try.f98 := Bv
def bN : SFun := x_le_within.1
def tab : List (Nat × SFun) := [(4, law19_SnapLists), (5, iF), (6, Tk), (7, dev_Apply), (8, Tx), (9, Tc), (10, snap_List), (11, view_Of), (12, keep_Ints), (13, Rc), (14, Uf), (15, open_Look), (16, Ti), (17, Xi), (18, bX), (20, oC), (21, aF), (22, Rf), (23, Qh), (24, view_sectors), (25, Rs), (26, Tj), (27, Xf), (28, nU), (29, aS), (30, Xj), (31, open_follow), (32, nY), (33, Tn), (34, __open_Image__clash), (35, aA), (36, Cu), (37, Qg), (38, commit_Records), (39, bF), (40, commit_Steps), (41, Dp), (42, Tz), (43, aK), (44, bW), (45, eQ), (46, le_Set), (47, gT), (48, oN), (49, Uk), (50, Fo), (51, Sb), (52, Lw), (53, Ht), (54, Eo), (55, bK), (56, Qd), (57, Df), (58, commit_may), (60, Di), (61, Rd), (63, Xg), (64, walk_Of), (65, Rj), (66, Pe), (67, Rp), (68, Dw), (69, Ud), (70, pB), (71, Wz), (72, Gl), (73, jT), (74, Re), (75, Kd), (76, nP), (77, vH), (78, Fg), (79, Rx), (80, Gf), (81, Rq), (82, Rl), (83, Sx), (84, Wv), (85, Wy), (86, crc_More), (87, iY), (88, le_Get), (89, iR), (90, Rh), (91, Pb), (92, aD), (93, Gy), (94, Py), (95, qE), (96, Wu), (97, iN), (98, bN)]
def B : Prog := Go.AI.look tab
theorem laid : Laid Try.prog (Go.AI.look tab) := by
 refine An ⟨_, _, Try.func4, x_law19_SnapLists.2.1, by decide⟩ ?_
 refine An ⟨_, _, Try.func5, x_open_New.2.1, by decide⟩ ?_
 refine An ⟨_, _, Try.func6, x_snap_Create.2.1, by decide⟩ ?_
 refine An ⟨_, _, Try.func7, x_dev_Apply.2.1, by decide⟩ ?_
 refine An ⟨_, _, Try.func8, x_snap_Delete.2.1, by decide⟩ ?_
 refine An ⟨_, _, Try.func9, x_law19_wakes.2.1, by decide⟩ ?_
 refine An ⟨_, _, Try.func10, x_snap_List.2.1, by decide⟩ ?_
 refine An ⟨_, _, Try.func11, x_view_Of.2.1, by decide⟩ ?_
 refine An ⟨_, _, Try.func12, x_keep_Ints.2.1, by decide⟩ ?_
 refine An ⟨_, _, Try.func13, x_fsck_Sound.2.1, by decide⟩ ?_
 refine An ⟨_, _, Try.func14, x_super_Bytes.2.1, by decide⟩ ?_
 refine An ⟨_, _, Try.func15, x_open_Look.2.1, by decide⟩ ?_
 refine An ⟨_, _, Try.func16, x_snap_create.2.1, by decide⟩ ?_
 refine An ⟨_, _, Try.func17, x_snap_Makes.2.1, by decide⟩ ?_
 refine An ⟨_, _, Try.func18, x_dev_Steps.2.1, by decide⟩ ?_
 refine An ⟨_, _, Try.func20, x_dev_Of.2.1, by decide⟩ ?_
 refine An ⟨_, _, Try.func21, x_snap_find.2.1, by decide⟩ ?_
 refine An ⟨_, _, Try.func22, x_snap_pending.2.1, by decide⟩ ?_
 refine An ⟨_, _, Try.func23, x_snap_Rollback.2.1, by decide⟩ ?_
 refine An ⟨_, _, Try.func24, x_view_sectors.2.1, by decide⟩ ?_
 refine An ⟨_, _, Try.func25, x_fsck_Check.2.1, by decide⟩ ?_
 refine An ⟨_, _, Try.func26, x_super_Check.2.1, by decide⟩ ?_
 refine An ⟨_, _, Try.func27, x_super_Make.2.1, by decide⟩ ?_
 refine An ⟨_, _, Try.func28, x_super_layout.2.1, by decide⟩ ?_
 refine An ⟨_, _, Try.func29, x_dev_Check.2.1, by decide⟩ ?_
 refine An ⟨_, _, Try.func30, x_super_Pick.2.1, by decide⟩ ?_
 refine An ⟨_, _, Try.func31, x_open_follow.2.1, by decide⟩ ?_
 refine An ⟨_, _, Try.func32, x_tree_Go.2.1, by decide⟩ ?_
 refine An ⟨_, _, Try.func33, x_open_beyond.2.1, by decide⟩ ?_
 refine An ⟨_, _, Try.func34, x___open_Image__clash.2.1, by decide⟩ ?_
 refine An ⟨_, _, Try.func35, x_ids_Check.2.1, by decide⟩ ?_
 refine An ⟨_, _, Try.func36, x_slices_ContainsFunc___api_Record_api_Record_.2.1, by decide⟩ ?_
 refine An ⟨_, _, Try.func37, x_snap_create_1.2.1, by decide⟩ ?_
 refine An ⟨_, _, Try.func38, x_commit_Records.2.1, by decide⟩ ?_
 refine An ⟨_, _, Try.func39, x_head_Free.2.1, by decide⟩ ?_
 refine An ⟨_, _, Try.func40, x_commit_Steps.2.1, by decide⟩ ?_
 refine An ⟨_, _, Try.func41, x_slices_ContainsFunc___api_Io_api_Io_.2.1, by decide⟩ ?_
 refine An ⟨_, _, Try.func42, x_dev_Steps_1.2.1, by decide⟩ ?_
 refine An ⟨_, _, Try.func43, x_dev_right.2.1, by decide⟩ ?_
 refine An ⟨_, _, Try.func44, x_open_Find.2.1, by decide⟩ ?_
 refine An ⟨_, _, Try.func45, x_super_in.2.1, by decide⟩ ?_
 refine An ⟨_, _, Try.func46, x_le_Set.2.1, by decide⟩ ?_
 refine An ⟨_, _, Try.func47, x_crc_Seal.2.1, by decide⟩ ?_
 refine An ⟨_, _, Try.func48, x_super_Layout.2.1, by decide⟩ ?_
 refine An ⟨_, _, Try.func49, x_super_Parse.2.1, by decide⟩ ?_
 refine An ⟨_, _, Try.func50, x_slices_Contains___int_int_.2.1, by decide⟩ ?_
 refine An ⟨_, _, Try.func51, x_record_Parse.2.1, by decide⟩ ?_
 refine An ⟨_, _, Try.func52, x___open_chain__may.2.1, by decide⟩ ?_
 refine An ⟨_, _, Try.func53, x___tree_Walk__goes.2.1, by decide⟩ ?_
 refine An ⟨_, _, Try.func54, x_slices_ContainsFunc___int_int_.2.1, by decide⟩ ?_
 refine An ⟨_, _, Try.func55, x_tree_Go_1.2.1, by decide⟩ ?_
 refine An ⟨_, _, Try.func56, x_open_beyond_1.2.1, by decide⟩ ?_
 refine An ⟨_, _, Try.func57, x_slices_IndexFunc___api_Record_api_Record_.2.1, by decide⟩ ?_
 refine An ⟨_, _, Try.func58, x_commit_may.2.1, by decide⟩ ?_
 refine An ⟨_, _, Try.func60, x_slices_Reverse___api_Record_api_Record_.2.1, by decide⟩ ?_
 refine An ⟨_, _, Try.func61, x_record_Bytes.2.1, by decide⟩ ?_
 refine An ⟨_, _, Try.func63, x_alloc_Free.2.1, by decide⟩ ?_
 refine An ⟨_, _, Try.func64, x_walk_Of.2.1, by decide⟩ ?_
 refine An ⟨_, _, Try.func65, x_commit_ready.2.1, by decide⟩ ?_
 refine An ⟨_, _, Try.func66, x_commit_Steps_1.2.1, by decide⟩ ?_
 refine An ⟨_, _, Try.func67, x_commit_write.2.1, by decide⟩ ?_
 refine An ⟨_, _, Try.func68, x_slices_IndexFunc___api_Io_api_Io_.2.1, by decide⟩ ?_
 refine An ⟨_, _, Try.func69, x_open_Find_1.2.1, by decide⟩ ?_
 refine An ⟨_, _, Try.func70, x_crc_Sum.2.1, by decide⟩ ?_
 refine An ⟨_, _, Try.func71, x_super_Read.2.1, by decide⟩ ?_
 refine An ⟨_, _, Try.func72, x_slices_Index___int_int_.2.1, by decide⟩ ?_
 refine An ⟨_, _, Try.func73, x_record_layout.2.1, by decide⟩ ?_
 refine An ⟨_, _, Try.func74, x_record_Check.2.1, by decide⟩ ?_
 refine An ⟨_, _, Try.func75, x___open_chain__may_1.2.1, by decide⟩ ?_
 refine An ⟨_, _, Try.func76, x_tree_At.2.1, by decide⟩ ?_
 refine An ⟨_, _, Try.func77, x_node_Under.2.1, by decide⟩ ?_
 refine An ⟨_, _, Try.func78, x_slices_IndexFunc___int_int_.2.1, by decide⟩ ?_
 refine An ⟨_, _, Try.func79, x_commit_may_1.2.1, by decide⟩ ?_
 refine An ⟨_, _, Try.func80, x_slices_Concat___int_int_.2.1, by decide⟩ ?_
 refine An ⟨_, _, Try.func81, x_commit_may_2.2.1, by decide⟩ ?_
 refine An ⟨_, _, Try.func82, x_commit_place.2.1, by decide⟩ ?_
 refine An ⟨_, _, Try.func83, x_alloc_right.2.1, by decide⟩ ?_
 refine An ⟨_, _, Try.func84, x_alloc_free.2.1, by decide⟩ ?_
 refine An ⟨_, _, Try.func85, x_node_Parse.2.1, by decide⟩ ?_
 refine An ⟨_, _, Try.func86, x_crc_More.2.1, by decide⟩ ?_
 refine An ⟨_, _, Try.func87, x_crc_Good.2.1, by decide⟩ ?_
 refine An ⟨_, _, Try.func88, x_le_Get.2.1, by decide⟩ ?_
 refine An ⟨_, _, Try.func89, x_le_Zeros.2.1, by decide⟩ ?_
 refine An ⟨_, _, Try.func90, x_node_Pointer.2.1, by decide⟩ ?_
 refine An ⟨_, _, Try.func91, x_record_Parents.2.1, by decide⟩ ?_
 refine An ⟨_, _, Try.func92, x_record_in.2.1, by decide⟩ ?_
 refine An ⟨_, _, Try.func93, x_slices_Grow___int_int_.2.1, by decide⟩ ?_
 refine An ⟨_, _, Try.func94, x_alloc_right_1.2.1, by decide⟩ ?_
 refine An ⟨_, _, Try.func95, x_node_layout.2.1, by decide⟩ ?_
 refine An ⟨_, _, Try.func96, x_node_Check.2.1, by decide⟩ ?_
 refine An ⟨_, _, Try.func97, x_le_right.2.1, by decide⟩ ?_
 refine An ⟨_, _, Try.func98, x_le_within.2.1, by decide⟩ ?_
 exact Yv
theorem Yp : B Me = some law19_SnapLists := rfl
theorem tS : B Xa = some iF := rfl
theorem jR : B Nb = some Tk := rfl
theorem rW : B Tb = some dev_Apply := rfl
theorem kF : B Qf = some Tx := rfl
theorem jX : B Vz = some Tc := rfl
theorem sI : B Sv = some snap_List := rfl
theorem yV : B kQ = some view_Of := rfl
theorem qA : B Tr = some keep_Ints := rfl
theorem Yi : B Yh = some Rc := rfl
theorem jM : B Qa = some Uf := rfl
theorem cU : B Px = some open_Look := rfl
theorem jU : B Wa = some Ti := rfl
theorem nX : B Ro = some Xi := rfl
theorem qJ : B cP = some bX := rfl
theorem rJ : B Qy = some oC := rfl
theorem qP : B dE = some aF := rfl
theorem fH : B Ly = some Rf := rfl
theorem dM : B Oa = some Qh := rfl
theorem eV : B Ue = some view_sectors := rfl
theorem Zf : B Rw = some Rs := rfl
theorem jQ : B Vn = some Tj := rfl
theorem nQ : B Zb = some Xf := rfl
theorem pR : B Pv = some aS := rfl
theorem oF : B Oj = some Xj := rfl
theorem jK : B Wh = some open_follow := rfl
theorem zB : B aX = some nY := rfl
theorem kB : B Vv = some Tn := rfl
theorem Sp : B Mn = some __open_Image__clash := rfl
theorem qK : B Te = some aA := rfl
theorem Fc : B Bs = some Cu := rfl
theorem dK : B Km = some Qg := rfl
theorem aI : B Qs = some commit_Records := rfl
theorem qC : B cM = some bF := rfl
theorem Sw : B Tu = some commit_Steps := rfl
theorem Gk : B Cs = some Dp := rfl
theorem jS : B Nd = some Tz := rfl
theorem sC : B cZ = some aK := rfl
theorem sH : B cT = some bW := rfl
theorem tI : B iD = some eQ := rfl
theorem Adj : B Ye = some le_Set := rfl
theorem tX : B Xq = some gT := rfl
theorem jI : B Qe = some Uk := rfl
theorem Ja : B Cm = some Fo := rfl
theorem fM : B Uc = some Sb := rfl
theorem Vm : B Ka = some Lw := rfl
theorem Kb : B Ia = some Ht := rfl
theorem Hr : B Ed = some Eo := rfl
theorem pQ : B Nn = some bK := rfl
theorem dN : B Nw = some Qd := rfl
theorem Fi : B Cy = some Df := rfl
theorem oG : B Ze = some commit_may := rfl
theorem Ft : B Cb = some Di := rfl
theorem eU : B Lz = some Rd := rfl
theorem mZ : B Zp = some Xg := rfl
theorem xX : B kV = some walk_Of := rfl
theorem eL : B Uo = some Rj := rfl
theorem aH : B Jw = some Pe := rfl
theorem eF : B Tf = some Rp := rfl
theorem Ha : B Fa = some Dw := rfl
theorem jH : B Nj = some Ud := rfl
theorem yI : B bE = some pB := rfl
theorem nK : B Yd = some Wz := rfl
theorem Jx : B Hm = some Gl := rfl
theorem hZ : B Pf = some Re := rfl
theorem So : B Hh = some Kd := rfl
theorem xZ : B mC = some nP := rfl
theorem Il : B Gi = some Fg := rfl
theorem iE : B Mh = some Rx := rfl
theorem Jl : B Jm = some Gf := rfl
theorem eM : B Lm = some Rq := rfl
theorem fZ : B Ug = some Rl := rfl
theorem jO : B Vy = some Sx := rfl
theorem oD : B Zi = some Wv := rfl
theorem mV : B Zm = some Wy := rfl
theorem tR : B iC = some crc_More := rfl
theorem uK : B Xh = some iY := rfl
theorem Acs : B Xy = some le_Get := rfl
theorem vA : B fN = some iR := rfl
theorem eJ : B Pg = some Rh := rfl
theorem aE : B Mz = some Pb := rfl
theorem rB : B dB = some aD := rfl
theorem Kk : B Hw = some Gy := rfl
theorem dJ : B Nx = some Py := rfl
theorem oQ : B Ys = some Wu := rfl
theorem tY : B eI = some iN := rfl
theorem rK : B cK = some bN := rfl
end Go.Proofs.Ytkaiiopoilpjeaa

