import Derived.Test.YtkaiiopoilpjeaaGreatMC
import Derived.KernelRfl
import Derived.Test.YtkaiiopoilpjeaaGreatProg
set_option maxRecDepth 100000
set_option maxHeartbeats 4000000
namespace Go.Proofs.YtkaiiopoilpjeaaGreat
open Go.AI
abbrev Pq : Nat := 7
abbrev Rl : Nat := 16
abbrev Vg : Nat := 17
abbrev Sd : Nat := 18
abbrev aJ : Nat := 19
abbrev nF : Nat := 25
abbrev Wu : Nat := 26
abbrev dK : Nat := 27
abbrev mQ : Nat := 33
abbrev Uq : Nat := 39
abbrev vF : Nat := 40
abbrev hJ : Nat := 41
abbrev iI : Nat := 43
abbrev mL : Nat := 44
abbrev Xg : Nat := 46
abbrev cY : Nat := 47
abbrev Ww : Nat := 48
abbrev lP : Nat := 51
abbrev Uk : Nat := 53
abbrev dF : Nat := 54
abbrev Xz : Nat := 55
abbrev mF : Nat := 56
abbrev Pr : Nat := 57
abbrev Zf : Nat := 58
abbrev mC : Nat := 65
abbrev Db : Nat := 70
abbrev Vt : Nat := 71
abbrev Zo : Nat := 72
abbrev Ve : Nat := 73
abbrev iO : Nat := 74
abbrev lQ : Nat := 76
abbrev Vc : Nat := 77
abbrev Zw : Nat := 78
abbrev Pw : Nat := 79
abbrev Qi : Nat := 80
abbrev gA : Nat := 81
abbrev Qh : Nat := 82
abbrev Dy : Nat := 85
abbrev Rk : Nat := 86
abbrev Ur : Nat := 87
abbrev Sq : Nat := 88
abbrev cU : Nat := 89
abbrev kA : Nat := 90
abbrev cQ : Nat := 91
abbrev Qj : Nat := 92
abbrev Zt : Nat := 93
abbrev Ck : Nat := 94
abbrev Oc : Nat := 95
abbrev Vy : Nat := 96
abbrev mP : Nat := 97
abbrev aG : Nat := 98
abbrev Dq : Nat := 99
abbrev Nf : Nat := 100
abbrev aN : Nat := 101
abbrev Rf : Nat := 109
abbrev mZ : Nat := 110
abbrev wT : Nat := 112
abbrev dJ : Nat := 113
abbrev iG : Nat := 114
abbrev oU : Nat := 115
abbrev iU : Nat := 116
abbrev Ru : Nat := 117
abbrev Si : Nat := 118
abbrev rB : Nat := 119
abbrev Sj : Nat := 120
abbrev Uz : Nat := 123
abbrev Cw : Nat := 124
abbrev bH : Nat := 125
abbrev Nk : Nat := 126
abbrev Kx : Nat := 127
abbrev Fo : Nat := 128
abbrev Rq : Nat := 129
abbrev Sb : Nat := 130
abbrev iW : Nat := 131
abbrev Ci : Nat := 132
abbrev Cs : Nat := 133
abbrev Qb : Nat := 134
abbrev Di : Nat := 135
abbrev iY : Nat := 136
abbrev Gp : Nat := 137
abbrev iE : Nat := 148
abbrev pF : Nat := 149
abbrev hG : Nat := 150
abbrev eI : Nat := 151
abbrev iT : Nat := 153
abbrev iN : Nat := 154
abbrev bE : Nat := 155
abbrev iP : Nat := 156
abbrev Ke : Nat := 157
abbrev nH : Nat := 158
abbrev Tp : Nat := 159
abbrev Jw : Nat := 160
abbrev vM : Nat := 161
abbrev Sw : Nat := 162
abbrev Ip : Nat := 163
abbrev Pg : Nat := 164
abbrev Mr : Nat := 165
abbrev Pc : Nat := 166
abbrev Zr : Nat := 167
abbrev cW : Nat := 168
abbrev tV : Nat := 177
abbrev gQ : Nat := 178
abbrev kL : Nat := 179
abbrev Vb : Nat := 180
abbrev Rw : Nat := 181
abbrev Lr : Nat := 182
abbrev Le : Nat := 183
abbrev fC : Nat := 184
abbrev gP : Nat := 185
abbrev qV : Nat := 186
abbrev Tn : Nat := 187
abbrev Ra : Nat := 188
abbrev mJ : Nat := 189
abbrev Kr : Nat := 190
abbrev Rz : Nat := 191
abbrev oM : Nat := 196
abbrev qK : Nat := 197
abbrev iR : Nat := 198
abbrev Mg : Nat := 199
abbrev Hx : Nat := 200
abbrev hU : Nat := 201
abbrev sK : Nat := 202
abbrev lZ : Nat := 203
abbrev bA : Nat := 204
abbrev Tu : Nat := 205
abbrev Wr : Nat := 206
abbrev Jm : Nat := 207
abbrev Jx : Nat := 208
abbrev Gv : Nat := 209
abbrev Ng : Nat := 210
def x_law19_SnapCheap : Bj Tryz.prog [(23, 5, ⟨0, .pure, false⟩), (24, 5, ⟨1, .pure, false⟩)] Tryz.f7 := Bx
def Kg : SFun := x_law19_SnapCheap.1
def x_snap_Create : Bj Tryz.prog [(6, 14, ⟨0, .pure, false⟩)] Tryz.f16 := Bx
def aW : SFun := x_snap_Create.1
def x_snap_Delete : Bj Tryz.prog [(7, 8, ⟨0, .pure, false⟩)] Tryz.f17 := Bx
def aM : SFun := x_snap_Delete.1
def x_snap_Rollback : Bj Tryz.prog [(7, 8, ⟨0, .pure, false⟩)] Tryz.f18 := Bx
def Vh : SFun := x_snap_Rollback.1
def x_snap_List : Bj Tryz.prog [(0, 0, ⟨0, .pure, true⟩), (3, 1, ⟨1, .pure, true⟩), (4, 0, ⟨2, .pure, true⟩), (7, 2, ⟨3, .pure, false⟩), (9, 3, ⟨4, .pure, false⟩), (9, 4, ⟨5, .pure, false⟩)] Tryz.f19 := Bx
def snap_List : SFun := x_snap_List.1
def y_snap_List_l0 : Lp snap_List.code 0 := lpIt
def gO : SCode := y_snap_List_l0.1
def x_keep_Ints : Bj Tryz.prog [] Tryz.f25 := Bx
def keep_Ints : SFun := x_keep_Ints.1
def y_keep_Ints_l0 : Lp keep_Ints.code 0 := lpIt
def gU : SCode := y_keep_Ints_l0.1
def x_keep_Bytes : Bj Tryz.prog [] Tryz.f26 := Bx
def keep_Bytes : SFun := x_keep_Bytes.1
def y_keep_Bytes_l0 : Lp keep_Bytes.code 0 := lpIt
def dH : SCode := y_keep_Bytes_l0.1
def x_law19_wakes : Bj Tryz.prog [(8, 21, ⟨0, .pure, false⟩)] Tryz.f27 := Bx
def aS : SFun := x_law19_wakes.1
def x_keep_View : Bj Tryz.prog [(0, 0, ⟨0, .pure, false⟩), (0, 1, ⟨1, .pure, false⟩)] Tryz.f33 := Bx
def lD : SFun := x_keep_View.1
def x_dev_Apply : Bj Tryz.prog [(4, 1, ⟨0, (.fresh 0), false⟩), (7, 2, ⟨1, .pure, false⟩), (9, 3, ⟨0, (.peek 2), false⟩)] Tryz.f39 := Bx
def dev_Apply : SFun := x_dev_Apply.1
def y_dev_Apply_l0 : Lp dev_Apply.code 0 := lpIt
def fS : SCode := y_dev_Apply_l0.1
def x_view_Of : Bj Tryz.prog [(0, 0, ⟨0, .pure, false⟩), (4, 18, ⟨1, .pure, false⟩), (7, 3, ⟨2, .pure, false⟩), (8, 24, ⟨3, .pure, false⟩), (10, 3, ⟨4, .pure, false⟩), (10, 4, ⟨5, .pure, false⟩), (11, 3, ⟨6, .pure, false⟩), (11, 4, ⟨7, .pure, false⟩)] Tryz.f40 := Bx
def view_Of : SFun := x_view_Of.1
def y_view_Of_l0 : Lp view_Of.code 0 := lpIt
def pR : SCode := y_view_Of_l0.1
def x_alloc_Left : Bj Tryz.prog [] Tryz.f41 := Bx
def Xp : SFun := x_alloc_Left.1
def x_keep_Snaps : Bj Tryz.prog [] Tryz.f43 := Bx
def keep_Snaps : SFun := x_keep_Snaps.1
def y_keep_Snaps_l0 : Lp keep_Snaps.code 0 := lpIt
def dL : SCode := y_keep_Snaps_l0.1
def x_keep_Rows : Bj Tryz.prog [] Tryz.f44 := Bx
def keep_Rows : SFun := x_keep_Rows.1
def y_keep_Rows_l0 : Lp keep_Rows.code 0 := lpIt
def gT : SCode := y_keep_Rows_l0.1
def x_open_New : Bj Tryz.prog [(3, 2, ⟨0, .pure, false⟩)] Tryz.f46 := Bx
def pI : SFun := x_open_New.1
def x_head_Resize : Bj Tryz.prog [(1, 1, ⟨0, (.inl 0), false⟩), (6, 2, ⟨0, (.inl 3), false⟩), (7, 3, ⟨0, (.inl 3), false⟩)] Tryz.f47 := Bx
def Zk : SFun := x_head_Resize.1
def x_head_Write : Bj Tryz.prog [(1, 1, ⟨0, (.inl 0), false⟩), (6, 3, ⟨0, (.inl 3), false⟩), (7, 3, ⟨0, (.inl 3), false⟩)] Tryz.f48 := Bx
def eV : SFun := x_head_Write.1
def x_open_Find : Bj Tryz.prog [(0, 0, ⟨0, .pure, false⟩), (0, 1, ⟨1, .pure, false⟩)] Tryz.f51 := Bx
def jG : SFun := x_open_Find.1
def x_open_Look : Bj Tryz.prog [(4, 1, ⟨0, .pure, false⟩), (12, 6, ⟨1, .pure, false⟩), (12, 13, ⟨2, .pure, false⟩), (15, 2, ⟨3, .pure, false⟩), (16, 3, ⟨4, .pure, false⟩), (16, 4, ⟨5, .pure, false⟩), (16, 8, ⟨6, .pure, false⟩), (16, 9, ⟨7, .pure, false⟩), (24, 6, ⟨8, .pure, false⟩), (24, 7, ⟨9, .pure, false⟩)] Tryz.f53 := Bx
def open_Look : SFun := x_open_Look.1
def y_open_Look_l0 : Lp open_Look.code 0 := lpIt
def iM : SCode := y_open_Look_l0.1
def y_open_Look_l1 : Lp open_Look.code 1 := lpIt
def fN : SCode := y_open_Look_l1.1
def x_snap_create : Bj Tryz.prog [(0, 0, ⟨0, .pure, false⟩), (0, 1, ⟨1, .pure, false⟩), (1, 5, ⟨2, .pure, false⟩)] Tryz.f54 := Bx
def aL : SFun := x_snap_create.1
def x_snap_Makes : Bj Tryz.prog [(0, 0, ⟨0, .pure, false⟩), (1, 5, ⟨1, .pure, false⟩)] Tryz.f55 := Bx
def dV : SFun := x_snap_Makes.1
def x_snap_find : Bj Tryz.prog [(0, 0, ⟨0, .pure, false⟩)] Tryz.f56 := Bx
def kU : SFun := x_snap_find.1
def x_snap_pending : Bj Tryz.prog [(0, 0, ⟨0, .pure, false⟩), (0, 1, ⟨1, .pure, false⟩)] Tryz.f57 := Bx
def Wx : SFun := x_snap_pending.1
def x_commit_Steps : Bj Tryz.prog [(0, 0, ⟨0, .pure, false⟩), (0, 1, ⟨1, .pure, true⟩), (2, 0, ⟨2, .pure, true⟩), (3, 11, ⟨3, .pure, false⟩), (6, 0, ⟨4, .pure, true⟩), (7, 0, ⟨5, .pure, true⟩), (10, 2, ⟨6, .pure, false⟩), (11, 7, ⟨7, .pure, false⟩), (11, 8, ⟨8, .pure, false⟩), (13, 1, ⟨9, .pure, false⟩), (14, 8, ⟨10, .pure, false⟩), (14, 9, ⟨11, .pure, false⟩)] Tryz.f58 := Bx
def commit_Steps : SFun := x_commit_Steps.1
def y_commit_Steps_l0 : Lp commit_Steps.code 0 := lpIt
def Yn : SCode := y_commit_Steps_l0.1
def x_dev_Steps : Bj Tryz.prog [(1, 5, ⟨0, .pure, false⟩)] Tryz.f65 := Bx
def kY : SFun := x_dev_Steps.1
def x_slices_Clone___byte_byte_ : Bj Tryz.prog [(0, 0, ⟨0, .pure, true⟩), (2, 0, ⟨1, .pure, true⟩), (3, 2, ⟨2, .pure, false⟩)] Tryz.f70 := Bx
def slices_Clone___byte_byte_ : SFun := x_slices_Clone___byte_byte_.1
def x_dev_Of : Bj Tryz.prog [] Tryz.f71 := Bx
def Aag : SFun := x_dev_Of.1
def x_view_sectors : Bj Tryz.prog [(0, 0, ⟨0, .pure, true⟩), (1, 0, ⟨1, .pure, true⟩), (5, 0, ⟨2, .pure, false⟩), (7, 3, ⟨0, (.inl 3), false⟩), (8, 2, ⟨3, .pure, false⟩), (8, 3, ⟨4, .pure, false⟩)] Tryz.f72 := Bx
def view_sectors : SFun := x_view_sectors.1
def y_view_sectors_l0 : Lp view_sectors.code 0 := lpIt
def Yr : SCode := y_view_sectors_l0.1
def x_walk_Counts : Bj Tryz.prog [] Tryz.f73 := Bx
def Ut : SFun := x_walk_Counts.1
def x_alloc_free : Bj Tryz.prog [(0, 0, ⟨0, .pure, true⟩), (1, 0, ⟨1, .pure, true⟩), (6, 2, ⟨2, .pure, false⟩), (6, 3, ⟨3, .pure, false⟩)] Tryz.f74 := Bx
def eQ : SFun := x_alloc_free.1
def x_keep_Snap : Bj Tryz.prog [(0, 0, ⟨0, .pure, false⟩), (0, 1, ⟨1, .pure, false⟩)] Tryz.f76 := Bx
def lH : SFun := x_keep_Snap.1
def x_super_Bytes : Bj Tryz.prog [(0, 0, ⟨0, .pure, false⟩), (4, 11, ⟨1, .pure, false⟩)] Tryz.f77 := Bx
def Zd : SFun := x_super_Bytes.1
def x_head_look : Bj Tryz.prog [(4, 16, ⟨0, (.inl 0), false⟩)] Tryz.f78 := Bx
def bU : SFun := x_head_look.1
def x___head_Stage__Resize : Bj Tryz.prog [(0, 2, ⟨0, (.inl 0), false⟩)] Tryz.f79 := Bx
def Mw : SFun := x___head_Stage__Resize.1
def x___head_Stage__makes : Bj Tryz.prog [(1, 5, ⟨0, .pure, false⟩), (4, 7, ⟨0, (.inl 1), false⟩)] Tryz.f80 := Bx
def Jh : SFun := x___head_Stage__makes.1
def x_head_Whole : Bj Tryz.prog [] Tryz.f81 := Bx
def eE : SFun := x_head_Whole.1
def x___head_Stage__Write : Bj Tryz.prog [(3, 4, ⟨0, (.inl 0), false⟩), (4, 9, ⟨0, (.peek 0), false⟩)] Tryz.f82 := Bx
def __head_Stage__Write : SFun := x___head_Stage__Write.1
def y___head_Stage__Write_l0 : Lp __head_Stage__Write.code 0 := lpIt
def Pp : SCode := y___head_Stage__Write_l0.1
def x_slices_IndexFunc___api_Record_api_Record_ : Bj Tryz.prog [] Tryz.f85 := Bx
def Ef : SFun := x_slices_IndexFunc___api_Record_api_Record_.1
def x_open_Find_1 : Bj Tryz.prog [(0, 0, ⟨0, .pure, false⟩)] Tryz.f86 := Bx
def aQ : SFun := x_open_Find_1.1
def x_dev_Check : Bj Tryz.prog [] Tryz.f87 := Bx
def kP : SFun := x_dev_Check.1
def x_super_Pick : Bj Tryz.prog [(0, 0, ⟨0, .pure, false⟩), (8, 2, ⟨0, (.inl 1), false⟩), (8, 7, ⟨1, .pure, false⟩)] Tryz.f88 := Bx
def eC : SFun := x_super_Pick.1
def x_open_follow : Bj Tryz.prog [(2, 1, ⟨0, .pure, false⟩), (8, 2, ⟨0, (.inl 1), false⟩), (8, 7, ⟨1, .pure, false⟩), (13, 8, ⟨2, .pure, false⟩), (13, 9, ⟨3, .pure, false⟩), (13, 15, ⟨4, .pure, false⟩), (13, 16, ⟨5, .pure, false⟩)] Tryz.f89 := Bx
def open_follow : SFun := x_open_follow.1
def y_open_follow_l0 : Lp open_follow.code 0 := lpIt
def bB : SCode := y_open_follow_l0.1
def x_tree_Go : Bj Tryz.prog [(2, 2, ⟨0, .pure, false⟩), (2, 4, ⟨1, .pure, false⟩), (2, 5, ⟨2, .pure, false⟩), (5, 2, ⟨0, (.inl 3), false⟩)] Tryz.f90 := Bx
def Aar : SFun := x_tree_Go.1
def x_open_beyond : Bj Tryz.prog [] Tryz.f91 := Bx
def bF : SFun := x_open_beyond.1
def x___open_Image__clash : Bj Tryz.prog [(1, 1, ⟨0, .pure, false⟩), (1, 3, ⟨1, .pure, false⟩), (1, 5, ⟨2, .pure, false⟩), (1, 7, ⟨3, .pure, false⟩)] Tryz.f92 := Bx
def __open_Image__clash : SFun := x___open_Image__clash.1
def y___open_Image__clash_l0 : Lp __open_Image__clash.code 0 := lpIt
def Pl : SCode := y___open_Image__clash_l0.1
def y___open_Image__clash_l1 : Lp __open_Image__clash.code 1 := lpIt
def Oy : SCode := y___open_Image__clash_l1.1
def y___open_Image__clash_l2 : Lp __open_Image__clash.code 2 := lpIt
def Pz : SCode := y___open_Image__clash_l2.1
def y___open_Image__clash_l3 : Lp __open_Image__clash.code 3 := lpIt
def Qa : SCode := y___open_Image__clash_l3.1
def y___open_Image__clash_l4 : Lp __open_Image__clash.code 4 := lpIt
def Qd : SCode := y___open_Image__clash_l4.1
def x_ids_Check : Bj Tryz.prog [] Tryz.f93 := Bx
def jF : SFun := x_ids_Check.1
def x_slices_ContainsFunc___api_Record_api_Record_ : Bj Tryz.prog [] Tryz.f94 := Bx
def Dw : SFun := x_slices_ContainsFunc___api_Record_api_Record_.1
def x_snap_create_1 : Bj Tryz.prog [(0, 0, ⟨0, .pure, false⟩)] Tryz.f95 := Bx
def Uy : SFun := x_snap_create_1.1
def x_commit_Records : Bj Tryz.prog [(0, 0, ⟨0, .pure, false⟩), (0, 1, ⟨1, .pure, true⟩), (0, 3, ⟨2, .pure, true⟩), (2, 0, ⟨3, .pure, true⟩), (2, 2, ⟨4, .pure, true⟩), (3, 5, ⟨0, (.fresh 5), false⟩), (4, 1, ⟨0, (.inl 6), false⟩), (6, 2, ⟨6, .pure, false⟩), (6, 3, ⟨7, .pure, false⟩), (8, 0, ⟨8, .pure, true⟩), (8, 2, ⟨9, .pure, true⟩), (13, 3, ⟨10, .pure, false⟩), (17, 4, ⟨11, .pure, false⟩), (17, 5, ⟨12, .pure, false⟩)] Tryz.f96 := Bx
def commit_Records : SFun := x_commit_Records.1
def y_commit_Records_l0 : Lp commit_Records.code 0 := lpIt
def Mk : SCode := y_commit_Records_l0.1
def x_head_Free : Bj Tryz.prog [] Tryz.f97 := Bx
def kC : SFun := x_head_Free.1
def x_commit_ready : Bj Tryz.prog [(0, 0, ⟨0, .pure, false⟩)] Tryz.f98 := Bx
def Wv : SFun := x_commit_ready.1
def x_slices_ContainsFunc___api_Io_api_Io_ : Bj Tryz.prog [] Tryz.f99 := Bx
def Eu : SFun := x_slices_ContainsFunc___api_Io_api_Io_.1
def x_commit_Steps_1 : Bj Tryz.prog [(0, 0, ⟨0, .pure, false⟩)] Tryz.f100 := Bx
def To : SFun := x_commit_Steps_1.1
def x_commit_write : Bj Tryz.prog [(0, 0, ⟨0, .pure, false⟩)] Tryz.f101 := Bx
def Xx : SFun := x_commit_write.1
def x_dev_Steps_1 : Bj Tryz.prog [(0, 0, ⟨0, .pure, false⟩)] Tryz.f109 := Bx
def aV : SFun := x_dev_Steps_1.1
def x_dev_right : Bj Tryz.prog [(0, 0, ⟨0, .pure, false⟩)] Tryz.f110 := Bx
def kE : SFun := x_dev_right.1
def x_walk_Of : Bj Tryz.prog [(0, 0, ⟨0, .pure, true⟩), (2, 1, ⟨1, .pure, false⟩), (13, 6, ⟨2, .pure, false⟩), (16, 2, ⟨3, .pure, false⟩), (17, 3, ⟨4, .pure, false⟩), (17, 4, ⟨5, .pure, false⟩), (19, 1, ⟨6, .pure, false⟩), (30, 2, ⟨0, (.inl 7), false⟩), (30, 7, ⟨7, .pure, false⟩)] Tryz.f112 := Bx
def walk_Of : SFun := x_walk_Of.1
def y_walk_Of_l0 : Lp walk_Of.code 0 := lpIt
def pX : SCode := y_walk_Of_l0.1
def y_walk_Of_l1 : Lp walk_Of.code 1 := lpIt
def tL : SCode := y_walk_Of_l1.1
def y_walk_Of_l2 : Lp walk_Of.code 2 := lpIt
def rV : SCode := y_walk_Of_l2.1
def y_walk_Of_l3 : Lp walk_Of.code 3 := lpIt
def qT : SCode := y_walk_Of_l3.1
def y_walk_Of_l4 : Lp walk_Of.code 4 := lpIt
def qZ : SCode := y_walk_Of_l4.1
def y_walk_Of_l5 : Lp walk_Of.code 5 := lpIt
def tE : SCode := y_walk_Of_l5.1
def x_super_Check : Bj Tryz.prog [(0, 0, ⟨0, .pure, false⟩)] Tryz.f113 := Bx
def bI : SFun := x_super_Check.1
def x_super_Make : Bj Tryz.prog [(1, 0, ⟨0, .pure, false⟩), (5, 3, ⟨1, .pure, false⟩), (6, 9, ⟨0, (.inl 2), false⟩), (8, 1, ⟨0, (.inl 2), false⟩)] Tryz.f114 := Bx
def eT : SFun := x_super_Make.1
def x_super_layout : Bj Tryz.prog [(1, 0, ⟨0, .pure, false⟩)] Tryz.f115 := Bx
def Aaf : SFun := x_super_layout.1
def x_head_Begin : Bj Tryz.prog [(1, 1, ⟨0, (.fresh 0), false⟩), (1, 3, ⟨1, .pure, false⟩), (1, 5, ⟨2, .pure, false⟩)] Tryz.f116 := Bx
def eJ : SFun := x_head_Begin.1
def x___head_Stage__Zero : Bj Tryz.prog [(3, 2, ⟨0, (.inl 0), false⟩)] Tryz.f117 := Bx
def __head_Stage__Zero : SFun := x___head_Stage__Zero.1
def y___head_Stage__Zero_l0 : Lp __head_Stage__Zero.code 0 := lpIt
def Ql : SCode := y___head_Stage__Zero_l0.1
def x___head_Stage__Lay : Bj Tryz.prog [(0, 1, ⟨0, .pure, true⟩), (0, 2, ⟨1, .pure, true⟩), (3, 2, ⟨2, .pure, true⟩), (3, 3, ⟨3, .pure, true⟩), (4, 4, ⟨0, (.fresh 4), false⟩), (11, 7, ⟨5, .pure, false⟩), (11, 8, ⟨6, .pure, false⟩), (15, 2, ⟨7, .pure, true⟩), (15, 3, ⟨8, .pure, true⟩), (16, 3, ⟨9, .pure, false⟩)] Tryz.f118 := Bx
def __head_Stage__Lay : SFun := x___head_Stage__Lay.1
def y___head_Stage__Lay_l0 : Lp __head_Stage__Lay.code 0 := lpIt
def Rn : SCode := y___head_Stage__Lay_l0.1
def x_head_May : Bj Tryz.prog [] Tryz.f119 := Bx
def sG : SFun := x_head_May.1
def x___head_Stage__Put : Bj Tryz.prog [] Tryz.f120 := Bx
def Pe : SFun := x___head_Stage__Put.1
def x_super_Parse : Bj Tryz.prog [(0, 0, ⟨0, .pure, false⟩), (4, 16, ⟨1, .pure, false⟩)] Tryz.f123 := Bx
def aB : SFun := x_super_Parse.1
def x_slices_Contains___int_int_ : Bj Tryz.prog [] Tryz.f124 := Bx
def Hk : SFun := x_slices_Contains___int_int_.1
def x_record_Parse : Bj Tryz.prog [(0, 0, ⟨0, .pure, false⟩), (4, 25, ⟨1, .pure, false⟩)] Tryz.f125 := Bx
def Xj : SFun := x_record_Parse.1
def x___open_chain__may : Bj Tryz.prog [(0, 0, ⟨0, .pure, false⟩)] Tryz.f126 := Bx
def Pu : SFun := x___open_chain__may.1
def x___tree_Walk__goes : Bj Tryz.prog [(0, 14, ⟨0, .pure, false⟩), (3, 6, ⟨1, .pure, false⟩), (3, 7, ⟨2, .pure, false⟩), (14, 5, ⟨0, (.inl 3), false⟩)] Tryz.f127 := Bx
def Kn : SFun := x___tree_Walk__goes.1
def x_slices_ContainsFunc___int_int_ : Bj Tryz.prog [] Tryz.f128 := Bx
def Ga : SFun := x_slices_ContainsFunc___int_int_.1
def x_tree_Go_1 : Bj Tryz.prog [] Tryz.f129 := Bx
def jI : SFun := x_tree_Go_1.1
def x_open_beyond_1 : Bj Tryz.prog [] Tryz.f130 := Bx
def Va : SFun := x_open_beyond_1.1
def x_commit_may : Bj Tryz.prog [(0, 0, ⟨0, .pure, false⟩), (4, 4, ⟨1, .pure, false⟩)] Tryz.f131 := Bx
def commit_may : SFun := x_commit_may.1
def y_commit_may_l0 : Lp commit_may.code 0 := lpIt
def cR : SCode := y_commit_may_l0.1
def x_slices_Clone___api_Record_api_Record_ : Bj Tryz.prog [(0, 0, ⟨0, .pure, true⟩), (2, 0, ⟨1, .pure, true⟩), (3, 2, ⟨2, .pure, false⟩)] Tryz.f132 := Bx
def slices_Clone___api_Record_api_Record_ : SFun := x_slices_Clone___api_Record_api_Record_.1
def x_slices_Reverse___api_Record_api_Record_ : Bj Tryz.prog [] Tryz.f133 := Bx
def Eo : SFun := x_slices_Reverse___api_Record_api_Record_.1
def x_record_Bytes : Bj Tryz.prog [(0, 0, ⟨0, .pure, false⟩), (4, 17, ⟨1, .pure, false⟩)] Tryz.f134 := Bx
def Xe : SFun := x_record_Bytes.1
def x_slices_Clone___int_int_ : Bj Tryz.prog [(0, 0, ⟨0, .pure, true⟩), (2, 0, ⟨1, .pure, true⟩), (3, 2, ⟨2, .pure, false⟩)] Tryz.f135 := Bx
def slices_Clone___int_int_ : SFun := x_slices_Clone___int_int_.1
def x_alloc_Free : Bj Tryz.prog [] Tryz.f136 := Bx
def eG : SFun := x_alloc_Free.1
def x_slices_IndexFunc___api_Io_api_Io_ : Bj Tryz.prog [] Tryz.f137 := Bx
def Fh : SFun := x_slices_IndexFunc___api_Io_api_Io_.1
def x_node_Parse : Bj Tryz.prog [(0, 0, ⟨0, .pure, false⟩), (4, 4, ⟨1, .pure, true⟩)] Tryz.f148 := Bx
def dW : SFun := x_node_Parse.1
def x_super_in : Bj Tryz.prog [] Tryz.f149 := Bx
def qR : SFun := x_super_in.1
def x_le_Set : Bj Tryz.prog [] Tryz.f150 := Bx
def le_Set : SFun := x_le_Set.1
def y_le_Set_l0 : Lp le_Set.code 0 := lpIt
def vI : SCode := y_le_Set_l0.1
def x_crc_Seal : Bj Tryz.prog [(1, 6, ⟨0, (.inl 0), false⟩)] Tryz.f151 := Bx
def tA : SFun := x_crc_Seal.1
def x_super_Layout : Bj Tryz.prog [(0, 0, ⟨0, .pure, true⟩), (1, 0, ⟨1, .pure, true⟩), (6, 4, ⟨2, .pure, false⟩), (6, 5, ⟨3, .pure, false⟩)] Tryz.f152 := Bx
def yG : SFun := x_super_Layout.1
def x_alloc_Take : Bj Tryz.prog [] Tryz.f153 := Bx
def eX : SFun := x_alloc_Take.1
def x_build_Tree : Bj Tryz.prog [(1, 3, ⟨0, (.inl 0), false⟩), (8, 5, ⟨0, (.inl 31), false⟩)] Tryz.f154 := Bx
def eY : SFun := x_build_Tree.1
def x_frame_Within : Bj Tryz.prog [] Tryz.f155 := Bx
def Ye : SFun := x_frame_Within.1
def x_super_Read : Bj Tryz.prog [(0, 0, ⟨0, .pure, true⟩), (2, 0, ⟨1, .pure, true⟩), (4, 0, ⟨2, .pure, true⟩), (6, 0, ⟨3, .pure, true⟩), (7, 0, ⟨4, .pure, true⟩), (11, 2, ⟨5, .pure, false⟩), (14, 0, ⟨6, .pure, true⟩), (15, 2, ⟨7, .pure, false⟩), (15, 3, ⟨8, .pure, false⟩), (19, 0, ⟨9, .pure, true⟩)] Tryz.f156 := Bx
def eW : SFun := x_super_Read.1
def x_slices_Index___int_int_ : Bj Tryz.prog [] Tryz.f157 := Bx
def Ix : SFun := x_slices_Index___int_int_.1
def x_record_layout : Bj Tryz.prog [(1, 0, ⟨0, .pure, false⟩)] Tryz.f158 := Bx
def uW : SFun := x_record_layout.1
def x_record_Check : Bj Tryz.prog [(0, 0, ⟨0, .pure, false⟩)] Tryz.f159 := Bx
def Yd : SFun := x_record_Check.1
def x___open_chain__may_1 : Bj Tryz.prog [(0, 0, ⟨0, .pure, false⟩)] Tryz.f160 := Bx
def Nm : SFun := x___open_chain__may_1.1
def x_tree_At : Bj Tryz.prog [(0, 0, ⟨0, .pure, false⟩), (3, 2, ⟨0, (.inl 1), false⟩), (3, 7, ⟨1, .pure, false⟩)] Tryz.f161 := Bx
def Aaq : SFun := x_tree_At.1
def x_node_Under : Bj Tryz.prog [] Tryz.f162 := Bx
def Ahd : SFun := x_node_Under.1
def x_slices_IndexFunc___int_int_ : Bj Tryz.prog [] Tryz.f163 := Bx
def Gz : SFun := x_slices_IndexFunc___int_int_.1
def x_commit_may_1 : Bj Tryz.prog [(0, 0, ⟨0, .pure, false⟩)] Tryz.f164 := Bx
def Yc : SFun := x_commit_may_1.1
def x_slices_Concat___int_int_ : Bj Tryz.prog [(0, 0, ⟨0, .pure, true⟩), (9, 1, ⟨0, (.inl 1), false⟩), (13, 2, ⟨3, .pure, false⟩)] Tryz.f165 := Bx
def Il : SFun := x_slices_Concat___int_int_.1
def x_commit_may_2 : Bj Tryz.prog [] Tryz.f166 := Bx
def Wt : SFun := x_commit_may_2.1
def x_commit_place : Bj Tryz.prog [] Tryz.f167 := Bx
def Xm : SFun := x_commit_place.1
def x_alloc_right : Bj Tryz.prog [] Tryz.f168 := Bx
def Zv : SFun := x_alloc_right.1
def x_node_layout : Bj Tryz.prog [(1, 0, ⟨0, .pure, false⟩)] Tryz.f177 := Bx
def Adw : SFun := x_node_layout.1
def x_node_Check : Bj Tryz.prog [(0, 0, ⟨0, .pure, false⟩)] Tryz.f178 := Bx
def eN : SFun := x_node_Check.1
def x_crc_Sum : Bj Tryz.prog [] Tryz.f179 := Bx
def zI : SFun := x_crc_Sum.1
def x_build_begin : Bj Tryz.prog [(4, 3, ⟨0, .pure, false⟩), (10, 2, ⟨0, (.inl 1), false⟩)] Tryz.f180 := Bx
def Zc : SFun := x_build_begin.1
def x___build_maker__may : Bj Tryz.prog [] Tryz.f181 := Bx
def __build_maker__may : SFun := x___build_maker__may.1
def y___build_maker__may_l0 : Lp __build_maker__may.code 0 := lpIt
def Qk : SCode := y___build_maker__may_l0.1
def x___build_maker__needs : Bj Tryz.prog [] Tryz.f182 := Bx
def Mx : SFun := x___build_maker__needs.1
def x___build_maker__writes : Bj Tryz.prog [(0, 0, ⟨0, .pure, true⟩), (1, 0, ⟨1, .pure, true⟩), (7, 2, ⟨2, .pure, true⟩), (8, 5, ⟨0, (.inl 3), false⟩), (10, 4, ⟨3, .pure, false⟩), (10, 5, ⟨4, .pure, false⟩)] Tryz.f183 := Bx
def __build_maker__writes : SFun := x___build_maker__writes.1
def y___build_maker__writes_l0 : Lp __build_maker__writes.code 0 := lpIt
def Nt : SCode := y___build_maker__writes_l0.1
def x_crc_Good : Bj Tryz.prog [] Tryz.f184 := Bx
def sU : SFun := x_crc_Good.1
def x_le_Get : Bj Tryz.prog [] Tryz.f185 := Bx
def le_Get : SFun := x_le_Get.1
def y_le_Get_l0 : Lp le_Get.code 0 := lpIt
def kR : SCode := y_le_Get_l0.1
def x_le_Zeros : Bj Tryz.prog [] Tryz.f186 := Bx
def rR : SFun := x_le_Zeros.1
def x_node_Pointer : Bj Tryz.prog [] Tryz.f187 := Bx
def Ya : SFun := x_node_Pointer.1
def x_record_Parents : Bj Tryz.prog [] Tryz.f188 := Bx
def Tx : SFun := x_record_Parents.1
def x_record_in : Bj Tryz.prog [] Tryz.f189 := Bx
def jY : SFun := x_record_in.1
def x_slices_Grow___int_int_ : Bj Tryz.prog [(0, 0, ⟨0, .pure, true⟩), (5, 5, ⟨1, .pure, false⟩)] Tryz.f190 := Bx
def Jl : SFun := x_slices_Grow___int_int_.1
def x_alloc_right_1 : Bj Tryz.prog [] Tryz.f191 := Bx
def Ux : SFun := x_alloc_right_1.1
def x_crc_More : Bj Tryz.prog [] Tryz.f196 := Bx
def crc_More : SFun := x_crc_More.1
def y_crc_More_l0 : Lp crc_More.code 0 := lpIt
def mU : SCode := y_crc_More_l0.1
def y_crc_More_l1 : Lp crc_More.code 1 := lpIt
def lW : SCode := y_crc_More_l1.1
def x_tree_Map : Bj Tryz.prog [] Tryz.f197 := Bx
def qY : SFun := x_tree_Map.1
def x_tree_Check : Bj Tryz.prog [(0, 0, ⟨0, .pure, false⟩)] Tryz.f198 := Bx
def dX : SFun := x_tree_Check.1
def x___build_maker__plan : Bj Tryz.prog [(3, 4, ⟨0, .pure, true⟩), (4, 4, ⟨12, .pure, true⟩), (6, 2, ⟨0, (.inl 24), false⟩), (16, 7, ⟨28, .pure, false⟩), (16, 8, ⟨29, .pure, false⟩)] Tryz.f199 := Bx
def __build_maker__plan : SFun := x___build_maker__plan.1
def y___build_maker__plan_l0 : Lp __build_maker__plan.code 0 := lpIt
def Hl : SCode := y___build_maker__plan_l0.1
def y___build_maker__plan_l1 : Lp __build_maker__plan.code 1 := lpIt
def Gc : SCode := y___build_maker__plan_l1.1
def y___build_maker__plan_l2 : Lp __build_maker__plan.code 2 := lpIt
def Hi : SCode := y___build_maker__plan_l2.1
def x___build_maker__pointers : Bj Tryz.prog [] Tryz.f200 := Bx
def Gy : SFun := x___build_maker__pointers.1
def x_node_Bytes : Bj Tryz.prog [(0, 0, ⟨0, .pure, true⟩), (0, 1, ⟨1, .pure, true⟩), (3, 1, ⟨2, .pure, true⟩), (4, 3, ⟨3, .pure, false⟩), (4, 6, ⟨4, .pure, false⟩)] Tryz.f201 := Bx
def dU : SFun := x_node_Bytes.1
def x_le_right : Bj Tryz.prog [] Tryz.f202 := Bx
def tR : SFun := x_le_right.1
def x_le_within : Bj Tryz.prog [] Tryz.f203 := Bx
def jQ : SFun := x_le_within.1
def x_tree_checked : Bj Tryz.prog [] Tryz.f204 := Bx
def Xs : SFun := x_tree_checked.1
def x_tree_Check_1 : Bj Tryz.prog [] Tryz.f205 := Bx
def Xd : SFun := x_tree_Check_1.1
def x_build_many : Bj Tryz.prog [] Tryz.f206 := Bx
def Agt : SFun := x_build_many.1
def x___build_maker__learn : Bj Tryz.prog [(3, 14, ⟨0, .pure, false⟩), (7, 8, ⟨0, (.inl 1), false⟩)] Tryz.f207 := Bx
def Iu : SFun := x___build_maker__learn.1
def x___build_maker__kept : Bj Tryz.prog [] Tryz.f208 := Bx
def Ji : SFun := x___build_maker__kept.1
def x___build_maker__kept_1 : Bj Tryz.prog [] Tryz.f209 := Bx
def Mi : SFun := x___build_maker__kept_1.1
def x_slices_Equal___int_int_ : Bj Tryz.prog [] Tryz.f210 := Bx
def slices_Equal___int_int_ : SFun := x_slices_Equal___int_int_.1
def y_slices_Equal___int_int__l0 : Lp slices_Equal___int_int_.code 0 := lpIt
def Mv : SCode := y_slices_Equal___int_int__l0.1
def tab : List (Nat × SFun) := [(7, Kg), (16, aW), (17, aM), (18, Vh), (19, snap_List), (25, keep_Ints), (26, keep_Bytes), (27, aS), (33, lD), (39, dev_Apply), (40, view_Of), (41, Xp), (43, keep_Snaps), (44, keep_Rows), (46, pI), (47, Zk), (48, eV), (51, jG), (53, open_Look), (54, aL), (55, dV), (56, kU), (57, Wx), (58, commit_Steps), (65, kY), (71, Aag), (72, view_sectors), (73, Ut), (74, eQ), (76, lH), (77, Zd), (78, bU), (79, Mw), (80, Jh), (81, eE), (82, __head_Stage__Write), (85, Ef), (86, aQ), (87, kP), (88, eC), (89, open_follow), (90, Aar), (91, bF), (92, __open_Image__clash), (93, jF), (94, Dw), (95, Uy), (96, commit_Records), (97, kC), (98, Wv), (99, Eu), (100, To), (101, Xx), (109, aV), (110, kE), (112, walk_Of), (113, bI), (114, eT), (115, Aaf), (116, eJ), (117, __head_Stage__Zero), (118, __head_Stage__Lay), (119, sG), (120, Pe), (123, aB), (124, Hk), (125, Xj), (126, Pu), (127, Kn), (128, Ga), (129, jI), (130, Va), (131, commit_may), (133, Eo), (134, Xe), (136, eG), (137, Fh), (148, dW), (149, qR), (150, le_Set), (151, tA), (152, yG), (153, eX), (154, eY), (155, Ye), (156, eW), (157, Ix), (158, uW), (159, Yd), (160, Nm), (161, Aaq), (162, Ahd), (163, Gz), (164, Yc), (165, Il), (166, Wt), (167, Xm), (168, Zv), (177, Adw), (178, eN), (179, zI), (180, Zc), (181, __build_maker__may), (182, Mx), (183, __build_maker__writes), (184, sU), (185, le_Get), (186, rR), (187, Ya), (188, Tx), (189, jY), (190, Jl), (191, Ux), (196, crc_More), (197, qY), (198, dX), (199, __build_maker__plan), (200, Gy), (201, dU), (202, tR), (203, jQ), (204, Xs), (205, Xd), (206, Agt), (207, Iu), (208, Ji), (209, Mi), (210, slices_Equal___int_int_)]
def B : Prog := Go.AI.look tab
theorem laid : Laid Tryz.prog (Go.AI.look tab) := by
 refine Ak ⟨_, _, Tryz.func7, x_law19_SnapCheap.2.1, by decide⟩ ?_
 refine Ak ⟨_, _, Tryz.func16, x_snap_Create.2.1, by decide⟩ ?_
 refine Ak ⟨_, _, Tryz.func17, x_snap_Delete.2.1, by decide⟩ ?_
 refine Ak ⟨_, _, Tryz.func18, x_snap_Rollback.2.1, by decide⟩ ?_
 refine Ak ⟨_, _, Tryz.func19, x_snap_List.2.1, by decide⟩ ?_
 refine Ak ⟨_, _, Tryz.func25, x_keep_Ints.2.1, by decide⟩ ?_
 refine Ak ⟨_, _, Tryz.func26, x_keep_Bytes.2.1, by decide⟩ ?_
 refine Ak ⟨_, _, Tryz.func27, x_law19_wakes.2.1, by decide⟩ ?_
 refine Ak ⟨_, _, Tryz.func33, x_keep_View.2.1, by decide⟩ ?_
 refine Ak ⟨_, _, Tryz.func39, x_dev_Apply.2.1, by decide⟩ ?_
 refine Ak ⟨_, _, Tryz.func40, x_view_Of.2.1, by decide⟩ ?_
 refine Ak ⟨_, _, Tryz.func41, x_alloc_Left.2.1, by decide⟩ ?_
 refine Ak ⟨_, _, Tryz.func43, x_keep_Snaps.2.1, by decide⟩ ?_
 refine Ak ⟨_, _, Tryz.func44, x_keep_Rows.2.1, by decide⟩ ?_
 refine Ak ⟨_, _, Tryz.func46, x_open_New.2.1, by decide⟩ ?_
 refine Ak ⟨_, _, Tryz.func47, x_head_Resize.2.1, by decide⟩ ?_
 refine Ak ⟨_, _, Tryz.func48, x_head_Write.2.1, by decide⟩ ?_
 refine Ak ⟨_, _, Tryz.func51, x_open_Find.2.1, by decide⟩ ?_
 refine Ak ⟨_, _, Tryz.func53, x_open_Look.2.1, by decide⟩ ?_
 refine Ak ⟨_, _, Tryz.func54, x_snap_create.2.1, by decide⟩ ?_
 refine Ak ⟨_, _, Tryz.func55, x_snap_Makes.2.1, by decide⟩ ?_
 refine Ak ⟨_, _, Tryz.func56, x_snap_find.2.1, by decide⟩ ?_
 refine Ak ⟨_, _, Tryz.func57, x_snap_pending.2.1, by decide⟩ ?_
 refine Ak ⟨_, _, Tryz.func58, x_commit_Steps.2.1, by decide⟩ ?_
 refine Ak ⟨_, _, Tryz.func65, x_dev_Steps.2.1, by decide⟩ ?_
 refine Ak ⟨_, _, Tryz.func71, x_dev_Of.2.1, by decide⟩ ?_
 refine Ak ⟨_, _, Tryz.func72, x_view_sectors.2.1, by decide⟩ ?_
 refine Ak ⟨_, _, Tryz.func73, x_walk_Counts.2.1, by decide⟩ ?_
 refine Ak ⟨_, _, Tryz.func74, x_alloc_free.2.1, by decide⟩ ?_
 refine Ak ⟨_, _, Tryz.func76, x_keep_Snap.2.1, by decide⟩ ?_
 refine Ak ⟨_, _, Tryz.func77, x_super_Bytes.2.1, by decide⟩ ?_
 refine Ak ⟨_, _, Tryz.func78, x_head_look.2.1, by decide⟩ ?_
 refine Ak ⟨_, _, Tryz.func79, x___head_Stage__Resize.2.1, by decide⟩ ?_
 refine Ak ⟨_, _, Tryz.func80, x___head_Stage__makes.2.1, by decide⟩ ?_
 refine Ak ⟨_, _, Tryz.func81, x_head_Whole.2.1, by decide⟩ ?_
 refine Ak ⟨_, _, Tryz.func82, x___head_Stage__Write.2.1, by decide⟩ ?_
 refine Ak ⟨_, _, Tryz.func85, x_slices_IndexFunc___api_Record_api_Record_.2.1, by decide⟩ ?_
 refine Ak ⟨_, _, Tryz.func86, x_open_Find_1.2.1, by decide⟩ ?_
 refine Ak ⟨_, _, Tryz.func87, x_dev_Check.2.1, by decide⟩ ?_
 refine Ak ⟨_, _, Tryz.func88, x_super_Pick.2.1, by decide⟩ ?_
 refine Ak ⟨_, _, Tryz.func89, x_open_follow.2.1, by decide⟩ ?_
 refine Ak ⟨_, _, Tryz.func90, x_tree_Go.2.1, by decide⟩ ?_
 refine Ak ⟨_, _, Tryz.func91, x_open_beyond.2.1, by decide⟩ ?_
 refine Ak ⟨_, _, Tryz.func92, x___open_Image__clash.2.1, by decide⟩ ?_
 refine Ak ⟨_, _, Tryz.func93, x_ids_Check.2.1, by decide⟩ ?_
 refine Ak ⟨_, _, Tryz.func94, x_slices_ContainsFunc___api_Record_api_Record_.2.1, by decide⟩ ?_
 refine Ak ⟨_, _, Tryz.func95, x_snap_create_1.2.1, by decide⟩ ?_
 refine Ak ⟨_, _, Tryz.func96, x_commit_Records.2.1, by decide⟩ ?_
 refine Ak ⟨_, _, Tryz.func97, x_head_Free.2.1, by decide⟩ ?_
 refine Ak ⟨_, _, Tryz.func98, x_commit_ready.2.1, by decide⟩ ?_
 refine Ak ⟨_, _, Tryz.func99, x_slices_ContainsFunc___api_Io_api_Io_.2.1, by decide⟩ ?_
 refine Ak ⟨_, _, Tryz.func100, x_commit_Steps_1.2.1, by decide⟩ ?_
 refine Ak ⟨_, _, Tryz.func101, x_commit_write.2.1, by decide⟩ ?_
 refine Ak ⟨_, _, Tryz.func109, x_dev_Steps_1.2.1, by decide⟩ ?_
 refine Ak ⟨_, _, Tryz.func110, x_dev_right.2.1, by decide⟩ ?_
 refine Ak ⟨_, _, Tryz.func112, x_walk_Of.2.1, by decide⟩ ?_
 refine Ak ⟨_, _, Tryz.func113, x_super_Check.2.1, by decide⟩ ?_
 refine Ak ⟨_, _, Tryz.func114, x_super_Make.2.1, by decide⟩ ?_
 refine Ak ⟨_, _, Tryz.func115, x_super_layout.2.1, by decide⟩ ?_
 refine Ak ⟨_, _, Tryz.func116, x_head_Begin.2.1, by decide⟩ ?_
 refine Ak ⟨_, _, Tryz.func117, x___head_Stage__Zero.2.1, by decide⟩ ?_
 refine Ak ⟨_, _, Tryz.func118, x___head_Stage__Lay.2.1, by decide⟩ ?_
 refine Ak ⟨_, _, Tryz.func119, x_head_May.2.1, by decide⟩ ?_
 refine Ak ⟨_, _, Tryz.func120, x___head_Stage__Put.2.1, by decide⟩ ?_
 refine Ak ⟨_, _, Tryz.func123, x_super_Parse.2.1, by decide⟩ ?_
 refine Ak ⟨_, _, Tryz.func124, x_slices_Contains___int_int_.2.1, by decide⟩ ?_
 refine Ak ⟨_, _, Tryz.func125, x_record_Parse.2.1, by decide⟩ ?_
 refine Ak ⟨_, _, Tryz.func126, x___open_chain__may.2.1, by decide⟩ ?_
 refine Ak ⟨_, _, Tryz.func127, x___tree_Walk__goes.2.1, by decide⟩ ?_
 refine Ak ⟨_, _, Tryz.func128, x_slices_ContainsFunc___int_int_.2.1, by decide⟩ ?_
 refine Ak ⟨_, _, Tryz.func129, x_tree_Go_1.2.1, by decide⟩ ?_
 refine Ak ⟨_, _, Tryz.func130, x_open_beyond_1.2.1, by decide⟩ ?_
 refine Ak ⟨_, _, Tryz.func131, x_commit_may.2.1, by decide⟩ ?_
 refine Ak ⟨_, _, Tryz.func133, x_slices_Reverse___api_Record_api_Record_.2.1, by decide⟩ ?_
 refine Ak ⟨_, _, Tryz.func134, x_record_Bytes.2.1, by decide⟩ ?_
 refine Ak ⟨_, _, Tryz.func136, x_alloc_Free.2.1, by decide⟩ ?_
 refine Ak ⟨_, _, Tryz.func137, x_slices_IndexFunc___api_Io_api_Io_.2.1, by decide⟩ ?_
 refine Ak ⟨_, _, Tryz.func148, x_node_Parse.2.1, by decide⟩ ?_
 refine Ak ⟨_, _, Tryz.func149, x_super_in.2.1, by decide⟩ ?_
 refine Ak ⟨_, _, Tryz.func150, x_le_Set.2.1, by decide⟩ ?_
 refine Ak ⟨_, _, Tryz.func151, x_crc_Seal.2.1, by decide⟩ ?_
 refine Ak ⟨_, _, Tryz.func152, x_super_Layout.2.1, by decide⟩ ?_
 refine Ak ⟨_, _, Tryz.func153, x_alloc_Take.2.1, by decide⟩ ?_
 refine Ak ⟨_, _, Tryz.func154, x_build_Tree.2.1, by decide⟩ ?_
 refine Ak ⟨_, _, Tryz.func155, x_frame_Within.2.1, by decide⟩ ?_
 refine Ak ⟨_, _, Tryz.func156, x_super_Read.2.1, by decide⟩ ?_
 refine Ak ⟨_, _, Tryz.func157, x_slices_Index___int_int_.2.1, by decide⟩ ?_
 refine Ak ⟨_, _, Tryz.func158, x_record_layout.2.1, by decide⟩ ?_
 refine Ak ⟨_, _, Tryz.func159, x_record_Check.2.1, by decide⟩ ?_
 refine Ak ⟨_, _, Tryz.func160, x___open_chain__may_1.2.1, by decide⟩ ?_
 refine Ak ⟨_, _, Tryz.func161, x_tree_At.2.1, by decide⟩ ?_
 refine Ak ⟨_, _, Tryz.func162, x_node_Under.2.1, by decide⟩ ?_
 refine Ak ⟨_, _, Tryz.func163, x_slices_IndexFunc___int_int_.2.1, by decide⟩ ?_
 refine Ak ⟨_, _, Tryz.func164, x_commit_may_1.2.1, by decide⟩ ?_
 refine Ak ⟨_, _, Tryz.func165, x_slices_Concat___int_int_.2.1, by decide⟩ ?_
 refine Ak ⟨_, _, Tryz.func166, x_commit_may_2.2.1, by decide⟩ ?_
 refine Ak ⟨_, _, Tryz.func167, x_commit_place.2.1, by decide⟩ ?_
 refine Ak ⟨_, _, Tryz.func168, x_alloc_right.2.1, by decide⟩ ?_
 refine Ak ⟨_, _, Tryz.func177, x_node_layout.2.1, by decide⟩ ?_
 refine Ak ⟨_, _, Tryz.func178, x_node_Check.2.1, by decide⟩ ?_
 refine Ak ⟨_, _, Tryz.func179, x_crc_Sum.2.1, by decide⟩ ?_
 refine Ak ⟨_, _, Tryz.func180, x_build_begin.2.1, by decide⟩ ?_
 refine Ak ⟨_, _, Tryz.func181, x___build_maker__may.2.1, by decide⟩ ?_
 refine Ak ⟨_, _, Tryz.func182, x___build_maker__needs.2.1, by decide⟩ ?_
 refine Ak ⟨_, _, Tryz.func183, x___build_maker__writes.2.1, by decide⟩ ?_
 refine Ak ⟨_, _, Tryz.func184, x_crc_Good.2.1, by decide⟩ ?_
 refine Ak ⟨_, _, Tryz.func185, x_le_Get.2.1, by decide⟩ ?_
 refine Ak ⟨_, _, Tryz.func186, x_le_Zeros.2.1, by decide⟩ ?_
 refine Ak ⟨_, _, Tryz.func187, x_node_Pointer.2.1, by decide⟩ ?_
 refine Ak ⟨_, _, Tryz.func188, x_record_Parents.2.1, by decide⟩ ?_
 refine Ak ⟨_, _, Tryz.func189, x_record_in.2.1, by decide⟩ ?_
 refine Ak ⟨_, _, Tryz.func190, x_slices_Grow___int_int_.2.1, by decide⟩ ?_
 refine Ak ⟨_, _, Tryz.func191, x_alloc_right_1.2.1, by decide⟩ ?_
 refine Ak ⟨_, _, Tryz.func196, x_crc_More.2.1, by decide⟩ ?_
 refine Ak ⟨_, _, Tryz.func197, x_tree_Map.2.1, by decide⟩ ?_
 refine Ak ⟨_, _, Tryz.func198, x_tree_Check.2.1, by decide⟩ ?_
 refine Ak ⟨_, _, Tryz.func199, x___build_maker__plan.2.1, by decide⟩ ?_
 refine Ak ⟨_, _, Tryz.func200, x___build_maker__pointers.2.1, by decide⟩ ?_
 refine Ak ⟨_, _, Tryz.func201, x_node_Bytes.2.1, by decide⟩ ?_
 refine Ak ⟨_, _, Tryz.func202, x_le_right.2.1, by decide⟩ ?_
 refine Ak ⟨_, _, Tryz.func203, x_le_within.2.1, by decide⟩ ?_
 refine Ak ⟨_, _, Tryz.func204, x_tree_checked.2.1, by decide⟩ ?_
 refine Ak ⟨_, _, Tryz.func205, x_tree_Check_1.2.1, by decide⟩ ?_
 refine Ak ⟨_, _, Tryz.func206, x_build_many.2.1, by decide⟩ ?_
 refine Ak ⟨_, _, Tryz.func207, x___build_maker__learn.2.1, by decide⟩ ?_
 refine Ak ⟨_, _, Tryz.func208, x___build_maker__kept.2.1, by decide⟩ ?_
 refine Ak ⟨_, _, Tryz.func209, x___build_maker__kept_1.2.1, by decide⟩ ?_
 refine Ak ⟨_, _, Tryz.func210, x_slices_Equal___int_int_.2.1, by decide⟩ ?_
 exact gV
theorem Mj : B Pq = some Kg := rfl
theorem uE : B Rl = some aW := rfl
theorem uH : B Vg = some aM := rfl
theorem nO : B Sd = some Vh := rfl
theorem Aer : B aJ = some snap_List := rfl
theorem Abf : B nF = some keep_Ints := rfl
theorem zX : B Wu = some keep_Bytes := rfl
theorem tZ : B dK = some aS := rfl
theorem Abu : B mQ = some lD := rfl
theorem Acq : B Uq = some dev_Apply := rfl
theorem Alh : B vF = some view_Of := rfl
theorem iZ : B hJ = some Xp := rfl
theorem Aab : B iI = some keep_Snaps := rfl
theorem Ach : B mL = some keep_Rows := rfl
theorem Ahx : B Xg = some pI := rfl
theorem uC : B cY = some Zk := rfl
theorem yV : B Ww = some eV := rfl
theorem Acl : B lP = some jG := rfl
theorem mD : B Uk = some open_Look := rfl
theorem uN : B dF = some aL := rfl
theorem Aac : B Xz = some dV := rfl
theorem Ady : B mF = some kU := rfl
theorem tB : B Pr = some Wx := rfl
theorem Zu : B Zf = some commit_Steps := rfl
theorem Adu : B mC = some kY := rfl
theorem Abj : B Vt = some Aag := rfl
theorem pK : B Zo = some view_sectors := rfl
theorem cN : B Ve = some Ut := rfl
theorem xX : B iO = some eQ := rfl
theorem Acw : B lQ = some lH := rfl
theorem uS : B Vc = some Zd := rfl
theorem nD : B Zw = some bU := rfl
theorem Xr : B Pw = some Mw := rfl
theorem Me : B Qi = some Jh := rfl
theorem zO : B gA = some eE := rfl
theorem Yv : B Qh = some __head_Stage__Write := rfl
theorem Hd : B Dy = some Ef := rfl
theorem uB : B Rk = some aQ := rfl
theorem Aeh : B Ur = some kP := rfl
theorem zE : B Sq = some eC := rfl
theorem uI : B cU = some open_follow := rfl
theorem Ama : B kA = some Aar := rfl
theorem uT : B cQ = some bF := rfl
theorem Yx : B Qj = some __open_Image__clash := rfl
theorem Aeb : B Zt = some jF := rfl
theorem Gn : B Ck = some Dw := rfl
theorem nK : B Oc = some Uy := rfl
theorem lK : B Vy = some commit_Records := rfl
theorem Acn : B mP = some kC := rfl
theorem sP : B aG = some Wv := rfl
theorem It : B Dq = some Eu := rfl
theorem jX : B Nf = some To := rfl
theorem pG : B aN = some Xx := rfl
theorem uO : B Rf = some aV := rfl
theorem Aev : B mZ = some kE := rfl
theorem Alx : B wT = some walk_Of := rfl
theorem uR : B dJ = some bI := rfl
theorem Aal : B iG = some eT := rfl
theorem Aan : B iU = some eJ := rfl
theorem bC : B Ru = some __head_Stage__Zero := rfl
theorem cJ : B Si = some __head_Stage__Lay := rfl
theorem Afh : B rB = some sG := rfl
theorem cI : B Sj = some Pe := rfl
theorem uJ : B Uz = some aB := rfl
theorem Ly : B Cw = some Hk := rfl
theorem tP : B bH = some Xj := rfl
theorem cH : B Nk = some Pu := rfl
theorem Nl : B Kx = some Kn := rfl
theorem Kk : B Fo = some Ga := rfl
theorem Aew : B Rq = some jI := rfl
theorem nI : B Sb = some Va := rfl
theorem zQ : B iW = some commit_may := rfl
theorem Hr : B Cs = some Eo := rfl
theorem tK : B Qb = some Xe := rfl
theorem yP : B iY = some eG := rfl
theorem Jq : B Gp = some Fh := rfl
theorem zK : B iE = some dW := rfl
theorem Aib : B pF = some qR := rfl
theorem Arr : B hG = some le_Set := rfl
theorem Afj : B eI = some tA := rfl
theorem yU : B iT = some eX := rfl
theorem yY : B iN = some eY := rfl
theorem rD : B bE = some Ye := rfl
theorem zF : B iP = some eW := rfl
theorem Nh : B Ke = some Ix := rfl
theorem pL : B Tp = some Yd := rfl
theorem Yy : B Jw = some Nm := rfl
theorem Amx : B vM = some Aaq := rfl
theorem Lk : B Ip = some Gz := rfl
theorem qG : B Pg = some Yc := rfl
theorem Ms : B Mr = some Il := rfl
theorem oW : B Pc = some Wt := rfl
theorem qL : B Zr = some Xm := rfl
theorem uM : B cW = some Zv := rfl
theorem zG : B gQ = some eN := rfl
theorem Alo : B kL = some zI := rfl
theorem uU : B Vb = some Zc := rfl
theorem Zp : B Rw = some __build_maker__may := rfl
theorem Xc : B Lr = some Mx := rfl
theorem Wf : B Le = some __build_maker__writes := rfl
theorem Agl : B fC = some sU := rfl
theorem Aqh : B gP = some le_Get := rfl
theorem Ahz : B qV = some rR := rfl
theorem oP : B Tn = some Ya := rfl
theorem kT : B Ra = some Tx := rfl
theorem Abx : B mJ = some jY := rfl
theorem Ny : B Kr = some Jl := rfl
theorem nL : B Rz = some Ux := rfl
theorem Ago : B oM = some crc_More := rfl
theorem Agf : B qK = some qY := rfl
theorem Aae : B iR = some dX := rfl
theorem Yw : B Mg = some __build_maker__plan := rfl
theorem Kd : B Hx = some Gy := rfl
theorem Aai : B hU = some dU := rfl
theorem Ags : B sK = some tR := rfl
theorem Acy : B lZ = some jQ := rfl
theorem sJ : B bA = some Xs := rfl
theorem oK : B Tu = some Xd := rfl
theorem Lo : B Jm = some Iu := rfl
theorem Mh : B Jx = some Ji := rfl
theorem Vu : B Gv = some Mi := rfl
theorem Uc : B Ng = some slices_Equal___int_int_ := rfl
end Go.Proofs.YtkaiiopoilpjeaaGreat

