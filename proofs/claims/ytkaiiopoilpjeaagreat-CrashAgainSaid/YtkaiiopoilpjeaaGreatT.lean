import Derived.Test.YtkaiiopoilpjeaaGreatMC
import Derived.KernelRfl
import Derived.Test.YtkaiiopoilpjeaaGreatProg
set_option maxRecDepth 100000
set_option maxHeartbeats 4000000
namespace Go.Proofs.YtkaiiopoilpjeaaGreat
open Go.AI
abbrev Rb : Nat := 8
abbrev Qt : Nat := 9
abbrev Sf : Nat := 10
abbrev Nd : Nat := 11
abbrev Pp : Nat := 12
abbrev Rf : Nat := 13
abbrev gY : Nat := 14
abbrev rA : Nat := 15
abbrev Pb : Nat := 16
abbrev Xr : Nat := 17
abbrev Tx : Nat := 18
abbrev eM : Nat := 19
abbrev rU : Nat := 25
abbrev Zx : Nat := 26
abbrev gH : Nat := 27
abbrev Vm : Nat := 28
abbrev Xt : Nat := 29
abbrev eP : Nat := 30
abbrev Tr : Nat := 31
abbrev rC : Nat := 33
abbrev gK : Nat := 34
abbrev Ws : Nat := 39
abbrev fV : Nat := 40
abbrev mF : Nat := 42
abbrev kM : Nat := 43
abbrev rW : Nat := 44
abbrev So : Nat := 45
abbrev aI : Nat := 46
abbrev gR : Nat := 47
abbrev nG : Nat := 48
abbrev Zq : Nat := 49
abbrev sA : Nat := 50
abbrev rQ : Nat := 51
abbrev qR : Nat := 52
abbrev Wm : Nat := 53
abbrev gI : Nat := 54
abbrev aY : Nat := 55
abbrev rI : Nat := 56
abbrev Rd : Nat := 57
abbrev dR : Nat := 58
abbrev qT : Nat := 65
abbrev gT : Nat := 66
abbrev Di : Nat := 70
abbrev Wd : Nat := 71
abbrev eQ : Nat := 72
abbrev mG : Nat := 74
abbrev Zv : Nat := 75
abbrev rB : Nat := 76
abbrev Xn : Nat := 77
abbrev cJ : Nat := 78
abbrev Qa : Nat := 79
abbrev Rp : Nat := 80
abbrev mA : Nat := 81
abbrev Rs : Nat := 82
abbrev sB : Nat := 83
abbrev mQ : Nat := 84
abbrev Dy : Nat := 85
abbrev Sx : Nat := 86
abbrev Ww : Nat := 87
abbrev Ui : Nat := 88
abbrev gO : Nat := 89
abbrev oO : Nat := 90
abbrev gW : Nat := 91
abbrev Rr : Nat := 92
abbrev dE : Nat := 93
abbrev Cq : Nat := 94
abbrev Ph : Nat := 95
abbrev Yp : Nat := 96
abbrev rR : Nat := 97
abbrev dV : Nat := 98
abbrev Dq : Nat := 99
abbrev Oc : Nat := 100
abbrev dZ : Nat := 101
abbrev Ss : Nat := 109
abbrev rY : Nat := 110
abbrev Acm : Nat := 112
abbrev gU : Nat := 113
abbrev mT : Nat := 114
abbrev xE : Nat := 115
abbrev mR : Nat := 116
abbrev Tg : Nat := 117
abbrev Ue : Nat := 118
abbrev uQ : Nat := 119
abbrev Uf : Nat := 120
abbrev wP : Nat := 121
abbrev Ru : Nat := 122
abbrev Xl : Nat := 123
abbrev Cz : Nat := 124
abbrev cD : Nat := 125
abbrev Oq : Nat := 126
abbrev Lo : Nat := 127
abbrev Fu : Nat := 128
abbrev Tm : Nat := 129
abbrev Ty : Nat := 130
abbrev lM : Nat := 131
abbrev Ck : Nat := 132
abbrev Cw : Nat := 133
abbrev Qi : Nat := 134
abbrev Dm : Nat := 135
abbrev kY : Nat := 136
abbrev Gu : Nat := 137
abbrev nH : Nat := 148
abbrev wY : Nat := 149
abbrev mZ : Nat := 150
abbrev iD : Nat := 151
abbrev nE : Nat := 153
abbrev kU : Nat := 154
abbrev eB : Nat := 155
abbrev lN : Nat := 156
abbrev Kr : Nat := 157
abbrev sR : Nat := 158
abbrev Vq : Nat := 159
abbrev Kk : Nat := 160
abbrev Aav : Nat := 161
abbrev Uh : Nat := 162
abbrev Jd : Nat := 163
abbrev Rh : Nat := 164
abbrev Nv : Nat := 165
abbrev Qv : Nat := 166
abbrev eI : Nat := 167
abbrev gM : Nat := 168
abbrev zI : Nat := 177
abbrev kD : Nat := 178
abbrev oE : Nat := 179
abbrev Xg : Nat := 180
abbrev Tf : Nat := 181
abbrev Mh : Nat := 182
abbrev Lx : Nat := 183
abbrev iJ : Nat := 184
abbrev mI : Nat := 185
abbrev uO : Nat := 186
abbrev Vt : Nat := 187
abbrev Rw : Nat := 188
abbrev rJ : Nat := 189
abbrev Lg : Nat := 190
abbrev Tt : Nat := 191
abbrev wT : Nat := 196
abbrev yC : Nat := 197
abbrev lY : Nat := 198
abbrev Na : Nat := 199
abbrev Ij : Nat := 200
abbrev mL : Nat := 201
abbrev uF : Nat := 202
abbrev rM : Nat := 203
abbrev dQ : Nat := 204
abbrev Vr : Nat := 205
abbrev aQ : Nat := 206
abbrev Jy : Nat := 207
abbrev Km : Nat := 208
abbrev Hg : Nat := 209
abbrev Oi : Nat := 210
def x_law19_SnapHolds : Be Tryz.prog [(7, 5, ⟨0, .pure, false⟩), (8, 5, ⟨1, .pure, false⟩), (18, 5, ⟨2, .pure, false⟩)] Tryz.f8 := Bt
def Gw : SFun := x_law19_SnapHolds.1
def x_law27_CrashDone : Be Tryz.prog [(7, 5, ⟨0, .pure, false⟩), (8, 5, ⟨1, .pure, false⟩), (9, 7, ⟨2, .pure, false⟩), (10, 9, ⟨3, .pure, false⟩)] Tryz.f9 := Bt
def Jo : SFun := x_law27_CrashDone.1
def x_law19_SnapBack : Be Tryz.prog [(10, 5, ⟨0, .pure, false⟩), (15, 5, ⟨1, .pure, false⟩), (16, 5, ⟨2, .pure, false⟩)] Tryz.f10 := Bt
def Ly : SFun := x_law19_SnapBack.1
def x_law27_CrashHead : Be Tryz.prog [(0, 0, ⟨0, .pure, false⟩)] Tryz.f11 := Bt
def Jp : SFun := x_law27_CrashHead.1
def x_law27_CrashAgain : Be Tryz.prog [(12, 5, ⟨0, .pure, false⟩), (14, 5, ⟨1, .pure, false⟩)] Tryz.f12 := Bt
def Gg : SFun := x_law27_CrashAgain.1
def x_law27_CrashBoth : Be Tryz.prog [(10, 1, ⟨0, (.fresh 0), false⟩), (10, 3, ⟨1, .pure, false⟩)] Tryz.f13 := Bt
def Id : SFun := x_law27_CrashBoth.1
def x_law05_Heavy : Be Tryz.prog [] Tryz.f14 := Bt
def dB : SFun := x_law05_Heavy.1
def x_keep_Twin : Be Tryz.prog [(0, 0, ⟨0, .pure, true⟩), (1, 0, ⟨1, .pure, true⟩), (2, 2, ⟨2, .pure, false⟩)] Tryz.f15 := Bt
def oW : SFun := x_keep_Twin.1
def x_snap_Create : Be Tryz.prog [(6, 14, ⟨0, .pure, false⟩)] Tryz.f16 := Bt
def dG : SFun := x_snap_Create.1
def x_snap_Delete : Be Tryz.prog [(7, 8, ⟨0, .pure, false⟩)] Tryz.f17 := Bt
def dD : SFun := x_snap_Delete.1
def x_snap_Rollback : Be Tryz.prog [(7, 8, ⟨0, .pure, false⟩)] Tryz.f18 := Bt
def Xu : SFun := x_snap_Rollback.1
def x_snap_List : Be Tryz.prog [(0, 0, ⟨0, .pure, true⟩), (3, 1, ⟨1, .pure, true⟩), (4, 0, ⟨2, .pure, true⟩), (7, 2, ⟨3, .pure, false⟩), (9, 3, ⟨4, .pure, false⟩), (9, 4, ⟨5, .pure, false⟩)] Tryz.f19 := Bt
def snap_List : SFun := x_snap_List.1
def y_snap_List_l0 : Lp snap_List.code 0 := lpIt
def mO : SCode := y_snap_List_l0.1
def x_keep_Ints : Be Tryz.prog [] Tryz.f25 := Bt
def keep_Ints : SFun := x_keep_Ints.1
def y_keep_Ints_l0 : Lp keep_Ints.code 0 := lpIt
def nI : SCode := y_keep_Ints_l0.1
def x_keep_Bytes : Be Tryz.prog [] Tryz.f26 := Bt
def keep_Bytes : SFun := x_keep_Bytes.1
def y_keep_Bytes_l0 : Lp keep_Bytes.code 0 := lpIt
def gL : SCode := y_keep_Bytes_l0.1
def x_law19_wakes : Be Tryz.prog [(8, 21, ⟨0, .pure, false⟩)] Tryz.f27 := Bt
def cS : SFun := x_law19_wakes.1
def x_keep_TwinIos : Be Tryz.prog [(0, 0, ⟨0, .pure, true⟩), (1, 0, ⟨1, .pure, true⟩), (5, 18, ⟨2, .pure, false⟩), (5, 19, ⟨3, .pure, false⟩)] Tryz.f28 := Bt
def keep_TwinIos : SFun := x_keep_TwinIos.1
def y_keep_TwinIos_l0 : Lp keep_TwinIos.code 0 := lpIt
def bI : SCode := y_keep_TwinIos_l0.1
def x_crash_After : Be Tryz.prog [(0, 0, ⟨0, .pure, false⟩)] Tryz.f29 := Bt
def dC : SFun := x_crash_After.1
def x_crash_States : Be Tryz.prog [(0, 0, ⟨0, .pure, true⟩), (3, 1, ⟨1, .pure, true⟩), (4, 5, ⟨2, .pure, false⟩), (6, 1, ⟨3, .pure, true⟩), (7, 1, ⟨4, .pure, false⟩), (17, 1, ⟨5, .pure, true⟩), (18, 2, ⟨6, .pure, false⟩), (18, 3, ⟨7, .pure, false⟩)] Tryz.f30 := Bt
def crash_States : SFun := x_crash_States.1
def y_crash_States_l0 : Lp crash_States.code 0 := lpIt
def bJ : SCode := y_crash_States_l0.1
def x_crash_Commits : Be Tryz.prog [] Tryz.f31 := Bt
def Xp : SFun := x_crash_Commits.1
def x_keep_View : Be Tryz.prog [(0, 0, ⟨0, .pure, false⟩), (0, 1, ⟨1, .pure, false⟩)] Tryz.f33 := Bt
def nL : SFun := x_keep_View.1
def x_law27_wakes : Be Tryz.prog [(3, 8, ⟨0, .pure, false⟩), (4, 6, ⟨1, .pure, false⟩)] Tryz.f34 := Bt
def dO : SFun := x_law27_wakes.1
def x_dev_Apply : Be Tryz.prog [(4, 1, ⟨0, (.fresh 0), false⟩), (7, 2, ⟨1, .pure, false⟩), (9, 3, ⟨0, (.peek 2), false⟩)] Tryz.f39 := Bt
def dev_Apply : SFun := x_dev_Apply.1
def y_dev_Apply_l0 : Lp dev_Apply.code 0 := lpIt
def mE : SCode := y_dev_Apply_l0.1
def x_view_Of : Be Tryz.prog [(0, 0, ⟨0, .pure, false⟩), (4, 18, ⟨1, .pure, false⟩), (7, 3, ⟨2, .pure, false⟩), (8, 24, ⟨3, .pure, false⟩), (10, 3, ⟨4, .pure, false⟩), (10, 4, ⟨5, .pure, false⟩), (11, 3, ⟨6, .pure, false⟩), (11, 4, ⟨7, .pure, false⟩)] Tryz.f40 := Bt
def view_Of : SFun := x_view_Of.1
def y_view_Of_l0 : Lp view_Of.code 0 := lpIt
def uI : SCode := y_view_Of_l0.1
def x_fsck_Sound : Be Tryz.prog [] Tryz.f42 := Bt
def Zu : SFun := x_fsck_Sound.1
def x_keep_Snaps : Be Tryz.prog [] Tryz.f43 := Bt
def keep_Snaps : SFun := x_keep_Snaps.1
def y_keep_Snaps_l0 : Lp keep_Snaps.code 0 := lpIt
def gF : SCode := y_keep_Snaps_l0.1
def x_keep_Rows : Be Tryz.prog [] Tryz.f44 := Bt
def keep_Rows : SFun := x_keep_Rows.1
def y_keep_Rows_l0 : Lp keep_Rows.code 0 := lpIt
def nD : SCode := y_keep_Rows_l0.1
def x_law27_holds : Be Tryz.prog [(2, 8, ⟨0, .pure, false⟩)] Tryz.f45 := Bt
def cG : SFun := x_law27_holds.1
def x_open_New : Be Tryz.prog [(3, 2, ⟨0, .pure, false⟩)] Tryz.f46 := Bt
def yI : SFun := x_open_New.1
def x_head_Resize : Be Tryz.prog [(1, 1, ⟨0, (.inl 0), false⟩), (6, 2, ⟨0, (.inl 3), false⟩), (7, 3, ⟨0, (.inl 3), false⟩)] Tryz.f47 := Bt
def cQ : SFun := x_head_Resize.1
def x_head_Write : Be Tryz.prog [(1, 1, ⟨0, (.inl 0), false⟩), (6, 3, ⟨0, (.inl 3), false⟩), (7, 3, ⟨0, (.inl 3), false⟩)] Tryz.f48 := Bt
def jL : SFun := x_head_Write.1
def x_law18_Do : Be Tryz.prog [] Tryz.f49 := Bt
def vK : SFun := x_law18_Do.1
def x_open_Open : Be Tryz.prog [(0, 0, ⟨0, .pure, false⟩)] Tryz.f50 := Bt
def pM : SFun := x_open_Open.1
def x_open_Find : Be Tryz.prog [(0, 0, ⟨0, .pure, false⟩), (0, 1, ⟨1, .pure, false⟩)] Tryz.f51 := Bt
def oT : SFun := x_open_Find.1
def x_dev_Crash : Be Tryz.prog [(10, 1, ⟨0, (.fresh 0), false⟩), (13, 3, ⟨1, .pure, false⟩), (20, 3, ⟨0, (.peek 2), false⟩)] Tryz.f52 := Bt
def dev_Crash : SFun := x_dev_Crash.1
def y_dev_Crash_l0 : Lp dev_Crash.code 0 := lpIt
def Zr : SCode := y_dev_Crash_l0.1
def x_open_Look : Be Tryz.prog [(4, 1, ⟨0, .pure, false⟩), (12, 6, ⟨1, .pure, false⟩), (12, 13, ⟨2, .pure, false⟩), (15, 2, ⟨3, .pure, false⟩), (16, 3, ⟨4, .pure, false⟩), (16, 4, ⟨5, .pure, false⟩), (16, 8, ⟨6, .pure, false⟩), (16, 9, ⟨7, .pure, false⟩), (24, 6, ⟨8, .pure, false⟩), (24, 7, ⟨9, .pure, false⟩)] Tryz.f53 := Bt
def open_Look : SFun := x_open_Look.1
def y_open_Look_l0 : Lp open_Look.code 0 := lpIt
def lZ : SCode := y_open_Look_l0.1
def y_open_Look_l1 : Lp open_Look.code 1 := lpIt
def mB : SCode := y_open_Look_l1.1
def x_snap_create : Be Tryz.prog [(0, 0, ⟨0, .pure, false⟩), (0, 1, ⟨1, .pure, false⟩), (1, 5, ⟨2, .pure, false⟩)] Tryz.f54 := Bt
def dU : SFun := x_snap_create.1
def x_snap_Makes : Be Tryz.prog [(0, 0, ⟨0, .pure, false⟩), (1, 5, ⟨1, .pure, false⟩)] Tryz.f55 := Bt
def jI : SFun := x_snap_Makes.1
def x_snap_find : Be Tryz.prog [(0, 0, ⟨0, .pure, false⟩)] Tryz.f56 := Bt
def oX : SFun := x_snap_find.1
def x_snap_pending : Be Tryz.prog [(0, 0, ⟨0, .pure, false⟩), (0, 1, ⟨1, .pure, false⟩)] Tryz.f57 := Bt
def Zw : SFun := x_snap_pending.1
def x_commit_Steps : Be Tryz.prog [(0, 0, ⟨0, .pure, false⟩), (0, 1, ⟨1, .pure, true⟩), (2, 0, ⟨2, .pure, true⟩), (3, 11, ⟨3, .pure, false⟩), (6, 0, ⟨4, .pure, true⟩), (7, 0, ⟨5, .pure, true⟩), (10, 2, ⟨6, .pure, false⟩), (11, 7, ⟨7, .pure, false⟩), (11, 8, ⟨8, .pure, false⟩), (13, 1, ⟨9, .pure, false⟩), (14, 8, ⟨10, .pure, false⟩), (14, 9, ⟨11, .pure, false⟩)] Tryz.f58 := Bt
def commit_Steps : SFun := x_commit_Steps.1
def y_commit_Steps_l0 : Lp commit_Steps.code 0 := lpIt
def bL : SCode := y_commit_Steps_l0.1
def x_dev_Steps : Be Tryz.prog [(1, 5, ⟨0, .pure, false⟩)] Tryz.f65 := Bt
def nK : SFun := x_dev_Steps.1
def x_dev_Flushes : Be Tryz.prog [(0, 0, ⟨0, .pure, true⟩), (1, 0, ⟨1, .pure, true⟩), (4, 3, ⟨2, .pure, false⟩), (6, 2, ⟨3, .pure, false⟩), (6, 3, ⟨4, .pure, false⟩)] Tryz.f66 := Bt
def dev_Flushes : SFun := x_dev_Flushes.1
def y_dev_Flushes_l0 : Lp dev_Flushes.code 0 := lpIt
def cK : SCode := y_dev_Flushes_l0.1
def x_slices_Clone___byte_byte_ : Be Tryz.prog [(0, 0, ⟨0, .pure, true⟩), (2, 0, ⟨1, .pure, true⟩), (3, 2, ⟨2, .pure, false⟩)] Tryz.f70 := Bt
def slices_Clone___byte_byte_ : SFun := x_slices_Clone___byte_byte_.1
def x_dev_Of : Be Tryz.prog [] Tryz.f71 := Bt
def Agj : SFun := x_dev_Of.1
def x_view_sectors : Be Tryz.prog [(0, 0, ⟨0, .pure, true⟩), (1, 0, ⟨1, .pure, true⟩), (5, 0, ⟨2, .pure, false⟩), (7, 3, ⟨0, (.inl 3), false⟩), (8, 2, ⟨3, .pure, false⟩), (8, 3, ⟨4, .pure, false⟩)] Tryz.f72 := Bt
def view_sectors : SFun := x_view_sectors.1
def y_view_sectors_l0 : Lp view_sectors.code 0 := lpIt
def bF : SCode := y_view_sectors_l0.1
def x_alloc_free : Be Tryz.prog [(0, 0, ⟨0, .pure, true⟩), (1, 0, ⟨1, .pure, true⟩), (6, 2, ⟨2, .pure, false⟩), (6, 3, ⟨3, .pure, false⟩)] Tryz.f74 := Bt
def jE : SFun := x_alloc_free.1
def x_fsck_Check : Be Tryz.prog [(4, 3, ⟨0, .pure, false⟩)] Tryz.f75 := Bt
def Zp : SFun := x_fsck_Check.1
def x_keep_Snap : Be Tryz.prog [(0, 0, ⟨0, .pure, false⟩), (0, 1, ⟨1, .pure, false⟩)] Tryz.f76 := Bt
def oL : SFun := x_keep_Snap.1
def x_super_Bytes : Be Tryz.prog [(0, 0, ⟨0, .pure, false⟩), (4, 11, ⟨1, .pure, false⟩)] Tryz.f77 := Bt
def eL : SFun := x_super_Bytes.1
def x_head_look : Be Tryz.prog [(4, 16, ⟨0, (.inl 0), false⟩)] Tryz.f78 := Bt
def fD : SFun := x_head_look.1
def x___head_Stage__Resize : Be Tryz.prog [(0, 2, ⟨0, (.inl 0), false⟩)] Tryz.f79 := Bt
def Nr : SFun := x___head_Stage__Resize.1
def x___head_Stage__makes : Be Tryz.prog [(1, 5, ⟨0, .pure, false⟩), (4, 7, ⟨0, (.inl 1), false⟩)] Tryz.f80 := Bt
def Jt : SFun := x___head_Stage__makes.1
def x_head_Whole : Be Tryz.prog [] Tryz.f81 := Bt
def jH : SFun := x_head_Whole.1
def x___head_Stage__Write : Be Tryz.prog [(3, 4, ⟨0, (.inl 0), false⟩), (4, 9, ⟨0, (.peek 0), false⟩)] Tryz.f82 := Bt
def __head_Stage__Write : SFun := x___head_Stage__Write.1
def y___head_Stage__Write_l0 : Lp __head_Stage__Write.code 0 := lpIt
def Ql : SCode := y___head_Stage__Write_l0.1
def x_head_Zero : Be Tryz.prog [(1, 1, ⟨0, (.inl 0), false⟩), (6, 5, ⟨0, (.inl 3), false⟩), (7, 3, ⟨0, (.inl 3), false⟩)] Tryz.f83 := Bt
def nZ : SFun := x_head_Zero.1
def x_head_Clone : Be Tryz.prog [(1, 1, ⟨0, (.inl 0), false⟩), (6, 8, ⟨0, (.inl 3), false⟩), (7, 3, ⟨0, (.inl 3), false⟩)] Tryz.f84 := Bt
def iV : SFun := x_head_Clone.1
def x_slices_IndexFunc___api_Record_api_Record_ : Be Tryz.prog [] Tryz.f85 := Bt
def Eh : SFun := x_slices_IndexFunc___api_Record_api_Record_.1
def x_open_Find_1 : Be Tryz.prog [(0, 0, ⟨0, .pure, false⟩)] Tryz.f86 := Bt
def dM : SFun := x_open_Find_1.1
def x_dev_Check : Be Tryz.prog [] Tryz.f87 := Bt
def qK : SFun := x_dev_Check.1
def x_super_Pick : Be Tryz.prog [(0, 0, ⟨0, .pure, false⟩), (8, 2, ⟨0, (.inl 1), false⟩), (8, 7, ⟨1, .pure, false⟩)] Tryz.f88 := Bt
def jJ : SFun := x_super_Pick.1
def x_open_follow : Be Tryz.prog [(2, 1, ⟨0, .pure, false⟩), (8, 2, ⟨0, (.inl 1), false⟩), (8, 7, ⟨1, .pure, false⟩), (13, 8, ⟨2, .pure, false⟩), (13, 9, ⟨3, .pure, false⟩), (13, 15, ⟨4, .pure, false⟩), (13, 16, ⟨5, .pure, false⟩)] Tryz.f89 := Bt
def open_follow : SFun := x_open_follow.1
def y_open_follow_l0 : Lp open_follow.code 0 := lpIt
def bZ : SCode := y_open_follow_l0.1
def x_tree_Go : Be Tryz.prog [(2, 2, ⟨0, .pure, false⟩), (2, 4, ⟨1, .pure, false⟩), (2, 5, ⟨2, .pure, false⟩), (5, 2, ⟨0, (.inl 3), false⟩)] Tryz.f90 := Bt
def Aet : SFun := x_tree_Go.1
def x_open_beyond : Be Tryz.prog [] Tryz.f91 := Bt
def eK : SFun := x_open_beyond.1
def x___open_Image__clash : Be Tryz.prog [(1, 1, ⟨0, .pure, false⟩), (1, 3, ⟨1, .pure, false⟩), (1, 5, ⟨2, .pure, false⟩), (1, 7, ⟨3, .pure, false⟩)] Tryz.f92 := Bt
def __open_Image__clash : SFun := x___open_Image__clash.1
def y___open_Image__clash_l0 : Lp __open_Image__clash.code 0 := lpIt
def Rl : SCode := y___open_Image__clash_l0.1
def y___open_Image__clash_l1 : Lp __open_Image__clash.code 1 := lpIt
def Pz : SCode := y___open_Image__clash_l1.1
def y___open_Image__clash_l2 : Lp __open_Image__clash.code 2 := lpIt
def Qd : SCode := y___open_Image__clash_l2.1
def y___open_Image__clash_l3 : Lp __open_Image__clash.code 3 := lpIt
def Rj : SCode := y___open_Image__clash_l3.1
def y___open_Image__clash_l4 : Lp __open_Image__clash.code 4 := lpIt
def Qz : SCode := y___open_Image__clash_l4.1
def x_ids_Check : Be Tryz.prog [] Tryz.f93 := Bt
def pB : SFun := x_ids_Check.1
def x_slices_ContainsFunc___api_Record_api_Record_ : Be Tryz.prog [] Tryz.f94 := Bt
def Dw : SFun := x_slices_ContainsFunc___api_Record_api_Record_.1
def x_snap_create_1 : Be Tryz.prog [(0, 0, ⟨0, .pure, false⟩)] Tryz.f95 := Bt
def Xo : SFun := x_snap_create_1.1
def x_commit_Records : Be Tryz.prog [(0, 0, ⟨0, .pure, false⟩), (0, 1, ⟨1, .pure, true⟩), (0, 3, ⟨2, .pure, true⟩), (2, 0, ⟨3, .pure, true⟩), (2, 2, ⟨4, .pure, true⟩), (3, 5, ⟨0, (.fresh 5), false⟩), (4, 1, ⟨0, (.inl 6), false⟩), (6, 2, ⟨6, .pure, false⟩), (6, 3, ⟨7, .pure, false⟩), (8, 0, ⟨8, .pure, true⟩), (8, 2, ⟨9, .pure, true⟩), (13, 3, ⟨10, .pure, false⟩), (17, 4, ⟨11, .pure, false⟩), (17, 5, ⟨12, .pure, false⟩)] Tryz.f96 := Bt
def commit_Records : SFun := x_commit_Records.1
def y_commit_Records_l0 : Lp commit_Records.code 0 := lpIt
def Nf : SCode := y_commit_Records_l0.1
def x_head_Free : Be Tryz.prog [] Tryz.f97 := Bt
def pK : SFun := x_head_Free.1
def x_commit_ready : Be Tryz.prog [(0, 0, ⟨0, .pure, false⟩)] Tryz.f98 := Bt
def Zi : SFun := x_commit_ready.1
def x_slices_ContainsFunc___api_Io_api_Io_ : Be Tryz.prog [] Tryz.f99 := Bt
def Fa : SFun := x_slices_ContainsFunc___api_Io_api_Io_.1
def x_commit_Steps_1 : Be Tryz.prog [(0, 0, ⟨0, .pure, false⟩)] Tryz.f100 := Bt
def Vs : SFun := x_commit_Steps_1.1
def x_commit_write : Be Tryz.prog [(0, 0, ⟨0, .pure, false⟩)] Tryz.f101 := Bt
def aX : SFun := x_commit_write.1
def x_dev_Steps_1 : Be Tryz.prog [(0, 0, ⟨0, .pure, false⟩)] Tryz.f109 := Bt
def eC : SFun := x_dev_Steps_1.1
def x_dev_right : Be Tryz.prog [(0, 0, ⟨0, .pure, false⟩)] Tryz.f110 := Bt
def oF : SFun := x_dev_right.1
def x_walk_Of : Be Tryz.prog [(0, 0, ⟨0, .pure, true⟩), (2, 1, ⟨1, .pure, false⟩), (13, 6, ⟨2, .pure, false⟩), (16, 2, ⟨3, .pure, false⟩), (17, 3, ⟨4, .pure, false⟩), (17, 4, ⟨5, .pure, false⟩), (19, 1, ⟨6, .pure, false⟩), (30, 2, ⟨0, (.inl 7), false⟩), (30, 7, ⟨7, .pure, false⟩)] Tryz.f112 := Bt
def walk_Of : SFun := x_walk_Of.1
def y_walk_Of_l0 : Lp walk_Of.code 0 := lpIt
def yF : SCode := y_walk_Of_l0.1
def y_walk_Of_l1 : Lp walk_Of.code 1 := lpIt
def uX : SCode := y_walk_Of_l1.1
def y_walk_Of_l2 : Lp walk_Of.code 2 := lpIt
def yR : SCode := y_walk_Of_l2.1
def y_walk_Of_l3 : Lp walk_Of.code 3 := lpIt
def vS : SCode := y_walk_Of_l3.1
def y_walk_Of_l4 : Lp walk_Of.code 4 := lpIt
def yT : SCode := y_walk_Of_l4.1
def y_walk_Of_l5 : Lp walk_Of.code 5 := lpIt
def wV : SCode := y_walk_Of_l5.1
def x_super_Check : Be Tryz.prog [(0, 0, ⟨0, .pure, false⟩)] Tryz.f113 := Bt
def cE : SFun := x_super_Check.1
def x_super_Make : Be Tryz.prog [(1, 0, ⟨0, .pure, false⟩), (5, 3, ⟨1, .pure, false⟩), (6, 9, ⟨0, (.inl 2), false⟩), (8, 1, ⟨0, (.inl 2), false⟩)] Tryz.f114 := Bt
def jP : SFun := x_super_Make.1
def x_super_layout : Be Tryz.prog [(1, 0, ⟨0, .pure, false⟩)] Tryz.f115 := Bt
def Agu : SFun := x_super_layout.1
def x_head_Begin : Be Tryz.prog [(1, 1, ⟨0, (.fresh 0), false⟩), (1, 3, ⟨1, .pure, false⟩), (1, 5, ⟨2, .pure, false⟩)] Tryz.f116 := Bt
def jR : SFun := x_head_Begin.1
def x___head_Stage__Zero : Be Tryz.prog [(3, 2, ⟨0, (.inl 0), false⟩)] Tryz.f117 := Bt
def __head_Stage__Zero : SFun := x___head_Stage__Zero.1
def y___head_Stage__Zero_l0 : Lp __head_Stage__Zero.code 0 := lpIt
def Rt : SCode := y___head_Stage__Zero_l0.1
def x___head_Stage__Lay : Be Tryz.prog [(0, 1, ⟨0, .pure, true⟩), (0, 2, ⟨1, .pure, true⟩), (3, 2, ⟨2, .pure, true⟩), (3, 3, ⟨3, .pure, true⟩), (4, 4, ⟨0, (.fresh 4), false⟩), (11, 7, ⟨5, .pure, false⟩), (11, 8, ⟨6, .pure, false⟩), (15, 2, ⟨7, .pure, true⟩), (15, 3, ⟨8, .pure, true⟩), (16, 3, ⟨9, .pure, false⟩)] Tryz.f118 := Bt
def __head_Stage__Lay : SFun := x___head_Stage__Lay.1
def y___head_Stage__Lay_l0 : Lp __head_Stage__Lay.code 0 := lpIt
def Tk : SCode := y___head_Stage__Lay_l0.1
def x_head_May : Be Tryz.prog [] Tryz.f119 := Bt
def xR : SFun := x_head_May.1
def x___head_Stage__Put : Be Tryz.prog [] Tryz.f120 := Bt
def Qr : SFun := x___head_Stage__Put.1
def x_head_Two : Be Tryz.prog [] Tryz.f121 := Bt
def wK : SFun := x_head_Two.1
def x___head_Stage__Clone : Be Tryz.prog [(3, 5, ⟨0, (.inl 0), false⟩)] Tryz.f122 := Bt
def __head_Stage__Clone : SFun := x___head_Stage__Clone.1
def y___head_Stage__Clone_l0 : Lp __head_Stage__Clone.code 0 := lpIt
def Rm : SCode := y___head_Stage__Clone_l0.1
def x_super_Parse : Be Tryz.prog [(0, 0, ⟨0, .pure, false⟩), (4, 16, ⟨1, .pure, false⟩)] Tryz.f123 := Bt
def cM : SFun := x_super_Parse.1
def x_slices_Contains___int_int_ : Be Tryz.prog [] Tryz.f124 := Bt
def Hl : SFun := x_slices_Contains___int_int_.1
def x_record_Parse : Be Tryz.prog [(0, 0, ⟨0, .pure, false⟩), (4, 25, ⟨1, .pure, false⟩)] Tryz.f125 := Bt
def aL : SFun := x_record_Parse.1
def x___open_chain__may : Be Tryz.prog [(0, 0, ⟨0, .pure, false⟩)] Tryz.f126 := Bt
def Qm : SFun := x___open_chain__may.1
def x___tree_Walk__goes : Be Tryz.prog [(0, 14, ⟨0, .pure, false⟩), (3, 6, ⟨1, .pure, false⟩), (3, 7, ⟨2, .pure, false⟩), (14, 5, ⟨0, (.inl 3), false⟩)] Tryz.f127 := Bt
def Lc : SFun := x___tree_Walk__goes.1
def x_slices_ContainsFunc___int_int_ : Be Tryz.prog [] Tryz.f128 := Bt
def Gi : SFun := x_slices_ContainsFunc___int_int_.1
def x_tree_Go_1 : Be Tryz.prog [] Tryz.f129 := Bt
def nY : SFun := x_tree_Go_1.1
def x_open_beyond_1 : Be Tryz.prog [] Tryz.f130 := Bt
def Xm : SFun := x_open_beyond_1.1
def x_commit_may : Be Tryz.prog [(0, 0, ⟨0, .pure, false⟩), (4, 4, ⟨1, .pure, false⟩)] Tryz.f131 := Bt
def commit_may : SFun := x_commit_may.1
def y_commit_may_l0 : Lp commit_may.code 0 := lpIt
def gN : SCode := y_commit_may_l0.1
def x_slices_Clone___api_Record_api_Record_ : Be Tryz.prog [(0, 0, ⟨0, .pure, true⟩), (2, 0, ⟨1, .pure, true⟩), (3, 2, ⟨2, .pure, false⟩)] Tryz.f132 := Bt
def slices_Clone___api_Record_api_Record_ : SFun := x_slices_Clone___api_Record_api_Record_.1
def x_slices_Reverse___api_Record_api_Record_ : Be Tryz.prog [] Tryz.f133 := Bt
def El : SFun := x_slices_Reverse___api_Record_api_Record_.1
def x_record_Bytes : Be Tryz.prog [(0, 0, ⟨0, .pure, false⟩), (4, 17, ⟨1, .pure, false⟩)] Tryz.f134 := Bt
def aS : SFun := x_record_Bytes.1
def x_slices_Clone___int_int_ : Be Tryz.prog [(0, 0, ⟨0, .pure, true⟩), (2, 0, ⟨1, .pure, true⟩), (3, 2, ⟨2, .pure, false⟩)] Tryz.f135 := Bt
def slices_Clone___int_int_ : SFun := x_slices_Clone___int_int_.1
def x_alloc_Free : Be Tryz.prog [] Tryz.f136 := Bt
def jQ : SFun := x_alloc_Free.1
def x_slices_IndexFunc___api_Io_api_Io_ : Be Tryz.prog [] Tryz.f137 := Bt
def Fq : SFun := x_slices_IndexFunc___api_Io_api_Io_.1
def x_node_Parse : Be Tryz.prog [(0, 0, ⟨0, .pure, false⟩), (4, 4, ⟨1, .pure, true⟩)] Tryz.f148 := Bt
def iL : SFun := x_node_Parse.1
def x_super_in : Be Tryz.prog [] Tryz.f149 := Bt
def xP : SFun := x_super_in.1
def x_le_Set : Be Tryz.prog [] Tryz.f150 := Bt
def le_Set : SFun := x_le_Set.1
def y_le_Set_l0 : Lp le_Set.code 0 := lpIt
def Acn : SCode := y_le_Set_l0.1
def x_crc_Seal : Be Tryz.prog [(1, 6, ⟨0, (.inl 0), false⟩)] Tryz.f151 := Bt
def wB : SFun := x_crc_Seal.1
def x_super_Layout : Be Tryz.prog [(0, 0, ⟨0, .pure, true⟩), (1, 0, ⟨1, .pure, true⟩), (6, 4, ⟨2, .pure, false⟩), (6, 5, ⟨3, .pure, false⟩)] Tryz.f152 := Bt
def Afh : SFun := x_super_Layout.1
def x_alloc_Take : Be Tryz.prog [] Tryz.f153 := Bt
def jG : SFun := x_alloc_Take.1
def x_build_Tree : Be Tryz.prog [(1, 3, ⟨0, (.inl 0), false⟩), (8, 5, ⟨0, (.inl 31), false⟩)] Tryz.f154 := Bt
def iN : SFun := x_build_Tree.1
def x_frame_Within : Be Tryz.prog [] Tryz.f155 := Bt
def aO : SFun := x_frame_Within.1
def x_super_Read : Be Tryz.prog [(0, 0, ⟨0, .pure, true⟩), (2, 0, ⟨1, .pure, true⟩), (4, 0, ⟨2, .pure, true⟩), (6, 0, ⟨3, .pure, true⟩), (7, 0, ⟨4, .pure, true⟩), (11, 2, ⟨5, .pure, false⟩), (14, 0, ⟨6, .pure, true⟩), (15, 2, ⟨7, .pure, false⟩), (15, 3, ⟨8, .pure, false⟩), (19, 0, ⟨9, .pure, true⟩)] Tryz.f156 := Bt
def jS : SFun := x_super_Read.1
def x_slices_Index___int_int_ : Be Tryz.prog [] Tryz.f157 := Bt
def Jl : SFun := x_slices_Index___int_int_.1
def x_record_layout : Be Tryz.prog [(1, 0, ⟨0, .pure, false⟩)] Tryz.f158 := Bt
def zY : SFun := x_record_layout.1
def x_record_Check : Be Tryz.prog [(0, 0, ⟨0, .pure, false⟩)] Tryz.f159 := Bt
def Zz : SFun := x_record_Check.1
def x___open_chain__may_1 : Be Tryz.prog [(0, 0, ⟨0, .pure, false⟩)] Tryz.f160 := Bt
def Oo : SFun := x___open_chain__may_1.1
def x_tree_At : Be Tryz.prog [(0, 0, ⟨0, .pure, false⟩), (3, 2, ⟨0, (.inl 1), false⟩), (3, 7, ⟨1, .pure, false⟩)] Tryz.f161 := Bt
def Aej : SFun := x_tree_At.1
def x_node_Under : Be Tryz.prog [] Tryz.f162 := Bt
def Anf : SFun := x_node_Under.1
def x_slices_IndexFunc___int_int_ : Be Tryz.prog [] Tryz.f163 := Bt
def Hh : SFun := x_slices_IndexFunc___int_int_.1
def x_commit_may_1 : Be Tryz.prog [(0, 0, ⟨0, .pure, false⟩)] Tryz.f164 := Bt
def aG : SFun := x_commit_may_1.1
def x_slices_Concat___int_int_ : Be Tryz.prog [(0, 0, ⟨0, .pure, true⟩), (9, 1, ⟨0, (.inl 1), false⟩), (13, 2, ⟨3, .pure, false⟩)] Tryz.f165 := Bt
def Ja : SFun := x_slices_Concat___int_int_.1
def x_commit_may_2 : Be Tryz.prog [] Tryz.f166 := Bt
def Zh : SFun := x_commit_may_2.1
def x_commit_place : Be Tryz.prog [] Tryz.f167 := Bt
def aW : SFun := x_commit_place.1
def x_alloc_right : Be Tryz.prog [] Tryz.f168 := Bt
def eG : SFun := x_alloc_right.1
def x_node_layout : Be Tryz.prog [(1, 0, ⟨0, .pure, false⟩)] Tryz.f177 := Bt
def Akg : SFun := x_node_layout.1
def x_node_Check : Be Tryz.prog [(0, 0, ⟨0, .pure, false⟩)] Tryz.f178 := Bt
def iZ : SFun := x_node_Check.1
def x_crc_Sum : Be Tryz.prog [] Tryz.f179 := Bt
def Afm : SFun := x_crc_Sum.1
def x_build_begin : Be Tryz.prog [(4, 3, ⟨0, .pure, false⟩), (10, 2, ⟨0, (.inl 1), false⟩)] Tryz.f180 := Bt
def eE : SFun := x_build_begin.1
def x___build_maker__may : Be Tryz.prog [] Tryz.f181 := Bt
def __build_maker__may : SFun := x___build_maker__may.1
def y___build_maker__may_l0 : Lp __build_maker__may.code 0 := lpIt
def Rq : SCode := y___build_maker__may_l0.1
def x___build_maker__needs : Be Tryz.prog [] Tryz.f182 := Bt
def Nm : SFun := x___build_maker__needs.1
def x___build_maker__writes : Be Tryz.prog [(0, 0, ⟨0, .pure, true⟩), (1, 0, ⟨1, .pure, true⟩), (7, 2, ⟨2, .pure, true⟩), (8, 5, ⟨0, (.inl 3), false⟩), (10, 4, ⟨3, .pure, false⟩), (10, 5, ⟨4, .pure, false⟩)] Tryz.f183 := Bt
def __build_maker__writes : SFun := x___build_maker__writes.1
def y___build_maker__writes_l0 : Lp __build_maker__writes.code 0 := lpIt
def Pc : SCode := y___build_maker__writes_l0.1
def x_crc_Good : Be Tryz.prog [] Tryz.f184 := Bt
def xL : SFun := x_crc_Good.1
def x_le_Get : Be Tryz.prog [] Tryz.f185 := Bt
def le_Get : SFun := x_le_Get.1
def y_le_Get_l0 : Lp le_Get.code 0 := lpIt
def pU : SCode := y_le_Get_l0.1
def x_le_Zeros : Be Tryz.prog [] Tryz.f186 := Bt
def vG : SFun := x_le_Zeros.1
def x_node_Pointer : Be Tryz.prog [] Tryz.f187 := Bt
def Zo : SFun := x_node_Pointer.1
def x_record_Parents : Be Tryz.prog [] Tryz.f188 := Bt
def Vg : SFun := x_record_Parents.1
def x_record_in : Be Tryz.prog [] Tryz.f189 := Bt
def oY : SFun := x_record_in.1
def x_slices_Grow___int_int_ : Be Tryz.prog [(0, 0, ⟨0, .pure, true⟩), (5, 5, ⟨1, .pure, false⟩)] Tryz.f190 := Bt
def Jz : SFun := x_slices_Grow___int_int_.1
def x_alloc_right_1 : Be Tryz.prog [] Tryz.f191 := Bt
def Xi : SFun := x_alloc_right_1.1
def x_crc_More : Be Tryz.prog [] Tryz.f196 := Bt
def crc_More : SFun := x_crc_More.1
def y_crc_More_l0 : Lp crc_More.code 0 := lpIt
def rZ : SCode := y_crc_More_l0.1
def y_crc_More_l1 : Lp crc_More.code 1 := lpIt
def rK : SCode := y_crc_More_l1.1
def x_tree_Map : Be Tryz.prog [] Tryz.f197 := Bt
def wD : SFun := x_tree_Map.1
def x_tree_Check : Be Tryz.prog [(0, 0, ⟨0, .pure, false⟩)] Tryz.f198 := Bt
def iI : SFun := x_tree_Check.1
def x___build_maker__plan : Be Tryz.prog [(3, 4, ⟨0, .pure, true⟩), (4, 4, ⟨12, .pure, true⟩), (6, 2, ⟨0, (.inl 24), false⟩), (16, 7, ⟨28, .pure, false⟩), (16, 8, ⟨29, .pure, false⟩)] Tryz.f199 := Bt
def __build_maker__plan : SFun := x___build_maker__plan.1
def y___build_maker__plan_l0 : Lp __build_maker__plan.code 0 := lpIt
def Hn : SCode := y___build_maker__plan_l0.1
def y___build_maker__plan_l1 : Lp __build_maker__plan.code 1 := lpIt
def Gh : SCode := y___build_maker__plan_l1.1
def y___build_maker__plan_l2 : Lp __build_maker__plan.code 2 := lpIt
def Hu : SCode := y___build_maker__plan_l2.1
def x___build_maker__pointers : Be Tryz.prog [] Tryz.f200 := Bt
def Hb : SFun := x___build_maker__pointers.1
def x_node_Bytes : Be Tryz.prog [(0, 0, ⟨0, .pure, true⟩), (0, 1, ⟨1, .pure, true⟩), (3, 1, ⟨2, .pure, true⟩), (4, 3, ⟨3, .pure, false⟩), (4, 6, ⟨4, .pure, false⟩)] Tryz.f201 := Bt
def jA : SFun := x_node_Bytes.1
def x_le_right : Be Tryz.prog [] Tryz.f202 := Bt
def wE : SFun := x_le_right.1
def x_le_within : Be Tryz.prog [] Tryz.f203 := Bt
def nS : SFun := x_le_within.1
def x_tree_checked : Be Tryz.prog [] Tryz.f204 := Bt
def aN : SFun := x_tree_checked.1
def x_tree_Check_1 : Be Tryz.prog [] Tryz.f205 := Bt
def Zy : SFun := x_tree_Check_1.1
def x_build_many : Be Tryz.prog [] Tryz.f206 := Bt
def Anx : SFun := x_build_many.1
def x___build_maker__learn : Be Tryz.prog [(3, 14, ⟨0, .pure, false⟩), (7, 8, ⟨0, (.inl 1), false⟩)] Tryz.f207 := Bt
def Jg : SFun := x___build_maker__learn.1
def x___build_maker__kept : Be Tryz.prog [] Tryz.f208 := Bt
def Ju : SFun := x___build_maker__kept.1
def x___build_maker__kept_1 : Be Tryz.prog [] Tryz.f209 := Bt
def Mx : SFun := x___build_maker__kept_1.1
def x_slices_Equal___int_int_ : Be Tryz.prog [] Tryz.f210 := Bt
def slices_Equal___int_int_ : SFun := x_slices_Equal___int_int_.1
def y_slices_Equal___int_int__l0 : Lp slices_Equal___int_int_.code 0 := lpIt
def Nx : SCode := y_slices_Equal___int_int__l0.1
def tab : List (Nat × SFun) := [(8, Gw), (9, Jo), (10, Ly), (11, Jp), (12, Gg), (13, Id), (14, dB), (15, oW), (16, dG), (17, dD), (18, Xu), (19, snap_List), (25, keep_Ints), (26, keep_Bytes), (27, cS), (28, keep_TwinIos), (29, dC), (30, crash_States), (31, Xp), (33, nL), (34, dO), (39, dev_Apply), (40, view_Of), (42, Zu), (43, keep_Snaps), (44, keep_Rows), (45, cG), (46, yI), (47, cQ), (48, jL), (49, vK), (50, pM), (51, oT), (52, dev_Crash), (53, open_Look), (54, dU), (55, jI), (56, oX), (57, Zw), (58, commit_Steps), (65, nK), (66, dev_Flushes), (71, Agj), (72, view_sectors), (74, jE), (75, Zp), (76, oL), (77, eL), (78, fD), (79, Nr), (80, Jt), (81, jH), (82, __head_Stage__Write), (83, nZ), (84, iV), (85, Eh), (86, dM), (87, qK), (88, jJ), (89, open_follow), (90, Aet), (91, eK), (92, __open_Image__clash), (93, pB), (94, Dw), (95, Xo), (96, commit_Records), (97, pK), (98, Zi), (99, Fa), (100, Vs), (101, aX), (109, eC), (110, oF), (112, walk_Of), (113, cE), (114, jP), (115, Agu), (116, jR), (117, __head_Stage__Zero), (118, __head_Stage__Lay), (119, xR), (120, Qr), (121, wK), (122, __head_Stage__Clone), (123, cM), (124, Hl), (125, aL), (126, Qm), (127, Lc), (128, Gi), (129, nY), (130, Xm), (131, commit_may), (133, El), (134, aS), (136, jQ), (137, Fq), (148, iL), (149, xP), (150, le_Set), (151, wB), (152, Afh), (153, jG), (154, iN), (155, aO), (156, jS), (157, Jl), (158, zY), (159, Zz), (160, Oo), (161, Aej), (162, Anf), (163, Hh), (164, aG), (165, Ja), (166, Zh), (167, aW), (168, eG), (177, Akg), (178, iZ), (179, Afm), (180, eE), (181, __build_maker__may), (182, Nm), (183, __build_maker__writes), (184, xL), (185, le_Get), (186, vG), (187, Zo), (188, Vg), (189, oY), (190, Jz), (191, Xi), (196, crc_More), (197, wD), (198, iI), (199, __build_maker__plan), (200, Hb), (201, jA), (202, wE), (203, nS), (204, aN), (205, Zy), (206, Anx), (207, Jg), (208, Ju), (209, Mx), (210, slices_Equal___int_int_)]
def B : Prog := Go.AI.look tab
theorem laid : Laid Tryz.prog (Go.AI.look tab) := by
 refine Aj ⟨_, _, Tryz.func8, x_law19_SnapHolds.2.1, by decide⟩ ?_
 refine Aj ⟨_, _, Tryz.func9, x_law27_CrashDone.2.1, by decide⟩ ?_
 refine Aj ⟨_, _, Tryz.func10, x_law19_SnapBack.2.1, by decide⟩ ?_
 refine Aj ⟨_, _, Tryz.func11, x_law27_CrashHead.2.1, by decide⟩ ?_
 refine Aj ⟨_, _, Tryz.func12, x_law27_CrashAgain.2.1, by decide⟩ ?_
 refine Aj ⟨_, _, Tryz.func13, x_law27_CrashBoth.2.1, by decide⟩ ?_
 refine Aj ⟨_, _, Tryz.func14, x_law05_Heavy.2.1, by decide⟩ ?_
 refine Aj ⟨_, _, Tryz.func15, x_keep_Twin.2.1, by decide⟩ ?_
 refine Aj ⟨_, _, Tryz.func16, x_snap_Create.2.1, by decide⟩ ?_
 refine Aj ⟨_, _, Tryz.func17, x_snap_Delete.2.1, by decide⟩ ?_
 refine Aj ⟨_, _, Tryz.func18, x_snap_Rollback.2.1, by decide⟩ ?_
 refine Aj ⟨_, _, Tryz.func19, x_snap_List.2.1, by decide⟩ ?_
 refine Aj ⟨_, _, Tryz.func25, x_keep_Ints.2.1, by decide⟩ ?_
 refine Aj ⟨_, _, Tryz.func26, x_keep_Bytes.2.1, by decide⟩ ?_
 refine Aj ⟨_, _, Tryz.func27, x_law19_wakes.2.1, by decide⟩ ?_
 refine Aj ⟨_, _, Tryz.func28, x_keep_TwinIos.2.1, by decide⟩ ?_
 refine Aj ⟨_, _, Tryz.func29, x_crash_After.2.1, by decide⟩ ?_
 refine Aj ⟨_, _, Tryz.func30, x_crash_States.2.1, by decide⟩ ?_
 refine Aj ⟨_, _, Tryz.func31, x_crash_Commits.2.1, by decide⟩ ?_
 refine Aj ⟨_, _, Tryz.func33, x_keep_View.2.1, by decide⟩ ?_
 refine Aj ⟨_, _, Tryz.func34, x_law27_wakes.2.1, by decide⟩ ?_
 refine Aj ⟨_, _, Tryz.func39, x_dev_Apply.2.1, by decide⟩ ?_
 refine Aj ⟨_, _, Tryz.func40, x_view_Of.2.1, by decide⟩ ?_
 refine Aj ⟨_, _, Tryz.func42, x_fsck_Sound.2.1, by decide⟩ ?_
 refine Aj ⟨_, _, Tryz.func43, x_keep_Snaps.2.1, by decide⟩ ?_
 refine Aj ⟨_, _, Tryz.func44, x_keep_Rows.2.1, by decide⟩ ?_
 refine Aj ⟨_, _, Tryz.func45, x_law27_holds.2.1, by decide⟩ ?_
 refine Aj ⟨_, _, Tryz.func46, x_open_New.2.1, by decide⟩ ?_
 refine Aj ⟨_, _, Tryz.func47, x_head_Resize.2.1, by decide⟩ ?_
 refine Aj ⟨_, _, Tryz.func48, x_head_Write.2.1, by decide⟩ ?_
 refine Aj ⟨_, _, Tryz.func49, x_law18_Do.2.1, by decide⟩ ?_
 refine Aj ⟨_, _, Tryz.func50, x_open_Open.2.1, by decide⟩ ?_
 refine Aj ⟨_, _, Tryz.func51, x_open_Find.2.1, by decide⟩ ?_
 refine Aj ⟨_, _, Tryz.func52, x_dev_Crash.2.1, by decide⟩ ?_
 refine Aj ⟨_, _, Tryz.func53, x_open_Look.2.1, by decide⟩ ?_
 refine Aj ⟨_, _, Tryz.func54, x_snap_create.2.1, by decide⟩ ?_
 refine Aj ⟨_, _, Tryz.func55, x_snap_Makes.2.1, by decide⟩ ?_
 refine Aj ⟨_, _, Tryz.func56, x_snap_find.2.1, by decide⟩ ?_
 refine Aj ⟨_, _, Tryz.func57, x_snap_pending.2.1, by decide⟩ ?_
 refine Aj ⟨_, _, Tryz.func58, x_commit_Steps.2.1, by decide⟩ ?_
 refine Aj ⟨_, _, Tryz.func65, x_dev_Steps.2.1, by decide⟩ ?_
 refine Aj ⟨_, _, Tryz.func66, x_dev_Flushes.2.1, by decide⟩ ?_
 refine Aj ⟨_, _, Tryz.func71, x_dev_Of.2.1, by decide⟩ ?_
 refine Aj ⟨_, _, Tryz.func72, x_view_sectors.2.1, by decide⟩ ?_
 refine Aj ⟨_, _, Tryz.func74, x_alloc_free.2.1, by decide⟩ ?_
 refine Aj ⟨_, _, Tryz.func75, x_fsck_Check.2.1, by decide⟩ ?_
 refine Aj ⟨_, _, Tryz.func76, x_keep_Snap.2.1, by decide⟩ ?_
 refine Aj ⟨_, _, Tryz.func77, x_super_Bytes.2.1, by decide⟩ ?_
 refine Aj ⟨_, _, Tryz.func78, x_head_look.2.1, by decide⟩ ?_
 refine Aj ⟨_, _, Tryz.func79, x___head_Stage__Resize.2.1, by decide⟩ ?_
 refine Aj ⟨_, _, Tryz.func80, x___head_Stage__makes.2.1, by decide⟩ ?_
 refine Aj ⟨_, _, Tryz.func81, x_head_Whole.2.1, by decide⟩ ?_
 refine Aj ⟨_, _, Tryz.func82, x___head_Stage__Write.2.1, by decide⟩ ?_
 refine Aj ⟨_, _, Tryz.func83, x_head_Zero.2.1, by decide⟩ ?_
 refine Aj ⟨_, _, Tryz.func84, x_head_Clone.2.1, by decide⟩ ?_
 refine Aj ⟨_, _, Tryz.func85, x_slices_IndexFunc___api_Record_api_Record_.2.1, by decide⟩ ?_
 refine Aj ⟨_, _, Tryz.func86, x_open_Find_1.2.1, by decide⟩ ?_
 refine Aj ⟨_, _, Tryz.func87, x_dev_Check.2.1, by decide⟩ ?_
 refine Aj ⟨_, _, Tryz.func88, x_super_Pick.2.1, by decide⟩ ?_
 refine Aj ⟨_, _, Tryz.func89, x_open_follow.2.1, by decide⟩ ?_
 refine Aj ⟨_, _, Tryz.func90, x_tree_Go.2.1, by decide⟩ ?_
 refine Aj ⟨_, _, Tryz.func91, x_open_beyond.2.1, by decide⟩ ?_
 refine Aj ⟨_, _, Tryz.func92, x___open_Image__clash.2.1, by decide⟩ ?_
 refine Aj ⟨_, _, Tryz.func93, x_ids_Check.2.1, by decide⟩ ?_
 refine Aj ⟨_, _, Tryz.func94, x_slices_ContainsFunc___api_Record_api_Record_.2.1, by decide⟩ ?_
 refine Aj ⟨_, _, Tryz.func95, x_snap_create_1.2.1, by decide⟩ ?_
 refine Aj ⟨_, _, Tryz.func96, x_commit_Records.2.1, by decide⟩ ?_
 refine Aj ⟨_, _, Tryz.func97, x_head_Free.2.1, by decide⟩ ?_
 refine Aj ⟨_, _, Tryz.func98, x_commit_ready.2.1, by decide⟩ ?_
 refine Aj ⟨_, _, Tryz.func99, x_slices_ContainsFunc___api_Io_api_Io_.2.1, by decide⟩ ?_
 refine Aj ⟨_, _, Tryz.func100, x_commit_Steps_1.2.1, by decide⟩ ?_
 refine Aj ⟨_, _, Tryz.func101, x_commit_write.2.1, by decide⟩ ?_
 refine Aj ⟨_, _, Tryz.func109, x_dev_Steps_1.2.1, by decide⟩ ?_
 refine Aj ⟨_, _, Tryz.func110, x_dev_right.2.1, by decide⟩ ?_
 refine Aj ⟨_, _, Tryz.func112, x_walk_Of.2.1, by decide⟩ ?_
 refine Aj ⟨_, _, Tryz.func113, x_super_Check.2.1, by decide⟩ ?_
 refine Aj ⟨_, _, Tryz.func114, x_super_Make.2.1, by decide⟩ ?_
 refine Aj ⟨_, _, Tryz.func115, x_super_layout.2.1, by decide⟩ ?_
 refine Aj ⟨_, _, Tryz.func116, x_head_Begin.2.1, by decide⟩ ?_
 refine Aj ⟨_, _, Tryz.func117, x___head_Stage__Zero.2.1, by decide⟩ ?_
 refine Aj ⟨_, _, Tryz.func118, x___head_Stage__Lay.2.1, by decide⟩ ?_
 refine Aj ⟨_, _, Tryz.func119, x_head_May.2.1, by decide⟩ ?_
 refine Aj ⟨_, _, Tryz.func120, x___head_Stage__Put.2.1, by decide⟩ ?_
 refine Aj ⟨_, _, Tryz.func121, x_head_Two.2.1, by decide⟩ ?_
 refine Aj ⟨_, _, Tryz.func122, x___head_Stage__Clone.2.1, by decide⟩ ?_
 refine Aj ⟨_, _, Tryz.func123, x_super_Parse.2.1, by decide⟩ ?_
 refine Aj ⟨_, _, Tryz.func124, x_slices_Contains___int_int_.2.1, by decide⟩ ?_
 refine Aj ⟨_, _, Tryz.func125, x_record_Parse.2.1, by decide⟩ ?_
 refine Aj ⟨_, _, Tryz.func126, x___open_chain__may.2.1, by decide⟩ ?_
 refine Aj ⟨_, _, Tryz.func127, x___tree_Walk__goes.2.1, by decide⟩ ?_
 refine Aj ⟨_, _, Tryz.func128, x_slices_ContainsFunc___int_int_.2.1, by decide⟩ ?_
 refine Aj ⟨_, _, Tryz.func129, x_tree_Go_1.2.1, by decide⟩ ?_
 refine Aj ⟨_, _, Tryz.func130, x_open_beyond_1.2.1, by decide⟩ ?_
 refine Aj ⟨_, _, Tryz.func131, x_commit_may.2.1, by decide⟩ ?_
 refine Aj ⟨_, _, Tryz.func133, x_slices_Reverse___api_Record_api_Record_.2.1, by decide⟩ ?_
 refine Aj ⟨_, _, Tryz.func134, x_record_Bytes.2.1, by decide⟩ ?_
 refine Aj ⟨_, _, Tryz.func136, x_alloc_Free.2.1, by decide⟩ ?_
 refine Aj ⟨_, _, Tryz.func137, x_slices_IndexFunc___api_Io_api_Io_.2.1, by decide⟩ ?_
 refine Aj ⟨_, _, Tryz.func148, x_node_Parse.2.1, by decide⟩ ?_
 refine Aj ⟨_, _, Tryz.func149, x_super_in.2.1, by decide⟩ ?_
 refine Aj ⟨_, _, Tryz.func150, x_le_Set.2.1, by decide⟩ ?_
 refine Aj ⟨_, _, Tryz.func151, x_crc_Seal.2.1, by decide⟩ ?_
 refine Aj ⟨_, _, Tryz.func152, x_super_Layout.2.1, by decide⟩ ?_
 refine Aj ⟨_, _, Tryz.func153, x_alloc_Take.2.1, by decide⟩ ?_
 refine Aj ⟨_, _, Tryz.func154, x_build_Tree.2.1, by decide⟩ ?_
 refine Aj ⟨_, _, Tryz.func155, x_frame_Within.2.1, by decide⟩ ?_
 refine Aj ⟨_, _, Tryz.func156, x_super_Read.2.1, by decide⟩ ?_
 refine Aj ⟨_, _, Tryz.func157, x_slices_Index___int_int_.2.1, by decide⟩ ?_
 refine Aj ⟨_, _, Tryz.func158, x_record_layout.2.1, by decide⟩ ?_
 refine Aj ⟨_, _, Tryz.func159, x_record_Check.2.1, by decide⟩ ?_
 refine Aj ⟨_, _, Tryz.func160, x___open_chain__may_1.2.1, by decide⟩ ?_
 refine Aj ⟨_, _, Tryz.func161, x_tree_At.2.1, by decide⟩ ?_
 refine Aj ⟨_, _, Tryz.func162, x_node_Under.2.1, by decide⟩ ?_
 refine Aj ⟨_, _, Tryz.func163, x_slices_IndexFunc___int_int_.2.1, by decide⟩ ?_
 refine Aj ⟨_, _, Tryz.func164, x_commit_may_1.2.1, by decide⟩ ?_
 refine Aj ⟨_, _, Tryz.func165, x_slices_Concat___int_int_.2.1, by decide⟩ ?_
 refine Aj ⟨_, _, Tryz.func166, x_commit_may_2.2.1, by decide⟩ ?_
 refine Aj ⟨_, _, Tryz.func167, x_commit_place.2.1, by decide⟩ ?_
 refine Aj ⟨_, _, Tryz.func168, x_alloc_right.2.1, by decide⟩ ?_
 refine Aj ⟨_, _, Tryz.func177, x_node_layout.2.1, by decide⟩ ?_
 refine Aj ⟨_, _, Tryz.func178, x_node_Check.2.1, by decide⟩ ?_
 refine Aj ⟨_, _, Tryz.func179, x_crc_Sum.2.1, by decide⟩ ?_
 refine Aj ⟨_, _, Tryz.func180, x_build_begin.2.1, by decide⟩ ?_
 refine Aj ⟨_, _, Tryz.func181, x___build_maker__may.2.1, by decide⟩ ?_
 refine Aj ⟨_, _, Tryz.func182, x___build_maker__needs.2.1, by decide⟩ ?_
 refine Aj ⟨_, _, Tryz.func183, x___build_maker__writes.2.1, by decide⟩ ?_
 refine Aj ⟨_, _, Tryz.func184, x_crc_Good.2.1, by decide⟩ ?_
 refine Aj ⟨_, _, Tryz.func185, x_le_Get.2.1, by decide⟩ ?_
 refine Aj ⟨_, _, Tryz.func186, x_le_Zeros.2.1, by decide⟩ ?_
 refine Aj ⟨_, _, Tryz.func187, x_node_Pointer.2.1, by decide⟩ ?_
 refine Aj ⟨_, _, Tryz.func188, x_record_Parents.2.1, by decide⟩ ?_
 refine Aj ⟨_, _, Tryz.func189, x_record_in.2.1, by decide⟩ ?_
 refine Aj ⟨_, _, Tryz.func190, x_slices_Grow___int_int_.2.1, by decide⟩ ?_
 refine Aj ⟨_, _, Tryz.func191, x_alloc_right_1.2.1, by decide⟩ ?_
 refine Aj ⟨_, _, Tryz.func196, x_crc_More.2.1, by decide⟩ ?_
 refine Aj ⟨_, _, Tryz.func197, x_tree_Map.2.1, by decide⟩ ?_
 refine Aj ⟨_, _, Tryz.func198, x_tree_Check.2.1, by decide⟩ ?_
 refine Aj ⟨_, _, Tryz.func199, x___build_maker__plan.2.1, by decide⟩ ?_
 refine Aj ⟨_, _, Tryz.func200, x___build_maker__pointers.2.1, by decide⟩ ?_
 refine Aj ⟨_, _, Tryz.func201, x_node_Bytes.2.1, by decide⟩ ?_
 refine Aj ⟨_, _, Tryz.func202, x_le_right.2.1, by decide⟩ ?_
 refine Aj ⟨_, _, Tryz.func203, x_le_within.2.1, by decide⟩ ?_
 refine Aj ⟨_, _, Tryz.func204, x_tree_checked.2.1, by decide⟩ ?_
 refine Aj ⟨_, _, Tryz.func205, x_tree_Check_1.2.1, by decide⟩ ?_
 refine Aj ⟨_, _, Tryz.func206, x_build_many.2.1, by decide⟩ ?_
 refine Aj ⟨_, _, Tryz.func207, x___build_maker__learn.2.1, by decide⟩ ?_
 refine Aj ⟨_, _, Tryz.func208, x___build_maker__kept.2.1, by decide⟩ ?_
 refine Aj ⟨_, _, Tryz.func209, x___build_maker__kept_1.2.1, by decide⟩ ?_
 refine Aj ⟨_, _, Tryz.func210, x_slices_Equal___int_int_.2.1, by decide⟩ ?_
 exact kF
theorem Ho : B Rb = some Gw := rfl
theorem Ku : B Qt = some Jo := rfl
theorem Oe : B Sf = some Ly := rfl
theorem Lf : B Nd = some Jp := rfl
theorem Gy : B Pp = some Gg := rfl
theorem Ji : B Rf = some Id := rfl
theorem zT : B gY = some dB := rfl
theorem Ahp : B rA = some oW := rfl
theorem Aaq : B Pb = some dG := rfl
theorem Aad : B Xr = some dD := rfl
theorem sL : B Tx = some Xu := rfl
theorem Ahu : B eM = some snap_List := rfl
theorem Ahi : B rU = some keep_Ints := rfl
theorem Afn : B Zx = some keep_Bytes := rfl
theorem zP : B gH = some cS := rfl
theorem wR : B Vm = some keep_TwinIos := rfl
theorem Aao : B Xt = some dC := rfl
theorem uW : B eP = some crash_States := rfl
theorem sM : B Tr = some Xp := rfl
theorem Aiv : B rC = some nL := rfl
theorem zZ : B gK = some dO := rfl
theorem Ala : B Ws = some dev_Apply := rfl
theorem Asg : B fV = some view_Of := rfl
theorem nF : B mF = some Zu := rfl
theorem Afr : B kM = some keep_Snaps := rfl
theorem Aje : B rW = some keep_Rows := rfl
theorem Aaj : B So = some cG := rfl
theorem Ann : B aI = some yI := rfl
theorem zM : B gR = some cQ := rfl
theorem Aed : B nG = some jL := rfl
theorem Amn : B Zq = some vK := rfl
theorem Aip : B sA = some pM := rfl
theorem Aku : B rQ = some oT := rfl
theorem Akp : B qR = some dev_Crash := rfl
theorem qZ : B Wm = some open_Look := rfl
theorem Aah : B gI = some dU := rfl
theorem Aem : B aY = some jI := rfl
theorem Ajl : B rI = some oX := rfl
theorem vX : B Rd = some Zw := rfl
theorem cF : B dR = some commit_Steps := rfl
theorem Ahw : B qT = some nK := rfl
theorem Aak : B gT = some dev_Flushes := rfl
theorem Akd : B Wd = some Agj := rfl
theorem wS : B eQ = some view_sectors := rfl
theorem Agr : B mG = some jE := rfl
theorem lC : B Zv = some Zp := rfl
theorem Ajd : B rB = some oL := rfl
theorem Aan : B Xn = some eL := rfl
theorem sG : B cJ = some fD := rfl
theorem Zk : B Qa = some Nr := rfl
theorem My : B Rp = some Jt := rfl
theorem Afz : B mA = some jH := rfl
theorem bR : B Rs = some __head_Stage__Write := rfl
theorem Aio : B sB = some nZ := rfl
theorem Ahd : B mQ = some iV := rfl
theorem Hk : B Dy = some Eh := rfl
theorem Aac : B Sx = some dM := rfl
theorem Akq : B Ww = some qK := rfl
theorem Adn : B Ui = some jJ := rfl
theorem Aab : B gO = some open_follow := rfl
theorem Arn : B oO = some Aet := rfl
theorem zQ : B gW = some eK := rfl
theorem bP : B Rr = some __open_Image__clash := rfl
theorem Akf : B dE = some pB := rfl
theorem Gt : B Cq = some Dw := rfl
theorem sQ : B Ph = some Xo := rfl
theorem nP : B Yp = some commit_Records := rfl
theorem Aiw : B rR = some pK := rfl
theorem wU : B dV = some Zi := rfl
theorem Jc : B Dq = some Fa := rfl
theorem nM : B Oc = some Vs := rfl
theorem xJ : B dZ = some aX := rfl
theorem Aae : B Ss = some eC := rfl
theorem Ajc : B rY = some oF := rfl
theorem Arg : B Acm = some walk_Of := rfl
theorem Aai : B gU = some cE := rfl
theorem Agm : B mT = some jP := rfl
theorem Ahe : B mR = some jR := rfl
theorem cC : B Tg = some __head_Stage__Zero := rfl
theorem gA : B Ue = some __head_Stage__Lay := rfl
theorem Amy : B uQ = some xR := rfl
theorem fZ : B Uf = some Qr := rfl
theorem Amx : B wP = some wK := rfl
theorem bN : B Ru = some __head_Stage__Clone := rfl
theorem zU : B Xl = some cM := rfl
theorem Mr : B Cz = some Hl := rfl
theorem wF : B cD = some aL := rfl
theorem gB : B Oq = some Qm := rfl
theorem Ot : B Lo = some Lc := rfl
theorem Le : B Fu = some Gi := rfl
theorem Aja : B Tm = some nY := rfl
theorem sV : B Ty = some Xm := rfl
theorem Agb : B lM = some commit_may := rfl
theorem Ib : B Cw = some El := rfl
theorem xW : B Qi = some aS := rfl
theorem Adp : B kY = some jQ := rfl
theorem Kc : B Gu = some Fq := rfl
theorem Aee : B nH = some iL := rfl
theorem Alr : B wY = some xP := rfl
theorem Axd : B mZ = some le_Set := rfl
theorem Amv : B iD = some wB := rfl
theorem Aeh : B nE = some jG := rfl
theorem Afi : B kU = some iN := rfl
theorem xI : B eB = some aO := rfl
theorem Ago : B lN = some jS := rfl
theorem Ok : B Kr = some Jl := rfl
theorem uR : B Vq = some Zz := rfl
theorem bO : B Kk = some Oo := rfl
theorem Arv : B Aav = some Aej := rfl
theorem Mb : B Jd = some Hh := rfl
theorem xA : B Rh = some aG := rfl
theorem Np : B Nv = some Ja := rfl
theorem uG : B Qv = some Zh := rfl
theorem wO : B eI = some aW := rfl
theorem Aaa : B gM = some eG := rfl
theorem Aef : B kD = some iZ := rfl
theorem Arz : B oE = some Afm := rfl
theorem zW : B Xg = some eE := rfl
theorem cX : B Tf = some __build_maker__may := rfl
theorem aZ : B Mh = some Nm := rfl
theorem Za : B Lx = some __build_maker__writes := rfl
theorem Amc : B iJ = some xL := rfl
theorem Avy : B mI = some le_Get := rfl
theorem Alp : B uO = some vG := rfl
theorem vZ : B Vt = some Zo := rfl
theorem oB : B Rw = some Vg := rfl
theorem Ald : B rJ = some oY := rfl
theorem Pd : B Lg = some Jz := rfl
theorem sX : B Tt = some Xi := rfl
theorem Alq : B wT = some crc_More := rfl
theorem Ale : B yC = some wD := rfl
theorem Ags : B lY = some iI := rfl
theorem bQ : B Na = some __build_maker__plan := rfl
theorem Kq : B Ij = some Hb := rfl
theorem Adt : B mL = some jA := rfl
theorem Amq : B uF = some wE := rfl
theorem Aky : B rM = some nS := rfl
theorem uS : B dQ = some aN := rfl
theorem xY : B Vr = some Zy := rfl
theorem Mi : B Jy = some Jg := rfl
theorem Nc : B Km = some Ju := rfl
theorem Yh : B Hg = some Mx := rfl
theorem Wj : B Oi = some slices_Equal___int_int_ := rfl
end Go.Proofs.YtkaiiopoilpjeaaGreat

