import Derived.Test.YtkaiiopoilpjeaaGreatMC
import Derived.KernelRfl
import Derived.Test.YtkaiiopoilpjeaaGreatProg
set_option maxRecDepth 100000
set_option maxHeartbeats 4000000
namespace Go.Proofs.YtkaiiopoilpjeaaGreat
open Go.AI
abbrev Aym : Nat := 4
abbrev Bck : Nat := 14
abbrev Bbh : Nat := 15
abbrev Rl : Nat := 16
abbrev Bfl : Nat := 24
abbrev Wu : Nat := 26
abbrev Bbb : Nat := 28
abbrev Ayx : Nat := 29
abbrev Ayt : Nat := 30
abbrev Ayz : Nat := 31
abbrev Bcg : Nat := 32
abbrev mQ : Nat := 33
abbrev Bbx : Nat := 34
abbrev Bdj : Nat := 35
abbrev Bcb : Nat := 36
abbrev Bbz : Nat := 37
abbrev Bcz : Nat := 38
abbrev Uq : Nat := 39
abbrev vF : Nat := 40
abbrev iI : Nat := 43
abbrev mL : Nat := 44
abbrev Xg : Nat := 46
abbrev Bay : Nat := 52
abbrev Uk : Nat := 53
abbrev dF : Nat := 54
abbrev Xz : Nat := 55
abbrev Pr : Nat := 57
abbrev Zf : Nat := 58
abbrev Bdc : Nat := 59
abbrev Bct : Nat := 60
abbrev mC : Nat := 65
abbrev Azt : Nat := 66
abbrev Ayf : Nat := 67
abbrev Bcw : Nat := 68
abbrev Bdn : Nat := 69
abbrev Db : Nat := 70
abbrev Vt : Nat := 71
abbrev Zo : Nat := 72
abbrev iO : Nat := 74
abbrev lQ : Nat := 76
abbrev Vc : Nat := 77
abbrev Dy : Nat := 85
abbrev Ur : Nat := 87
abbrev Sq : Nat := 88
abbrev cU : Nat := 89
abbrev kA : Nat := 90
abbrev cQ : Nat := 91
abbrev Qj : Nat := 92
abbrev Zt : Nat := 93
abbrev Ck : Nat := 94
abbrev Oc : Nat := 95
abbrev Vy : Nat := 96
abbrev mP : Nat := 97
abbrev aG : Nat := 98
abbrev Dq : Nat := 99
abbrev Nf : Nat := 100
abbrev aN : Nat := 101
abbrev Bdo : Nat := 102
abbrev Bau : Nat := 103
abbrev Bdu : Nat := 104
abbrev Rf : Nat := 109
abbrev mZ : Nat := 110
abbrev Bar : Nat := 111
abbrev wT : Nat := 112
abbrev dJ : Nat := 113
abbrev iG : Nat := 114
abbrev oU : Nat := 115
abbrev Uz : Nat := 123
abbrev Cw : Nat := 124
abbrev bH : Nat := 125
abbrev Nk : Nat := 126
abbrev Kx : Nat := 127
abbrev Fo : Nat := 128
abbrev Rq : Nat := 129
abbrev Sb : Nat := 130
abbrev iW : Nat := 131
abbrev Ci : Nat := 132
abbrev Cs : Nat := 133
abbrev Qb : Nat := 134
abbrev Di : Nat := 135
abbrev iY : Nat := 136
abbrev Gp : Nat := 137
abbrev Ayl : Nat := 138
abbrev Azs : Nat := 139
abbrev Bfi : Nat := 140
abbrev Bbc : Nat := 141
abbrev Azf : Nat := 142
abbrev pZ : Nat := 143
abbrev Azq : Nat := 144
abbrev iE : Nat := 148
abbrev pF : Nat := 149
abbrev Bdh : Nat := 150
abbrev eI : Nat := 151
abbrev iP : Nat := 156
abbrev Ke : Nat := 157
abbrev nH : Nat := 158
abbrev Tp : Nat := 159
abbrev Jw : Nat := 160
abbrev vM : Nat := 161
abbrev Sw : Nat := 162
abbrev Ip : Nat := 163
abbrev Pg : Nat := 164
abbrev Mr : Nat := 165
abbrev Pc : Nat := 166
abbrev Zr : Nat := 167
abbrev cW : Nat := 168
abbrev Bda : Nat := 169
abbrev Bad : Nat := 170
abbrev Bac : Nat := 171
abbrev Bch : Nat := 172
abbrev Bbu : Nat := 173
abbrev Bbp : Nat := 174
abbrev Bdl : Nat := 175
abbrev Bei : Nat := 176
abbrev tV : Nat := 177
abbrev gQ : Nat := 178
abbrev kL : Nat := 179
abbrev fC : Nat := 184
abbrev gP : Nat := 185
abbrev qV : Nat := 186
abbrev Tn : Nat := 187
abbrev Ra : Nat := 188
abbrev mJ : Nat := 189
abbrev Kr : Nat := 190
abbrev Rz : Nat := 191
abbrev Bah : Nat := 192
abbrev Bax : Nat := 193
abbrev Bdm : Nat := 194
abbrev Bdb : Nat := 195
abbrev oM : Nat := 196
abbrev sK : Nat := 202
abbrev lZ : Nat := 203
def x_law27_CrashExact : Bj Tryz.prog [(4, 8, ⟨0, .pure, false⟩), (10, 0, ⟨1, .pure, true⟩), (17, 3, ⟨2, .pure, false⟩), (17, 4, ⟨3, .pure, false⟩), (26, 9, ⟨4, .pure, false⟩), (29, 0, ⟨5, .pure, true⟩), (30, 5, ⟨6, .pure, false⟩), (31, 2, ⟨7, .pure, false⟩), (31, 3, ⟨8, .pure, false⟩), (36, 2, ⟨9, .pure, false⟩), (36, 3, ⟨10, .pure, false⟩)] Tryz.f4 := Bx
def law27_CrashExact : SFun := x_law27_CrashExact.1
def y_law27_CrashExact_l0 : Lp law27_CrashExact.code 0 := lpIt
def Aze : SCode := y_law27_CrashExact_l0.1
def y_law27_CrashExact_l1 : Lp law27_CrashExact.code 1 := lpIt
def Azg : SCode := y_law27_CrashExact_l1.1
def x_law05_Heavy : Bj Tryz.prog [] Tryz.f14 := Bx
def Bbe : SFun := x_law05_Heavy.1
def x_keep_Twin : Bj Tryz.prog [(0, 0, ⟨0, .pure, true⟩), (1, 0, ⟨1, .pure, true⟩), (2, 2, ⟨2, .pure, false⟩)] Tryz.f15 := Bx
def Bbr : SFun := x_keep_Twin.1
def x_snap_Create : Bj Tryz.prog [(6, 14, ⟨0, .pure, false⟩)] Tryz.f16 := Bx
def aW : SFun := x_snap_Create.1
def x_keep_Ios : Bj Tryz.prog [] Tryz.f24 := Bx
def keep_Ios : SFun := x_keep_Ios.1
def y_keep_Ios_l0 : Lp keep_Ios.code 0 := lpIt
def Bef : SCode := y_keep_Ios_l0.1
def x_keep_Bytes : Bj Tryz.prog [] Tryz.f26 := Bx
def keep_Bytes : SFun := x_keep_Bytes.1
def y_keep_Bytes_l0 : Lp keep_Bytes.code 0 := lpIt
def dH : SCode := y_keep_Bytes_l0.1
def x_keep_TwinIos : Bj Tryz.prog [(0, 0, ⟨0, .pure, true⟩), (1, 0, ⟨1, .pure, true⟩), (5, 18, ⟨2, .pure, false⟩), (5, 19, ⟨3, .pure, false⟩)] Tryz.f28 := Bx
def keep_TwinIos : SFun := x_keep_TwinIos.1
def y_keep_TwinIos_l0 : Lp keep_TwinIos.code 0 := lpIt
def Bat : SCode := y_keep_TwinIos_l0.1
def x_crash_After : Bj Tryz.prog [(0, 0, ⟨0, .pure, false⟩)] Tryz.f29 := Bx
def Azo : SFun := x_crash_After.1
def x_crash_States : Bj Tryz.prog [(0, 0, ⟨0, .pure, true⟩), (3, 1, ⟨1, .pure, true⟩), (4, 5, ⟨2, .pure, false⟩), (6, 1, ⟨3, .pure, true⟩), (7, 1, ⟨4, .pure, false⟩), (17, 1, ⟨5, .pure, true⟩), (18, 2, ⟨6, .pure, false⟩), (18, 3, ⟨7, .pure, false⟩)] Tryz.f30 := Bx
def crash_States : SFun := x_crash_States.1
def y_crash_States_l0 : Lp crash_States.code 0 := lpIt
def Baq : SCode := y_crash_States_l0.1
def x_crash_Commits : Bj Tryz.prog [] Tryz.f31 := Bx
def Ayy : SFun := x_crash_Commits.1
def x_ref01_Steps : Bj Tryz.prog [] Tryz.f32 := Bx
def ref01_Steps : SFun := x_ref01_Steps.1
def y_ref01_Steps_l0 : Lp ref01_Steps.code 0 := lpIt
def Bbd : SCode := y_ref01_Steps_l0.1
def x_keep_View : Bj Tryz.prog [(0, 0, ⟨0, .pure, false⟩), (0, 1, ⟨1, .pure, false⟩)] Tryz.f33 := Bx
def lD : SFun := x_keep_View.1
def x_law27_wakes : Bj Tryz.prog [(3, 8, ⟨0, .pure, false⟩), (4, 6, ⟨1, .pure, false⟩)] Tryz.f34 := Bx
def Bbg : SFun := x_law27_wakes.1
def x_ref25_View : Bj Tryz.prog [(0, 0, ⟨0, .pure, false⟩), (1, 5, ⟨1, .pure, false⟩), (1, 6, ⟨2, .pure, false⟩)] Tryz.f35 := Bx
def Bcu : SFun := x_ref25_View.1
def x_ref01_Crash : Bj Tryz.prog [(0, 0, ⟨0, .pure, true⟩), (1, 0, ⟨1, .pure, true⟩), (2, 2, ⟨2, .pure, false⟩)] Tryz.f36 := Bx
def ref01_Crash : SFun := x_ref01_Crash.1
def y_ref01_Crash_l0 : Lp ref01_Crash.code 0 := lpIt
def Bbl : SCode := y_ref01_Crash_l0.1
def y_ref01_Crash_l1 : Lp ref01_Crash.code 1 := lpIt
def Bbm : SCode := y_ref01_Crash_l1.1
def x_ref01_Apply : Bj Tryz.prog [(0, 0, ⟨0, .pure, true⟩), (1, 0, ⟨1, .pure, true⟩), (2, 2, ⟨2, .pure, false⟩)] Tryz.f37 := Bx
def ref01_Apply : SFun := x_ref01_Apply.1
def y_ref01_Apply_l0 : Lp ref01_Apply.code 0 := lpIt
def Bbj : SCode := y_ref01_Apply_l0.1
def x_keep_Views : Bj Tryz.prog [] Tryz.f38 := Bx
def keep_Views : SFun := x_keep_Views.1
def y_keep_Views_l0 : Lp keep_Views.code 0 := lpIt
def Bcj : SCode := y_keep_Views_l0.1
def x_dev_Apply : Bj Tryz.prog [(4, 1, ⟨0, (.fresh 0), false⟩), (7, 2, ⟨1, .pure, false⟩), (9, 3, ⟨0, (.peek 2), false⟩)] Tryz.f39 := Bx
def dev_Apply : SFun := x_dev_Apply.1
def y_dev_Apply_l0 : Lp dev_Apply.code 0 := lpIt
def Bdk : SCode := y_dev_Apply_l0.1
def x_view_Of : Bj Tryz.prog [(0, 0, ⟨0, .pure, false⟩), (4, 18, ⟨1, .pure, false⟩), (7, 3, ⟨2, .pure, false⟩), (8, 24, ⟨3, .pure, false⟩), (10, 3, ⟨4, .pure, false⟩), (10, 4, ⟨5, .pure, false⟩), (11, 3, ⟨6, .pure, false⟩), (11, 4, ⟨7, .pure, false⟩)] Tryz.f40 := Bx
def view_Of : SFun := x_view_Of.1
def y_view_Of_l0 : Lp view_Of.code 0 := lpIt
def pR : SCode := y_view_Of_l0.1
def x_keep_Snaps : Bj Tryz.prog [] Tryz.f43 := Bx
def keep_Snaps : SFun := x_keep_Snaps.1
def y_keep_Snaps_l0 : Lp keep_Snaps.code 0 := lpIt
def dL : SCode := y_keep_Snaps_l0.1
def x_keep_Rows : Bj Tryz.prog [] Tryz.f44 := Bx
def keep_Rows : SFun := x_keep_Rows.1
def y_keep_Rows_l0 : Lp keep_Rows.code 0 := lpIt
def gT : SCode := y_keep_Rows_l0.1
def x_open_New : Bj Tryz.prog [(3, 2, ⟨0, .pure, false⟩)] Tryz.f46 := Bx
def pI : SFun := x_open_New.1
def x_dev_Crash : Bj Tryz.prog [(10, 1, ⟨0, (.fresh 0), false⟩), (13, 3, ⟨1, .pure, false⟩), (20, 3, ⟨0, (.peek 2), false⟩)] Tryz.f52 := Bx
def dev_Crash : SFun := x_dev_Crash.1
def y_dev_Crash_l0 : Lp dev_Crash.code 0 := lpIt
def Bam : SCode := y_dev_Crash_l0.1
def x_open_Look : Bj Tryz.prog [(4, 1, ⟨0, .pure, false⟩), (12, 6, ⟨1, .pure, false⟩), (12, 13, ⟨2, .pure, false⟩), (15, 2, ⟨3, .pure, false⟩), (16, 3, ⟨4, .pure, false⟩), (16, 4, ⟨5, .pure, false⟩), (16, 8, ⟨6, .pure, false⟩), (16, 9, ⟨7, .pure, false⟩), (24, 6, ⟨8, .pure, false⟩), (24, 7, ⟨9, .pure, false⟩)] Tryz.f53 := Bx
def open_Look : SFun := x_open_Look.1
def y_open_Look_l0 : Lp open_Look.code 0 := lpIt
def iM : SCode := y_open_Look_l0.1
def y_open_Look_l1 : Lp open_Look.code 1 := lpIt
def fN : SCode := y_open_Look_l1.1
def x_snap_create : Bj Tryz.prog [(0, 0, ⟨0, .pure, false⟩), (0, 1, ⟨1, .pure, false⟩), (1, 5, ⟨2, .pure, false⟩)] Tryz.f54 := Bx
def aL : SFun := x_snap_create.1
def x_snap_Makes : Bj Tryz.prog [(0, 0, ⟨0, .pure, false⟩), (1, 5, ⟨1, .pure, false⟩)] Tryz.f55 := Bx
def dV : SFun := x_snap_Makes.1
def x_snap_pending : Bj Tryz.prog [(0, 0, ⟨0, .pure, false⟩), (0, 1, ⟨1, .pure, false⟩)] Tryz.f57 := Bx
def Wx : SFun := x_snap_pending.1
def x_commit_Steps : Bj Tryz.prog [(0, 0, ⟨0, .pure, false⟩), (0, 1, ⟨1, .pure, true⟩), (2, 0, ⟨2, .pure, true⟩), (3, 11, ⟨3, .pure, false⟩), (6, 0, ⟨4, .pure, true⟩), (7, 0, ⟨5, .pure, true⟩), (10, 2, ⟨6, .pure, false⟩), (11, 7, ⟨7, .pure, false⟩), (11, 8, ⟨8, .pure, false⟩), (13, 1, ⟨9, .pure, false⟩), (14, 8, ⟨10, .pure, false⟩), (14, 9, ⟨11, .pure, false⟩)] Tryz.f58 := Bx
def commit_Steps : SFun := x_commit_Steps.1
def y_commit_Steps_l0 : Lp commit_Steps.code 0 := lpIt
def Yn : SCode := y_commit_Steps_l0.1
def x_ref10_Open : Bj Tryz.prog [(0, 0, ⟨0, .pure, false⟩), (0, 1, ⟨1, .pure, false⟩), (1, 0, ⟨2, .pure, false⟩), (5, 6, ⟨3, .pure, false⟩), (25, 3, ⟨4, .pure, false⟩), (25, 4, ⟨5, .pure, false⟩), (25, 8, ⟨6, .pure, false⟩), (25, 9, ⟨7, .pure, false⟩), (26, 1, ⟨8, .pure, false⟩)] Tryz.f59 := Bx
def ref10_Open : SFun := x_ref10_Open.1
def y_ref10_Open_l0 : Lp ref10_Open.code 0 := lpIt
def Bcc : SCode := y_ref10_Open_l0.1
def y_ref10_Open_l1 : Lp ref10_Open.code 1 := lpIt
def Bcf : SCode := y_ref10_Open_l1.1
def y_ref10_Open_l2 : Lp ref10_Open.code 2 := lpIt
def Bbw : SCode := y_ref10_Open_l2.1
def y_ref10_Open_l3 : Lp ref10_Open.code 3 := lpIt
def Bcl : SCode := y_ref10_Open_l3.1
def y_ref10_Open_l4 : Lp ref10_Open.code 4 := lpIt
def Bcn : SCode := y_ref10_Open_l4.1
def y_ref10_Open_l5 : Lp ref10_Open.code 5 := lpIt
def Bcm : SCode := y_ref10_Open_l5.1
def x_ref01_Id : Bj Tryz.prog [] Tryz.f60 := Bx
def Bfb : SFun := x_ref01_Id.1
def x_dev_Steps : Bj Tryz.prog [(1, 5, ⟨0, .pure, false⟩)] Tryz.f65 := Bx
def kY : SFun := x_dev_Steps.1
def x_dev_Flushes : Bj Tryz.prog [(0, 0, ⟨0, .pure, true⟩), (1, 0, ⟨1, .pure, true⟩), (4, 3, ⟨2, .pure, false⟩), (6, 2, ⟨3, .pure, false⟩), (6, 3, ⟨4, .pure, false⟩)] Tryz.f66 := Bx
def dev_Flushes : SFun := x_dev_Flushes.1
def y_dev_Flushes_l0 : Lp dev_Flushes.code 0 := lpIt
def Ayo : SCode := y_dev_Flushes_l0.1
def x_ref01_Blocks : Bj Tryz.prog [] Tryz.f67 := Bx
def Bae : SFun := x_ref01_Blocks.1
def x_ref01_In : Bj Tryz.prog [] Tryz.f68 := Bx
def Bfg : SFun := x_ref01_In.1
def x_ref10_View : Bj Tryz.prog [(0, 0, ⟨0, .pure, false⟩), (0, 1, ⟨1, .pure, false⟩), (1, 11, ⟨2, .pure, false⟩), (5, 6, ⟨3, .pure, false⟩), (6, 19, ⟨4, .pure, false⟩), (8, 3, ⟨5, .pure, false⟩), (8, 4, ⟨6, .pure, false⟩), (9, 3, ⟨7, .pure, false⟩), (9, 4, ⟨8, .pure, false⟩)] Tryz.f69 := Bx
def ref10_View : SFun := x_ref10_View.1
def y_ref10_View_l0 : Lp ref10_View.code 0 := lpIt
def Bby : SCode := y_ref10_View_l0.1
def x_slices_Clone___byte_byte_ : Bj Tryz.prog [(0, 0, ⟨0, .pure, true⟩), (2, 0, ⟨1, .pure, true⟩), (3, 2, ⟨2, .pure, false⟩)] Tryz.f70 := Bx
def slices_Clone___byte_byte_ : SFun := x_slices_Clone___byte_byte_.1
def x_dev_Of : Bj Tryz.prog [] Tryz.f71 := Bx
def Aag : SFun := x_dev_Of.1
def x_view_sectors : Bj Tryz.prog [(0, 0, ⟨0, .pure, true⟩), (1, 0, ⟨1, .pure, true⟩), (5, 0, ⟨2, .pure, false⟩), (7, 3, ⟨0, (.inl 3), false⟩), (8, 2, ⟨3, .pure, false⟩), (8, 3, ⟨4, .pure, false⟩)] Tryz.f72 := Bx
def view_sectors : SFun := x_view_sectors.1
def y_view_sectors_l0 : Lp view_sectors.code 0 := lpIt
def Yr : SCode := y_view_sectors_l0.1
def x_alloc_free : Bj Tryz.prog [(0, 0, ⟨0, .pure, true⟩), (1, 0, ⟨1, .pure, true⟩), (6, 2, ⟨2, .pure, false⟩), (6, 3, ⟨3, .pure, false⟩)] Tryz.f74 := Bx
def eQ : SFun := x_alloc_free.1
def x_keep_Snap : Bj Tryz.prog [(0, 0, ⟨0, .pure, false⟩), (0, 1, ⟨1, .pure, false⟩)] Tryz.f76 := Bx
def lH : SFun := x_keep_Snap.1
def x_super_Bytes : Bj Tryz.prog [(0, 0, ⟨0, .pure, false⟩), (4, 11, ⟨1, .pure, false⟩)] Tryz.f77 := Bx
def Zd : SFun := x_super_Bytes.1
def x_slices_IndexFunc___api_Record_api_Record_ : Bj Tryz.prog [] Tryz.f85 := Bx
def Ef : SFun := x_slices_IndexFunc___api_Record_api_Record_.1
def x_dev_Check : Bj Tryz.prog [] Tryz.f87 := Bx
def kP : SFun := x_dev_Check.1
def x_super_Pick : Bj Tryz.prog [(0, 0, ⟨0, .pure, false⟩), (8, 2, ⟨0, (.inl 1), false⟩), (8, 7, ⟨1, .pure, false⟩)] Tryz.f88 := Bx
def eC : SFun := x_super_Pick.1
def x_open_follow : Bj Tryz.prog [(2, 1, ⟨0, .pure, false⟩), (8, 2, ⟨0, (.inl 1), false⟩), (8, 7, ⟨1, .pure, false⟩), (13, 8, ⟨2, .pure, false⟩), (13, 9, ⟨3, .pure, false⟩), (13, 15, ⟨4, .pure, false⟩), (13, 16, ⟨5, .pure, false⟩)] Tryz.f89 := Bx
def open_follow : SFun := x_open_follow.1
def y_open_follow_l0 : Lp open_follow.code 0 := lpIt
def bB : SCode := y_open_follow_l0.1
def x_tree_Go : Bj Tryz.prog [(2, 2, ⟨0, .pure, false⟩), (2, 4, ⟨1, .pure, false⟩), (2, 5, ⟨2, .pure, false⟩), (5, 2, ⟨0, (.inl 3), false⟩)] Tryz.f90 := Bx
def Aar : SFun := x_tree_Go.1
def x_open_beyond : Bj Tryz.prog [] Tryz.f91 := Bx
def bF : SFun := x_open_beyond.1
def x___open_Image__clash : Bj Tryz.prog [(1, 1, ⟨0, .pure, false⟩), (1, 3, ⟨1, .pure, false⟩), (1, 5, ⟨2, .pure, false⟩), (1, 7, ⟨3, .pure, false⟩)] Tryz.f92 := Bx
def __open_Image__clash : SFun := x___open_Image__clash.1
def y___open_Image__clash_l0 : Lp __open_Image__clash.code 0 := lpIt
def Pl : SCode := y___open_Image__clash_l0.1
def y___open_Image__clash_l1 : Lp __open_Image__clash.code 1 := lpIt
def Oy : SCode := y___open_Image__clash_l1.1
def y___open_Image__clash_l2 : Lp __open_Image__clash.code 2 := lpIt
def Pz : SCode := y___open_Image__clash_l2.1
def y___open_Image__clash_l3 : Lp __open_Image__clash.code 3 := lpIt
def Qa : SCode := y___open_Image__clash_l3.1
def y___open_Image__clash_l4 : Lp __open_Image__clash.code 4 := lpIt
def Qd : SCode := y___open_Image__clash_l4.1
def x_ids_Check : Bj Tryz.prog [] Tryz.f93 := Bx
def jF : SFun := x_ids_Check.1
def x_slices_ContainsFunc___api_Record_api_Record_ : Bj Tryz.prog [] Tryz.f94 := Bx
def Dw : SFun := x_slices_ContainsFunc___api_Record_api_Record_.1
def x_snap_create_1 : Bj Tryz.prog [(0, 0, ⟨0, .pure, false⟩)] Tryz.f95 := Bx
def Uy : SFun := x_snap_create_1.1
def x_commit_Records : Bj Tryz.prog [(0, 0, ⟨0, .pure, false⟩), (0, 1, ⟨1, .pure, true⟩), (0, 3, ⟨2, .pure, true⟩), (2, 0, ⟨3, .pure, true⟩), (2, 2, ⟨4, .pure, true⟩), (3, 5, ⟨0, (.fresh 5), false⟩), (4, 1, ⟨0, (.inl 6), false⟩), (6, 2, ⟨6, .pure, false⟩), (6, 3, ⟨7, .pure, false⟩), (8, 0, ⟨8, .pure, true⟩), (8, 2, ⟨9, .pure, true⟩), (13, 3, ⟨10, .pure, false⟩), (17, 4, ⟨11, .pure, false⟩), (17, 5, ⟨12, .pure, false⟩)] Tryz.f96 := Bx
def commit_Records : SFun := x_commit_Records.1
def y_commit_Records_l0 : Lp commit_Records.code 0 := lpIt
def Mk : SCode := y_commit_Records_l0.1
def x_head_Free : Bj Tryz.prog [] Tryz.f97 := Bx
def kC : SFun := x_head_Free.1
def x_commit_ready : Bj Tryz.prog [(0, 0, ⟨0, .pure, false⟩)] Tryz.f98 := Bx
def Wv : SFun := x_commit_ready.1
def x_slices_ContainsFunc___api_Io_api_Io_ : Bj Tryz.prog [] Tryz.f99 := Bx
def Eu : SFun := x_slices_ContainsFunc___api_Io_api_Io_.1
def x_commit_Steps_1 : Bj Tryz.prog [(0, 0, ⟨0, .pure, false⟩)] Tryz.f100 := Bx
def To : SFun := x_commit_Steps_1.1
def x_commit_write : Bj Tryz.prog [(0, 0, ⟨0, .pure, false⟩)] Tryz.f101 := Bx
def Xx : SFun := x_commit_write.1
def x_ref01_Pick : Bj Tryz.prog [(0, 0, ⟨0, .pure, false⟩), (2, 1, ⟨0, (.inl 1), false⟩), (2, 6, ⟨1, .pure, false⟩), (3, 1, ⟨0, (.inl 2), false⟩), (3, 6, ⟨2, .pure, false⟩)] Tryz.f102 := Bx
def Bcr : SFun := x_ref01_Pick.1
def x_ref10_Records : Bj Tryz.prog [(0, 0, ⟨0, .pure, true⟩), (0, 1, ⟨1, .pure, true⟩), (6, 1, ⟨2, .pure, true⟩), (6, 2, ⟨3, .pure, true⟩), (7, 2, ⟨0, (.inl 4), false⟩), (7, 7, ⟨4, .pure, false⟩), (9, 1, ⟨5, .pure, true⟩), (9, 2, ⟨6, .pure, true⟩), (16, 1, ⟨7, .pure, true⟩), (16, 2, ⟨8, .pure, true⟩), (18, 1, ⟨9, .pure, true⟩), (18, 2, ⟨10, .pure, true⟩), (19, 2, ⟨11, .pure, false⟩), (19, 3, ⟨12, .pure, false⟩), (19, 6, ⟨13, .pure, false⟩), (19, 7, ⟨14, .pure, false⟩)] Tryz.f103 := Bx
def ref10_Records : SFun := x_ref10_Records.1
def y_ref10_Records_l0 : Lp ref10_Records.code 0 := lpIt
def Azx : SCode := y_ref10_Records_l0.1
def y_ref10_Records_l1 : Lp ref10_Records.code 1 := lpIt
def Azy : SCode := y_ref10_Records_l1.1
def x_ref10_Tree : Bj Tryz.prog [(2, 3, ⟨0, .pure, false⟩), (2, 5, ⟨1, .pure, false⟩), (2, 6, ⟨2, .pure, false⟩), (2, 8, ⟨3, .pure, false⟩), (5, 1, ⟨0, (.inl 4), false⟩)] Tryz.f104 := Bx
def ref10_Tree : SFun := x_ref10_Tree.1
def y_ref10_Tree_l0 : Lp ref10_Tree.code 0 := lpIt
def Bce : SCode := y_ref10_Tree_l0.1
def x_dev_Steps_1 : Bj Tryz.prog [(0, 0, ⟨0, .pure, false⟩)] Tryz.f109 := Bx
def aV : SFun := x_dev_Steps_1.1
def x_dev_right : Bj Tryz.prog [(0, 0, ⟨0, .pure, false⟩)] Tryz.f110 := Bx
def kE : SFun := x_dev_right.1
def x_ref10_Sectors : Bj Tryz.prog [(0, 0, ⟨0, .pure, true⟩), (1, 0, ⟨1, .pure, true⟩), (5, 0, ⟨2, .pure, false⟩), (7, 6, ⟨0, (.inl 3), false⟩), (8, 2, ⟨3, .pure, false⟩), (8, 3, ⟨4, .pure, false⟩)] Tryz.f111 := Bx
def ref10_Sectors : SFun := x_ref10_Sectors.1
def y_ref10_Sectors_l0 : Lp ref10_Sectors.code 0 := lpIt
def Azw : SCode := y_ref10_Sectors_l0.1
def x_walk_Of : Bj Tryz.prog [(0, 0, ⟨0, .pure, true⟩), (2, 1, ⟨1, .pure, false⟩), (13, 6, ⟨2, .pure, false⟩), (16, 2, ⟨3, .pure, false⟩), (17, 3, ⟨4, .pure, false⟩), (17, 4, ⟨5, .pure, false⟩), (19, 1, ⟨6, .pure, false⟩), (30, 2, ⟨0, (.inl 7), false⟩), (30, 7, ⟨7, .pure, false⟩)] Tryz.f112 := Bx
def walk_Of : SFun := x_walk_Of.1
def y_walk_Of_l0 : Lp walk_Of.code 0 := lpIt
def pX : SCode := y_walk_Of_l0.1
def y_walk_Of_l1 : Lp walk_Of.code 1 := lpIt
def tL : SCode := y_walk_Of_l1.1
def y_walk_Of_l2 : Lp walk_Of.code 2 := lpIt
def rV : SCode := y_walk_Of_l2.1
def y_walk_Of_l3 : Lp walk_Of.code 3 := lpIt
def qT : SCode := y_walk_Of_l3.1
def y_walk_Of_l4 : Lp walk_Of.code 4 := lpIt
def qZ : SCode := y_walk_Of_l4.1
def y_walk_Of_l5 : Lp walk_Of.code 5 := lpIt
def tE : SCode := y_walk_Of_l5.1
def x_super_Check : Bj Tryz.prog [(0, 0, ⟨0, .pure, false⟩)] Tryz.f113 := Bx
def bI : SFun := x_super_Check.1
def x_super_Make : Bj Tryz.prog [(1, 0, ⟨0, .pure, false⟩), (5, 3, ⟨1, .pure, false⟩), (6, 9, ⟨0, (.inl 2), false⟩), (8, 1, ⟨0, (.inl 2), false⟩)] Tryz.f114 := Bx
def eT : SFun := x_super_Make.1
def x_super_layout : Bj Tryz.prog [(1, 0, ⟨0, .pure, false⟩)] Tryz.f115 := Bx
def Aaf : SFun := x_super_layout.1
def x_super_Parse : Bj Tryz.prog [(0, 0, ⟨0, .pure, false⟩), (4, 16, ⟨1, .pure, false⟩)] Tryz.f123 := Bx
def aB : SFun := x_super_Parse.1
def x_slices_Contains___int_int_ : Bj Tryz.prog [] Tryz.f124 := Bx
def Hk : SFun := x_slices_Contains___int_int_.1
def x_record_Parse : Bj Tryz.prog [(0, 0, ⟨0, .pure, false⟩), (4, 25, ⟨1, .pure, false⟩)] Tryz.f125 := Bx
def Xj : SFun := x_record_Parse.1
def x___open_chain__may : Bj Tryz.prog [(0, 0, ⟨0, .pure, false⟩)] Tryz.f126 := Bx
def Pu : SFun := x___open_chain__may.1
def x___tree_Walk__goes : Bj Tryz.prog [(0, 14, ⟨0, .pure, false⟩), (3, 6, ⟨1, .pure, false⟩), (3, 7, ⟨2, .pure, false⟩), (14, 5, ⟨0, (.inl 3), false⟩)] Tryz.f127 := Bx
def Kn : SFun := x___tree_Walk__goes.1
def x_slices_ContainsFunc___int_int_ : Bj Tryz.prog [] Tryz.f128 := Bx
def Ga : SFun := x_slices_ContainsFunc___int_int_.1
def x_tree_Go_1 : Bj Tryz.prog [] Tryz.f129 := Bx
def jI : SFun := x_tree_Go_1.1
def x_open_beyond_1 : Bj Tryz.prog [] Tryz.f130 := Bx
def Va : SFun := x_open_beyond_1.1
def x_commit_may : Bj Tryz.prog [(0, 0, ⟨0, .pure, false⟩), (4, 4, ⟨1, .pure, false⟩)] Tryz.f131 := Bx
def commit_may : SFun := x_commit_may.1
def y_commit_may_l0 : Lp commit_may.code 0 := lpIt
def cR : SCode := y_commit_may_l0.1
def x_slices_Clone___api_Record_api_Record_ : Bj Tryz.prog [(0, 0, ⟨0, .pure, true⟩), (2, 0, ⟨1, .pure, true⟩), (3, 2, ⟨2, .pure, false⟩)] Tryz.f132 := Bx
def slices_Clone___api_Record_api_Record_ : SFun := x_slices_Clone___api_Record_api_Record_.1
def x_slices_Reverse___api_Record_api_Record_ : Bj Tryz.prog [] Tryz.f133 := Bx
def Eo : SFun := x_slices_Reverse___api_Record_api_Record_.1
def x_record_Bytes : Bj Tryz.prog [(0, 0, ⟨0, .pure, false⟩), (4, 17, ⟨1, .pure, false⟩)] Tryz.f134 := Bx
def Xe : SFun := x_record_Bytes.1
def x_slices_Clone___int_int_ : Bj Tryz.prog [(0, 0, ⟨0, .pure, true⟩), (2, 0, ⟨1, .pure, true⟩), (3, 2, ⟨2, .pure, false⟩)] Tryz.f135 := Bx
def slices_Clone___int_int_ : SFun := x_slices_Clone___int_int_.1
def x_alloc_Free : Bj Tryz.prog [] Tryz.f136 := Bx
def eG : SFun := x_alloc_Free.1
def x_slices_IndexFunc___api_Io_api_Io_ : Bj Tryz.prog [] Tryz.f137 := Bx
def Fh : SFun := x_slices_IndexFunc___api_Io_api_Io_.1
def x_ref01_ParseSuper : Bj Tryz.prog [(0, 0, ⟨0, .pure, false⟩), (5, 10, ⟨1, .pure, false⟩)] Tryz.f138 := Bx
def Ayj : SFun := x_ref01_ParseSuper.1
def x_ref01_Block : Bj Tryz.prog [] Tryz.f139 := Bx
def Bbi : SFun := x_ref01_Block.1
def x_ref10_in : Bj Tryz.prog [] Tryz.f140 := Bx
def Bfa : SFun := x_ref10_in.1
def x_ref10_has : Bj Tryz.prog [] Tryz.f141 := Bx
def Bdz : SFun := x_ref10_has.1
def x_ref01_ParseRecord : Bj Tryz.prog [(0, 0, ⟨0, .pure, false⟩), (6, 15, ⟨1, .pure, false⟩)] Tryz.f142 := Bx
def Ayd : SFun := x_ref01_ParseRecord.1
def x___ref10_walk__node : Bj Tryz.prog [(2, 5, ⟨0, (.inl 0), false⟩), (2, 10, ⟨0, .pure, false⟩), (6, 6, ⟨1, .pure, false⟩), (6, 7, ⟨2, .pure, false⟩), (22, 9, ⟨0, (.inl 3), false⟩)] Tryz.f143 := Bx
def pW : SFun := x___ref10_walk__node.1
def x_ref01_ParseNode : Bj Tryz.prog [(0, 0, ⟨0, .pure, false⟩), (4, 3, ⟨1, .pure, false⟩)] Tryz.f144 := Bx
def Ayk : SFun := x_ref01_ParseNode.1
def x_node_Parse : Bj Tryz.prog [(0, 0, ⟨0, .pure, false⟩), (4, 4, ⟨1, .pure, true⟩)] Tryz.f148 := Bx
def dW : SFun := x_node_Parse.1
def x_super_in : Bj Tryz.prog [] Tryz.f149 := Bx
def qR : SFun := x_super_in.1
def x_le_Set : Bj Tryz.prog [] Tryz.f150 := Bx
def le_Set : SFun := x_le_Set.1
def y_le_Set_l0 : Lp le_Set.code 0 := lpIt
def vI : SCode := y_le_Set_l0.1
def x_crc_Seal : Bj Tryz.prog [(1, 6, ⟨0, (.inl 0), false⟩)] Tryz.f151 := Bx
def tA : SFun := x_crc_Seal.1
def x_super_Layout : Bj Tryz.prog [(0, 0, ⟨0, .pure, true⟩), (1, 0, ⟨1, .pure, true⟩), (6, 4, ⟨2, .pure, false⟩), (6, 5, ⟨3, .pure, false⟩)] Tryz.f152 := Bx
def yG : SFun := x_super_Layout.1
def x_super_Read : Bj Tryz.prog [(0, 0, ⟨0, .pure, true⟩), (2, 0, ⟨1, .pure, true⟩), (4, 0, ⟨2, .pure, true⟩), (6, 0, ⟨3, .pure, true⟩), (7, 0, ⟨4, .pure, true⟩), (11, 2, ⟨5, .pure, false⟩), (14, 0, ⟨6, .pure, true⟩), (15, 2, ⟨7, .pure, false⟩), (15, 3, ⟨8, .pure, false⟩), (19, 0, ⟨9, .pure, true⟩)] Tryz.f156 := Bx
def eW : SFun := x_super_Read.1
def x_slices_Index___int_int_ : Bj Tryz.prog [] Tryz.f157 := Bx
def Ix : SFun := x_slices_Index___int_int_.1
def x_record_layout : Bj Tryz.prog [(1, 0, ⟨0, .pure, false⟩)] Tryz.f158 := Bx
def uW : SFun := x_record_layout.1
def x_record_Check : Bj Tryz.prog [(0, 0, ⟨0, .pure, false⟩)] Tryz.f159 := Bx
def Yd : SFun := x_record_Check.1
def x___open_chain__may_1 : Bj Tryz.prog [(0, 0, ⟨0, .pure, false⟩)] Tryz.f160 := Bx
def Nm : SFun := x___open_chain__may_1.1
def x_tree_At : Bj Tryz.prog [(0, 0, ⟨0, .pure, false⟩), (3, 2, ⟨0, (.inl 1), false⟩), (3, 7, ⟨1, .pure, false⟩)] Tryz.f161 := Bx
def Aaq : SFun := x_tree_At.1
def x_node_Under : Bj Tryz.prog [] Tryz.f162 := Bx
def Ahd : SFun := x_node_Under.1
def x_slices_IndexFunc___int_int_ : Bj Tryz.prog [] Tryz.f163 := Bx
def Gz : SFun := x_slices_IndexFunc___int_int_.1
def x_commit_may_1 : Bj Tryz.prog [(0, 0, ⟨0, .pure, false⟩)] Tryz.f164 := Bx
def Yc : SFun := x_commit_may_1.1
def x_slices_Concat___int_int_ : Bj Tryz.prog [(0, 0, ⟨0, .pure, true⟩), (9, 1, ⟨0, (.inl 1), false⟩), (13, 2, ⟨3, .pure, false⟩)] Tryz.f165 := Bx
def Il : SFun := x_slices_Concat___int_int_.1
def x_commit_may_2 : Bj Tryz.prog [] Tryz.f166 := Bx
def Wt : SFun := x_commit_may_2.1
def x_commit_place : Bj Tryz.prog [] Tryz.f167 := Bx
def Xm : SFun := x_commit_place.1
def x_alloc_right : Bj Tryz.prog [] Tryz.f168 := Bx
def Zv : SFun := x_alloc_right.1
def x_ref01_open : Bj Tryz.prog [] Tryz.f169 := Bx
def Bcs : SFun := x_ref01_open.1
def x_ref01_Get8 : Bj Tryz.prog [] Tryz.f170 := Bx
def Bai : SFun := x_ref01_Get8.1
def x_ref01_Get4 : Bj Tryz.prog [] Tryz.f171 := Bx
def Bcp : SFun := x_ref01_Get4.1
def x_ref01_Super : Bj Tryz.prog [(0, 0, ⟨0, .pure, false⟩)] Tryz.f172 := Bx
def Bbn : SFun := x_ref01_Super.1
def x_ref01_Zeros : Bj Tryz.prog [] Tryz.f173 := Bx
def Bbo : SFun := x_ref01_Zeros.1
def x_ref01_Record : Bj Tryz.prog [(0, 0, ⟨0, .pure, false⟩)] Tryz.f174 := Bx
def Bak : SFun := x_ref01_Record.1
def x_ref01_Node : Bj Tryz.prog [(0, 0, ⟨0, .pure, false⟩)] Tryz.f175 := Bx
def Bcx : SFun := x_ref01_Node.1
def x_ref01_Sum : Bj Tryz.prog [] Tryz.f176 := Bx
def Bdy : SFun := x_ref01_Sum.1
def x_node_layout : Bj Tryz.prog [(1, 0, ⟨0, .pure, false⟩)] Tryz.f177 := Bx
def Adw : SFun := x_node_layout.1
def x_node_Check : Bj Tryz.prog [(0, 0, ⟨0, .pure, false⟩)] Tryz.f178 := Bx
def eN : SFun := x_node_Check.1
def x_crc_Sum : Bj Tryz.prog [] Tryz.f179 := Bx
def zI : SFun := x_crc_Sum.1
def x_crc_Good : Bj Tryz.prog [] Tryz.f184 := Bx
def sU : SFun := x_crc_Good.1
def x_le_Get : Bj Tryz.prog [] Tryz.f185 := Bx
def le_Get : SFun := x_le_Get.1
def y_le_Get_l0 : Lp le_Get.code 0 := lpIt
def kR : SCode := y_le_Get_l0.1
def x_le_Zeros : Bj Tryz.prog [] Tryz.f186 := Bx
def rR : SFun := x_le_Zeros.1
def x_node_Pointer : Bj Tryz.prog [] Tryz.f187 := Bx
def Ya : SFun := x_node_Pointer.1
def x_record_Parents : Bj Tryz.prog [] Tryz.f188 := Bx
def Tx : SFun := x_record_Parents.1
def x_record_in : Bj Tryz.prog [] Tryz.f189 := Bx
def jY : SFun := x_record_in.1
def x_slices_Grow___int_int_ : Bj Tryz.prog [(0, 0, ⟨0, .pure, true⟩), (5, 5, ⟨1, .pure, false⟩)] Tryz.f190 := Bx
def Jl : SFun := x_slices_Grow___int_int_.1
def x_alloc_right_1 : Bj Tryz.prog [] Tryz.f191 := Bx
def Ux : SFun := x_alloc_right_1.1
def x_ref01_Good : Bj Tryz.prog [] Tryz.f192 := Bx
def Bao : SFun := x_ref01_Good.1
def x_ref01_Number : Bj Tryz.prog [] Tryz.f193 := Bx
def ref01_Number : SFun := x_ref01_Number.1
def y_ref01_Number_l0 : Lp ref01_Number.code 0 := lpIt
def Azd : SCode := y_ref01_Number_l0.1
def x_ref01_link : Bj Tryz.prog [] Tryz.f194 := Bx
def Bcv : SFun := x_ref01_link.1
def x_ref01_More : Bj Tryz.prog [] Tryz.f195 := Bx
def ref01_More : SFun := x_ref01_More.1
def y_ref01_More_l0 : Lp ref01_More.code 0 := lpIt
def Bcd : SCode := y_ref01_More_l0.1
def y_ref01_More_l1 : Lp ref01_More.code 1 := lpIt
def Bbv : SCode := y_ref01_More_l1.1
def x_crc_More : Bj Tryz.prog [] Tryz.f196 := Bx
def crc_More : SFun := x_crc_More.1
def y_crc_More_l0 : Lp crc_More.code 0 := lpIt
def mU : SCode := y_crc_More_l0.1
def y_crc_More_l1 : Lp crc_More.code 1 := lpIt
def lW : SCode := y_crc_More_l1.1
def x_le_right : Bj Tryz.prog [] Tryz.f202 := Bx
def tR : SFun := x_le_right.1
def x_le_within : Bj Tryz.prog [] Tryz.f203 := Bx
def jQ : SFun := x_le_within.1
def tab : List (Nat × SFun) := [(4, law27_CrashExact), (14, Bbe), (15, Bbr), (16, aW), (24, keep_Ios), (26, keep_Bytes), (28, keep_TwinIos), (29, Azo), (30, crash_States), (31, Ayy), (32, ref01_Steps), (33, lD), (34, Bbg), (35, Bcu), (36, ref01_Crash), (37, ref01_Apply), (38, keep_Views), (39, dev_Apply), (40, view_Of), (43, keep_Snaps), (44, keep_Rows), (46, pI), (52, dev_Crash), (53, open_Look), (54, aL), (55, dV), (57, Wx), (58, commit_Steps), (59, ref10_Open), (60, Bfb), (65, kY), (66, dev_Flushes), (67, Bae), (68, Bfg), (69, ref10_View), (71, Aag), (72, view_sectors), (74, eQ), (76, lH), (77, Zd), (85, Ef), (87, kP), (88, eC), (89, open_follow), (90, Aar), (91, bF), (92, __open_Image__clash), (93, jF), (94, Dw), (95, Uy), (96, commit_Records), (97, kC), (98, Wv), (99, Eu), (100, To), (101, Xx), (102, Bcr), (103, ref10_Records), (104, ref10_Tree), (109, aV), (110, kE), (111, ref10_Sectors), (112, walk_Of), (113, bI), (114, eT), (115, Aaf), (123, aB), (124, Hk), (125, Xj), (126, Pu), (127, Kn), (128, Ga), (129, jI), (130, Va), (131, commit_may), (133, Eo), (134, Xe), (136, eG), (137, Fh), (138, Ayj), (139, Bbi), (140, Bfa), (141, Bdz), (142, Ayd), (143, pW), (144, Ayk), (148, dW), (149, qR), (150, le_Set), (151, tA), (152, yG), (156, eW), (157, Ix), (158, uW), (159, Yd), (160, Nm), (161, Aaq), (162, Ahd), (163, Gz), (164, Yc), (165, Il), (166, Wt), (167, Xm), (168, Zv), (169, Bcs), (170, Bai), (171, Bcp), (172, Bbn), (173, Bbo), (174, Bak), (175, Bcx), (176, Bdy), (177, Adw), (178, eN), (179, zI), (184, sU), (185, le_Get), (186, rR), (187, Ya), (188, Tx), (189, jY), (190, Jl), (191, Ux), (192, Bao), (193, ref01_Number), (194, Bcv), (195, ref01_More), (196, crc_More), (202, tR), (203, jQ)]
def B : Prog := Go.AI.look tab
theorem laid : Laid Tryz.prog (Go.AI.look tab) := by
 refine Ak ⟨_, _, Tryz.func4, x_law27_CrashExact.2.1, by decide⟩ ?_
 refine Ak ⟨_, _, Tryz.func14, x_law05_Heavy.2.1, by decide⟩ ?_
 refine Ak ⟨_, _, Tryz.func15, x_keep_Twin.2.1, by decide⟩ ?_
 refine Ak ⟨_, _, Tryz.func16, x_snap_Create.2.1, by decide⟩ ?_
 refine Ak ⟨_, _, Tryz.func24, x_keep_Ios.2.1, by decide⟩ ?_
 refine Ak ⟨_, _, Tryz.func26, x_keep_Bytes.2.1, by decide⟩ ?_
 refine Ak ⟨_, _, Tryz.func28, x_keep_TwinIos.2.1, by decide⟩ ?_
 refine Ak ⟨_, _, Tryz.func29, x_crash_After.2.1, by decide⟩ ?_
 refine Ak ⟨_, _, Tryz.func30, x_crash_States.2.1, by decide⟩ ?_
 refine Ak ⟨_, _, Tryz.func31, x_crash_Commits.2.1, by decide⟩ ?_
 refine Ak ⟨_, _, Tryz.func32, x_ref01_Steps.2.1, by decide⟩ ?_
 refine Ak ⟨_, _, Tryz.func33, x_keep_View.2.1, by decide⟩ ?_
 refine Ak ⟨_, _, Tryz.func34, x_law27_wakes.2.1, by decide⟩ ?_
 refine Ak ⟨_, _, Tryz.func35, x_ref25_View.2.1, by decide⟩ ?_
 refine Ak ⟨_, _, Tryz.func36, x_ref01_Crash.2.1, by decide⟩ ?_
 refine Ak ⟨_, _, Tryz.func37, x_ref01_Apply.2.1, by decide⟩ ?_
 refine Ak ⟨_, _, Tryz.func38, x_keep_Views.2.1, by decide⟩ ?_
 refine Ak ⟨_, _, Tryz.func39, x_dev_Apply.2.1, by decide⟩ ?_
 refine Ak ⟨_, _, Tryz.func40, x_view_Of.2.1, by decide⟩ ?_
 refine Ak ⟨_, _, Tryz.func43, x_keep_Snaps.2.1, by decide⟩ ?_
 refine Ak ⟨_, _, Tryz.func44, x_keep_Rows.2.1, by decide⟩ ?_
 refine Ak ⟨_, _, Tryz.func46, x_open_New.2.1, by decide⟩ ?_
 refine Ak ⟨_, _, Tryz.func52, x_dev_Crash.2.1, by decide⟩ ?_
 refine Ak ⟨_, _, Tryz.func53, x_open_Look.2.1, by decide⟩ ?_
 refine Ak ⟨_, _, Tryz.func54, x_snap_create.2.1, by decide⟩ ?_
 refine Ak ⟨_, _, Tryz.func55, x_snap_Makes.2.1, by decide⟩ ?_
 refine Ak ⟨_, _, Tryz.func57, x_snap_pending.2.1, by decide⟩ ?_
 refine Ak ⟨_, _, Tryz.func58, x_commit_Steps.2.1, by decide⟩ ?_
 refine Ak ⟨_, _, Tryz.func59, x_ref10_Open.2.1, by decide⟩ ?_
 refine Ak ⟨_, _, Tryz.func60, x_ref01_Id.2.1, by decide⟩ ?_
 refine Ak ⟨_, _, Tryz.func65, x_dev_Steps.2.1, by decide⟩ ?_
 refine Ak ⟨_, _, Tryz.func66, x_dev_Flushes.2.1, by decide⟩ ?_
 refine Ak ⟨_, _, Tryz.func67, x_ref01_Blocks.2.1, by decide⟩ ?_
 refine Ak ⟨_, _, Tryz.func68, x_ref01_In.2.1, by decide⟩ ?_
 refine Ak ⟨_, _, Tryz.func69, x_ref10_View.2.1, by decide⟩ ?_
 refine Ak ⟨_, _, Tryz.func71, x_dev_Of.2.1, by decide⟩ ?_
 refine Ak ⟨_, _, Tryz.func72, x_view_sectors.2.1, by decide⟩ ?_
 refine Ak ⟨_, _, Tryz.func74, x_alloc_free.2.1, by decide⟩ ?_
 refine Ak ⟨_, _, Tryz.func76, x_keep_Snap.2.1, by decide⟩ ?_
 refine Ak ⟨_, _, Tryz.func77, x_super_Bytes.2.1, by decide⟩ ?_
 refine Ak ⟨_, _, Tryz.func85, x_slices_IndexFunc___api_Record_api_Record_.2.1, by decide⟩ ?_
 refine Ak ⟨_, _, Tryz.func87, x_dev_Check.2.1, by decide⟩ ?_
 refine Ak ⟨_, _, Tryz.func88, x_super_Pick.2.1, by decide⟩ ?_
 refine Ak ⟨_, _, Tryz.func89, x_open_follow.2.1, by decide⟩ ?_
 refine Ak ⟨_, _, Tryz.func90, x_tree_Go.2.1, by decide⟩ ?_
 refine Ak ⟨_, _, Tryz.func91, x_open_beyond.2.1, by decide⟩ ?_
 refine Ak ⟨_, _, Tryz.func92, x___open_Image__clash.2.1, by decide⟩ ?_
 refine Ak ⟨_, _, Tryz.func93, x_ids_Check.2.1, by decide⟩ ?_
 refine Ak ⟨_, _, Tryz.func94, x_slices_ContainsFunc___api_Record_api_Record_.2.1, by decide⟩ ?_
 refine Ak ⟨_, _, Tryz.func95, x_snap_create_1.2.1, by decide⟩ ?_
 refine Ak ⟨_, _, Tryz.func96, x_commit_Records.2.1, by decide⟩ ?_
 refine Ak ⟨_, _, Tryz.func97, x_head_Free.2.1, by decide⟩ ?_
 refine Ak ⟨_, _, Tryz.func98, x_commit_ready.2.1, by decide⟩ ?_
 refine Ak ⟨_, _, Tryz.func99, x_slices_ContainsFunc___api_Io_api_Io_.2.1, by decide⟩ ?_
 refine Ak ⟨_, _, Tryz.func100, x_commit_Steps_1.2.1, by decide⟩ ?_
 refine Ak ⟨_, _, Tryz.func101, x_commit_write.2.1, by decide⟩ ?_
 refine Ak ⟨_, _, Tryz.func102, x_ref01_Pick.2.1, by decide⟩ ?_
 refine Ak ⟨_, _, Tryz.func103, x_ref10_Records.2.1, by decide⟩ ?_
 refine Ak ⟨_, _, Tryz.func104, x_ref10_Tree.2.1, by decide⟩ ?_
 refine Ak ⟨_, _, Tryz.func109, x_dev_Steps_1.2.1, by decide⟩ ?_
 refine Ak ⟨_, _, Tryz.func110, x_dev_right.2.1, by decide⟩ ?_
 refine Ak ⟨_, _, Tryz.func111, x_ref10_Sectors.2.1, by decide⟩ ?_
 refine Ak ⟨_, _, Tryz.func112, x_walk_Of.2.1, by decide⟩ ?_
 refine Ak ⟨_, _, Tryz.func113, x_super_Check.2.1, by decide⟩ ?_
 refine Ak ⟨_, _, Tryz.func114, x_super_Make.2.1, by decide⟩ ?_
 refine Ak ⟨_, _, Tryz.func115, x_super_layout.2.1, by decide⟩ ?_
 refine Ak ⟨_, _, Tryz.func123, x_super_Parse.2.1, by decide⟩ ?_
 refine Ak ⟨_, _, Tryz.func124, x_slices_Contains___int_int_.2.1, by decide⟩ ?_
 refine Ak ⟨_, _, Tryz.func125, x_record_Parse.2.1, by decide⟩ ?_
 refine Ak ⟨_, _, Tryz.func126, x___open_chain__may.2.1, by decide⟩ ?_
 refine Ak ⟨_, _, Tryz.func127, x___tree_Walk__goes.2.1, by decide⟩ ?_
 refine Ak ⟨_, _, Tryz.func128, x_slices_ContainsFunc___int_int_.2.1, by decide⟩ ?_
 refine Ak ⟨_, _, Tryz.func129, x_tree_Go_1.2.1, by decide⟩ ?_
 refine Ak ⟨_, _, Tryz.func130, x_open_beyond_1.2.1, by decide⟩ ?_
 refine Ak ⟨_, _, Tryz.func131, x_commit_may.2.1, by decide⟩ ?_
 refine Ak ⟨_, _, Tryz.func133, x_slices_Reverse___api_Record_api_Record_.2.1, by decide⟩ ?_
 refine Ak ⟨_, _, Tryz.func134, x_record_Bytes.2.1, by decide⟩ ?_
 refine Ak ⟨_, _, Tryz.func136, x_alloc_Free.2.1, by decide⟩ ?_
 refine Ak ⟨_, _, Tryz.func137, x_slices_IndexFunc___api_Io_api_Io_.2.1, by decide⟩ ?_
 refine Ak ⟨_, _, Tryz.func138, x_ref01_ParseSuper.2.1, by decide⟩ ?_
 refine Ak ⟨_, _, Tryz.func139, x_ref01_Block.2.1, by decide⟩ ?_
 refine Ak ⟨_, _, Tryz.func140, x_ref10_in.2.1, by decide⟩ ?_
 refine Ak ⟨_, _, Tryz.func141, x_ref10_has.2.1, by decide⟩ ?_
 refine Ak ⟨_, _, Tryz.func142, x_ref01_ParseRecord.2.1, by decide⟩ ?_
 refine Ak ⟨_, _, Tryz.func143, x___ref10_walk__node.2.1, by decide⟩ ?_
 refine Ak ⟨_, _, Tryz.func144, x_ref01_ParseNode.2.1, by decide⟩ ?_
 refine Ak ⟨_, _, Tryz.func148, x_node_Parse.2.1, by decide⟩ ?_
 refine Ak ⟨_, _, Tryz.func149, x_super_in.2.1, by decide⟩ ?_
 refine Ak ⟨_, _, Tryz.func150, x_le_Set.2.1, by decide⟩ ?_
 refine Ak ⟨_, _, Tryz.func151, x_crc_Seal.2.1, by decide⟩ ?_
 refine Ak ⟨_, _, Tryz.func152, x_super_Layout.2.1, by decide⟩ ?_
 refine Ak ⟨_, _, Tryz.func156, x_super_Read.2.1, by decide⟩ ?_
 refine Ak ⟨_, _, Tryz.func157, x_slices_Index___int_int_.2.1, by decide⟩ ?_
 refine Ak ⟨_, _, Tryz.func158, x_record_layout.2.1, by decide⟩ ?_
 refine Ak ⟨_, _, Tryz.func159, x_record_Check.2.1, by decide⟩ ?_
 refine Ak ⟨_, _, Tryz.func160, x___open_chain__may_1.2.1, by decide⟩ ?_
 refine Ak ⟨_, _, Tryz.func161, x_tree_At.2.1, by decide⟩ ?_
 refine Ak ⟨_, _, Tryz.func162, x_node_Under.2.1, by decide⟩ ?_
 refine Ak ⟨_, _, Tryz.func163, x_slices_IndexFunc___int_int_.2.1, by decide⟩ ?_
 refine Ak ⟨_, _, Tryz.func164, x_commit_may_1.2.1, by decide⟩ ?_
 refine Ak ⟨_, _, Tryz.func165, x_slices_Concat___int_int_.2.1, by decide⟩ ?_
 refine Ak ⟨_, _, Tryz.func166, x_commit_may_2.2.1, by decide⟩ ?_
 refine Ak ⟨_, _, Tryz.func167, x_commit_place.2.1, by decide⟩ ?_
 refine Ak ⟨_, _, Tryz.func168, x_alloc_right.2.1, by decide⟩ ?_
 refine Ak ⟨_, _, Tryz.func169, x_ref01_open.2.1, by decide⟩ ?_
 refine Ak ⟨_, _, Tryz.func170, x_ref01_Get8.2.1, by decide⟩ ?_
 refine Ak ⟨_, _, Tryz.func171, x_ref01_Get4.2.1, by decide⟩ ?_
 refine Ak ⟨_, _, Tryz.func172, x_ref01_Super.2.1, by decide⟩ ?_
 refine Ak ⟨_, _, Tryz.func173, x_ref01_Zeros.2.1, by decide⟩ ?_
 refine Ak ⟨_, _, Tryz.func174, x_ref01_Record.2.1, by decide⟩ ?_
 refine Ak ⟨_, _, Tryz.func175, x_ref01_Node.2.1, by decide⟩ ?_
 refine Ak ⟨_, _, Tryz.func176, x_ref01_Sum.2.1, by decide⟩ ?_
 refine Ak ⟨_, _, Tryz.func177, x_node_layout.2.1, by decide⟩ ?_
 refine Ak ⟨_, _, Tryz.func178, x_node_Check.2.1, by decide⟩ ?_
 refine Ak ⟨_, _, Tryz.func179, x_crc_Sum.2.1, by decide⟩ ?_
 refine Ak ⟨_, _, Tryz.func184, x_crc_Good.2.1, by decide⟩ ?_
 refine Ak ⟨_, _, Tryz.func185, x_le_Get.2.1, by decide⟩ ?_
 refine Ak ⟨_, _, Tryz.func186, x_le_Zeros.2.1, by decide⟩ ?_
 refine Ak ⟨_, _, Tryz.func187, x_node_Pointer.2.1, by decide⟩ ?_
 refine Ak ⟨_, _, Tryz.func188, x_record_Parents.2.1, by decide⟩ ?_
 refine Ak ⟨_, _, Tryz.func189, x_record_in.2.1, by decide⟩ ?_
 refine Ak ⟨_, _, Tryz.func190, x_slices_Grow___int_int_.2.1, by decide⟩ ?_
 refine Ak ⟨_, _, Tryz.func191, x_alloc_right_1.2.1, by decide⟩ ?_
 refine Ak ⟨_, _, Tryz.func192, x_ref01_Good.2.1, by decide⟩ ?_
 refine Ak ⟨_, _, Tryz.func193, x_ref01_Number.2.1, by decide⟩ ?_
 refine Ak ⟨_, _, Tryz.func194, x_ref01_link.2.1, by decide⟩ ?_
 refine Ak ⟨_, _, Tryz.func195, x_ref01_More.2.1, by decide⟩ ?_
 refine Ak ⟨_, _, Tryz.func196, x_crc_More.2.1, by decide⟩ ?_
 refine Ak ⟨_, _, Tryz.func202, x_le_right.2.1, by decide⟩ ?_
 refine Ak ⟨_, _, Tryz.func203, x_le_within.2.1, by decide⟩ ?_
 exact gV
theorem Ayc : B Aym = some law27_CrashExact := rfl
theorem Bgd : B Bck = some Bbe := rfl
theorem Bek : B Bbh = some Bbr := rfl
theorem uE : B Rl = some aW := rfl
theorem Bjc : B Bfl = some keep_Ios := rfl
theorem zX : B Wu = some keep_Bytes := rfl
theorem Bfs : B Bbb = some keep_TwinIos := rfl
theorem Bci : B Ayx = some Azo := rfl
theorem Baz : B Ayt = some crash_States := rfl
theorem Bav : B Ayz = some Ayy := rfl
theorem Bfx : B Bcg = some ref01_Steps := rfl
theorem Abu : B mQ = some lD := rfl
theorem Bgg : B Bbx = some Bbg := rfl
theorem Bgs : B Bdj = some Bcu := rfl
theorem Bgf : B Bcb = some ref01_Crash := rfl
theorem Bfy : B Bbz = some ref01_Apply := rfl
theorem Bgt : B Bcz = some keep_Views := rfl
theorem Acq : B Uq = some dev_Apply := rfl
theorem Alh : B vF = some view_Of := rfl
theorem Aab : B iI = some keep_Snaps := rfl
theorem Ach : B mL = some keep_Rows := rfl
theorem Ahx : B Xg = some pI := rfl
theorem Beh : B Bay = some dev_Crash := rfl
theorem mD : B Uk = some open_Look := rfl
theorem uN : B dF = some aL := rfl
theorem Aac : B Xz = some dV := rfl
theorem tB : B Pr = some Wx := rfl
theorem Zu : B Zf = some commit_Steps := rfl
theorem Bhn : B Bdc = some ref10_Open := rfl
theorem Bil : B Bct = some Bfb := rfl
theorem Adu : B mC = some kY := rfl
theorem Bco : B Azt = some dev_Flushes := rfl
theorem Bez : B Ayf = some Bae := rfl
theorem Bim : B Bcw = some Bfg := rfl
theorem Bhs : B Bdn = some ref10_View := rfl
theorem Abj : B Vt = some Aag := rfl
theorem pK : B Zo = some view_sectors := rfl
theorem xX : B iO = some eQ := rfl
theorem Acw : B lQ = some lH := rfl
theorem uS : B Vc = some Zd := rfl
theorem Hd : B Dy = some Ef := rfl
theorem Aeh : B Ur = some kP := rfl
theorem zE : B Sq = some eC := rfl
theorem uI : B cU = some open_follow := rfl
theorem Ama : B kA = some Aar := rfl
theorem uT : B cQ = some bF := rfl
theorem Yx : B Qj = some __open_Image__clash := rfl
theorem Aeb : B Zt = some jF := rfl
theorem Gn : B Ck = some Dw := rfl
theorem nK : B Oc = some Uy := rfl
theorem lK : B Vy = some commit_Records := rfl
theorem Acn : B mP = some kC := rfl
theorem sP : B aG = some Wv := rfl
theorem It : B Dq = some Eu := rfl
theorem jX : B Nf = some To := rfl
theorem pG : B aN = some Xx := rfl
theorem Bhk : B Bdo = some Bcr := rfl
theorem Beo : B Bau = some ref10_Records := rfl
theorem Bgx : B Bdu = some ref10_Tree := rfl
theorem uO : B Rf = some aV := rfl
theorem Aev : B mZ = some kE := rfl
theorem Bel : B Bar = some ref10_Sectors := rfl
theorem Alx : B wT = some walk_Of := rfl
theorem uR : B dJ = some bI := rfl
theorem Aal : B iG = some eT := rfl
theorem uJ : B Uz = some aB := rfl
theorem Ly : B Cw = some Hk := rfl
theorem tP : B bH = some Xj := rfl
theorem cH : B Nk = some Pu := rfl
theorem Nl : B Kx = some Kn := rfl
theorem Kk : B Fo = some Ga := rfl
theorem Aew : B Rq = some jI := rfl
theorem nI : B Sb = some Va := rfl
theorem zQ : B iW = some commit_may := rfl
theorem Hr : B Cs = some Eo := rfl
theorem tK : B Qb = some Xe := rfl
theorem yP : B iY = some eG := rfl
theorem Jq : B Gp = some Fh := rfl
theorem Bcy : B Ayl = some Ayj := rfl
theorem Bfz : B Azs = some Bbi := rfl
theorem Bis : B Bfi = some Bfa := rfl
theorem Bih : B Bbc = some Bdz := rfl
theorem Bbt : B Azf = some Ayd := rfl
theorem Aya : B pZ = some pW := rfl
theorem Bdp : B Azq = some Ayk := rfl
theorem zK : B iE = some dW := rfl
theorem Aib : B pF = some qR := rfl
theorem Arr : B Bdh = some le_Set := rfl
theorem Afj : B eI = some tA := rfl
theorem zF : B iP = some eW := rfl
theorem Nh : B Ke = some Ix := rfl
theorem pL : B Tp = some Yd := rfl
theorem Yy : B Jw = some Nm := rfl
theorem Amx : B vM = some Aaq := rfl
theorem Lk : B Ip = some Gz := rfl
theorem qG : B Pg = some Yc := rfl
theorem Ms : B Mr = some Il := rfl
theorem oW : B Pc = some Wt := rfl
theorem qL : B Zr = some Xm := rfl
theorem uM : B cW = some Zv := rfl
theorem Bhb : B Bda = some Bcs := rfl
theorem Bdr : B Bad = some Bai := rfl
theorem Bhr : B Bac = some Bcp := rfl
theorem Bfw : B Bch = some Bbn := rfl
theorem Bga : B Bbu = some Bbo := rfl
theorem Bfc : B Bbp = some Bak := rfl
theorem Bgw : B Bdl = some Bcx := rfl
theorem Bhw : B Bei = some Bdy := rfl
theorem zG : B gQ = some eN := rfl
theorem Alo : B kL = some zI := rfl
theorem Agl : B fC = some sU := rfl
theorem Aqh : B gP = some le_Get := rfl
theorem Ahz : B qV = some rR := rfl
theorem oP : B Tn = some Ya := rfl
theorem kT : B Ra = some Tx := rfl
theorem Abx : B mJ = some jY := rfl
theorem Ny : B Kr = some Jl := rfl
theorem nL : B Rz = some Ux := rfl
theorem Bdf : B Bah = some Bao := rfl
theorem Bfo : B Bax = some ref01_Number := rfl
theorem Bhj : B Bdm = some Bcv := rfl
theorem Bhe : B Bdb = some ref01_More := rfl
theorem Ago : B oM = some crc_More := rfl
theorem Ags : B sK = some tR := rfl
theorem Acy : B lZ = some jQ := rfl
end Go.Proofs.YtkaiiopoilpjeaaGreat

