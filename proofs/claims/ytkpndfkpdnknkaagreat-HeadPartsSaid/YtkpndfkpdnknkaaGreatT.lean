import Derived.Test.YtkpndfkpdnknkaaGreatMC
import Derived.KernelRfl
import Derived.Test.YtkpndfkpdnknkaaGreatProg
set_option maxRecDepth 100000
set_option maxHeartbeats 4000000
namespace Go.Proofs.YtkpndfkpdnknkaaGreat
open Go.AI
abbrev Ayv : Nat := 7
abbrev Yy : Nat := 11
abbrev dX : Nat := 12
abbrev Sb : Nat := 13
abbrev iP : Nat := 14
abbrev bL : Nat := 15
abbrev Yj : Nat := 16
abbrev eG : Nat := 17
abbrev eL : Nat := 18
abbrev oL : Nat := 20
abbrev xY : Nat := 30
abbrev Azg : Nat := 31
abbrev oF : Nat := 32
abbrev iV : Nat := 35
abbrev Wn : Nat := 36
abbrev cI : Nat := 37
abbrev Pi : Nat := 38
abbrev Qn : Nat := 39
abbrev nW : Nat := 40
abbrev Cx : Nat := 41
abbrev Xb : Nat := 42
abbrev jD : Nat := 43
abbrev Qo : Nat := 44
abbrev vK : Nat := 45
abbrev bK : Nat := 46
abbrev Lz : Nat := 47
abbrev Sr : Nat := 48
abbrev Wg : Nat := 58
abbrev cK : Nat := 59
abbrev Aza : Nat := 60
abbrev eS : Nat := 61
abbrev Ayw : Nat := 62
abbrev nO : Nat := 63
abbrev jV : Nat := 65
abbrev nX : Nat := 67
abbrev eC : Nat := 68
abbrev jT : Nat := 69
abbrev rT : Nat := 70
abbrev jY : Nat := 71
abbrev Tf : Nat := 72
abbrev oA : Nat := 73
abbrev aX : Nat := 74
abbrev Vv : Nat := 75
abbrev Dk : Nat := 76
abbrev Rt : Nat := 77
abbrev oP : Nat := 78
abbrev Tg : Nat := 79
abbrev bJ : Nat := 80
abbrev uN : Nat := 81
abbrev Jv : Nat := 82
abbrev Du : Nat := 83
abbrev To : Nat := 93
abbrev eK : Nat := 94
abbrev nC : Nat := 95
abbrev dY : Nat := 96
abbrev Qq : Nat := 97
abbrev kO : Nat := 98
abbrev Ayu : Nat := 99
abbrev yO : Nat := 100
abbrev tV : Nat := 101
abbrev kP : Nat := 102
abbrev fC : Nat := 103
abbrev iE : Nat := 105
abbrev iR : Nat := 106
abbrev iQ : Nat := 107
abbrev bR : Nat := 108
abbrev Na : Nat := 109
abbrev aG : Nat := 110
abbrev Gm : Nat := 111
abbrev aZ : Nat := 112
abbrev Wm : Nat := 122
abbrev Cv : Nat := 123
abbrev bZ : Nat := 124
abbrev Nm : Nat := 125
abbrev Lc : Nat := 126
abbrev Kl : Nat := 127
abbrev Sq : Nat := 128
abbrev Tc : Nat := 129
abbrev hJ : Nat := 130
abbrev lJ : Nat := 131
abbrev Wj : Nat := 132
abbrev So : Nat := 133
abbrev Ls : Nat := 134
abbrev Le : Nat := 135
abbrev eB : Nat := 136
abbrev iZ : Nat := 147
abbrev Kj : Nat := 148
abbrev pE : Nat := 149
abbrev bB : Nat := 150
abbrev Di : Nat := 151
abbrev Ke : Nat := 152
abbrev yS : Nat := 153
abbrev Tj : Nat := 154
abbrev Ln : Nat := 155
abbrev wL : Nat := 156
abbrev kQ : Nat := 157
abbrev rS : Nat := 158
abbrev jU : Nat := 159
abbrev Mf : Nat := 160
abbrev Hq : Nat := 161
abbrev kG : Nat := 162
abbrev Sx : Nat := 163
abbrev fP : Nat := 169
abbrev iJ : Nat := 170
abbrev tT : Nat := 171
abbrev Va : Nat := 172
abbrev Qz : Nat := 173
abbrev oM : Nat := 174
abbrev Es : Nat := 175
abbrev Uk : Nat := 176
abbrev Yz : Nat := 177
abbrev Jo : Nat := 178
abbrev Kb : Nat := 179
abbrev tY : Nat := 181
abbrev oR : Nat := 182
abbrev nS : Nat := 183
abbrev Gv : Nat := 184
abbrev Nf : Nat := 185
def x_law18_HeadParts : Bj Tryz.prog [(17, 5, ⟨0, .pure, false⟩), (18, 5, ⟨1, .pure, false⟩)] Tryz.f7 := Bv
def fO : SFun := x_law18_HeadParts.1
def x_open_New : Bj Tryz.prog [(3, 2, ⟨0, .pure, false⟩)] Tryz.f11 := Bv
def rO : SFun := x_open_New.1
def x_head_Resize : Bj Tryz.prog [(1, 1, ⟨0, (.inl 0), false⟩), (6, 2, ⟨0, (.inl 3), false⟩), (7, 3, ⟨0, (.inl 3), false⟩)] Tryz.f12 := Bv
def aT : SFun := x_head_Resize.1
def x_dev_Apply : Bj Tryz.prog [(4, 1, ⟨0, (.fresh 0), false⟩), (7, 2, ⟨1, .pure, false⟩), (9, 3, ⟨0, (.peek 2), false⟩)] Tryz.f13 := Bv
def dev_Apply : SFun := x_dev_Apply.1
def y_dev_Apply_l0 : Lp dev_Apply.code 0 := lpIt
def jG : SCode := y_dev_Apply_l0.1
def x_head_Write : Bj Tryz.prog [(1, 1, ⟨0, (.inl 0), false⟩), (6, 3, ⟨0, (.inl 3), false⟩), (7, 3, ⟨0, (.inl 3), false⟩)] Tryz.f14 := Bv
def fZ : SFun := x_head_Write.1
def x_head_Read : Bj Tryz.prog [(1, 1, ⟨0, (.inl 0), false⟩)] Tryz.f15 := Bv
def mC : SFun := x_head_Read.1
def x_keep_Bytes : Bj Tryz.prog [] Tryz.f16 := Bv
def keep_Bytes : SFun := x_keep_Bytes.1
def y_keep_Bytes_l0 : Lp keep_Bytes.code 0 := lpIt
def eJ : SCode := y_keep_Bytes_l0.1
def x_law18_wakes : Bj Tryz.prog [(4, 0, ⟨0, .pure, false⟩)] Tryz.f17 := Bv
def bW : SFun := x_law18_wakes.1
def x_law05_Heavy : Bj Tryz.prog [] Tryz.f18 := Bv
def cC : SFun := x_law05_Heavy.1
def x_head_Zero : Bj Tryz.prog [(1, 1, ⟨0, (.inl 0), false⟩), (6, 5, ⟨0, (.inl 3), false⟩), (7, 3, ⟨0, (.inl 3), false⟩)] Tryz.f20 := Bv
def mU : SFun := x_head_Zero.1
def x_view_Of : Bj Tryz.prog [(0, 0, ⟨0, .pure, false⟩), (4, 18, ⟨1, .pure, false⟩), (7, 3, ⟨2, .pure, false⟩), (8, 24, ⟨3, .pure, false⟩), (10, 3, ⟨4, .pure, false⟩), (10, 4, ⟨5, .pure, false⟩), (11, 3, ⟨6, .pure, false⟩), (11, 4, ⟨7, .pure, false⟩)] Tryz.f30 := Bv
def view_Of : SFun := x_view_Of.1
def y_view_Of_l0 : Lp view_Of.code 0 := lpIt
def uB : SCode := y_view_Of_l0.1
def x_view_Same : Bj Tryz.prog [(0, 0, ⟨0, .pure, false⟩), (0, 1, ⟨1, .pure, false⟩)] Tryz.f31 := Bv
def Azd : SFun := x_view_Same.1
def x_keep_View : Bj Tryz.prog [(0, 0, ⟨0, .pure, false⟩), (0, 1, ⟨1, .pure, false⟩)] Tryz.f32 := Bv
def lE : SFun := x_keep_View.1
def x_keep_Snaps : Bj Tryz.prog [] Tryz.f35 := Bv
def keep_Snaps : SFun := x_keep_Snaps.1
def y_keep_Snaps_l0 : Lp keep_Snaps.code 0 := lpIt
def eE : SCode := y_keep_Snaps_l0.1
def x_super_Bytes : Bj Tryz.prog [(0, 0, ⟨0, .pure, false⟩), (4, 11, ⟨1, .pure, false⟩)] Tryz.f36 := Bv
def cB : SFun := x_super_Bytes.1
def x_head_look : Bj Tryz.prog [(4, 16, ⟨0, (.inl 0), false⟩)] Tryz.f37 := Bv
def dH : SFun := x_head_look.1
def x___head_Stage__Resize : Bj Tryz.prog [(0, 2, ⟨0, (.inl 0), false⟩)] Tryz.f38 := Bv
def Mu : SFun := x___head_Stage__Resize.1
def x___head_Stage__makes : Bj Tryz.prog [(1, 5, ⟨0, .pure, false⟩), (4, 7, ⟨0, (.inl 1), false⟩)] Tryz.f39 := Bv
def Jj : SFun := x___head_Stage__makes.1
def x_dev_Steps : Bj Tryz.prog [(1, 5, ⟨0, .pure, false⟩)] Tryz.f40 := Bv
def nE : SFun := x_dev_Steps.1
def x_slices_Clone___byte_byte_ : Bj Tryz.prog [(0, 0, ⟨0, .pure, true⟩), (2, 0, ⟨1, .pure, true⟩), (3, 2, ⟨2, .pure, false⟩)] Tryz.f41 := Bv
def slices_Clone___byte_byte_ : SFun := x_slices_Clone___byte_byte_.1
def x_dev_Of : Bj Tryz.prog [] Tryz.f42 := Bv
def Aaa : SFun := x_dev_Of.1
def x_head_Whole : Bj Tryz.prog [] Tryz.f43 := Bv
def fF : SFun := x_head_Whole.1
def x___head_Stage__Write : Bj Tryz.prog [(3, 4, ⟨0, (.inl 0), false⟩), (4, 9, ⟨0, (.peek 0), false⟩)] Tryz.f44 := Bv
def __head_Stage__Write : SFun := x___head_Stage__Write.1
def y___head_Stage__Write_l0 : Lp __head_Stage__Write.code 0 := lpIt
def Py : SCode := y___head_Stage__Write_l0.1
def x_head_May : Bj Tryz.prog [] Tryz.f45 := Bv
def uX : SFun := x_head_May.1
def x_view_Sectors : Bj Tryz.prog [] Tryz.f46 := Bv
def Yx : SFun := x_view_Sectors.1
def x_slices_Concat___byte_byte_ : Bj Tryz.prog [(0, 0, ⟨0, .pure, true⟩), (9, 1, ⟨0, (.inl 1), false⟩), (13, 2, ⟨3, .pure, false⟩)] Tryz.f47 := Bv
def slices_Concat___byte_byte_ : SFun := x_slices_Concat___byte_byte_.1
def y_slices_Concat___byte_byte__l0 : Lp slices_Concat___byte_byte_.code 0 := lpIt
def Lk : SCode := y_slices_Concat___byte_byte__l0.1
def y_slices_Concat___byte_byte__l1 : Lp slices_Concat___byte_byte_.code 1 := lpIt
def Ll : SCode := y_slices_Concat___byte_byte__l1.1
def x___head_Stage__Zero : Bj Tryz.prog [(3, 2, ⟨0, (.inl 0), false⟩)] Tryz.f48 := Bv
def __head_Stage__Zero : SFun := x___head_Stage__Zero.1
def y___head_Stage__Zero_l0 : Lp __head_Stage__Zero.code 0 := lpIt
def Qp : SCode := y___head_Stage__Zero_l0.1
def x_open_Look : Bj Tryz.prog [(4, 1, ⟨0, .pure, false⟩), (12, 6, ⟨1, .pure, false⟩), (12, 13, ⟨2, .pure, false⟩), (15, 2, ⟨3, .pure, false⟩), (16, 3, ⟨4, .pure, false⟩), (16, 4, ⟨5, .pure, false⟩), (16, 8, ⟨6, .pure, false⟩), (16, 9, ⟨7, .pure, false⟩), (24, 6, ⟨8, .pure, false⟩), (24, 7, ⟨9, .pure, false⟩)] Tryz.f58 := Bv
def open_Look : SFun := x_open_Look.1
def y_open_Look_l0 : Lp open_Look.code 0 := lpIt
def kA : SCode := y_open_Look_l0.1
def y_open_Look_l1 : Lp open_Look.code 1 := lpIt
def kF : SCode := y_open_Look_l1.1
def x_view_sectors : Bj Tryz.prog [(0, 0, ⟨0, .pure, true⟩), (1, 0, ⟨1, .pure, true⟩), (5, 0, ⟨2, .pure, false⟩), (7, 3, ⟨0, (.inl 3), false⟩), (8, 2, ⟨3, .pure, false⟩), (8, 3, ⟨4, .pure, false⟩)] Tryz.f59 := Bv
def view_sectors : SFun := x_view_sectors.1
def y_view_sectors_l0 : Lp view_sectors.code 0 := lpIt
def Zp : SCode := y_view_sectors_l0.1
def x_view_Alike : Bj Tryz.prog [] Tryz.f60 := Bv
def Ayy : SFun := x_view_Alike.1
def x_slices_EqualFunc___api_Snap___api_Snap_api_Snap_api_Snap_ : Bj Tryz.prog [(5, 3, ⟨0, .pure, false⟩), (6, 4, ⟨1, .pure, false⟩)] Tryz.f61 := Bv
def slices_EqualFunc___api_Snap___api_Snap_api_Snap_api_Snap_ : SFun := x_slices_EqualFunc___api_Snap___api_Snap_api_Snap_api_Snap_.1
def y_slices_EqualFunc___api_Snap___api_Snap_api_Snap_api_Snap__l0 : Lp slices_EqualFunc___api_Snap___api_Snap_api_Snap_api_Snap_.code 0 := lpIt
def eO : SCode := y_slices_EqualFunc___api_Snap___api_Snap_api_Snap_api_Snap__l0.1
def x_view_snap : Bj Tryz.prog [(0, 0, ⟨0, .pure, false⟩), (0, 1, ⟨1, .pure, false⟩)] Tryz.f62 := Bv
def Azf : SFun := x_view_snap.1
def x_keep_Rows : Bj Tryz.prog [] Tryz.f63 := Bv
def keep_Rows : SFun := x_keep_Rows.1
def y_keep_Rows_l0 : Lp keep_Rows.code 0 := lpIt
def gY : SCode := y_keep_Rows_l0.1
def x_alloc_free : Bj Tryz.prog [(0, 0, ⟨0, .pure, true⟩), (1, 0, ⟨1, .pure, true⟩), (6, 2, ⟨2, .pure, false⟩), (6, 3, ⟨3, .pure, false⟩)] Tryz.f65 := Bv
def fU : SFun := x_alloc_free.1
def x_keep_Snap : Bj Tryz.prog [(0, 0, ⟨0, .pure, false⟩), (0, 1, ⟨1, .pure, false⟩)] Tryz.f67 := Bv
def mY : SFun := x_keep_Snap.1
def x_super_Check : Bj Tryz.prog [(0, 0, ⟨0, .pure, false⟩)] Tryz.f68 := Bv
def bU : SFun := x_super_Check.1
def x_super_Make : Bj Tryz.prog [(1, 0, ⟨0, .pure, false⟩), (5, 3, ⟨1, .pure, false⟩), (6, 9, ⟨0, (.inl 2), false⟩), (8, 1, ⟨0, (.inl 2), false⟩)] Tryz.f69 := Bv
def fK : SFun := x_super_Make.1
def x_super_layout : Bj Tryz.prog [(1, 0, ⟨0, .pure, false⟩)] Tryz.f70 := Bv
def Ach : SFun := x_super_layout.1
def x_head_Begin : Bj Tryz.prog [(1, 1, ⟨0, (.fresh 0), false⟩), (1, 3, ⟨1, .pure, false⟩), (1, 5, ⟨2, .pure, false⟩)] Tryz.f71 := Bv
def gA : SFun := x_head_Begin.1
def x___head_Stage__Lay : Bj Tryz.prog [(0, 1, ⟨0, .pure, true⟩), (0, 2, ⟨1, .pure, true⟩), (3, 2, ⟨2, .pure, true⟩), (3, 3, ⟨3, .pure, true⟩), (4, 4, ⟨0, (.fresh 4), false⟩), (11, 7, ⟨5, .pure, false⟩), (11, 8, ⟨6, .pure, false⟩), (15, 2, ⟨7, .pure, true⟩), (15, 3, ⟨8, .pure, true⟩), (16, 3, ⟨9, .pure, false⟩)] Tryz.f72 := Bv
def __head_Stage__Lay : SFun := x___head_Stage__Lay.1
def y___head_Stage__Lay_l0 : Lp __head_Stage__Lay.code 0 := lpIt
def Sm : SCode := y___head_Stage__Lay_l0.1
def x_head_Free : Bj Tryz.prog [] Tryz.f73 := Bv
def mJ : SFun := x_head_Free.1
def x_commit_Steps : Bj Tryz.prog [(0, 0, ⟨0, .pure, false⟩), (0, 1, ⟨1, .pure, true⟩), (2, 0, ⟨2, .pure, true⟩), (3, 11, ⟨3, .pure, false⟩), (6, 0, ⟨4, .pure, true⟩), (7, 0, ⟨5, .pure, true⟩), (10, 2, ⟨6, .pure, false⟩), (11, 7, ⟨7, .pure, false⟩), (11, 8, ⟨8, .pure, false⟩), (13, 1, ⟨9, .pure, false⟩), (14, 8, ⟨10, .pure, false⟩), (14, 9, ⟨11, .pure, false⟩)] Tryz.f74 := Bv
def commit_Steps : SFun := x_commit_Steps.1
def y_commit_Steps_l0 : Lp commit_Steps.code 0 := lpIt
def Zt : SCode := y_commit_Steps_l0.1
def x_dev_Check : Bj Tryz.prog [] Tryz.f75 := Bv
def kY : SFun := x_dev_Check.1
def x_slices_ContainsFunc___api_Io_api_Io_ : Bj Tryz.prog [] Tryz.f76 := Bv
def Ep : SFun := x_slices_ContainsFunc___api_Io_api_Io_.1
def x_dev_Steps_1 : Bj Tryz.prog [(0, 0, ⟨0, .pure, false⟩)] Tryz.f77 := Bv
def cF : SFun := x_dev_Steps_1.1
def x_dev_right : Bj Tryz.prog [(0, 0, ⟨0, .pure, false⟩)] Tryz.f78 := Bv
def mF : SFun := x_dev_right.1
def x___head_Stage__Put : Bj Tryz.prog [] Tryz.f79 := Bv
def Pd : SFun := x___head_Stage__Put.1
def x_frame_Within : Bj Tryz.prog [] Tryz.f80 := Bv
def Ys : SFun := x_frame_Within.1
def x_tree_Map : Bj Tryz.prog [] Tryz.f81 := Bv
def sV : SFun := x_tree_Map.1
def x_slices_Grow___byte_byte_ : Bj Tryz.prog [(0, 0, ⟨0, .pure, true⟩), (5, 5, ⟨1, .pure, false⟩)] Tryz.f82 := Bv
def Ih : SFun := x_slices_Grow___byte_byte_.1
def x_slices_Clone___int_int_ : Bj Tryz.prog [(0, 0, ⟨0, .pure, true⟩), (2, 0, ⟨1, .pure, true⟩), (3, 2, ⟨2, .pure, false⟩)] Tryz.f83 := Bv
def slices_Clone___int_int_ : SFun := x_slices_Clone___int_int_.1
def x_super_Pick : Bj Tryz.prog [(0, 0, ⟨0, .pure, false⟩), (8, 2, ⟨0, (.inl 1), false⟩), (8, 7, ⟨1, .pure, false⟩)] Tryz.f93 := Bv
def fV : SFun := x_super_Pick.1
def x_open_follow : Bj Tryz.prog [(2, 1, ⟨0, .pure, false⟩), (8, 2, ⟨0, (.inl 1), false⟩), (8, 7, ⟨1, .pure, false⟩), (13, 8, ⟨2, .pure, false⟩), (13, 9, ⟨3, .pure, false⟩), (13, 15, ⟨4, .pure, false⟩), (13, 16, ⟨5, .pure, false⟩)] Tryz.f94 := Bv
def open_follow : SFun := x_open_follow.1
def y_open_follow_l0 : Lp open_follow.code 0 := lpIt
def aU : SCode := y_open_follow_l0.1
def x_tree_Go : Bj Tryz.prog [(2, 2, ⟨0, .pure, false⟩), (2, 4, ⟨1, .pure, false⟩), (2, 5, ⟨2, .pure, false⟩), (5, 2, ⟨0, (.inl 3), false⟩)] Tryz.f95 := Bv
def Aax : SFun := x_tree_Go.1
def x_open_beyond : Bj Tryz.prog [] Tryz.f96 := Bv
def bT : SFun := x_open_beyond.1
def x___open_Image__clash : Bj Tryz.prog [(1, 1, ⟨0, .pure, false⟩), (1, 3, ⟨1, .pure, false⟩), (1, 5, ⟨2, .pure, false⟩), (1, 7, ⟨3, .pure, false⟩)] Tryz.f97 := Bv
def __open_Image__clash : SFun := x___open_Image__clash.1
def y___open_Image__clash_l0 : Lp __open_Image__clash.code 0 := lpIt
def Pn : SCode := y___open_Image__clash_l0.1
def y___open_Image__clash_l1 : Lp __open_Image__clash.code 1 := lpIt
def Px : SCode := y___open_Image__clash_l1.1
def y___open_Image__clash_l2 : Lp __open_Image__clash.code 2 := lpIt
def Ph : SCode := y___open_Image__clash_l2.1
def y___open_Image__clash_l3 : Lp __open_Image__clash.code 3 := lpIt
def Pf : SCode := y___open_Image__clash_l3.1
def y___open_Image__clash_l4 : Lp __open_Image__clash.code 4 := lpIt
def Pk : SCode := y___open_Image__clash_l4.1
def x_slices_EqualFunc_____byte_____byte___byte___byte_ : Bj Tryz.prog [] Tryz.f98 := Bv
def slices_EqualFunc_____byte_____byte___byte___byte_ : SFun := x_slices_EqualFunc_____byte_____byte___byte___byte_.1
def y_slices_EqualFunc_____byte_____byte___byte___byte__l0 : Lp slices_EqualFunc_____byte_____byte___byte___byte_.code 0 := lpIt
def fS : SCode := y_slices_EqualFunc_____byte_____byte___byte___byte__l0.1
def x_bytes_Equal : Bj Tryz.prog [] Tryz.f99 := Bv
def Ayx : SFun := x_bytes_Equal.1
def x_walk_Of : Bj Tryz.prog [(0, 0, ⟨0, .pure, true⟩), (2, 1, ⟨1, .pure, false⟩), (13, 6, ⟨2, .pure, false⟩), (16, 2, ⟨3, .pure, false⟩), (17, 3, ⟨4, .pure, false⟩), (17, 4, ⟨5, .pure, false⟩), (19, 1, ⟨6, .pure, false⟩), (30, 2, ⟨0, (.inl 7), false⟩), (30, 7, ⟨7, .pure, false⟩)] Tryz.f100 := Bv
def walk_Of : SFun := x_walk_Of.1
def y_walk_Of_l0 : Lp walk_Of.code 0 := lpIt
def sL : SCode := y_walk_Of_l0.1
def y_walk_Of_l1 : Lp walk_Of.code 1 := lpIt
def sG : SCode := y_walk_Of_l1.1
def y_walk_Of_l2 : Lp walk_Of.code 2 := lpIt
def vM : SCode := y_walk_Of_l2.1
def y_walk_Of_l3 : Lp walk_Of.code 3 := lpIt
def rG : SCode := y_walk_Of_l3.1
def y_walk_Of_l4 : Lp walk_Of.code 4 := lpIt
def uS : SCode := y_walk_Of_l4.1
def y_walk_Of_l5 : Lp walk_Of.code 5 := lpIt
def rD : SCode := y_walk_Of_l5.1
def x_super_in : Bj Tryz.prog [] Tryz.f101 := Bv
def sY : SFun := x_super_in.1
def x_le_Set : Bj Tryz.prog [] Tryz.f102 := Bv
def le_Set : SFun := x_le_Set.1
def y_le_Set_l0 : Lp le_Set.code 0 := lpIt
def zO : SCode := y_le_Set_l0.1
def x_crc_Seal : Bj Tryz.prog [(1, 6, ⟨0, (.inl 0), false⟩)] Tryz.f103 := Bv
def vD : SFun := x_crc_Seal.1
def x_super_Layout : Bj Tryz.prog [(0, 0, ⟨0, .pure, true⟩), (1, 0, ⟨1, .pure, true⟩), (6, 4, ⟨2, .pure, false⟩), (6, 5, ⟨3, .pure, false⟩)] Tryz.f104 := Bv
def Aca : SFun := x_super_Layout.1
def x_alloc_Take : Bj Tryz.prog [] Tryz.f105 := Bv
def gC : SFun := x_alloc_Take.1
def x_build_Tree : Bj Tryz.prog [(1, 3, ⟨0, (.inl 0), false⟩), (8, 5, ⟨0, (.inl 31), false⟩)] Tryz.f106 := Bv
def gD : SFun := x_build_Tree.1
def x_alloc_Free : Bj Tryz.prog [] Tryz.f107 := Bv
def gE : SFun := x_alloc_Free.1
def x_commit_ready : Bj Tryz.prog [(0, 0, ⟨0, .pure, false⟩)] Tryz.f108 := Bv
def Yt : SFun := x_commit_ready.1
def x_commit_Steps_1 : Bj Tryz.prog [(0, 0, ⟨0, .pure, false⟩)] Tryz.f109 := Bv
def Un : SFun := x_commit_Steps_1.1
def x_commit_write : Bj Tryz.prog [(0, 0, ⟨0, .pure, false⟩)] Tryz.f110 := Bv
def Yv : SFun := x_commit_write.1
def x_slices_IndexFunc___api_Io_api_Io_ : Bj Tryz.prog [] Tryz.f111 := Bv
def Fc : SFun := x_slices_IndexFunc___api_Io_api_Io_.1
def x_tree_checked : Bj Tryz.prog [] Tryz.f112 := Bv
def Zh : SFun := x_tree_checked.1
def x_super_Parse : Bj Tryz.prog [(0, 0, ⟨0, .pure, false⟩), (4, 16, ⟨1, .pure, false⟩)] Tryz.f122 := Bv
def bD : SFun := x_super_Parse.1
def x_slices_Contains___int_int_ : Bj Tryz.prog [] Tryz.f123 := Bv
def Hf : SFun := x_slices_Contains___int_int_.1
def x_record_Parse : Bj Tryz.prog [(0, 0, ⟨0, .pure, false⟩), (4, 25, ⟨1, .pure, false⟩)] Tryz.f124 := Bv
def Zm : SFun := x_record_Parse.1
def x___open_chain__may : Bj Tryz.prog [(0, 0, ⟨0, .pure, false⟩)] Tryz.f125 := Bv
def Qe : SFun := x___open_chain__may.1
def x___tree_Walk__goes : Bj Tryz.prog [(0, 14, ⟨0, .pure, false⟩), (3, 6, ⟨1, .pure, false⟩), (3, 7, ⟨2, .pure, false⟩), (14, 5, ⟨0, (.inl 3), false⟩)] Tryz.f126 := Bv
def Ks : SFun := x___tree_Walk__goes.1
def x_slices_ContainsFunc___int_int_ : Bj Tryz.prog [] Tryz.f127 := Bv
def Hx : SFun := x_slices_ContainsFunc___int_int_.1
def x_tree_Go_1 : Bj Tryz.prog [] Tryz.f128 := Bv
def mO : SFun := x_tree_Go_1.1
def x_open_beyond_1 : Bj Tryz.prog [] Tryz.f129 := Bv
def Wk : SFun := x_open_beyond_1.1
def x_node_Parse : Bj Tryz.prog [(0, 0, ⟨0, .pure, false⟩), (4, 4, ⟨1, .pure, true⟩)] Tryz.f130 := Bv
def gN : SFun := x_node_Parse.1
def x_crc_Sum : Bj Tryz.prog [] Tryz.f131 := Bv
def Abv : SFun := x_crc_Sum.1
def x_build_begin : Bj Tryz.prog [(4, 3, ⟨0, .pure, false⟩), (10, 2, ⟨0, (.inl 1), false⟩)] Tryz.f132 := Bv
def bC : SFun := x_build_begin.1
def x___build_maker__may : Bj Tryz.prog [] Tryz.f133 := Bv
def __build_maker__may : SFun := x___build_maker__may.1
def y___build_maker__may_l0 : Lp __build_maker__may.code 0 := lpIt
def Qr : SCode := y___build_maker__may_l0.1
def x___build_maker__needs : Bj Tryz.prog [] Tryz.f134 := Bv
def Mp : SFun := x___build_maker__needs.1
def x___build_maker__writes : Bj Tryz.prog [(0, 0, ⟨0, .pure, true⟩), (1, 0, ⟨1, .pure, true⟩), (7, 2, ⟨2, .pure, true⟩), (8, 5, ⟨0, (.inl 3), false⟩), (10, 4, ⟨3, .pure, false⟩), (10, 5, ⟨4, .pure, false⟩)] Tryz.f135 := Bv
def __build_maker__writes : SFun := x___build_maker__writes.1
def y___build_maker__writes_l0 : Lp __build_maker__writes.code 0 := lpIt
def Nt : SCode := y___build_maker__writes_l0.1
def x_alloc_right : Bj Tryz.prog [] Tryz.f136 := Bv
def bH : SFun := x_alloc_right.1
def x_super_Read : Bj Tryz.prog [(0, 0, ⟨0, .pure, true⟩), (2, 0, ⟨1, .pure, true⟩), (4, 0, ⟨2, .pure, true⟩), (6, 0, ⟨3, .pure, true⟩), (7, 0, ⟨4, .pure, true⟩), (11, 2, ⟨5, .pure, false⟩), (14, 0, ⟨6, .pure, true⟩), (15, 2, ⟨7, .pure, false⟩), (15, 3, ⟨8, .pure, false⟩), (19, 0, ⟨9, .pure, true⟩)] Tryz.f147 := Bv
def gM : SFun := x_super_Read.1
def x_slices_Index___int_int_ : Bj Tryz.prog [] Tryz.f148 := Bv
def It : SFun := x_slices_Index___int_int_.1
def x_record_layout : Bj Tryz.prog [(1, 0, ⟨0, .pure, false⟩)] Tryz.f149 := Bv
def wS : SFun := x_record_layout.1
def x_record_Check : Bj Tryz.prog [(0, 0, ⟨0, .pure, false⟩)] Tryz.f150 := Bv
def Yn : SFun := x_record_Check.1
def x_slices_ContainsFunc___api_Record_api_Record_ : Bj Tryz.prog [] Tryz.f151 := Bv
def Dr : SFun := x_slices_ContainsFunc___api_Record_api_Record_.1
def x___open_chain__may_1 : Bj Tryz.prog [(0, 0, ⟨0, .pure, false⟩)] Tryz.f152 := Bv
def Nj : SFun := x___open_chain__may_1.1
def x_tree_At : Bj Tryz.prog [(0, 0, ⟨0, .pure, false⟩), (3, 2, ⟨0, (.inl 1), false⟩), (3, 7, ⟨1, .pure, false⟩)] Tryz.f153 := Bv
def Abx : SFun := x_tree_At.1
def x_node_Under : Bj Tryz.prog [] Tryz.f154 := Bv
def Aiw : SFun := x_node_Under.1
def x_slices_IndexFunc___int_int_ : Bj Tryz.prog [] Tryz.f155 := Bv
def Jm : SFun := x_slices_IndexFunc___int_int_.1
def x_node_layout : Bj Tryz.prog [(1, 0, ⟨0, .pure, false⟩)] Tryz.f156 := Bv
def Agt : SFun := x_node_layout.1
def x_node_Check : Bj Tryz.prog [(0, 0, ⟨0, .pure, false⟩)] Tryz.f157 := Bv
def fH : SFun := x_node_Check.1
def x_crc_More : Bj Tryz.prog [] Tryz.f158 := Bv
def crc_More : SFun := x_crc_More.1
def y_crc_More_l0 : Lp crc_More.code 0 := lpIt
def nY : SCode := y_crc_More_l0.1
def y_crc_More_l1 : Lp crc_More.code 1 := lpIt
def nQ : SCode := y_crc_More_l1.1
def x_tree_Check : Bj Tryz.prog [(0, 0, ⟨0, .pure, false⟩)] Tryz.f159 := Bv
def fJ : SFun := x_tree_Check.1
def x___build_maker__plan : Bj Tryz.prog [(3, 4, ⟨0, .pure, true⟩), (4, 4, ⟨12, .pure, true⟩), (6, 2, ⟨0, (.inl 24), false⟩), (16, 7, ⟨28, .pure, false⟩), (16, 8, ⟨29, .pure, false⟩)] Tryz.f160 := Bv
def __build_maker__plan : SFun := x___build_maker__plan.1
def y___build_maker__plan_l0 : Lp __build_maker__plan.code 0 := lpIt
def Hd : SCode := y___build_maker__plan_l0.1
def y___build_maker__plan_l1 : Lp __build_maker__plan.code 1 := lpIt
def Ga : SCode := y___build_maker__plan_l1.1
def y___build_maker__plan_l2 : Lp __build_maker__plan.code 2 := lpIt
def Hi : SCode := y___build_maker__plan_l2.1
def x___build_maker__pointers : Bj Tryz.prog [] Tryz.f161 := Bv
def Gy : SFun := x___build_maker__pointers.1
def x_node_Bytes : Bj Tryz.prog [(0, 0, ⟨0, .pure, true⟩), (0, 1, ⟨1, .pure, true⟩), (3, 1, ⟨2, .pure, true⟩), (4, 3, ⟨3, .pure, false⟩), (4, 6, ⟨4, .pure, false⟩)] Tryz.f162 := Bv
def fX : SFun := x_node_Bytes.1
def x_alloc_right_1 : Bj Tryz.prog [] Tryz.f163 := Bv
def Wq : SFun := x_alloc_right_1.1
def x_crc_Good : Bj Tryz.prog [] Tryz.f169 := Bv
def uE : SFun := x_crc_Good.1
def x_le_Get : Bj Tryz.prog [] Tryz.f170 := Bv
def le_Get : SFun := x_le_Get.1
def y_le_Get_l0 : Lp le_Get.code 0 := lpIt
def lC : SCode := y_le_Get_l0.1
def x_le_Zeros : Bj Tryz.prog [] Tryz.f171 := Bv
def uW : SFun := x_le_Zeros.1
def x_node_Pointer : Bj Tryz.prog [] Tryz.f172 := Bv
def Yi : SFun := x_node_Pointer.1
def x_record_Parents : Bj Tryz.prog [] Tryz.f173 := Bv
def Ur : SFun := x_record_Parents.1
def x_record_in : Bj Tryz.prog [] Tryz.f174 := Bv
def mA : SFun := x_record_in.1
def x_slices_IndexFunc___api_Record_api_Record_ : Bj Tryz.prog [] Tryz.f175 := Bv
def Ec : SFun := x_slices_IndexFunc___api_Record_api_Record_.1
def x_tree_Check_1 : Bj Tryz.prog [] Tryz.f176 := Bv
def Ym : SFun := x_tree_Check_1.1
def x_build_many : Bj Tryz.prog [] Tryz.f177 := Bv
def Ahy : SFun := x_build_many.1
def x___build_maker__learn : Bj Tryz.prog [(3, 14, ⟨0, .pure, false⟩), (7, 8, ⟨0, (.inl 1), false⟩)] Tryz.f178 := Bv
def Ik : SFun := x___build_maker__learn.1
def x___build_maker__kept : Bj Tryz.prog [] Tryz.f179 := Bv
def Jf : SFun := x___build_maker__kept.1
def x_le_right : Bj Tryz.prog [] Tryz.f181 := Bv
def tB : SFun := x_le_right.1
def x_le_within : Bj Tryz.prog [] Tryz.f182 := Bv
def nD : SFun := x_le_within.1
def x_ids_Check : Bj Tryz.prog [] Tryz.f183 := Bv
def mT : SFun := x_ids_Check.1
def x___build_maker__kept_1 : Bj Tryz.prog [] Tryz.f184 := Bv
def Mh : SFun := x___build_maker__kept_1.1
def x_slices_Equal___int_int_ : Bj Tryz.prog [] Tryz.f185 := Bv
def slices_Equal___int_int_ : SFun := x_slices_Equal___int_int_.1
def y_slices_Equal___int_int__l0 : Lp slices_Equal___int_int_.code 0 := lpIt
def Mv : SCode := y_slices_Equal___int_int__l0.1
def tab : List (Nat × SFun) := [(7, fO), (11, rO), (12, aT), (13, dev_Apply), (14, fZ), (15, mC), (16, keep_Bytes), (17, bW), (18, cC), (20, mU), (30, view_Of), (31, Azd), (32, lE), (35, keep_Snaps), (36, cB), (37, dH), (38, Mu), (39, Jj), (40, nE), (42, Aaa), (43, fF), (44, __head_Stage__Write), (45, uX), (46, Yx), (47, slices_Concat___byte_byte_), (48, __head_Stage__Zero), (58, open_Look), (59, view_sectors), (60, Ayy), (61, slices_EqualFunc___api_Snap___api_Snap_api_Snap_api_Snap_), (62, Azf), (63, keep_Rows), (65, fU), (67, mY), (68, bU), (69, fK), (70, Ach), (71, gA), (72, __head_Stage__Lay), (73, mJ), (74, commit_Steps), (75, kY), (76, Ep), (77, cF), (78, mF), (79, Pd), (80, Ys), (81, sV), (82, Ih), (93, fV), (94, open_follow), (95, Aax), (96, bT), (97, __open_Image__clash), (98, slices_EqualFunc_____byte_____byte___byte___byte_), (99, Ayx), (100, walk_Of), (101, sY), (102, le_Set), (103, vD), (104, Aca), (105, gC), (106, gD), (107, gE), (108, Yt), (109, Un), (110, Yv), (111, Fc), (112, Zh), (122, bD), (123, Hf), (124, Zm), (125, Qe), (126, Ks), (127, Hx), (128, mO), (129, Wk), (130, gN), (131, Abv), (132, bC), (133, __build_maker__may), (134, Mp), (135, __build_maker__writes), (136, bH), (147, gM), (148, It), (149, wS), (150, Yn), (151, Dr), (152, Nj), (153, Abx), (154, Aiw), (155, Jm), (156, Agt), (157, fH), (158, crc_More), (159, fJ), (160, __build_maker__plan), (161, Gy), (162, fX), (163, Wq), (169, uE), (170, le_Get), (171, uW), (172, Yi), (173, Ur), (174, mA), (175, Ec), (176, Ym), (177, Ahy), (178, Ik), (179, Jf), (181, tB), (182, nD), (183, mT), (184, Mh), (185, slices_Equal___int_int_)]
def B : Prog := Go.AI.look tab
theorem laid : Laid Tryz.prog (Go.AI.look tab) := by
 refine Ak ⟨_, _, Tryz.func7, x_law18_HeadParts.2.1, by decide⟩ ?_
 refine Ak ⟨_, _, Tryz.func11, x_open_New.2.1, by decide⟩ ?_
 refine Ak ⟨_, _, Tryz.func12, x_head_Resize.2.1, by decide⟩ ?_
 refine Ak ⟨_, _, Tryz.func13, x_dev_Apply.2.1, by decide⟩ ?_
 refine Ak ⟨_, _, Tryz.func14, x_head_Write.2.1, by decide⟩ ?_
 refine Ak ⟨_, _, Tryz.func15, x_head_Read.2.1, by decide⟩ ?_
 refine Ak ⟨_, _, Tryz.func16, x_keep_Bytes.2.1, by decide⟩ ?_
 refine Ak ⟨_, _, Tryz.func17, x_law18_wakes.2.1, by decide⟩ ?_
 refine Ak ⟨_, _, Tryz.func18, x_law05_Heavy.2.1, by decide⟩ ?_
 refine Ak ⟨_, _, Tryz.func20, x_head_Zero.2.1, by decide⟩ ?_
 refine Ak ⟨_, _, Tryz.func30, x_view_Of.2.1, by decide⟩ ?_
 refine Ak ⟨_, _, Tryz.func31, x_view_Same.2.1, by decide⟩ ?_
 refine Ak ⟨_, _, Tryz.func32, x_keep_View.2.1, by decide⟩ ?_
 refine Ak ⟨_, _, Tryz.func35, x_keep_Snaps.2.1, by decide⟩ ?_
 refine Ak ⟨_, _, Tryz.func36, x_super_Bytes.2.1, by decide⟩ ?_
 refine Ak ⟨_, _, Tryz.func37, x_head_look.2.1, by decide⟩ ?_
 refine Ak ⟨_, _, Tryz.func38, x___head_Stage__Resize.2.1, by decide⟩ ?_
 refine Ak ⟨_, _, Tryz.func39, x___head_Stage__makes.2.1, by decide⟩ ?_
 refine Ak ⟨_, _, Tryz.func40, x_dev_Steps.2.1, by decide⟩ ?_
 refine Ak ⟨_, _, Tryz.func42, x_dev_Of.2.1, by decide⟩ ?_
 refine Ak ⟨_, _, Tryz.func43, x_head_Whole.2.1, by decide⟩ ?_
 refine Ak ⟨_, _, Tryz.func44, x___head_Stage__Write.2.1, by decide⟩ ?_
 refine Ak ⟨_, _, Tryz.func45, x_head_May.2.1, by decide⟩ ?_
 refine Ak ⟨_, _, Tryz.func46, x_view_Sectors.2.1, by decide⟩ ?_
 refine Ak ⟨_, _, Tryz.func47, x_slices_Concat___byte_byte_.2.1, by decide⟩ ?_
 refine Ak ⟨_, _, Tryz.func48, x___head_Stage__Zero.2.1, by decide⟩ ?_
 refine Ak ⟨_, _, Tryz.func58, x_open_Look.2.1, by decide⟩ ?_
 refine Ak ⟨_, _, Tryz.func59, x_view_sectors.2.1, by decide⟩ ?_
 refine Ak ⟨_, _, Tryz.func60, x_view_Alike.2.1, by decide⟩ ?_
 refine Ak ⟨_, _, Tryz.func61, x_slices_EqualFunc___api_Snap___api_Snap_api_Snap_api_Snap_.2.1, by decide⟩ ?_
 refine Ak ⟨_, _, Tryz.func62, x_view_snap.2.1, by decide⟩ ?_
 refine Ak ⟨_, _, Tryz.func63, x_keep_Rows.2.1, by decide⟩ ?_
 refine Ak ⟨_, _, Tryz.func65, x_alloc_free.2.1, by decide⟩ ?_
 refine Ak ⟨_, _, Tryz.func67, x_keep_Snap.2.1, by decide⟩ ?_
 refine Ak ⟨_, _, Tryz.func68, x_super_Check.2.1, by decide⟩ ?_
 refine Ak ⟨_, _, Tryz.func69, x_super_Make.2.1, by decide⟩ ?_
 refine Ak ⟨_, _, Tryz.func70, x_super_layout.2.1, by decide⟩ ?_
 refine Ak ⟨_, _, Tryz.func71, x_head_Begin.2.1, by decide⟩ ?_
 refine Ak ⟨_, _, Tryz.func72, x___head_Stage__Lay.2.1, by decide⟩ ?_
 refine Ak ⟨_, _, Tryz.func73, x_head_Free.2.1, by decide⟩ ?_
 refine Ak ⟨_, _, Tryz.func74, x_commit_Steps.2.1, by decide⟩ ?_
 refine Ak ⟨_, _, Tryz.func75, x_dev_Check.2.1, by decide⟩ ?_
 refine Ak ⟨_, _, Tryz.func76, x_slices_ContainsFunc___api_Io_api_Io_.2.1, by decide⟩ ?_
 refine Ak ⟨_, _, Tryz.func77, x_dev_Steps_1.2.1, by decide⟩ ?_
 refine Ak ⟨_, _, Tryz.func78, x_dev_right.2.1, by decide⟩ ?_
 refine Ak ⟨_, _, Tryz.func79, x___head_Stage__Put.2.1, by decide⟩ ?_
 refine Ak ⟨_, _, Tryz.func80, x_frame_Within.2.1, by decide⟩ ?_
 refine Ak ⟨_, _, Tryz.func81, x_tree_Map.2.1, by decide⟩ ?_
 refine Ak ⟨_, _, Tryz.func82, x_slices_Grow___byte_byte_.2.1, by decide⟩ ?_
 refine Ak ⟨_, _, Tryz.func93, x_super_Pick.2.1, by decide⟩ ?_
 refine Ak ⟨_, _, Tryz.func94, x_open_follow.2.1, by decide⟩ ?_
 refine Ak ⟨_, _, Tryz.func95, x_tree_Go.2.1, by decide⟩ ?_
 refine Ak ⟨_, _, Tryz.func96, x_open_beyond.2.1, by decide⟩ ?_
 refine Ak ⟨_, _, Tryz.func97, x___open_Image__clash.2.1, by decide⟩ ?_
 refine Ak ⟨_, _, Tryz.func98, x_slices_EqualFunc_____byte_____byte___byte___byte_.2.1, by decide⟩ ?_
 refine Ak ⟨_, _, Tryz.func99, x_bytes_Equal.2.1, by decide⟩ ?_
 refine Ak ⟨_, _, Tryz.func100, x_walk_Of.2.1, by decide⟩ ?_
 refine Ak ⟨_, _, Tryz.func101, x_super_in.2.1, by decide⟩ ?_
 refine Ak ⟨_, _, Tryz.func102, x_le_Set.2.1, by decide⟩ ?_
 refine Ak ⟨_, _, Tryz.func103, x_crc_Seal.2.1, by decide⟩ ?_
 refine Ak ⟨_, _, Tryz.func104, x_super_Layout.2.1, by decide⟩ ?_
 refine Ak ⟨_, _, Tryz.func105, x_alloc_Take.2.1, by decide⟩ ?_
 refine Ak ⟨_, _, Tryz.func106, x_build_Tree.2.1, by decide⟩ ?_
 refine Ak ⟨_, _, Tryz.func107, x_alloc_Free.2.1, by decide⟩ ?_
 refine Ak ⟨_, _, Tryz.func108, x_commit_ready.2.1, by decide⟩ ?_
 refine Ak ⟨_, _, Tryz.func109, x_commit_Steps_1.2.1, by decide⟩ ?_
 refine Ak ⟨_, _, Tryz.func110, x_commit_write.2.1, by decide⟩ ?_
 refine Ak ⟨_, _, Tryz.func111, x_slices_IndexFunc___api_Io_api_Io_.2.1, by decide⟩ ?_
 refine Ak ⟨_, _, Tryz.func112, x_tree_checked.2.1, by decide⟩ ?_
 refine Ak ⟨_, _, Tryz.func122, x_super_Parse.2.1, by decide⟩ ?_
 refine Ak ⟨_, _, Tryz.func123, x_slices_Contains___int_int_.2.1, by decide⟩ ?_
 refine Ak ⟨_, _, Tryz.func124, x_record_Parse.2.1, by decide⟩ ?_
 refine Ak ⟨_, _, Tryz.func125, x___open_chain__may.2.1, by decide⟩ ?_
 refine Ak ⟨_, _, Tryz.func126, x___tree_Walk__goes.2.1, by decide⟩ ?_
 refine Ak ⟨_, _, Tryz.func127, x_slices_ContainsFunc___int_int_.2.1, by decide⟩ ?_
 refine Ak ⟨_, _, Tryz.func128, x_tree_Go_1.2.1, by decide⟩ ?_
 refine Ak ⟨_, _, Tryz.func129, x_open_beyond_1.2.1, by decide⟩ ?_
 refine Ak ⟨_, _, Tryz.func130, x_node_Parse.2.1, by decide⟩ ?_
 refine Ak ⟨_, _, Tryz.func131, x_crc_Sum.2.1, by decide⟩ ?_
 refine Ak ⟨_, _, Tryz.func132, x_build_begin.2.1, by decide⟩ ?_
 refine Ak ⟨_, _, Tryz.func133, x___build_maker__may.2.1, by decide⟩ ?_
 refine Ak ⟨_, _, Tryz.func134, x___build_maker__needs.2.1, by decide⟩ ?_
 refine Ak ⟨_, _, Tryz.func135, x___build_maker__writes.2.1, by decide⟩ ?_
 refine Ak ⟨_, _, Tryz.func136, x_alloc_right.2.1, by decide⟩ ?_
 refine Ak ⟨_, _, Tryz.func147, x_super_Read.2.1, by decide⟩ ?_
 refine Ak ⟨_, _, Tryz.func148, x_slices_Index___int_int_.2.1, by decide⟩ ?_
 refine Ak ⟨_, _, Tryz.func149, x_record_layout.2.1, by decide⟩ ?_
 refine Ak ⟨_, _, Tryz.func150, x_record_Check.2.1, by decide⟩ ?_
 refine Ak ⟨_, _, Tryz.func151, x_slices_ContainsFunc___api_Record_api_Record_.2.1, by decide⟩ ?_
 refine Ak ⟨_, _, Tryz.func152, x___open_chain__may_1.2.1, by decide⟩ ?_
 refine Ak ⟨_, _, Tryz.func153, x_tree_At.2.1, by decide⟩ ?_
 refine Ak ⟨_, _, Tryz.func154, x_node_Under.2.1, by decide⟩ ?_
 refine Ak ⟨_, _, Tryz.func155, x_slices_IndexFunc___int_int_.2.1, by decide⟩ ?_
 refine Ak ⟨_, _, Tryz.func156, x_node_layout.2.1, by decide⟩ ?_
 refine Ak ⟨_, _, Tryz.func157, x_node_Check.2.1, by decide⟩ ?_
 refine Ak ⟨_, _, Tryz.func158, x_crc_More.2.1, by decide⟩ ?_
 refine Ak ⟨_, _, Tryz.func159, x_tree_Check.2.1, by decide⟩ ?_
 refine Ak ⟨_, _, Tryz.func160, x___build_maker__plan.2.1, by decide⟩ ?_
 refine Ak ⟨_, _, Tryz.func161, x___build_maker__pointers.2.1, by decide⟩ ?_
 refine Ak ⟨_, _, Tryz.func162, x_node_Bytes.2.1, by decide⟩ ?_
 refine Ak ⟨_, _, Tryz.func163, x_alloc_right_1.2.1, by decide⟩ ?_
 refine Ak ⟨_, _, Tryz.func169, x_crc_Good.2.1, by decide⟩ ?_
 refine Ak ⟨_, _, Tryz.func170, x_le_Get.2.1, by decide⟩ ?_
 refine Ak ⟨_, _, Tryz.func171, x_le_Zeros.2.1, by decide⟩ ?_
 refine Ak ⟨_, _, Tryz.func172, x_node_Pointer.2.1, by decide⟩ ?_
 refine Ak ⟨_, _, Tryz.func173, x_record_Parents.2.1, by decide⟩ ?_
 refine Ak ⟨_, _, Tryz.func174, x_record_in.2.1, by decide⟩ ?_
 refine Ak ⟨_, _, Tryz.func175, x_slices_IndexFunc___api_Record_api_Record_.2.1, by decide⟩ ?_
 refine Ak ⟨_, _, Tryz.func176, x_tree_Check_1.2.1, by decide⟩ ?_
 refine Ak ⟨_, _, Tryz.func177, x_build_many.2.1, by decide⟩ ?_
 refine Ak ⟨_, _, Tryz.func178, x___build_maker__learn.2.1, by decide⟩ ?_
 refine Ak ⟨_, _, Tryz.func179, x___build_maker__kept.2.1, by decide⟩ ?_
 refine Ak ⟨_, _, Tryz.func181, x_le_right.2.1, by decide⟩ ?_
 refine Ak ⟨_, _, Tryz.func182, x_le_within.2.1, by decide⟩ ?_
 refine Ak ⟨_, _, Tryz.func183, x_ids_Check.2.1, by decide⟩ ?_
 refine Ak ⟨_, _, Tryz.func184, x___build_maker__kept_1.2.1, by decide⟩ ?_
 refine Ak ⟨_, _, Tryz.func185, x_slices_Equal___int_int_.2.1, by decide⟩ ?_
 exact rF
theorem hX : B Ayv = some fO := rfl
theorem Aiy : B Yy = some rO := rfl
theorem wT : B dX = some aT := rfl
theorem Agc : B Sb = some dev_Apply := rfl
theorem Aae : B iP = some fZ := rfl
theorem Agv : B bL = some mC := rfl
theorem Abq : B Yj = some keep_Bytes := rfl
theorem wN : B eG = some bW := rfl
theorem wZ : B eL = some cC := rfl
theorem Agx : B oL = some mU := rfl
theorem Aoj : B xY = some view_Of := rfl
theorem Azn : B Azg = some Azd := rfl
theorem Aes : B oF = some lE := rfl
theorem Aas : B iV = some keep_Snaps := rfl
theorem xE : B Wn = some cB := rfl
theorem oJ : B cI = some dH := rfl
theorem Zb : B Pi = some Mu := rfl
theorem Mj : B Qn = some Jj := rfl
theorem Aeh : B nW = some nE := rfl
theorem Ahh : B Xb = some Aaa := rfl
theorem Abt : B jD = some fF := rfl
theorem aC : B Qo = some __head_Stage__Write := rfl
theorem Ajy : B vK = some uX := rfl
theorem tX : B bK = some Yx := rfl
theorem Lx : B Lz = some slices_Concat___byte_byte_ := rfl
theorem bS : B Sr = some __head_Stage__Zero := rfl
theorem oH : B Wg = some open_Look := rfl
theorem vS : B cK = some view_sectors := rfl
theorem Azm : B Aza = some Ayy := rfl
theorem pL : B eS = some slices_EqualFunc___api_Snap___api_Snap_api_Snap_api_Snap_ := rfl
theorem Azp : B Ayw = some Azf := rfl
theorem Afd : B nO = some keep_Rows := rfl
theorem Ack : B jV = some fU := rfl
theorem Afk : B nX = some mY := rfl
theorem wW : B eC = some bU := rfl
theorem Aay : B jT = some fK := rfl
theorem Aad : B jY = some gA := rfl
theorem dR : B Tf = some __head_Stage__Lay := rfl
theorem Afe : B oA = some mJ := rfl
theorem aH : B aX = some commit_Steps := rfl
theorem Afg : B Vv = some kY := rfl
theorem Iq : B Dk = some Ep := rfl
theorem xH : B Rt = some cF := rfl
theorem Adz : B oP = some mF := rfl
theorem dT : B Tg = some Pd := rfl
theorem uK : B bJ = some Ys := rfl
theorem Aiu : B uN = some sV := rfl
theorem Mw : B Jv = some Ih := rfl
theorem Adg : B To = some fV := rfl
theorem xD : B eK = some open_follow := rfl
theorem Anq : B nC = some Aax := rfl
theorem wR : B dY = some bT := rfl
theorem Zz : B Qq = some __open_Image__clash := rfl
theorem pP : B kO = some slices_EqualFunc_____byte_____byte___byte___byte_ := rfl
theorem Azj : B Ayu = some Ayx := rfl
theorem Aou : B yO = some walk_Of := rfl
theorem Aju : B tV = some sY := rfl
theorem Aqr : B kP = some le_Set := rfl
theorem Ahm : B fC = some vD := rfl
theorem Aai : B iE = some gC := rfl
theorem Aba : B iR = some gD := rfl
theorem Abk : B iQ = some gE := rfl
theorem rQ : B bR = some Yt := rfl
theorem lI : B Na = some Un := rfl
theorem uC : B aG = some Yv := rfl
theorem Jp : B Gm = some Fc := rfl
theorem rN : B aZ = some Zh := rfl
theorem wU : B Wm = some bD := rfl
theorem Lw : B Cv = some Hf := rfl
theorem tF : B bZ = some Zm := rfl
theorem dQ : B Nm = some Qe := rfl
theorem Nk : B Lc = some Ks := rfl
theorem Qb : B Kl = some Hx := rfl
theorem Agh : B Sq = some mO := rfl
theorem oX : B Tc = some Wk := rfl
theorem Aaj : B hJ = some gN := rfl
theorem Aoo : B lJ = some Abv := rfl
theorem wM : B Wj = some bC := rfl
theorem cD : B So = some __build_maker__may := rfl
theorem Yq : B Ls = some Mp := rfl
theorem Wz : B Le = some __build_maker__writes := rfl
theorem wO : B eB = some bH := rfl
theorem Acm : B iZ = some gM := rfl
theorem Ng : B Kj = some It := rfl
theorem sB : B bB = some Yn := rfl
theorem Gn : B Di = some Dr := rfl
theorem aA : B Ke = some Nj := rfl
theorem Amz : B yS = some Abx := rfl
theorem Sf : B Ln = some Jm := rfl
theorem Aab : B kQ = some fH := rfl
theorem Air : B rS = some crc_More := rfl
theorem Aaz : B jU = some fJ := rfl
theorem aB : B Mf = some __build_maker__plan := rfl
theorem Kh : B Hq = some Gy := rfl
theorem Abm : B kG = some fX := rfl
theorem pH : B Sx = some Wq := rfl
theorem Ajn : B fP = some uE := rfl
theorem Apn : B iJ = some le_Get := rfl
theorem Aif : B tT = some uW := rfl
theorem qX : B Va = some Yi := rfl
theorem kW : B Qz = some Ur := rfl
theorem Adr : B oM = some mA := rfl
theorem Hb : B Es = some Ec := rfl
theorem uF : B Uk = some Ym := rfl
theorem Lt : B Jo = some Ik := rfl
theorem Mi : B Kb = some Jf := rfl
theorem Ahz : B tY = some tB := rfl
theorem Ahj : B oR = some nD := rfl
theorem Aff : B nS = some mT := rfl
theorem Xr : B Gv = some Mh := rfl
theorem Vm : B Nf = some slices_Equal___int_int_ := rfl
end Go.Proofs.YtkpndfkpdnknkaaGreat

