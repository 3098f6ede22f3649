/- The program's functions, laid for the interpreter. By a program (wip/tab.py). -/
import Derived.Test.YtnakicjkolpacaaDoorMC
import Derived.KernelRfl
import Derived.Test.YtnakicjkolpacaaDoorProg
set_option maxRecDepth 100000
set_option maxHeartbeats 4000000
namespace Go.Proofs.YtnakicjkolpacaaDoor
open Go.AI

abbrev n_gosem_cut_init : Nat := 2
abbrev n_law23_StreamExact : Nat := 3
abbrev n_law23_StreamBack : Nat := 4
abbrev n_law23_StreamBent : Nat := 5
abbrev n_law23_StreamWhole : Nat := 6
abbrev n_law23_StreamOrder : Nat := 7
abbrev n_law23_StreamSkips : Nat := 8
abbrev n_law23_StreamDumps : Nat := 9
abbrev n_law22_Heavy : Nat := 10
abbrev n_keep_TwinCommands : Nat := 11
abbrev n_keep_Twin : Nat := 12
abbrev n_stream_Bytes : Nat := 13
abbrev n_stream_Parse : Nat := 14
abbrev n_stream_Dump : Nat := 15
abbrev n_ref18_ParseStream : Nat := 16
abbrev n_ref18_Dump : Nat := 17
abbrev n_keep_Commands : Nat := 18
abbrev n_stream_Verify : Nat := 19
abbrev n_keep_Bytes : Nat := 20
abbrev n_ref18_Plan : Nat := 21
abbrev n_law23_wakes : Nat := 22
abbrev n_ref18_Stream : Nat := 23
abbrev n_keep_Command : Nat := 24
abbrev n_frame_Parse : Nat := 25
abbrev n_frame_Bytes : Nat := 26
abbrev n_law23_Small : Nat := 27
abbrev n_law23_End : Nat := 28
abbrev n_law23_number : Nat := 29
abbrev n_stream_whole : Nat := 30
abbrev n___stream_parser__takes : Nat := 31
abbrev n_stream_row : Nat := 32
abbrev n_strconv_Itoa : Nat := 33
abbrev n_strings_Join : Nat := 34
abbrev n_ref01_ParseFrame : Nat := 35
abbrev n_ref01_More : Nat := 36
abbrev n_ref01_Payload : Nat := 37
abbrev n_ref18_digits : Nat := 38
abbrev n_ref01_Command : Nat := 39
abbrev n_ref18_Digest : Nat := 40
abbrev n_ref18_content : Nat := 41
abbrev n_ref01_FrameBytes : Nat := 42
abbrev n_frame_length : Nat := 43
abbrev n_crc_Good : Nat := 44
abbrev n_le_Get : Nat := 45
abbrev n_frame_command : Nat := 46
abbrev n_frame_Payload : Nat := 47
abbrev n_frame_in : Nat := 48
abbrev n_frame_put : Nat := 49
abbrev n_crc_Sum : Nat := 50
abbrev n_crc_More : Nat := 51
abbrev n_stream_content : Nat := 52
abbrev n_plan_Digest : Nat := 53
abbrev n_frame_Sectors : Nat := 54
abbrev n_internal_strconv_Itoa : Nat := 55
abbrev n___strings_Builder__Grow : Nat := 56
abbrev n___strings_Builder__WriteString : Nat := 57
abbrev n___strings_Builder__String : Nat := 58
abbrev n_ref01_Get4 : Nat := 59
abbrev n_ref01_Good : Nat := 60
abbrev n_ref01_command : Nat := 61
abbrev n_ref01_Bytes : Nat := 62
abbrev n_ref01_Id : Nat := 63
abbrev n_ref01_In : Nat := 64
abbrev n_ref01_run : Nat := 65
abbrev n_ref01_Sum : Nat := 66
abbrev n_bytes_HasPrefix : Nat := 67
abbrev n_le_right : Nat := 68
abbrev n_le_within : Nat := 69
abbrev n_frame_numbers : Nat := 70
abbrev n_slices_Clone___byte_byte_ : Nat := 71
abbrev n_frame_Check : Nat := 72
abbrev n_frame_payload : Nat := 73
abbrev n_le_Set : Nat := 74
abbrev n_slices_ContainsFunc___api_Command_api_Command_ : Nat := 75
abbrev n_plan_wrong : Nat := 76
abbrev n_plan_digest : Nat := 77
abbrev n_internal_strconv_FormatInt : Nat := 78
abbrev n___strings_Builder__copyCheck : Nat := 79
abbrev n___strings_Builder__grow : Nat := 80
abbrev n_ref01_Number : Nat := 81
abbrev n_ref01_Get8 : Nat := 82
abbrev n_bytes_Equal : Nat := 83
abbrev n_frame_bare : Nat := 84
abbrev n_slices_IndexFunc___api_Command_api_Command_ : Nat := 85
abbrev n_internal_strconv_small : Nat := 86
abbrev n_internal_strconv_numDigits : Nat := 87
abbrev n_internal_strconv_formatBase10 : Nat := 88
abbrev n_internal_strconv_formatBits : Nat := 89
abbrev n_record_Parents : Nat := 92
abbrev n_frame_writes : Nat := 93
abbrev n_frame_Within : Nat := 94
abbrev n_internal_strconv_log10Pow2 : Nat := 95
abbrev n_math_bits_Len64 : Nat := 96
abbrev n_internal_strconv_bool2_int_ : Nat := 97
abbrev n_internal_strconv_isPowerOfTwo : Nat := 98
abbrev n_math_bits_TrailingZeros : Nat := 99
abbrev n_ids_Check : Nat := 100
abbrev n_math_bits_TrailingZeros32 : Nat := 101
abbrev n_math_bits_TrailingZeros64 : Nat := 102
abbrev n_gosem_cut_vars : Nat := 126
def x_law23_StreamExact : Laying Tryd.prog [(3, 3, ⟨0, (.fresh 0), false⟩)] Tryd.f3 := layIt
def law23_StreamExact : SFun := x_law23_StreamExact.1
def x_law23_StreamBack : Laying Tryd.prog [(9, 3, ⟨0, .pure, false⟩)] Tryd.f4 := layIt
def law23_StreamBack : SFun := x_law23_StreamBack.1
def x_law23_StreamBent : Laying Tryd.prog [(0, 0, ⟨0, .pure, false⟩), (6, 0, ⟨1, .pure, true⟩), (9, 2, ⟨2, .pure, false⟩), (9, 3, ⟨3, .pure, false⟩), (10, 9, ⟨4, .pure, false⟩), (17, 0, ⟨5, .pure, true⟩), (33, 7, ⟨0, (.fresh 6), false⟩), (33, 19, ⟨7, .pure, false⟩), (33, 27, ⟨8, .pure, false⟩), (35, 6, ⟨0, (.fresh 9), false⟩), (35, 14, ⟨10, .pure, false⟩), (37, 1, ⟨0, (.fresh 11), false⟩), (37, 13, ⟨12, .pure, false⟩), (19, 1, ⟨0, (.fresh 13), false⟩)] Tryd.f5 := layIt
def law23_StreamBent : SFun := x_law23_StreamBent.1
def y_law23_StreamBent_l0 : Lp law23_StreamBent.code 0 := lpIt
def law23_StreamBent_l0 : SCode := y_law23_StreamBent_l0.1
def y_law23_StreamBent_l1 : Lp law23_StreamBent.code 1 := lpIt
def law23_StreamBent_l1 : SCode := y_law23_StreamBent_l1.1
def x_law23_StreamWhole : Laying Tryd.prog [(6, 0, ⟨0, .pure, true⟩), (14, 2, ⟨1, .pure, false⟩)] Tryd.f6 := layIt
def law23_StreamWhole : SFun := x_law23_StreamWhole.1
def y_law23_StreamWhole_l0 : Lp law23_StreamWhole.code 0 := lpIt
def law23_StreamWhole_l0 : SCode := y_law23_StreamWhole_l0.1
def x_law23_StreamOrder : Laying Tryd.prog [(2, 1, ⟨0, (.fresh 0), false⟩), (3, 0, ⟨1, .pure, true⟩), (4, 0, ⟨2, .pure, false⟩), (10, 2, ⟨3, .pure, false⟩), (25, 2, ⟨4, .pure, false⟩)] Tryd.f7 := layIt
def law23_StreamOrder : SFun := x_law23_StreamOrder.1
def y_law23_StreamOrder_l0 : Lp law23_StreamOrder.code 0 := lpIt
def law23_StreamOrder_l0 : SCode := y_law23_StreamOrder_l0.1
def x_law23_StreamSkips : Laying Tryd.prog [(3, 1, ⟨0, .pure, false⟩), (7, 3, ⟨1, .pure, false⟩), (7, 4, ⟨2, .pure, false⟩), (8, 3, ⟨3, .pure, false⟩), (8, 4, ⟨4, .pure, false⟩), (13, 7, ⟨5, .pure, false⟩)] Tryd.f8 := layIt
def law23_StreamSkips : SFun := x_law23_StreamSkips.1
def y_law23_StreamSkips_l0 : Lp law23_StreamSkips.code 0 := lpIt
def law23_StreamSkips_l0 : SCode := y_law23_StreamSkips_l0.1
def x_law23_StreamDumps : Laying Tryd.prog [(2, 9, ⟨0, .pure, false⟩), (2, 11, ⟨1, .pure, false⟩), (3, 3, ⟨2, .pure, false⟩), (3, 4, ⟨3, .pure, false⟩), (5, 24, ⟨4, .pure, false⟩), (6, 0, ⟨5, .pure, false⟩)] Tryd.f9 := layIt
def law23_StreamDumps : SFun := x_law23_StreamDumps.1
def y_law23_StreamDumps_l0 : Lp law23_StreamDumps.code 0 := lpIt
def law23_StreamDumps_l0 : SCode := y_law23_StreamDumps_l0.1
def x_law22_Heavy : Laying Tryd.prog [] Tryd.f10 := layIt
def law22_Heavy : SFun := x_law22_Heavy.1
def y_law22_Heavy_l0 : Lp law22_Heavy.code 0 := lpIt
def law22_Heavy_l0 : SCode := y_law22_Heavy_l0.1
def x_keep_TwinCommands : Laying Tryd.prog [(0, 0, ⟨0, .pure, true⟩), (1, 0, ⟨1, .pure, true⟩), (5, 4, ⟨2, .pure, false⟩), (6, 2, ⟨0, (.fresh 3), false⟩), (7, 2, ⟨4, .pure, false⟩), (7, 3, ⟨5, .pure, false⟩)] Tryd.f11 := layIt
def keep_TwinCommands : SFun := x_keep_TwinCommands.1
def y_keep_TwinCommands_l0 : Lp keep_TwinCommands.code 0 := lpIt
def keep_TwinCommands_l0 : SCode := y_keep_TwinCommands_l0.1
def x_keep_Twin : Laying Tryd.prog [(0, 0, ⟨0, .pure, true⟩), (1, 0, ⟨1, .pure, true⟩), (2, 2, ⟨2, .pure, false⟩)] Tryd.f12 := layIt
def keep_Twin : SFun := x_keep_Twin.1
def x_stream_Bytes : Laying Tryd.prog [(0, 0, ⟨0, .pure, true⟩), (2, 0, ⟨1, .pure, true⟩), (3, 3, ⟨2, .pure, false⟩), (5, 1, ⟨0, (.fresh 3), false⟩), (9, 5, ⟨0, (.fresh 4), false⟩), (10, 2, ⟨5, .pure, false⟩), (12, 0, ⟨6, .pure, true⟩)] Tryd.f13 := layIt
def stream_Bytes : SFun := x_stream_Bytes.1
def y_stream_Bytes_l0 : Lp stream_Bytes.code 0 := lpIt
def stream_Bytes_l0 : SCode := y_stream_Bytes_l0.1
def x_stream_Parse : Laying Tryd.prog [(3, 1, ⟨0, .pure, false⟩), (4, 9, ⟨1, .pure, false⟩), (6, 3, ⟨0, (.inl 2), false⟩)] Tryd.f14 := layIt
def stream_Parse : SFun := x_stream_Parse.1
def y_stream_Parse_l0 : Lp stream_Parse.code 0 := lpIt
def stream_Parse_l0 : SCode := y_stream_Parse_l0.1
def x_stream_Dump : Laying Tryd.prog [(4, 0, ⟨0, .pure, true⟩), (7, 2, ⟨1, .pure, false⟩), (8, 3, ⟨2, .pure, false⟩), (8, 4, ⟨3, .pure, false⟩), (11, 5, ⟨4, .pure, false⟩), (11, 6, ⟨5, .pure, false⟩)] Tryd.f15 := layIt
def stream_Dump : SFun := x_stream_Dump.1
def y_stream_Dump_l0 : Lp stream_Dump.code 0 := lpIt
def stream_Dump_l0 : SCode := y_stream_Dump_l0.1
def x_ref18_ParseStream : Laying Tryd.prog [(0, 0, ⟨0, .pure, true⟩), (2, 0, ⟨1, .pure, true⟩), (3, 0, ⟨2, .pure, true⟩), (5, 9, ⟨3, .pure, false⟩), (21, 2, ⟨4, .pure, false⟩), (21, 3, ⟨5, .pure, false⟩)] Tryd.f16 := layIt
def ref18_ParseStream : SFun := x_ref18_ParseStream.1
def y_ref18_ParseStream_l0 : Lp ref18_ParseStream.code 0 := lpIt
def ref18_ParseStream_l0 : SCode := y_ref18_ParseStream_l0.1
def x_ref18_Dump : Laying Tryd.prog [(8, 4, ⟨0, .pure, false⟩), (13, 10, ⟨1, .pure, false⟩), (15, 8, ⟨2, .pure, false⟩), (17, 6, ⟨3, .pure, false⟩), (19, 8, ⟨4, .pure, false⟩), (21, 4, ⟨5, .pure, false⟩), (11, 6, ⟨6, .pure, false⟩)] Tryd.f17 := layIt
def ref18_Dump : SFun := x_ref18_Dump.1
def y_ref18_Dump_l0 : Lp ref18_Dump.code 0 := lpIt
def ref18_Dump_l0 : SCode := y_ref18_Dump_l0.1
def y_ref18_Dump_l1 : Lp ref18_Dump.code 1 := lpIt
def ref18_Dump_l1 : SCode := y_ref18_Dump_l1.1
def x_keep_Commands : Laying Tryd.prog [] Tryd.f18 := layIt
def keep_Commands : SFun := x_keep_Commands.1
def y_keep_Commands_l0 : Lp keep_Commands.code 0 := lpIt
def keep_Commands_l0 : SCode := y_keep_Commands_l0.1
def x_stream_Verify : Laying Tryd.prog [] Tryd.f19 := layIt
def stream_Verify : SFun := x_stream_Verify.1
def x_keep_Bytes : Laying Tryd.prog [] Tryd.f20 := layIt
def keep_Bytes : SFun := x_keep_Bytes.1
def y_keep_Bytes_l0 : Lp keep_Bytes.code 0 := lpIt
def keep_Bytes_l0 : SCode := y_keep_Bytes_l0.1
def x_ref18_Plan : Laying Tryd.prog [] Tryd.f21 := layIt
def ref18_Plan : SFun := x_ref18_Plan.1
def y_ref18_Plan_l0 : Lp ref18_Plan.code 0 := lpIt
def ref18_Plan_l0 : SCode := y_ref18_Plan_l0.1
def y_ref18_Plan_l1 : Lp ref18_Plan.code 1 := lpIt
def ref18_Plan_l1 : SCode := y_ref18_Plan_l1.1
def x_law23_wakes : Laying Tryd.prog [] Tryd.f22 := layIt
def law23_wakes : SFun := x_law23_wakes.1
def x_ref18_Stream : Laying Tryd.prog [(0, 0, ⟨0, .pure, true⟩), (1, 3, ⟨1, .pure, false⟩), (3, 1, ⟨0, (.fresh 2), false⟩), (7, 6, ⟨0, (.fresh 3), false⟩), (7, 7, ⟨4, .pure, false⟩), (9, 0, ⟨5, .pure, true⟩)] Tryd.f23 := layIt
def ref18_Stream : SFun := x_ref18_Stream.1
def y_ref18_Stream_l0 : Lp ref18_Stream.code 0 := lpIt
def ref18_Stream_l0 : SCode := y_ref18_Stream_l0.1
def x_keep_Command : Laying Tryd.prog [(0, 0, ⟨0, .pure, false⟩), (0, 1, ⟨1, .pure, false⟩)] Tryd.f24 := layIt
def keep_Command : SFun := x_keep_Command.1
def x_frame_Parse : Laying Tryd.prog [(0, 0, ⟨0, .pure, false⟩)] Tryd.f25 := layIt
def frame_Parse : SFun := x_frame_Parse.1
def x_frame_Bytes : Laying Tryd.prog [(0, 0, ⟨0, .pure, false⟩), (0, 1, ⟨1, .pure, true⟩), (3, 1, ⟨2, .pure, true⟩), (5, 0, ⟨3, .pure, true⟩), (6, 0, ⟨4, .pure, false⟩), (6, 7, ⟨5, .pure, false⟩), (6, 8, ⟨0, (.inl 6), false⟩), (6, 10, ⟨8, .pure, false⟩), (7, 3, ⟨9, .pure, false⟩), (7, 4, ⟨0, (.inl 10), false⟩)] Tryd.f26 := layIt
def frame_Bytes : SFun := x_frame_Bytes.1
def x_law23_Small : Laying Tryd.prog [(1, 2, ⟨0, .pure, false⟩), (3, 6, ⟨1, .pure, false⟩)] Tryd.f27 := layIt
def law23_Small : SFun := x_law23_Small.1
def x_law23_End : Laying Tryd.prog [(0, 0, ⟨0, .pure, false⟩)] Tryd.f28 := layIt
def law23_End : SFun := x_law23_End.1
def y_law23_End_l0 : Lp law23_End.code 0 := lpIt
def law23_End_l0 : SCode := y_law23_End_l0.1
def x_law23_number : Laying Tryd.prog [] Tryd.f29 := layIt
def law23_number : SFun := x_law23_number.1
def x_stream_whole : Laying Tryd.prog [(6, 2, ⟨0, .pure, false⟩)] Tryd.f30 := layIt
def stream_whole : SFun := x_stream_whole.1
def y_stream_whole_l0 : Lp stream_whole.code 0 := lpIt
def stream_whole_l0 : SCode := y_stream_whole_l0.1
def x___stream_parser__takes : Laying Tryd.prog [(0, 0, ⟨0, .pure, false⟩), (14, 6, ⟨1, .pure, false⟩), (14, 7, ⟨2, .pure, false⟩)] Tryd.f31 := layIt
def __stream_parser__takes : SFun := x___stream_parser__takes.1
def x_stream_row : Laying Tryd.prog [(0, 0, ⟨0, .pure, false⟩), (1, 0, ⟨1, .pure, false⟩), (2, 8, ⟨2, .pure, false⟩), (2, 13, ⟨3, .pure, false⟩), (2, 18, ⟨4, .pure, false⟩), (2, 25, ⟨5, .pure, false⟩), (2, 28, ⟨6, .pure, false⟩), (2, 33, ⟨7, .pure, false⟩), (2, 34, ⟨8, .pure, false⟩)] Tryd.f32 := layIt
def stream_row : SFun := x_stream_row.1
def y_stream_row_l0 : Lp stream_row.code 0 := lpIt
def stream_row_l0 : SCode := y_stream_row_l0.1
def x_ref01_ParseFrame : Laying Tryd.prog [(0, 0, ⟨0, .pure, false⟩), (1, 1, ⟨1, .pure, false⟩), (17, 10, ⟨2, .pure, false⟩)] Tryd.f35 := layIt
def ref01_ParseFrame : SFun := x_ref01_ParseFrame.1
def y_ref01_ParseFrame_l0 : Lp ref01_ParseFrame.code 0 := lpIt
def ref01_ParseFrame_l0 : SCode := y_ref01_ParseFrame_l0.1
def x_ref01_More : Laying Tryd.prog [] Tryd.f36 := layIt
def ref01_More : SFun := x_ref01_More.1
def y_ref01_More_l0 : Lp ref01_More.code 0 := lpIt
def ref01_More_l0 : SCode := y_ref01_More_l0.1
def y_ref01_More_l1 : Lp ref01_More.code 1 := lpIt
def ref01_More_l1 : SCode := y_ref01_More_l1.1
def x_ref01_Payload : Laying Tryd.prog [(0, 0, ⟨0, .pure, false⟩), (0, 1, ⟨1, .pure, true⟩), (1, 0, ⟨2, .pure, true⟩), (4, 2, ⟨0, (.fresh 3), false⟩), (4, 5, ⟨0, (.fresh 4), false⟩), (4, 6, ⟨5, .pure, false⟩), (5, 3, ⟨0, (.fresh 6), false⟩), (5, 4, ⟨7, .pure, false⟩), (6, 3, ⟨0, (.fresh 8), false⟩), (6, 4, ⟨9, .pure, false⟩), (8, 2, ⟨0, (.fresh 10), false⟩), (8, 7, ⟨0, (.fresh 11), false⟩), (8, 8, ⟨12, .pure, false⟩), (9, 3, ⟨13, .pure, false⟩), (11, 2, ⟨0, (.fresh 14), false⟩), (11, 5, ⟨0, (.fresh 15), false⟩), (11, 6, ⟨16, .pure, false⟩), (13, 2, ⟨0, (.fresh 17), false⟩), (13, 5, ⟨0, (.fresh 18), false⟩), (13, 6, ⟨19, .pure, false⟩), (14, 3, ⟨0, (.fresh 20), false⟩), (14, 4, ⟨21, .pure, false⟩), (16, 2, ⟨0, (.fresh 22), false⟩), (17, 2, ⟨0, (.fresh 23), false⟩), (17, 5, ⟨0, (.fresh 24), false⟩), (17, 6, ⟨25, .pure, false⟩)] Tryd.f37 := layIt
def ref01_Payload : SFun := x_ref01_Payload.1
def x_ref18_digits : Laying Tryd.prog [(3, 4, ⟨0, .pure, false⟩)] Tryd.f38 := layIt
def ref18_digits : SFun := x_ref18_digits.1
def y_ref18_digits_l0 : Lp ref18_digits.code 0 := lpIt
def ref18_digits_l0 : SCode := y_ref18_digits_l0.1
def x_ref01_Command : Laying Tryd.prog [(0, 0, ⟨0, .pure, false⟩), (1, 3, ⟨1, .pure, false⟩)] Tryd.f39 := layIt
def ref01_Command : SFun := x_ref01_Command.1
def x_ref18_Digest : Laying Tryd.prog [] Tryd.f40 := layIt
def ref18_Digest : SFun := x_ref18_Digest.1
def y_ref18_Digest_l0 : Lp ref18_Digest.code 0 := lpIt
def ref18_Digest_l0 : SCode := y_ref18_Digest_l0.1
def x_ref18_content : Laying Tryd.prog [] Tryd.f41 := layIt
def ref18_content : SFun := x_ref18_content.1
def x_ref01_FrameBytes : Laying Tryd.prog [(0, 0, ⟨0, .pure, false⟩), (0, 1, ⟨1, .pure, true⟩), (2, 0, ⟨2, .pure, false⟩), (2, 3, ⟨0, (.fresh 3), false⟩), (2, 4, ⟨4, .pure, false⟩), (3, 3, ⟨0, (.fresh 5), false⟩), (3, 4, ⟨6, .pure, false⟩), (4, 3, ⟨0, (.fresh 7), false⟩), (4, 4, ⟨8, .pure, false⟩), (5, 2, ⟨9, .pure, false⟩), (6, 3, ⟨0, (.fresh 10), false⟩), (6, 4, ⟨11, .pure, false⟩)] Tryd.f42 := layIt
def ref01_FrameBytes : SFun := x_ref01_FrameBytes.1
def x_frame_length : Laying Tryd.prog [(1, 1, ⟨0, .pure, false⟩)] Tryd.f43 := layIt
def frame_length : SFun := x_frame_length.1
def x_crc_Good : Laying Tryd.prog [] Tryd.f44 := layIt
def crc_Good : SFun := x_crc_Good.1
def x_le_Get : Laying Tryd.prog [] Tryd.f45 := layIt
def le_Get : SFun := x_le_Get.1
def y_le_Get_l0 : Lp le_Get.code 0 := lpIt
def le_Get_l0 : SCode := y_le_Get_l0.1
def x_frame_command : Laying Tryd.prog [(0, 0, ⟨0, .pure, false⟩), (5, 1, ⟨1, .pure, false⟩), (9, 5, ⟨2, .pure, false⟩), (11, 5, ⟨0, (.fresh 3), false⟩), (14, 1, ⟨4, .pure, false⟩), (18, 1, ⟨5, .pure, false⟩), (22, 1, ⟨6, .pure, false⟩), (26, 1, ⟨7, .pure, false⟩)] Tryd.f46 := layIt
def frame_command : SFun := x_frame_command.1
def x_frame_Payload : Laying Tryd.prog [(0, 0, ⟨0, .pure, false⟩)] Tryd.f47 := layIt
def frame_Payload : SFun := x_frame_Payload.1
def x_frame_in : Laying Tryd.prog [] Tryd.f48 := layIt
def frame_in : SFun := x_frame_in.1
def x_frame_put : Laying Tryd.prog [(0, 0, ⟨0, .pure, true⟩), (5, 2, ⟨1, .pure, false⟩), (6, 4, ⟨0, (.inl 2), false⟩)] Tryd.f49 := layIt
def frame_put : SFun := x_frame_put.1
def y_frame_put_l0 : Lp frame_put.code 0 := lpIt
def frame_put_l0 : SCode := y_frame_put_l0.1
def x_crc_Sum : Laying Tryd.prog [] Tryd.f50 := layIt
def crc_Sum : SFun := x_crc_Sum.1
def x_crc_More : Laying Tryd.prog [] Tryd.f51 := layIt
def crc_More : SFun := x_crc_More.1
def y_crc_More_l0 : Lp crc_More.code 0 := lpIt
def crc_More_l0 : SCode := y_crc_More_l0.1
def y_crc_More_l1 : Lp crc_More.code 1 := lpIt
def crc_More_l1 : SCode := y_crc_More_l1.1
def x_stream_content : Laying Tryd.prog [(0, 0, ⟨0, .pure, false⟩)] Tryd.f52 := layIt
def stream_content : SFun := x_stream_content.1
def x_plan_Digest : Laying Tryd.prog [] Tryd.f53 := layIt
def plan_Digest : SFun := x_plan_Digest.1
def x_frame_Sectors : Laying Tryd.prog [(0, 0, ⟨0, .pure, false⟩)] Tryd.f54 := layIt
def frame_Sectors : SFun := x_frame_Sectors.1
def x_ref01_Get4 : Laying Tryd.prog [] Tryd.f59 := layIt
def ref01_Get4 : SFun := x_ref01_Get4.1
def x_ref01_Good : Laying Tryd.prog [] Tryd.f60 := layIt
def ref01_Good : SFun := x_ref01_Good.1
def x_ref01_command : Laying Tryd.prog [(0, 0, ⟨0, .pure, false⟩), (1, 2, ⟨1, .pure, false⟩), (12, 4, ⟨2, .pure, false⟩)] Tryd.f61 := layIt
def ref01_command : SFun := x_ref01_command.1
def x_ref01_Bytes : Laying Tryd.prog [(0, 0, ⟨0, .pure, true⟩), (1, 0, ⟨1, .pure, true⟩), (5, 4, ⟨2, .pure, false⟩), (5, 5, ⟨3, .pure, false⟩)] Tryd.f62 := layIt
def ref01_Bytes : SFun := x_ref01_Bytes.1
def y_ref01_Bytes_l0 : Lp ref01_Bytes.code 0 := lpIt
def ref01_Bytes_l0 : SCode := y_ref01_Bytes_l0.1
def x_ref01_Id : Laying Tryd.prog [] Tryd.f63 := layIt
def ref01_Id : SFun := x_ref01_Id.1
def x_ref01_In : Laying Tryd.prog [] Tryd.f64 := layIt
def ref01_In : SFun := x_ref01_In.1
def x_ref01_run : Laying Tryd.prog [] Tryd.f65 := layIt
def ref01_run : SFun := x_ref01_run.1
def x_ref01_Sum : Laying Tryd.prog [] Tryd.f66 := layIt
def ref01_Sum : SFun := x_ref01_Sum.1
def x_bytes_HasPrefix : Laying Tryd.prog [] Tryd.f67 := layIt
def bytes_HasPrefix : SFun := x_bytes_HasPrefix.1
def x_le_right : Laying Tryd.prog [] Tryd.f68 := layIt
def le_right : SFun := x_le_right.1
def x_le_within : Laying Tryd.prog [] Tryd.f69 := layIt
def le_within : SFun := x_le_within.1
def x_frame_numbers : Laying Tryd.prog [(0, 0, ⟨0, .pure, true⟩), (1, 0, ⟨1, .pure, true⟩), (8, 0, ⟨2, .pure, true⟩), (9, 2, ⟨3, .pure, false⟩), (9, 3, ⟨4, .pure, false⟩)] Tryd.f70 := layIt
def frame_numbers : SFun := x_frame_numbers.1
def y_frame_numbers_l0 : Lp frame_numbers.code 0 := lpIt
def frame_numbers_l0 : SCode := y_frame_numbers_l0.1
def x_slices_Clone___byte_byte_ : Laying Tryd.prog [(0, 0, ⟨0, .pure, true⟩), (2, 0, ⟨1, .pure, true⟩), (3, 2, ⟨2, .pure, false⟩)] Tryd.f71 := layIt
def slices_Clone___byte_byte_ : SFun := x_slices_Clone___byte_byte_.1
def x_frame_Check : Laying Tryd.prog [(0, 0, ⟨0, .pure, false⟩), (1, 5, ⟨1, .pure, false⟩)] Tryd.f72 := layIt
def frame_Check : SFun := x_frame_Check.1
def x_frame_payload : Laying Tryd.prog [(0, 0, ⟨0, .pure, false⟩), (0, 1, ⟨1, .pure, true⟩), (3, 4, ⟨2, .pure, false⟩), (3, 5, ⟨0, (.fresh 3), false⟩), (3, 10, ⟨4, .pure, false⟩), (3, 11, ⟨0, (.inl 5), false⟩), (5, 4, ⟨7, .pure, false⟩), (5, 5, ⟨0, (.fresh 8), false⟩), (5, 8, ⟨9, .pure, false⟩), (7, 4, ⟨10, .pure, false⟩), (7, 5, ⟨0, (.fresh 11), false⟩), (9, 6, ⟨12, .pure, false⟩), (9, 7, ⟨0, (.fresh 13), false⟩), (11, 2, ⟨14, .pure, false⟩), (11, 3, ⟨0, (.fresh 15), false⟩), (12, 4, ⟨16, .pure, false⟩), (12, 5, ⟨0, (.fresh 17), false⟩)] Tryd.f73 := layIt
def frame_payload : SFun := x_frame_payload.1
def x_le_Set : Laying Tryd.prog [] Tryd.f74 := layIt
def le_Set : SFun := x_le_Set.1
def y_le_Set_l0 : Lp le_Set.code 0 := lpIt
def le_Set_l0 : SCode := y_le_Set_l0.1
def x_slices_ContainsFunc___api_Command_api_Command_ : Laying Tryd.prog [] Tryd.f75 := layIt
def slices_ContainsFunc___api_Command_api_Command_ : SFun := x_slices_ContainsFunc___api_Command_api_Command_.1
def x_plan_wrong : Laying Tryd.prog [(0, 0, ⟨0, .pure, false⟩)] Tryd.f76 := layIt
def plan_wrong : SFun := x_plan_wrong.1
def x_plan_digest : Laying Tryd.prog [(4, 2, ⟨0, .pure, false⟩)] Tryd.f77 := layIt
def plan_digest : SFun := x_plan_digest.1
def y_plan_digest_l0 : Lp plan_digest.code 0 := lpIt
def plan_digest_l0 : SCode := y_plan_digest_l0.1
def x_ref01_Number : Laying Tryd.prog [] Tryd.f81 := layIt
def ref01_Number : SFun := x_ref01_Number.1
def y_ref01_Number_l0 : Lp ref01_Number.code 0 := lpIt
def ref01_Number_l0 : SCode := y_ref01_Number_l0.1
def x_ref01_Get8 : Laying Tryd.prog [] Tryd.f82 := layIt
def ref01_Get8 : SFun := x_ref01_Get8.1
def x_bytes_Equal : Laying Tryd.prog [] Tryd.f83 := layIt
def bytes_Equal : SFun := x_bytes_Equal.1
def x_frame_bare : Laying Tryd.prog [(0, 0, ⟨0, .pure, false⟩), (0, 1, ⟨1, .pure, false⟩)] Tryd.f84 := layIt
def frame_bare : SFun := x_frame_bare.1
def x_slices_IndexFunc___api_Command_api_Command_ : Laying Tryd.prog [] Tryd.f85 := layIt
def slices_IndexFunc___api_Command_api_Command_ : SFun := x_slices_IndexFunc___api_Command_api_Command_.1
def y_slices_IndexFunc___api_Command_api_Command__l0 : Lp slices_IndexFunc___api_Command_api_Command_.code 0 := lpIt
def slices_IndexFunc___api_Command_api_Command__l0 : SCode := y_slices_IndexFunc___api_Command_api_Command__l0.1
def x_record_Parents : Laying Tryd.prog [] Tryd.f92 := layIt
def record_Parents : SFun := x_record_Parents.1
def x_frame_writes : Laying Tryd.prog [(0, 0, ⟨0, .pure, false⟩)] Tryd.f93 := layIt
def frame_writes : SFun := x_frame_writes.1
def x_frame_Within : Laying Tryd.prog [] Tryd.f94 := layIt
def frame_Within : SFun := x_frame_Within.1
def x_ids_Check : Laying Tryd.prog [] Tryd.f100 := layIt
def ids_Check : SFun := x_ids_Check.1
def tab : List (Nat × SFun) := [(3, law23_StreamExact), (4, law23_StreamBack), (5, law23_StreamBent), (6, law23_StreamWhole), (7, law23_StreamOrder), (8, law23_StreamSkips), (9, law23_StreamDumps), (10, law22_Heavy), (11, keep_TwinCommands), (12, keep_Twin), (13, stream_Bytes), (14, stream_Parse), (15, stream_Dump), (16, ref18_ParseStream), (17, ref18_Dump), (18, keep_Commands), (19, stream_Verify), (20, keep_Bytes), (21, ref18_Plan), (22, law23_wakes), (23, ref18_Stream), (24, keep_Command), (25, frame_Parse), (26, frame_Bytes), (27, law23_Small), (28, law23_End), (29, law23_number), (30, stream_whole), (31, __stream_parser__takes), (32, stream_row), (35, ref01_ParseFrame), (36, ref01_More), (37, ref01_Payload), (38, ref18_digits), (39, ref01_Command), (40, ref18_Digest), (41, ref18_content), (42, ref01_FrameBytes), (43, frame_length), (44, crc_Good), (45, le_Get), (46, frame_command), (47, frame_Payload), (48, frame_in), (49, frame_put), (50, crc_Sum), (51, crc_More), (52, stream_content), (53, plan_Digest), (54, frame_Sectors), (59, ref01_Get4), (60, ref01_Good), (61, ref01_command), (62, ref01_Bytes), (63, ref01_Id), (64, ref01_In), (65, ref01_run), (66, ref01_Sum), (67, bytes_HasPrefix), (68, le_right), (69, le_within), (70, frame_numbers), (72, frame_Check), (73, frame_payload), (74, le_Set), (75, slices_ContainsFunc___api_Command_api_Command_), (76, plan_wrong), (77, plan_digest), (81, ref01_Number), (82, ref01_Get8), (83, bytes_Equal), (84, frame_bare), (85, slices_IndexFunc___api_Command_api_Command_), (92, record_Parents), (93, frame_writes), (94, frame_Within), (100, ids_Check)]
def B : Prog := Go.AI.look tab
theorem laid : Laid Tryd.prog (Go.AI.look tab) := by
  refine laid_cons ⟨_, _, Tryd.func3, x_law23_StreamExact.2.1, by decide⟩ ?_
  refine laid_cons ⟨_, _, Tryd.func4, x_law23_StreamBack.2.1, by decide⟩ ?_
  refine laid_cons ⟨_, _, Tryd.func5, x_law23_StreamBent.2.1, by decide⟩ ?_
  refine laid_cons ⟨_, _, Tryd.func6, x_law23_StreamWhole.2.1, by decide⟩ ?_
  refine laid_cons ⟨_, _, Tryd.func7, x_law23_StreamOrder.2.1, by decide⟩ ?_
  refine laid_cons ⟨_, _, Tryd.func8, x_law23_StreamSkips.2.1, by decide⟩ ?_
  refine laid_cons ⟨_, _, Tryd.func9, x_law23_StreamDumps.2.1, by decide⟩ ?_
  refine laid_cons ⟨_, _, Tryd.func10, x_law22_Heavy.2.1, by decide⟩ ?_
  refine laid_cons ⟨_, _, Tryd.func11, x_keep_TwinCommands.2.1, by decide⟩ ?_
  refine laid_cons ⟨_, _, Tryd.func12, x_keep_Twin.2.1, by decide⟩ ?_
  refine laid_cons ⟨_, _, Tryd.func13, x_stream_Bytes.2.1, by decide⟩ ?_
  refine laid_cons ⟨_, _, Tryd.func14, x_stream_Parse.2.1, by decide⟩ ?_
  refine laid_cons ⟨_, _, Tryd.func15, x_stream_Dump.2.1, by decide⟩ ?_
  refine laid_cons ⟨_, _, Tryd.func16, x_ref18_ParseStream.2.1, by decide⟩ ?_
  refine laid_cons ⟨_, _, Tryd.func17, x_ref18_Dump.2.1, by decide⟩ ?_
  refine laid_cons ⟨_, _, Tryd.func18, x_keep_Commands.2.1, by decide⟩ ?_
  refine laid_cons ⟨_, _, Tryd.func19, x_stream_Verify.2.1, by decide⟩ ?_
  refine laid_cons ⟨_, _, Tryd.func20, x_keep_Bytes.2.1, by decide⟩ ?_
  refine laid_cons ⟨_, _, Tryd.func21, x_ref18_Plan.2.1, by decide⟩ ?_
  refine laid_cons ⟨_, _, Tryd.func22, x_law23_wakes.2.1, by decide⟩ ?_
  refine laid_cons ⟨_, _, Tryd.func23, x_ref18_Stream.2.1, by decide⟩ ?_
  refine laid_cons ⟨_, _, Tryd.func24, x_keep_Command.2.1, by decide⟩ ?_
  refine laid_cons ⟨_, _, Tryd.func25, x_frame_Parse.2.1, by decide⟩ ?_
  refine laid_cons ⟨_, _, Tryd.func26, x_frame_Bytes.2.1, by decide⟩ ?_
  refine laid_cons ⟨_, _, Tryd.func27, x_law23_Small.2.1, by decide⟩ ?_
  refine laid_cons ⟨_, _, Tryd.func28, x_law23_End.2.1, by decide⟩ ?_
  refine laid_cons ⟨_, _, Tryd.func29, x_law23_number.2.1, by decide⟩ ?_
  refine laid_cons ⟨_, _, Tryd.func30, x_stream_whole.2.1, by decide⟩ ?_
  refine laid_cons ⟨_, _, Tryd.func31, x___stream_parser__takes.2.1, by decide⟩ ?_
  refine laid_cons ⟨_, _, Tryd.func32, x_stream_row.2.1, by decide⟩ ?_
  refine laid_cons ⟨_, _, Tryd.func35, x_ref01_ParseFrame.2.1, by decide⟩ ?_
  refine laid_cons ⟨_, _, Tryd.func36, x_ref01_More.2.1, by decide⟩ ?_
  refine laid_cons ⟨_, _, Tryd.func37, x_ref01_Payload.2.1, by decide⟩ ?_
  refine laid_cons ⟨_, _, Tryd.func38, x_ref18_digits.2.1, by decide⟩ ?_
  refine laid_cons ⟨_, _, Tryd.func39, x_ref01_Command.2.1, by decide⟩ ?_
  refine laid_cons ⟨_, _, Tryd.func40, x_ref18_Digest.2.1, by decide⟩ ?_
  refine laid_cons ⟨_, _, Tryd.func41, x_ref18_content.2.1, by decide⟩ ?_
  refine laid_cons ⟨_, _, Tryd.func42, x_ref01_FrameBytes.2.1, by decide⟩ ?_
  refine laid_cons ⟨_, _, Tryd.func43, x_frame_length.2.1, by decide⟩ ?_
  refine laid_cons ⟨_, _, Tryd.func44, x_crc_Good.2.1, by decide⟩ ?_
  refine laid_cons ⟨_, _, Tryd.func45, x_le_Get.2.1, by decide⟩ ?_
  refine laid_cons ⟨_, _, Tryd.func46, x_frame_command.2.1, by decide⟩ ?_
  refine laid_cons ⟨_, _, Tryd.func47, x_frame_Payload.2.1, by decide⟩ ?_
  refine laid_cons ⟨_, _, Tryd.func48, x_frame_in.2.1, by decide⟩ ?_
  refine laid_cons ⟨_, _, Tryd.func49, x_frame_put.2.1, by decide⟩ ?_
  refine laid_cons ⟨_, _, Tryd.func50, x_crc_Sum.2.1, by decide⟩ ?_
  refine laid_cons ⟨_, _, Tryd.func51, x_crc_More.2.1, by decide⟩ ?_
  refine laid_cons ⟨_, _, Tryd.func52, x_stream_content.2.1, by decide⟩ ?_
  refine laid_cons ⟨_, _, Tryd.func53, x_plan_Digest.2.1, by decide⟩ ?_
  refine laid_cons ⟨_, _, Tryd.func54, x_frame_Sectors.2.1, by decide⟩ ?_
  refine laid_cons ⟨_, _, Tryd.func59, x_ref01_Get4.2.1, by decide⟩ ?_
  refine laid_cons ⟨_, _, Tryd.func60, x_ref01_Good.2.1, by decide⟩ ?_
  refine laid_cons ⟨_, _, Tryd.func61, x_ref01_command.2.1, by decide⟩ ?_
  refine laid_cons ⟨_, _, Tryd.func62, x_ref01_Bytes.2.1, by decide⟩ ?_
  refine laid_cons ⟨_, _, Tryd.func63, x_ref01_Id.2.1, by decide⟩ ?_
  refine laid_cons ⟨_, _, Tryd.func64, x_ref01_In.2.1, by decide⟩ ?_
  refine laid_cons ⟨_, _, Tryd.func65, x_ref01_run.2.1, by decide⟩ ?_
  refine laid_cons ⟨_, _, Tryd.func66, x_ref01_Sum.2.1, by decide⟩ ?_
  refine laid_cons ⟨_, _, Tryd.func67, x_bytes_HasPrefix.2.1, by decide⟩ ?_
  refine laid_cons ⟨_, _, Tryd.func68, x_le_right.2.1, by decide⟩ ?_
  refine laid_cons ⟨_, _, Tryd.func69, x_le_within.2.1, by decide⟩ ?_
  refine laid_cons ⟨_, _, Tryd.func70, x_frame_numbers.2.1, by decide⟩ ?_
  refine laid_cons ⟨_, _, Tryd.func72, x_frame_Check.2.1, by decide⟩ ?_
  refine laid_cons ⟨_, _, Tryd.func73, x_frame_payload.2.1, by decide⟩ ?_
  refine laid_cons ⟨_, _, Tryd.func74, x_le_Set.2.1, by decide⟩ ?_
  refine laid_cons ⟨_, _, Tryd.func75, x_slices_ContainsFunc___api_Command_api_Command_.2.1, by decide⟩ ?_
  refine laid_cons ⟨_, _, Tryd.func76, x_plan_wrong.2.1, by decide⟩ ?_
  refine laid_cons ⟨_, _, Tryd.func77, x_plan_digest.2.1, by decide⟩ ?_
  refine laid_cons ⟨_, _, Tryd.func81, x_ref01_Number.2.1, by decide⟩ ?_
  refine laid_cons ⟨_, _, Tryd.func82, x_ref01_Get8.2.1, by decide⟩ ?_
  refine laid_cons ⟨_, _, Tryd.func83, x_bytes_Equal.2.1, by decide⟩ ?_
  refine laid_cons ⟨_, _, Tryd.func84, x_frame_bare.2.1, by decide⟩ ?_
  refine laid_cons ⟨_, _, Tryd.func85, x_slices_IndexFunc___api_Command_api_Command_.2.1, by decide⟩ ?_
  refine laid_cons ⟨_, _, Tryd.func92, x_record_Parents.2.1, by decide⟩ ?_
  refine laid_cons ⟨_, _, Tryd.func93, x_frame_writes.2.1, by decide⟩ ?_
  refine laid_cons ⟨_, _, Tryd.func94, x_frame_Within.2.1, by decide⟩ ?_
  refine laid_cons ⟨_, _, Tryd.func100, x_ids_Check.2.1, by decide⟩ ?_
  exact laid_nil
theorem B_law23_StreamExact : B n_law23_StreamExact = some law23_StreamExact := rfl
theorem B_law23_StreamBack : B n_law23_StreamBack = some law23_StreamBack := rfl
theorem B_law23_StreamBent : B n_law23_StreamBent = some law23_StreamBent := rfl
theorem B_law23_StreamWhole : B n_law23_StreamWhole = some law23_StreamWhole := rfl
theorem B_law23_StreamOrder : B n_law23_StreamOrder = some law23_StreamOrder := rfl
theorem B_law23_StreamSkips : B n_law23_StreamSkips = some law23_StreamSkips := rfl
theorem B_law23_StreamDumps : B n_law23_StreamDumps = some law23_StreamDumps := rfl
theorem B_law22_Heavy : B n_law22_Heavy = some law22_Heavy := rfl
theorem B_keep_TwinCommands : B n_keep_TwinCommands = some keep_TwinCommands := rfl
theorem B_keep_Twin : B n_keep_Twin = some keep_Twin := rfl
theorem B_stream_Bytes : B n_stream_Bytes = some stream_Bytes := rfl
theorem B_stream_Parse : B n_stream_Parse = some stream_Parse := rfl
theorem B_stream_Dump : B n_stream_Dump = some stream_Dump := rfl
theorem B_ref18_ParseStream : B n_ref18_ParseStream = some ref18_ParseStream := rfl
theorem B_ref18_Dump : B n_ref18_Dump = some ref18_Dump := rfl
theorem B_keep_Commands : B n_keep_Commands = some keep_Commands := rfl
theorem B_stream_Verify : B n_stream_Verify = some stream_Verify := rfl
theorem B_keep_Bytes : B n_keep_Bytes = some keep_Bytes := rfl
theorem B_ref18_Plan : B n_ref18_Plan = some ref18_Plan := rfl
theorem B_law23_wakes : B n_law23_wakes = some law23_wakes := rfl
theorem B_ref18_Stream : B n_ref18_Stream = some ref18_Stream := rfl
theorem B_keep_Command : B n_keep_Command = some keep_Command := rfl
theorem B_frame_Parse : B n_frame_Parse = some frame_Parse := rfl
theorem B_frame_Bytes : B n_frame_Bytes = some frame_Bytes := rfl
theorem B_law23_Small : B n_law23_Small = some law23_Small := rfl
theorem B_law23_End : B n_law23_End = some law23_End := rfl
theorem B_law23_number : B n_law23_number = some law23_number := rfl
theorem B_stream_whole : B n_stream_whole = some stream_whole := rfl
theorem B___stream_parser__takes : B n___stream_parser__takes = some __stream_parser__takes := rfl
theorem B_stream_row : B n_stream_row = some stream_row := rfl
theorem B_ref01_ParseFrame : B n_ref01_ParseFrame = some ref01_ParseFrame := rfl
theorem B_ref01_More : B n_ref01_More = some ref01_More := rfl
theorem B_ref01_Payload : B n_ref01_Payload = some ref01_Payload := rfl
theorem B_ref18_digits : B n_ref18_digits = some ref18_digits := rfl
theorem B_ref01_Command : B n_ref01_Command = some ref01_Command := rfl
theorem B_ref18_Digest : B n_ref18_Digest = some ref18_Digest := rfl
theorem B_ref18_content : B n_ref18_content = some ref18_content := rfl
theorem B_ref01_FrameBytes : B n_ref01_FrameBytes = some ref01_FrameBytes := rfl
theorem B_frame_length : B n_frame_length = some frame_length := rfl
theorem B_crc_Good : B n_crc_Good = some crc_Good := rfl
theorem B_le_Get : B n_le_Get = some le_Get := rfl
theorem B_frame_command : B n_frame_command = some frame_command := rfl
theorem B_frame_Payload : B n_frame_Payload = some frame_Payload := rfl
theorem B_frame_in : B n_frame_in = some frame_in := rfl
theorem B_frame_put : B n_frame_put = some frame_put := rfl
theorem B_crc_Sum : B n_crc_Sum = some crc_Sum := rfl
theorem B_crc_More : B n_crc_More = some crc_More := rfl
theorem B_stream_content : B n_stream_content = some stream_content := rfl
theorem B_plan_Digest : B n_plan_Digest = some plan_Digest := rfl
theorem B_frame_Sectors : B n_frame_Sectors = some frame_Sectors := rfl
theorem B_ref01_Get4 : B n_ref01_Get4 = some ref01_Get4 := rfl
theorem B_ref01_Good : B n_ref01_Good = some ref01_Good := rfl
theorem B_ref01_command : B n_ref01_command = some ref01_command := rfl
theorem B_ref01_Bytes : B n_ref01_Bytes = some ref01_Bytes := rfl
theorem B_ref01_Id : B n_ref01_Id = some ref01_Id := rfl
theorem B_ref01_In : B n_ref01_In = some ref01_In := rfl
theorem B_ref01_run : B n_ref01_run = some ref01_run := rfl
theorem B_ref01_Sum : B n_ref01_Sum = some ref01_Sum := rfl
theorem B_bytes_HasPrefix : B n_bytes_HasPrefix = some bytes_HasPrefix := rfl
theorem B_le_right : B n_le_right = some le_right := rfl
theorem B_le_within : B n_le_within = some le_within := rfl
theorem B_frame_numbers : B n_frame_numbers = some frame_numbers := rfl
theorem B_frame_Check : B n_frame_Check = some frame_Check := rfl
theorem B_frame_payload : B n_frame_payload = some frame_payload := rfl
theorem B_le_Set : B n_le_Set = some le_Set := rfl
theorem B_slices_ContainsFunc___api_Command_api_Command_ : B n_slices_ContainsFunc___api_Command_api_Command_ = some slices_ContainsFunc___api_Command_api_Command_ := rfl
theorem B_plan_wrong : B n_plan_wrong = some plan_wrong := rfl
theorem B_plan_digest : B n_plan_digest = some plan_digest := rfl
theorem B_ref01_Number : B n_ref01_Number = some ref01_Number := rfl
theorem B_ref01_Get8 : B n_ref01_Get8 = some ref01_Get8 := rfl
theorem B_bytes_Equal : B n_bytes_Equal = some bytes_Equal := rfl
theorem B_frame_bare : B n_frame_bare = some frame_bare := rfl
theorem B_slices_IndexFunc___api_Command_api_Command_ : B n_slices_IndexFunc___api_Command_api_Command_ = some slices_IndexFunc___api_Command_api_Command_ := rfl
theorem B_record_Parents : B n_record_Parents = some record_Parents := rfl
theorem B_frame_writes : B n_frame_writes = some frame_writes := rfl
theorem B_frame_Within : B n_frame_Within = some frame_Within := rfl
theorem B_ids_Check : B n_ids_Check = some ids_Check := rfl
end Go.Proofs.YtnakicjkolpacaaDoor
