/- The program's functions, laid for the interpreter. By a program (wip/Print.lean). -/
import Derived.Test.YtoanjhiojpgioaaMC
import Derived.KernelRfl
import Derived.Test.YtoanjhiojpgioaaProg
set_option maxRecDepth 100000
set_option maxHeartbeats 4000000
namespace Go.Proofs.Ytoanjhiojpgioaa
open Go.AI

abbrev n_gosem_cut_init : Nat := 2
abbrev n_law09_FrameExact : Nat := 3
abbrev n_law09_FrameBack : Nat := 4
abbrev n_law09_FramePayload : Nat := 5
abbrev n_law09_FrameBounds : Nat := 6
abbrev n_law09_FrameReads : Nat := 7
abbrev n_law09_FrameFields : Nat := 8
abbrev n_keep_TwinCommands : Nat := 9
abbrev n_keep_Twin : Nat := 10
abbrev n_frame_Payload : Nat := 11
abbrev n_frame_Bytes : Nat := 12
abbrev n_frame_Parse : Nat := 13
abbrev n_ref01_ParseFrame : Nat := 14
abbrev n_keep_Command : Nat := 15
abbrev n_keep_Bytes : Nat := 16
abbrev n_ref01_Command : Nat := 17
abbrev n_frame_Check : Nat := 18
abbrev n_law09_wakes : Nat := 19
abbrev n_ref01_Payload : Nat := 20
abbrev n_ref01_FrameBytes : Nat := 21
abbrev n_le_Get : Nat := 22
abbrev n_frame_payload : Nat := 23
abbrev n_frame_in : Nat := 24
abbrev n_frame_put : Nat := 25
abbrev n_crc_Sum : Nat := 26
abbrev n_frame_length : Nat := 27
abbrev n_crc_Good : Nat := 28
abbrev n_frame_command : Nat := 29
abbrev n_ref01_Get4 : Nat := 30
abbrev n_ref01_Good : Nat := 31
abbrev n_ref01_command : Nat := 32
abbrev n_ref01_Id : Nat := 33
abbrev n_ref01_In : Nat := 34
abbrev n_ref01_run : Nat := 35
abbrev n_frame_bare : Nat := 36
abbrev n_ref01_Bytes : Nat := 37
abbrev n_ref01_Sum : Nat := 38
abbrev n_le_right : Nat := 39
abbrev n_le_within : Nat := 40
abbrev n_frame_Sectors : Nat := 41
abbrev n_le_Set : Nat := 42
abbrev n_crc_More : Nat := 43
abbrev n_bytes_HasPrefix : Nat := 44
abbrev n_frame_numbers : Nat := 45
abbrev n_slices_Clone___byte_byte_ : Nat := 46
abbrev n_ref01_Number : Nat := 47
abbrev n_ref01_Get8 : Nat := 48
abbrev n_record_Parents : Nat := 49
abbrev n_frame_writes : Nat := 50
abbrev n_frame_Within : Nat := 51
abbrev n_ref01_More : Nat := 52
abbrev n_bytes_Equal : Nat := 53
abbrev n_ids_Check : Nat := 54
-- NOT LAID: gosem.cut.init: [region 0 op 0, region 0 draw false]
def law09_FrameExact : SFun := ⟨3, [.tmp 6],
  (.seq (.region [⟨(some 3), .box 0 (.t 0), none, []⟩, ⟨(some 6), .mv (.c (.bool false)), none, []⟩])
  ((.seq ((.seq (.region [⟨(some 21), .faddr 8 (.t 3), none, []⟩, ⟨(some 22), .load 1 false (.t 21), none, []⟩, ⟨(some 23), .len (.t 22), none, []⟩, ⟨(some 24), .bin .gtr (.t 23) (.c (.int .i64 1500)), none, []⟩, ⟨(some 25), .mv (.t 24), none, []⟩, ⟨(some 26), .mv (.t 2), (some (25, false)), []⟩, ⟨(some 27), .len (.t 26), (some (25, false)), []⟩, ⟨(some 28), .bin .gtr (.t 27) (.c (.int .i64 1500)), (some (25, false)), []⟩, ⟨(some 29), .pick (.t 25) (.c (.bool true)) (.t 28), none, []⟩])
  (.cond (.t 29) ((.seq (.region [⟨(some 6), .mv (.c (.bool true)), none, []⟩])
  (.ret))) (.skip))))
  ((.seq (.region [⟨(some 30), .load 9 true (.t 3), none, []⟩, ⟨(some 31), .buildS 1 9 1 (.agg [(.int .i64 0), (.int .i64 0), (.int .i64 0), (.int .i64 0), (.int .i64 0), (.int .i64 0), (.int .i64 0), (.int .i64 0), (.islc false true 0 [])]) [(0, (.t 30))], none, []⟩, ⟨(some 32), .call .pure n_keep_TwinCommands [(.t 31)], none, []⟩, ⟨(some 33), .mv (.t 2), none, []⟩, ⟨(some 34), .call (.fresh 2) n_keep_Twin [(.t 33)], none, []⟩, ⟨(some 7), .mv (.t 32), none, []⟩, ⟨(some 8), .mv (.t 34), none, []⟩])
  ((.seq (.region [⟨(some 36), .mv (.t 7), none, []⟩, ⟨(some 37), .iaddr 9 (.t 36) (.c (.int .i64 0)), none, []⟩, ⟨(some 38), .load 9 true (.t 37), none, []⟩, ⟨(some 39), .call .pure n_frame_Payload [(.t 38)], none, []⟩, ⟨(some 35), .mv (.t 39), none, []⟩, ⟨(some 40), .extract (.t 35) 0, none, []⟩, ⟨(some 41), .extract (.t 35) 1, none, []⟩, ⟨(some 9), .mv (.t 40), none, []⟩, ⟨(some 10), .mv (.t 41), none, []⟩])
  ((.seq (.region [⟨(some 43), .mv (.t 1), none, []⟩, ⟨(some 44), .mv (.t 7), none, []⟩, ⟨(some 45), .iaddr 9 (.t 44) (.c (.int .i64 0)), none, []⟩, ⟨(some 46), .load 9 true (.t 45), none, []⟩, ⟨(some 47), .call .pure n_frame_Bytes [(.t 43), (.t 46)], none, []⟩, ⟨(some 42), .mv (.t 47), none, []⟩, ⟨(some 48), .extract (.t 42) 0, none, []⟩, ⟨(some 49), .extract (.t 42) 1, none, []⟩, ⟨(some 11), .mv (.t 48), none, []⟩, ⟨(some 12), .mv (.t 49), none, []⟩])
  ((.seq (.region [⟨(some 51), .mv (.t 8), none, []⟩, ⟨(some 52), .call .pure n_frame_Parse [(.t 51)], none, []⟩, ⟨(some 50), .mv (.t 52), none, []⟩, ⟨(some 53), .extract (.t 50) 0, none, []⟩, ⟨(some 54), .extract (.t 50) 1, none, []⟩, ⟨(some 55), .extract (.t 50) 2, none, []⟩, ⟨(some 56), .extract (.t 50) 3, none, []⟩, ⟨(some 13), .box 3 (.c (.agg [(.int .i64 0), (.int .i64 0), (.int .i64 0), (.int .i64 0), (.int .i64 0), (.int .i64 0), (.int .i64 0), (.int .i64 0), (.islc false true 0 [])])), none, []⟩, ⟨none, .store 9 (.t 13) (.t 53), none, []⟩, ⟨(some 14), .mv (.t 54), none, []⟩, ⟨(some 15), .mv (.t 55), none, []⟩, ⟨(some 16), .mv (.t 56), none, []⟩])
  ((.seq (.region [⟨(some 58), .mv (.t 2), none, []⟩, ⟨(some 59), .call .pure n_ref01_ParseFrame [(.t 58)], none, []⟩, ⟨(some 57), .mv (.t 59), none, []⟩, ⟨(some 60), .extract (.t 57) 0, none, []⟩, ⟨(some 61), .extract (.t 57) 1, none, []⟩, ⟨(some 62), .extract (.t 57) 2, none, []⟩, ⟨(some 63), .extract (.t 57) 3, none, []⟩, ⟨(some 17), .box 4 (.c (.agg [(.int .i64 0), (.int .i64 0), (.int .i64 0), (.int .i64 0), (.int .i64 0), (.int .i64 0), (.int .i64 0), (.int .i64 0), (.islc false true 0 [])])), none, []⟩, ⟨none, .store 9 (.t 17) (.t 60), none, []⟩, ⟨(some 18), .mv (.t 61), none, []⟩, ⟨(some 19), .mv (.t 62), none, []⟩, ⟨(some 20), .mv (.t 63), none, []⟩])
  ((.seq ((.seq (.region [⟨(some 64), .load 9 true (.t 13), none, []⟩, ⟨(some 65), .load 9 true (.t 17), none, []⟩, ⟨(some 66), .call .pure n_keep_Command [(.t 64), (.t 65)], none, []⟩, ⟨(some 67), .un .not (.t 66), none, []⟩, ⟨(some 68), .mv (.t 67), none, []⟩, ⟨(some 69), .mv (.t 14), (some (68, false)), []⟩, ⟨(some 70), .mv (.t 18), (some (68, false)), []⟩, ⟨(some 71), .bin .neq (.t 69) (.t 70), (some (68, false)), []⟩, ⟨(some 72), .pick (.t 68) (.c (.bool true)) (.t 71), none, []⟩, ⟨(some 73), .mv (.t 72), none, []⟩, ⟨(some 74), .mv (.t 15), (some (73, false)), []⟩, ⟨(some 75), .mv (.t 19), (some (73, false)), []⟩, ⟨(some 76), .bin .neq (.t 74) (.t 75), (some (73, false)), []⟩, ⟨(some 77), .pick (.t 73) (.c (.bool true)) (.t 76), none, []⟩, ⟨(some 78), .mv (.t 77), none, []⟩, ⟨(some 79), .mv (.t 16), (some (78, false)), []⟩, ⟨(some 80), .mv (.t 20), (some (78, false)), []⟩, ⟨(some 81), .bin .neq (.t 79) (.t 80), (some (78, false)), []⟩, ⟨(some 82), .pick (.t 78) (.c (.bool true)) (.t 81), none, []⟩, ⟨(some 83), .mv (.t 82), none, []⟩, ⟨(some 84), .mv (.t 8), (some (83, false)), []⟩, ⟨(some 85), .mv (.t 2), (some (83, false)), []⟩, ⟨(some 86), .call .pure n_keep_Bytes [(.t 84), (.t 85)], (some (83, false)), []⟩, ⟨(some 87), .un .not (.t 86), (some (83, false)), []⟩, ⟨(some 88), .pick (.t 83) (.c (.bool true)) (.t 87), none, []⟩, ⟨(some 89), .mv (.t 88), none, []⟩, ⟨(some 90), .mv (.t 7), (some (89, false)), []⟩, ⟨(some 91), .iaddr 9 (.t 90) (.c (.int .i64 0)), (some (89, false)), []⟩, ⟨(some 92), .load 9 true (.t 91), (some (89, false)), []⟩, ⟨(some 93), .load 9 true (.t 3), (some (89, false)), []⟩, ⟨(some 94), .call .pure n_keep_Command [(.t 92), (.t 93)], (some (89, false)), []⟩, ⟨(some 95), .un .not (.t 94), (some (89, false)), []⟩, ⟨(some 96), .pick (.t 89) (.c (.bool true)) (.t 95), none, []⟩])
  (.cond (.t 96) ((.seq (.region [⟨(some 6), .mv (.c (.bool false)), none, []⟩])
  (.ret))) (.skip))))
  ((.seq ((.seq (.region [⟨(some 97), .load 9 true (.t 3), none, []⟩, ⟨(some 98), .call .pure n_ref01_Command [(.t 97)], none, []⟩, ⟨(some 99), .un .not (.t 98), none, []⟩])
  (.cond (.t 99) ((.seq (.region [⟨(some 100), .load 9 true (.t 3), none, []⟩, ⟨(some 101), .call .pure n_frame_Check [(.t 100)], none, []⟩, ⟨(some 102), .bin .eql (.t 101) (.c (.int .i64 1)), none, []⟩, ⟨(some 103), .mv (.t 102), none, []⟩, ⟨(some 104), .mv (.t 10), (some (103, true)), []⟩, ⟨(some 105), .bin .eql (.t 104) (.c (.int .i64 1)), (some (103, true)), []⟩, ⟨(some 106), .pick (.t 103) (.t 105) (.c (.bool false)), none, []⟩, ⟨(some 107), .mv (.t 106), none, []⟩, ⟨(some 108), .mv (.t 12), (some (107, true)), []⟩, ⟨(some 109), .bin .eql (.t 108) (.c (.int .i64 1)), (some (107, true)), []⟩, ⟨(some 110), .pick (.t 107) (.t 109) (.c (.bool false)), none, []⟩, ⟨(some 111), .mv (.t 110), none, []⟩, ⟨(some 112), .mv (.t 9), (some (111, true)), []⟩, ⟨(some 113), .len (.t 112), (some (111, true)), []⟩, ⟨(some 114), .mv (.t 11), (some (111, true)), []⟩, ⟨(some 115), .len (.t 114), (some (111, true)), []⟩, ⟨(some 116), .bin .add (.t 113) (.t 115), (some (111, true)), []⟩, ⟨(some 117), .bin .eql (.t 116) (.c (.int .i64 0)), (some (111, true)), []⟩, ⟨(some 118), .pick (.t 111) (.t 117) (.c (.bool false)), none, []⟩, ⟨(some 119), .mv (.t 118), none, []⟩, ⟨(some 120), .call .pure n_law09_wakes [], (some (119, true)), []⟩, ⟨(some 121), .pick (.t 119) (.t 120) (.c (.bool false)), none, []⟩, ⟨(some 6), .mv (.t 121), none, []⟩])
  (.ret))) (.skip))))
  ((.seq ((.seq (.region [⟨(some 122), .load 9 true (.t 3), none, []⟩, ⟨(some 123), .call .pure n_frame_Check [(.t 122)], none, []⟩, ⟨(some 124), .bin .neq (.t 123) (.c (.int .i64 0)), none, []⟩, ⟨(some 125), .mv (.t 124), none, []⟩, ⟨(some 126), .mv (.t 10), (some (125, false)), []⟩, ⟨(some 127), .bin .neq (.t 126) (.c (.int .i64 0)), (some (125, false)), []⟩, ⟨(some 128), .pick (.t 125) (.c (.bool true)) (.t 127), none, []⟩, ⟨(some 129), .mv (.t 128), none, []⟩, ⟨(some 130), .mv (.t 9), (some (129, false)), []⟩, ⟨(some 131), .load 9 true (.t 3), (some (129, false)), []⟩, ⟨(some 132), .call .pure n_ref01_Payload [(.t 131)], (some (129, false)), []⟩, ⟨(some 133), .call .pure n_keep_Bytes [(.t 130), (.t 132)], (some (129, false)), []⟩, ⟨(some 134), .un .not (.t 133), (some (129, false)), []⟩, ⟨(some 135), .pick (.t 129) (.c (.bool true)) (.t 134), none, []⟩])
  (.cond (.t 135) ((.seq (.region [⟨(some 6), .mv (.c (.bool false)), none, []⟩])
  (.ret))) (.skip))))
  ((.seq ((.seq (.region [⟨(some 136), .mv (.t 1), none, []⟩, ⟨(some 137), .bin .lss (.t 136) (.c (.int .i64 0)), none, []⟩, ⟨(some 138), .mv (.t 137), none, []⟩, ⟨(some 139), .mv (.t 1), (some (138, false)), []⟩, ⟨(some 140), .bin .gtr (.t 139) (.c (.int .i64 4294967295)), (some (138, false)), []⟩, ⟨(some 141), .pick (.t 138) (.c (.bool true)) (.t 140), none, []⟩])
  (.cond (.t 141) ((.seq (.region [⟨(some 142), .mv (.t 12), none, []⟩, ⟨(some 143), .bin .eql (.t 142) (.c (.int .i64 1)), none, []⟩, ⟨(some 144), .mv (.t 143), none, []⟩, ⟨(some 145), .mv (.t 11), (some (144, true)), []⟩, ⟨(some 146), .len (.t 145), (some (144, true)), []⟩, ⟨(some 147), .bin .eql (.t 146) (.c (.int .i64 0)), (some (144, true)), []⟩, ⟨(some 148), .pick (.t 144) (.t 147) (.c (.bool false)), none, []⟩, ⟨(some 149), .mv (.t 148), none, []⟩, ⟨(some 150), .call .pure n_law09_wakes [], (some (149, true)), []⟩, ⟨(some 151), .pick (.t 149) (.t 150) (.c (.bool false)), none, []⟩, ⟨(some 6), .mv (.t 151), none, []⟩])
  (.ret))) (.skip))))
  ((.seq (.region [⟨(some 152), .mv (.t 12), none, []⟩, ⟨(some 153), .bin .eql (.t 152) (.c (.int .i64 0)), none, []⟩, ⟨(some 154), .mv (.t 153), none, []⟩, ⟨(some 155), .mv (.t 11), (some (154, true)), []⟩, ⟨(some 156), .mv (.t 1), (some (154, true)), []⟩, ⟨(some 157), .load 9 true (.t 3), (some (154, true)), []⟩, ⟨(some 158), .call .pure n_ref01_FrameBytes [(.t 156), (.t 157)], (some (154, true)), []⟩, ⟨(some 159), .call .pure n_keep_Bytes [(.t 155), (.t 158)], (some (154, true)), []⟩, ⟨(some 160), .pick (.t 154) (.t 159) (.c (.bool false)), none, []⟩, ⟨(some 161), .mv (.t 160), none, []⟩, ⟨(some 162), .call .pure n_law09_wakes [], (some (161, true)), []⟩, ⟨(some 163), .pick (.t 161) (.t 162) (.c (.bool false)), none, []⟩, ⟨(some 6), .mv (.t 163), none, []⟩])
  (.ret))))))))))))))))))))))))⟩

def h_law09_FrameExact : List (Nat × Nat × Hint) := [(0, 0, ⟨0, .pure, false⟩), (3, 1, ⟨1, .pure, false⟩), (3, 4, ⟨0, (.fresh 2), false⟩), (6, 7, ⟨3, .pure, false⟩), (7, 7, ⟨4, .pure, false⟩)]
theorem strip_law09_FrameExact : stripFun Try.prog (fun r i => findH h_law09_FrameExact r i) Try.f3 = some law09_FrameExact := by kernel_rfl

def law09_FrameBack_l0 : SCode := (.seq ((.seq (.region [⟨(some 115), .mv (.t 22), none, []⟩, ⟨(some 116), .bin .lss (.t 115) (.c (.int .i64 4)), none, []⟩])
  (.cond (.t 116) (.skip) (.exit 0))))
  ((.seq (.block 1 ((.seq (.region [⟨(some 119), .mv (.t 11), none, []⟩, ⟨(some 120), .mv (.t 3), none, []⟩, ⟨(some 121), .mv (.t 22), none, []⟩, ⟨(some 122), .bin .add (.t 120) (.t 121), none, []⟩, ⟨(some 123), .mv (.t 11), none, []⟩, ⟨(some 124), .mv (.t 3), none, []⟩, ⟨(some 125), .mv (.t 22), none, []⟩, ⟨(some 126), .bin .add (.t 124) (.t 125), none, []⟩, ⟨(some 127), .iaddr 1 (.t 123) (.t 126), none, []⟩, ⟨(some 128), .load 1 false (.t 127), none, []⟩, ⟨(some 129), .mv (.t 22), none, []⟩, ⟨(some 130), .iaddrA 4 1 (.t 9) (.t 129), none, []⟩, ⟨(some 131), .load 1 false (.t 130), none, []⟩, ⟨(some 132), .bin .xor (.t 128) (.t 131), none, []⟩, ⟨(some 133), .iaddr 1 (.t 119) (.t 122), none, []⟩, ⟨none, .store 1 (.t 133) (.t 132), none, []⟩])
  (.region [⟨(some 134), .mv (.t 21), none, []⟩, ⟨(some 135), .mv (.t 134), none, []⟩, ⟨(some 136), .mv (.t 22), (some (135, false)), []⟩, ⟨(some 137), .iaddrA 4 1 (.t 9) (.t 136), (some (135, false)), []⟩, ⟨(some 138), .load 1 false (.t 137), (some (135, false)), []⟩, ⟨(some 139), .bin .neq (.t 138) (.c (.int .u8 0)), (some (135, false)), []⟩, ⟨(some 140), .pick (.t 135) (.c (.bool true)) (.t 139), none, []⟩, ⟨(some 21), .mv (.t 140), none, []⟩]))))
  (.region [⟨(some 117), .mv (.t 22), none, []⟩, ⟨(some 118), .bin .add (.t 117) (.c (.int .i64 1)), none, []⟩, ⟨(some 22), .mv (.t 118), none, []⟩]))))

def law09_FrameBack : SFun := ⟨5, [.tmp 10],
  (.seq (.region [⟨(some 5), .box 0 (.t 0), none, []⟩, ⟨(some 9), .box 1 (.t 4), none, []⟩, ⟨(some 10), .mv (.c (.bool false)), none, []⟩])
  ((.seq ((.seq (.region [⟨(some 27), .faddr 8 (.t 5), none, []⟩, ⟨(some 28), .load 1 false (.t 27), none, []⟩, ⟨(some 29), .len (.t 28), none, []⟩, ⟨(some 30), .bin .gtr (.t 29) (.c (.int .i64 1500)), none, []⟩, ⟨(some 31), .mv (.t 30), none, []⟩, ⟨(some 32), .mv (.t 2), (some (31, false)), []⟩, ⟨(some 33), .len (.t 32), (some (31, false)), []⟩, ⟨(some 34), .bin .gtr (.t 33) (.c (.int .i64 200)), (some (31, false)), []⟩, ⟨(some 35), .pick (.t 31) (.c (.bool true)) (.t 34), none, []⟩])
  (.cond (.t 35) ((.seq (.region [⟨(some 10), .mv (.c (.bool true)), none, []⟩])
  (.ret))) (.skip))))
  ((.seq (.region [⟨(some 37), .mv (.t 1), none, []⟩, ⟨(some 38), .load 9 true (.t 5), none, []⟩, ⟨(some 39), .call (.fresh 2) n_frame_Bytes [(.t 37), (.t 38)], none, []⟩, ⟨(some 36), .mv (.t 39), none, []⟩, ⟨(some 40), .extract (.t 36) 0, none, []⟩, ⟨(some 41), .extract (.t 36) 1, none, []⟩, ⟨(some 11), .mv (.t 40), none, []⟩, ⟨(some 12), .mv (.t 41), none, []⟩])
  ((.seq ((.seq (.region [⟨(some 42), .mv (.t 12), none, []⟩, ⟨(some 43), .bin .neq (.t 42) (.c (.int .i64 0)), none, []⟩, ⟨(some 44), .mv (.t 43), none, []⟩, ⟨(some 45), .mv (.t 11), (some (44, false)), []⟩, ⟨(some 46), .len (.t 45), (some (44, false)), []⟩, ⟨(some 47), .bin .lss (.t 46) (.c (.int .i64 4)), (some (44, false)), []⟩, ⟨(some 48), .pick (.t 44) (.c (.bool true)) (.t 47), none, []⟩])
  (.cond (.t 48) ((.seq (.region [⟨(some 49), .mv (.t 12), none, []⟩, ⟨(some 50), .bin .eql (.t 49) (.c (.int .i64 1)), none, []⟩, ⟨(some 51), .mv (.t 50), none, []⟩, ⟨(some 52), .mv (.t 11), (some (51, true)), []⟩, ⟨(some 53), .len (.t 52), (some (51, true)), []⟩, ⟨(some 54), .bin .eql (.t 53) (.c (.int .i64 0)), (some (51, true)), []⟩, ⟨(some 55), .pick (.t 51) (.t 54) (.c (.bool false)), none, []⟩, ⟨(some 56), .mv (.t 55), none, []⟩, ⟨(some 57), .call .pure n_law09_wakes [], (some (56, true)), []⟩, ⟨(some 58), .pick (.t 56) (.t 57) (.c (.bool false)), none, []⟩, ⟨(some 10), .mv (.t 58), none, []⟩])
  (.ret))) (.skip))))
  ((.seq (.region [⟨(some 60), .mv (.t 11), none, []⟩, ⟨(some 61), .call (.fresh 3) n_keep_Twin [(.t 60)], none, []⟩, ⟨(some 62), .mv (.t 2), none, []⟩, ⟨(some 63), .app 4 1 (.t 61) (.t 62), none, []⟩, ⟨(some 64), .call .pure n_frame_Parse [(.t 63)], none, []⟩, ⟨(some 59), .mv (.t 64), none, []⟩, ⟨(some 65), .extract (.t 59) 0, none, []⟩, ⟨(some 66), .extract (.t 59) 1, none, []⟩, ⟨(some 67), .extract (.t 59) 2, none, []⟩, ⟨(some 68), .extract (.t 59) 3, none, []⟩, ⟨(some 13), .box 5 (.c (.agg [(.int .i64 0), (.int .i64 0), (.int .i64 0), (.int .i64 0), (.int .i64 0), (.int .i64 0), (.int .i64 0), (.int .i64 0), (.islc false true 0 [])])), none, []⟩, ⟨none, .store 9 (.t 13) (.t 65), none, []⟩, ⟨(some 14), .mv (.t 66), none, []⟩, ⟨(some 15), .mv (.t 67), none, []⟩, ⟨(some 16), .mv (.t 68), none, []⟩])
  ((.seq (.region [⟨(some 70), .mv (.t 11), none, []⟩, ⟨(some 71), .mv (.t 3), none, []⟩, ⟨(some 72), .cvi .u64 (.t 71), none, []⟩, ⟨(some 73), .mv (.t 11), none, []⟩, ⟨(some 74), .len (.t 73), none, []⟩, ⟨(some 75), .cvi .u64 (.t 74), none, []⟩, ⟨(some 76), .bin .rem (.t 72) (.t 75), none, []⟩, ⟨(some 77), .cvi .i64 (.t 76), none, []⟩, ⟨(some 78), .slice 1 (.t 70) none (some (.t 77)) none, none, []⟩, ⟨(some 79), .call .pure n_frame_Parse [(.t 78)], none, []⟩, ⟨(some 69), .mv (.t 79), none, []⟩, ⟨(some 80), .extract (.t 69) 0, none, []⟩, ⟨(some 81), .extract (.t 69) 1, none, []⟩, ⟨(some 82), .extract (.t 69) 2, none, []⟩, ⟨(some 83), .extract (.t 69) 3, none, []⟩, ⟨(some 17), .box 6 (.c (.agg [(.int .i64 0), (.int .i64 0), (.int .i64 0), (.int .i64 0), (.int .i64 0), (.int .i64 0), (.int .i64 0), (.int .i64 0), (.islc false true 0 [])])), none, []⟩, ⟨none, .store 9 (.t 17) (.t 80), none, []⟩, ⟨(some 18), .mv (.t 81), none, []⟩, ⟨(some 19), .mv (.t 82), none, []⟩, ⟨(some 20), .mv (.t 83), none, []⟩])
  ((.seq ((.seq (.region [⟨(some 84), .mv (.t 16), none, []⟩, ⟨(some 85), .bin .neq (.t 84) (.c (.int .i64 0)), none, []⟩, ⟨(some 86), .mv (.t 85), none, []⟩, ⟨(some 87), .load 9 true (.t 5), (some (86, false)), []⟩, ⟨(some 88), .load 9 true (.t 13), (some (86, false)), []⟩, ⟨(some 89), .call .pure n_keep_Command [(.t 87), (.t 88)], (some (86, false)), []⟩, ⟨(some 90), .un .not (.t 89), (some (86, false)), []⟩, ⟨(some 91), .pick (.t 86) (.c (.bool true)) (.t 90), none, []⟩, ⟨(some 92), .mv (.t 91), none, []⟩, ⟨(some 93), .mv (.t 14), (some (92, false)), []⟩, ⟨(some 94), .mv (.t 1), (some (92, false)), []⟩, ⟨(some 95), .bin .neq (.t 93) (.t 94), (some (92, false)), []⟩, ⟨(some 96), .pick (.t 92) (.c (.bool true)) (.t 95), none, []⟩, ⟨(some 97), .mv (.t 96), none, []⟩, ⟨(some 98), .mv (.t 15), (some (97, false)), []⟩, ⟨(some 99), .mv (.t 11), (some (97, false)), []⟩, ⟨(some 100), .len (.t 99), (some (97, false)), []⟩, ⟨(some 101), .bin .neq (.t 98) (.t 100), (some (97, false)), []⟩, ⟨(some 102), .pick (.t 97) (.c (.bool true)) (.t 101), none, []⟩, ⟨(some 103), .mv (.t 102), none, []⟩, ⟨(some 104), .mv (.t 20), (some (103, false)), []⟩, ⟨(some 105), .bin .neq (.t 104) (.c (.int .i64 16)), (some (103, false)), []⟩, ⟨(some 106), .pick (.t 103) (.c (.bool true)) (.t 105), none, []⟩])
  (.cond (.t 106) ((.seq (.region [⟨(some 10), .mv (.c (.bool false)), none, []⟩])
  (.ret))) (.skip))))
  ((.seq (.region [⟨(some 107), .mv (.t 3), none, []⟩, ⟨(some 108), .cvi .u64 (.t 107), none, []⟩, ⟨(some 109), .mv (.t 11), none, []⟩, ⟨(some 110), .len (.t 109), none, []⟩, ⟨(some 111), .bin .sub (.t 110) (.c (.int .i64 3)), none, []⟩, ⟨(some 112), .cvi .u64 (.t 111), none, []⟩, ⟨(some 113), .bin .rem (.t 108) (.t 112), none, []⟩, ⟨(some 114), .cvi .i64 (.t 113), none, []⟩, ⟨(some 3), .mv (.t 114), none, []⟩])
  ((.seq (.region [⟨(some 21), .mv (.c (.bool false)), none, []⟩])
  ((.seq ((.seq (.region [⟨(some 22), .mv (.c (.int .i64 0)), none, []⟩])
  (.block 0 (.loop law09_FrameBack_l0))))
  ((.seq (.region [⟨(some 142), .mv (.t 11), none, []⟩, ⟨(some 143), .call .pure n_frame_Parse [(.t 142)], none, []⟩, ⟨(some 141), .mv (.t 143), none, []⟩, ⟨(some 144), .extract (.t 141) 0, none, []⟩, ⟨(some 145), .extract (.t 141) 1, none, []⟩, ⟨(some 146), .extract (.t 141) 2, none, []⟩, ⟨(some 147), .extract (.t 141) 3, none, []⟩, ⟨(some 23), .box 7 (.c (.agg [(.int .i64 0), (.int .i64 0), (.int .i64 0), (.int .i64 0), (.int .i64 0), (.int .i64 0), (.int .i64 0), (.int .i64 0), (.islc false true 0 [])])), none, []⟩, ⟨none, .store 9 (.t 23) (.t 144), none, []⟩, ⟨(some 24), .mv (.t 145), none, []⟩, ⟨(some 25), .mv (.t 146), none, []⟩, ⟨(some 26), .mv (.t 147), none, []⟩])
  ((.seq ((.seq (.region [⟨(some 148), .mv (.t 21), none, []⟩, ⟨(some 149), .un .not (.t 148), none, []⟩])
  (.cond (.t 149) ((.seq (.region [⟨(some 150), .mv (.t 26), none, []⟩, ⟨(some 151), .bin .eql (.t 150) (.c (.int .i64 0)), none, []⟩, ⟨(some 152), .mv (.t 151), none, []⟩, ⟨(some 153), .call .pure n_law09_wakes [], (some (152, true)), []⟩, ⟨(some 154), .pick (.t 152) (.t 153) (.c (.bool false)), none, []⟩, ⟨(some 10), .mv (.t 154), none, []⟩])
  (.ret))) (.skip))))
  ((.seq ((.seq (.region [⟨(some 155), .mv (.t 3), none, []⟩, ⟨(some 156), .bin .lss (.t 155) (.c (.int .i64 16)), none, []⟩, ⟨(some 157), .mv (.t 156), none, []⟩, ⟨(some 158), .mv (.t 3), (some (157, true)), []⟩, ⟨(some 159), .bin .add (.t 158) (.c (.int .i64 4)), (some (157, true)), []⟩, ⟨(some 160), .bin .gtr (.t 159) (.c (.int .i64 12)), (some (157, true)), []⟩, ⟨(some 161), .pick (.t 157) (.t 160) (.c (.bool false)), none, []⟩])
  (.cond (.t 161) ((.seq (.region [⟨(some 162), .call .pure n_law09_wakes [], none, []⟩, ⟨(some 10), .mv (.t 162), none, []⟩])
  (.ret))) (.skip))))
  ((.seq (.region [⟨(some 163), .mv (.t 26), none, []⟩, ⟨(some 164), .bin .neq (.t 163) (.c (.int .i64 0)), none, []⟩, ⟨(some 165), .mv (.t 164), none, []⟩, ⟨(some 166), .call .pure n_law09_wakes [], (some (165, true)), []⟩, ⟨(some 167), .pick (.t 165) (.t 166) (.c (.bool false)), none, []⟩, ⟨(some 10), .mv (.t 167), none, []⟩])
  (.ret))))))))))))))))))))))))))))⟩

def h_law09_FrameBack : List (Nat × Nat × Hint) := [(0, 0, ⟨0, .pure, false⟩), (0, 1, ⟨1, .pure, false⟩), (3, 2, ⟨0, (.fresh 2), false⟩), (6, 1, ⟨0, (.fresh 3), false⟩), (6, 3, ⟨4, .pure, false⟩), (6, 10, ⟨5, .pure, false⟩), (7, 15, ⟨6, .pure, false⟩), (17, 7, ⟨7, .pure, false⟩)]
theorem strip_law09_FrameBack : stripFun Try.prog (fun r i => findH h_law09_FrameBack r i) Try.f4 = some law09_FrameBack := by kernel_rfl

def law09_FramePayload : SFun := ⟨3, [.tmp 6],
  (.seq (.region [⟨(some 3), .box 0 (.t 0), none, []⟩, ⟨(some 4), .box 1 (.t 1), none, []⟩, ⟨(some 6), .mv (.c (.bool false)), none, []⟩])
  ((.seq ((.seq (.region [⟨(some 13), .faddr 8 (.t 3), none, []⟩, ⟨(some 14), .load 1 false (.t 13), none, []⟩, ⟨(some 15), .len (.t 14), none, []⟩, ⟨(some 16), .bin .gtr (.t 15) (.c (.int .i64 1500)), none, []⟩, ⟨(some 17), .mv (.t 16), none, []⟩, ⟨(some 18), .faddr 8 (.t 4), (some (17, false)), []⟩, ⟨(some 19), .load 1 false (.t 18), (some (17, false)), []⟩, ⟨(some 20), .len (.t 19), (some (17, false)), []⟩, ⟨(some 21), .bin .gtr (.t 20) (.c (.int .i64 1500)), (some (17, false)), []⟩, ⟨(some 22), .pick (.t 17) (.c (.bool true)) (.t 21), none, []⟩])
  (.cond (.t 22) ((.seq (.region [⟨(some 6), .mv (.c (.bool true)), none, []⟩])
  (.ret))) (.skip))))
  ((.seq (.region [⟨(some 23), .mv (.t 2), none, []⟩, ⟨(some 24), .cvi .u64 (.t 23), none, []⟩, ⟨(some 25), .bin .rem (.t 24) (.c (.int .u64 4294967296)), none, []⟩, ⟨(some 26), .cvi .i64 (.t 25), none, []⟩, ⟨(some 2), .mv (.t 26), none, []⟩])
  ((.seq (.region [⟨(some 28), .load 9 true (.t 3), none, []⟩, ⟨(some 29), .call .pure n_frame_Payload [(.t 28)], none, []⟩, ⟨(some 27), .mv (.t 29), none, []⟩, ⟨(some 30), .extract (.t 27) 0, none, []⟩, ⟨(some 31), .extract (.t 27) 1, none, []⟩, ⟨(some 7), .mv (.t 30), none, []⟩, ⟨(some 8), .mv (.t 31), none, []⟩])
  ((.seq (.region [⟨(some 33), .load 9 true (.t 4), none, []⟩, ⟨(some 34), .call .pure n_frame_Payload [(.t 33)], none, []⟩, ⟨(some 32), .mv (.t 34), none, []⟩, ⟨(some 35), .extract (.t 32) 0, none, []⟩, ⟨(some 36), .extract (.t 32) 1, none, []⟩, ⟨(some 9), .mv (.t 35), none, []⟩, ⟨(some 10), .mv (.t 36), none, []⟩])
  ((.seq (.region [⟨(some 38), .mv (.t 2), none, []⟩, ⟨(some 39), .load 9 true (.t 3), none, []⟩, ⟨(some 40), .call .pure n_frame_Bytes [(.t 38), (.t 39)], none, []⟩, ⟨(some 37), .mv (.t 40), none, []⟩, ⟨(some 41), .extract (.t 37) 0, none, []⟩, ⟨(some 42), .extract (.t 37) 1, none, []⟩, ⟨(some 11), .mv (.t 41), none, []⟩, ⟨(some 12), .mv (.t 42), none, []⟩])
  ((.seq ((.seq (.region [⟨(some 43), .mv (.t 8), none, []⟩, ⟨(some 44), .bin .neq (.t 43) (.c (.int .i64 0)), none, []⟩, ⟨(some 45), .mv (.t 44), none, []⟩, ⟨(some 46), .mv (.t 10), (some (45, false)), []⟩, ⟨(some 47), .bin .neq (.t 46) (.c (.int .i64 0)), (some (45, false)), []⟩, ⟨(some 48), .pick (.t 45) (.c (.bool true)) (.t 47), none, []⟩])
  (.cond (.t 48) ((.seq (.region [⟨(some 49), .mv (.t 8), none, []⟩, ⟨(some 50), .mv (.t 12), none, []⟩, ⟨(some 51), .bin .eql (.t 49) (.t 50), none, []⟩, ⟨(some 52), .mv (.t 51), none, []⟩, ⟨(some 53), .mv (.t 8), (some (52, true)), []⟩, ⟨(some 54), .bin .eql (.t 53) (.c (.int .i64 0)), (some (52, true)), []⟩, ⟨(some 55), .mv (.t 54), (some (52, true)), []⟩, ⟨(some 56), .mv (.t 7), (some (55, false)), []⟩, ⟨(some 57), .len (.t 56), (some (55, false)), []⟩, ⟨(some 58), .mv (.t 11), (some (55, false)), []⟩, ⟨(some 59), .len (.t 58), (some (55, false)), []⟩, ⟨(some 60), .bin .add (.t 57) (.t 59), (some (55, false)), []⟩, ⟨(some 61), .bin .eql (.t 60) (.c (.int .i64 0)), (some (55, false)), []⟩, ⟨(some 62), .pick (.t 55) (.c (.bool true)) (.t 61), (some (52, true)), []⟩, ⟨(some 63), .pick (.t 52) (.t 62) (.c (.bool false)), none, []⟩, ⟨(some 64), .mv (.t 63), none, []⟩, ⟨(some 65), .call .pure n_law09_wakes [], (some (64, true)), []⟩, ⟨(some 66), .pick (.t 64) (.t 65) (.c (.bool false)), none, []⟩, ⟨(some 6), .mv (.t 66), none, []⟩])
  (.ret))) (.skip))))
  ((.seq ((.seq (.region [⟨(some 67), .mv (.t 12), none, []⟩, ⟨(some 68), .bin .neq (.t 67) (.c (.int .i64 0)), none, []⟩, ⟨(some 69), .mv (.t 68), none, []⟩, ⟨(some 70), .mv (.t 11), (some (69, false)), []⟩, ⟨(some 71), .len (.t 70), (some (69, false)), []⟩, ⟨(some 72), .mv (.t 7), (some (69, false)), []⟩, ⟨(some 73), .len (.t 72), (some (69, false)), []⟩, ⟨(some 74), .bin .add (.t 73) (.c (.int .i64 20)), (some (69, false)), []⟩, ⟨(some 75), .bin .neq (.t 71) (.t 74), (some (69, false)), []⟩, ⟨(some 76), .pick (.t 69) (.c (.bool true)) (.t 75), none, []⟩, ⟨(some 77), .mv (.t 76), none, []⟩, ⟨(some 78), .mv (.t 11), (some (77, false)), []⟩, ⟨(some 79), .mv (.t 11), (some (77, false)), []⟩, ⟨(some 80), .len (.t 79), (some (77, false)), []⟩, ⟨(some 81), .bin .sub (.t 80) (.c (.int .i64 4)), (some (77, false)), []⟩, ⟨(some 82), .slice 1 (.t 78) (some (.c (.int .i64 16))) (some (.t 81)) none, (some (77, false)), []⟩, ⟨(some 83), .mv (.t 7), (some (77, false)), []⟩, ⟨(some 84), .call .pure n_keep_Bytes [(.t 82), (.t 83)], (some (77, false)), []⟩, ⟨(some 85), .un .not (.t 84), (some (77, false)), []⟩, ⟨(some 86), .pick (.t 77) (.c (.bool true)) (.t 85), none, []⟩])
  (.cond (.t 86) ((.seq (.region [⟨(some 6), .mv (.c (.bool false)), none, []⟩])
  (.ret))) (.skip))))
  ((.seq (.region [⟨(some 87), .faddr 0 (.t 3), none, []⟩, ⟨(some 88), .load 1 false (.t 87), none, []⟩, ⟨(some 89), .faddr 0 (.t 4), none, []⟩, ⟨(some 90), .load 1 false (.t 89), none, []⟩, ⟨(some 91), .bin .neq (.t 88) (.t 90), none, []⟩, ⟨(some 92), .mv (.t 91), none, []⟩, ⟨(some 93), .mv (.t 7), (some (92, false)), []⟩, ⟨(some 94), .mv (.t 9), (some (92, false)), []⟩, ⟨(some 95), .call .pure n_keep_Bytes [(.t 93), (.t 94)], (some (92, false)), []⟩, ⟨(some 96), .load 9 true (.t 3), (some (92, false)), []⟩, ⟨(some 97), .load 9 true (.t 4), (some (92, false)), []⟩, ⟨(some 98), .call .pure n_keep_Command [(.t 96), (.t 97)], (some (92, false)), []⟩, ⟨(some 99), .eqb false (.t 95) (.t 98), (some (92, false)), []⟩, ⟨(some 100), .pick (.t 92) (.c (.bool true)) (.t 99), none, []⟩, ⟨(some 101), .mv (.t 100), none, []⟩, ⟨(some 102), .call .pure n_law09_wakes [], (some (101, true)), []⟩, ⟨(some 103), .pick (.t 101) (.t 102) (.c (.bool false)), none, []⟩, ⟨(some 6), .mv (.t 103), none, []⟩])
  (.ret))))))))))))))))))⟩

def h_law09_FramePayload : List (Nat × Nat × Hint) := [(0, 0, ⟨0, .pure, false⟩), (0, 1, ⟨1, .pure, false⟩)]
theorem strip_law09_FramePayload : stripFun Try.prog (fun r i => findH h_law09_FramePayload r i) Try.f5 = some law09_FramePayload := by kernel_rfl

def law09_FrameBounds : SFun := ⟨2, [.tmp 4],
  (.seq (.region [⟨(some 4), .mv (.c (.bool false)), none, []⟩])
  ((.seq (.region [⟨(some 11), .mv (.t 0), none, []⟩, ⟨(some 12), .cvi .u64 (.t 11), none, []⟩, ⟨(some 13), .bin .rem (.t 12) (.c (.int .u64 513)), none, []⟩, ⟨(some 14), .cvi .i64 (.t 13), none, []⟩, ⟨(some 15), .mv (.t 1), none, []⟩, ⟨(some 16), .cvi .u64 (.t 15), none, []⟩, ⟨(some 17), .bin .rem (.t 16) (.c (.int .u64 20)), none, []⟩, ⟨(some 18), .cvi .i64 (.t 17), none, []⟩, ⟨(some 0), .mv (.t 14), none, []⟩, ⟨(some 1), .mv (.t 18), none, []⟩])
  ((.seq (.region [⟨(some 19), .mv (.t 1), none, []⟩, ⟨(some 20), .bin .geq (.t 19) (.c (.int .i64 1)), none, []⟩, ⟨(some 21), .mv (.t 20), none, []⟩, ⟨(some 22), .mv (.t 0), (some (21, true)), []⟩, ⟨(some 23), .mv (.t 1), (some (21, true)), []⟩, ⟨(some 24), .bin .add (.t 22) (.t 23), (some (21, true)), []⟩, ⟨(some 25), .bin .leq (.t 24) (.c (.int .i64 512)), (some (21, true)), []⟩, ⟨(some 26), .pick (.t 21) (.t 25) (.c (.bool false)), none, []⟩, ⟨(some 5), .mv (.t 26), none, []⟩])
  ((.seq (.region [⟨(some 27), .mv (.t 0), none, []⟩, ⟨(some 28), .mv (.t 1), none, []⟩, ⟨(some 29), .build [(.int .i64 0), (.int .i64 0), (.int .i64 0), (.int .i64 0), (.int .i64 0), (.int .i64 0), (.int .i64 0), (.int .i64 0), (.islc false true 0 [])] [(0, 1, (.c (.int .i64 3))), (4, 1, (.t 27)), (5, 1, (.t 28))], none, []⟩, ⟨(some 6), .box 0 (.c (.agg [(.int .i64 0), (.int .i64 0), (.int .i64 0), (.int .i64 0), (.int .i64 0), (.int .i64 0), (.int .i64 0), (.int .i64 0), (.islc false true 0 [])])), none, []⟩, ⟨none, .store 9 (.t 6) (.t 29), none, []⟩])
  ((.seq (.region [⟨(some 30), .mv (.t 1), none, []⟩, ⟨(some 31), .mv (.t 0), none, []⟩, ⟨(some 32), .build [(.int .i64 0), (.int .i64 0), (.int .i64 0), (.int .i64 0), (.int .i64 0), (.int .i64 0), (.int .i64 0), (.int .i64 0), (.islc false true 0 [])] [(0, 1, (.c (.int .i64 4))), (4, 1, (.c (.int .i64 0))), (5, 1, (.t 30)), (6, 1, (.t 31))], none, []⟩, ⟨(some 7), .box 1 (.c (.agg [(.int .i64 0), (.int .i64 0), (.int .i64 0), (.int .i64 0), (.int .i64 0), (.int .i64 0), (.int .i64 0), (.int .i64 0), (.islc false true 0 [])])), none, []⟩, ⟨none, .store 9 (.t 7) (.t 32), none, []⟩])
  ((.seq (.region [⟨(some 33), .mv (.t 0), none, []⟩, ⟨(some 34), .mv (.t 1), none, []⟩, ⟨(some 35), .bin .mul (.t 34) (.c (.int .i64 64)), none, []⟩, ⟨(some 36), .mks 2 1 (.int .u8 0) (.t 35) (.t 35), none, []⟩, ⟨(some 37), .build [(.int .i64 0), (.int .i64 0), (.int .i64 0), (.int .i64 0), (.int .i64 0), (.int .i64 0), (.int .i64 0), (.int .i64 0), (.islc false true 0 [])] [(0, 1, (.c (.int .i64 2))), (4, 1, (.t 33)), (8, 1, (.t 36))], none, []⟩, ⟨(some 8), .box 3 (.c (.agg [(.int .i64 0), (.int .i64 0), (.int .i64 0), (.int .i64 0), (.int .i64 0), (.int .i64 0), (.int .i64 0), (.int .i64 0), (.islc false true 0 [])])), none, []⟩, ⟨none, .store 9 (.t 8) (.t 37), none, []⟩])
  ((.seq (.region [⟨(some 38), .mv (.t 1), none, []⟩, ⟨(some 39), .bin .mul (.t 38) (.c (.int .i64 64)), none, []⟩, ⟨(some 40), .bin .add (.t 39) (.c (.int .i64 1)), none, []⟩, ⟨(some 41), .mks 4 1 (.int .u8 0) (.t 40) (.t 40), none, []⟩, ⟨(some 42), .build [(.int .i64 0), (.int .i64 0), (.int .i64 0), (.int .i64 0), (.int .i64 0), (.int .i64 0), (.int .i64 0), (.int .i64 0), (.islc false true 0 [])] [(0, 1, (.c (.int .i64 2))), (4, 1, (.c (.int .i64 0))), (8, 1, (.t 41))], none, []⟩, ⟨(some 9), .box 5 (.c (.agg [(.int .i64 0), (.int .i64 0), (.int .i64 0), (.int .i64 0), (.int .i64 0), (.int .i64 0), (.int .i64 0), (.int .i64 0), (.islc false true 0 [])])), none, []⟩, ⟨none, .store 9 (.t 9) (.t 42), none, []⟩])
  ((.seq (.region [⟨(some 43), .mv (.t 0), none, []⟩, ⟨(some 44), .build [(.int .i64 0), (.int .i64 0), (.int .i64 0), (.int .i64 0), (.int .i64 0), (.int .i64 0), (.int .i64 0), (.int .i64 0), (.islc false true 0 [])] [(0, 1, (.c (.int .i64 5))), (3, 1, (.t 43)), (5, 1, (.c (.int .i64 1)))], none, []⟩, ⟨(some 10), .box 6 (.c (.agg [(.int .i64 0), (.int .i64 0), (.int .i64 0), (.int .i64 0), (.int .i64 0), (.int .i64 0), (.int .i64 0), (.int .i64 0), (.islc false true 0 [])])), none, []⟩, ⟨none, .store 9 (.t 10) (.t 44), none, []⟩])
  ((.seq (.region [⟨(some 45), .load 9 true (.t 6), none, []⟩, ⟨(some 46), .call .pure n_frame_Check [(.t 45)], none, []⟩, ⟨(some 47), .bin .eql (.t 46) (.c (.int .i64 0)), none, []⟩, ⟨(some 48), .mv (.t 5), none, []⟩, ⟨(some 49), .eqb false (.t 47) (.t 48), none, []⟩, ⟨(some 50), .mv (.t 49), none, []⟩, ⟨(some 51), .load 9 true (.t 7), (some (50, true)), []⟩, ⟨(some 52), .call .pure n_frame_Check [(.t 51)], (some (50, true)), []⟩, ⟨(some 53), .bin .eql (.t 52) (.c (.int .i64 0)), (some (50, true)), []⟩, ⟨(some 54), .mv (.t 5), (some (50, true)), []⟩, ⟨(some 55), .eqb false (.t 53) (.t 54), (some (50, true)), []⟩, ⟨(some 56), .pick (.t 50) (.t 55) (.c (.bool false)), none, []⟩, ⟨(some 57), .mv (.t 56), none, []⟩, ⟨(some 58), .load 9 true (.t 8), (some (57, true)), []⟩, ⟨(some 59), .call .pure n_frame_Check [(.t 58)], (some (57, true)), []⟩, ⟨(some 60), .bin .eql (.t 59) (.c (.int .i64 0)), (some (57, true)), []⟩, ⟨(some 61), .mv (.t 5), (some (57, true)), []⟩, ⟨(some 62), .mv (.t 61), (some (57, true)), []⟩, ⟨(some 63), .mv (.t 1), (some (62, true)), []⟩, ⟨(some 64), .bin .leq (.t 63) (.c (.int .i64 8)), (some (62, true)), []⟩, ⟨(some 65), .pick (.t 62) (.t 64) (.c (.bool false)), (some (57, true)), []⟩, ⟨(some 66), .eqb false (.t 60) (.t 65), (some (57, true)), []⟩, ⟨(some 67), .pick (.t 57) (.t 66) (.c (.bool false)), none, []⟩, ⟨(some 68), .mv (.t 67), none, []⟩, ⟨(some 69), .load 9 true (.t 9), (some (68, true)), []⟩, ⟨(some 70), .call .pure n_frame_Check [(.t 69)], (some (68, true)), []⟩, ⟨(some 71), .bin .eql (.t 70) (.c (.int .i64 1)), (some (68, true)), []⟩, ⟨(some 72), .pick (.t 68) (.t 71) (.c (.bool false)), none, []⟩, ⟨(some 73), .mv (.t 72), none, []⟩, ⟨(some 74), .load 9 true (.t 10), (some (73, true)), []⟩, ⟨(some 75), .call .pure n_frame_Check [(.t 74)], (some (73, true)), []⟩, ⟨(some 76), .bin .eql (.t 75) (.c (.int .i64 1)), (some (73, true)), []⟩, ⟨(some 77), .pick (.t 73) (.t 76) (.c (.bool false)), none, []⟩, ⟨(some 78), .mv (.t 77), none, []⟩, ⟨(some 79), .mv (.t 0), (some (78, true)), []⟩, ⟨(some 80), .build [(.int .i64 0), (.int .i64 0), (.int .i64 0), (.int .i64 0), (.int .i64 0), (.int .i64 0), (.int .i64 0), (.int .i64 0), (.islc false true 0 [])] [(0, 1, (.c (.int .i64 5))), (3, 1, (.t 79))], (some (78, true)), []⟩, ⟨(some 81), .call .pure n_frame_Check [(.t 80)], (some (78, true)), []⟩, ⟨(some 82), .bin .eql (.t 81) (.c (.int .i64 0)), (some (78, true)), []⟩, ⟨(some 83), .pick (.t 78) (.t 82) (.c (.bool false)), none, []⟩, ⟨(some 84), .mv (.t 83), none, []⟩, ⟨(some 85), .mv (.t 1), (some (84, true)), []⟩, ⟨(some 86), .bin .add (.c (.int .i64 513)) (.t 85), (some (84, true)), []⟩, ⟨(some 87), .build [(.int .i64 0), (.int .i64 0), (.int .i64 0), (.int .i64 0), (.int .i64 0), (.int .i64 0), (.int .i64 0), (.int .i64 0), (.islc false true 0 [])] [(0, 1, (.c (.int .i64 5))), (3, 1, (.t 86))], (some (84, true)), []⟩, ⟨(some 88), .call .pure n_frame_Check [(.t 87)], (some (84, true)), []⟩, ⟨(some 89), .bin .eql (.t 88) (.c (.int .i64 1)), (some (84, true)), []⟩, ⟨(some 90), .pick (.t 84) (.t 89) (.c (.bool false)), none, []⟩, ⟨(some 91), .mv (.t 90), none, []⟩, ⟨(some 92), .call .pure n_law09_wakes [], (some (91, true)), []⟩, ⟨(some 93), .pick (.t 91) (.t 92) (.c (.bool false)), none, []⟩, ⟨(some 4), .mv (.t 93), none, []⟩])
  (.ret))))))))))))))))))⟩

def h_law09_FrameBounds : List (Nat × Nat × Hint) := [(3, 3, ⟨0, .pure, false⟩), (4, 3, ⟨1, .pure, false⟩), (5, 3, ⟨2, .pure, false⟩), (5, 5, ⟨3, .pure, false⟩), (6, 3, ⟨4, .pure, false⟩), (6, 5, ⟨5, .pure, false⟩), (7, 2, ⟨6, .pure, false⟩)]
theorem strip_law09_FrameBounds : stripFun Try.prog (fun r i => findH h_law09_FrameBounds r i) Try.f6 = some law09_FrameBounds := by kernel_rfl

def law09_FrameReads : SFun := ⟨1, [.tmp 2],
  (.seq (.region [⟨(some 2), .mv (.c (.bool false)), none, []⟩])
  ((.seq ((.seq (.region [⟨(some 9), .mv (.t 0), none, []⟩, ⟨(some 10), .len (.t 9), none, []⟩, ⟨(some 11), .bin .gtr (.t 10) (.c (.int .i64 1500)), none, []⟩])
  (.cond (.t 11) ((.seq (.region [⟨(some 2), .mv (.c (.bool true)), none, []⟩])
  (.ret))) (.skip))))
  ((.seq (.region [⟨(some 13), .mv (.t 0), none, []⟩, ⟨(some 14), .call .pure n_frame_Parse [(.t 13)], none, []⟩, ⟨(some 12), .mv (.t 14), none, []⟩, ⟨(some 15), .extract (.t 12) 0, none, []⟩, ⟨(some 16), .extract (.t 12) 1, none, []⟩, ⟨(some 17), .extract (.t 12) 2, none, []⟩, ⟨(some 18), .extract (.t 12) 3, none, []⟩, ⟨(some 3), .box 0 (.c (.agg [(.int .i64 0), (.int .i64 0), (.int .i64 0), (.int .i64 0), (.int .i64 0), (.int .i64 0), (.int .i64 0), (.int .i64 0), (.islc false true 0 [])])), none, []⟩, ⟨none, .store 9 (.t 3) (.t 15), none, []⟩, ⟨(some 4), .mv (.t 16), none, []⟩, ⟨(some 5), .mv (.t 17), none, []⟩, ⟨(some 6), .mv (.t 18), none, []⟩])
  ((.seq ((.seq (.region [⟨(some 19), .mv (.t 6), none, []⟩, ⟨(some 20), .bin .neq (.t 19) (.c (.int .i64 0)), none, []⟩])
  (.cond (.t 20) ((.seq (.region [⟨(some 21), .mv (.t 6), none, []⟩, ⟨(some 22), .bin .eql (.t 21) (.c (.int .i64 13)), none, []⟩, ⟨(some 23), .mv (.t 22), none, []⟩, ⟨(some 24), .mv (.t 6), (some (23, false)), []⟩, ⟨(some 25), .bin .eql (.t 24) (.c (.int .i64 16)), (some (23, false)), []⟩, ⟨(some 26), .pick (.t 23) (.c (.bool true)) (.t 25), none, []⟩, ⟨(some 27), .mv (.t 26), none, []⟩, ⟨(some 28), .mv (.t 6), (some (27, false)), []⟩, ⟨(some 29), .bin .eql (.t 28) (.c (.int .i64 5)), (some (27, false)), []⟩, ⟨(some 30), .pick (.t 27) (.c (.bool true)) (.t 29), none, []⟩, ⟨(some 31), .mv (.t 30), none, []⟩, ⟨(some 32), .mv (.t 5), (some (31, true)), []⟩, ⟨(some 33), .bin .eql (.t 32) (.c (.int .i64 0)), (some (31, true)), []⟩, ⟨(some 34), .pick (.t 31) (.t 33) (.c (.bool false)), none, []⟩, ⟨(some 35), .mv (.t 34), none, []⟩, ⟨(some 36), .mv (.t 4), (some (35, true)), []⟩, ⟨(some 37), .bin .eql (.t 36) (.c (.int .i64 0)), (some (35, true)), []⟩, ⟨(some 38), .pick (.t 35) (.t 37) (.c (.bool false)), none, []⟩, ⟨(some 39), .mv (.t 38), none, []⟩, ⟨(some 40), .call .pure n_law09_wakes [], (some (39, true)), []⟩, ⟨(some 41), .pick (.t 39) (.t 40) (.c (.bool false)), none, []⟩, ⟨(some 2), .mv (.t 41), none, []⟩])
  (.ret))) (.skip))))
  ((.seq (.region [⟨(some 43), .mv (.t 4), none, []⟩, ⟨(some 44), .load 9 true (.t 3), none, []⟩, ⟨(some 45), .call .pure n_frame_Bytes [(.t 43), (.t 44)], none, []⟩, ⟨(some 42), .mv (.t 45), none, []⟩, ⟨(some 46), .extract (.t 42) 0, none, []⟩, ⟨(some 47), .extract (.t 42) 1, none, []⟩, ⟨(some 7), .mv (.t 46), none, []⟩, ⟨(some 8), .mv (.t 47), none, []⟩])
  ((.seq (.region [⟨(some 48), .mv (.t 8), none, []⟩, ⟨(some 49), .bin .eql (.t 48) (.c (.int .i64 0)), none, []⟩, ⟨(some 50), .mv (.t 49), none, []⟩, ⟨(some 51), .mv (.t 5), (some (50, true)), []⟩, ⟨(some 52), .mv (.t 0), (some (50, true)), []⟩, ⟨(some 53), .len (.t 52), (some (50, true)), []⟩, ⟨(some 54), .bin .leq (.t 51) (.t 53), (some (50, true)), []⟩, ⟨(some 55), .pick (.t 50) (.t 54) (.c (.bool false)), none, []⟩, ⟨(some 56), .mv (.t 55), none, []⟩, ⟨(some 57), .mv (.t 5), (some (56, true)), []⟩, ⟨(some 58), .bin .geq (.t 57) (.c (.int .i64 24)), (some (56, true)), []⟩, ⟨(some 59), .pick (.t 56) (.t 58) (.c (.bool false)), none, []⟩, ⟨(some 60), .mv (.t 59), none, []⟩, ⟨(some 61), .mv (.t 7), (some (60, true)), []⟩, ⟨(some 62), .mv (.t 0), (some (60, true)), []⟩, ⟨(some 63), .mv (.t 5), (some (60, true)), []⟩, ⟨(some 64), .slice 1 (.t 62) none (some (.t 63)) none, (some (60, true)), []⟩, ⟨(some 65), .call .pure n_keep_Bytes [(.t 61), (.t 64)], (some (60, true)), []⟩, ⟨(some 66), .pick (.t 60) (.t 65) (.c (.bool false)), none, []⟩, ⟨(some 67), .mv (.t 66), none, []⟩, ⟨(some 68), .load 9 true (.t 3), (some (67, true)), []⟩, ⟨(some 69), .call .pure n_frame_Check [(.t 68)], (some (67, true)), []⟩, ⟨(some 70), .bin .eql (.t 69) (.c (.int .i64 0)), (some (67, true)), []⟩, ⟨(some 71), .pick (.t 67) (.t 70) (.c (.bool false)), none, []⟩, ⟨(some 72), .mv (.t 71), none, []⟩, ⟨(some 73), .call .pure n_law09_wakes [], (some (72, true)), []⟩, ⟨(some 74), .pick (.t 72) (.t 73) (.c (.bool false)), none, []⟩, ⟨(some 2), .mv (.t 74), none, []⟩])
  (.ret))))))))))))⟩

def h_law09_FrameReads : List (Nat × Nat × Hint) := [(3, 7, ⟨0, .pure, false⟩)]
theorem strip_law09_FrameReads : stripFun Try.prog (fun r i => findH h_law09_FrameReads r i) Try.f7 = some law09_FrameReads := by kernel_rfl

def law09_FrameFields_l0 : SCode := (.seq ((.seq (.region [⟨(some 39), .mv (.t 9), none, []⟩, ⟨(some 40), .bin .lss (.t 39) (.c (.int .i64 2)), none, []⟩])
  (.cond (.t 40) (.skip) (.exit 0))))
  ((.seq (.block 1 ((.seq (.region [⟨(some 43), .mv (.t 1), none, []⟩, ⟨(some 44), .build [(.int .i64 0), (.int .i64 0), (.int .i64 0), (.int .i64 0), (.int .i64 0), (.int .i64 0), (.int .i64 0), (.int .i64 0), (.islc false true 0 [])] [(0, 1, (.c (.int .i64 5))), (3, 1, (.t 43))], none, []⟩, ⟨(some 10), .box 0 (.c (.agg [(.int .i64 0), (.int .i64 0), (.int .i64 0), (.int .i64 0), (.int .i64 0), (.int .i64 0), (.int .i64 0), (.int .i64 0), (.islc false true 0 [])])), none, []⟩, ⟨none, .store 9 (.t 10) (.t 44), none, []⟩, ⟨(some 11), .mv (.c (.int .i64 4)), none, []⟩])
  ((.seq ((.seq (.region [⟨(some 45), .mv (.t 9), none, []⟩, ⟨(some 46), .bin .eql (.t 45) (.c (.int .i64 1)), none, []⟩])
  (.cond (.t 46) (.region [⟨(some 47), .mv (.t 2), none, []⟩, ⟨(some 48), .mv (.t 3), none, []⟩, ⟨(some 49), .build [(.int .i64 0), (.int .i64 0), (.int .i64 0), (.int .i64 0), (.int .i64 0), (.int .i64 0), (.int .i64 0), (.int .i64 0), (.islc false true 0 [])] [(0, 1, (.c (.int .i64 3))), (4, 1, (.t 47)), (5, 1, (.t 48))], none, []⟩, ⟨none, .store 9 (.t 10) (.t 49), none, []⟩, ⟨(some 11), .mv (.c (.int .i64 8)), none, []⟩]) (.skip))))
  ((.seq (.region [⟨(some 51), .mv (.t 0), none, []⟩, ⟨(some 52), .load 9 true (.t 10), none, []⟩, ⟨(some 53), .call .pure n_frame_Bytes [(.t 51), (.t 52)], none, []⟩, ⟨(some 50), .mv (.t 53), none, []⟩, ⟨(some 54), .extract (.t 50) 0, none, []⟩, ⟨(some 55), .extract (.t 50) 1, none, []⟩, ⟨(some 12), .mv (.t 54), none, []⟩, ⟨(some 13), .mv (.t 55), none, []⟩])
  ((.seq (.region [⟨(some 57), .mv (.t 12), none, []⟩, ⟨(some 58), .call .pure n_le_Get [(.t 57), (.c (.int .i64 4)), (.c (.int .i64 4))], none, []⟩, ⟨(some 56), .mv (.t 58), none, []⟩, ⟨(some 59), .extract (.t 56) 0, none, []⟩, ⟨(some 60), .extract (.t 56) 1, none, []⟩, ⟨(some 14), .mv (.t 59), none, []⟩, ⟨(some 15), .mv (.t 60), none, []⟩])
  ((.seq (.region [⟨(some 62), .mv (.t 12), none, []⟩, ⟨(some 63), .call .pure n_le_Get [(.t 62), (.c (.int .i64 8)), (.c (.int .i64 4))], none, []⟩, ⟨(some 61), .mv (.t 63), none, []⟩, ⟨(some 64), .extract (.t 61) 0, none, []⟩, ⟨(some 65), .extract (.t 61) 1, none, []⟩, ⟨(some 16), .mv (.t 64), none, []⟩, ⟨(some 17), .mv (.t 65), none, []⟩])
  ((.seq (.region [⟨(some 67), .mv (.t 12), none, []⟩, ⟨(some 68), .call .pure n_le_Get [(.t 67), (.c (.int .i64 12)), (.c (.int .i64 4))], none, []⟩, ⟨(some 66), .mv (.t 68), none, []⟩, ⟨(some 69), .extract (.t 66) 0, none, []⟩, ⟨(some 70), .extract (.t 66) 1, none, []⟩, ⟨(some 18), .mv (.t 69), none, []⟩, ⟨(some 19), .mv (.t 70), none, []⟩])
  ((.seq (.region [⟨(some 72), .mv (.t 12), none, []⟩, ⟨(some 73), .call .pure n_le_Get [(.t 72), (.c (.int .i64 16)), (.c (.int .i64 4))], none, []⟩, ⟨(some 71), .mv (.t 73), none, []⟩, ⟨(some 74), .extract (.t 71) 0, none, []⟩, ⟨(some 75), .extract (.t 71) 1, none, []⟩, ⟨(some 20), .mv (.t 74), none, []⟩, ⟨(some 21), .mv (.t 75), none, []⟩])
  ((.seq (.region [⟨(some 76), .mv (.t 13), none, []⟩, ⟨(some 77), .bin .neq (.t 76) (.c (.int .i64 0)), none, []⟩, ⟨(some 78), .mv (.t 77), none, []⟩, ⟨(some 79), .mv (.t 15), (some (78, false)), []⟩, ⟨(some 80), .bin .neq (.t 79) (.c (.int .i64 0)), (some (78, false)), []⟩, ⟨(some 81), .pick (.t 78) (.c (.bool true)) (.t 80), none, []⟩, ⟨(some 82), .mv (.t 81), none, []⟩, ⟨(some 83), .mv (.t 17), (some (82, false)), []⟩, ⟨(some 84), .bin .neq (.t 83) (.c (.int .i64 0)), (some (82, false)), []⟩, ⟨(some 85), .pick (.t 82) (.c (.bool true)) (.t 84), none, []⟩, ⟨(some 86), .mv (.t 85), none, []⟩, ⟨(some 87), .mv (.t 19), (some (86, false)), []⟩, ⟨(some 88), .bin .neq (.t 87) (.c (.int .i64 0)), (some (86, false)), []⟩, ⟨(some 89), .pick (.t 86) (.c (.bool true)) (.t 88), none, []⟩, ⟨(some 90), .mv (.t 89), none, []⟩, ⟨(some 91), .mv (.t 21), (some (90, false)), []⟩, ⟨(some 92), .bin .neq (.t 91) (.c (.int .i64 0)), (some (90, false)), []⟩, ⟨(some 93), .pick (.t 90) (.c (.bool true)) (.t 92), none, []⟩, ⟨(some 94), .mv (.t 93), none, []⟩, ⟨(some 95), .mv (.t 12), (some (94, false)), []⟩, ⟨(some 96), .len (.t 95), (some (94, false)), []⟩, ⟨(some 97), .mv (.t 11), (some (94, false)), []⟩, ⟨(some 98), .bin .add (.c (.int .i64 20)) (.t 97), (some (94, false)), []⟩, ⟨(some 99), .bin .neq (.t 96) (.t 98), (some (94, false)), []⟩, ⟨(some 100), .pick (.t 94) (.c (.bool true)) (.t 99), none, []⟩, ⟨(some 101), .mv (.t 100), none, []⟩, ⟨(some 102), .mv (.t 12), (some (101, false)), []⟩, ⟨(some 103), .slice 1 (.t 102) none (some (.c (.int .i64 4))) none, (some (101, false)), []⟩, ⟨(some 104), .b2s (.t 103), (some (101, false)), []⟩, ⟨(some 105), .bin .neq (.t 104) (.c (.str ⟨#[70, 82, 65, 77]⟩)), (some (101, false)), []⟩, ⟨(some 106), .pick (.t 101) (.c (.bool true)) (.t 105), none, []⟩, ⟨(some 107), .mv (.t 106), none, []⟩, ⟨(some 108), .mv (.t 14), (some (107, false)), []⟩, ⟨(some 109), .mv (.t 0), (some (107, false)), []⟩, ⟨(some 110), .bin .neq (.t 108) (.t 109), (some (107, false)), []⟩, ⟨(some 111), .pick (.t 107) (.c (.bool true)) (.t 110), none, []⟩, ⟨(some 112), .mv (.t 111), none, []⟩, ⟨(some 113), .mv (.t 16), (some (112, false)), []⟩, ⟨(some 114), .faddr 0 (.t 10), (some (112, false)), []⟩, ⟨(some 115), .load 1 false (.t 114), (some (112, false)), []⟩, ⟨(some 116), .bin .neq (.t 113) (.t 115), (some (112, false)), []⟩, ⟨(some 117), .pick (.t 112) (.c (.bool true)) (.t 116), none, []⟩, ⟨(some 118), .mv (.t 117), none, []⟩, ⟨(some 119), .mv (.t 18), (some (118, false)), []⟩, ⟨(some 120), .mv (.t 11), (some (118, false)), []⟩, ⟨(some 121), .bin .neq (.t 119) (.t 120), (some (118, false)), []⟩, ⟨(some 122), .pick (.t 118) (.c (.bool true)) (.t 121), none, []⟩, ⟨(some 123), .mv (.t 122), none, []⟩, ⟨(some 124), .mv (.t 20), (some (123, false)), []⟩, ⟨(some 125), .faddr 3 (.t 10), (some (123, false)), []⟩, ⟨(some 126), .load 1 false (.t 125), (some (123, false)), []⟩, ⟨(some 127), .faddr 4 (.t 10), (some (123, false)), []⟩, ⟨(some 128), .load 1 false (.t 127), (some (123, false)), []⟩, ⟨(some 129), .bin .add (.t 126) (.t 128), (some (123, false)), []⟩, ⟨(some 130), .bin .neq (.t 124) (.t 129), (some (123, false)), []⟩, ⟨(some 131), .pick (.t 123) (.c (.bool true)) (.t 130), none, []⟩])
  (.cond (.t 131) ((.seq (.region [⟨(some 8), .mv (.c (.bool false)), none, []⟩])
  (.ret))) (.skip)))))))))))))))))))
  (.region [⟨(some 41), .mv (.t 9), none, []⟩, ⟨(some 42), .bin .add (.t 41) (.c (.int .i64 1)), none, []⟩, ⟨(some 9), .mv (.t 42), none, []⟩]))))

def law09_FrameFields : SFun := ⟨4, [.tmp 8],
  (.seq (.region [⟨(some 8), .mv (.c (.bool false)), none, []⟩])
  ((.seq (.region [⟨(some 22), .mv (.t 0), none, []⟩, ⟨(some 23), .cvi .u64 (.t 22), none, []⟩, ⟨(some 24), .bin .rem (.t 23) (.c (.int .u64 4294967296)), none, []⟩, ⟨(some 25), .cvi .i64 (.t 24), none, []⟩, ⟨(some 26), .mv (.t 1), none, []⟩, ⟨(some 27), .cvi .u64 (.t 26), none, []⟩, ⟨(some 28), .bin .rem (.t 27) (.c (.int .u64 513)), none, []⟩, ⟨(some 29), .cvi .i64 (.t 28), none, []⟩, ⟨(some 30), .mv (.t 2), none, []⟩, ⟨(some 31), .cvi .u64 (.t 30), none, []⟩, ⟨(some 32), .bin .rem (.t 31) (.c (.int .u64 500)), none, []⟩, ⟨(some 33), .cvi .i64 (.t 32), none, []⟩, ⟨(some 34), .mv (.t 3), none, []⟩, ⟨(some 35), .cvi .u64 (.t 34), none, []⟩, ⟨(some 36), .bin .rem (.t 35) (.c (.int .u64 12)), none, []⟩, ⟨(some 37), .cvi .i64 (.t 36), none, []⟩, ⟨(some 38), .bin .add (.c (.int .i64 1)) (.t 37), none, []⟩, ⟨(some 0), .mv (.t 25), none, []⟩, ⟨(some 1), .mv (.t 29), none, []⟩, ⟨(some 2), .mv (.t 33), none, []⟩, ⟨(some 3), .mv (.t 38), none, []⟩])
  ((.seq ((.seq (.region [⟨(some 9), .mv (.c (.int .i64 0)), none, []⟩])
  (.block 0 (.loop law09_FrameFields_l0))))
  ((.seq (.region [⟨(some 132), .call .pure n_law09_wakes [], none, []⟩, ⟨(some 8), .mv (.t 132), none, []⟩])
  (.ret))))))))⟩

def h_law09_FrameFields : List (Nat × Nat × Hint) := [(5, 2, ⟨0, .pure, false⟩)]
theorem strip_law09_FrameFields : stripFun Try.prog (fun r i => findH h_law09_FrameFields r i) Try.f8 = some law09_FrameFields := by kernel_rfl

def keep_TwinCommands_l0 : SCode := (.seq ((.seq (.region [⟨(some 6), .mv (.t 4), none, []⟩, ⟨(some 7), .mv (.t 0), none, []⟩, ⟨(some 8), .len (.t 7), none, []⟩, ⟨(some 9), .bin .lss (.t 6) (.t 8), none, []⟩])
  (.cond (.t 9) (.skip) (.exit 0))))
  ((.seq (.block 1 ((.seq (.region [⟨(some 12), .mv (.t 0), none, []⟩, ⟨(some 13), .mv (.t 4), none, []⟩, ⟨(some 14), .iaddr 9 (.t 12) (.t 13), none, []⟩, ⟨(some 15), .load 9 true (.t 14), none, []⟩, ⟨(some 5), .box 2 (.c (.agg [(.int .i64 0), (.int .i64 0), (.int .i64 0), (.int .i64 0), (.int .i64 0), (.int .i64 0), (.int .i64 0), (.int .i64 0), (.islc false true 0 [])])), none, []⟩, ⟨none, .store 9 (.t 5) (.t 15), none, []⟩])
  ((.seq (.region [⟨(some 16), .faddr 8 (.t 5), none, []⟩, ⟨(some 17), .load 1 false (.t 16), none, []⟩, ⟨(some 18), .call (.fresh 3) n_keep_Twin [(.t 17)], none, []⟩, ⟨(some 19), .faddr 8 (.t 5), none, []⟩, ⟨none, .store 1 (.t 19) (.t 18), none, []⟩])
  (.region [⟨(some 20), .mv (.t 3), none, []⟩, ⟨(some 21), .load 9 true (.t 5), none, []⟩, ⟨(some 22), .buildS 4 9 1 (.agg [(.int .i64 0), (.int .i64 0), (.int .i64 0), (.int .i64 0), (.int .i64 0), (.int .i64 0), (.int .i64 0), (.int .i64 0), (.islc false true 0 [])]) [(0, (.t 21))], none, []⟩, ⟨(some 23), .app 5 9 (.t 20) (.t 22), none, []⟩, ⟨(some 3), .mv (.t 23), none, []⟩]))))))
  (.region [⟨(some 10), .mv (.t 4), none, []⟩, ⟨(some 11), .bin .add (.t 10) (.c (.int .i64 1)), none, []⟩, ⟨(some 4), .mv (.t 11), none, []⟩]))))

def keep_TwinCommands : SFun := ⟨1, [.tmp 2],
  (.seq (.region [⟨(some 2), .nilrow 0 9, none, []⟩])
  ((.seq (.region [⟨(some 3), .nilrow 1 9, none, []⟩])
  ((.seq ((.seq (.region [⟨(some 4), .mv (.c (.int .i64 0)), none, []⟩])
  (.block 0 (.loop keep_TwinCommands_l0))))
  ((.seq (.region [⟨(some 24), .mv (.t 3), none, []⟩, ⟨(some 2), .mv (.t 24), none, []⟩])
  (.ret))))))))⟩

def h_keep_TwinCommands : List (Nat × Nat × Hint) := [(0, 0, ⟨0, .pure, true⟩), (1, 0, ⟨1, .pure, true⟩), (5, 4, ⟨2, .pure, false⟩), (6, 2, ⟨0, (.fresh 3), false⟩), (7, 2, ⟨4, .pure, false⟩), (7, 3, ⟨5, .pure, false⟩)]
theorem strip_keep_TwinCommands : stripFun Try.prog (fun r i => findH h_keep_TwinCommands r i) Try.f9 = some keep_TwinCommands := by kernel_rfl

def keep_Twin : SFun := ⟨1, [.tmp 2],
  (.seq (.region [⟨(some 2), .nilrow 0 1, none, []⟩])
  ((.seq (.region [⟨(some 3), .nilrow 1 1, none, []⟩])
  ((.seq (.region [⟨(some 4), .mv (.t 3), none, []⟩, ⟨(some 5), .mv (.t 0), none, []⟩, ⟨(some 6), .app 2 1 (.t 4) (.t 5), none, []⟩, ⟨(some 2), .mv (.t 6), none, []⟩])
  (.ret))))))⟩

def h_keep_Twin : List (Nat × Nat × Hint) := [(0, 0, ⟨0, .pure, true⟩), (1, 0, ⟨1, .pure, true⟩), (2, 2, ⟨2, .pure, false⟩)]
theorem strip_keep_Twin : stripFun Try.prog (fun r i => findH h_keep_Twin r i) Try.f10 = some keep_Twin := by kernel_rfl

def frame_Payload : SFun := ⟨1, [.tmp 2, .tmp 3],
  (.seq (.region [⟨(some 1), .box 0 (.t 0), none, []⟩, ⟨(some 2), .mv (.c (.islc false true 0 [])), none, []⟩, ⟨(some 3), .mv (.c (.int .i64 0)), none, []⟩])
  ((.seq (.region [⟨(some 5), .load 9 true (.t 1), none, []⟩, ⟨(some 6), .call .pure n_frame_Check [(.t 5)], none, []⟩, ⟨(some 4), .mv (.t 6), none, []⟩])
  ((.seq ((.seq (.region [⟨(some 7), .mv (.t 4), none, []⟩, ⟨(some 8), .bin .neq (.t 7) (.c (.int .i64 0)), none, []⟩])
  (.cond (.t 8) ((.seq (.region [⟨(some 9), .mv (.t 4), none, []⟩, ⟨(some 2), .mv (.c (.islc false true 0 [])), none, []⟩, ⟨(some 3), .mv (.t 9), none, []⟩])
  (.ret))) (.skip))))
  ((.seq (.region [⟨(some 10), .load 9 true (.t 1), none, []⟩, ⟨(some 11), .call .pure n_frame_payload [(.t 10)], none, []⟩, ⟨(some 2), .mv (.t 11), none, []⟩, ⟨(some 3), .mv (.c (.int .i64 0)), none, []⟩])
  (.ret))))))))⟩

def h_frame_Payload : List (Nat × Nat × Hint) := [(0, 0, ⟨0, .pure, false⟩)]
theorem strip_frame_Payload : stripFun Try.prog (fun r i => findH h_frame_Payload r i) Try.f11 = some frame_Payload := by kernel_rfl

def frame_Bytes : SFun := ⟨2, [.tmp 4, .tmp 5],
  (.seq (.region [⟨(some 3), .box 0 (.t 1), none, []⟩, ⟨(some 4), .nilrow 1 1, none, []⟩, ⟨(some 5), .mv (.c (.int .i64 0)), none, []⟩])
  ((.seq (.region [⟨(some 10), .load 9 true (.t 3), none, []⟩, ⟨(some 11), .call .pure n_frame_Payload [(.t 10)], none, []⟩, ⟨(some 9), .mv (.t 11), none, []⟩, ⟨(some 12), .extract (.t 9) 0, none, []⟩, ⟨(some 13), .extract (.t 9) 1, none, []⟩, ⟨(some 6), .mv (.t 12), none, []⟩, ⟨(some 7), .mv (.t 13), none, []⟩])
  ((.seq (.block 0 ((.seq (.region [⟨(some 15), .mv (.t 7), none, []⟩, ⟨(some 16), .bin .neq (.t 15) (.c (.int .i64 0)), none, []⟩, ⟨(some 14), .mv (.t 16), none, []⟩])
  (.cond (.t 14) ((.seq (.region [⟨(some 17), .mv (.t 7), none, []⟩, ⟨(some 4), .nilrow 2 1, none, []⟩, ⟨(some 5), .mv (.t 17), none, []⟩])
  (.ret))) ((.seq (.region [⟨(some 19), .mv (.t 0), none, []⟩, ⟨(some 20), .call .pure n_frame_in [(.t 19), (.c (.int .i64 0)), (.c (.int .i64 4294967295))], none, []⟩, ⟨(some 21), .un .not (.t 20), none, []⟩, ⟨(some 18), .mv (.t 21), none, []⟩])
  (.cond (.t 18) ((.seq (.region [⟨(some 4), .nilrow 3 1, none, []⟩, ⟨(some 5), .mv (.c (.int .i64 1)), none, []⟩])
  (.ret))) (.skip))))))))
  ((.seq (.region [⟨(some 22), .buildS 4 1 4 (.int .u8 0) [(0, (.c (.int .u8 70))), (1, (.c (.int .u8 82))), (2, (.c (.int .u8 65))), (3, (.c (.int .u8 77)))], none, []⟩, ⟨(some 23), .ss (.t 22), none, []⟩, ⟨(some 24), .mv (.t 0), none, []⟩, ⟨(some 25), .faddr 0 (.t 3), none, []⟩, ⟨(some 26), .load 1 false (.t 25), none, []⟩, ⟨(some 27), .mv (.t 6), none, []⟩, ⟨(some 28), .len (.t 27), none, []⟩, ⟨(some 29), .buildS 5 1 3 (.int .i64 0) [(0, (.t 24)), (1, (.t 26)), (2, (.t 28))], none, []⟩, ⟨(some 30), .call (.inl 6) n_frame_put [(.t 23), (.c (.int .i64 4)), (.t 29)], none, []⟩, ⟨(some 31), .mv (.t 6), none, []⟩, ⟨(some 32), .app 8 1 (.t 30) (.t 31), none, []⟩, ⟨(some 8), .mv (.t 32), none, []⟩])
  ((.seq (.region [⟨(some 33), .mv (.t 8), none, []⟩, ⟨(some 34), .mv (.t 8), none, []⟩, ⟨(some 35), .call .pure n_crc_Sum [(.t 34)], none, []⟩, ⟨(some 36), .buildS 9 1 1 (.int .i64 0) [(0, (.t 35))], none, []⟩, ⟨(some 37), .call (.inl 10) n_frame_put [(.t 33), (.c (.int .i64 4)), (.t 36)], none, []⟩, ⟨(some 4), .mv (.t 37), none, []⟩, ⟨(some 5), .mv (.c (.int .i64 0)), none, []⟩])
  (.ret))))))))))⟩

def h_frame_Bytes : List (Nat × Nat × Hint) := [(0, 0, ⟨0, .pure, false⟩), (0, 1, ⟨1, .pure, true⟩), (3, 1, ⟨2, .pure, true⟩), (5, 0, ⟨3, .pure, true⟩), (6, 0, ⟨4, .pure, false⟩), (6, 7, ⟨5, .pure, false⟩), (6, 8, ⟨0, (.inl 6), false⟩), (6, 10, ⟨8, .pure, false⟩), (7, 3, ⟨9, .pure, false⟩), (7, 4, ⟨0, (.inl 10), false⟩)]
theorem strip_frame_Bytes : stripFun Try.prog (fun r i => findH h_frame_Bytes r i) Try.f12 = some frame_Bytes := by kernel_rfl

def frame_Parse : SFun := ⟨1, [.cell 2 9 true, .tmp 3, .tmp 4, .tmp 5],
  (.seq (.region [⟨(some 2), .box 0 (.c (.agg [(.int .i64 0), (.int .i64 0), (.int .i64 0), (.int .i64 0), (.int .i64 0), (.int .i64 0), (.int .i64 0), (.int .i64 0), (.islc false true 0 [])])), none, []⟩, ⟨(some 3), .mv (.c (.int .i64 0)), none, []⟩, ⟨(some 4), .mv (.c (.int .i64 0)), none, []⟩, ⟨(some 5), .mv (.c (.int .i64 0)), none, []⟩])
  ((.seq (.region [⟨(some 10), .mv (.t 0), none, []⟩, ⟨(some 11), .call .pure n_frame_length [(.t 10)], none, []⟩, ⟨(some 9), .mv (.t 11), none, []⟩, ⟨(some 12), .extract (.t 9) 0, none, []⟩, ⟨(some 13), .extract (.t 9) 1, none, []⟩, ⟨(some 4), .mv (.t 12), none, []⟩, ⟨(some 5), .mv (.t 13), none, []⟩])
  ((.seq ((.seq (.region [⟨(some 14), .mv (.t 5), none, []⟩, ⟨(some 15), .bin .neq (.t 14) (.c (.int .i64 0)), none, []⟩])
  (.cond (.t 15) ((.seq (.region [⟨(some 16), .build [(.int .i64 0), (.int .i64 0), (.int .i64 0), (.int .i64 0), (.int .i64 0), (.int .i64 0), (.int .i64 0), (.int .i64 0), (.islc false true 0 [])] [], none, []⟩, ⟨(some 17), .mv (.t 5), none, []⟩, ⟨none, .store 9 (.t 2) (.t 16), none, []⟩, ⟨(some 3), .mv (.c (.int .i64 0)), none, []⟩, ⟨(some 4), .mv (.c (.int .i64 0)), none, []⟩, ⟨(some 5), .mv (.t 17), none, []⟩])
  (.ret))) (.skip))))
  ((.seq (.region [⟨(some 18), .mv (.t 0), none, []⟩, ⟨(some 19), .mv (.t 4), none, []⟩, ⟨(some 20), .slice 1 (.t 18) none (some (.t 19)) none, none, []⟩, ⟨(some 0), .mv (.t 20), none, []⟩])
  ((.seq ((.seq (.region [⟨(some 21), .mv (.t 0), none, []⟩, ⟨(some 22), .call .pure n_crc_Good [(.t 21)], none, []⟩, ⟨(some 23), .un .not (.t 22), none, []⟩])
  (.cond (.t 23) ((.seq (.region [⟨(some 24), .build [(.int .i64 0), (.int .i64 0), (.int .i64 0), (.int .i64 0), (.int .i64 0), (.int .i64 0), (.int .i64 0), (.int .i64 0), (.islc false true 0 [])] [], none, []⟩, ⟨none, .store 9 (.t 2) (.t 24), none, []⟩, ⟨(some 3), .mv (.c (.int .i64 0)), none, []⟩, ⟨(some 4), .mv (.c (.int .i64 0)), none, []⟩, ⟨(some 5), .mv (.c (.int .i64 5)), none, []⟩])
  (.ret))) (.skip))))
  ((.seq (.region [⟨(some 26), .mv (.t 0), none, []⟩, ⟨(some 27), .call .pure n_le_Get [(.t 26), (.c (.int .i64 4)), (.c (.int .i64 4))], none, []⟩, ⟨(some 25), .mv (.t 27), none, []⟩, ⟨(some 28), .extract (.t 25) 0, none, []⟩, ⟨(some 29), .extract (.t 25) 1, none, []⟩, ⟨(some 3), .mv (.t 28), none, []⟩])
  ((.seq (.region [⟨(some 31), .mv (.t 0), none, []⟩, ⟨(some 32), .call .pure n_le_Get [(.t 31), (.c (.int .i64 8)), (.c (.int .i64 4))], none, []⟩, ⟨(some 30), .mv (.t 32), none, []⟩, ⟨(some 33), .extract (.t 30) 0, none, []⟩, ⟨(some 34), .extract (.t 30) 1, none, []⟩, ⟨(some 6), .mv (.t 33), none, []⟩, ⟨(some 7), .mv (.t 34), none, []⟩])
  ((.seq (.region [⟨(some 36), .mv (.t 6), none, []⟩, ⟨(some 37), .mv (.t 0), none, []⟩, ⟨(some 38), .mv (.t 4), none, []⟩, ⟨(some 39), .bin .sub (.t 38) (.c (.int .i64 4)), none, []⟩, ⟨(some 40), .slice 1 (.t 37) (some (.c (.int .i64 16))) (some (.t 39)) none, none, []⟩, ⟨(some 41), .call .pure n_frame_command [(.t 36), (.t 40)], none, []⟩, ⟨(some 35), .mv (.t 41), none, []⟩, ⟨(some 42), .extract (.t 35) 0, none, []⟩, ⟨(some 43), .extract (.t 35) 1, none, []⟩, ⟨none, .store 9 (.t 2) (.t 42), none, []⟩, ⟨(some 8), .mv (.t 43), none, []⟩])
  ((.seq ((.seq (.region [⟨(some 44), .mv (.t 8), none, []⟩, ⟨(some 45), .un .not (.t 44), none, []⟩])
  (.cond (.t 45) ((.seq (.region [⟨(some 46), .build [(.int .i64 0), (.int .i64 0), (.int .i64 0), (.int .i64 0), (.int .i64 0), (.int .i64 0), (.int .i64 0), (.int .i64 0), (.islc false true 0 [])] [], none, []⟩, ⟨none, .store 9 (.t 2) (.t 46), none, []⟩, ⟨(some 3), .mv (.c (.int .i64 0)), none, []⟩, ⟨(some 4), .mv (.c (.int .i64 0)), none, []⟩, ⟨(some 5), .mv (.c (.int .i64 13)), none, []⟩])
  (.ret))) (.skip))))
  ((.seq (.region [⟨(some 47), .load 9 true (.t 2), none, []⟩, ⟨(some 48), .mv (.t 3), none, []⟩, ⟨(some 49), .mv (.t 4), none, []⟩, ⟨none, .store 9 (.t 2) (.t 47), none, []⟩, ⟨(some 3), .mv (.t 48), none, []⟩, ⟨(some 4), .mv (.t 49), none, []⟩, ⟨(some 5), .mv (.c (.int .i64 0)), none, []⟩])
  (.ret))))))))))))))))))))⟩

def h_frame_Parse : List (Nat × Nat × Hint) := [(0, 0, ⟨0, .pure, false⟩)]
theorem strip_frame_Parse : stripFun Try.prog (fun r i => findH h_frame_Parse r i) Try.f13 = some frame_Parse := by kernel_rfl

def ref01_ParseFrame_l0 : SCode := (.seq ((.seq (.region [⟨(some 13), .mv (.t 8), none, []⟩, ⟨(some 14), .bin .lss (.t 13) (.c (.int .i64 4)), none, []⟩, ⟨(some 15), .mv (.t 14), none, []⟩, ⟨(some 16), .mv (.t 8), (some (15, true)), []⟩, ⟨(some 17), .mv (.t 0), (some (15, true)), []⟩, ⟨(some 18), .len (.t 17), (some (15, true)), []⟩, ⟨(some 19), .bin .lss (.t 16) (.t 18), (some (15, true)), []⟩, ⟨(some 20), .pick (.t 15) (.t 19) (.c (.bool false)), none, []⟩])
  (.cond (.t 20) (.skip) (.exit 0))))
  ((.seq (.block 1 ((.seq (.region [⟨(some 23), .mv (.t 0), none, []⟩, ⟨(some 24), .mv (.t 8), none, []⟩, ⟨(some 25), .iaddr 1 (.t 23) (.t 24), none, []⟩, ⟨(some 26), .load 1 false (.t 25), none, []⟩, ⟨(some 27), .mv (.t 7), none, []⟩, ⟨(some 28), .mv (.t 8), none, []⟩, ⟨(some 29), .indexS (.t 27) (.t 28), none, []⟩, ⟨(some 30), .bin .neq (.t 26) (.t 29), none, []⟩])
  (.cond (.t 30) ((.seq (.region [⟨(some 31), .load 9 true (.t 6), none, []⟩, ⟨none, .store 9 (.t 2) (.t 31), none, []⟩, ⟨(some 3), .mv (.c (.int .i64 0)), none, []⟩, ⟨(some 4), .mv (.c (.int .i64 0)), none, []⟩, ⟨(some 5), .mv (.c (.int .i64 13)), none, []⟩])
  (.ret))) (.skip)))))
  (.region [⟨(some 21), .mv (.t 8), none, []⟩, ⟨(some 22), .bin .add (.t 21) (.c (.int .i64 1)), none, []⟩, ⟨(some 8), .mv (.t 22), none, []⟩]))))

def ref01_ParseFrame : SFun := ⟨1, [.cell 2 9 true, .tmp 3, .tmp 4, .tmp 5],
  (.seq (.region [⟨(some 2), .box 0 (.c (.agg [(.int .i64 0), (.int .i64 0), (.int .i64 0), (.int .i64 0), (.int .i64 0), (.int .i64 0), (.int .i64 0), (.int .i64 0), (.islc false true 0 [])])), none, []⟩, ⟨(some 3), .mv (.c (.int .i64 0)), none, []⟩, ⟨(some 4), .mv (.c (.int .i64 0)), none, []⟩, ⟨(some 5), .mv (.c (.int .i64 0)), none, []⟩])
  ((.seq (.region [⟨(some 12), .build [(.int .i64 0), (.int .i64 0), (.int .i64 0), (.int .i64 0), (.int .i64 0), (.int .i64 0), (.int .i64 0), (.int .i64 0), (.islc false true 0 [])] [], none, []⟩, ⟨(some 6), .box 1 (.c (.agg [(.int .i64 0), (.int .i64 0), (.int .i64 0), (.int .i64 0), (.int .i64 0), (.int .i64 0), (.int .i64 0), (.int .i64 0), (.islc false true 0 [])])), none, []⟩, ⟨none, .store 9 (.t 6) (.t 12), none, []⟩])
  ((.seq (.region [⟨(some 7), .mv (.c (.str ⟨#[70, 82, 65, 77]⟩)), none, []⟩])
  ((.seq ((.seq (.region [⟨(some 8), .mv (.c (.int .i64 0)), none, []⟩])
  (.block 0 (.loop ref01_ParseFrame_l0))))
  ((.seq ((.seq (.region [⟨(some 32), .mv (.t 0), none, []⟩, ⟨(some 33), .len (.t 32), none, []⟩, ⟨(some 34), .bin .lss (.t 33) (.c (.int .i64 16)), none, []⟩])
  (.cond (.t 34) ((.seq (.region [⟨(some 35), .load 9 true (.t 6), none, []⟩, ⟨none, .store 9 (.t 2) (.t 35), none, []⟩, ⟨(some 3), .mv (.c (.int .i64 0)), none, []⟩, ⟨(some 4), .mv (.c (.int .i64 0)), none, []⟩, ⟨(some 5), .mv (.c (.int .i64 16)), none, []⟩])
  (.ret))) (.skip))))
  ((.seq (.region [⟨(some 36), .mv (.t 0), none, []⟩, ⟨(some 37), .call .pure n_ref01_Get4 [(.t 36), (.c (.int .i64 12))], none, []⟩, ⟨(some 9), .mv (.t 37), none, []⟩])
  ((.seq ((.seq (.region [⟨(some 38), .mv (.t 9), none, []⟩, ⟨(some 39), .bin .gtr (.t 38) (.c (.int .i64 520)), none, []⟩])
  (.cond (.t 39) ((.seq (.region [⟨(some 40), .load 9 true (.t 6), none, []⟩, ⟨none, .store 9 (.t 2) (.t 40), none, []⟩, ⟨(some 3), .mv (.c (.int .i64 0)), none, []⟩, ⟨(some 4), .mv (.c (.int .i64 0)), none, []⟩, ⟨(some 5), .mv (.c (.int .i64 13)), none, []⟩])
  (.ret))) (.skip))))
  ((.seq ((.seq (.region [⟨(some 41), .mv (.t 0), none, []⟩, ⟨(some 42), .len (.t 41), none, []⟩, ⟨(some 43), .mv (.t 9), none, []⟩, ⟨(some 44), .bin .add (.c (.int .i64 20)) (.t 43), none, []⟩, ⟨(some 45), .bin .lss (.t 42) (.t 44), none, []⟩])
  (.cond (.t 45) ((.seq (.region [⟨(some 46), .load 9 true (.t 6), none, []⟩, ⟨none, .store 9 (.t 2) (.t 46), none, []⟩, ⟨(some 3), .mv (.c (.int .i64 0)), none, []⟩, ⟨(some 4), .mv (.c (.int .i64 0)), none, []⟩, ⟨(some 5), .mv (.c (.int .i64 16)), none, []⟩])
  (.ret))) (.skip))))
  ((.seq ((.seq (.region [⟨(some 47), .mv (.t 0), none, []⟩, ⟨(some 48), .mv (.t 9), none, []⟩, ⟨(some 49), .bin .add (.c (.int .i64 20)) (.t 48), none, []⟩, ⟨(some 50), .slice 1 (.t 47) none (some (.t 49)) none, none, []⟩, ⟨(some 51), .call .pure n_ref01_Good [(.t 50)], none, []⟩, ⟨(some 52), .un .not (.t 51), none, []⟩])
  (.cond (.t 52) ((.seq (.region [⟨(some 53), .load 9 true (.t 6), none, []⟩, ⟨none, .store 9 (.t 2) (.t 53), none, []⟩, ⟨(some 3), .mv (.c (.int .i64 0)), none, []⟩, ⟨(some 4), .mv (.c (.int .i64 0)), none, []⟩, ⟨(some 5), .mv (.c (.int .i64 5)), none, []⟩])
  (.ret))) (.skip))))
  ((.seq (.region [⟨(some 55), .mv (.t 0), none, []⟩, ⟨(some 56), .call .pure n_ref01_Get4 [(.t 55), (.c (.int .i64 8))], none, []⟩, ⟨(some 57), .mv (.t 0), none, []⟩, ⟨(some 58), .mv (.t 9), none, []⟩, ⟨(some 59), .bin .add (.c (.int .i64 16)) (.t 58), none, []⟩, ⟨(some 60), .slice 1 (.t 57) (some (.c (.int .i64 16))) (some (.t 59)) none, none, []⟩, ⟨(some 61), .call .pure n_ref01_command [(.t 56), (.t 60)], none, []⟩, ⟨(some 54), .mv (.t 61), none, []⟩, ⟨(some 62), .extract (.t 54) 0, none, []⟩, ⟨(some 63), .extract (.t 54) 1, none, []⟩, ⟨(some 10), .box 2 (.c (.agg [(.int .i64 0), (.int .i64 0), (.int .i64 0), (.int .i64 0), (.int .i64 0), (.int .i64 0), (.int .i64 0), (.int .i64 0), (.islc false true 0 [])])), none, [1, 5, 6]⟩, ⟨none, .store 9 (.t 10) (.t 62), none, []⟩, ⟨(some 11), .mv (.t 63), none, []⟩])
  ((.seq ((.seq (.region [⟨(some 64), .mv (.t 11), none, []⟩, ⟨(some 65), .un .not (.t 64), none, []⟩])
  (.cond (.t 65) ((.seq (.region [⟨(some 66), .load 9 true (.t 6), none, []⟩, ⟨none, .store 9 (.t 2) (.t 66), none, []⟩, ⟨(some 3), .mv (.c (.int .i64 0)), none, []⟩, ⟨(some 4), .mv (.c (.int .i64 0)), none, []⟩, ⟨(some 5), .mv (.c (.int .i64 13)), none, []⟩])
  (.ret))) (.skip))))
  ((.seq (.region [⟨(some 67), .load 9 true (.t 10), none, []⟩, ⟨(some 68), .mv (.t 0), none, []⟩, ⟨(some 69), .call .pure n_ref01_Get4 [(.t 68), (.c (.int .i64 4))], none, []⟩, ⟨(some 70), .mv (.t 9), none, []⟩, ⟨(some 71), .bin .add (.c (.int .i64 20)) (.t 70), none, []⟩, ⟨none, .store 9 (.t 2) (.t 67), none, []⟩, ⟨(some 3), .mv (.t 69), none, []⟩, ⟨(some 4), .mv (.t 71), none, []⟩, ⟨(some 5), .mv (.c (.int .i64 0)), none, []⟩])
  (.ret))))))))))))))))))))))))⟩

def h_ref01_ParseFrame : List (Nat × Nat × Hint) := [(0, 0, ⟨0, .pure, false⟩), (1, 1, ⟨1, .pure, false⟩), (17, 10, ⟨2, .pure, false⟩)]
theorem strip_ref01_ParseFrame : stripFun Try.prog (fun r i => findH h_ref01_ParseFrame r i) Try.f14 = some ref01_ParseFrame := by kernel_rfl

def keep_Command : SFun := ⟨2, [.tmp 4],
  (.seq (.region [⟨(some 2), .box 0 (.t 0), none, []⟩, ⟨(some 3), .box 1 (.t 1), none, []⟩, ⟨(some 4), .mv (.c (.bool false)), none, []⟩])
  ((.seq (.region [⟨(some 5), .faddr 0 (.t 2), none, []⟩, ⟨(some 6), .load 1 false (.t 5), none, []⟩, ⟨(some 7), .faddr 0 (.t 3), none, []⟩, ⟨(some 8), .load 1 false (.t 7), none, []⟩, ⟨(some 9), .bin .eql (.t 6) (.t 8), none, []⟩, ⟨(some 10), .mv (.t 9), none, []⟩, ⟨(some 11), .faddr 1 (.t 2), (some (10, true)), []⟩, ⟨(some 12), .load 1 false (.t 11), (some (10, true)), []⟩, ⟨(some 13), .faddr 1 (.t 3), (some (10, true)), []⟩, ⟨(some 14), .load 1 false (.t 13), (some (10, true)), []⟩, ⟨(some 15), .bin .eql (.t 12) (.t 14), (some (10, true)), []⟩, ⟨(some 16), .pick (.t 10) (.t 15) (.c (.bool false)), none, []⟩, ⟨(some 17), .mv (.t 16), none, []⟩, ⟨(some 18), .faddr 2 (.t 2), (some (17, true)), []⟩, ⟨(some 19), .load 1 false (.t 18), (some (17, true)), []⟩, ⟨(some 20), .faddr 2 (.t 3), (some (17, true)), []⟩, ⟨(some 21), .load 1 false (.t 20), (some (17, true)), []⟩, ⟨(some 22), .bin .eql (.t 19) (.t 21), (some (17, true)), []⟩, ⟨(some 23), .pick (.t 17) (.t 22) (.c (.bool false)), none, []⟩, ⟨(some 24), .mv (.t 23), none, []⟩, ⟨(some 25), .faddr 3 (.t 2), (some (24, true)), []⟩, ⟨(some 26), .load 1 false (.t 25), (some (24, true)), []⟩, ⟨(some 27), .faddr 3 (.t 3), (some (24, true)), []⟩, ⟨(some 28), .load 1 false (.t 27), (some (24, true)), []⟩, ⟨(some 29), .bin .eql (.t 26) (.t 28), (some (24, true)), []⟩, ⟨(some 30), .pick (.t 24) (.t 29) (.c (.bool false)), none, []⟩, ⟨(some 31), .mv (.t 30), none, []⟩, ⟨(some 32), .faddr 4 (.t 2), (some (31, true)), []⟩, ⟨(some 33), .load 1 false (.t 32), (some (31, true)), []⟩, ⟨(some 34), .faddr 4 (.t 3), (some (31, true)), []⟩, ⟨(some 35), .load 1 false (.t 34), (some (31, true)), []⟩, ⟨(some 36), .bin .eql (.t 33) (.t 35), (some (31, true)), []⟩, ⟨(some 37), .pick (.t 31) (.t 36) (.c (.bool false)), none, []⟩, ⟨(some 38), .mv (.t 37), none, []⟩, ⟨(some 39), .faddr 5 (.t 2), (some (38, true)), []⟩, ⟨(some 40), .load 1 false (.t 39), (some (38, true)), []⟩, ⟨(some 41), .faddr 5 (.t 3), (some (38, true)), []⟩, ⟨(some 42), .load 1 false (.t 41), (some (38, true)), []⟩, ⟨(some 43), .bin .eql (.t 40) (.t 42), (some (38, true)), []⟩, ⟨(some 44), .pick (.t 38) (.t 43) (.c (.bool false)), none, []⟩, ⟨(some 45), .mv (.t 44), none, []⟩, ⟨(some 46), .faddr 6 (.t 2), (some (45, true)), []⟩, ⟨(some 47), .load 1 false (.t 46), (some (45, true)), []⟩, ⟨(some 48), .faddr 6 (.t 3), (some (45, true)), []⟩, ⟨(some 49), .load 1 false (.t 48), (some (45, true)), []⟩, ⟨(some 50), .bin .eql (.t 47) (.t 49), (some (45, true)), []⟩, ⟨(some 51), .pick (.t 45) (.t 50) (.c (.bool false)), none, []⟩, ⟨(some 52), .mv (.t 51), none, []⟩, ⟨(some 53), .faddr 7 (.t 2), (some (52, true)), []⟩, ⟨(some 54), .load 1 false (.t 53), (some (52, true)), []⟩, ⟨(some 55), .faddr 7 (.t 3), (some (52, true)), []⟩, ⟨(some 56), .load 1 false (.t 55), (some (52, true)), []⟩, ⟨(some 57), .bin .eql (.t 54) (.t 56), (some (52, true)), []⟩, ⟨(some 58), .pick (.t 52) (.t 57) (.c (.bool false)), none, []⟩, ⟨(some 59), .mv (.t 58), none, []⟩, ⟨(some 60), .faddr 8 (.t 2), (some (59, true)), []⟩, ⟨(some 61), .load 1 false (.t 60), (some (59, true)), []⟩, ⟨(some 62), .faddr 8 (.t 3), (some (59, true)), []⟩, ⟨(some 63), .load 1 false (.t 62), (some (59, true)), []⟩, ⟨(some 64), .call .pure n_keep_Bytes [(.t 61), (.t 63)], (some (59, true)), []⟩, ⟨(some 65), .pick (.t 59) (.t 64) (.c (.bool false)), none, []⟩, ⟨(some 4), .mv (.t 65), none, []⟩])
  (.ret))))⟩

def h_keep_Command : List (Nat × Nat × Hint) := [(0, 0, ⟨0, .pure, false⟩), (0, 1, ⟨1, .pure, false⟩)]
theorem strip_keep_Command : stripFun Try.prog (fun r i => findH h_keep_Command r i) Try.f15 = some keep_Command := by kernel_rfl

def keep_Bytes_l0 : SCode := (.seq ((.seq (.region [⟨(some 11), .mv (.t 5), none, []⟩, ⟨(some 12), .mv (.t 0), none, []⟩, ⟨(some 13), .len (.t 12), none, []⟩, ⟨(some 14), .bin .lss (.t 11) (.t 13), none, []⟩])
  (.cond (.t 14) (.skip) (.exit 0))))
  ((.seq (.block 1 ((.seq (.region [⟨(some 17), .mv (.t 0), none, []⟩, ⟨(some 18), .mv (.t 5), none, []⟩, ⟨(some 19), .iaddr 1 (.t 17) (.t 18), none, []⟩, ⟨(some 20), .load 1 false (.t 19), none, []⟩, ⟨(some 21), .mv (.t 1), none, []⟩, ⟨(some 22), .mv (.t 5), none, []⟩, ⟨(some 23), .iaddr 1 (.t 21) (.t 22), none, []⟩, ⟨(some 24), .load 1 false (.t 23), none, []⟩, ⟨(some 25), .bin .neq (.t 20) (.t 24), none, []⟩])
  (.cond (.t 25) ((.seq (.region [⟨(some 4), .mv (.c (.bool false)), none, []⟩])
  (.ret))) (.skip)))))
  (.region [⟨(some 15), .mv (.t 5), none, []⟩, ⟨(some 16), .bin .add (.t 15) (.c (.int .i64 1)), none, []⟩, ⟨(some 5), .mv (.t 16), none, []⟩]))))

def keep_Bytes : SFun := ⟨2, [.tmp 4],
  (.seq (.region [⟨(some 4), .mv (.c (.bool false)), none, []⟩])
  ((.seq ((.seq (.region [⟨(some 6), .mv (.t 0), none, []⟩, ⟨(some 7), .len (.t 6), none, []⟩, ⟨(some 8), .mv (.t 1), none, []⟩, ⟨(some 9), .len (.t 8), none, []⟩, ⟨(some 10), .bin .neq (.t 7) (.t 9), none, []⟩])
  (.cond (.t 10) ((.seq (.region [⟨(some 4), .mv (.c (.bool false)), none, []⟩])
  (.ret))) (.skip))))
  ((.seq ((.seq (.region [⟨(some 5), .mv (.c (.int .i64 0)), none, []⟩])
  (.block 0 (.loop keep_Bytes_l0))))
  ((.seq (.region [⟨(some 4), .mv (.c (.bool true)), none, []⟩])
  (.ret))))))))⟩

def h_keep_Bytes : List (Nat × Nat × Hint) := []
theorem strip_keep_Bytes : stripFun Try.prog (fun r i => findH h_keep_Bytes r i) Try.f16 = some keep_Bytes := by kernel_rfl

def ref01_Command : SFun := ⟨1, [.tmp 2],
  (.seq (.region [⟨(some 1), .box 0 (.t 0), none, []⟩, ⟨(some 2), .mv (.c (.bool false)), none, []⟩])
  ((.seq (.region [⟨(some 5), .faddr 0 (.t 1), none, []⟩, ⟨(some 6), .load 1 false (.t 5), none, []⟩, ⟨(some 7), .build [(.int .i64 0), (.int .i64 0), (.int .i64 0), (.int .i64 0), (.int .i64 0), (.int .i64 0), (.int .i64 0), (.int .i64 0), (.islc false true 0 [])] [(0, 1, (.t 6))], none, []⟩, ⟨(some 3), .box 1 (.c (.agg [(.int .i64 0), (.int .i64 0), (.int .i64 0), (.int .i64 0), (.int .i64 0), (.int .i64 0), (.int .i64 0), (.int .i64 0), (.islc false true 0 [])])), none, []⟩, ⟨none, .store 9 (.t 3) (.t 7), none, []⟩])
  ((.seq ((.seq (.region [⟨(some 8), .faddr 0 (.t 1), none, []⟩, ⟨(some 9), .load 1 false (.t 8), none, []⟩])
  (.block 0 ((.seq (.region [⟨(some 11), .bin .eql (.t 9) (.c (.int .i64 1)), none, []⟩, ⟨(some 10), .mv (.t 11), none, []⟩])
  (.cond (.t 10) ((.seq ((.seq (.region [⟨(some 12), .faddr 1 (.t 1), none, []⟩, ⟨(some 13), .load 1 false (.t 12), none, []⟩, ⟨(some 14), .call .pure n_ref01_Id [(.t 13)], none, []⟩, ⟨(some 15), .un .not (.t 14), none, []⟩, ⟨(some 16), .mv (.t 15), none, []⟩, ⟨(some 17), .faddr 2 (.t 1), (some (16, false)), []⟩, ⟨(some 18), .load 1 false (.t 17), (some (16, false)), []⟩, ⟨(some 19), .bin .neq (.t 18) (.c (.int .i64 0)), (some (16, false)), []⟩, ⟨(some 20), .mv (.t 19), (some (16, false)), []⟩, ⟨(some 21), .faddr 2 (.t 1), (some (20, true)), []⟩, ⟨(some 22), .load 1 false (.t 21), (some (20, true)), []⟩, ⟨(some 23), .call .pure n_ref01_Id [(.t 22)], (some (20, true)), []⟩, ⟨(some 24), .un .not (.t 23), (some (20, true)), []⟩, ⟨(some 25), .pick (.t 20) (.t 24) (.c (.bool false)), (some (16, false)), []⟩, ⟨(some 26), .pick (.t 16) (.c (.bool true)) (.t 25), none, []⟩, ⟨(some 27), .mv (.t 26), none, []⟩, ⟨(some 28), .faddr 2 (.t 1), (some (27, false)), []⟩, ⟨(some 29), .load 1 false (.t 28), (some (27, false)), []⟩, ⟨(some 30), .faddr 1 (.t 1), (some (27, false)), []⟩, ⟨(some 31), .load 1 false (.t 30), (some (27, false)), []⟩, ⟨(some 32), .bin .eql (.t 29) (.t 31), (some (27, false)), []⟩, ⟨(some 33), .pick (.t 27) (.c (.bool true)) (.t 32), none, []⟩, ⟨(some 34), .mv (.t 33), none, []⟩, ⟨(some 35), .faddr 3 (.t 1), (some (34, false)), []⟩, ⟨(some 36), .load 1 false (.t 35), (some (34, false)), []⟩, ⟨(some 37), .call .pure n_ref01_In [(.t 36), (.c (.int .i64 0)), (.c (.int .i64 512))], (some (34, false)), []⟩, ⟨(some 38), .un .not (.t 37), (some (34, false)), []⟩, ⟨(some 39), .pick (.t 34) (.c (.bool true)) (.t 38), none, []⟩, ⟨(some 40), .mv (.t 39), none, []⟩, ⟨(some 41), .faddr 5 (.t 1), (some (40, false)), []⟩, ⟨(some 42), .load 1 false (.t 41), (some (40, false)), []⟩, ⟨(some 43), .call .pure n_ref01_In [(.t 42), (.c (.int .i64 0)), (.c (.int .i64 65535))], (some (40, false)), []⟩, ⟨(some 44), .un .not (.t 43), (some (40, false)), []⟩, ⟨(some 45), .pick (.t 40) (.c (.bool true)) (.t 44), none, []⟩])
  (.cond (.t 45) ((.seq (.region [⟨(some 2), .mv (.c (.bool false)), none, []⟩])
  (.ret))) (.skip))))
  (.region [⟨(some 46), .faddr 1 (.t 1), none, []⟩, ⟨(some 47), .load 1 false (.t 46), none, []⟩, ⟨(some 48), .faddr 2 (.t 1), none, []⟩, ⟨(some 49), .load 1 false (.t 48), none, []⟩, ⟨(some 50), .faddr 3 (.t 1), none, []⟩, ⟨(some 51), .load 1 false (.t 50), none, []⟩, ⟨(some 52), .faddr 5 (.t 1), none, []⟩, ⟨(some 53), .load 1 false (.t 52), none, []⟩, ⟨(some 54), .faddr 1 (.t 3), none, []⟩, ⟨none, .store 1 (.t 54) (.t 47), none, [3, 5, 7]⟩, ⟨(some 55), .faddr 2 (.t 3), none, []⟩, ⟨none, .store 1 (.t 55) (.t 49), none, [5, 7]⟩, ⟨(some 56), .faddr 3 (.t 3), none, []⟩, ⟨none, .store 1 (.t 56) (.t 51), none, [7]⟩, ⟨(some 57), .faddr 5 (.t 3), none, []⟩, ⟨none, .store 1 (.t 57) (.t 53), none, []⟩]))) ((.seq (.region [⟨(some 59), .bin .eql (.t 9) (.c (.int .i64 2)), none, []⟩, ⟨(some 58), .mv (.t 59), none, []⟩])
  (.cond (.t 58) ((.seq (.region [⟨(some 60), .faddr 8 (.t 1), none, []⟩, ⟨(some 61), .load 1 false (.t 60), none, []⟩, ⟨(some 62), .len (.t 61), none, []⟩, ⟨(some 63), .bin .quo (.t 62) (.c (.int .i64 64)), none, []⟩, ⟨(some 4), .mv (.t 63), none, []⟩])
  ((.seq ((.seq (.region [⟨(some 64), .faddr 8 (.t 1), none, []⟩, ⟨(some 65), .load 1 false (.t 64), none, []⟩, ⟨(some 66), .len (.t 65), none, []⟩, ⟨(some 67), .bin .rem (.t 66) (.c (.int .i64 64)), none, []⟩, ⟨(some 68), .bin .neq (.t 67) (.c (.int .i64 0)), none, []⟩, ⟨(some 69), .mv (.t 68), none, []⟩, ⟨(some 70), .mv (.t 4), (some (69, false)), []⟩, ⟨(some 71), .call .pure n_ref01_In [(.t 70), (.c (.int .i64 1)), (.c (.int .i64 8))], (some (69, false)), []⟩, ⟨(some 72), .un .not (.t 71), (some (69, false)), []⟩, ⟨(some 73), .pick (.t 69) (.c (.bool true)) (.t 72), none, []⟩, ⟨(some 74), .mv (.t 73), none, []⟩, ⟨(some 75), .faddr 4 (.t 1), (some (74, false)), []⟩, ⟨(some 76), .load 1 false (.t 75), (some (74, false)), []⟩, ⟨(some 77), .mv (.t 4), (some (74, false)), []⟩, ⟨(some 78), .call .pure n_ref01_run [(.t 76), (.t 77)], (some (74, false)), []⟩, ⟨(some 79), .un .not (.t 78), (some (74, false)), []⟩, ⟨(some 80), .pick (.t 74) (.c (.bool true)) (.t 79), none, []⟩])
  (.cond (.t 80) ((.seq (.region [⟨(some 2), .mv (.c (.bool false)), none, []⟩])
  (.ret))) (.skip))))
  (.region [⟨(some 81), .faddr 4 (.t 1), none, []⟩, ⟨(some 82), .load 1 false (.t 81), none, []⟩, ⟨(some 83), .faddr 4 (.t 3), none, []⟩, ⟨none, .store 1 (.t 83) (.t 82), none, []⟩]))))) ((.seq (.region [⟨(some 85), .bin .eql (.t 9) (.c (.int .i64 3)), none, []⟩, ⟨(some 84), .mv (.t 85), none, []⟩])
  (.cond (.t 84) ((.seq ((.seq (.region [⟨(some 86), .faddr 4 (.t 1), none, []⟩, ⟨(some 87), .load 1 false (.t 86), none, []⟩, ⟨(some 88), .faddr 5 (.t 1), none, []⟩, ⟨(some 89), .load 1 false (.t 88), none, []⟩, ⟨(some 90), .call .pure n_ref01_run [(.t 87), (.t 89)], none, []⟩, ⟨(some 91), .un .not (.t 90), none, []⟩])
  (.cond (.t 91) ((.seq (.region [⟨(some 2), .mv (.c (.bool false)), none, []⟩])
  (.ret))) (.skip))))
  (.region [⟨(some 92), .faddr 4 (.t 1), none, []⟩, ⟨(some 93), .load 1 false (.t 92), none, []⟩, ⟨(some 94), .faddr 5 (.t 1), none, []⟩, ⟨(some 95), .load 1 false (.t 94), none, []⟩, ⟨(some 96), .faddr 4 (.t 3), none, []⟩, ⟨none, .store 1 (.t 96) (.t 93), none, [3]⟩, ⟨(some 97), .faddr 5 (.t 3), none, []⟩, ⟨none, .store 1 (.t 97) (.t 95), none, []⟩]))) ((.seq (.region [⟨(some 99), .bin .eql (.t 9) (.c (.int .i64 4)), none, []⟩, ⟨(some 98), .mv (.t 99), none, []⟩])
  (.cond (.t 98) ((.seq ((.seq (.region [⟨(some 100), .faddr 4 (.t 1), none, []⟩, ⟨(some 101), .load 1 false (.t 100), none, []⟩, ⟨(some 102), .faddr 5 (.t 1), none, []⟩, ⟨(some 103), .load 1 false (.t 102), none, []⟩, ⟨(some 104), .call .pure n_ref01_run [(.t 101), (.t 103)], none, []⟩, ⟨(some 105), .un .not (.t 104), none, []⟩, ⟨(some 106), .mv (.t 105), none, []⟩, ⟨(some 107), .faddr 6 (.t 1), (some (106, false)), []⟩, ⟨(some 108), .load 1 false (.t 107), (some (106, false)), []⟩, ⟨(some 109), .faddr 5 (.t 1), (some (106, false)), []⟩, ⟨(some 110), .load 1 false (.t 109), (some (106, false)), []⟩, ⟨(some 111), .call .pure n_ref01_run [(.t 108), (.t 110)], (some (106, false)), []⟩, ⟨(some 112), .un .not (.t 111), (some (106, false)), []⟩, ⟨(some 113), .pick (.t 106) (.c (.bool true)) (.t 112), none, []⟩])
  (.cond (.t 113) ((.seq (.region [⟨(some 2), .mv (.c (.bool false)), none, []⟩])
  (.ret))) (.skip))))
  (.region [⟨(some 114), .faddr 4 (.t 1), none, []⟩, ⟨(some 115), .load 1 false (.t 114), none, []⟩, ⟨(some 116), .faddr 5 (.t 1), none, []⟩, ⟨(some 117), .load 1 false (.t 116), none, []⟩, ⟨(some 118), .faddr 6 (.t 1), none, []⟩, ⟨(some 119), .load 1 false (.t 118), none, []⟩, ⟨(some 120), .faddr 4 (.t 3), none, []⟩, ⟨none, .store 1 (.t 120) (.t 115), none, [3, 5]⟩, ⟨(some 121), .faddr 5 (.t 3), none, []⟩, ⟨none, .store 1 (.t 121) (.t 117), none, [5]⟩, ⟨(some 122), .faddr 6 (.t 3), none, []⟩, ⟨none, .store 1 (.t 122) (.t 119), none, []⟩]))) ((.seq (.region [⟨(some 124), .bin .eql (.t 9) (.c (.int .i64 5)), none, []⟩, ⟨(some 123), .mv (.t 124), none, []⟩])
  (.cond (.t 123) ((.seq ((.seq (.region [⟨(some 125), .faddr 3 (.t 1), none, []⟩, ⟨(some 126), .load 1 false (.t 125), none, []⟩, ⟨(some 127), .call .pure n_ref01_In [(.t 126), (.c (.int .i64 0)), (.c (.int .i64 512))], none, []⟩, ⟨(some 128), .un .not (.t 127), none, []⟩])
  (.cond (.t 128) ((.seq (.region [⟨(some 2), .mv (.c (.bool false)), none, []⟩])
  (.ret))) (.skip))))
  (.region [⟨(some 129), .faddr 3 (.t 1), none, []⟩, ⟨(some 130), .load 1 false (.t 129), none, []⟩, ⟨(some 131), .faddr 3 (.t 3), none, []⟩, ⟨none, .store 1 (.t 131) (.t 130), none, []⟩]))) ((.seq (.region [⟨(some 133), .bin .eql (.t 9) (.c (.int .i64 6)), none, []⟩, ⟨(some 132), .mv (.t 133), none, []⟩])
  (.cond (.t 132) ((.seq ((.seq (.region [⟨(some 134), .faddr 5 (.t 1), none, []⟩, ⟨(some 135), .load 1 false (.t 134), none, []⟩, ⟨(some 136), .call .pure n_ref01_In [(.t 135), (.c (.int .i64 0)), (.c (.int .i64 65535))], none, []⟩, ⟨(some 137), .un .not (.t 136), none, []⟩, ⟨(some 138), .mv (.t 137), none, []⟩, ⟨(some 139), .faddr 7 (.t 1), (some (138, false)), []⟩, ⟨(some 140), .load 1 false (.t 139), (some (138, false)), []⟩, ⟨(some 141), .call .pure n_ref01_In [(.t 140), (.c (.int .i64 0)), (.c (.int .i64 4294967295))], (some (138, false)), []⟩, ⟨(some 142), .un .not (.t 141), (some (138, false)), []⟩, ⟨(some 143), .pick (.t 138) (.c (.bool true)) (.t 142), none, []⟩])
  (.cond (.t 143) ((.seq (.region [⟨(some 2), .mv (.c (.bool false)), none, []⟩])
  (.ret))) (.skip))))
  (.region [⟨(some 144), .faddr 5 (.t 1), none, []⟩, ⟨(some 145), .load 1 false (.t 144), none, []⟩, ⟨(some 146), .faddr 7 (.t 1), none, []⟩, ⟨(some 147), .load 1 false (.t 146), none, []⟩, ⟨(some 148), .faddr 5 (.t 3), none, []⟩, ⟨none, .store 1 (.t 148) (.t 145), none, [3]⟩, ⟨(some 149), .faddr 7 (.t 3), none, []⟩, ⟨none, .store 1 (.t 149) (.t 147), none, []⟩]))) ((.seq (.region [⟨(some 2), .mv (.c (.bool false)), none, []⟩])
  (.ret))))))))))))))))))))))))
  ((.seq (.region [⟨(some 150), .faddr 1 (.t 3), none, []⟩, ⟨(some 151), .load 1 false (.t 150), none, []⟩, ⟨(some 152), .faddr 1 (.t 1), none, []⟩, ⟨(some 153), .load 1 false (.t 152), none, []⟩, ⟨(some 154), .bin .eql (.t 151) (.t 153), none, []⟩, ⟨(some 155), .mv (.t 154), none, []⟩, ⟨(some 156), .faddr 2 (.t 3), (some (155, true)), []⟩, ⟨(some 157), .load 1 false (.t 156), (some (155, true)), []⟩, ⟨(some 158), .faddr 2 (.t 1), (some (155, true)), []⟩, ⟨(some 159), .load 1 false (.t 158), (some (155, true)), []⟩, ⟨(some 160), .bin .eql (.t 157) (.t 159), (some (155, true)), []⟩, ⟨(some 161), .pick (.t 155) (.t 160) (.c (.bool false)), none, []⟩, ⟨(some 162), .mv (.t 161), none, []⟩, ⟨(some 163), .faddr 3 (.t 3), (some (162, true)), []⟩, ⟨(some 164), .load 1 false (.t 163), (some (162, true)), []⟩, ⟨(some 165), .faddr 3 (.t 1), (some (162, true)), []⟩, ⟨(some 166), .load 1 false (.t 165), (some (162, true)), []⟩, ⟨(some 167), .bin .eql (.t 164) (.t 166), (some (162, true)), []⟩, ⟨(some 168), .pick (.t 162) (.t 167) (.c (.bool false)), none, []⟩, ⟨(some 169), .mv (.t 168), none, []⟩, ⟨(some 170), .faddr 4 (.t 3), (some (169, true)), []⟩, ⟨(some 171), .load 1 false (.t 170), (some (169, true)), []⟩, ⟨(some 172), .faddr 4 (.t 1), (some (169, true)), []⟩, ⟨(some 173), .load 1 false (.t 172), (some (169, true)), []⟩, ⟨(some 174), .bin .eql (.t 171) (.t 173), (some (169, true)), []⟩, ⟨(some 175), .pick (.t 169) (.t 174) (.c (.bool false)), none, []⟩, ⟨(some 176), .mv (.t 175), none, []⟩, ⟨(some 177), .faddr 5 (.t 3), (some (176, true)), []⟩, ⟨(some 178), .load 1 false (.t 177), (some (176, true)), []⟩, ⟨(some 179), .faddr 5 (.t 1), (some (176, true)), []⟩, ⟨(some 180), .load 1 false (.t 179), (some (176, true)), []⟩, ⟨(some 181), .bin .eql (.t 178) (.t 180), (some (176, true)), []⟩, ⟨(some 182), .pick (.t 176) (.t 181) (.c (.bool false)), none, []⟩, ⟨(some 183), .mv (.t 182), none, []⟩, ⟨(some 184), .faddr 6 (.t 3), (some (183, true)), []⟩, ⟨(some 185), .load 1 false (.t 184), (some (183, true)), []⟩, ⟨(some 186), .faddr 6 (.t 1), (some (183, true)), []⟩, ⟨(some 187), .load 1 false (.t 186), (some (183, true)), []⟩, ⟨(some 188), .bin .eql (.t 185) (.t 187), (some (183, true)), []⟩, ⟨(some 189), .pick (.t 183) (.t 188) (.c (.bool false)), none, []⟩, ⟨(some 190), .mv (.t 189), none, []⟩, ⟨(some 191), .faddr 7 (.t 3), (some (190, true)), []⟩, ⟨(some 192), .load 1 false (.t 191), (some (190, true)), []⟩, ⟨(some 193), .faddr 7 (.t 1), (some (190, true)), []⟩, ⟨(some 194), .load 1 false (.t 193), (some (190, true)), []⟩, ⟨(some 195), .bin .eql (.t 192) (.t 194), (some (190, true)), []⟩, ⟨(some 196), .pick (.t 190) (.t 195) (.c (.bool false)), none, []⟩, ⟨(some 197), .mv (.t 196), none, []⟩, ⟨(some 198), .faddr 0 (.t 1), (some (197, true)), []⟩, ⟨(some 199), .load 1 false (.t 198), (some (197, true)), []⟩, ⟨(some 200), .bin .eql (.t 199) (.c (.int .i64 2)), (some (197, true)), []⟩, ⟨(some 201), .mv (.t 200), (some (197, true)), []⟩, ⟨(some 202), .faddr 8 (.t 1), (some (201, false)), []⟩, ⟨(some 203), .load 1 false (.t 202), (some (201, false)), []⟩, ⟨(some 204), .len (.t 203), (some (201, false)), []⟩, ⟨(some 205), .bin .eql (.t 204) (.c (.int .i64 0)), (some (201, false)), []⟩, ⟨(some 206), .pick (.t 201) (.c (.bool true)) (.t 205), (some (197, true)), []⟩, ⟨(some 207), .pick (.t 197) (.t 206) (.c (.bool false)), none, []⟩, ⟨(some 2), .mv (.t 207), none, []⟩])
  (.ret))))))))⟩

def h_ref01_Command : List (Nat × Nat × Hint) := [(0, 0, ⟨0, .pure, false⟩), (1, 3, ⟨1, .pure, false⟩)]
theorem strip_ref01_Command : stripFun Try.prog (fun r i => findH h_ref01_Command r i) Try.f17 = some ref01_Command := by kernel_rfl

def frame_Check : SFun := ⟨1, [.tmp 2],
  (.seq (.region [⟨(some 1), .box 0 (.t 0), none, []⟩, ⟨(some 2), .mv (.c (.int .i64 0)), none, []⟩])
  ((.seq (.region [⟨(some 6), .load 9 true (.t 1), none, []⟩, ⟨(some 7), .call .pure n_frame_bare [(.t 6)], none, []⟩, ⟨(some 5), .mv (.t 7), none, []⟩, ⟨(some 8), .extract (.t 5) 0, none, []⟩, ⟨(some 9), .extract (.t 5) 1, none, []⟩, ⟨(some 3), .box 1 (.c (.agg [(.int .i64 0), (.int .i64 0), (.int .i64 0), (.int .i64 0), (.int .i64 0), (.int .i64 0), (.int .i64 0), (.int .i64 0), (.islc false true 0 [])])), none, []⟩, ⟨none, .store 9 (.t 3) (.t 8), none, []⟩, ⟨(some 4), .mv (.t 9), none, []⟩])
  ((.seq ((.seq (.region [⟨(some 10), .mv (.t 4), none, []⟩, ⟨(some 11), .un .not (.t 10), none, []⟩, ⟨(some 12), .mv (.t 11), none, []⟩, ⟨(some 13), .faddr 1 (.t 3), (some (12, false)), []⟩, ⟨(some 14), .load 1 false (.t 13), (some (12, false)), []⟩, ⟨(some 15), .bin .neq (.t 14) (.c (.int .i64 0)), (some (12, false)), []⟩, ⟨(some 16), .pick (.t 12) (.c (.bool true)) (.t 15), none, []⟩, ⟨(some 17), .mv (.t 16), none, []⟩, ⟨(some 18), .faddr 2 (.t 3), (some (17, false)), []⟩, ⟨(some 19), .load 1 false (.t 18), (some (17, false)), []⟩, ⟨(some 20), .bin .neq (.t 19) (.c (.int .i64 0)), (some (17, false)), []⟩, ⟨(some 21), .pick (.t 17) (.c (.bool true)) (.t 20), none, []⟩, ⟨(some 22), .mv (.t 21), none, []⟩, ⟨(some 23), .faddr 3 (.t 3), (some (22, false)), []⟩, ⟨(some 24), .load 1 false (.t 23), (some (22, false)), []⟩, ⟨(some 25), .bin .neq (.t 24) (.c (.int .i64 0)), (some (22, false)), []⟩, ⟨(some 26), .pick (.t 22) (.c (.bool true)) (.t 25), none, []⟩, ⟨(some 27), .mv (.t 26), none, []⟩, ⟨(some 28), .faddr 4 (.t 3), (some (27, false)), []⟩, ⟨(some 29), .load 1 false (.t 28), (some (27, false)), []⟩, ⟨(some 30), .bin .neq (.t 29) (.c (.int .i64 0)), (some (27, false)), []⟩, ⟨(some 31), .pick (.t 27) (.c (.bool true)) (.t 30), none, []⟩, ⟨(some 32), .mv (.t 31), none, []⟩, ⟨(some 33), .faddr 5 (.t 3), (some (32, false)), []⟩, ⟨(some 34), .load 1 false (.t 33), (some (32, false)), []⟩, ⟨(some 35), .bin .neq (.t 34) (.c (.int .i64 0)), (some (32, false)), []⟩, ⟨(some 36), .pick (.t 32) (.c (.bool true)) (.t 35), none, []⟩, ⟨(some 37), .mv (.t 36), none, []⟩, ⟨(some 38), .faddr 6 (.t 3), (some (37, false)), []⟩, ⟨(some 39), .load 1 false (.t 38), (some (37, false)), []⟩, ⟨(some 40), .bin .neq (.t 39) (.c (.int .i64 0)), (some (37, false)), []⟩, ⟨(some 41), .pick (.t 37) (.c (.bool true)) (.t 40), none, []⟩, ⟨(some 42), .mv (.t 41), none, []⟩, ⟨(some 43), .faddr 7 (.t 3), (some (42, false)), []⟩, ⟨(some 44), .load 1 false (.t 43), (some (42, false)), []⟩, ⟨(some 45), .bin .neq (.t 44) (.c (.int .i64 0)), (some (42, false)), []⟩, ⟨(some 46), .pick (.t 42) (.c (.bool true)) (.t 45), none, []⟩, ⟨(some 47), .mv (.t 46), none, []⟩, ⟨(some 48), .faddr 8 (.t 3), (some (47, false)), []⟩, ⟨(some 49), .load 1 false (.t 48), (some (47, false)), []⟩, ⟨(some 50), .len (.t 49), (some (47, false)), []⟩, ⟨(some 51), .bin .gtr (.t 50) (.c (.int .i64 0)), (some (47, false)), []⟩, ⟨(some 52), .pick (.t 47) (.c (.bool true)) (.t 51), none, []⟩])
  (.cond (.t 52) ((.seq (.region [⟨(some 2), .mv (.c (.int .i64 1)), none, []⟩])
  (.ret))) (.skip))))
  ((.seq (.region [⟨(some 2), .mv (.c (.int .i64 0)), none, []⟩])
  (.ret))))))))⟩

def h_frame_Check : List (Nat × Nat × Hint) := [(0, 0, ⟨0, .pure, false⟩), (1, 5, ⟨1, .pure, false⟩)]
theorem strip_frame_Check : stripFun Try.prog (fun r i => findH h_frame_Check r i) Try.f18 = some frame_Check := by kernel_rfl

def law09_wakes : SFun := ⟨0, [.tmp 0],
  (.seq (.region [⟨(some 0), .mv (.c (.bool false)), none, []⟩])
  ((.seq (.region [⟨(some 14), .build [(.int .i64 0), (.int .i64 0), (.int .i64 0), (.int .i64 0), (.int .i64 0), (.int .i64 0), (.int .i64 0), (.int .i64 0), (.islc false true 0 [])] [(0, 1, (.c (.int .i64 5))), (3, 1, (.c (.int .i64 7)))], none, []⟩, ⟨(some 1), .box 0 (.c (.agg [(.int .i64 0), (.int .i64 0), (.int .i64 0), (.int .i64 0), (.int .i64 0), (.int .i64 0), (.int .i64 0), (.int .i64 0), (.islc false true 0 [])])), none, []⟩, ⟨none, .store 9 (.t 1) (.t 14), none, []⟩])
  ((.seq (.region [⟨(some 16), .load 9 true (.t 1), none, []⟩, ⟨(some 17), .call .pure n_frame_Bytes [(.c (.int .i64 3)), (.t 16)], none, []⟩, ⟨(some 15), .mv (.t 17), none, []⟩, ⟨(some 18), .extract (.t 15) 0, none, []⟩, ⟨(some 19), .extract (.t 15) 1, none, []⟩, ⟨(some 2), .mv (.t 18), none, []⟩, ⟨(some 3), .mv (.t 19), none, []⟩])
  ((.seq (.region [⟨(some 21), .mv (.t 2), none, []⟩, ⟨(some 22), .call (.fresh 1) n_keep_Twin [(.t 21)], none, []⟩, ⟨(some 23), .buildS 2 1 1 (.int .u8 0) [(0, (.c (.int .u8 9)))], none, []⟩, ⟨(some 24), .app 3 1 (.t 22) (.t 23), none, []⟩, ⟨(some 25), .call .pure n_frame_Parse [(.t 24)], none, []⟩, ⟨(some 20), .mv (.t 25), none, []⟩, ⟨(some 26), .extract (.t 20) 0, none, []⟩, ⟨(some 27), .extract (.t 20) 1, none, []⟩, ⟨(some 28), .extract (.t 20) 2, none, []⟩, ⟨(some 29), .extract (.t 20) 3, none, []⟩, ⟨(some 4), .box 4 (.c (.agg [(.int .i64 0), (.int .i64 0), (.int .i64 0), (.int .i64 0), (.int .i64 0), (.int .i64 0), (.int .i64 0), (.int .i64 0), (.islc false true 0 [])])), none, []⟩, ⟨none, .store 9 (.t 4) (.t 26), none, []⟩, ⟨(some 5), .mv (.t 27), none, []⟩, ⟨(some 6), .mv (.t 28), none, []⟩, ⟨(some 7), .mv (.t 29), none, []⟩])
  ((.seq (.region [⟨(some 31), .call .pure n_frame_Parse [(.c (.islc false true 0 []))], none, []⟩, ⟨(some 30), .mv (.t 31), none, []⟩, ⟨(some 32), .extract (.t 30) 0, none, []⟩, ⟨(some 33), .extract (.t 30) 1, none, []⟩, ⟨(some 34), .extract (.t 30) 2, none, []⟩, ⟨(some 35), .extract (.t 30) 3, none, []⟩, ⟨(some 8), .box 5 (.c (.agg [(.int .i64 0), (.int .i64 0), (.int .i64 0), (.int .i64 0), (.int .i64 0), (.int .i64 0), (.int .i64 0), (.int .i64 0), (.islc false true 0 [])])), none, []⟩, ⟨none, .store 9 (.t 8) (.t 32), none, []⟩, ⟨(some 9), .mv (.t 33), none, []⟩, ⟨(some 10), .mv (.t 34), none, []⟩, ⟨(some 11), .mv (.t 35), none, []⟩])
  ((.seq (.region [⟨(some 37), .load 9 true (.t 1), none, []⟩, ⟨(some 38), .call .pure n_frame_Payload [(.t 37)], none, []⟩, ⟨(some 36), .mv (.t 38), none, []⟩, ⟨(some 39), .extract (.t 36) 0, none, []⟩, ⟨(some 40), .extract (.t 36) 1, none, []⟩, ⟨(some 12), .mv (.t 39), none, []⟩, ⟨(some 13), .mv (.t 40), none, []⟩])
  ((.seq (.region [⟨(some 41), .mv (.t 3), none, []⟩, ⟨(some 42), .bin .eql (.t 41) (.c (.int .i64 0)), none, []⟩, ⟨(some 43), .mv (.t 42), none, []⟩, ⟨(some 44), .mv (.t 2), (some (43, true)), []⟩, ⟨(some 45), .len (.t 44), (some (43, true)), []⟩, ⟨(some 46), .bin .eql (.t 45) (.c (.int .i64 24)), (some (43, true)), []⟩, ⟨(some 47), .pick (.t 43) (.t 46) (.c (.bool false)), none, []⟩, ⟨(some 48), .mv (.t 47), none, []⟩, ⟨(some 49), .mv (.t 7), (some (48, true)), []⟩, ⟨(some 50), .bin .eql (.t 49) (.c (.int .i64 0)), (some (48, true)), []⟩, ⟨(some 51), .pick (.t 48) (.t 50) (.c (.bool false)), none, []⟩, ⟨(some 52), .mv (.t 51), none, []⟩, ⟨(some 53), .load 9 true (.t 1), (some (52, true)), []⟩, ⟨(some 54), .load 9 true (.t 4), (some (52, true)), []⟩, ⟨(some 55), .call .pure n_keep_Command [(.t 53), (.t 54)], (some (52, true)), []⟩, ⟨(some 56), .pick (.t 52) (.t 55) (.c (.bool false)), none, []⟩, ⟨(some 57), .mv (.t 56), none, []⟩, ⟨(some 58), .mv (.t 5), (some (57, true)), []⟩, ⟨(some 59), .bin .eql (.t 58) (.c (.int .i64 3)), (some (57, true)), []⟩, ⟨(some 60), .pick (.t 57) (.t 59) (.c (.bool false)), none, []⟩, ⟨(some 61), .mv (.t 60), none, []⟩, ⟨(some 62), .mv (.t 6), (some (61, true)), []⟩, ⟨(some 63), .bin .eql (.t 62) (.c (.int .i64 24)), (some (61, true)), []⟩, ⟨(some 64), .pick (.t 61) (.t 63) (.c (.bool false)), none, []⟩, ⟨(some 65), .mv (.t 64), none, []⟩, ⟨(some 66), .mv (.t 11), (some (65, true)), []⟩, ⟨(some 67), .bin .eql (.t 66) (.c (.int .i64 16)), (some (65, true)), []⟩, ⟨(some 68), .pick (.t 65) (.t 67) (.c (.bool false)), none, []⟩, ⟨(some 69), .mv (.t 68), none, []⟩, ⟨(some 70), .mv (.t 13), (some (69, true)), []⟩, ⟨(some 71), .bin .eql (.t 70) (.c (.int .i64 0)), (some (69, true)), []⟩, ⟨(some 72), .pick (.t 69) (.t 71) (.c (.bool false)), none, []⟩, ⟨(some 73), .mv (.t 72), none, []⟩, ⟨(some 74), .mv (.t 12), (some (73, true)), []⟩, ⟨(some 75), .len (.t 74), (some (73, true)), []⟩, ⟨(some 76), .bin .eql (.t 75) (.c (.int .i64 4)), (some (73, true)), []⟩, ⟨(some 77), .pick (.t 73) (.t 76) (.c (.bool false)), none, []⟩, ⟨(some 78), .mv (.t 77), none, []⟩, ⟨(some 79), .build [(.int .i64 0), (.int .i64 0), (.int .i64 0), (.int .i64 0), (.int .i64 0), (.int .i64 0), (.int .i64 0), (.int .i64 0), (.islc false true 0 [])] [], (some (78, true)), []⟩, ⟨(some 80), .call .pure n_frame_Check [(.t 79)], (some (78, true)), []⟩, ⟨(some 81), .bin .eql (.t 80) (.c (.int .i64 1)), (some (78, true)), []⟩, ⟨(some 82), .pick (.t 78) (.t 81) (.c (.bool false)), none, []⟩, ⟨(some 0), .mv (.t 82), none, []⟩])
  (.ret))))))))))))))⟩

def h_law09_wakes : List (Nat × Nat × Hint) := [(1, 1, ⟨0, .pure, false⟩), (3, 1, ⟨0, (.fresh 1), false⟩), (3, 2, ⟨2, .pure, false⟩), (3, 3, ⟨3, .pure, false⟩), (3, 10, ⟨4, .pure, false⟩), (4, 6, ⟨5, .pure, false⟩)]
theorem strip_law09_wakes : stripFun Try.prog (fun r i => findH h_law09_wakes r i) Try.f19 = some law09_wakes := by kernel_rfl

def ref01_Payload : SFun := ⟨1, [.tmp 2],
  (.seq (.region [⟨(some 1), .box 0 (.t 0), none, []⟩, ⟨(some 2), .nilrow 1 1, none, []⟩])
  ((.seq (.region [⟨(some 3), .nilrow 2 1, none, []⟩])
  ((.seq ((.seq (.region [⟨(some 4), .faddr 0 (.t 1), none, []⟩, ⟨(some 5), .load 1 false (.t 4), none, []⟩])
  (.block 0 ((.seq (.region [⟨(some 7), .bin .eql (.t 5) (.c (.int .i64 1)), none, []⟩, ⟨(some 6), .mv (.t 7), none, []⟩])
  (.cond (.t 6) ((.seq (.region [⟨(some 8), .faddr 1 (.t 1), none, []⟩, ⟨(some 9), .load 1 false (.t 8), none, []⟩, ⟨(some 10), .call (.fresh 3) n_ref01_Bytes [(.c (.int .i64 8)), (.t 9)], none, []⟩, ⟨(some 11), .faddr 2 (.t 1), none, []⟩, ⟨(some 12), .load 1 false (.t 11), none, [2]⟩, ⟨(some 13), .call (.fresh 4) n_ref01_Bytes [(.c (.int .i64 8)), (.t 12)], none, []⟩, ⟨(some 14), .app 5 1 (.t 10) (.t 13), none, []⟩, ⟨(some 3), .mv (.t 14), none, []⟩])
  ((.seq (.region [⟨(some 15), .mv (.t 3), none, []⟩, ⟨(some 16), .faddr 3 (.t 1), none, []⟩, ⟨(some 17), .load 1 false (.t 16), none, []⟩, ⟨(some 18), .call (.fresh 6) n_ref01_Bytes [(.c (.int .i64 4)), (.t 17)], none, []⟩, ⟨(some 19), .app 7 1 (.t 15) (.t 18), none, []⟩, ⟨(some 3), .mv (.t 19), none, []⟩])
  ((.seq (.region [⟨(some 20), .mv (.t 3), none, []⟩, ⟨(some 21), .faddr 5 (.t 1), none, []⟩, ⟨(some 22), .load 1 false (.t 21), none, []⟩, ⟨(some 23), .call (.fresh 8) n_ref01_Bytes [(.c (.int .i64 4)), (.t 22)], none, []⟩, ⟨(some 24), .app 9 1 (.t 20) (.t 23), none, []⟩, ⟨(some 2), .mv (.t 24), none, []⟩])
  (.ret))))))) ((.seq (.region [⟨(some 26), .bin .eql (.t 5) (.c (.int .i64 2)), none, []⟩, ⟨(some 25), .mv (.t 26), none, []⟩])
  (.cond (.t 25) ((.seq (.region [⟨(some 27), .faddr 4 (.t 1), none, []⟩, ⟨(some 28), .load 1 false (.t 27), none, []⟩, ⟨(some 29), .call (.fresh 10) n_ref01_Bytes [(.c (.int .i64 4)), (.t 28)], none, []⟩, ⟨(some 30), .faddr 8 (.t 1), none, []⟩, ⟨(some 31), .load 1 false (.t 30), none, [2]⟩, ⟨(some 32), .len (.t 31), none, []⟩, ⟨(some 33), .bin .quo (.t 32) (.c (.int .i64 64)), none, []⟩, ⟨(some 34), .call (.fresh 11) n_ref01_Bytes [(.c (.int .i64 4)), (.t 33)], none, []⟩, ⟨(some 35), .app 12 1 (.t 29) (.t 34), none, []⟩, ⟨(some 3), .mv (.t 35), none, []⟩])
  ((.seq (.region [⟨(some 36), .mv (.t 3), none, []⟩, ⟨(some 37), .faddr 8 (.t 1), none, []⟩, ⟨(some 38), .load 1 false (.t 37), none, []⟩, ⟨(some 39), .app 13 1 (.t 36) (.t 38), none, []⟩, ⟨(some 2), .mv (.t 39), none, []⟩])
  (.ret))))) ((.seq (.region [⟨(some 41), .bin .eql (.t 5) (.c (.int .i64 3)), none, []⟩, ⟨(some 40), .mv (.t 41), none, []⟩])
  (.cond (.t 40) ((.seq (.region [⟨(some 42), .faddr 4 (.t 1), none, []⟩, ⟨(some 43), .load 1 false (.t 42), none, []⟩, ⟨(some 44), .call (.fresh 14) n_ref01_Bytes [(.c (.int .i64 4)), (.t 43)], none, []⟩, ⟨(some 45), .faddr 5 (.t 1), none, []⟩, ⟨(some 46), .load 1 false (.t 45), none, [2]⟩, ⟨(some 47), .call (.fresh 15) n_ref01_Bytes [(.c (.int .i64 4)), (.t 46)], none, []⟩, ⟨(some 48), .app 16 1 (.t 44) (.t 47), none, []⟩, ⟨(some 2), .mv (.t 48), none, []⟩])
  (.ret))) ((.seq (.region [⟨(some 50), .bin .eql (.t 5) (.c (.int .i64 4)), none, []⟩, ⟨(some 49), .mv (.t 50), none, []⟩])
  (.cond (.t 49) ((.seq (.region [⟨(some 51), .faddr 4 (.t 1), none, []⟩, ⟨(some 52), .load 1 false (.t 51), none, []⟩, ⟨(some 53), .call (.fresh 17) n_ref01_Bytes [(.c (.int .i64 4)), (.t 52)], none, []⟩, ⟨(some 54), .faddr 5 (.t 1), none, []⟩, ⟨(some 55), .load 1 false (.t 54), none, [2]⟩, ⟨(some 56), .call (.fresh 18) n_ref01_Bytes [(.c (.int .i64 4)), (.t 55)], none, []⟩, ⟨(some 57), .app 19 1 (.t 53) (.t 56), none, []⟩, ⟨(some 3), .mv (.t 57), none, []⟩])
  ((.seq (.region [⟨(some 58), .mv (.t 3), none, []⟩, ⟨(some 59), .faddr 6 (.t 1), none, []⟩, ⟨(some 60), .load 1 false (.t 59), none, []⟩, ⟨(some 61), .call (.fresh 20) n_ref01_Bytes [(.c (.int .i64 4)), (.t 60)], none, []⟩, ⟨(some 62), .app 21 1 (.t 58) (.t 61), none, []⟩, ⟨(some 2), .mv (.t 62), none, []⟩])
  (.ret))))) ((.seq (.region [⟨(some 64), .bin .eql (.t 5) (.c (.int .i64 5)), none, []⟩, ⟨(some 63), .mv (.t 64), none, []⟩])
  (.cond (.t 63) ((.seq (.region [⟨(some 65), .faddr 3 (.t 1), none, []⟩, ⟨(some 66), .load 1 false (.t 65), none, []⟩, ⟨(some 67), .call (.fresh 22) n_ref01_Bytes [(.c (.int .i64 4)), (.t 66)], none, []⟩, ⟨(some 2), .mv (.t 67), none, []⟩])
  (.ret))) (.skip)))))))))))))))))))
  ((.seq (.region [⟨(some 68), .faddr 5 (.t 1), none, []⟩, ⟨(some 69), .load 1 false (.t 68), none, []⟩, ⟨(some 70), .call (.fresh 23) n_ref01_Bytes [(.c (.int .i64 4)), (.t 69)], none, []⟩, ⟨(some 71), .faddr 7 (.t 1), none, []⟩, ⟨(some 72), .load 1 false (.t 71), none, [2]⟩, ⟨(some 73), .call (.fresh 24) n_ref01_Bytes [(.c (.int .i64 4)), (.t 72)], none, []⟩, ⟨(some 74), .app 25 1 (.t 70) (.t 73), none, []⟩, ⟨(some 2), .mv (.t 74), none, []⟩])
  (.ret))))))))⟩

def h_ref01_Payload : List (Nat × Nat × Hint) := [(0, 0, ⟨0, .pure, false⟩), (0, 1, ⟨1, .pure, true⟩), (1, 0, ⟨2, .pure, true⟩), (4, 2, ⟨0, (.fresh 3), false⟩), (4, 5, ⟨0, (.fresh 4), false⟩), (4, 6, ⟨5, .pure, false⟩), (5, 3, ⟨0, (.fresh 6), false⟩), (5, 4, ⟨7, .pure, false⟩), (6, 3, ⟨0, (.fresh 8), false⟩), (6, 4, ⟨9, .pure, false⟩), (8, 2, ⟨0, (.fresh 10), false⟩), (8, 7, ⟨0, (.fresh 11), false⟩), (8, 8, ⟨12, .pure, false⟩), (9, 3, ⟨13, .pure, false⟩), (11, 2, ⟨0, (.fresh 14), false⟩), (11, 5, ⟨0, (.fresh 15), false⟩), (11, 6, ⟨16, .pure, false⟩), (13, 2, ⟨0, (.fresh 17), false⟩), (13, 5, ⟨0, (.fresh 18), false⟩), (13, 6, ⟨19, .pure, false⟩), (14, 3, ⟨0, (.fresh 20), false⟩), (14, 4, ⟨21, .pure, false⟩), (16, 2, ⟨0, (.fresh 22), false⟩), (17, 2, ⟨0, (.fresh 23), false⟩), (17, 5, ⟨0, (.fresh 24), false⟩), (17, 6, ⟨25, .pure, false⟩)]
theorem strip_ref01_Payload : stripFun Try.prog (fun r i => findH h_ref01_Payload r i) Try.f20 = some ref01_Payload := by kernel_rfl

def ref01_FrameBytes : SFun := ⟨2, [.tmp 4],
  (.seq (.region [⟨(some 3), .box 0 (.t 1), none, []⟩, ⟨(some 4), .nilrow 1 1, none, []⟩])
  ((.seq (.region [⟨(some 7), .load 9 true (.t 3), none, []⟩, ⟨(some 8), .call .pure n_ref01_Payload [(.t 7)], none, []⟩, ⟨(some 5), .mv (.t 8), none, []⟩])
  ((.seq (.region [⟨(some 9), .buildS 2 1 4 (.int .u8 0) [(0, (.c (.int .u8 70))), (1, (.c (.int .u8 82))), (2, (.c (.int .u8 65))), (3, (.c (.int .u8 77)))], none, []⟩, ⟨(some 10), .ss (.t 9), none, []⟩, ⟨(some 11), .mv (.t 0), none, []⟩, ⟨(some 12), .call (.fresh 3) n_ref01_Bytes [(.c (.int .i64 4)), (.t 11)], none, []⟩, ⟨(some 13), .app 4 1 (.t 10) (.t 12), none, []⟩, ⟨(some 6), .mv (.t 13), none, []⟩])
  ((.seq (.region [⟨(some 14), .mv (.t 6), none, []⟩, ⟨(some 15), .faddr 0 (.t 3), none, []⟩, ⟨(some 16), .load 1 false (.t 15), none, []⟩, ⟨(some 17), .call (.fresh 5) n_ref01_Bytes [(.c (.int .i64 4)), (.t 16)], none, []⟩, ⟨(some 18), .app 6 1 (.t 14) (.t 17), none, []⟩, ⟨(some 6), .mv (.t 18), none, []⟩])
  ((.seq (.region [⟨(some 19), .mv (.t 6), none, []⟩, ⟨(some 20), .mv (.t 5), none, []⟩, ⟨(some 21), .len (.t 20), none, []⟩, ⟨(some 22), .call (.fresh 7) n_ref01_Bytes [(.c (.int .i64 4)), (.t 21)], none, []⟩, ⟨(some 23), .app 8 1 (.t 19) (.t 22), none, []⟩, ⟨(some 6), .mv (.t 23), none, []⟩])
  ((.seq (.region [⟨(some 24), .mv (.t 6), none, []⟩, ⟨(some 25), .mv (.t 5), none, []⟩, ⟨(some 26), .app 9 1 (.t 24) (.t 25), none, []⟩, ⟨(some 6), .mv (.t 26), none, []⟩])
  ((.seq (.region [⟨(some 27), .mv (.t 6), none, []⟩, ⟨(some 28), .mv (.t 6), none, []⟩, ⟨(some 29), .call .pure n_ref01_Sum [(.t 28)], none, []⟩, ⟨(some 30), .call (.fresh 10) n_ref01_Bytes [(.c (.int .i64 4)), (.t 29)], none, []⟩, ⟨(some 31), .app 11 1 (.t 27) (.t 30), none, []⟩, ⟨(some 4), .mv (.t 31), none, []⟩])
  (.ret))))))))))))))⟩

def h_ref01_FrameBytes : List (Nat × Nat × Hint) := [(0, 0, ⟨0, .pure, false⟩), (0, 1, ⟨1, .pure, true⟩), (2, 0, ⟨2, .pure, false⟩), (2, 3, ⟨0, (.fresh 3), false⟩), (2, 4, ⟨4, .pure, false⟩), (3, 3, ⟨0, (.fresh 5), false⟩), (3, 4, ⟨6, .pure, false⟩), (4, 3, ⟨0, (.fresh 7), false⟩), (4, 4, ⟨8, .pure, false⟩), (5, 2, ⟨9, .pure, false⟩), (6, 3, ⟨0, (.fresh 10), false⟩), (6, 4, ⟨11, .pure, false⟩)]
theorem strip_ref01_FrameBytes : stripFun Try.prog (fun r i => findH h_ref01_FrameBytes r i) Try.f21 = some ref01_FrameBytes := by kernel_rfl

def le_Get_l0 : SCode := (.seq (.region [⟨(some 22), .bin .lss (.t 21) (.t 20), none, []⟩])
  ((.seq (.cond (.t 22) (.skip) (.exit 1))
  ((.seq (.block 2 ((.seq (.region [⟨(some 23), .mv (.t 21), none, []⟩, ⟨(some 9), .mv (.t 23), none, []⟩])
  (.region [⟨(some 24), .mv (.t 8), none, []⟩, ⟨(some 25), .mv (.t 0), none, []⟩, ⟨(some 26), .mv (.t 1), none, []⟩, ⟨(some 27), .mv (.t 9), none, []⟩, ⟨(some 28), .bin .add (.t 26) (.t 27), none, []⟩, ⟨(some 29), .iaddr 1 (.t 25) (.t 28), none, []⟩, ⟨(some 30), .load 1 false (.t 29), none, []⟩, ⟨(some 31), .cvi .u64 (.t 30), none, []⟩, ⟨(some 32), .mv (.t 9), none, []⟩, ⟨(some 33), .bin .mul (.c (.int .i64 8)) (.t 32), none, []⟩, ⟨(some 34), .bin .shl (.t 31) (.t 33), none, []⟩, ⟨(some 35), .bin .or (.t 24) (.t 34), none, []⟩, ⟨(some 8), .mv (.t 35), none, []⟩]))))
  (.region [⟨(some 36), .bin .add (.t 21) (.c (.int .i64 1)), none, []⟩, ⟨(some 21), .mv (.t 36), none, []⟩]))))))

def le_Get : SFun := ⟨3, [.tmp 6, .tmp 7],
  (.seq (.region [⟨(some 6), .mv (.c (.int .i64 0)), none, []⟩, ⟨(some 7), .mv (.c (.int .i64 0)), none, []⟩])
  ((.seq (.block 0 ((.seq (.region [⟨(some 11), .mv (.t 2), none, []⟩, ⟨(some 12), .call .pure n_le_right [(.t 11)], none, []⟩, ⟨(some 13), .un .not (.t 12), none, []⟩, ⟨(some 10), .mv (.t 13), none, []⟩])
  (.cond (.t 10) ((.seq (.region [⟨(some 6), .mv (.c (.int .i64 0)), none, []⟩, ⟨(some 7), .mv (.c (.int .i64 1)), none, []⟩])
  (.ret))) ((.seq (.region [⟨(some 15), .mv (.t 0), none, []⟩, ⟨(some 16), .mv (.t 1), none, []⟩, ⟨(some 17), .mv (.t 2), none, []⟩, ⟨(some 18), .call .pure n_le_within [(.t 15), (.t 16), (.t 17)], none, []⟩, ⟨(some 19), .un .not (.t 18), none, []⟩, ⟨(some 14), .mv (.t 19), none, []⟩])
  (.cond (.t 14) ((.seq (.region [⟨(some 6), .mv (.c (.int .i64 0)), none, []⟩, ⟨(some 7), .mv (.c (.int .i64 3)), none, []⟩])
  (.ret))) (.skip))))))))
  ((.seq (.region [⟨(some 8), .mv (.c (.int .u64 0)), none, []⟩])
  ((.seq ((.seq (.region [⟨(some 20), .mv (.t 2), none, []⟩, ⟨(some 21), .mv (.c (.int .i64 0)), none, []⟩])
  (.block 1 (.loop le_Get_l0))))
  ((.seq ((.seq (.region [⟨(some 37), .mv (.t 8), none, []⟩, ⟨(some 38), .bin .gtr (.t 37) (.c (.int .u64 4611686018427387903)), none, []⟩])
  (.cond (.t 38) ((.seq (.region [⟨(some 6), .mv (.c (.int .i64 0)), none, []⟩, ⟨(some 7), .mv (.c (.int .i64 1)), none, []⟩])
  (.ret))) (.skip))))
  ((.seq (.region [⟨(some 39), .mv (.t 8), none, []⟩, ⟨(some 40), .cvi .i64 (.t 39), none, []⟩, ⟨(some 6), .mv (.t 40), none, []⟩, ⟨(some 7), .mv (.c (.int .i64 0)), none, []⟩])
  (.ret))))))))))))⟩

def h_le_Get : List (Nat × Nat × Hint) := []
theorem strip_le_Get : stripFun Try.prog (fun r i => findH h_le_Get r i) Try.f22 = some le_Get := by kernel_rfl

def frame_payload : SFun := ⟨1, [.tmp 2],
  (.seq (.region [⟨(some 1), .box 0 (.t 0), none, []⟩, ⟨(some 2), .nilrow 1 1, none, []⟩])
  ((.seq ((.seq (.region [⟨(some 3), .faddr 0 (.t 1), none, []⟩, ⟨(some 4), .load 1 false (.t 3), none, []⟩])
  (.block 0 ((.seq (.region [⟨(some 6), .bin .eql (.t 4) (.c (.int .i64 1)), none, []⟩, ⟨(some 5), .mv (.t 6), none, []⟩])
  (.cond (.t 5) ((.seq (.region [⟨(some 7), .faddr 1 (.t 1), none, []⟩, ⟨(some 8), .load 1 false (.t 7), none, []⟩, ⟨(some 9), .faddr 2 (.t 1), none, []⟩, ⟨(some 10), .load 1 false (.t 9), none, []⟩, ⟨(some 11), .buildS 2 1 2 (.int .i64 0) [(0, (.t 8)), (1, (.t 10))], none, []⟩, ⟨(some 12), .call (.fresh 3) n_frame_put [(.c (.islc false true 0 [])), (.c (.int .i64 8)), (.t 11)], none, []⟩, ⟨(some 13), .faddr 3 (.t 1), none, []⟩, ⟨(some 14), .load 1 false (.t 13), none, [4, 5]⟩, ⟨(some 15), .faddr 5 (.t 1), none, []⟩, ⟨(some 16), .load 1 false (.t 15), none, [4, 5]⟩, ⟨(some 17), .buildS 4 1 2 (.int .i64 0) [(0, (.t 14)), (1, (.t 16))], none, [1, 3, 4, 5]⟩, ⟨(some 18), .call (.inl 5) n_frame_put [(.t 12), (.c (.int .i64 4)), (.t 17)], none, []⟩, ⟨(some 2), .mv (.t 18), none, []⟩])
  (.ret))) ((.seq (.region [⟨(some 20), .bin .eql (.t 4) (.c (.int .i64 2)), none, []⟩, ⟨(some 19), .mv (.t 20), none, []⟩])
  (.cond (.t 19) ((.seq (.region [⟨(some 21), .faddr 4 (.t 1), none, []⟩, ⟨(some 22), .load 1 false (.t 21), none, []⟩, ⟨(some 23), .load 9 true (.t 1), none, []⟩, ⟨(some 24), .call .pure n_frame_Sectors [(.t 23)], none, []⟩, ⟨(some 25), .buildS 7 1 2 (.int .i64 0) [(0, (.t 22)), (1, (.t 24))], none, []⟩, ⟨(some 26), .call (.fresh 8) n_frame_put [(.c (.islc false true 0 [])), (.c (.int .i64 4)), (.t 25)], none, []⟩, ⟨(some 27), .faddr 8 (.t 1), none, []⟩, ⟨(some 28), .load 1 false (.t 27), none, [4, 5]⟩, ⟨(some 29), .app 9 1 (.t 26) (.t 28), none, []⟩, ⟨(some 2), .mv (.t 29), none, []⟩])
  (.ret))) ((.seq (.region [⟨(some 31), .bin .eql (.t 4) (.c (.int .i64 3)), none, []⟩, ⟨(some 30), .mv (.t 31), none, []⟩])
  (.cond (.t 30) ((.seq (.region [⟨(some 32), .faddr 4 (.t 1), none, []⟩, ⟨(some 33), .load 1 false (.t 32), none, []⟩, ⟨(some 34), .faddr 5 (.t 1), none, []⟩, ⟨(some 35), .load 1 false (.t 34), none, []⟩, ⟨(some 36), .buildS 10 1 2 (.int .i64 0) [(0, (.t 33)), (1, (.t 35))], none, []⟩, ⟨(some 37), .call (.fresh 11) n_frame_put [(.c (.islc false true 0 [])), (.c (.int .i64 4)), (.t 36)], none, []⟩, ⟨(some 2), .mv (.t 37), none, []⟩])
  (.ret))) ((.seq (.region [⟨(some 39), .bin .eql (.t 4) (.c (.int .i64 4)), none, []⟩, ⟨(some 38), .mv (.t 39), none, []⟩])
  (.cond (.t 38) ((.seq (.region [⟨(some 40), .faddr 4 (.t 1), none, []⟩, ⟨(some 41), .load 1 false (.t 40), none, []⟩, ⟨(some 42), .faddr 5 (.t 1), none, []⟩, ⟨(some 43), .load 1 false (.t 42), none, []⟩, ⟨(some 44), .faddr 6 (.t 1), none, []⟩, ⟨(some 45), .load 1 false (.t 44), none, []⟩, ⟨(some 46), .buildS 12 1 3 (.int .i64 0) [(0, (.t 41)), (1, (.t 43)), (2, (.t 45))], none, []⟩, ⟨(some 47), .call (.fresh 13) n_frame_put [(.c (.islc false true 0 [])), (.c (.int .i64 4)), (.t 46)], none, []⟩, ⟨(some 2), .mv (.t 47), none, []⟩])
  (.ret))) ((.seq (.region [⟨(some 49), .bin .eql (.t 4) (.c (.int .i64 5)), none, []⟩, ⟨(some 48), .mv (.t 49), none, []⟩])
  (.cond (.t 48) ((.seq (.region [⟨(some 50), .faddr 3 (.t 1), none, []⟩, ⟨(some 51), .load 1 false (.t 50), none, []⟩, ⟨(some 52), .buildS 14 1 1 (.int .i64 0) [(0, (.t 51))], none, []⟩, ⟨(some 53), .call (.fresh 15) n_frame_put [(.c (.islc false true 0 [])), (.c (.int .i64 4)), (.t 52)], none, []⟩, ⟨(some 2), .mv (.t 53), none, []⟩])
  (.ret))) (.skip)))))))))))))))))))
  ((.seq (.region [⟨(some 54), .faddr 5 (.t 1), none, []⟩, ⟨(some 55), .load 1 false (.t 54), none, []⟩, ⟨(some 56), .faddr 7 (.t 1), none, []⟩, ⟨(some 57), .load 1 false (.t 56), none, []⟩, ⟨(some 58), .buildS 16 1 2 (.int .i64 0) [(0, (.t 55)), (1, (.t 57))], none, []⟩, ⟨(some 59), .call (.fresh 17) n_frame_put [(.c (.islc false true 0 [])), (.c (.int .i64 4)), (.t 58)], none, []⟩, ⟨(some 2), .mv (.t 59), none, []⟩])
  (.ret))))))⟩

def h_frame_payload : List (Nat × Nat × Hint) := [(0, 0, ⟨0, .pure, false⟩), (0, 1, ⟨1, .pure, true⟩), (3, 4, ⟨2, .pure, false⟩), (3, 5, ⟨0, (.fresh 3), false⟩), (3, 10, ⟨4, .pure, false⟩), (3, 11, ⟨0, (.inl 5), false⟩), (5, 4, ⟨7, .pure, false⟩), (5, 5, ⟨0, (.fresh 8), false⟩), (5, 8, ⟨9, .pure, false⟩), (7, 4, ⟨10, .pure, false⟩), (7, 5, ⟨0, (.fresh 11), false⟩), (9, 6, ⟨12, .pure, false⟩), (9, 7, ⟨0, (.fresh 13), false⟩), (11, 2, ⟨14, .pure, false⟩), (11, 3, ⟨0, (.fresh 15), false⟩), (12, 4, ⟨16, .pure, false⟩), (12, 5, ⟨0, (.fresh 17), false⟩)]
theorem strip_frame_payload : stripFun Try.prog (fun r i => findH h_frame_payload r i) Try.f23 = some frame_payload := by kernel_rfl

def frame_in : SFun := ⟨3, [.tmp 6],
  (.seq (.region [⟨(some 6), .mv (.c (.bool false)), none, []⟩])
  ((.seq (.region [⟨(some 7), .mv (.t 0), none, []⟩, ⟨(some 8), .mv (.t 1), none, []⟩, ⟨(some 9), .bin .geq (.t 7) (.t 8), none, []⟩, ⟨(some 10), .mv (.t 9), none, []⟩, ⟨(some 11), .mv (.t 0), (some (10, true)), []⟩, ⟨(some 12), .mv (.t 2), (some (10, true)), []⟩, ⟨(some 13), .bin .leq (.t 11) (.t 12), (some (10, true)), []⟩, ⟨(some 14), .pick (.t 10) (.t 13) (.c (.bool false)), none, []⟩, ⟨(some 6), .mv (.t 14), none, []⟩])
  (.ret))))⟩

def h_frame_in : List (Nat × Nat × Hint) := []
theorem strip_frame_in : stripFun Try.prog (fun r i => findH h_frame_in r i) Try.f24 = some frame_in := by kernel_rfl

def frame_put_l0 : SCode := (.seq (.region [⟨(some 13), .bin .lss (.t 12) (.t 11), none, []⟩])
  ((.seq (.cond (.t 13) (.skip) (.exit 0))
  ((.seq (.block 1 ((.seq (.region [⟨(some 14), .iaddr 1 (.t 10) (.t 12), none, []⟩, ⟨(some 15), .load 1 false (.t 14), none, []⟩, ⟨(some 8), .mv (.t 15), none, []⟩])
  ((.seq (.region [⟨(some 16), .mv (.t 0), none, []⟩, ⟨(some 17), .len (.t 16), none, []⟩, ⟨(some 9), .mv (.t 17), none, []⟩])
  ((.seq (.region [⟨(some 18), .mv (.t 0), none, []⟩, ⟨(some 19), .mv (.t 1), none, []⟩, ⟨(some 20), .appZ 1 1 (.int .u8 0) (.t 18) (.t 19), none, []⟩, ⟨(some 0), .mv (.t 20), none, []⟩])
  (.region [⟨(some 21), .mv (.t 0), none, []⟩, ⟨(some 22), .mv (.t 9), none, []⟩, ⟨(some 23), .mv (.t 1), none, []⟩, ⟨(some 24), .mv (.t 8), none, []⟩, ⟨(some 25), .call (.inl 2) n_le_Set [(.t 21), (.t 22), (.t 23), (.t 24)], none, []⟩]))))))))
  (.region [⟨(some 26), .bin .add (.t 12) (.c (.int .i64 1)), none, []⟩, ⟨(some 12), .mv (.t 26), none, []⟩]))))))

def frame_put : SFun := ⟨3, [.tmp 6],
  (.seq (.region [⟨(some 6), .nilrow 0 1, none, []⟩])
  ((.seq ((.seq (.region [⟨(some 10), .mv (.t 2), none, []⟩, ⟨(some 11), .len (.t 10), none, []⟩, ⟨(some 12), .mv (.c (.int .i64 0)), none, []⟩])
  (.block 0 (.loop frame_put_l0))))
  ((.seq (.region [⟨(some 27), .mv (.t 0), none, []⟩, ⟨(some 6), .mv (.t 27), none, []⟩])
  (.ret))))))⟩

def h_frame_put : List (Nat × Nat × Hint) := [(0, 0, ⟨0, .pure, true⟩), (5, 2, ⟨1, .pure, false⟩), (6, 4, ⟨0, (.inl 2), false⟩)]
theorem strip_frame_put : stripFun Try.prog (fun r i => findH h_frame_put r i) Try.f25 = some frame_put := by kernel_rfl

def crc_Sum : SFun := ⟨1, [.tmp 2],
  (.seq (.region [⟨(some 2), .mv (.c (.int .i64 0)), none, []⟩])
  ((.seq (.region [⟨(some 3), .mv (.t 0), none, []⟩, ⟨(some 4), .call .pure n_crc_More [(.c (.int .i64 0)), (.t 3)], none, []⟩, ⟨(some 2), .mv (.t 4), none, []⟩])
  (.ret))))⟩

def h_crc_Sum : List (Nat × Nat × Hint) := []
theorem strip_crc_Sum : stripFun Try.prog (fun r i => findH h_crc_Sum r i) Try.f26 = some crc_Sum := by kernel_rfl

def frame_length : SFun := ⟨1, [.tmp 2, .tmp 3],
  (.seq (.region [⟨(some 2), .mv (.c (.int .i64 0)), none, []⟩, ⟨(some 3), .mv (.c (.int .i64 0)), none, []⟩])
  ((.seq ((.seq (.region [⟨(some 6), .mv (.t 0), none, []⟩, ⟨(some 7), .buildS 0 1 4 (.int .u8 0) [(0, (.c (.int .u8 70))), (1, (.c (.int .u8 82))), (2, (.c (.int .u8 65))), (3, (.c (.int .u8 77)))], none, []⟩, ⟨(some 8), .ss (.t 7), none, []⟩, ⟨(some 9), .mv (.t 0), none, []⟩, ⟨(some 10), .len (.t 9), none, []⟩, ⟨(some 11), .mnmx false (.t 10) (.c (.int .i64 4)), none, []⟩, ⟨(some 12), .slice 1 (.t 8) none (some (.t 11)) none, none, []⟩, ⟨(some 13), .call .pure n_bytes_HasPrefix [(.t 6), (.t 12)], none, []⟩, ⟨(some 14), .un .not (.t 13), none, []⟩])
  (.cond (.t 14) ((.seq (.region [⟨(some 2), .mv (.c (.int .i64 0)), none, []⟩, ⟨(some 3), .mv (.c (.int .i64 13)), none, []⟩])
  (.ret))) (.skip))))
  ((.seq ((.seq (.region [⟨(some 15), .mv (.t 0), none, []⟩, ⟨(some 16), .len (.t 15), none, []⟩, ⟨(some 17), .bin .lss (.t 16) (.c (.int .i64 16)), none, []⟩])
  (.cond (.t 17) ((.seq (.region [⟨(some 2), .mv (.c (.int .i64 0)), none, []⟩, ⟨(some 3), .mv (.c (.int .i64 16)), none, []⟩])
  (.ret))) (.skip))))
  ((.seq (.region [⟨(some 19), .mv (.t 0), none, []⟩, ⟨(some 20), .call .pure n_le_Get [(.t 19), (.c (.int .i64 12)), (.c (.int .i64 4))], none, []⟩, ⟨(some 18), .mv (.t 20), none, []⟩, ⟨(some 21), .extract (.t 18) 0, none, []⟩, ⟨(some 22), .extract (.t 18) 1, none, []⟩, ⟨(some 4), .mv (.t 21), none, []⟩, ⟨(some 5), .mv (.t 22), none, []⟩])
  ((.seq (.block 0 ((.seq (.region [⟨(some 24), .mv (.t 4), none, []⟩, ⟨(some 25), .bin .gtr (.t 24) (.c (.int .i64 520)), none, []⟩, ⟨(some 23), .mv (.t 25), none, []⟩])
  (.cond (.t 23) ((.seq (.region [⟨(some 2), .mv (.c (.int .i64 0)), none, []⟩, ⟨(some 3), .mv (.c (.int .i64 13)), none, []⟩])
  (.ret))) ((.seq (.region [⟨(some 27), .mv (.t 0), none, []⟩, ⟨(some 28), .len (.t 27), none, []⟩, ⟨(some 29), .mv (.t 4), none, []⟩, ⟨(some 30), .bin .add (.c (.int .i64 16)) (.t 29), none, []⟩, ⟨(some 31), .bin .add (.t 30) (.c (.int .i64 4)), none, []⟩, ⟨(some 32), .bin .lss (.t 28) (.t 31), none, []⟩, ⟨(some 26), .mv (.t 32), none, []⟩])
  (.cond (.t 26) ((.seq (.region [⟨(some 2), .mv (.c (.int .i64 0)), none, []⟩, ⟨(some 3), .mv (.c (.int .i64 16)), none, []⟩])
  (.ret))) (.skip))))))))
  ((.seq (.region [⟨(some 33), .mv (.t 4), none, []⟩, ⟨(some 34), .bin .add (.c (.int .i64 16)) (.t 33), none, []⟩, ⟨(some 35), .bin .add (.t 34) (.c (.int .i64 4)), none, []⟩, ⟨(some 2), .mv (.t 35), none, []⟩, ⟨(some 3), .mv (.c (.int .i64 0)), none, []⟩])
  (.ret))))))))))))⟩

def h_frame_length : List (Nat × Nat × Hint) := [(1, 1, ⟨0, .pure, false⟩)]
theorem strip_frame_length : stripFun Try.prog (fun r i => findH h_frame_length r i) Try.f27 = some frame_length := by kernel_rfl

def crc_Good : SFun := ⟨1, [.tmp 2],
  (.seq (.region [⟨(some 2), .mv (.c (.bool false)), none, []⟩])
  ((.seq (.region [⟨(some 6), .mv (.t 0), none, []⟩, ⟨(some 7), .len (.t 6), none, []⟩, ⟨(some 8), .bin .sub (.t 7) (.c (.int .i64 4)), none, []⟩, ⟨(some 3), .mv (.t 8), none, []⟩])
  ((.seq ((.seq (.region [⟨(some 9), .mv (.t 3), none, []⟩, ⟨(some 10), .bin .lss (.t 9) (.c (.int .i64 0)), none, []⟩])
  (.cond (.t 10) ((.seq (.region [⟨(some 2), .mv (.c (.bool false)), none, []⟩])
  (.ret))) (.skip))))
  ((.seq (.region [⟨(some 12), .mv (.t 0), none, []⟩, ⟨(some 13), .mv (.t 3), none, []⟩, ⟨(some 14), .call .pure n_le_Get [(.t 12), (.t 13), (.c (.int .i64 4))], none, []⟩, ⟨(some 11), .mv (.t 14), none, []⟩, ⟨(some 15), .extract (.t 11) 0, none, []⟩, ⟨(some 16), .extract (.t 11) 1, none, []⟩, ⟨(some 4), .mv (.t 15), none, []⟩, ⟨(some 5), .mv (.t 16), none, []⟩])
  ((.seq (.region [⟨(some 17), .mv (.t 4), none, []⟩, ⟨(some 18), .mv (.t 0), none, []⟩, ⟨(some 19), .mv (.t 3), none, []⟩, ⟨(some 20), .slice 1 (.t 18) none (some (.t 19)) none, none, []⟩, ⟨(some 21), .call .pure n_crc_Sum [(.t 20)], none, []⟩, ⟨(some 22), .bin .eql (.t 17) (.t 21), none, []⟩, ⟨(some 2), .mv (.t 22), none, []⟩])
  (.ret))))))))))⟩

def h_crc_Good : List (Nat × Nat × Hint) := []
theorem strip_crc_Good : stripFun Try.prog (fun r i => findH h_crc_Good r i) Try.f28 = some crc_Good := by kernel_rfl

def frame_command : SFun := ⟨2, [.cell 4 9 true, .tmp 5],
  (.seq (.region [⟨(some 4), .box 0 (.c (.agg [(.int .i64 0), (.int .i64 0), (.int .i64 0), (.int .i64 0), (.int .i64 0), (.int .i64 0), (.int .i64 0), (.int .i64 0), (.islc false true 0 [])])), none, []⟩, ⟨(some 5), .mv (.c (.bool false)), none, []⟩])
  ((.seq (.region [⟨(some 7), .mv (.t 0), none, []⟩, ⟨(some 8), .faddr 0 (.t 4), none, []⟩, ⟨none, .store 1 (.t 8) (.t 7), none, []⟩])
  ((.seq (.region [⟨(some 6), .mv (.c (.islc false true 0 [])), none, []⟩])
  ((.seq ((.seq (.region [⟨(some 9), .mv (.t 0), none, []⟩])
  (.block 0 ((.seq (.region [⟨(some 11), .bin .eql (.t 9) (.c (.int .i64 1)), none, []⟩, ⟨(some 10), .mv (.t 11), none, []⟩])
  (.cond (.t 10) ((.seq (.region [⟨(some 13), .mv (.t 1), none, []⟩, ⟨(some 14), .buildS 1 1 4 (.int .i64 0) [(0, (.c (.int .i64 8))), (1, (.c (.int .i64 8))), (2, (.c (.int .i64 4))), (3, (.c (.int .i64 4)))], none, []⟩, ⟨(some 15), .call .pure n_frame_numbers [(.t 13), (.t 14)], none, []⟩, ⟨(some 12), .mv (.t 15), none, []⟩, ⟨(some 16), .extract (.t 12) 0, none, []⟩, ⟨(some 17), .extract (.t 12) 1, none, []⟩, ⟨(some 6), .mv (.t 16), none, []⟩, ⟨(some 5), .mv (.t 17), none, []⟩])
  ((.seq (.region [⟨(some 18), .mv (.t 5), none, []⟩])
  (.cond (.t 18) (.region [⟨(some 19), .mv (.t 6), none, []⟩, ⟨(some 20), .iaddr 1 (.t 19) (.c (.int .i64 0)), none, []⟩, ⟨(some 21), .load 1 false (.t 20), none, []⟩, ⟨(some 22), .mv (.t 6), none, []⟩, ⟨(some 23), .iaddr 1 (.t 22) (.c (.int .i64 1)), none, []⟩, ⟨(some 24), .load 1 false (.t 23), none, []⟩, ⟨(some 25), .mv (.t 6), none, []⟩, ⟨(some 26), .iaddr 1 (.t 25) (.c (.int .i64 2)), none, []⟩, ⟨(some 27), .load 1 false (.t 26), none, []⟩, ⟨(some 28), .mv (.t 6), none, []⟩, ⟨(some 29), .iaddr 1 (.t 28) (.c (.int .i64 3)), none, []⟩, ⟨(some 30), .load 1 false (.t 29), none, []⟩, ⟨(some 31), .faddr 1 (.t 4), none, []⟩, ⟨none, .store 1 (.t 31) (.t 21), none, [4, 5, 7, 8, 10, 11]⟩, ⟨(some 32), .faddr 2 (.t 4), none, []⟩, ⟨none, .store 1 (.t 32) (.t 24), none, [7, 8, 10, 11]⟩, ⟨(some 33), .faddr 3 (.t 4), none, []⟩, ⟨none, .store 1 (.t 33) (.t 27), none, [10, 11]⟩, ⟨(some 34), .faddr 5 (.t 4), none, []⟩, ⟨none, .store 1 (.t 34) (.t 30), none, []⟩]) (.skip)))))) ((.seq (.region [⟨(some 36), .bin .eql (.t 9) (.c (.int .i64 2)), none, []⟩, ⟨(some 35), .mv (.t 36), none, []⟩])
  (.cond (.t 35) ((.seq (.region [⟨(some 38), .mv (.t 1), none, []⟩, ⟨(some 39), .mv (.t 1), none, []⟩, ⟨(some 40), .len (.t 39), none, []⟩, ⟨(some 41), .mnmx false (.t 40) (.c (.int .i64 8)), none, []⟩, ⟨(some 42), .slice 1 (.t 38) none (some (.t 41)) none, none, []⟩, ⟨(some 43), .buildS 2 1 2 (.int .i64 0) [(0, (.c (.int .i64 4))), (1, (.c (.int .i64 4)))], none, []⟩, ⟨(some 44), .call .pure n_frame_numbers [(.t 42), (.t 43)], none, []⟩, ⟨(some 37), .mv (.t 44), none, []⟩, ⟨(some 45), .extract (.t 37) 0, none, []⟩, ⟨(some 46), .extract (.t 37) 1, none, []⟩, ⟨(some 6), .mv (.t 45), none, []⟩, ⟨(some 5), .mv (.t 46), none, []⟩])
  ((.seq (.region [⟨(some 47), .mv (.t 5), none, []⟩])
  (.cond (.t 47) ((.seq (.region [⟨(some 48), .mv (.t 6), none, []⟩, ⟨(some 49), .iaddr 1 (.t 48) (.c (.int .i64 0)), none, []⟩, ⟨(some 50), .load 1 false (.t 49), none, []⟩, ⟨(some 51), .mv (.t 1), none, []⟩, ⟨(some 52), .slice 1 (.t 51) (some (.c (.int .i64 8))) none none, none, []⟩, ⟨(some 53), .call (.fresh 3) n_slices_Clone___byte_byte_ [(.t 52)], none, [1, 2]⟩, ⟨(some 54), .faddr 4 (.t 4), none, []⟩, ⟨none, .store 1 (.t 54) (.t 50), none, []⟩, ⟨(some 55), .faddr 8 (.t 4), none, []⟩, ⟨none, .store 1 (.t 55) (.t 53), none, []⟩])
  (.region [⟨(some 56), .mv (.t 6), none, []⟩, ⟨(some 57), .iaddr 1 (.t 56) (.c (.int .i64 1)), none, []⟩, ⟨(some 58), .load 1 false (.t 57), none, []⟩, ⟨(some 59), .load 9 true (.t 4), none, []⟩, ⟨(some 60), .call .pure n_frame_Sectors [(.t 59)], none, []⟩, ⟨(some 61), .bin .eql (.t 58) (.t 60), none, []⟩, ⟨(some 5), .mv (.t 61), none, []⟩]))) (.skip)))))) ((.seq (.region [⟨(some 63), .bin .eql (.t 9) (.c (.int .i64 3)), none, []⟩, ⟨(some 62), .mv (.t 63), none, []⟩])
  (.cond (.t 62) ((.seq (.region [⟨(some 65), .mv (.t 1), none, []⟩, ⟨(some 66), .buildS 4 1 2 (.int .i64 0) [(0, (.c (.int .i64 4))), (1, (.c (.int .i64 4)))], none, []⟩, ⟨(some 67), .call .pure n_frame_numbers [(.t 65), (.t 66)], none, []⟩, ⟨(some 64), .mv (.t 67), none, []⟩, ⟨(some 68), .extract (.t 64) 0, none, []⟩, ⟨(some 69), .extract (.t 64) 1, none, []⟩, ⟨(some 6), .mv (.t 68), none, []⟩, ⟨(some 5), .mv (.t 69), none, []⟩])
  ((.seq (.region [⟨(some 70), .mv (.t 5), none, []⟩])
  (.cond (.t 70) (.region [⟨(some 71), .mv (.t 6), none, []⟩, ⟨(some 72), .iaddr 1 (.t 71) (.c (.int .i64 0)), none, []⟩, ⟨(some 73), .load 1 false (.t 72), none, []⟩, ⟨(some 74), .mv (.t 6), none, []⟩, ⟨(some 75), .iaddr 1 (.t 74) (.c (.int .i64 1)), none, []⟩, ⟨(some 76), .load 1 false (.t 75), none, []⟩, ⟨(some 77), .faddr 4 (.t 4), none, []⟩, ⟨none, .store 1 (.t 77) (.t 73), none, [4, 5]⟩, ⟨(some 78), .faddr 5 (.t 4), none, []⟩, ⟨none, .store 1 (.t 78) (.t 76), none, []⟩]) (.skip)))))) ((.seq (.region [⟨(some 80), .bin .eql (.t 9) (.c (.int .i64 4)), none, []⟩, ⟨(some 79), .mv (.t 80), none, []⟩])
  (.cond (.t 79) ((.seq (.region [⟨(some 82), .mv (.t 1), none, []⟩, ⟨(some 83), .buildS 5 1 3 (.int .i64 0) [(0, (.c (.int .i64 4))), (1, (.c (.int .i64 4))), (2, (.c (.int .i64 4)))], none, []⟩, ⟨(some 84), .call .pure n_frame_numbers [(.t 82), (.t 83)], none, []⟩, ⟨(some 81), .mv (.t 84), none, []⟩, ⟨(some 85), .extract (.t 81) 0, none, []⟩, ⟨(some 86), .extract (.t 81) 1, none, []⟩, ⟨(some 6), .mv (.t 85), none, []⟩, ⟨(some 5), .mv (.t 86), none, []⟩])
  ((.seq (.region [⟨(some 87), .mv (.t 5), none, []⟩])
  (.cond (.t 87) (.region [⟨(some 88), .mv (.t 6), none, []⟩, ⟨(some 89), .iaddr 1 (.t 88) (.c (.int .i64 0)), none, []⟩, ⟨(some 90), .load 1 false (.t 89), none, []⟩, ⟨(some 91), .mv (.t 6), none, []⟩, ⟨(some 92), .iaddr 1 (.t 91) (.c (.int .i64 1)), none, []⟩, ⟨(some 93), .load 1 false (.t 92), none, []⟩, ⟨(some 94), .mv (.t 6), none, []⟩, ⟨(some 95), .iaddr 1 (.t 94) (.c (.int .i64 2)), none, []⟩, ⟨(some 96), .load 1 false (.t 95), none, []⟩, ⟨(some 97), .faddr 4 (.t 4), none, []⟩, ⟨none, .store 1 (.t 97) (.t 90), none, [4, 5, 7, 8]⟩, ⟨(some 98), .faddr 5 (.t 4), none, []⟩, ⟨none, .store 1 (.t 98) (.t 93), none, [7, 8]⟩, ⟨(some 99), .faddr 6 (.t 4), none, []⟩, ⟨none, .store 1 (.t 99) (.t 96), none, []⟩]) (.skip)))))) ((.seq (.region [⟨(some 101), .bin .eql (.t 9) (.c (.int .i64 5)), none, []⟩, ⟨(some 100), .mv (.t 101), none, []⟩])
  (.cond (.t 100) ((.seq (.region [⟨(some 103), .mv (.t 1), none, []⟩, ⟨(some 104), .buildS 6 1 1 (.int .i64 0) [(0, (.c (.int .i64 4)))], none, []⟩, ⟨(some 105), .call .pure n_frame_numbers [(.t 103), (.t 104)], none, []⟩, ⟨(some 102), .mv (.t 105), none, []⟩, ⟨(some 106), .extract (.t 102) 0, none, []⟩, ⟨(some 107), .extract (.t 102) 1, none, []⟩, ⟨(some 6), .mv (.t 106), none, []⟩, ⟨(some 5), .mv (.t 107), none, []⟩])
  ((.seq (.region [⟨(some 108), .mv (.t 5), none, []⟩])
  (.cond (.t 108) (.region [⟨(some 109), .mv (.t 6), none, []⟩, ⟨(some 110), .iaddr 1 (.t 109) (.c (.int .i64 0)), none, []⟩, ⟨(some 111), .load 1 false (.t 110), none, []⟩, ⟨(some 112), .faddr 3 (.t 4), none, []⟩, ⟨none, .store 1 (.t 112) (.t 111), none, []⟩]) (.skip)))))) ((.seq (.region [⟨(some 114), .bin .eql (.t 9) (.c (.int .i64 6)), none, []⟩, ⟨(some 113), .mv (.t 114), none, []⟩])
  (.cond (.t 113) ((.seq (.region [⟨(some 116), .mv (.t 1), none, []⟩, ⟨(some 117), .buildS 7 1 2 (.int .i64 0) [(0, (.c (.int .i64 4))), (1, (.c (.int .i64 4)))], none, []⟩, ⟨(some 118), .call .pure n_frame_numbers [(.t 116), (.t 117)], none, []⟩, ⟨(some 115), .mv (.t 118), none, []⟩, ⟨(some 119), .extract (.t 115) 0, none, []⟩, ⟨(some 120), .extract (.t 115) 1, none, []⟩, ⟨(some 6), .mv (.t 119), none, []⟩, ⟨(some 5), .mv (.t 120), none, []⟩])
  ((.seq (.region [⟨(some 121), .mv (.t 5), none, []⟩])
  (.cond (.t 121) (.region [⟨(some 122), .mv (.t 6), none, []⟩, ⟨(some 123), .iaddr 1 (.t 122) (.c (.int .i64 0)), none, []⟩, ⟨(some 124), .load 1 false (.t 123), none, []⟩, ⟨(some 125), .mv (.t 6), none, []⟩, ⟨(some 126), .iaddr 1 (.t 125) (.c (.int .i64 1)), none, []⟩, ⟨(some 127), .load 1 false (.t 126), none, []⟩, ⟨(some 128), .faddr 5 (.t 4), none, []⟩, ⟨none, .store 1 (.t 128) (.t 124), none, [4, 5]⟩, ⟨(some 129), .faddr 7 (.t 4), none, []⟩, ⟨none, .store 1 (.t 129) (.t 127), none, []⟩]) (.skip)))))) (.skip))))))))))))))))))))))
  ((.seq (.region [⟨(some 130), .load 9 true (.t 4), none, []⟩, ⟨(some 131), .mv (.t 5), none, []⟩, ⟨(some 132), .mv (.t 131), none, []⟩, ⟨(some 133), .load 9 true (.t 4), (some (132, true)), []⟩, ⟨(some 134), .call .pure n_frame_Check [(.t 133)], (some (132, true)), []⟩, ⟨(some 135), .bin .eql (.t 134) (.c (.int .i64 0)), (some (132, true)), []⟩, ⟨(some 136), .pick (.t 132) (.t 135) (.c (.bool false)), none, []⟩, ⟨none, .store 9 (.t 4) (.t 130), none, []⟩, ⟨(some 5), .mv (.t 136), none, []⟩])
  (.ret))))))))))⟩

def h_frame_command : List (Nat × Nat × Hint) := [(0, 0, ⟨0, .pure, false⟩), (5, 1, ⟨1, .pure, false⟩), (9, 5, ⟨2, .pure, false⟩), (11, 5, ⟨0, (.fresh 3), false⟩), (14, 1, ⟨4, .pure, false⟩), (18, 1, ⟨5, .pure, false⟩), (22, 1, ⟨6, .pure, false⟩), (26, 1, ⟨7, .pure, false⟩)]
theorem strip_frame_command : stripFun Try.prog (fun r i => findH h_frame_command r i) Try.f29 = some frame_command := by kernel_rfl

def ref01_Get4 : SFun := ⟨2, [.tmp 4],
  (.seq (.region [⟨(some 4), .mv (.c (.int .i64 0)), none, []⟩])
  ((.seq (.region [⟨(some 8), .mv (.t 0), none, []⟩, ⟨(some 9), .mv (.t 1), none, []⟩, ⟨(some 10), .mv (.t 1), none, []⟩, ⟨(some 11), .bin .add (.t 10) (.c (.int .i64 4)), none, []⟩, ⟨(some 12), .slice 1 (.t 8) (some (.t 9)) (some (.t 11)) none, none, []⟩, ⟨(some 13), .call .pure n_ref01_Number [(.t 12)], none, []⟩, ⟨(some 7), .mv (.t 13), none, []⟩, ⟨(some 14), .extract (.t 7) 0, none, []⟩, ⟨(some 15), .extract (.t 7) 1, none, []⟩, ⟨(some 5), .mv (.t 14), none, []⟩, ⟨(some 6), .mv (.t 15), none, []⟩])
  ((.seq (.region [⟨(some 16), .mv (.t 5), none, []⟩, ⟨(some 4), .mv (.t 16), none, []⟩])
  (.ret))))))⟩

def h_ref01_Get4 : List (Nat × Nat × Hint) := []
theorem strip_ref01_Get4 : stripFun Try.prog (fun r i => findH h_ref01_Get4 r i) Try.f30 = some ref01_Get4 := by kernel_rfl

def ref01_Good : SFun := ⟨1, [.tmp 2],
  (.seq (.region [⟨(some 2), .mv (.c (.bool false)), none, []⟩])
  ((.seq (.region [⟨(some 3), .mv (.t 0), none, []⟩, ⟨(some 4), .len (.t 3), none, []⟩, ⟨(some 5), .bin .geq (.t 4) (.c (.int .i64 4)), none, []⟩, ⟨(some 6), .mv (.t 5), none, []⟩, ⟨(some 7), .mv (.t 0), (some (6, true)), []⟩, ⟨(some 8), .mv (.t 0), (some (6, true)), []⟩, ⟨(some 9), .len (.t 8), (some (6, true)), []⟩, ⟨(some 10), .bin .sub (.t 9) (.c (.int .i64 4)), (some (6, true)), []⟩, ⟨(some 11), .call .pure n_ref01_Get4 [(.t 7), (.t 10)], (some (6, true)), []⟩, ⟨(some 12), .mv (.t 0), (some (6, true)), []⟩, ⟨(some 13), .mv (.t 0), (some (6, true)), []⟩, ⟨(some 14), .len (.t 13), (some (6, true)), []⟩, ⟨(some 15), .bin .sub (.t 14) (.c (.int .i64 4)), (some (6, true)), []⟩, ⟨(some 16), .slice 1 (.t 12) none (some (.t 15)) none, (some (6, true)), []⟩, ⟨(some 17), .call .pure n_ref01_Sum [(.t 16)], (some (6, true)), []⟩, ⟨(some 18), .bin .eql (.t 11) (.t 17), (some (6, true)), []⟩, ⟨(some 19), .pick (.t 6) (.t 18) (.c (.bool false)), none, []⟩, ⟨(some 2), .mv (.t 19), none, []⟩])
  (.ret))))⟩

def h_ref01_Good : List (Nat × Nat × Hint) := []
theorem strip_ref01_Good : stripFun Try.prog (fun r i => findH h_ref01_Good r i) Try.f31 = some ref01_Good := by kernel_rfl

def ref01_command : SFun := ⟨2, [.cell 4 9 true, .tmp 5],
  (.seq (.region [⟨(some 4), .box 0 (.c (.agg [(.int .i64 0), (.int .i64 0), (.int .i64 0), (.int .i64 0), (.int .i64 0), (.int .i64 0), (.int .i64 0), (.int .i64 0), (.islc false true 0 [])])), none, []⟩, ⟨(some 5), .mv (.c (.bool false)), none, []⟩])
  ((.seq (.region [⟨(some 12), .mv (.t 0), none, []⟩, ⟨(some 13), .build [(.int .i64 0), (.int .i64 0), (.int .i64 0), (.int .i64 0), (.int .i64 0), (.int .i64 0), (.int .i64 0), (.int .i64 0), (.islc false true 0 [])] [(0, 1, (.t 12))], none, []⟩, ⟨(some 6), .box 1 (.c (.agg [(.int .i64 0), (.int .i64 0), (.int .i64 0), (.int .i64 0), (.int .i64 0), (.int .i64 0), (.int .i64 0), (.int .i64 0), (.islc false true 0 [])])), none, []⟩, ⟨none, .store 9 (.t 6) (.t 13), none, []⟩])
  ((.seq (.region [⟨(some 7), .mv (.c (.bool false)), none, []⟩])
  ((.seq ((.seq (.region [⟨(some 14), .mv (.t 0), none, []⟩])
  (.block 0 ((.seq (.region [⟨(some 16), .bin .eql (.t 14) (.c (.int .i64 1)), none, []⟩, ⟨(some 15), .mv (.t 16), none, []⟩])
  (.cond (.t 15) ((.seq (.region [⟨(some 17), .mv (.t 1), none, []⟩, ⟨(some 18), .len (.t 17), none, []⟩, ⟨(some 19), .bin .eql (.t 18) (.c (.int .i64 24)), none, []⟩])
  (.cond (.t 19) ((.seq (.region [⟨(some 21), .mv (.t 1), none, []⟩, ⟨(some 22), .call .pure n_ref01_Get8 [(.t 21), (.c (.int .i64 0))], none, []⟩, ⟨(some 20), .mv (.t 22), none, []⟩, ⟨(some 23), .extract (.t 20) 0, none, []⟩, ⟨(some 24), .extract (.t 20) 1, none, []⟩, ⟨(some 8), .mv (.t 23), none, []⟩, ⟨(some 9), .mv (.t 24), none, []⟩])
  ((.seq (.region [⟨(some 26), .mv (.t 1), none, []⟩, ⟨(some 27), .call .pure n_ref01_Get8 [(.t 26), (.c (.int .i64 8))], none, []⟩, ⟨(some 25), .mv (.t 27), none, []⟩, ⟨(some 28), .extract (.t 25) 0, none, []⟩, ⟨(some 29), .extract (.t 25) 1, none, []⟩, ⟨(some 10), .mv (.t 28), none, []⟩, ⟨(some 11), .mv (.t 29), none, []⟩])
  (.region [⟨(some 30), .mv (.t 8), none, []⟩, ⟨(some 31), .mv (.t 10), none, []⟩, ⟨(some 32), .mv (.t 1), none, []⟩, ⟨(some 33), .call .pure n_ref01_Get4 [(.t 32), (.c (.int .i64 16))], none, []⟩, ⟨(some 34), .mv (.t 1), none, []⟩, ⟨(some 35), .call .pure n_ref01_Get4 [(.t 34), (.c (.int .i64 20))], none, []⟩, ⟨(some 36), .mv (.t 9), none, []⟩, ⟨(some 37), .mv (.t 36), none, []⟩, ⟨(some 38), .mv (.t 11), (some (37, true)), []⟩, ⟨(some 39), .pick (.t 37) (.t 38) (.c (.bool false)), none, []⟩, ⟨(some 40), .faddr 1 (.t 6), none, []⟩, ⟨none, .store 1 (.t 40) (.t 30), none, []⟩, ⟨(some 41), .faddr 2 (.t 6), none, []⟩, ⟨none, .store 1 (.t 41) (.t 31), none, []⟩, ⟨(some 42), .faddr 3 (.t 6), none, []⟩, ⟨none, .store 1 (.t 42) (.t 33), none, []⟩, ⟨(some 43), .faddr 5 (.t 6), none, []⟩, ⟨none, .store 1 (.t 43) (.t 35), none, []⟩, ⟨(some 7), .mv (.t 39), none, []⟩]))))) (.skip)))) ((.seq (.region [⟨(some 45), .bin .eql (.t 14) (.c (.int .i64 2)), none, []⟩, ⟨(some 44), .mv (.t 45), none, []⟩])
  (.cond (.t 44) ((.seq (.region [⟨(some 46), .mv (.t 1), none, []⟩, ⟨(some 47), .len (.t 46), none, []⟩, ⟨(some 48), .bin .gtr (.t 47) (.c (.int .i64 8)), none, []⟩, ⟨(some 49), .mv (.t 48), none, []⟩, ⟨(some 50), .mv (.t 1), (some (49, true)), []⟩, ⟨(some 51), .len (.t 50), (some (49, true)), []⟩, ⟨(some 52), .mv (.t 1), (some (49, true)), []⟩, ⟨(some 53), .call .pure n_ref01_Get4 [(.t 52), (.c (.int .i64 4))], (some (49, true)), []⟩, ⟨(some 54), .bin .mul (.c (.int .i64 64)) (.t 53), (some (49, true)), []⟩, ⟨(some 55), .bin .add (.c (.int .i64 8)) (.t 54), (some (49, true)), []⟩, ⟨(some 56), .bin .eql (.t 51) (.t 55), (some (49, true)), []⟩, ⟨(some 57), .pick (.t 49) (.t 56) (.c (.bool false)), none, []⟩])
  (.cond (.t 57) ((.seq (.region [⟨(some 58), .mv (.t 1), none, []⟩, ⟨(some 59), .call .pure n_ref01_Get4 [(.t 58), (.c (.int .i64 0))], none, []⟩, ⟨(some 60), .faddr 4 (.t 6), none, []⟩, ⟨none, .store 1 (.t 60) (.t 59), none, []⟩, ⟨(some 7), .mv (.c (.bool true)), none, []⟩])
  (.region [⟨(some 61), .faddr 8 (.t 6), none, []⟩, ⟨(some 62), .load 1 false (.t 61), none, []⟩, ⟨(some 63), .mv (.t 1), none, []⟩, ⟨(some 64), .slice 1 (.t 63) (some (.c (.int .i64 8))) none none, none, []⟩, ⟨(some 65), .app 2 1 (.t 62) (.t 64), none, []⟩, ⟨(some 66), .faddr 8 (.t 6), none, []⟩, ⟨none, .store 1 (.t 66) (.t 65), none, []⟩]))) (.skip)))) ((.seq (.region [⟨(some 68), .bin .eql (.t 14) (.c (.int .i64 3)), none, []⟩, ⟨(some 67), .mv (.t 68), none, []⟩])
  (.cond (.t 67) ((.seq (.region [⟨(some 69), .mv (.t 1), none, []⟩, ⟨(some 70), .len (.t 69), none, []⟩, ⟨(some 71), .bin .eql (.t 70) (.c (.int .i64 8)), none, []⟩])
  (.cond (.t 71) (.region [⟨(some 72), .mv (.t 1), none, []⟩, ⟨(some 73), .call .pure n_ref01_Get4 [(.t 72), (.c (.int .i64 0))], none, []⟩, ⟨(some 74), .mv (.t 1), none, []⟩, ⟨(some 75), .call .pure n_ref01_Get4 [(.t 74), (.c (.int .i64 4))], none, []⟩, ⟨(some 76), .faddr 4 (.t 6), none, []⟩, ⟨none, .store 1 (.t 76) (.t 73), none, []⟩, ⟨(some 77), .faddr 5 (.t 6), none, []⟩, ⟨none, .store 1 (.t 77) (.t 75), none, []⟩, ⟨(some 7), .mv (.c (.bool true)), none, []⟩]) (.skip)))) ((.seq (.region [⟨(some 79), .bin .eql (.t 14) (.c (.int .i64 4)), none, []⟩, ⟨(some 78), .mv (.t 79), none, []⟩])
  (.cond (.t 78) ((.seq (.region [⟨(some 80), .mv (.t 1), none, []⟩, ⟨(some 81), .len (.t 80), none, []⟩, ⟨(some 82), .bin .eql (.t 81) (.c (.int .i64 12)), none, []⟩])
  (.cond (.t 82) (.region [⟨(some 83), .mv (.t 1), none, []⟩, ⟨(some 84), .call .pure n_ref01_Get4 [(.t 83), (.c (.int .i64 0))], none, []⟩, ⟨(some 85), .mv (.t 1), none, []⟩, ⟨(some 86), .call .pure n_ref01_Get4 [(.t 85), (.c (.int .i64 4))], none, []⟩, ⟨(some 87), .mv (.t 1), none, []⟩, ⟨(some 88), .call .pure n_ref01_Get4 [(.t 87), (.c (.int .i64 8))], none, []⟩, ⟨(some 89), .faddr 4 (.t 6), none, []⟩, ⟨none, .store 1 (.t 89) (.t 84), none, []⟩, ⟨(some 90), .faddr 5 (.t 6), none, []⟩, ⟨none, .store 1 (.t 90) (.t 86), none, []⟩, ⟨(some 91), .faddr 6 (.t 6), none, []⟩, ⟨none, .store 1 (.t 91) (.t 88), none, []⟩, ⟨(some 7), .mv (.c (.bool true)), none, []⟩]) (.skip)))) ((.seq (.region [⟨(some 93), .bin .eql (.t 14) (.c (.int .i64 5)), none, []⟩, ⟨(some 92), .mv (.t 93), none, []⟩])
  (.cond (.t 92) ((.seq (.region [⟨(some 94), .mv (.t 1), none, []⟩, ⟨(some 95), .len (.t 94), none, []⟩, ⟨(some 96), .bin .eql (.t 95) (.c (.int .i64 4)), none, []⟩])
  (.cond (.t 96) (.region [⟨(some 97), .mv (.t 1), none, []⟩, ⟨(some 98), .call .pure n_ref01_Get4 [(.t 97), (.c (.int .i64 0))], none, []⟩, ⟨(some 99), .faddr 3 (.t 6), none, []⟩, ⟨none, .store 1 (.t 99) (.t 98), none, []⟩, ⟨(some 7), .mv (.c (.bool true)), none, []⟩]) (.skip)))) ((.seq (.region [⟨(some 101), .bin .eql (.t 14) (.c (.int .i64 6)), none, []⟩, ⟨(some 100), .mv (.t 101), none, []⟩])
  (.cond (.t 100) ((.seq (.region [⟨(some 102), .mv (.t 1), none, []⟩, ⟨(some 103), .len (.t 102), none, []⟩, ⟨(some 104), .bin .eql (.t 103) (.c (.int .i64 8)), none, []⟩])
  (.cond (.t 104) (.region [⟨(some 105), .mv (.t 1), none, []⟩, ⟨(some 106), .call .pure n_ref01_Get4 [(.t 105), (.c (.int .i64 0))], none, []⟩, ⟨(some 107), .mv (.t 1), none, []⟩, ⟨(some 108), .call .pure n_ref01_Get4 [(.t 107), (.c (.int .i64 4))], none, []⟩, ⟨(some 109), .faddr 5 (.t 6), none, []⟩, ⟨none, .store 1 (.t 109) (.t 106), none, []⟩, ⟨(some 110), .faddr 7 (.t 6), none, []⟩, ⟨none, .store 1 (.t 110) (.t 108), none, []⟩, ⟨(some 7), .mv (.c (.bool true)), none, []⟩]) (.skip)))) (.skip))))))))))))))))))))))
  ((.seq (.region [⟨(some 111), .load 9 true (.t 6), none, []⟩, ⟨(some 112), .mv (.t 7), none, []⟩, ⟨(some 113), .mv (.t 112), none, []⟩, ⟨(some 114), .load 9 true (.t 6), (some (113, true)), []⟩, ⟨(some 115), .call .pure n_ref01_Command [(.t 114)], (some (113, true)), []⟩, ⟨(some 116), .pick (.t 113) (.t 115) (.c (.bool false)), none, []⟩, ⟨none, .store 9 (.t 4) (.t 111), none, []⟩, ⟨(some 5), .mv (.t 116), none, []⟩])
  (.ret))))))))))⟩

def h_ref01_command : List (Nat × Nat × Hint) := [(0, 0, ⟨0, .pure, false⟩), (1, 2, ⟨1, .pure, false⟩), (12, 4, ⟨2, .pure, false⟩)]
theorem strip_ref01_command : stripFun Try.prog (fun r i => findH h_ref01_command r i) Try.f32 = some ref01_command := by kernel_rfl

def ref01_Id : SFun := ⟨1, [.tmp 2],
  (.seq (.region [⟨(some 2), .mv (.c (.bool false)), none, []⟩])
  ((.seq (.region [⟨(some 3), .mv (.t 0), none, []⟩, ⟨(some 4), .call .pure n_ref01_In [(.t 3), (.c (.int .i64 1)), (.c (.int .i64 4611686018427387903))], none, []⟩, ⟨(some 2), .mv (.t 4), none, []⟩])
  (.ret))))⟩

def h_ref01_Id : List (Nat × Nat × Hint) := []
theorem strip_ref01_Id : stripFun Try.prog (fun r i => findH h_ref01_Id r i) Try.f33 = some ref01_Id := by kernel_rfl

def ref01_In : SFun := ⟨3, [.tmp 6],
  (.seq (.region [⟨(some 6), .mv (.c (.bool false)), none, []⟩])
  ((.seq (.region [⟨(some 7), .mv (.t 0), none, []⟩, ⟨(some 8), .mv (.t 1), none, []⟩, ⟨(some 9), .bin .geq (.t 7) (.t 8), none, []⟩, ⟨(some 10), .mv (.t 9), none, []⟩, ⟨(some 11), .mv (.t 0), (some (10, true)), []⟩, ⟨(some 12), .mv (.t 2), (some (10, true)), []⟩, ⟨(some 13), .bin .leq (.t 11) (.t 12), (some (10, true)), []⟩, ⟨(some 14), .pick (.t 10) (.t 13) (.c (.bool false)), none, []⟩, ⟨(some 6), .mv (.t 14), none, []⟩])
  (.ret))))⟩

def h_ref01_In : List (Nat × Nat × Hint) := []
theorem strip_ref01_In : stripFun Try.prog (fun r i => findH h_ref01_In r i) Try.f34 = some ref01_In := by kernel_rfl

def ref01_run : SFun := ⟨2, [.tmp 4],
  (.seq (.region [⟨(some 4), .mv (.c (.bool false)), none, []⟩])
  ((.seq (.region [⟨(some 5), .mv (.t 0), none, []⟩, ⟨(some 6), .call .pure n_ref01_In [(.t 5), (.c (.int .i64 0)), (.c (.int .i64 512))], none, []⟩, ⟨(some 7), .mv (.t 6), none, []⟩, ⟨(some 8), .mv (.t 1), (some (7, true)), []⟩, ⟨(some 9), .call .pure n_ref01_In [(.t 8), (.c (.int .i64 1)), (.c (.int .i64 512))], (some (7, true)), []⟩, ⟨(some 10), .pick (.t 7) (.t 9) (.c (.bool false)), none, []⟩, ⟨(some 11), .mv (.t 10), none, []⟩, ⟨(some 12), .mv (.t 0), (some (11, true)), []⟩, ⟨(some 13), .mv (.t 1), (some (11, true)), []⟩, ⟨(some 14), .bin .add (.t 12) (.t 13), (some (11, true)), []⟩, ⟨(some 15), .bin .leq (.t 14) (.c (.int .i64 512)), (some (11, true)), []⟩, ⟨(some 16), .pick (.t 11) (.t 15) (.c (.bool false)), none, []⟩, ⟨(some 4), .mv (.t 16), none, []⟩])
  (.ret))))⟩

def h_ref01_run : List (Nat × Nat × Hint) := []
theorem strip_ref01_run : stripFun Try.prog (fun r i => findH h_ref01_run r i) Try.f35 = some ref01_run := by kernel_rfl

def frame_bare : SFun := ⟨1, [.cell 2 9 true, .tmp 3],
  (.seq (.region [⟨(some 1), .box 0 (.t 0), none, []⟩, ⟨(some 2), .box 1 (.c (.agg [(.int .i64 0), (.int .i64 0), (.int .i64 0), (.int .i64 0), (.int .i64 0), (.int .i64 0), (.int .i64 0), (.int .i64 0), (.islc false true 0 [])])), none, []⟩, ⟨(some 3), .mv (.c (.bool false)), none, []⟩])
  ((.seq ((.seq (.region [⟨(some 4), .faddr 0 (.t 1), none, []⟩, ⟨(some 5), .load 1 false (.t 4), none, []⟩])
  (.block 0 ((.seq (.region [⟨(some 7), .bin .eql (.t 5) (.c (.int .i64 1)), none, []⟩, ⟨(some 6), .mv (.t 7), none, []⟩])
  (.cond (.t 6) ((.seq (.region [⟨(some 8), .faddr 1 (.t 1), none, []⟩, ⟨(some 9), .load 1 false (.t 8), none, []⟩, ⟨(some 10), .faddr 2 (.t 1), none, []⟩, ⟨(some 11), .load 1 false (.t 10), none, []⟩, ⟨(some 12), .call .pure n_record_Parents [(.t 9), (.t 11)], none, []⟩, ⟨(some 13), .mv (.t 12), none, []⟩, ⟨(some 14), .faddr 3 (.t 1), (some (13, true)), []⟩, ⟨(some 15), .load 1 false (.t 14), (some (13, true)), []⟩, ⟨(some 16), .call .pure n_frame_in [(.t 15), (.c (.int .i64 0)), (.c (.int .i64 512))], (some (13, true)), []⟩, ⟨(some 17), .pick (.t 13) (.t 16) (.c (.bool false)), none, []⟩, ⟨(some 18), .mv (.t 17), none, []⟩, ⟨(some 19), .faddr 5 (.t 1), (some (18, true)), []⟩, ⟨(some 20), .load 1 false (.t 19), (some (18, true)), []⟩, ⟨(some 21), .call .pure n_frame_in [(.t 20), (.c (.int .i64 0)), (.c (.int .i64 65535))], (some (18, true)), []⟩, ⟨(some 22), .pick (.t 18) (.t 21) (.c (.bool false)), none, []⟩, ⟨(some 3), .mv (.t 22), none, []⟩])
  (.region [⟨(some 23), .faddr 1 (.t 1), none, []⟩, ⟨none, .store 1 (.t 23) (.c (.int .i64 0)), none, []⟩, ⟨(some 24), .faddr 2 (.t 1), none, []⟩, ⟨none, .store 1 (.t 24) (.c (.int .i64 0)), none, []⟩, ⟨(some 25), .faddr 3 (.t 1), none, []⟩, ⟨none, .store 1 (.t 25) (.c (.int .i64 0)), none, []⟩, ⟨(some 26), .faddr 5 (.t 1), none, []⟩, ⟨none, .store 1 (.t 26) (.c (.int .i64 0)), none, []⟩]))) ((.seq (.region [⟨(some 28), .bin .eql (.t 5) (.c (.int .i64 2)), none, []⟩, ⟨(some 27), .mv (.t 28), none, []⟩])
  (.cond (.t 27) ((.seq (.region [⟨(some 29), .load 9 true (.t 1), none, []⟩, ⟨(some 30), .call .pure n_frame_writes [(.t 29)], none, []⟩, ⟨(some 3), .mv (.t 30), none, []⟩])
  (.region [⟨(some 31), .faddr 4 (.t 1), none, []⟩, ⟨none, .store 1 (.t 31) (.c (.int .i64 0)), none, []⟩, ⟨(some 32), .faddr 8 (.t 1), none, []⟩, ⟨none, .store 1 (.t 32) (.c (.islc false true 0 [])), none, []⟩]))) ((.seq (.region [⟨(some 34), .bin .eql (.t 5) (.c (.int .i64 3)), none, []⟩, ⟨(some 33), .mv (.t 34), none, []⟩])
  (.cond (.t 33) ((.seq (.region [⟨(some 35), .faddr 5 (.t 1), none, []⟩, ⟨(some 36), .load 1 false (.t 35), none, []⟩, ⟨(some 37), .bin .gtr (.t 36) (.c (.int .i64 0)), none, []⟩, ⟨(some 38), .mv (.t 37), none, []⟩, ⟨(some 39), .faddr 4 (.t 1), (some (38, true)), []⟩, ⟨(some 40), .load 1 false (.t 39), (some (38, true)), []⟩, ⟨(some 41), .faddr 5 (.t 1), (some (38, true)), []⟩, ⟨(some 42), .load 1 false (.t 41), (some (38, true)), []⟩, ⟨(some 43), .call .pure n_frame_Within [(.t 40), (.t 42), (.c (.int .i64 512))], (some (38, true)), []⟩, ⟨(some 44), .pick (.t 38) (.t 43) (.c (.bool false)), none, []⟩, ⟨(some 3), .mv (.t 44), none, []⟩])
  (.region [⟨(some 45), .faddr 4 (.t 1), none, []⟩, ⟨none, .store 1 (.t 45) (.c (.int .i64 0)), none, []⟩, ⟨(some 46), .faddr 5 (.t 1), none, []⟩, ⟨none, .store 1 (.t 46) (.c (.int .i64 0)), none, []⟩]))) ((.seq (.region [⟨(some 48), .bin .eql (.t 5) (.c (.int .i64 4)), none, []⟩, ⟨(some 47), .mv (.t 48), none, []⟩])
  (.cond (.t 47) ((.seq (.region [⟨(some 49), .faddr 5 (.t 1), none, []⟩, ⟨(some 50), .load 1 false (.t 49), none, []⟩, ⟨(some 51), .bin .gtr (.t 50) (.c (.int .i64 0)), none, []⟩, ⟨(some 52), .mv (.t 51), none, []⟩, ⟨(some 53), .faddr 4 (.t 1), (some (52, true)), []⟩, ⟨(some 54), .load 1 false (.t 53), (some (52, true)), []⟩, ⟨(some 55), .faddr 5 (.t 1), (some (52, true)), []⟩, ⟨(some 56), .load 1 false (.t 55), (some (52, true)), []⟩, ⟨(some 57), .call .pure n_frame_Within [(.t 54), (.t 56), (.c (.int .i64 512))], (some (52, true)), []⟩, ⟨(some 58), .pick (.t 52) (.t 57) (.c (.bool false)), none, []⟩, ⟨(some 59), .mv (.t 58), none, []⟩, ⟨(some 60), .faddr 6 (.t 1), (some (59, true)), []⟩, ⟨(some 61), .load 1 false (.t 60), (some (59, true)), []⟩, ⟨(some 62), .faddr 5 (.t 1), (some (59, true)), []⟩, ⟨(some 63), .load 1 false (.t 62), (some (59, true)), []⟩, ⟨(some 64), .call .pure n_frame_Within [(.t 61), (.t 63), (.c (.int .i64 512))], (some (59, true)), []⟩, ⟨(some 65), .pick (.t 59) (.t 64) (.c (.bool false)), none, []⟩, ⟨(some 3), .mv (.t 65), none, []⟩])
  (.region [⟨(some 66), .faddr 4 (.t 1), none, []⟩, ⟨none, .store 1 (.t 66) (.c (.int .i64 0)), none, []⟩, ⟨(some 67), .faddr 5 (.t 1), none, []⟩, ⟨none, .store 1 (.t 67) (.c (.int .i64 0)), none, []⟩, ⟨(some 68), .faddr 6 (.t 1), none, []⟩, ⟨none, .store 1 (.t 68) (.c (.int .i64 0)), none, []⟩]))) ((.seq (.region [⟨(some 70), .bin .eql (.t 5) (.c (.int .i64 5)), none, []⟩, ⟨(some 69), .mv (.t 70), none, []⟩])
  (.cond (.t 69) ((.seq (.region [⟨(some 71), .faddr 3 (.t 1), none, []⟩, ⟨(some 72), .load 1 false (.t 71), none, []⟩, ⟨(some 73), .call .pure n_frame_in [(.t 72), (.c (.int .i64 0)), (.c (.int .i64 512))], none, []⟩, ⟨(some 3), .mv (.t 73), none, []⟩])
  (.region [⟨(some 74), .faddr 3 (.t 1), none, []⟩, ⟨none, .store 1 (.t 74) (.c (.int .i64 0)), none, []⟩]))) ((.seq (.region [⟨(some 76), .bin .eql (.t 5) (.c (.int .i64 6)), none, []⟩, ⟨(some 75), .mv (.t 76), none, []⟩])
  (.cond (.t 75) ((.seq (.region [⟨(some 77), .faddr 5 (.t 1), none, []⟩, ⟨(some 78), .load 1 false (.t 77), none, []⟩, ⟨(some 79), .call .pure n_frame_in [(.t 78), (.c (.int .i64 0)), (.c (.int .i64 65535))], none, []⟩, ⟨(some 80), .mv (.t 79), none, []⟩, ⟨(some 81), .faddr 7 (.t 1), (some (80, true)), []⟩, ⟨(some 82), .load 1 false (.t 81), (some (80, true)), []⟩, ⟨(some 83), .call .pure n_frame_in [(.t 82), (.c (.int .i64 0)), (.c (.int .i64 4294967295))], (some (80, true)), []⟩, ⟨(some 84), .pick (.t 80) (.t 83) (.c (.bool false)), none, []⟩, ⟨(some 3), .mv (.t 84), none, []⟩])
  (.region [⟨(some 85), .faddr 5 (.t 1), none, []⟩, ⟨none, .store 1 (.t 85) (.c (.int .i64 0)), none, []⟩, ⟨(some 86), .faddr 7 (.t 1), none, []⟩, ⟨none, .store 1 (.t 86) (.c (.int .i64 0)), none, []⟩]))) (.skip))))))))))))))))))))))
  ((.seq (.region [⟨(some 87), .load 9 true (.t 1), none, []⟩, ⟨(some 88), .mv (.t 3), none, []⟩, ⟨none, .store 9 (.t 2) (.t 87), none, []⟩, ⟨(some 3), .mv (.t 88), none, []⟩])
  (.ret))))))⟩

def h_frame_bare : List (Nat × Nat × Hint) := [(0, 0, ⟨0, .pure, false⟩), (0, 1, ⟨1, .pure, false⟩)]
theorem strip_frame_bare : stripFun Try.prog (fun r i => findH h_frame_bare r i) Try.f36 = some frame_bare := by kernel_rfl

def ref01_Bytes_l0 : SCode := (.seq ((.seq (.region [⟨(some 7), .mv (.t 6), none, []⟩, ⟨(some 8), .mv (.t 0), none, []⟩, ⟨(some 9), .bin .lss (.t 7) (.t 8), none, []⟩])
  (.cond (.t 9) (.skip) (.exit 0))))
  ((.seq (.block 1 ((.seq (.region [⟨(some 12), .mv (.t 5), none, []⟩, ⟨(some 13), .mv (.t 1), none, []⟩, ⟨(some 14), .bin .rem (.t 13) (.c (.int .i64 256)), none, []⟩, ⟨(some 15), .cvi .u8 (.t 14), none, []⟩, ⟨(some 16), .buildS 2 1 1 (.int .u8 0) [(0, (.t 15))], none, []⟩, ⟨(some 17), .app 3 1 (.t 12) (.t 16), none, []⟩, ⟨(some 5), .mv (.t 17), none, []⟩])
  (.region [⟨(some 18), .mv (.t 1), none, []⟩, ⟨(some 19), .bin .quo (.t 18) (.c (.int .i64 256)), none, []⟩, ⟨(some 1), .mv (.t 19), none, []⟩]))))
  (.region [⟨(some 10), .mv (.t 6), none, []⟩, ⟨(some 11), .bin .add (.t 10) (.c (.int .i64 1)), none, []⟩, ⟨(some 6), .mv (.t 11), none, []⟩]))))

def ref01_Bytes : SFun := ⟨2, [.tmp 4],
  (.seq (.region [⟨(some 4), .nilrow 0 1, none, []⟩])
  ((.seq (.region [⟨(some 5), .nilrow 1 1, none, []⟩])
  ((.seq ((.seq (.region [⟨(some 6), .mv (.c (.int .i64 0)), none, []⟩])
  (.block 0 (.loop ref01_Bytes_l0))))
  ((.seq (.region [⟨(some 20), .mv (.t 5), none, []⟩, ⟨(some 4), .mv (.t 20), none, []⟩])
  (.ret))))))))⟩

def h_ref01_Bytes : List (Nat × Nat × Hint) := [(0, 0, ⟨0, .pure, true⟩), (1, 0, ⟨1, .pure, true⟩), (5, 4, ⟨2, .pure, false⟩), (5, 5, ⟨3, .pure, false⟩)]
theorem strip_ref01_Bytes : stripFun Try.prog (fun r i => findH h_ref01_Bytes r i) Try.f37 = some ref01_Bytes := by kernel_rfl

def ref01_Sum : SFun := ⟨1, [.tmp 2],
  (.seq (.region [⟨(some 2), .mv (.c (.int .i64 0)), none, []⟩])
  ((.seq (.region [⟨(some 3), .mv (.t 0), none, []⟩, ⟨(some 4), .call .pure n_ref01_More [(.c (.int .i64 0)), (.t 3)], none, []⟩, ⟨(some 2), .mv (.t 4), none, []⟩])
  (.ret))))⟩

def h_ref01_Sum : List (Nat × Nat × Hint) := []
theorem strip_ref01_Sum : stripFun Try.prog (fun r i => findH h_ref01_Sum r i) Try.f38 = some ref01_Sum := by kernel_rfl

def le_right : SFun := ⟨1, [.tmp 2],
  (.seq (.region [⟨(some 2), .mv (.c (.bool false)), none, []⟩])
  ((.seq (.region [⟨(some 3), .mv (.t 0), none, []⟩, ⟨(some 4), .bin .eql (.t 3) (.c (.int .i64 1)), none, []⟩, ⟨(some 5), .mv (.t 4), none, []⟩, ⟨(some 6), .mv (.t 0), (some (5, false)), []⟩, ⟨(some 7), .bin .eql (.t 6) (.c (.int .i64 2)), (some (5, false)), []⟩, ⟨(some 8), .pick (.t 5) (.c (.bool true)) (.t 7), none, []⟩, ⟨(some 9), .mv (.t 8), none, []⟩, ⟨(some 10), .mv (.t 0), (some (9, false)), []⟩, ⟨(some 11), .bin .eql (.t 10) (.c (.int .i64 4)), (some (9, false)), []⟩, ⟨(some 12), .pick (.t 9) (.c (.bool true)) (.t 11), none, []⟩, ⟨(some 13), .mv (.t 12), none, []⟩, ⟨(some 14), .mv (.t 0), (some (13, false)), []⟩, ⟨(some 15), .bin .eql (.t 14) (.c (.int .i64 8)), (some (13, false)), []⟩, ⟨(some 16), .pick (.t 13) (.c (.bool true)) (.t 15), none, []⟩, ⟨(some 2), .mv (.t 16), none, []⟩])
  (.ret))))⟩

def h_le_right : List (Nat × Nat × Hint) := []
theorem strip_le_right : stripFun Try.prog (fun r i => findH h_le_right r i) Try.f39 = some le_right := by kernel_rfl

def le_within : SFun := ⟨3, [.tmp 6],
  (.seq (.region [⟨(some 6), .mv (.c (.bool false)), none, []⟩])
  ((.seq (.region [⟨(some 7), .mv (.t 1), none, []⟩, ⟨(some 8), .bin .geq (.t 7) (.c (.int .i64 0)), none, []⟩, ⟨(some 9), .mv (.t 8), none, []⟩, ⟨(some 10), .mv (.t 1), (some (9, true)), []⟩, ⟨(some 11), .mv (.t 0), (some (9, true)), []⟩, ⟨(some 12), .len (.t 11), (some (9, true)), []⟩, ⟨(some 13), .mv (.t 2), (some (9, true)), []⟩, ⟨(some 14), .bin .sub (.t 12) (.t 13), (some (9, true)), []⟩, ⟨(some 15), .bin .leq (.t 10) (.t 14), (some (9, true)), []⟩, ⟨(some 16), .pick (.t 9) (.t 15) (.c (.bool false)), none, []⟩, ⟨(some 6), .mv (.t 16), none, []⟩])
  (.ret))))⟩

def h_le_within : List (Nat × Nat × Hint) := []
theorem strip_le_within : stripFun Try.prog (fun r i => findH h_le_within r i) Try.f40 = some le_within := by kernel_rfl

def frame_Sectors : SFun := ⟨1, [.tmp 2],
  (.seq (.region [⟨(some 1), .box 0 (.t 0), none, []⟩, ⟨(some 2), .mv (.c (.int .i64 0)), none, []⟩])
  ((.seq (.region [⟨(some 3), .faddr 8 (.t 1), none, []⟩, ⟨(some 4), .load 1 false (.t 3), none, []⟩, ⟨(some 5), .len (.t 4), none, []⟩, ⟨(some 6), .bin .quo (.t 5) (.c (.int .i64 64)), none, []⟩, ⟨(some 2), .mv (.t 6), none, []⟩])
  (.ret))))⟩

def h_frame_Sectors : List (Nat × Nat × Hint) := [(0, 0, ⟨0, .pure, false⟩)]
theorem strip_frame_Sectors : stripFun Try.prog (fun r i => findH h_frame_Sectors r i) Try.f41 = some frame_Sectors := by kernel_rfl

def le_Set_l0 : SCode := (.seq (.region [⟨(some 11), .bin .lss (.t 10) (.t 9), none, []⟩])
  ((.seq (.cond (.t 11) (.skip) (.exit 0))
  ((.seq (.block 1 ((.seq (.region [⟨(some 12), .mv (.t 10), none, []⟩, ⟨(some 8), .mv (.t 12), none, []⟩])
  (.region [⟨(some 13), .mv (.t 0), none, []⟩, ⟨(some 14), .mv (.t 1), none, []⟩, ⟨(some 15), .mv (.t 8), none, []⟩, ⟨(some 16), .bin .add (.t 14) (.t 15), none, []⟩, ⟨(some 17), .mv (.t 3), none, []⟩, ⟨(some 18), .mv (.t 8), none, []⟩, ⟨(some 19), .bin .mul (.c (.int .i64 8)) (.t 18), none, []⟩, ⟨(some 20), .bin .shr (.t 17) (.t 19), none, []⟩, ⟨(some 21), .cvi .u8 (.t 20), none, []⟩, ⟨(some 22), .iaddr 1 (.t 13) (.t 16), none, []⟩, ⟨none, .store 1 (.t 22) (.t 21), none, []⟩]))))
  (.region [⟨(some 23), .bin .add (.t 10) (.c (.int .i64 1)), none, []⟩, ⟨(some 10), .mv (.t 23), none, []⟩]))))))

def le_Set : SFun := ⟨4, [],
  (.seq (.region [⟨(some 9), .mv (.t 2), none, []⟩, ⟨(some 10), .mv (.c (.int .i64 0)), none, []⟩])
  (.block 0 (.loop le_Set_l0)))⟩

def h_le_Set : List (Nat × Nat × Hint) := []
theorem strip_le_Set : stripFun Try.prog (fun r i => findH h_le_Set r i) Try.f42 = some le_Set := by kernel_rfl

def crc_More_l0 : SCode := (.seq (.region [⟨(some 24), .bin .lss (.t 23) (.c (.int .i64 8)), none, []⟩])
  ((.seq (.cond (.t 24) (.skip) (.exit 2))
  ((.seq (.block 3 ((.seq (.region [⟨(some 25), .mv (.t 5), none, []⟩, ⟨(some 26), .bin .and (.t 25) (.c (.int .u32 1)), none, []⟩, ⟨(some 8), .mv (.t 26), none, []⟩])
  ((.seq (.region [⟨(some 27), .mv (.t 5), none, []⟩, ⟨(some 28), .bin .shr (.t 27) (.c (.int .u64 1)), none, []⟩, ⟨(some 5), .mv (.t 28), none, []⟩])
  ((.seq (.region [⟨(some 29), .mv (.t 8), none, []⟩, ⟨(some 30), .bin .eql (.t 29) (.c (.int .u32 1)), none, []⟩])
  (.cond (.t 30) (.region [⟨(some 31), .mv (.t 5), none, []⟩, ⟨(some 32), .bin .xor (.t 31) (.c (.int .u32 2197175160)), none, []⟩, ⟨(some 5), .mv (.t 32), none, []⟩]) (.skip)))))))))
  (.region [⟨(some 33), .bin .add (.t 23) (.c (.int .i64 1)), none, []⟩, ⟨(some 23), .mv (.t 33), none, []⟩]))))))

def crc_More_l1 : SCode := (.seq (.region [⟨(some 16), .bin .lss (.t 15) (.t 14), none, []⟩])
  ((.seq (.cond (.t 16) (.skip) (.exit 0))
  ((.seq (.block 1 ((.seq (.region [⟨(some 17), .iaddr 1 (.t 13) (.t 15), none, []⟩, ⟨(some 18), .load 1 false (.t 17), none, []⟩, ⟨(some 7), .mv (.t 18), none, []⟩])
  ((.seq (.region [⟨(some 19), .mv (.t 5), none, []⟩, ⟨(some 20), .mv (.t 7), none, []⟩, ⟨(some 21), .cvi .u32 (.t 20), none, []⟩, ⟨(some 22), .bin .xor (.t 19) (.t 21), none, []⟩, ⟨(some 5), .mv (.t 22), none, []⟩])
  ((.seq (.region [⟨(some 23), .mv (.c (.int .i64 0)), none, []⟩])
  (.block 2 (.loop crc_More_l0)))))))))
  (.region [⟨(some 34), .bin .add (.t 15) (.c (.int .i64 1)), none, []⟩, ⟨(some 15), .mv (.t 34), none, []⟩]))))))

def crc_More : SFun := ⟨2, [.tmp 4],
  (.seq (.region [⟨(some 4), .mv (.c (.int .i64 0)), none, []⟩])
  ((.seq (.region [⟨(some 9), .mv (.t 0), none, []⟩, ⟨(some 10), .cvi .u64 (.t 9), none, []⟩, ⟨(some 11), .cvi .u32 (.t 10), none, []⟩, ⟨(some 12), .un .xor (.t 11), none, []⟩, ⟨(some 5), .mv (.t 12), none, []⟩])
  ((.seq ((.seq (.region [⟨(some 13), .mv (.t 1), none, []⟩, ⟨(some 14), .len (.t 13), none, []⟩, ⟨(some 15), .mv (.c (.int .i64 0)), none, []⟩])
  (.block 0 (.loop crc_More_l1))))
  ((.seq (.region [⟨(some 35), .mv (.t 5), none, []⟩, ⟨(some 36), .un .xor (.t 35), none, []⟩, ⟨(some 37), .cvi .i64 (.t 36), none, []⟩, ⟨(some 4), .mv (.t 37), none, []⟩])
  (.ret))))))))⟩

def h_crc_More : List (Nat × Nat × Hint) := []
theorem strip_crc_More : stripFun Try.prog (fun r i => findH h_crc_More r i) Try.f43 = some crc_More := by kernel_rfl

def bytes_HasPrefix : SFun := ⟨2, [.tmp 4],
  (.seq (.region [⟨(some 4), .mv (.c (.bool false)), none, []⟩])
  ((.seq (.region [⟨(some 5), .mv (.t 0), none, []⟩, ⟨(some 6), .len (.t 5), none, []⟩, ⟨(some 7), .mv (.t 1), none, []⟩, ⟨(some 8), .len (.t 7), none, []⟩, ⟨(some 9), .bin .geq (.t 6) (.t 8), none, []⟩, ⟨(some 10), .mv (.t 9), none, []⟩, ⟨(some 11), .mv (.t 0), (some (10, true)), []⟩, ⟨(some 12), .mv (.t 1), (some (10, true)), []⟩, ⟨(some 13), .len (.t 12), (some (10, true)), []⟩, ⟨(some 14), .slice 1 (.t 11) none (some (.t 13)) none, (some (10, true)), []⟩, ⟨(some 15), .mv (.t 1), (some (10, true)), []⟩, ⟨(some 16), .call .pure n_bytes_Equal [(.t 14), (.t 15)], (some (10, true)), []⟩, ⟨(some 17), .pick (.t 10) (.t 16) (.c (.bool false)), none, []⟩, ⟨(some 4), .mv (.t 17), none, []⟩])
  (.ret))))⟩

def h_bytes_HasPrefix : List (Nat × Nat × Hint) := []
theorem strip_bytes_HasPrefix : stripFun Try.prog (fun r i => findH h_bytes_HasPrefix r i) Try.f44 = some bytes_HasPrefix := by kernel_rfl

def frame_numbers_l0 : SCode := (.seq (.region [⟨(some 15), .bin .lss (.t 14) (.t 13), none, []⟩])
  ((.seq (.cond (.t 15) (.skip) (.exit 0))
  ((.seq (.block 1 ((.seq (.region [⟨(some 16), .iaddr 1 (.t 12) (.t 14), none, []⟩, ⟨(some 17), .load 1 false (.t 16), none, []⟩, ⟨(some 9), .mv (.t 17), none, []⟩])
  ((.seq (.region [⟨(some 19), .mv (.t 0), none, []⟩, ⟨(some 20), .mv (.t 7), none, []⟩, ⟨(some 21), .mv (.t 9), none, []⟩, ⟨(some 22), .call .pure n_le_Get [(.t 19), (.t 20), (.t 21)], none, []⟩, ⟨(some 18), .mv (.t 22), none, []⟩, ⟨(some 23), .extract (.t 18) 0, none, []⟩, ⟨(some 24), .extract (.t 18) 1, none, []⟩, ⟨(some 10), .mv (.t 23), none, []⟩, ⟨(some 11), .mv (.t 24), none, []⟩])
  ((.seq ((.seq (.region [⟨(some 25), .mv (.t 11), none, []⟩, ⟨(some 26), .bin .neq (.t 25) (.c (.int .i64 0)), none, []⟩])
  (.cond (.t 26) ((.seq (.region [⟨(some 4), .nilrow 2 1, none, []⟩, ⟨(some 5), .mv (.c (.bool false)), none, []⟩])
  (.ret))) (.skip))))
  ((.seq (.region [⟨(some 27), .mv (.t 6), none, []⟩, ⟨(some 28), .mv (.t 10), none, []⟩, ⟨(some 29), .buildS 3 1 1 (.int .i64 0) [(0, (.t 28))], none, []⟩, ⟨(some 30), .app 4 1 (.t 27) (.t 29), none, []⟩, ⟨(some 6), .mv (.t 30), none, []⟩])
  (.region [⟨(some 31), .mv (.t 7), none, []⟩, ⟨(some 32), .mv (.t 9), none, []⟩, ⟨(some 33), .bin .add (.t 31) (.t 32), none, []⟩, ⟨(some 7), .mv (.t 33), none, []⟩]))))))))))
  (.region [⟨(some 34), .bin .add (.t 14) (.c (.int .i64 1)), none, []⟩, ⟨(some 14), .mv (.t 34), none, []⟩]))))))

def frame_numbers : SFun := ⟨2, [.tmp 4, .tmp 5],
  (.seq (.region [⟨(some 4), .nilrow 0 1, none, []⟩, ⟨(some 5), .mv (.c (.bool false)), none, []⟩])
  ((.seq (.region [⟨(some 6), .nilrow 1 1, none, []⟩])
  ((.seq (.region [⟨(some 7), .mv (.c (.int .i64 0)), none, []⟩])
  ((.seq ((.seq (.region [⟨(some 12), .mv (.t 1), none, []⟩, ⟨(some 13), .len (.t 12), none, []⟩, ⟨(some 14), .mv (.c (.int .i64 0)), none, []⟩])
  (.block 0 (.loop frame_numbers_l0))))
  ((.seq (.region [⟨(some 35), .mv (.t 6), none, []⟩, ⟨(some 36), .mv (.t 7), none, []⟩, ⟨(some 37), .mv (.t 0), none, []⟩, ⟨(some 38), .len (.t 37), none, []⟩, ⟨(some 39), .bin .eql (.t 36) (.t 38), none, []⟩, ⟨(some 4), .mv (.t 35), none, []⟩, ⟨(some 5), .mv (.t 39), none, []⟩])
  (.ret))))))))))⟩

def h_frame_numbers : List (Nat × Nat × Hint) := [(0, 0, ⟨0, .pure, true⟩), (1, 0, ⟨1, .pure, true⟩), (8, 0, ⟨2, .pure, true⟩), (9, 2, ⟨3, .pure, false⟩), (9, 3, ⟨4, .pure, false⟩)]
theorem strip_frame_numbers : stripFun Try.prog (fun r i => findH h_frame_numbers r i) Try.f45 = some frame_numbers := by kernel_rfl

def slices_Clone___byte_byte_ : SFun := ⟨1, [.tmp 2],
  (.seq (.region [⟨(some 2), .nilrow 0 1, none, []⟩])
  ((.seq ((.seq (.region [⟨(some 3), .mv (.t 0), none, []⟩, ⟨(some 4), .eqnil false (.t 3), none, []⟩])
  (.cond (.t 4) ((.seq (.region [⟨(some 2), .nilrow 1 1, none, []⟩])
  (.ret))) (.skip))))
  ((.seq (.region [⟨(some 5), .empty 1, none, []⟩, ⟨(some 6), .mv (.t 0), none, []⟩, ⟨(some 7), .app 2 1 (.t 5) (.t 6), none, []⟩, ⟨(some 2), .mv (.t 7), none, []⟩])
  (.ret))))))⟩

def h_slices_Clone___byte_byte_ : List (Nat × Nat × Hint) := [(0, 0, ⟨0, .pure, true⟩), (2, 0, ⟨1, .pure, true⟩), (3, 2, ⟨2, .pure, false⟩)]
theorem strip_slices_Clone___byte_byte_ : stripFun Try.prog (fun r i => findH h_slices_Clone___byte_byte_ r i) Try.f46 = some slices_Clone___byte_byte_ := by kernel_rfl

def ref01_Number_l0 : SCode := (.seq ((.seq (.region [⟨(some 9), .mv (.t 5), none, []⟩, ⟨(some 10), .bin .geq (.t 9) (.c (.int .i64 0)), none, []⟩])
  (.cond (.t 10) (.skip) (.exit 0))))
  ((.seq (.block 1 ((.seq ((.seq (.region [⟨(some 13), .mv (.t 4), none, []⟩, ⟨(some 14), .mv (.t 0), none, []⟩, ⟨(some 15), .mv (.t 5), none, []⟩, ⟨(some 16), .iaddr 1 (.t 14) (.t 15), none, []⟩, ⟨(some 17), .load 1 false (.t 16), none, []⟩, ⟨(some 18), .cvi .i64 (.t 17), none, []⟩, ⟨(some 19), .bin .sub (.c (.int .i64 4611686018427387903)) (.t 18), none, []⟩, ⟨(some 20), .bin .quo (.t 19) (.c (.int .i64 256)), none, []⟩, ⟨(some 21), .bin .gtr (.t 13) (.t 20), none, []⟩])
  (.cond (.t 21) ((.seq (.region [⟨(some 2), .mv (.c (.int .i64 0)), none, []⟩, ⟨(some 3), .mv (.c (.bool false)), none, []⟩])
  (.ret))) (.skip))))
  (.region [⟨(some 22), .mv (.t 4), none, []⟩, ⟨(some 23), .bin .mul (.c (.int .i64 256)) (.t 22), none, []⟩, ⟨(some 24), .mv (.t 0), none, []⟩, ⟨(some 25), .mv (.t 5), none, []⟩, ⟨(some 26), .iaddr 1 (.t 24) (.t 25), none, []⟩, ⟨(some 27), .load 1 false (.t 26), none, []⟩, ⟨(some 28), .cvi .i64 (.t 27), none, []⟩, ⟨(some 29), .bin .add (.t 23) (.t 28), none, []⟩, ⟨(some 4), .mv (.t 29), none, []⟩]))))
  (.region [⟨(some 11), .mv (.t 5), none, []⟩, ⟨(some 12), .bin .sub (.t 11) (.c (.int .i64 1)), none, []⟩, ⟨(some 5), .mv (.t 12), none, []⟩]))))

def ref01_Number : SFun := ⟨1, [.tmp 2, .tmp 3],
  (.seq (.region [⟨(some 2), .mv (.c (.int .i64 0)), none, []⟩, ⟨(some 3), .mv (.c (.bool false)), none, []⟩])
  ((.seq (.region [⟨(some 4), .mv (.c (.int .i64 0)), none, []⟩])
  ((.seq ((.seq (.region [⟨(some 6), .mv (.t 0), none, []⟩, ⟨(some 7), .len (.t 6), none, []⟩, ⟨(some 8), .bin .sub (.t 7) (.c (.int .i64 1)), none, []⟩, ⟨(some 5), .mv (.t 8), none, []⟩])
  (.block 0 (.loop ref01_Number_l0))))
  ((.seq (.region [⟨(some 30), .mv (.t 4), none, []⟩, ⟨(some 2), .mv (.t 30), none, []⟩, ⟨(some 3), .mv (.c (.bool true)), none, []⟩])
  (.ret))))))))⟩

def h_ref01_Number : List (Nat × Nat × Hint) := []
theorem strip_ref01_Number : stripFun Try.prog (fun r i => findH h_ref01_Number r i) Try.f47 = some ref01_Number := by kernel_rfl

def ref01_Get8 : SFun := ⟨2, [.tmp 4, .tmp 5],
  (.seq (.region [⟨(some 4), .mv (.c (.int .i64 0)), none, []⟩, ⟨(some 5), .mv (.c (.bool false)), none, []⟩])
  ((.seq (.region [⟨(some 6), .mv (.t 0), none, []⟩, ⟨(some 7), .mv (.t 1), none, []⟩, ⟨(some 8), .mv (.t 1), none, []⟩, ⟨(some 9), .bin .add (.t 8) (.c (.int .i64 8)), none, []⟩, ⟨(some 10), .slice 1 (.t 6) (some (.t 7)) (some (.t 9)) none, none, []⟩, ⟨(some 11), .call .pure n_ref01_Number [(.t 10)], none, []⟩, ⟨(some 12), .extract (.t 11) 0, none, []⟩, ⟨(some 13), .extract (.t 11) 1, none, []⟩, ⟨(some 4), .mv (.t 12), none, []⟩, ⟨(some 5), .mv (.t 13), none, []⟩])
  (.ret))))⟩

def h_ref01_Get8 : List (Nat × Nat × Hint) := []
theorem strip_ref01_Get8 : stripFun Try.prog (fun r i => findH h_ref01_Get8 r i) Try.f48 = some ref01_Get8 := by kernel_rfl

def record_Parents : SFun := ⟨2, [.tmp 4],
  (.seq (.region [⟨(some 4), .mv (.c (.bool false)), none, []⟩])
  ((.seq (.region [⟨(some 5), .mv (.t 0), none, []⟩, ⟨(some 6), .call .pure n_ids_Check [(.t 5)], none, []⟩, ⟨(some 7), .bin .eql (.t 6) (.c (.int .i64 0)), none, []⟩, ⟨(some 8), .mv (.t 7), none, []⟩, ⟨(some 9), .mv (.t 1), (some (8, true)), []⟩, ⟨(some 10), .mv (.t 0), (some (8, true)), []⟩, ⟨(some 11), .bin .neq (.t 9) (.t 10), (some (8, true)), []⟩, ⟨(some 12), .pick (.t 8) (.t 11) (.c (.bool false)), none, []⟩, ⟨(some 13), .mv (.t 12), none, []⟩, ⟨(some 14), .mv (.t 1), (some (13, true)), []⟩, ⟨(some 15), .bin .eql (.t 14) (.c (.int .i64 0)), (some (13, true)), []⟩, ⟨(some 16), .mv (.t 15), (some (13, true)), []⟩, ⟨(some 17), .mv (.t 1), (some (16, false)), []⟩, ⟨(some 18), .call .pure n_ids_Check [(.t 17)], (some (16, false)), []⟩, ⟨(some 19), .bin .eql (.t 18) (.c (.int .i64 0)), (some (16, false)), []⟩, ⟨(some 20), .pick (.t 16) (.c (.bool true)) (.t 19), (some (13, true)), []⟩, ⟨(some 21), .pick (.t 13) (.t 20) (.c (.bool false)), none, []⟩, ⟨(some 4), .mv (.t 21), none, []⟩])
  (.ret))))⟩

def h_record_Parents : List (Nat × Nat × Hint) := []
theorem strip_record_Parents : stripFun Try.prog (fun r i => findH h_record_Parents r i) Try.f49 = some record_Parents := by kernel_rfl

def frame_writes : SFun := ⟨1, [.tmp 2],
  (.seq (.region [⟨(some 1), .box 0 (.t 0), none, []⟩, ⟨(some 2), .mv (.c (.bool false)), none, []⟩])
  ((.seq (.region [⟨(some 3), .faddr 8 (.t 1), none, []⟩, ⟨(some 4), .load 1 false (.t 3), none, []⟩, ⟨(some 5), .len (.t 4), none, []⟩, ⟨(some 6), .bin .rem (.t 5) (.c (.int .i64 64)), none, []⟩, ⟨(some 7), .bin .eql (.t 6) (.c (.int .i64 0)), none, []⟩, ⟨(some 8), .mv (.t 7), none, []⟩, ⟨(some 9), .load 9 true (.t 1), (some (8, true)), []⟩, ⟨(some 10), .call .pure n_frame_Sectors [(.t 9)], (some (8, true)), []⟩, ⟨(some 11), .call .pure n_frame_in [(.t 10), (.c (.int .i64 1)), (.c (.int .i64 8))], (some (8, true)), []⟩, ⟨(some 12), .pick (.t 8) (.t 11) (.c (.bool false)), none, []⟩, ⟨(some 13), .mv (.t 12), none, []⟩, ⟨(some 14), .faddr 4 (.t 1), (some (13, true)), []⟩, ⟨(some 15), .load 1 false (.t 14), (some (13, true)), []⟩, ⟨(some 16), .load 9 true (.t 1), (some (13, true)), []⟩, ⟨(some 17), .call .pure n_frame_Sectors [(.t 16)], (some (13, true)), []⟩, ⟨(some 18), .call .pure n_frame_Within [(.t 15), (.t 17), (.c (.int .i64 512))], (some (13, true)), []⟩, ⟨(some 19), .pick (.t 13) (.t 18) (.c (.bool false)), none, []⟩, ⟨(some 2), .mv (.t 19), none, []⟩])
  (.ret))))⟩

def h_frame_writes : List (Nat × Nat × Hint) := [(0, 0, ⟨0, .pure, false⟩)]
theorem strip_frame_writes : stripFun Try.prog (fun r i => findH h_frame_writes r i) Try.f50 = some frame_writes := by kernel_rfl

def frame_Within : SFun := ⟨3, [.tmp 6],
  (.seq (.region [⟨(some 6), .mv (.c (.bool false)), none, []⟩])
  ((.seq (.region [⟨(some 7), .mv (.t 0), none, []⟩, ⟨(some 8), .bin .geq (.t 7) (.c (.int .i64 0)), none, []⟩, ⟨(some 9), .mv (.t 8), none, []⟩, ⟨(some 10), .mv (.t 1), (some (9, true)), []⟩, ⟨(some 11), .bin .geq (.t 10) (.c (.int .i64 0)), (some (9, true)), []⟩, ⟨(some 12), .pick (.t 9) (.t 11) (.c (.bool false)), none, []⟩, ⟨(some 13), .mv (.t 12), none, []⟩, ⟨(some 14), .mv (.t 1), (some (13, true)), []⟩, ⟨(some 15), .mv (.t 2), (some (13, true)), []⟩, ⟨(some 16), .bin .leq (.t 14) (.t 15), (some (13, true)), []⟩, ⟨(some 17), .pick (.t 13) (.t 16) (.c (.bool false)), none, []⟩, ⟨(some 18), .mv (.t 17), none, []⟩, ⟨(some 19), .mv (.t 0), (some (18, true)), []⟩, ⟨(some 20), .mv (.t 2), (some (18, true)), []⟩, ⟨(some 21), .mv (.t 1), (some (18, true)), []⟩, ⟨(some 22), .bin .sub (.t 20) (.t 21), (some (18, true)), []⟩, ⟨(some 23), .bin .leq (.t 19) (.t 22), (some (18, true)), []⟩, ⟨(some 24), .pick (.t 18) (.t 23) (.c (.bool false)), none, []⟩, ⟨(some 6), .mv (.t 24), none, []⟩])
  (.ret))))⟩

def h_frame_Within : List (Nat × Nat × Hint) := []
theorem strip_frame_Within : stripFun Try.prog (fun r i => findH h_frame_Within r i) Try.f51 = some frame_Within := by kernel_rfl

def ref01_More_l0 : SCode := (.seq ((.seq (.region [⟨(some 24), .mv (.t 7), none, []⟩, ⟨(some 25), .bin .lss (.t 24) (.c (.int .i64 8)), none, []⟩])
  (.cond (.t 25) (.skip) (.exit 2))))
  ((.seq (.block 3 ((.seq (.region [⟨(some 28), .mv (.t 5), none, []⟩, ⟨(some 29), .bin .rem (.t 28) (.c (.int .u32 2)), none, []⟩, ⟨(some 30), .bin .eql (.t 29) (.c (.int .u32 1)), none, []⟩])
  (.cond (.t 30) (.region [⟨(some 31), .mv (.t 5), none, []⟩, ⟨(some 32), .bin .quo (.t 31) (.c (.int .u32 2)), none, []⟩, ⟨(some 33), .bin .xor (.t 32) (.c (.int .u32 2197175160)), none, []⟩, ⟨(some 5), .mv (.t 33), none, []⟩]) (.region [⟨(some 34), .mv (.t 5), none, []⟩, ⟨(some 35), .bin .quo (.t 34) (.c (.int .u32 2)), none, []⟩, ⟨(some 5), .mv (.t 35), none, []⟩])))))
  (.region [⟨(some 26), .mv (.t 7), none, []⟩, ⟨(some 27), .bin .add (.t 26) (.c (.int .i64 1)), none, []⟩, ⟨(some 7), .mv (.t 27), none, []⟩]))))

def ref01_More_l1 : SCode := (.seq ((.seq (.region [⟨(some 11), .mv (.t 6), none, []⟩, ⟨(some 12), .mv (.t 1), none, []⟩, ⟨(some 13), .len (.t 12), none, []⟩, ⟨(some 14), .bin .lss (.t 11) (.t 13), none, []⟩])
  (.cond (.t 14) (.skip) (.exit 0))))
  ((.seq (.block 1 ((.seq (.region [⟨(some 17), .mv (.t 5), none, []⟩, ⟨(some 18), .mv (.t 1), none, []⟩, ⟨(some 19), .mv (.t 6), none, []⟩, ⟨(some 20), .iaddr 1 (.t 18) (.t 19), none, []⟩, ⟨(some 21), .load 1 false (.t 20), none, []⟩, ⟨(some 22), .cvi .u32 (.t 21), none, []⟩, ⟨(some 23), .bin .xor (.t 17) (.t 22), none, []⟩, ⟨(some 5), .mv (.t 23), none, []⟩])
  ((.seq (.region [⟨(some 7), .mv (.c (.int .i64 0)), none, []⟩])
  (.block 2 (.loop ref01_More_l0)))))))
  (.region [⟨(some 15), .mv (.t 6), none, []⟩, ⟨(some 16), .bin .add (.t 15) (.c (.int .i64 1)), none, []⟩, ⟨(some 6), .mv (.t 16), none, []⟩]))))

def ref01_More : SFun := ⟨2, [.tmp 4],
  (.seq (.region [⟨(some 4), .mv (.c (.int .i64 0)), none, []⟩])
  ((.seq (.region [⟨(some 8), .mv (.t 0), none, []⟩, ⟨(some 9), .cvi .u32 (.t 8), none, []⟩, ⟨(some 10), .un .xor (.t 9), none, []⟩, ⟨(some 5), .mv (.t 10), none, []⟩])
  ((.seq ((.seq (.region [⟨(some 6), .mv (.c (.int .i64 0)), none, []⟩])
  (.block 0 (.loop ref01_More_l1))))
  ((.seq (.region [⟨(some 36), .mv (.t 5), none, []⟩, ⟨(some 37), .un .xor (.t 36), none, []⟩, ⟨(some 38), .cvi .i64 (.t 37), none, []⟩, ⟨(some 4), .mv (.t 38), none, []⟩])
  (.ret))))))))⟩

def h_ref01_More : List (Nat × Nat × Hint) := []
theorem strip_ref01_More : stripFun Try.prog (fun r i => findH h_ref01_More r i) Try.f52 = some ref01_More := by kernel_rfl

def bytes_Equal : SFun := ⟨2, [.tmp 4],
  (.seq (.region [⟨(some 4), .mv (.c (.bool false)), none, []⟩])
  ((.seq (.region [⟨(some 5), .mv (.t 0), none, []⟩, ⟨(some 6), .b2s (.t 5), none, []⟩, ⟨(some 7), .mv (.t 1), none, []⟩, ⟨(some 8), .b2s (.t 7), none, []⟩, ⟨(some 9), .bin .eql (.t 6) (.t 8), none, []⟩, ⟨(some 4), .mv (.t 9), none, []⟩])
  (.ret))))⟩

def h_bytes_Equal : List (Nat × Nat × Hint) := []
theorem strip_bytes_Equal : stripFun Try.prog (fun r i => findH h_bytes_Equal r i) Try.f53 = some bytes_Equal := by kernel_rfl

def ids_Check : SFun := ⟨1, [.tmp 2],
  (.seq (.region [⟨(some 2), .mv (.c (.int .i64 0)), none, []⟩])
  ((.seq ((.seq (.region [⟨(some 3), .mv (.t 0), none, []⟩, ⟨(some 4), .bin .lss (.t 3) (.c (.int .i64 1)), none, []⟩, ⟨(some 5), .mv (.t 4), none, []⟩, ⟨(some 6), .mv (.t 0), (some (5, false)), []⟩, ⟨(some 7), .bin .gtr (.t 6) (.c (.int .i64 4611686018427387903)), (some (5, false)), []⟩, ⟨(some 8), .pick (.t 5) (.c (.bool true)) (.t 7), none, []⟩])
  (.cond (.t 8) ((.seq (.region [⟨(some 2), .mv (.c (.int .i64 1)), none, []⟩])
  (.ret))) (.skip))))
  ((.seq (.region [⟨(some 2), .mv (.c (.int .i64 0)), none, []⟩])
  (.ret))))))⟩

def h_ids_Check : List (Nat × Nat × Hint) := []
theorem strip_ids_Check : stripFun Try.prog (fun r i => findH h_ids_Check r i) Try.f54 = some ids_Check := by kernel_rfl

def tab : List (Nat × SFun) := [(3, law09_FrameExact), (4, law09_FrameBack), (5, law09_FramePayload), (6, law09_FrameBounds), (7, law09_FrameReads), (8, law09_FrameFields), (9, keep_TwinCommands), (10, keep_Twin), (11, frame_Payload), (12, frame_Bytes), (13, frame_Parse), (14, ref01_ParseFrame), (15, keep_Command), (16, keep_Bytes), (17, ref01_Command), (18, frame_Check), (19, law09_wakes), (20, ref01_Payload), (21, ref01_FrameBytes), (22, le_Get), (23, frame_payload), (24, frame_in), (25, frame_put), (26, crc_Sum), (27, frame_length), (28, crc_Good), (29, frame_command), (30, ref01_Get4), (31, ref01_Good), (32, ref01_command), (33, ref01_Id), (34, ref01_In), (35, ref01_run), (36, frame_bare), (37, ref01_Bytes), (38, ref01_Sum), (39, le_right), (40, le_within), (41, frame_Sectors), (42, le_Set), (43, crc_More), (44, bytes_HasPrefix), (45, frame_numbers), (47, ref01_Number), (48, ref01_Get8), (49, record_Parents), (50, frame_writes), (51, frame_Within), (52, ref01_More), (53, bytes_Equal), (54, ids_Check)]
def B : Prog := Go.AI.look tab
theorem laid : Laid Try.prog (Go.AI.look tab) := by
  refine laid_cons ⟨_, _, Try.func3, strip_law09_FrameExact, by decide⟩ ?_
  refine laid_cons ⟨_, _, Try.func4, strip_law09_FrameBack, by decide⟩ ?_
  refine laid_cons ⟨_, _, Try.func5, strip_law09_FramePayload, by decide⟩ ?_
  refine laid_cons ⟨_, _, Try.func6, strip_law09_FrameBounds, by decide⟩ ?_
  refine laid_cons ⟨_, _, Try.func7, strip_law09_FrameReads, by decide⟩ ?_
  refine laid_cons ⟨_, _, Try.func8, strip_law09_FrameFields, by decide⟩ ?_
  refine laid_cons ⟨_, _, Try.func9, strip_keep_TwinCommands, by decide⟩ ?_
  refine laid_cons ⟨_, _, Try.func10, strip_keep_Twin, by decide⟩ ?_
  refine laid_cons ⟨_, _, Try.func11, strip_frame_Payload, by decide⟩ ?_
  refine laid_cons ⟨_, _, Try.func12, strip_frame_Bytes, by decide⟩ ?_
  refine laid_cons ⟨_, _, Try.func13, strip_frame_Parse, by decide⟩ ?_
  refine laid_cons ⟨_, _, Try.func14, strip_ref01_ParseFrame, by decide⟩ ?_
  refine laid_cons ⟨_, _, Try.func15, strip_keep_Command, by decide⟩ ?_
  refine laid_cons ⟨_, _, Try.func16, strip_keep_Bytes, by decide⟩ ?_
  refine laid_cons ⟨_, _, Try.func17, strip_ref01_Command, by decide⟩ ?_
  refine laid_cons ⟨_, _, Try.func18, strip_frame_Check, by decide⟩ ?_
  refine laid_cons ⟨_, _, Try.func19, strip_law09_wakes, by decide⟩ ?_
  refine laid_cons ⟨_, _, Try.func20, strip_ref01_Payload, by decide⟩ ?_
  refine laid_cons ⟨_, _, Try.func21, strip_ref01_FrameBytes, by decide⟩ ?_
  refine laid_cons ⟨_, _, Try.func22, strip_le_Get, by decide⟩ ?_
  refine laid_cons ⟨_, _, Try.func23, strip_frame_payload, by decide⟩ ?_
  refine laid_cons ⟨_, _, Try.func24, strip_frame_in, by decide⟩ ?_
  refine laid_cons ⟨_, _, Try.func25, strip_frame_put, by decide⟩ ?_
  refine laid_cons ⟨_, _, Try.func26, strip_crc_Sum, by decide⟩ ?_
  refine laid_cons ⟨_, _, Try.func27, strip_frame_length, by decide⟩ ?_
  refine laid_cons ⟨_, _, Try.func28, strip_crc_Good, by decide⟩ ?_
  refine laid_cons ⟨_, _, Try.func29, strip_frame_command, by decide⟩ ?_
  refine laid_cons ⟨_, _, Try.func30, strip_ref01_Get4, by decide⟩ ?_
  refine laid_cons ⟨_, _, Try.func31, strip_ref01_Good, by decide⟩ ?_
  refine laid_cons ⟨_, _, Try.func32, strip_ref01_command, by decide⟩ ?_
  refine laid_cons ⟨_, _, Try.func33, strip_ref01_Id, by decide⟩ ?_
  refine laid_cons ⟨_, _, Try.func34, strip_ref01_In, by decide⟩ ?_
  refine laid_cons ⟨_, _, Try.func35, strip_ref01_run, by decide⟩ ?_
  refine laid_cons ⟨_, _, Try.func36, strip_frame_bare, by decide⟩ ?_
  refine laid_cons ⟨_, _, Try.func37, strip_ref01_Bytes, by decide⟩ ?_
  refine laid_cons ⟨_, _, Try.func38, strip_ref01_Sum, by decide⟩ ?_
  refine laid_cons ⟨_, _, Try.func39, strip_le_right, by decide⟩ ?_
  refine laid_cons ⟨_, _, Try.func40, strip_le_within, by decide⟩ ?_
  refine laid_cons ⟨_, _, Try.func41, strip_frame_Sectors, by decide⟩ ?_
  refine laid_cons ⟨_, _, Try.func42, strip_le_Set, by decide⟩ ?_
  refine laid_cons ⟨_, _, Try.func43, strip_crc_More, by decide⟩ ?_
  refine laid_cons ⟨_, _, Try.func44, strip_bytes_HasPrefix, by decide⟩ ?_
  refine laid_cons ⟨_, _, Try.func45, strip_frame_numbers, by decide⟩ ?_
  refine laid_cons ⟨_, _, Try.func47, strip_ref01_Number, by decide⟩ ?_
  refine laid_cons ⟨_, _, Try.func48, strip_ref01_Get8, by decide⟩ ?_
  refine laid_cons ⟨_, _, Try.func49, strip_record_Parents, by decide⟩ ?_
  refine laid_cons ⟨_, _, Try.func50, strip_frame_writes, by decide⟩ ?_
  refine laid_cons ⟨_, _, Try.func51, strip_frame_Within, by decide⟩ ?_
  refine laid_cons ⟨_, _, Try.func52, strip_ref01_More, by decide⟩ ?_
  refine laid_cons ⟨_, _, Try.func53, strip_bytes_Equal, by decide⟩ ?_
  refine laid_cons ⟨_, _, Try.func54, strip_ids_Check, by decide⟩ ?_
  exact laid_nil
theorem B_law09_FrameExact : B n_law09_FrameExact = some law09_FrameExact := rfl
theorem B_law09_FrameBack : B n_law09_FrameBack = some law09_FrameBack := rfl
theorem B_law09_FramePayload : B n_law09_FramePayload = some law09_FramePayload := rfl
theorem B_law09_FrameBounds : B n_law09_FrameBounds = some law09_FrameBounds := rfl
theorem B_law09_FrameReads : B n_law09_FrameReads = some law09_FrameReads := rfl
theorem B_law09_FrameFields : B n_law09_FrameFields = some law09_FrameFields := rfl
theorem B_keep_TwinCommands : B n_keep_TwinCommands = some keep_TwinCommands := rfl
theorem B_keep_Twin : B n_keep_Twin = some keep_Twin := rfl
theorem B_frame_Payload : B n_frame_Payload = some frame_Payload := rfl
theorem B_frame_Bytes : B n_frame_Bytes = some frame_Bytes := rfl
theorem B_frame_Parse : B n_frame_Parse = some frame_Parse := rfl
theorem B_ref01_ParseFrame : B n_ref01_ParseFrame = some ref01_ParseFrame := rfl
theorem B_keep_Command : B n_keep_Command = some keep_Command := rfl
theorem B_keep_Bytes : B n_keep_Bytes = some keep_Bytes := rfl
theorem B_ref01_Command : B n_ref01_Command = some ref01_Command := rfl
theorem B_frame_Check : B n_frame_Check = some frame_Check := rfl
theorem B_law09_wakes : B n_law09_wakes = some law09_wakes := rfl
theorem B_ref01_Payload : B n_ref01_Payload = some ref01_Payload := rfl
theorem B_ref01_FrameBytes : B n_ref01_FrameBytes = some ref01_FrameBytes := rfl
theorem B_le_Get : B n_le_Get = some le_Get := rfl
theorem B_frame_payload : B n_frame_payload = some frame_payload := rfl
theorem B_frame_in : B n_frame_in = some frame_in := rfl
theorem B_frame_put : B n_frame_put = some frame_put := rfl
theorem B_crc_Sum : B n_crc_Sum = some crc_Sum := rfl
theorem B_frame_length : B n_frame_length = some frame_length := rfl
theorem B_crc_Good : B n_crc_Good = some crc_Good := rfl
theorem B_frame_command : B n_frame_command = some frame_command := rfl
theorem B_ref01_Get4 : B n_ref01_Get4 = some ref01_Get4 := rfl
theorem B_ref01_Good : B n_ref01_Good = some ref01_Good := rfl
theorem B_ref01_command : B n_ref01_command = some ref01_command := rfl
theorem B_ref01_Id : B n_ref01_Id = some ref01_Id := rfl
theorem B_ref01_In : B n_ref01_In = some ref01_In := rfl
theorem B_ref01_run : B n_ref01_run = some ref01_run := rfl
theorem B_frame_bare : B n_frame_bare = some frame_bare := rfl
theorem B_ref01_Bytes : B n_ref01_Bytes = some ref01_Bytes := rfl
theorem B_ref01_Sum : B n_ref01_Sum = some ref01_Sum := rfl
theorem B_le_right : B n_le_right = some le_right := rfl
theorem B_le_within : B n_le_within = some le_within := rfl
theorem B_frame_Sectors : B n_frame_Sectors = some frame_Sectors := rfl
theorem B_le_Set : B n_le_Set = some le_Set := rfl
theorem B_crc_More : B n_crc_More = some crc_More := rfl
theorem B_bytes_HasPrefix : B n_bytes_HasPrefix = some bytes_HasPrefix := rfl
theorem B_frame_numbers : B n_frame_numbers = some frame_numbers := rfl
theorem B_ref01_Number : B n_ref01_Number = some ref01_Number := rfl
theorem B_ref01_Get8 : B n_ref01_Get8 = some ref01_Get8 := rfl
theorem B_record_Parents : B n_record_Parents = some record_Parents := rfl
theorem B_frame_writes : B n_frame_writes = some frame_writes := rfl
theorem B_frame_Within : B n_frame_Within = some frame_Within := rfl
theorem B_ref01_More : B n_ref01_More = some ref01_More := rfl
theorem B_bytes_Equal : B n_bytes_Equal = some bytes_Equal := rfl
theorem B_ids_Check : B n_ids_Check = some ids_Check := rfl
end Go.Proofs.Ytoanjhiojpgioaa
