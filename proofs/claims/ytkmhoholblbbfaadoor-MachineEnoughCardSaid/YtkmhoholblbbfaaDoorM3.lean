/- Contracts, part M3. -/
import Derived.Test.YtkmhoholblbbfaaDoorProg
import Derived.Test.YtkmhoholblbbfaaDoorAmLeaf2
import Derived.Test.YtkmhoholblbbfaaDoorM1
set_option maxRecDepth 100000
namespace Go.Proofs.YtkmhoholblbbfaaDoor.M
open Go Go.Proofs.YtkmhoholblbbfaaDoor.AM
/-- harrow/harrowlaw21.MachineEnough -/
abbrev c3_0 : AC := .seq (.ops 0 [⟨(some 6), .as 0 0 (.k (.lf (.bool false))), none⟩] [6]) .ret
abbrev c3_1 : AC := .cond (.t 20) c3_0 .skip
abbrev c3_2 : AC := .seq (.ops 0 [⟨(some 19), .call 4 [], none⟩, ⟨(some 20), .un .not (.t 19), none⟩] [0, 2, 4, 20]) c3_1
abbrev c3_3 : AC := .seq (.ops 0 [⟨(some 36), .fa (.t 8) 0, none⟩, ⟨(some 37), .ld (.t 36) 1 false, none⟩, ⟨(some 38), .bin .eql (.t 37) (.k (.lf (.int .i64 0))), none⟩, ⟨(some 39), .mv (.t 38), none⟩, ⟨(some 40), .fa (.t 8) 2, (some (39, true))⟩, ⟨(some 41), .ld (.t 40) 1 false, (some (39, true))⟩, ⟨(some 42), .len (.t 41), (some (39, true))⟩, ⟨(some 43), .bin .eql (.t 42) (.k (.lf (.int .i64 0))), (some (39, true))⟩, ⟨(some 44), .pk (.t 39) (.t 43) (.k (.lf (.bool false))), none⟩, ⟨(some 6), .as 0 0 (.t 44), none⟩] [6]) .ret
abbrev c3_4 : AC := .cond (.t 35) c3_3 .skip
abbrev c3_5 : AC := .seq (.ops 0 [⟨(some 34), .mv (.t 9), none⟩, ⟨(some 35), .bin .neq (.t 34) (.k (.lf (.int .i64 0))), none⟩] [0, 2, 4, 7, 8, 35]) c3_4
abbrev c3_6 : AC := .seq (.ops 0 [⟨(some 6), .as 0 0 (.k (.lf (.bool false))), none⟩] [6]) .ret
abbrev c3_7 : AC := .cond (.t 108) c3_6 .skip
abbrev c3_8 : AC := .seq (.ops 0 [⟨(some 91), .mv (.t 9), none⟩, ⟨(some 92), .bin .neq (.t 91) (.k (.lf (.int .i64 0))), none⟩, ⟨(some 93), .mv (.t 92), none⟩, ⟨(some 94), .mv (.t 13), (some (93, false))⟩, ⟨(some 95), .bin .neq (.t 94) (.k (.lf (.int .i64 0))), (some (93, false))⟩, ⟨(some 96), .pk (.t 93) (.k (.lf (.bool true))) (.t 95), none⟩, ⟨(some 97), .mv (.t 96), none⟩, ⟨(some 98), .ld (.t 8) 6 true, (some (97, false))⟩, ⟨(some 99), .ld (.t 10) 6 true, (some (97, false))⟩, ⟨(some 100), .call 7 [(.t 98), (.t 99)], (some (97, false))⟩, ⟨(some 101), .un .not (.t 100), (some (97, false))⟩, ⟨(some 102), .pk (.t 97) (.k (.lf (.bool true))) (.t 101), none⟩, ⟨(some 103), .mv (.t 102), none⟩, ⟨(some 104), .ld (.t 8) 6 true, (some (103, false))⟩, ⟨(some 105), .ld (.t 12) 6 true, (some (103, false))⟩, ⟨(some 106), .call 7 [(.t 104), (.t 105)], (some (103, false))⟩, ⟨(some 107), .un .not (.t 106), (some (103, false))⟩, ⟨(some 108), .pk (.t 103) (.k (.lf (.bool true))) (.t 107), none⟩] [0, 4, 11, 108]) c3_7
abbrev c3_9 : AC := .cond (.t 133) .skip (.exit 0)
abbrev c3_10 : AC := .seq (.ops 0 [⟨(some 132), .mv (.t 16), none⟩, ⟨(some 133), .bin .lss (.t 132) (.k (.lf (.int .i64 3))), none⟩] [0, 4, 14, 15, 16, 133]) c3_9
abbrev c3_11 : AC := .cond (.t 154) (.exit 1) .skip
abbrev c3_12 : AC := .seq (.ops 0 [⟨(some 136), .mv (.t 16), none⟩, ⟨(some 137), .iaa (.t 14) (.t 136) 3 3, none⟩, ⟨(some 138), .fa (.t 137) 0, none⟩, ⟨(some 139), .ld (.t 138) 1 false, none⟩, ⟨(some 140), .bin .lss (.t 139) (.k (.lf (.int .i64 0))), none⟩, ⟨(some 141), .mv (.t 140), none⟩, ⟨(some 142), .mv (.t 16), (some (141, false))⟩, ⟨(some 143), .iaa (.t 14) (.t 142) 3 3, (some (141, false))⟩, ⟨(some 144), .fa (.t 143) 1, (some (141, false))⟩, ⟨(some 145), .ld (.t 144) 1 false, (some (141, false))⟩, ⟨(some 146), .bin .lss (.t 145) (.k (.lf (.int .i64 0))), (some (141, false))⟩, ⟨(some 147), .pk (.t 141) (.k (.lf (.bool true))) (.t 146), none⟩, ⟨(some 148), .mv (.t 147), none⟩, ⟨(some 149), .mv (.t 16), (some (148, false))⟩, ⟨(some 150), .iaa (.t 14) (.t 149) 3 3, (some (148, false))⟩, ⟨(some 151), .fa (.t 150) 2, (some (148, false))⟩, ⟨(some 152), .ld (.t 151) 1 false, (some (148, false))⟩, ⟨(some 153), .bin .lss (.t 152) (.k (.lf (.int .i64 0))), (some (148, false))⟩, ⟨(some 154), .pk (.t 148) (.k (.lf (.bool true))) (.t 153), none⟩] [0, 4, 14, 15, 16, 154]) c3_11
abbrev c3_13 : AC := .seq (.ops 0 [⟨(some 6), .as 0 0 (.k (.lf (.bool false))), none⟩] [6]) .ret
abbrev c3_14 : AC := .cond (.t 171) c3_13 .skip
abbrev c3_15 : AC := .seq (.ops 0 [⟨(some 167), .mv (.t 18), none⟩, ⟨(some 168), .mv (.t 16), none⟩, ⟨(some 169), .iaa (.t 15) (.t 168) 3 1, none⟩, ⟨(some 170), .ld (.t 169) 1 false, none⟩, ⟨(some 171), .bin .neq (.t 167) (.t 170), none⟩] [0, 4, 14, 15, 16, 171]) c3_14
abbrev c3_16 : AC := .seq (.gd2 [0, 4, 4, 16, 14] [⟨(some 156), .mv (.t 0), none⟩, ⟨(some 157), .fa (.t 4) 0, none⟩, ⟨(some 158), .ld (.t 157) 1 false, none⟩, ⟨(some 159), .fa (.t 4) 1, none⟩, ⟨(some 160), .ld (.t 159) 1 false, none⟩, ⟨(some 161), .mv (.t 16), none⟩, ⟨(some 162), .iaa (.t 14) (.t 161) 3 3, none⟩, ⟨(some 163), .ld (.t 162) 3 true, none⟩] [⟨(some 164), .call 6 [(.t 156), (.t 158), (.t 160), (.t 163)], none⟩, ⟨(some 155), .mv (.t 164), none⟩, ⟨(some 165), .ext (.t 155) 0, none⟩, ⟨(some 166), .ext (.t 155) 1, none⟩, ⟨(some 17), .al [.int .i64 0, .int .i64 0, .lst (.own 2181 63) 6 [] [], .int .i64 0, .int .i64 0, .int .i64 0], none⟩, ⟨none, .st (.t 17) (.t 165) 6, none⟩, ⟨(some 18), .as 0 0 (.t 166), none⟩] [⟨(some 17), .al [.int .i64 0, .int .i64 0, .lst (.own 2181 63) 6 [] [], .int .i64 0, .int .i64 0, .int .i64 0], none⟩, ⟨(some 164), .call 6 [(.t 156), (.t 158), (.t 160), (.t 163)], none⟩, ⟨(some 155), .mv (.t 164), none⟩, ⟨(some 165), .ext (.t 155) 0, none⟩, ⟨(some 166), .ext (.t 155) 1, none⟩, ⟨none, .st (.t 17) (.t 165) 6, none⟩, ⟨(some 18), .as 0 0 (.t 166), none⟩] [0, 4, 14, 15, 16, 18]) c3_15
abbrev c3_17 : AC := .seq c3_12 c3_16
abbrev c3_18 : AC := .block 1 c3_17
abbrev c3_19 : AC := .seq c3_18 (.ops 0 [⟨(some 134), .mv (.t 16), none⟩, ⟨(some 135), .bin .add (.t 134) (.k (.lf (.int .i64 1))), none⟩, ⟨(some 16), .as 0 0 (.t 135), none⟩] [0, 4, 14, 15, 16])
abbrev c3_20 : AC := .seq c3_10 c3_19
abbrev c3_21 : AC := .loop c3_20 [0, 4, 14, 15, 16]
abbrev c3_22 : AC := .block 0 c3_21
abbrev c3_23 : AC := .seq (.ops 0 [⟨(some 16), .as 0 0 (.k (.lf (.int .i64 0))), none⟩] [0, 4, 14, 15, 16]) c3_22
abbrev c3_24 : AC := .seq (.ops 0 [⟨(some 6), .as 0 0 (.k (.lf (.bool true))), none⟩] [6]) .ret
abbrev c3_25 : AC := .seq c3_23 c3_24
abbrev c3_26 : AC := .seq (.ops 0 [⟨(some 131), .bd [.int .i64 0, .int .i64 0, .int .i64 0] [(0, 1, (.k (.lf (.int .i64 210)))), (1, 1, (.k (.lf (.int .i64 211)))), (2, 1, (.k (.lf (.int .i64 212))))], none⟩, ⟨(some 15), .al [.int .i64 0, .int .i64 0, .int .i64 0], none⟩, ⟨none, .st (.t 15) (.t 131) 3, none⟩] [0, 4, 14, 15]) c3_25
abbrev c3_27 : AC := .seq (.ops 0 [⟨(some 125), .iaa (.t 14) (.k (.lf (.int .i64 2))) 3 3, none⟩, ⟨(some 126), .fa (.t 125) 2, none⟩, ⟨(some 127), .ld (.t 126) 1 false, none⟩, ⟨(some 128), .bin .sub (.t 127) (.k (.lf (.int .i64 1))), none⟩, ⟨(some 129), .iaa (.t 14) (.k (.lf (.int .i64 2))) 3 3, none⟩, ⟨(some 130), .fa (.t 129) 2, none⟩, ⟨none, .st (.t 130) (.t 128) 1, none⟩] [0, 4, 14]) c3_26
abbrev c3_28 : AC := .seq (.ops 0 [⟨(some 119), .iaa (.t 14) (.k (.lf (.int .i64 1))) 3 3, none⟩, ⟨(some 120), .fa (.t 119) 1, none⟩, ⟨(some 121), .ld (.t 120) 1 false, none⟩, ⟨(some 122), .bin .sub (.t 121) (.k (.lf (.int .i64 1))), none⟩, ⟨(some 123), .iaa (.t 14) (.k (.lf (.int .i64 1))) 3 3, none⟩, ⟨(some 124), .fa (.t 123) 1, none⟩, ⟨none, .st (.t 124) (.t 122) 1, none⟩] [0, 4, 14]) c3_27
abbrev c3_29 : AC := .seq (.ops 0 [⟨(some 113), .iaa (.t 14) (.k (.lf (.int .i64 0))) 3 3, none⟩, ⟨(some 114), .fa (.t 113) 0, none⟩, ⟨(some 115), .ld (.t 114) 1 false, none⟩, ⟨(some 116), .bin .sub (.t 115) (.k (.lf (.int .i64 1))), none⟩, ⟨(some 117), .iaa (.t 14) (.k (.lf (.int .i64 0))) 3 3, none⟩, ⟨(some 118), .fa (.t 117) 0, none⟩, ⟨none, .st (.t 118) (.t 116) 1, none⟩] [0, 4, 14]) c3_28
abbrev c3_30 : AC := .seq (.ops 0 [⟨(some 109), .ld (.t 11) 3 true, none⟩, ⟨(some 110), .ld (.t 11) 3 true, none⟩, ⟨(some 111), .ld (.t 11) 3 true, none⟩, ⟨(some 112), .bd [.int .i64 0, .int .i64 0, .int .i64 0, .int .i64 0, .int .i64 0, .int .i64 0, .int .i64 0, .int .i64 0, .int .i64 0] [(0, 3, (.t 109)), (3, 3, (.t 110)), (6, 3, (.t 111))], none⟩, ⟨(some 14), .al [.int .i64 0, .int .i64 0, .int .i64 0, .int .i64 0, .int .i64 0, .int .i64 0, .int .i64 0, .int .i64 0, .int .i64 0], none⟩, ⟨none, .st (.t 14) (.t 112) 9, none⟩] [0, 4, 14]) c3_29
abbrev c3_31 : AC := .seq c3_8 c3_30
abbrev c3_32 : AC := .seq (.ops 0 [⟨(some 82), .mv (.t 0), none⟩, ⟨(some 83), .fa (.t 4) 0, none⟩, ⟨(some 84), .ld (.t 83) 1 false, none⟩, ⟨(some 85), .fa (.t 4) 1, none⟩, ⟨(some 86), .ld (.t 85) 1 false, none⟩, ⟨(some 87), .ld (.t 11) 3 true, none⟩, ⟨(some 88), .call 6 [(.t 82), (.t 84), (.t 86), (.t 87)], none⟩, ⟨(some 81), .mv (.t 88), none⟩, ⟨(some 89), .ext (.t 81) 0, none⟩, ⟨(some 90), .ext (.t 81) 1, none⟩, ⟨(some 12), .al [.int .i64 0, .int .i64 0, .lst (.own 1541 63) 6 [] [], .int .i64 0, .int .i64 0, .int .i64 0], none⟩, ⟨none, .st (.t 12) (.t 89) 6, none⟩, ⟨(some 13), .as 0 0 (.t 90), none⟩] [0, 4, 8, 9, 10, 11, 12, 13]) c3_31
abbrev c3_33 : AC := .seq (.ops 0 [⟨(some 74), .fa (.t 8) 4, none⟩, ⟨(some 75), .ld (.t 74) 1 false, none⟩, ⟨(some 76), .fa (.t 8) 5, none⟩, ⟨(some 77), .ld (.t 76) 1 false, none⟩, ⟨(some 78), .fa (.t 8) 3, none⟩, ⟨(some 79), .ld (.t 78) 1 false, none⟩, ⟨(some 80), .bd [.int .i64 0, .int .i64 0, .int .i64 0] [(0, 1, (.t 75)), (1, 1, (.t 77)), (2, 1, (.t 79))], none⟩, ⟨(some 11), .al [.int .i64 0, .int .i64 0, .int .i64 0], none⟩, ⟨none, .st (.t 11) (.t 80) 3, none⟩] [0, 4, 8, 9, 10, 11]) c3_32
abbrev c3_34 : AC := .seq (.ops 0 [⟨(some 50), .mv (.t 0), none⟩, ⟨(some 51), .fa (.t 4) 0, none⟩, ⟨(some 52), .ld (.t 51) 1 false, none⟩, ⟨(some 53), .fa (.t 4) 1, none⟩, ⟨(some 54), .ld (.t 53) 1 false, none⟩, ⟨(some 55), .fa (.t 7) 0, none⟩, ⟨(some 56), .ld (.t 55) 1 false, none⟩, ⟨(some 57), .mv (.t 2), none⟩, ⟨(some 58), .bin .add (.t 56) (.t 57), none⟩, ⟨(some 59), .mm false (.t 58) (.k (.lf (.int .i64 1048576))), none⟩, ⟨(some 60), .fa (.t 7) 1, none⟩, ⟨(some 61), .ld (.t 60) 1 false, none⟩, ⟨(some 62), .mv (.t 2), none⟩, ⟨(some 63), .bin .quo (.t 62) (.k (.lf (.int .i64 2))), none⟩, ⟨(some 64), .bin .add (.t 61) (.t 63), none⟩, ⟨(some 65), .mm false (.t 64) (.k (.lf (.int .i64 1048576))), none⟩, ⟨(some 66), .fa (.t 7) 2, none⟩, ⟨(some 67), .ld (.t 66) 1 false, none⟩, ⟨(some 68), .mv (.t 2), none⟩, ⟨(some 69), .bin .add (.t 67) (.t 68), none⟩, ⟨(some 70), .bd [.int .i64 0, .int .i64 0, .int .i64 0] [(0, 1, (.t 59)), (1, 1, (.t 65)), (2, 1, (.t 69))], none⟩, ⟨(some 71), .call 6 [(.t 50), (.t 52), (.t 54), (.t 70)], none⟩, ⟨(some 49), .mv (.t 71), none⟩, ⟨(some 72), .ext (.t 49) 0, none⟩, ⟨(some 73), .ext (.t 49) 1, none⟩, ⟨(some 10), .al [.int .i64 0, .int .i64 0, .lst (.own 1285 63) 6 [] [], .int .i64 0, .int .i64 0, .int .i64 0], none⟩, ⟨none, .st (.t 10) (.t 72) 6, none⟩, ⟨(some 9), .as 0 0 (.t 73), none⟩] [0, 4, 8, 9, 10]) c3_33
abbrev c3_35 : AC := .seq (.ops 0 [⟨(some 45), .mv (.t 2), none⟩, ⟨(some 46), .cvi .u64 (.t 45), none⟩, ⟨(some 47), .bin .rem (.t 46) (.k (.lf (.int .u64 1000))), none⟩, ⟨(some 48), .cvi .i64 (.t 47), none⟩, ⟨(some 2), .as 0 0 (.t 48), none⟩] [0, 2, 4, 7, 8]) c3_34
abbrev c3_36 : AC := .seq c3_5 c3_35
abbrev c3_37 : AC := .seq (.ops 0 [⟨(some 25), .mv (.t 0), none⟩, ⟨(some 26), .fa (.t 4) 0, none⟩, ⟨(some 27), .ld (.t 26) 1 false, none⟩, ⟨(some 28), .fa (.t 4) 1, none⟩, ⟨(some 29), .ld (.t 28) 1 false, none⟩, ⟨(some 30), .ld (.t 7) 3 true, none⟩, ⟨(some 31), .call 6 [(.t 25), (.t 27), (.t 29), (.t 30)], none⟩, ⟨(some 24), .mv (.t 31), none⟩, ⟨(some 32), .ext (.t 24) 0, none⟩, ⟨(some 33), .ext (.t 24) 1, none⟩, ⟨(some 8), .al [.int .i64 0, .int .i64 0, .lst (.own 1029 63) 6 [] [], .int .i64 0, .int .i64 0, .int .i64 0], none⟩, ⟨none, .st (.t 8) (.t 32) 6, none⟩, ⟨(some 9), .as 0 0 (.t 33), none⟩] [0, 2, 4, 7, 8, 9]) c3_36
abbrev c3_38 : AC := .seq (.ops 0 [⟨(some 21), .fa (.t 4) 2, none⟩, ⟨(some 22), .ld (.t 21) 3 true, none⟩, ⟨(some 23), .call 5 [(.t 22)], none⟩, ⟨(some 7), .al [.int .i64 0, .int .i64 0, .int .i64 0], none⟩, ⟨none, .st (.t 7) (.t 23) 3, none⟩] [0, 2, 4, 7]) c3_37
abbrev c3_39 : AC := .seq c3_2 c3_38
abbrev c3_40 : AC := .seq (.ops 0 [⟨(some 4), .bx (.t 1), none⟩, ⟨(some 6), .as 0 0 (.k (.lf (.bool false))), none⟩] [0, 2, 4]) c3_39
abbrev c3 : AC := c3_40
theorem c3_ok : compileFn Tryd.prog 3 = some (172, AC.strip c3, [.t 6]) := by kernel_rfl
/-- harrow/harrowlaw21.works -/
abbrev c4_0 : AC := .seq (.ops 0 [⟨(some 25), .mv (.t 3), none⟩, ⟨(some 26), .bin .eql (.t 25) (.k (.lf (.int .i64 0))), none⟩, ⟨(some 27), .mv (.t 26), none⟩, ⟨(some 28), .fa (.t 2) 0, (some (27, true))⟩, ⟨(some 29), .ld (.t 28) 1 false, (some (27, true))⟩, ⟨(some 30), .bin .eql (.t 29) (.k (.lf (.int .i64 1))), (some (27, true))⟩, ⟨(some 31), .pk (.t 27) (.t 30) (.k (.lf (.bool false))), none⟩, ⟨(some 32), .mv (.t 31), none⟩, ⟨(some 33), .fa (.t 2) 1, (some (32, true))⟩, ⟨(some 34), .ld (.t 33) 1 false, (some (32, true))⟩, ⟨(some 35), .bin .eql (.t 34) (.k (.lf (.int .i64 2))), (some (32, true))⟩, ⟨(some 36), .pk (.t 32) (.t 35) (.k (.lf (.bool false))), none⟩, ⟨(some 37), .mv (.t 36), none⟩, ⟨(some 38), .fa (.t 2) 3, (some (37, true))⟩, ⟨(some 39), .ld (.t 38) 1 false, (some (37, true))⟩, ⟨(some 40), .bin .eql (.t 39) (.k (.lf (.int .i64 11))), (some (37, true))⟩, ⟨(some 41), .pk (.t 37) (.t 40) (.k (.lf (.bool false))), none⟩, ⟨(some 42), .mv (.t 41), none⟩, ⟨(some 43), .fa (.t 2) 4, (some (42, true))⟩, ⟨(some 44), .ld (.t 43) 1 false, (some (42, true))⟩, ⟨(some 45), .bin .eql (.t 44) (.k (.lf (.int .i64 2))), (some (42, true))⟩, ⟨(some 46), .pk (.t 42) (.t 45) (.k (.lf (.bool false))), none⟩, ⟨(some 47), .mv (.t 46), none⟩, ⟨(some 48), .mv (.t 5), (some (47, true))⟩, ⟨(some 49), .bin .eql (.t 48) (.k (.lf (.int .i64 210))), (some (47, true))⟩, ⟨(some 50), .pk (.t 47) (.t 49) (.k (.lf (.bool false))), none⟩, ⟨(some 0), .as 0 0 (.t 50), none⟩] [0]) .ret
abbrev c4_1 : AC := .seq (.ops 0 [⟨(some 20), .mv (.t 1), none⟩, ⟨(some 21), .bd [.int .i64 0, .int .i64 0, .int .i64 0] [(0, 1, (.k (.lf (.int .i64 1)))), (2, 1, (.k (.lf (.int .i64 11))))], none⟩, ⟨(some 22), .call 6 [(.t 20), (.k (.lf (.str ⟨#[97, 97, 98]⟩))), (.k (.lf (.int .i64 0))), (.t 21)], none⟩, ⟨(some 19), .mv (.t 22), none⟩, ⟨(some 23), .ext (.t 19) 0, none⟩, ⟨(some 24), .ext (.t 19) 1, none⟩, ⟨(some 4), .al [.int .i64 0, .int .i64 0, .lst (.own 517 63) 6 [] [], .int .i64 0, .int .i64 0, .int .i64 0], none⟩, ⟨none, .st (.t 4) (.t 23) 6, none⟩, ⟨(some 5), .as 0 0 (.t 24), none⟩] [2, 3, 5]) c4_0
abbrev c4_2 : AC := .seq (.ops 0 [⟨(some 14), .mv (.t 1), none⟩, ⟨(some 15), .bd [.int .i64 0, .int .i64 0, .int .i64 0] [(0, 1, (.k (.lf (.int .i64 2)))), (2, 1, (.k (.lf (.int .i64 11))))], none⟩, ⟨(some 16), .call 6 [(.t 14), (.k (.lf (.str ⟨#[97, 97, 98]⟩))), (.k (.lf (.int .i64 0))), (.t 15)], none⟩, ⟨(some 13), .mv (.t 16), none⟩, ⟨(some 17), .ext (.t 13) 0, none⟩, ⟨(some 18), .ext (.t 13) 1, none⟩, ⟨(some 2), .al [.int .i64 0, .int .i64 0, .lst (.own 261 63) 6 [] [], .int .i64 0, .int .i64 0, .int .i64 0], none⟩, ⟨none, .st (.t 2) (.t 17) 6, none⟩, ⟨(some 3), .as 0 0 (.t 18), none⟩] [1, 2, 3]) c4_1
abbrev c4_3 : AC := .seq (.ops 0 [⟨(some 6), .bd [.int .i64 0, .int .i64 0, .int .i64 0, .int .i64 0, .str ⟨#[]⟩, .int .u64 0, .int .u64 0, .int .u64 0, .int .u64 0] [(0, 1, (.k (.lf (.int .i64 15)))), (1, 1, (.k (.lf (.int .i64 2))))], none⟩, ⟨(some 7), .bd [.int .i64 0, .int .i64 0, .int .i64 0, .int .i64 0, .str ⟨#[]⟩, .int .u64 0, .int .u64 0, .int .u64 0, .int .u64 0] [(0, 1, (.k (.lf (.int .i64 17))))], none⟩, ⟨(some 8), .bd [.int .i64 0, .int .i64 0, .int .i64 0, .int .i64 0, .str ⟨#[]⟩, .int .u64 0, .int .u64 0, .int .u64 0, .int .u64 0] [(0, 1, (.k (.lf (.int .i64 8)))), (1, 1, (.k (.lf (.int .i64 3))))], none⟩, ⟨(some 9), .bd [.int .i64 0, .int .i64 0, .int .i64 0, .int .i64 0, .str ⟨#[]⟩, .int .u64 0, .int .u64 0, .int .u64 0, .int .u64 0] [(0, 1, (.k (.lf (.int .i64 2)))), (2, 1, (.k (.lf (.int .i64 97))))], none⟩, ⟨(some 10), .bd [.int .i64 0, .int .i64 0, .int .i64 0, .int .i64 0, .str ⟨#[]⟩, .int .u64 0, .int .u64 0, .int .u64 0, .int .u64 0] [(0, 1, (.k (.lf (.int .i64 9)))), (1, 1, (.k (.lf (.int .i64 (-2)))))], none⟩, ⟨(some 11), .bd [.int .i64 0, .int .i64 0, .int .i64 0, .int .i64 0, .str ⟨#[]⟩, .int .u64 0, .int .u64 0, .int .u64 0, .int .u64 0] [(0, 1, (.k (.lf (.int .i64 16))))], none⟩, ⟨(some 12), .bs 43 9 6 [.int .i64 0, .int .i64 0, .int .i64 0, .int .i64 0, .str ⟨#[]⟩, .int .u64 0, .int .u64 0, .int .u64 0, .int .u64 0] [(0, (.t 6)), (1, (.t 7)), (2, (.t 8)), (3, (.t 9)), (4, (.t 10)), (5, (.t 11))], none⟩, ⟨(some 1), .as 43 9 (.t 12), none⟩] [1]) c4_2
abbrev c4_4 : AC := .seq (.ops 0 [⟨(some 0), .as 0 0 (.k (.lf (.bool false))), none⟩] []) c4_3
abbrev c4 : AC := c4_4
theorem c4_ok : compileFn Tryd.prog 4 = some (51, AC.strip c4, [.t 0]) := by kernel_rfl
/-- harrow/harrowlaw21.cost -/
abbrev c5_0 : AC := .cond (.t 10) (.ops 0 [⟨(some 11), .fa (.t 1) 2, none⟩, ⟨none, .st (.t 11) (.k (.lf (.int .i64 5000))) 1, none⟩] [1, 2]) .skip
abbrev c5_1 : AC := .seq (.ops 0 [⟨(some 3), .fa (.t 1) 2, none⟩, ⟨(some 4), .ld (.t 3) 1 false, none⟩, ⟨(some 5), .bin .gtr (.t 4) (.k (.lf (.int .i64 5000))), none⟩, ⟨(some 6), .mv (.t 5), none⟩, ⟨(some 7), .fa (.t 1) 2, (some (6, true))⟩, ⟨(some 8), .ld (.t 7) 1 false, (some (6, true))⟩, ⟨(some 9), .bin .leq (.t 8) (.k (.lf (.int .i64 1073741824))), (some (6, true))⟩, ⟨(some 10), .pk (.t 6) (.t 9) (.k (.lf (.bool false))), none⟩] [1, 2, 10]) c5_0
abbrev c5_2 : AC := .seq (.ops 0 [⟨(some 12), .ld (.t 1) 3 true, none⟩, ⟨none, .st (.t 2) (.t 12) 3, none⟩] [2]) .ret
abbrev c5_3 : AC := .seq c5_1 c5_2
abbrev c5_4 : AC := .seq (.ops 0 [⟨(some 1), .bx (.t 0), none⟩, ⟨(some 2), .al [.int .i64 0, .int .i64 0, .int .i64 0], none⟩] [1, 2]) c5_3
abbrev c5 : AC := c5_4
theorem c5_ok : compileFn Tryd.prog 5 = some (13, AC.strip c5, [.c 2 3 true]) := by kernel_rfl
/-- harrow/machine.Run -/
abbrev c6_0 : AC := .seq (.ops 0 [⟨(some 22), .bd [.int .i64 0, .int .i64 0, .lst .nl 6 [] [], .int .i64 0, .int .i64 0, .int .i64 0] [], none⟩, ⟨(some 23), .mv (.t 11), none⟩, ⟨none, .st (.t 8) (.t 22) 6, none⟩, ⟨(some 9), .as 0 0 (.t 23), none⟩] [8, 9]) .ret
abbrev c6_1 : AC := .cond (.t 21) c6_0 .skip
abbrev c6_2 : AC := .seq (.ops 0 [⟨(some 20), .mv (.t 11), none⟩, ⟨(some 21), .bin .neq (.t 20) (.k (.lf (.int .i64 0))), none⟩] [0, 1, 2, 7, 8, 11, 21]) c6_1
abbrev c6_3 : AC := .seq (.ops 0 [⟨(some 16), .mv (.t 0), none⟩, ⟨(some 17), .call 8 [(.t 16)], none⟩, ⟨(some 15), .mv (.t 17), none⟩, ⟨(some 18), .ext (.t 15) 0, none⟩, ⟨(some 19), .ext (.t 15) 1, none⟩, ⟨(some 10), .as 0 0 (.t 18), none⟩, ⟨(some 11), .as 0 0 (.t 19), none⟩] [0, 1, 2, 7, 8, 11]) c6_2
abbrev c6_4 : AC := .seq (.ops 0 [⟨(some 27), .bd [.int .i64 0, .int .i64 0, .lst .nl 6 [] [], .int .i64 0, .int .i64 0, .int .i64 0] [], none⟩, ⟨none, .st (.t 8) (.t 27) 6, none⟩, ⟨(some 9), .as 0 0 (.k (.lf (.int .i64 2))), none⟩] [8, 9]) .ret
abbrev c6_5 : AC := .cond (.t 26) c6_4 .skip
abbrev c6_6 : AC := .seq (.ops 0 [⟨(some 24), .mv (.t 1), none⟩, ⟨(some 25), .lns (.t 24), none⟩, ⟨(some 26), .bin .gtr (.t 25) (.k (.lf (.int .i64 65536))), none⟩] [0, 1, 2, 7, 8, 26]) c6_5
abbrev c6_7 : AC := .seq (.ops 0 [⟨(some 66), .bd [.int .i64 0, .int .i64 0, .lst .nl 6 [] [], .int .i64 0, .int .i64 0, .int .i64 0] [], none⟩, ⟨none, .st (.t 8) (.t 66) 6, none⟩, ⟨(some 9), .as 0 0 (.k (.lf (.int .i64 1))), none⟩] [8, 9]) .ret
abbrev c6_8 : AC := .cond (.t 65) c6_7 .skip
abbrev c6_9 : AC := .seq (.ops 0 [⟨(some 28), .mv (.t 2), none⟩, ⟨(some 29), .bin .lss (.t 28) (.k (.lf (.int .i64 0))), none⟩, ⟨(some 30), .mv (.t 29), none⟩, ⟨(some 31), .mv (.t 2), (some (30, false))⟩, ⟨(some 32), .mv (.t 1), (some (30, false))⟩, ⟨(some 33), .lns (.t 32), (some (30, false))⟩, ⟨(some 34), .bin .gtr (.t 31) (.t 33), (some (30, false))⟩, ⟨(some 35), .pk (.t 30) (.k (.lf (.bool true))) (.t 34), none⟩, ⟨(some 36), .mv (.t 35), none⟩, ⟨(some 37), .fa (.t 7) 0, (some (36, false))⟩, ⟨(some 38), .ld (.t 37) 1 false, (some (36, false))⟩, ⟨(some 39), .bin .lss (.t 38) (.k (.lf (.int .i64 0))), (some (36, false))⟩, ⟨(some 40), .pk (.t 36) (.k (.lf (.bool true))) (.t 39), none⟩, ⟨(some 41), .mv (.t 40), none⟩, ⟨(some 42), .fa (.t 7) 0, (some (41, false))⟩, ⟨(some 43), .ld (.t 42) 1 false, (some (41, false))⟩, ⟨(some 44), .bin .gtr (.t 43) (.k (.lf (.int .i64 1048576))), (some (41, false))⟩, ⟨(some 45), .pk (.t 41) (.k (.lf (.bool true))) (.t 44), none⟩, ⟨(some 46), .mv (.t 45), none⟩, ⟨(some 47), .fa (.t 7) 1, (some (46, false))⟩, ⟨(some 48), .ld (.t 47) 1 false, (some (46, false))⟩, ⟨(some 49), .bin .lss (.t 48) (.k (.lf (.int .i64 0))), (some (46, false))⟩, ⟨(some 50), .pk (.t 46) (.k (.lf (.bool true))) (.t 49), none⟩, ⟨(some 51), .mv (.t 50), none⟩, ⟨(some 52), .fa (.t 7) 1, (some (51, false))⟩, ⟨(some 53), .ld (.t 52) 1 false, (some (51, false))⟩, ⟨(some 54), .bin .gtr (.t 53) (.k (.lf (.int .i64 1048576))), (some (51, false))⟩, ⟨(some 55), .pk (.t 51) (.k (.lf (.bool true))) (.t 54), none⟩, ⟨(some 56), .mv (.t 55), none⟩, ⟨(some 57), .fa (.t 7) 2, (some (56, false))⟩, ⟨(some 58), .ld (.t 57) 1 false, (some (56, false))⟩, ⟨(some 59), .bin .lss (.t 58) (.k (.lf (.int .i64 0))), (some (56, false))⟩, ⟨(some 60), .pk (.t 56) (.k (.lf (.bool true))) (.t 59), none⟩, ⟨(some 61), .mv (.t 60), none⟩, ⟨(some 62), .fa (.t 7) 2, (some (61, false))⟩, ⟨(some 63), .ld (.t 62) 1 false, (some (61, false))⟩, ⟨(some 64), .bin .gtr (.t 63) (.k (.lf (.int .i64 1073741824))), (some (61, false))⟩, ⟨(some 65), .pk (.t 61) (.k (.lf (.bool true))) (.t 64), none⟩] [0, 1, 2, 7, 8, 65]) c6_8
abbrev c6_10 : AC := .cond (.t 79) .skip (.exit 0)
abbrev c6_11 : AC := .seq (.ops 0 [⟨(some 74), .mv (.t 12), none⟩, ⟨(some 75), .nc (.t 74), none⟩, ⟨(some 76), .fa (.t 75) 9, none⟩, ⟨(some 77), .fa (.t 76) 0, none⟩, ⟨(some 78), .ld (.t 77) 1 false, none⟩, ⟨(some 79), .bin .eql (.t 78) (.k (.lf (.int .i64 0))), none⟩] [0, 7, 8, 12, 13, 79]) c6_10
abbrev c6_12 : AC := .seq (.ops 0 [⟨(some 88), .bd [.int .i64 0, .int .i64 0, .lst .nl 6 [] [], .int .i64 0, .int .i64 0, .int .i64 0] [], none⟩, ⟨none, .st (.t 8) (.t 88) 6, none⟩, ⟨(some 9), .as 0 0 (.k (.lf (.int .i64 212))), none⟩] [8, 9]) .ret
abbrev c6_13 : AC := .cond (.t 87) c6_12 .skip
abbrev c6_14 : AC := .seq (.ops 2 [⟨(some 80), .mv (.t 12), none⟩, ⟨(some 81), .nc (.t 80), none⟩, ⟨(some 82), .fa (.t 81) 9, none⟩, ⟨(some 83), .fa (.t 82) 3, none⟩, ⟨(some 84), .ld (.t 83) 1 false, none⟩, ⟨(some 85), .fa (.t 7) 2, none⟩, ⟨(some 86), .ld (.t 85) 1 false, none⟩, ⟨(some 87), .bin .geq (.t 84) (.t 86), none⟩] [0, 7, 8, 12, 13, 87]) c6_13
abbrev c6_15 : AC := .seq (.gdr [12] [⟨(some 119), .mv (.t 12), none⟩, ⟨(some 120), .nc (.t 119), none⟩, ⟨(some 121), .fa (.t 120) 15, none⟩, ⟨(some 122), .ld (.t 121) 1 false, none⟩] [⟨(some 118), .bd [.int .i64 0, .int .i64 0, .lst .nl 6 [] [], .int .i64 0, .int .i64 0, .int .i64 0] [], none⟩, ⟨none, .st (.t 8) (.t 118) 6, none⟩, ⟨(some 9), .as 0 0 (.t 122), none⟩] [8, 9]) .ret
abbrev c6_16 : AC := .cond (.t 117) c6_15 .skip
abbrev c6_17 : AC := .seq (.ops 0 [⟨(some 113), .mv (.t 12), none⟩, ⟨(some 114), .nc (.t 113), none⟩, ⟨(some 115), .fa (.t 114) 15, none⟩, ⟨(some 116), .ld (.t 115) 1 false, none⟩, ⟨(some 117), .bin .neq (.t 116) (.k (.lf (.int .i64 0))), none⟩] [0, 7, 8, 12, 13, 117]) c6_16
abbrev c6_18 : AC := .seq (.reg [⟨(some 105), .mv (.t 13), none⟩, ⟨(some 106), .fa (.t 14) 0, none⟩, ⟨(some 107), .ld (.t 106) 1 false, none⟩, ⟨(some 108), .ia (.t 105) (.t 107) 1, none⟩, ⟨(some 109), .ld (.t 108) 1 false, none⟩, ⟨(some 110), .mv (.t 12), none⟩, ⟨(some 111), .ld (.t 14) 9 true, none⟩] [⟨(some 112), .cald (.t 109) [(.t 110), (.t 111)], none⟩] [0, 7, 8, 12, 13]) c6_17
abbrev c6_19 : AC := .seq (.ops 0 [⟨(some 98), .mv (.t 0), none⟩, ⟨(some 99), .mv (.t 12), none⟩, ⟨(some 100), .nc (.t 99), none⟩, ⟨(some 101), .fa (.t 100) 5, none⟩, ⟨(some 102), .ld (.t 101) 1 false, none⟩, ⟨(some 103), .ia (.t 98) (.t 102) 9, none⟩, ⟨(some 104), .ld (.t 103) 9 true, none⟩, ⟨(some 14), .al [.int .i64 0, .int .i64 0, .int .i64 0, .int .i64 0, .str ⟨#[]⟩, .int .u64 0, .int .u64 0, .int .u64 0, .int .u64 0], none⟩, ⟨none, .st (.t 14) (.t 104) 9, none⟩] [0, 7, 8, 12, 13, 14]) c6_18
abbrev c6_20 : AC := .seq (.ops 0 [⟨(some 89), .mv (.t 12), none⟩, ⟨(some 90), .nc (.t 89), none⟩, ⟨(some 91), .fa (.t 90) 9, none⟩, ⟨(some 92), .fa (.t 91) 3, none⟩, ⟨(some 93), .ld (.t 92) 1 false, none⟩, ⟨(some 94), .bin .add (.t 93) (.k (.lf (.int .i64 1))), none⟩, ⟨(some 95), .nc (.t 89), none⟩, ⟨(some 96), .fa (.t 95) 9, none⟩, ⟨(some 97), .fa (.t 96) 3, none⟩, ⟨none, .st (.t 97) (.t 94) 1, none⟩] [0, 7, 8, 12, 13]) c6_19
abbrev c6_21 : AC := .seq c6_14 c6_20
abbrev c6_22 : AC := .block 1 c6_21
abbrev c6_23 : AC := .seq c6_11 c6_22
abbrev c6_24 : AC := .loop c6_23 [0, 7, 8, 12, 13]
abbrev c6_25 : AC := .block 0 c6_24
abbrev c6_26 : AC := .seq (.ops 0 [⟨(some 129), .mv (.t 12), none⟩, ⟨(some 130), .mv (.t 12), none⟩, ⟨(some 131), .nc (.t 130), none⟩, ⟨(some 132), .fa (.t 131) 6, none⟩, ⟨(some 133), .ld (.t 132) 1 false, none⟩, ⟨(some 134), .nc (.t 129), none⟩, ⟨(some 135), .fa (.t 134) 9, none⟩, ⟨(some 136), .fa (.t 135) 1, none⟩, ⟨none, .st (.t 136) (.t 133) 1, none⟩] [8, 12]) (.ops 0 [⟨(some 137), .mv (.t 12), none⟩, ⟨(some 138), .bs 63 6 0 [.int .i64 0, .int .i64 0, .int .i64 0, .int .i64 0, .int .i64 0, .str ⟨#[]⟩] [], none⟩, ⟨(some 139), .mv (.t 12), none⟩, ⟨(some 140), .nc (.t 139), none⟩, ⟨(some 141), .fa (.t 140) 8, none⟩, ⟨(some 142), .ld (.t 141) 1 false, none⟩, ⟨(some 143), .app 63 6 56 (.t 138) (.t 142), none⟩, ⟨(some 144), .nc (.t 137), none⟩, ⟨(some 145), .fa (.t 144) 9, none⟩, ⟨(some 146), .fa (.t 145) 2, none⟩, ⟨none, .st (.t 146) (.t 143) 1, none⟩] [8, 12])
abbrev c6_27 : AC := .cond (.t 128) c6_26 .skip
abbrev c6_28 : AC := .seq (.ops 0 [⟨(some 123), .mv (.t 12), none⟩, ⟨(some 124), .nc (.t 123), none⟩, ⟨(some 125), .fa (.t 124) 9, none⟩, ⟨(some 126), .fa (.t 125) 0, none⟩, ⟨(some 127), .ld (.t 126) 1 false, none⟩, ⟨(some 128), .bin .eql (.t 127) (.k (.lf (.int .i64 1))), none⟩] [8, 12, 128]) c6_27
abbrev c6_29 : AC := .seq (.ops 0 [⟨(some 147), .mv (.t 12), none⟩, ⟨(some 148), .nc (.t 147), none⟩, ⟨(some 149), .fa (.t 148) 9, none⟩, ⟨(some 150), .ld (.t 149) 6 true, none⟩, ⟨none, .st (.t 8) (.t 150) 6, none⟩, ⟨(some 9), .as 0 0 (.k (.lf (.int .i64 0))), none⟩] [8, 9]) .ret
abbrev c6_30 : AC := .seq c6_28 c6_29
abbrev c6_31 : AC := .seq c6_25 c6_30
abbrev c6_32 : AC := .seq (.ops 0 [⟨(some 73), .call 9 [], none⟩, ⟨(some 13), .as 52 1 (.t 73), none⟩] [0, 7, 8, 12, 13]) c6_31
abbrev c6_33 : AC := .seq (.ops 0 [⟨(some 67), .mv (.t 0), none⟩, ⟨(some 68), .mv (.t 1), none⟩, ⟨(some 69), .ld (.t 7) 3 true, none⟩, ⟨(some 70), .mv (.t 2), none⟩, ⟨(some 71), .bd [.lst .nl 9 [] [], .str ⟨#[]⟩, .int .i64 0, .int .i64 0, .int .i64 0, .int .i64 0, .int .i64 0, .lst .nl 4 [] [], .lst .nl 6 [] [], .int .i64 0, .int .i64 0, .lst .nl 6 [] [], .int .i64 0, .int .i64 0, .int .i64 0, .int .i64 0] [(0, 1, (.t 67)), (1, 1, (.t 68)), (2, 3, (.t 69)), (6, 1, (.t 70))], none⟩, ⟨(some 72), .bx (.t 71), none⟩, ⟨(some 12), .as 0 0 (.t 72), none⟩] [0, 7, 8, 12]) c6_32
abbrev c6_34 : AC := .seq c6_9 c6_33
abbrev c6_35 : AC := .seq c6_6 c6_34
abbrev c6_36 : AC := .seq c6_3 c6_35
abbrev c6_37 : AC := .seq (.ops 0 [⟨(some 7), .bx (.t 3), none⟩, ⟨(some 8), .al [.int .i64 0, .int .i64 0, .lst (.own 1029 63) 6 [] [], .int .i64 0, .int .i64 0, .int .i64 0], none⟩, ⟨(some 9), .as 0 0 (.k (.lf (.int .i64 0))), none⟩] [0, 1, 2, 7, 8]) c6_36
abbrev c6 : AC := c6_37
theorem c6_ok : compileFn Tryd.prog 6 = some (151, AC.strip c6, [.c 8 6 true, .t 9]) := by kernel_rfl
/-- harrow/harrowbook.SameRun -/
abbrev c7_0 : AC := .seq (.ops 0 [⟨(some 5), .fa (.t 2) 0, none⟩, ⟨(some 6), .ld (.t 5) 1 false, none⟩, ⟨(some 7), .fa (.t 3) 0, none⟩, ⟨(some 8), .ld (.t 7) 1 false, none⟩, ⟨(some 9), .bin .eql (.t 6) (.t 8), none⟩, ⟨(some 10), .mv (.t 9), none⟩, ⟨(some 11), .fa (.t 2) 1, (some (10, true))⟩, ⟨(some 12), .ld (.t 11) 1 false, (some (10, true))⟩, ⟨(some 13), .fa (.t 3) 1, (some (10, true))⟩, ⟨(some 14), .ld (.t 13) 1 false, (some (10, true))⟩, ⟨(some 15), .bin .eql (.t 12) (.t 14), (some (10, true))⟩, ⟨(some 16), .pk (.t 10) (.t 15) (.k (.lf (.bool false))), none⟩, ⟨(some 17), .mv (.t 16), none⟩, ⟨(some 18), .fa (.t 2) 3, (some (17, true))⟩, ⟨(some 19), .ld (.t 18) 1 false, (some (17, true))⟩, ⟨(some 20), .fa (.t 3) 3, (some (17, true))⟩, ⟨(some 21), .ld (.t 20) 1 false, (some (17, true))⟩, ⟨(some 22), .bin .eql (.t 19) (.t 21), (some (17, true))⟩, ⟨(some 23), .pk (.t 17) (.t 22) (.k (.lf (.bool false))), none⟩, ⟨(some 24), .mv (.t 23), none⟩, ⟨(some 25), .fa (.t 2) 4, (some (24, true))⟩, ⟨(some 26), .ld (.t 25) 1 false, (some (24, true))⟩, ⟨(some 27), .fa (.t 3) 4, (some (24, true))⟩, ⟨(some 28), .ld (.t 27) 1 false, (some (24, true))⟩, ⟨(some 29), .bin .eql (.t 26) (.t 28), (some (24, true))⟩, ⟨(some 30), .pk (.t 24) (.t 29) (.k (.lf (.bool false))), none⟩, ⟨(some 31), .mv (.t 30), none⟩, ⟨(some 32), .fa (.t 2) 5, (some (31, true))⟩, ⟨(some 33), .ld (.t 32) 1 false, (some (31, true))⟩, ⟨(some 34), .fa (.t 3) 5, (some (31, true))⟩, ⟨(some 35), .ld (.t 34) 1 false, (some (31, true))⟩, ⟨(some 36), .bin .eql (.t 33) (.t 35), (some (31, true))⟩, ⟨(some 37), .pk (.t 31) (.t 36) (.k (.lf (.bool false))), none⟩, ⟨(some 38), .mv (.t 37), none⟩, ⟨(some 39), .fa (.t 2) 2, (some (38, true))⟩, ⟨(some 40), .ld (.t 39) 1 false, (some (38, true))⟩, ⟨(some 41), .fa (.t 3) 2, (some (38, true))⟩, ⟨(some 42), .ld (.t 41) 1 false, (some (38, true))⟩, ⟨(some 43), .call 10 [(.t 40), (.t 42)], (some (38, true))⟩, ⟨(some 44), .pk (.t 38) (.t 43) (.k (.lf (.bool false))), none⟩, ⟨(some 4), .as 0 0 (.t 44), none⟩] [4]) .ret
abbrev c7_1 : AC := .seq (.ops 0 [⟨(some 2), .bx (.t 0), none⟩, ⟨(some 3), .bx (.t 1), none⟩, ⟨(some 4), .as 0 0 (.k (.lf (.bool false))), none⟩] [2, 3]) c7_0
abbrev c7 : AC := c7_1
theorem c7_ok : compileFn Tryd.prog 7 = some (45, AC.strip c7, [.t 4]) := by kernel_rfl
/-- harrow/machine.table -/
abbrev c9_0 : AC := .seq (.ops 0 [⟨(some 45), .mv (.t 1), none⟩, ⟨(some 0), .as 52 1 (.t 45), none⟩] [0]) .ret
abbrev c9_1 : AC := .seq (.ops 0 [⟨(some 43), .mv (.t 1), none⟩, ⟨(some 44), .call 28 [(.t 43)], none⟩] [1]) c9_0
abbrev c9_2 : AC := .seq (.ops 0 [⟨(some 41), .mv (.t 1), none⟩, ⟨(some 42), .call 27 [(.t 41)], none⟩] [1]) c9_1
abbrev c9_3 : AC := .seq (.ops 0 [⟨(some 38), .mv (.t 1), none⟩, ⟨(some 39), .mkf 26 [] [(.t 4)], none⟩, ⟨(some 40), .ia (.t 38) (.k (.lf (.int .i64 7))) 1, none⟩, ⟨none, .st (.t 40) (.t 39) 1, none⟩] [1]) c9_2
abbrev c9_4 : AC := .seq (.gdr [1, 1, 1, 6, 2, 6, 3, 6, 4] [⟨(some 23), .mv (.t 1), none⟩, ⟨(some 24), .mv (.t 1), none⟩, ⟨(some 25), .mv (.t 1), none⟩, ⟨(some 26), .mv (.t 6), none⟩, ⟨(some 27), .mv (.t 2), none⟩, ⟨(some 29), .mv (.t 6), none⟩, ⟨(some 30), .mv (.t 3), none⟩, ⟨(some 32), .mv (.t 6), none⟩, ⟨(some 33), .ld (.t 4) 1 false, none⟩] [⟨(some 28), .cald (.t 26) [(.t 27)], none⟩, ⟨(some 31), .cald (.t 29) [(.t 30)], none⟩, ⟨(some 34), .cald (.t 32) [(.t 33)], none⟩, ⟨(some 35), .ia (.t 23) (.k (.lf (.int .i64 4))) 1, none⟩, ⟨none, .st (.t 35) (.t 28) 1, none⟩, ⟨(some 36), .ia (.t 24) (.k (.lf (.int .i64 5))) 1, none⟩, ⟨none, .st (.t 36) (.t 31) 1, none⟩, ⟨(some 37), .ia (.t 25) (.k (.lf (.int .i64 6))) 1, none⟩, ⟨none, .st (.t 37) (.t 34) 1, none⟩] [1, 4]) c9_3
abbrev c9_5 : AC := .seq (.gdr [1, 1, 1, 5, 2, 5, 3, 5, 4] [⟨(some 8), .mv (.t 1), none⟩, ⟨(some 9), .mv (.t 1), none⟩, ⟨(some 10), .mv (.t 1), none⟩, ⟨(some 11), .mv (.t 5), none⟩, ⟨(some 12), .mv (.t 2), none⟩, ⟨(some 14), .mv (.t 5), none⟩, ⟨(some 15), .mv (.t 3), none⟩, ⟨(some 17), .mv (.t 5), none⟩, ⟨(some 18), .ld (.t 4) 1 false, none⟩] [⟨(some 13), .cald (.t 11) [(.t 12)], none⟩, ⟨(some 16), .cald (.t 14) [(.t 15)], none⟩, ⟨(some 19), .cald (.t 17) [(.t 18)], none⟩, ⟨(some 20), .ia (.t 8) (.k (.lf (.int .i64 1))) 1, none⟩, ⟨none, .st (.t 20) (.t 13) 1, none⟩, ⟨(some 21), .ia (.t 9) (.k (.lf (.int .i64 2))) 1, none⟩, ⟨none, .st (.t 21) (.t 16) 1, none⟩, ⟨(some 22), .ia (.t 10) (.k (.lf (.int .i64 3))) 1, none⟩, ⟨none, .st (.t 22) (.t 19) 1, none⟩] [1, 2, 3, 4, 6]) c9_4
abbrev c9_6 : AC := .seq (.ops 0 [⟨(some 6), .as 0 0 (.k (.lf (.fn 24 [] []))), none⟩] [1, 2, 3, 4, 5, 6]) c9_5
abbrev c9_7 : AC := .seq (.ops 0 [⟨(some 5), .as 0 0 (.k (.lf (.fn 20 [] []))), none⟩] [1, 2, 3, 4, 5]) c9_6
abbrev c9_8 : AC := .seq (.ops 0 [⟨(some 4), .al [.nilf], none⟩, ⟨none, .st (.t 4) (.k (.lf (.fn 18 [] []))) 1, none⟩] [1, 2, 3, 4]) c9_7
abbrev c9_9 : AC := .seq (.ops 0 [⟨(some 3), .as 0 0 (.k (.lf (.fn 16 [] []))), none⟩] [1, 2, 3]) c9_8
abbrev c9_10 : AC := .seq (.ops 0 [⟨(some 2), .as 0 0 (.k (.lf (.fn 14 [] []))), none⟩] [1, 2]) c9_9
abbrev c9_11 : AC := .seq (.ops 0 [⟨(some 7), .ms 52 1 8 [.nilf] (.k (.lf (.int .i64 21))) (.k (.lf (.int .i64 21))), none⟩, ⟨(some 1), .as 52 1 (.t 7), none⟩] [1]) c9_10
abbrev c9_12 : AC := .seq (.ops 0 [⟨(some 0), .as 52 1 (.k (.lf (.lst .nl 1 [] []))), none⟩] []) c9_11
abbrev c9 : AC := c9_12
theorem c9_ok : compileFn Tryd.prog 9 = some (46, AC.strip c9, [.t 0]) := by kernel_rfl
/-- harrow/harrowbook.SameNotes -/
abbrev c10_0 : AC := .seq (.ops 0 [⟨(some 4), .as 0 0 (.k (.lf (.bool false))), none⟩] [4]) .ret
abbrev c10_1 : AC := .cond (.t 10) c10_0 .skip
abbrev c10_2 : AC := .seq (.ops 0 [⟨(some 6), .mv (.t 0), none⟩, ⟨(some 7), .len (.t 6), none⟩, ⟨(some 8), .mv (.t 1), none⟩, ⟨(some 9), .len (.t 8), none⟩, ⟨(some 10), .bin .neq (.t 7) (.t 9), none⟩] [0, 1, 10]) c10_1
abbrev c10_3 : AC := .cond (.t 14) .skip (.exit 0)
abbrev c10_4 : AC := .seq (.ops 0 [⟨(some 11), .mv (.t 5), none⟩, ⟨(some 12), .mv (.t 0), none⟩, ⟨(some 13), .len (.t 12), none⟩, ⟨(some 14), .bin .lss (.t 11) (.t 13), none⟩] [0, 1, 5, 14]) c10_3
abbrev c10_5 : AC := .seq (.ops 0 [⟨(some 4), .as 0 0 (.k (.lf (.bool false))), none⟩] [4]) .ret
abbrev c10_6 : AC := .cond (.t 25) c10_5 .skip
abbrev c10_7 : AC := .seq (.ops 2 [⟨(some 17), .mv (.t 0), none⟩, ⟨(some 18), .mv (.t 5), none⟩, ⟨(some 19), .ia (.t 17) (.t 18) 6, none⟩, ⟨(some 20), .ld (.t 19) 6 true, none⟩, ⟨(some 21), .mv (.t 1), none⟩, ⟨(some 22), .mv (.t 5), none⟩, ⟨(some 23), .ia (.t 21) (.t 22) 6, none⟩, ⟨(some 24), .ld (.t 23) 6 true, none⟩, ⟨(some 25), .beq true [2, 2, 2, 2, 2, 3] (.t 20) (.t 24), none⟩] [0, 1, 5, 25]) c10_6
abbrev c10_8 : AC := .block 1 c10_7
abbrev c10_9 : AC := .seq c10_8 (.ops 0 [⟨(some 15), .mv (.t 5), none⟩, ⟨(some 16), .bin .add (.t 15) (.k (.lf (.int .i64 1))), none⟩, ⟨(some 5), .as 0 0 (.t 16), none⟩] [0, 1, 5])
abbrev c10_10 : AC := .seq c10_4 c10_9
abbrev c10_11 : AC := .loop c10_10 [0, 1, 5]
abbrev c10_12 : AC := .block 0 c10_11
abbrev c10_13 : AC := .seq (.ops 0 [⟨(some 5), .as 0 0 (.k (.lf (.int .i64 0))), none⟩] [0, 1, 5]) c10_12
abbrev c10_14 : AC := .seq (.ops 0 [⟨(some 4), .as 0 0 (.k (.lf (.bool true))), none⟩] [4]) .ret
abbrev c10_15 : AC := .seq c10_13 c10_14
abbrev c10_16 : AC := .seq c10_2 c10_15
abbrev c10_17 : AC := .seq (.ops 0 [⟨(some 4), .as 0 0 (.k (.lf (.bool false))), none⟩] [0, 1]) c10_16
abbrev c10 : AC := c10_17
theorem c10_ok : compileFn Tryd.prog 10 = some (26, AC.strip c10, [.t 4]) := by kernel_rfl
/-- harrow/machine.table$1 -/
abbrev c14_0 : AC := .seq (.ops 0 [⟨(some 2), .as 0 0 (.k (.lf (.fn 15 [] []))), none⟩] [2]) .ret
abbrev c14_1 : AC := .seq (.ops 0 [⟨(some 1), .bx (.t 0), none⟩, ⟨(some 2), .as 0 0 (.k (.lf (.nilf))), none⟩] []) c14_0
abbrev c14 : AC := c14_1
theorem c14_ok : compileFn Tryd.prog 14 = some (3, AC.strip c14, [.t 2]) := by kernel_rfl
/-- harrow/machine.table$1$1 -/
abbrev c15_0 : AC := .seq (.ops 0 [⟨(some 2), .as 0 0 (.k (.lf (.bool true))), none⟩] [2]) .ret
abbrev c15_1 : AC := .seq (.ops 0 [⟨(some 2), .as 0 0 (.k (.lf (.bool false))), none⟩] []) c15_0
abbrev c15 : AC := c15_1
theorem c15_ok : compileFn Tryd.prog 15 = some (3, AC.strip c15, [.t 2]) := by kernel_rfl
/-- harrow/machine.table$2 -/
abbrev c16_0 : AC := .seq (.ops 0 [⟨(some 3), .mkf 17 [] [(.t 1)], none⟩, ⟨(some 2), .as 0 0 (.t 3), none⟩] [2]) .ret
abbrev c16_1 : AC := .seq (.ops 0 [⟨(some 1), .bx (.t 0), none⟩, ⟨(some 2), .as 0 0 (.k (.lf (.nilf))), none⟩] [1]) c16_0
abbrev c16 : AC := c16_1
theorem c16_ok : compileFn Tryd.prog 16 = some (4, AC.strip c16, [.t 2]) := by kernel_rfl
/-- harrow/machine.table$2$1 -/
abbrev c17_0 : AC := .seq (.ops 0 [⟨(some 4), .mv (.t 0), none⟩, ⟨(some 5), .cvi .i64 (.t 4), none⟩, ⟨(some 6), .fa (.t 1) 2, none⟩, ⟨(some 7), .ld (.t 6) 1 false, none⟩, ⟨(some 8), .bin .eql (.t 5) (.t 7), none⟩, ⟨(some 3), .as 0 0 (.t 8), none⟩] [3]) .ret
abbrev c17_1 : AC := .seq (.ops 0 [⟨(some 3), .as 0 0 (.k (.lf (.bool false))), none⟩] [0, 1]) c17_0
abbrev c17 : AC := c17_1
theorem c17_ok : compileFn Tryd.prog 17 = some (9, AC.strip c17, [.t 3]) := by kernel_rfl
/-- harrow/machine.table$3 -/
abbrev c18_0 : AC := .seq (.ops 0 [⟨(some 3), .mkf 19 [] [(.t 1)], none⟩, ⟨(some 2), .as 0 0 (.t 3), none⟩] [2]) .ret
abbrev c18_1 : AC := .seq (.ops 0 [⟨(some 1), .bx (.t 0), none⟩, ⟨(some 2), .as 0 0 (.k (.lf (.nilf))), none⟩] [1]) c18_0
abbrev c18 : AC := c18_1
theorem c18_ok : compileFn Tryd.prog 18 = some (4, AC.strip c18, [.t 2]) := by kernel_rfl
/-- harrow/machine.table$3$1 -/
abbrev c19_0 : AC := .seq (.ops 0 [⟨(some 4), .mv (.t 0), none⟩, ⟨(some 5), .bin .quo (.t 4) (.k (.lf (.int .u8 64))), none⟩, ⟨(some 6), .fa (.t 1) 5, none⟩, ⟨(some 7), .iaa (.t 6) (.t 5) 4 1, none⟩, ⟨(some 8), .ld (.t 7) 1 false, none⟩, ⟨(some 9), .mv (.t 0), none⟩, ⟨(some 10), .bin .rem (.t 9) (.k (.lf (.int .u8 64))), none⟩, ⟨(some 11), .bin .shr (.t 8) (.t 10), none⟩, ⟨(some 12), .bin .and (.t 11) (.k (.lf (.int .u64 1))), none⟩, ⟨(some 13), .bin .eql (.t 12) (.k (.lf (.int .u64 1))), none⟩, ⟨(some 3), .as 0 0 (.t 13), none⟩] [3]) .ret
abbrev c19_1 : AC := .seq (.ops 0 [⟨(some 3), .as 0 0 (.k (.lf (.bool false))), none⟩] [0, 1]) c19_0
abbrev c19 : AC := c19_1
theorem c19_ok : compileFn Tryd.prog 19 = some (14, AC.strip c19, [.t 3]) := by kernel_rfl
/-- harrow/machine.table$4 -/
abbrev c20_0 : AC := .seq (.ops 0 [⟨(some 3), .mkf 21 [] [(.t 1)], none⟩, ⟨(some 2), .as 0 0 (.t 3), none⟩] [2]) .ret
abbrev c20_1 : AC := .seq (.ops 0 [⟨(some 1), .bx (.t 0), none⟩, ⟨(some 2), .as 0 0 (.k (.lf (.nilf))), none⟩] [1]) c20_0
abbrev c20 : AC := c20_1
theorem c20_ok : compileFn Tryd.prog 20 = some (4, AC.strip c20, [.t 2]) := by kernel_rfl
/-- harrow/machine.table$4$1 -/
abbrev c21_0 : AC := .seq (.ops 0 [⟨(some 11), .mv (.t 0), none⟩, ⟨(some 12), .callp 23 0 [(.t 11)], none⟩] []) .ret
abbrev c21_1 : AC := .cond (.t 10) c21_0 .skip
abbrev c21_2 : AC := .seq (.ops 0 [⟨(some 5), .mv (.t 0), none⟩, ⟨(some 6), .ld (.t 2) 1 false, none⟩, ⟨(some 7), .ld (.t 4) 9 true, none⟩, ⟨(some 8), .cald (.t 6) [(.t 7)], none⟩, ⟨(some 9), .callp 22 0 [(.t 5), (.t 8)], none⟩, ⟨(some 10), .un .not (.t 9), none⟩] [0, 10]) c21_1
abbrev c21_3 : AC := .seq (.ops 0 [⟨(some 13), .mv (.t 0), none⟩, ⟨(some 14), .nc (.t 13), none⟩, ⟨(some 15), .fa (.t 14) 6, none⟩, ⟨(some 16), .ld (.t 15) 1 false, none⟩, ⟨(some 17), .bin .add (.t 16) (.k (.lf (.int .i64 1))), none⟩, ⟨(some 18), .nc (.t 13), none⟩, ⟨(some 19), .fa (.t 18) 6, none⟩, ⟨none, .st (.t 19) (.t 17) 1, none⟩] [0]) (.ops 0 [⟨(some 20), .mv (.t 0), none⟩, ⟨(some 21), .nc (.t 20), none⟩, ⟨(some 22), .fa (.t 21) 5, none⟩, ⟨(some 23), .ld (.t 22) 1 false, none⟩, ⟨(some 24), .bin .add (.t 23) (.k (.lf (.int .i64 1))), none⟩, ⟨(some 25), .nc (.t 20), none⟩, ⟨(some 26), .fa (.t 25) 5, none⟩, ⟨none, .st (.t 26) (.t 24) 1, none⟩] [])
abbrev c21_4 : AC := .seq c21_2 c21_3
abbrev c21_5 : AC := .seq (.ops 0 [⟨(some 4), .bx (.t 1), none⟩] [0, 2, 4]) c21_4
abbrev c21 : AC := c21_5
theorem c21_ok : compileFn Tryd.prog 21 = some (27, AC.strip c21, []) := by kernel_rfl
/-- (*harrow/machine.state).sees -/
abbrev c22_0 : AC := .seq (.reg [⟨(some 5), .mv (.t 0), none⟩, ⟨(some 6), .nc (.t 5), none⟩, ⟨(some 7), .fa (.t 6) 6, none⟩, ⟨(some 8), .ld (.t 7) 1 false, none⟩, ⟨(some 9), .mv (.t 0), none⟩, ⟨(some 10), .nc (.t 9), none⟩, ⟨(some 11), .fa (.t 10) 1, none⟩, ⟨(some 12), .ld (.t 11) 1 false, none⟩, ⟨(some 13), .lns (.t 12), none⟩, ⟨(some 14), .bin .lss (.t 8) (.t 13), none⟩, ⟨(some 15), .mv (.t 14), none⟩, ⟨(some 16), .mv (.t 1), (some (15, true))⟩, ⟨(some 17), .mv (.t 0), (some (15, true))⟩, ⟨(some 18), .nc (.t 17), (some (15, true))⟩, ⟨(some 19), .fa (.t 18) 1, (some (15, true))⟩, ⟨(some 20), .ld (.t 19) 1 false, (some (15, true))⟩, ⟨(some 21), .mv (.t 0), (some (15, true))⟩, ⟨(some 22), .nc (.t 21), (some (15, true))⟩, ⟨(some 23), .fa (.t 22) 6, (some (15, true))⟩, ⟨(some 24), .ld (.t 23) 1 false, (some (15, true))⟩, ⟨(some 25), .ixs (.t 20) (.t 24), (some (15, true))⟩] [⟨(some 26), .cald (.t 16) [(.t 25)], (some (15, true))⟩, ⟨(some 27), .pk (.t 15) (.t 26) (.k (.lf (.bool false))), none⟩, ⟨(some 4), .as 0 0 (.t 27), none⟩] [4]) .ret
abbrev c22_1 : AC := .seq (.ops 0 [⟨(some 4), .as 0 0 (.k (.lf (.bool false))), none⟩] [0, 1]) c22_0
abbrev c22 : AC := c22_1
theorem c22_ok : compileFn Tryd.prog 22 = some (28, AC.strip c22, [.t 4]) := by kernel_rfl
/-- (*harrow/machine.state).fail -/
abbrev c23_0 : AC := .cond (.t 11) .skip (.exit 0)
abbrev c23_1 : AC := .seq (.ops 0 [⟨(some 10), .mv (.t 2), none⟩, ⟨(some 11), .bin .geq (.t 10) (.k (.lf (.int .i64 0))), none⟩] [0, 2, 11]) c23_0
abbrev c23_2 : AC := .seq (.gds [⟨(some 33), .mv (.t 0), none⟩, ⟨(some 34), .mv (.t 0), none⟩, ⟨(some 35), .mv (.t 0), none⟩, ⟨(some 36), .fa (.t 3) 1, none⟩, ⟨(some 37), .ld (.t 36) 1 false, none⟩, ⟨(some 38), .fa (.t 3) 2, none⟩, ⟨(some 39), .ld (.t 38) 1 false, none⟩, ⟨(some 40), .mv (.t 0), none⟩, ⟨(some 41), .nc (.t 40), none⟩, ⟨(some 42), .fa (.t 41) 8, none⟩, ⟨(some 43), .ld (.t 42) 1 false, none⟩, ⟨(some 44), .fa (.t 3) 3, none⟩, ⟨(some 45), .ld (.t 44) 1 false, none⟩, ⟨(some 46), .sll 6 (.t 43) none (some (.t 45)), none⟩, ⟨(some 47), .nc (.t 33), none⟩, ⟨(some 48), .fa (.t 47) 5, none⟩] [⟨none, .st (.t 48) (.t 37) 1, none⟩, ⟨(some 49), .nc (.t 34), none⟩, ⟨(some 50), .fa (.t 49) 6, none⟩, ⟨none, .st (.t 50) (.t 39) 1, none⟩, ⟨(some 51), .nc (.t 35), none⟩, ⟨(some 52), .fa (.t 51) 8, none⟩, ⟨none, .st (.t 52) (.t 46) 1, none⟩] []) .ret
abbrev c23_3 : AC := .cond (.t 32) c23_2 .skip
abbrev c23_4 : AC := .seq (.ops 0 [⟨(some 30), .fa (.t 3) 0, none⟩, ⟨(some 31), .ld (.t 30) 1 false, none⟩, ⟨(some 32), .un .not (.t 31), none⟩] [0, 2, 3, 32]) c23_3
abbrev c23_5 : AC := .seq (.ops 0 [⟨(some 21), .mv (.t 0), none⟩, ⟨(some 22), .mv (.t 0), none⟩, ⟨(some 23), .nc (.t 22), none⟩, ⟨(some 24), .fa (.t 23) 7, none⟩, ⟨(some 25), .ld (.t 24) 1 false, none⟩, ⟨(some 26), .mv (.t 2), none⟩, ⟨(some 27), .sll 4 (.t 25) none (some (.t 26)), none⟩, ⟨(some 28), .nc (.t 21), none⟩, ⟨(some 29), .fa (.t 28) 7, none⟩, ⟨none, .st (.t 29) (.t 27) 1, none⟩] [0, 2, 3]) c23_4
abbrev c23_6 : AC := .seq (.ops 0 [⟨(some 14), .mv (.t 0), none⟩, ⟨(some 15), .nc (.t 14), none⟩, ⟨(some 16), .fa (.t 15) 7, none⟩, ⟨(some 17), .ld (.t 16) 1 false, none⟩, ⟨(some 18), .mv (.t 2), none⟩, ⟨(some 19), .ia (.t 17) (.t 18) 4, none⟩, ⟨(some 20), .ld (.t 19) 4 true, none⟩, ⟨(some 3), .al [.bool false, .int .i64 0, .int .i64 0, .int .i64 0], none⟩, ⟨none, .st (.t 3) (.t 20) 4, none⟩] [0, 2, 3]) c23_5
abbrev c23_7 : AC := .block 1 c23_6
abbrev c23_8 : AC := .seq c23_7 (.ops 0 [⟨(some 12), .mv (.t 2), none⟩, ⟨(some 13), .bin .sub (.t 12) (.k (.lf (.int .i64 1))), none⟩, ⟨(some 2), .as 0 0 (.t 13), none⟩] [0, 2])
abbrev c23_9 : AC := .seq c23_1 c23_8
abbrev c23_10 : AC := .loop c23_9 [0, 2]
abbrev c23_11 : AC := .block 0 c23_10
abbrev c23_12 : AC := .seq (.ops 0 [⟨(some 4), .mv (.t 0), none⟩, ⟨(some 5), .nc (.t 4), none⟩, ⟨(some 6), .fa (.t 5) 7, none⟩, ⟨(some 7), .ld (.t 6) 1 false, none⟩, ⟨(some 8), .len (.t 7), none⟩, ⟨(some 9), .bin .sub (.t 8) (.k (.lf (.int .i64 1))), none⟩, ⟨(some 2), .as 0 0 (.t 9), none⟩] [0, 2]) c23_11
abbrev c23_13 : AC := .seq c23_12 (.ops 0 [⟨(some 53), .mv (.t 0), none⟩, ⟨(some 54), .nc (.t 53), none⟩, ⟨(some 55), .fa (.t 54) 9, none⟩, ⟨(some 56), .fa (.t 55) 0, none⟩, ⟨none, .st (.t 56) (.k (.lf (.int .i64 2))) 1, none⟩] [])
abbrev c23 : AC := c23_13
theorem c23_ok : compileFn Tryd.prog 23 = some (57, AC.strip c23, []) := by kernel_rfl
/-- harrow/machine.table$5 -/
abbrev c24_0 : AC := .seq (.ops 0 [⟨(some 3), .mkf 25 [] [(.t 1)], none⟩, ⟨(some 2), .as 0 0 (.t 3), none⟩] [2]) .ret
abbrev c24_1 : AC := .seq (.ops 0 [⟨(some 1), .bx (.t 0), none⟩, ⟨(some 2), .as 0 0 (.k (.lf (.nilf))), none⟩] [1]) c24_0
abbrev c24 : AC := c24_1
theorem c24_ok : compileFn Tryd.prog 24 = some (4, AC.strip c24, [.t 2]) := by kernel_rfl
/-- harrow/machine.table$5$1 -/
abbrev c25_0 : AC := .cond (.t 9) (.ops 0 [⟨(some 10), .mv (.t 0), none⟩, ⟨(some 11), .nc (.t 10), none⟩, ⟨(some 12), .fa (.t 11) 5, none⟩, ⟨(some 13), .ld (.t 12) 1 false, none⟩, ⟨(some 14), .bin .add (.t 13) (.k (.lf (.int .i64 1))), none⟩, ⟨(some 15), .nc (.t 10), none⟩, ⟨(some 16), .fa (.t 15) 5, none⟩, ⟨none, .st (.t 16) (.t 14) 1, none⟩] []) (.reg [⟨(some 17), .mv (.t 0), none⟩, ⟨(some 18), .nc (.t 17), none⟩, ⟨(some 19), .fa (.t 18) 5, none⟩, ⟨(some 20), .ld (.t 19) 1 false, none⟩, ⟨(some 21), .fa (.t 4) 1, none⟩, ⟨(some 22), .ld (.t 21) 1 false, none⟩, ⟨(some 23), .bin .add (.t 20) (.t 22), none⟩, ⟨(some 24), .nc (.t 17), none⟩, ⟨(some 25), .fa (.t 24) 5, none⟩] [⟨none, .st (.t 25) (.t 23) 1, none⟩] [])
abbrev c25_1 : AC := .seq (.ops 0 [⟨(some 5), .mv (.t 0), none⟩, ⟨(some 6), .ld (.t 2) 1 false, none⟩, ⟨(some 7), .ld (.t 4) 9 true, none⟩, ⟨(some 8), .cald (.t 6) [(.t 7)], none⟩, ⟨(some 9), .callp 22 0 [(.t 5), (.t 8)], none⟩] [0, 4, 9]) c25_0
abbrev c25_2 : AC := .seq (.ops 0 [⟨(some 4), .bx (.t 1), none⟩] [0, 2, 4]) c25_1
abbrev c25 : AC := c25_2
theorem c25_ok : compileFn Tryd.prog 25 = some (26, AC.strip c25, []) := by kernel_rfl
/-- harrow/machine.table$6 -/
abbrev c26_0 : AC := .cond (.t 11) .skip (.exit 0)
abbrev c26_1 : AC := .seq (.ops 0 [⟨(some 9), .mv (.t 0), none⟩, ⟨(some 10), .mv (.t 5), none⟩, ⟨(some 11), .callp 22 0 [(.t 9), (.t 10)], none⟩] [0, 5, 11]) c26_0
abbrev c26_2 : AC := .block 1 (.ops 0 [⟨(some 12), .mv (.t 0), none⟩, ⟨(some 13), .nc (.t 12), none⟩, ⟨(some 14), .fa (.t 13) 6, none⟩, ⟨(some 15), .ld (.t 14) 1 false, none⟩, ⟨(some 16), .bin .add (.t 15) (.k (.lf (.int .i64 1))), none⟩, ⟨(some 17), .nc (.t 12), none⟩, ⟨(some 18), .fa (.t 17) 6, none⟩, ⟨none, .st (.t 18) (.t 16) 1, none⟩] [0, 5])
abbrev c26_3 : AC := .seq c26_1 c26_2
abbrev c26_4 : AC := .loop c26_3 [0, 5]
abbrev c26_5 : AC := .block 0 c26_4
abbrev c26_6 : AC := .seq (.ops 0 [⟨(some 6), .ld (.t 2) 1 false, none⟩, ⟨(some 7), .ld (.t 4) 9 true, none⟩, ⟨(some 8), .cald (.t 6) [(.t 7)], none⟩, ⟨(some 5), .as 0 0 (.t 8), none⟩] [0, 5]) c26_5
abbrev c26_7 : AC := .seq c26_6 (.ops 0 [⟨(some 19), .mv (.t 0), none⟩, ⟨(some 20), .nc (.t 19), none⟩, ⟨(some 21), .fa (.t 20) 5, none⟩, ⟨(some 22), .ld (.t 21) 1 false, none⟩, ⟨(some 23), .bin .add (.t 22) (.k (.lf (.int .i64 1))), none⟩, ⟨(some 24), .nc (.t 19), none⟩, ⟨(some 25), .fa (.t 24) 5, none⟩, ⟨none, .st (.t 25) (.t 23) 1, none⟩] [])
abbrev c26_8 : AC := .seq (.ops 0 [⟨(some 4), .bx (.t 1), none⟩] [0, 2, 4]) c26_7
abbrev c26 : AC := c26_8
theorem c26_ok : compileFn Tryd.prog 26 = some (26, AC.strip c26, []) := by kernel_rfl
/-- harrow/machine.choices -/
abbrev c27_0 : AC := .seq (.ops 0 [⟨(some 18), .mv (.t 0), none⟩, ⟨(some 19), .ia (.t 18) (.k (.lf (.int .i64 16))) 1, none⟩, ⟨none, .st (.t 19) (.k (.lf (.fn 41 [] []))) 1, none⟩] [0]) (.ops 0 [⟨(some 20), .mv (.t 0), none⟩, ⟨(some 21), .ia (.t 20) (.k (.lf (.int .i64 17))) 1, none⟩, ⟨none, .st (.t 21) (.k (.lf (.fn 42 [] []))) 1, none⟩] [])
abbrev c27_1 : AC := .seq (.ops 0 [⟨(some 16), .mv (.t 0), none⟩, ⟨(some 17), .ia (.t 16) (.k (.lf (.int .i64 15))) 1, none⟩, ⟨none, .st (.t 17) (.k (.lf (.fn 40 [] []))) 1, none⟩] [0]) c27_0
abbrev c27_2 : AC := .seq (.ops 0 [⟨(some 14), .mv (.t 0), none⟩, ⟨(some 15), .ia (.t 14) (.k (.lf (.int .i64 14))) 1, none⟩, ⟨none, .st (.t 15) (.k (.lf (.fn 39 [] []))) 1, none⟩] [0]) c27_1
abbrev c27_3 : AC := .seq (.ops 0 [⟨(some 12), .mv (.t 0), none⟩, ⟨(some 13), .ia (.t 12) (.k (.lf (.int .i64 13))) 1, none⟩, ⟨none, .st (.t 13) (.k (.lf (.fn 38 [] []))) 1, none⟩] [0]) c27_2
abbrev c27_4 : AC := .seq (.ops 0 [⟨(some 10), .mv (.t 0), none⟩, ⟨(some 11), .ia (.t 10) (.k (.lf (.int .i64 12))) 1, none⟩, ⟨none, .st (.t 11) (.k (.lf (.fn 37 [] []))) 1, none⟩] [0]) c27_3
abbrev c27_5 : AC := .seq (.ops 0 [⟨(some 8), .mv (.t 0), none⟩, ⟨(some 9), .ia (.t 8) (.k (.lf (.int .i64 11))) 1, none⟩, ⟨none, .st (.t 9) (.k (.lf (.fn 36 [] []))) 1, none⟩] [0]) c27_4
abbrev c27_6 : AC := .seq (.ops 0 [⟨(some 6), .mv (.t 0), none⟩, ⟨(some 7), .ia (.t 6) (.k (.lf (.int .i64 10))) 1, none⟩, ⟨none, .st (.t 7) (.k (.lf (.fn 35 [] []))) 1, none⟩] [0]) c27_5
abbrev c27_7 : AC := .seq (.ops 0 [⟨(some 4), .mv (.t 0), none⟩, ⟨(some 5), .ia (.t 4) (.k (.lf (.int .i64 9))) 1, none⟩, ⟨none, .st (.t 5) (.k (.lf (.fn 33 [] []))) 1, none⟩] [0]) c27_6
abbrev c27_8 : AC := .seq (.ops 0 [⟨(some 2), .mv (.t 0), none⟩, ⟨(some 3), .ia (.t 2) (.k (.lf (.int .i64 8))) 1, none⟩, ⟨none, .st (.t 3) (.k (.lf (.fn 31 [] []))) 1, none⟩] [0]) c27_7
abbrev c27 : AC := c27_8
theorem c27_ok : compileFn Tryd.prog 27 = some (22, AC.strip c27, []) := by kernel_rfl
/-- harrow/machine.captures -/
abbrev c28_0 : AC := .seq (.ops 0 [⟨(some 4), .mv (.t 0), none⟩, ⟨(some 5), .ia (.t 4) (.k (.lf (.int .i64 19))) 1, none⟩, ⟨none, .st (.t 5) (.k (.lf (.fn 45 [] []))) 1, none⟩] [0]) (.ops 0 [⟨(some 6), .mv (.t 0), none⟩, ⟨(some 7), .ia (.t 6) (.k (.lf (.int .i64 20))) 1, none⟩, ⟨none, .st (.t 7) (.k (.lf (.fn 46 [] []))) 1, none⟩] [])
abbrev c28_1 : AC := .seq (.ops 0 [⟨(some 2), .mv (.t 0), none⟩, ⟨(some 3), .ia (.t 2) (.k (.lf (.int .i64 18))) 1, none⟩, ⟨none, .st (.t 3) (.k (.lf (.fn 43 [] []))) 1, none⟩] [0]) c28_0
abbrev c28 : AC := c28_1
theorem c28_ok : compileFn Tryd.prog 28 = some (8, AC.strip c28, []) := by kernel_rfl
end Go.Proofs.YtkmhoholblbbfaaDoor.M
set_option maxRecDepth 100000
namespace Go.Proofs.YtkmhoholblbbfaaDoor.M
open Go Go.Proofs.YtkmhoholblbbfaaDoor.AM
/-- harrow/machine.choices$1 -/
abbrev c31_0 : AC := .seq (.reg [⟨(some 4), .mv (.t 0), none⟩, ⟨(some 5), .mv (.t 0), none⟩, ⟨(some 6), .nc (.t 5), none⟩, ⟨(some 7), .fa (.t 6) 5, none⟩, ⟨(some 8), .ld (.t 7) 1 false, none⟩, ⟨(some 9), .fa (.t 3) 1, none⟩, ⟨(some 10), .ld (.t 9) 1 false, none⟩, ⟨(some 11), .bin .add (.t 8) (.t 10), none⟩, ⟨(some 12), .mv (.t 0), none⟩, ⟨(some 13), .nc (.t 12), none⟩, ⟨(some 14), .fa (.t 13) 6, none⟩, ⟨(some 15), .ld (.t 14) 1 false, none⟩, ⟨(some 16), .mv (.t 0), none⟩, ⟨(some 17), .nc (.t 16), none⟩, ⟨(some 18), .fa (.t 17) 8, none⟩, ⟨(some 19), .ld (.t 18) 1 false, none⟩, ⟨(some 20), .len (.t 19), none⟩, ⟨(some 21), .bd [.bool false, .int .i64 0, .int .i64 0, .int .i64 0] [(1, 1, (.t 11)), (2, 1, (.t 15)), (3, 1, (.t 20))], none⟩] [⟨(some 22), .callp 32 0 [(.t 4), (.t 21)], none⟩] [0]) (.ops 0 [⟨(some 23), .mv (.t 0), none⟩, ⟨(some 24), .nc (.t 23), none⟩, ⟨(some 25), .fa (.t 24) 5, none⟩, ⟨(some 26), .ld (.t 25) 1 false, none⟩, ⟨(some 27), .bin .add (.t 26) (.k (.lf (.int .i64 1))), none⟩, ⟨(some 28), .nc (.t 23), none⟩, ⟨(some 29), .fa (.t 28) 5, none⟩, ⟨none, .st (.t 29) (.t 27) 1, none⟩] [])
abbrev c31_1 : AC := .seq (.ops 0 [⟨(some 3), .bx (.t 1), none⟩] [0, 3]) c31_0
abbrev c31 : AC := c31_1
theorem c31_ok : compileFn Tryd.prog 31 = some (30, AC.strip c31, []) := by kernel_rfl
/-- (*harrow/machine.state).push -/
abbrev c32_0 : AC := .seq (.ops 0 [⟨(some 15), .mv (.t 0), none⟩, ⟨(some 16), .nc (.t 15), none⟩, ⟨(some 17), .fa (.t 16) 15, none⟩, ⟨none, .st (.t 17) (.k (.lf (.int .i64 210))) 1, none⟩] []) .ret
abbrev c32_1 : AC := .cond (.t 14) c32_0 .skip
abbrev c32_2 : AC := .seq (.ops 2 [⟨(some 4), .mv (.t 0), none⟩, ⟨(some 5), .nc (.t 4), none⟩, ⟨(some 6), .fa (.t 5) 7, none⟩, ⟨(some 7), .ld (.t 6) 1 false, none⟩, ⟨(some 8), .len (.t 7), none⟩, ⟨(some 9), .mv (.t 0), none⟩, ⟨(some 10), .nc (.t 9), none⟩, ⟨(some 11), .fa (.t 10) 2, none⟩, ⟨(some 12), .fa (.t 11) 0, none⟩, ⟨(some 13), .ld (.t 12) 1 false, none⟩, ⟨(some 14), .bin .geq (.t 8) (.t 13), none⟩] [0, 3, 14]) c32_1
abbrev c32_3 : AC := .seq (.gdq [⟨(some 18), .mv (.t 0), none⟩, ⟨(some 19), .mv (.t 0), none⟩, ⟨(some 20), .nc (.t 19), none⟩, ⟨(some 21), .fa (.t 20) 7, none⟩, ⟨(some 22), .ld (.t 21) 1 false, none⟩, ⟨(some 23), .ld (.t 3) 4 true, none⟩] [⟨(some 24), .bs 68 4 1 [.bool false, .int .i64 0, .int .i64 0, .int .i64 0] [(0, (.t 23))], none⟩, ⟨(some 25), .app 68 4 32 (.t 22) (.t 24), none⟩, ⟨(some 26), .nc (.t 18), none⟩, ⟨(some 27), .fa (.t 26) 7, none⟩, ⟨none, .st (.t 27) (.t 25) 1, none⟩] [0]) (.reg [⟨(some 28), .mv (.t 0), none⟩, ⟨(some 29), .mv (.t 0), none⟩, ⟨(some 30), .nc (.t 29), none⟩, ⟨(some 31), .fa (.t 30) 9, none⟩, ⟨(some 32), .fa (.t 31) 4, none⟩, ⟨(some 33), .ld (.t 32) 1 false, none⟩, ⟨(some 34), .mv (.t 0), none⟩, ⟨(some 35), .nc (.t 34), none⟩, ⟨(some 36), .fa (.t 35) 7, none⟩, ⟨(some 37), .ld (.t 36) 1 false, none⟩, ⟨(some 38), .len (.t 37), none⟩, ⟨(some 39), .mm true (.t 33) (.t 38), none⟩, ⟨(some 40), .nc (.t 28), none⟩, ⟨(some 41), .fa (.t 40) 9, none⟩, ⟨(some 42), .fa (.t 41) 4, none⟩] [⟨none, .st (.t 42) (.t 39) 1, none⟩] [])
abbrev c32_4 : AC := .seq c32_2 c32_3
abbrev c32_5 : AC := .seq (.ops 0 [⟨(some 3), .bx (.t 1), none⟩] [0, 3]) c32_4
abbrev c32 : AC := c32_5
theorem c32_ok : compileFn Tryd.prog 32 = some (43, AC.strip c32, []) := by kernel_rfl
/-- harrow/machine.choices$2 -/
abbrev c33_0 : AC := .seq (.ops 0 [⟨(some 4), .mv (.t 0), none⟩, ⟨(some 5), .callp 34 0 [(.t 4), (.k (.lf (.bool false)))], none⟩] [0, 3]) (.reg [⟨(some 6), .mv (.t 0), none⟩, ⟨(some 7), .nc (.t 6), none⟩, ⟨(some 8), .fa (.t 7) 5, none⟩, ⟨(some 9), .ld (.t 8) 1 false, none⟩, ⟨(some 10), .fa (.t 3) 1, none⟩, ⟨(some 11), .ld (.t 10) 1 false, none⟩, ⟨(some 12), .bin .add (.t 9) (.t 11), none⟩, ⟨(some 13), .nc (.t 6), none⟩, ⟨(some 14), .fa (.t 13) 5, none⟩] [⟨none, .st (.t 14) (.t 12) 1, none⟩] [])
abbrev c33_1 : AC := .seq (.ops 0 [⟨(some 3), .bx (.t 1), none⟩] [0, 3]) c33_0
abbrev c33 : AC := c33_1
theorem c33_ok : compileFn Tryd.prog 33 = some (15, AC.strip c33, []) := by kernel_rfl
/-- (*harrow/machine.state).pop -/
abbrev c34_0 : AC := .seq (.ops 0 [⟨(some 30), .bd [.bool false, .int .i64 0, .int .i64 0, .int .i64 0] [], none⟩, ⟨none, .st (.t 4) (.t 30) 4, none⟩] [4]) .ret
abbrev c34_1 : AC := .seq (.ops 0 [⟨(some 27), .mv (.t 0), none⟩, ⟨(some 28), .nc (.t 27), none⟩, ⟨(some 29), .fa (.t 28) 15, none⟩, ⟨none, .st (.t 29) (.k (.lf (.int .i64 213))) 1, none⟩] [4]) c34_0
abbrev c34_2 : AC := .cond (.t 26) c34_1 .skip
abbrev c34_3 : AC := .seq (.ops 0 [⟨(some 13), .mv (.t 5), none⟩, ⟨(some 14), .bin .lss (.t 13) (.k (.lf (.int .i64 0))), none⟩, ⟨(some 15), .mv (.t 14), none⟩, ⟨(some 16), .mv (.t 0), (some (15, false))⟩, ⟨(some 17), .nc (.t 16), (some (15, false))⟩, ⟨(some 18), .fa (.t 17) 7, (some (15, false))⟩, ⟨(some 19), .ld (.t 18) 1 false, (some (15, false))⟩, ⟨(some 20), .mv (.t 5), (some (15, false))⟩, ⟨(some 21), .ia (.t 19) (.t 20) 4, (some (15, false))⟩, ⟨(some 22), .fa (.t 21) 0, (some (15, false))⟩, ⟨(some 23), .ld (.t 22) 1 false, (some (15, false))⟩, ⟨(some 24), .mv (.t 1), (some (15, false))⟩, ⟨(some 25), .bqb true (.t 23) (.t 24), (some (15, false))⟩, ⟨(some 26), .pk (.t 15) (.k (.lf (.bool true))) (.t 25), none⟩] [0, 4, 5, 26]) c34_2
abbrev c34_4 : AC := .seq (.ops 0 [⟨(some 47), .ld (.t 6) 4 true, none⟩, ⟨none, .st (.t 4) (.t 47) 4, none⟩] [4]) .ret
abbrev c34_5 : AC := .seq (.ops 0 [⟨(some 38), .mv (.t 0), none⟩, ⟨(some 39), .mv (.t 0), none⟩, ⟨(some 40), .nc (.t 39), none⟩, ⟨(some 41), .fa (.t 40) 7, none⟩, ⟨(some 42), .ld (.t 41) 1 false, none⟩, ⟨(some 43), .mv (.t 5), none⟩, ⟨(some 44), .sll 4 (.t 42) none (some (.t 43)), none⟩, ⟨(some 45), .nc (.t 38), none⟩, ⟨(some 46), .fa (.t 45) 7, none⟩, ⟨none, .st (.t 46) (.t 44) 1, none⟩] [4, 6]) c34_4
abbrev c34_6 : AC := .seq (.ops 0 [⟨(some 31), .mv (.t 0), none⟩, ⟨(some 32), .nc (.t 31), none⟩, ⟨(some 33), .fa (.t 32) 7, none⟩, ⟨(some 34), .ld (.t 33) 1 false, none⟩, ⟨(some 35), .mv (.t 5), none⟩, ⟨(some 36), .ia (.t 34) (.t 35) 4, none⟩, ⟨(some 37), .ld (.t 36) 4 true, none⟩, ⟨(some 6), .al [.bool false, .int .i64 0, .int .i64 0, .int .i64 0], none⟩, ⟨none, .st (.t 6) (.t 37) 4, none⟩] [0, 4, 5, 6]) c34_5
abbrev c34_7 : AC := .seq c34_3 c34_6
abbrev c34_8 : AC := .seq (.ops 0 [⟨(some 7), .mv (.t 0), none⟩, ⟨(some 8), .nc (.t 7), none⟩, ⟨(some 9), .fa (.t 8) 7, none⟩, ⟨(some 10), .ld (.t 9) 1 false, none⟩, ⟨(some 11), .len (.t 10), none⟩, ⟨(some 12), .bin .sub (.t 11) (.k (.lf (.int .i64 1))), none⟩, ⟨(some 5), .as 0 0 (.t 12), none⟩] [0, 1, 4, 5]) c34_7
abbrev c34_9 : AC := .seq (.ops 0 [⟨(some 4), .al [.bool false, .int .i64 0, .int .i64 0, .int .i64 0], none⟩] [0, 1, 4]) c34_8
abbrev c34 : AC := c34_9
theorem c34_ok : compileFn Tryd.prog 34 = some (48, AC.strip c34, [.c 4 4 true]) := by kernel_rfl
/-- harrow/machine.choices$3 -/
abbrev c35_0 : AC := .cond (.t 11) (.gdq [⟨(some 12), .mv (.t 0), none⟩, ⟨(some 13), .mv (.t 0), none⟩, ⟨(some 14), .nc (.t 13), none⟩, ⟨(some 15), .fa (.t 14) 7, none⟩, ⟨(some 16), .ld (.t 15) 1 false, none⟩, ⟨(some 17), .fa (.t 4) 1, none⟩, ⟨(some 18), .ld (.t 17) 1 false, none⟩, ⟨(some 19), .mv (.t 0), none⟩, ⟨(some 20), .nc (.t 19), none⟩, ⟨(some 21), .fa (.t 20) 6, none⟩, ⟨(some 22), .ld (.t 21) 1 false, none⟩, ⟨(some 23), .mv (.t 0), none⟩, ⟨(some 24), .nc (.t 23), none⟩, ⟨(some 25), .fa (.t 24) 8, none⟩, ⟨(some 26), .ld (.t 25) 1 false, none⟩] [⟨(some 27), .len (.t 26), none⟩, ⟨(some 28), .bd [.bool false, .int .i64 0, .int .i64 0, .int .i64 0] [(1, 1, (.t 18)), (2, 1, (.t 22)), (3, 1, (.t 27))], none⟩, ⟨(some 29), .bs 68 4 1 [.bool false, .int .i64 0, .int .i64 0, .int .i64 0] [(0, (.t 28))], none⟩, ⟨(some 30), .app 68 4 32 (.t 16) (.t 29), none⟩, ⟨(some 31), .nc (.t 12), none⟩, ⟨(some 32), .fa (.t 31) 7, none⟩, ⟨none, .st (.t 32) (.t 30) 1, none⟩] [0, 3]) .skip
abbrev c35_1 : AC := .seq (.ops 0 [⟨(some 7), .mv (.t 0), none⟩, ⟨(some 8), .nc (.t 7), none⟩, ⟨(some 9), .fa (.t 8) 15, none⟩, ⟨(some 10), .ld (.t 9) 1 false, none⟩, ⟨(some 11), .bin .eql (.t 10) (.k (.lf (.int .i64 0))), none⟩] [0, 3, 4, 11]) c35_0
abbrev c35_2 : AC := .seq c35_1 (.reg [⟨(some 33), .mv (.t 0), none⟩, ⟨(some 34), .nc (.t 33), none⟩, ⟨(some 35), .fa (.t 34) 5, none⟩, ⟨(some 36), .ld (.t 35) 1 false, none⟩, ⟨(some 37), .fa (.t 3) 1, none⟩, ⟨(some 38), .ld (.t 37) 1 false, none⟩, ⟨(some 39), .bin .add (.t 36) (.t 38), none⟩, ⟨(some 40), .nc (.t 33), none⟩, ⟨(some 41), .fa (.t 40) 5, none⟩] [⟨none, .st (.t 41) (.t 39) 1, none⟩] [])
abbrev c35_3 : AC := .seq (.ops 0 [⟨(some 5), .mv (.t 0), none⟩, ⟨(some 6), .callp 34 0 [(.t 5), (.k (.lf (.bool false)))], none⟩, ⟨(some 4), .al [.bool false, .int .i64 0, .int .i64 0, .int .i64 0], none⟩, ⟨none, .st (.t 4) (.t 6) 4, none⟩] [0, 3, 4]) c35_2
abbrev c35_4 : AC := .seq (.ops 0 [⟨(some 3), .bx (.t 1), none⟩] [0, 3]) c35_3
abbrev c35 : AC := c35_4
theorem c35_ok : compileFn Tryd.prog 35 = some (42, AC.strip c35, []) := by kernel_rfl
/-- harrow/machine.choices$4 -/
abbrev c36_0 : AC := .cond (.t 11) (.gds [⟨(some 12), .mv (.t 0), none⟩, ⟨(some 13), .mv (.t 0), none⟩, ⟨(some 14), .fa (.t 4) 2, none⟩, ⟨(some 15), .ld (.t 14) 1 false, none⟩, ⟨(some 16), .mv (.t 0), none⟩, ⟨(some 17), .nc (.t 16), none⟩, ⟨(some 18), .fa (.t 17) 8, none⟩, ⟨(some 19), .ld (.t 18) 1 false, none⟩, ⟨(some 20), .fa (.t 4) 3, none⟩, ⟨(some 21), .ld (.t 20) 1 false, none⟩, ⟨(some 22), .sll 6 (.t 19) none (some (.t 21)), none⟩, ⟨(some 23), .nc (.t 12), none⟩, ⟨(some 24), .fa (.t 23) 6, none⟩] [⟨none, .st (.t 24) (.t 15) 1, none⟩, ⟨(some 25), .nc (.t 13), none⟩, ⟨(some 26), .fa (.t 25) 8, none⟩, ⟨none, .st (.t 26) (.t 22) 1, none⟩] [0, 3]) .skip
abbrev c36_1 : AC := .seq (.ops 0 [⟨(some 7), .mv (.t 0), none⟩, ⟨(some 8), .nc (.t 7), none⟩, ⟨(some 9), .fa (.t 8) 15, none⟩, ⟨(some 10), .ld (.t 9) 1 false, none⟩, ⟨(some 11), .bin .eql (.t 10) (.k (.lf (.int .i64 0))), none⟩] [0, 3, 4, 11]) c36_0
abbrev c36_2 : AC := .seq c36_1 (.reg [⟨(some 27), .mv (.t 0), none⟩, ⟨(some 28), .nc (.t 27), none⟩, ⟨(some 29), .fa (.t 28) 5, none⟩, ⟨(some 30), .ld (.t 29) 1 false, none⟩, ⟨(some 31), .fa (.t 3) 1, none⟩, ⟨(some 32), .ld (.t 31) 1 false, none⟩, ⟨(some 33), .bin .add (.t 30) (.t 32), none⟩, ⟨(some 34), .nc (.t 27), none⟩, ⟨(some 35), .fa (.t 34) 5, none⟩] [⟨none, .st (.t 35) (.t 33) 1, none⟩] [])
abbrev c36_3 : AC := .seq (.ops 0 [⟨(some 5), .mv (.t 0), none⟩, ⟨(some 6), .callp 34 0 [(.t 5), (.k (.lf (.bool false)))], none⟩, ⟨(some 4), .al [.bool false, .int .i64 0, .int .i64 0, .int .i64 0], none⟩, ⟨none, .st (.t 4) (.t 6) 4, none⟩] [0, 3, 4]) c36_2
abbrev c36_4 : AC := .seq (.ops 0 [⟨(some 3), .bx (.t 1), none⟩] [0, 3]) c36_3
abbrev c36 : AC := c36_4
theorem c36_ok : compileFn Tryd.prog 36 = some (36, AC.strip c36, []) := by kernel_rfl
/-- harrow/machine.choices$5 -/
abbrev c37_0 : AC := .cond (.t 10) (.ops 0 [⟨(some 11), .mv (.t 0), none⟩, ⟨(some 12), .callp 23 0 [(.t 11)], none⟩] []) .skip
abbrev c37_1 : AC := .seq (.ops 0 [⟨(some 6), .mv (.t 0), none⟩, ⟨(some 7), .nc (.t 6), none⟩, ⟨(some 8), .fa (.t 7) 15, none⟩, ⟨(some 9), .ld (.t 8) 1 false, none⟩, ⟨(some 10), .bin .eql (.t 9) (.k (.lf (.int .i64 0))), none⟩] [0, 10]) c37_0
abbrev c37_2 : AC := .seq (.ops 0 [⟨(some 4), .mv (.t 0), none⟩, ⟨(some 5), .callp 34 0 [(.t 4), (.k (.lf (.bool false)))], none⟩] [0]) c37_1
abbrev c37_3 : AC := .seq (.ops 0 [⟨(some 3), .bx (.t 1), none⟩] [0]) c37_2
abbrev c37 : AC := c37_3
theorem c37_ok : compileFn Tryd.prog 37 = some (13, AC.strip c37, []) := by kernel_rfl
/-- harrow/machine.choices$6 -/
abbrev c38_0 : AC := .seq (.ops 0 [⟨(some 3), .bx (.t 1), none⟩] [0]) (.ops 0 [⟨(some 4), .mv (.t 0), none⟩, ⟨(some 5), .callp 23 0 [(.t 4)], none⟩] [])
abbrev c38 : AC := c38_0
theorem c38_ok : compileFn Tryd.prog 38 = some (6, AC.strip c38, []) := by kernel_rfl
/-- harrow/machine.choices$7 -/
abbrev c39_0 : AC := .seq (.ops 0 [⟨(some 3), .bx (.t 1), none⟩] [0, 3]) (.reg [⟨(some 4), .mv (.t 0), none⟩, ⟨(some 5), .nc (.t 4), none⟩, ⟨(some 6), .fa (.t 5) 5, none⟩, ⟨(some 7), .ld (.t 6) 1 false, none⟩, ⟨(some 8), .fa (.t 3) 1, none⟩, ⟨(some 9), .ld (.t 8) 1 false, none⟩, ⟨(some 10), .bin .add (.t 7) (.t 9), none⟩, ⟨(some 11), .nc (.t 4), none⟩, ⟨(some 12), .fa (.t 11) 5, none⟩] [⟨none, .st (.t 12) (.t 10) 1, none⟩] [])
abbrev c39 : AC := c39_0
theorem c39_ok : compileFn Tryd.prog 39 = some (13, AC.strip c39, []) := by kernel_rfl
/-- harrow/machine.choices$8 -/
abbrev c40_0 : AC := .seq (.ops 0 [⟨(some 4), .mv (.t 0), none⟩, ⟨(some 5), .mv (.t 0), none⟩, ⟨(some 6), .nc (.t 5), none⟩, ⟨(some 7), .fa (.t 6) 5, none⟩, ⟨(some 8), .ld (.t 7) 1 false, none⟩, ⟨(some 9), .bin .add (.t 8) (.k (.lf (.int .i64 1))), none⟩, ⟨(some 10), .bd [.bool false, .int .i64 0, .int .i64 0, .int .i64 0] [(0, 1, (.k (.lf (.bool true)))), (1, 1, (.t 9))], none⟩, ⟨(some 11), .callp 32 0 [(.t 4), (.t 10)], none⟩] [0, 3]) (.reg [⟨(some 12), .mv (.t 0), none⟩, ⟨(some 13), .nc (.t 12), none⟩, ⟨(some 14), .fa (.t 13) 5, none⟩, ⟨(some 15), .ld (.t 14) 1 false, none⟩, ⟨(some 16), .fa (.t 3) 1, none⟩, ⟨(some 17), .ld (.t 16) 1 false, none⟩, ⟨(some 18), .bin .add (.t 15) (.t 17), none⟩, ⟨(some 19), .nc (.t 12), none⟩, ⟨(some 20), .fa (.t 19) 5, none⟩] [⟨none, .st (.t 20) (.t 18) 1, none⟩] [])
abbrev c40_1 : AC := .seq (.ops 0 [⟨(some 3), .bx (.t 1), none⟩] [0, 3]) c40_0
abbrev c40 : AC := c40_1
theorem c40_ok : compileFn Tryd.prog 40 = some (21, AC.strip c40, []) := by kernel_rfl
/-- harrow/machine.choices$9 -/
abbrev c41_0 : AC := .seq (.ops 0 [⟨(some 3), .bx (.t 1), none⟩] [0]) (.ops 0 [⟨(some 4), .mv (.t 0), none⟩, ⟨(some 5), .mv (.t 0), none⟩, ⟨(some 6), .callp 34 0 [(.t 5), (.k (.lf (.bool true)))], none⟩, ⟨(some 7), .fld (.t 6) 1 1 false, none⟩, ⟨(some 8), .nc (.t 4), none⟩, ⟨(some 9), .fa (.t 8) 5, none⟩, ⟨none, .st (.t 9) (.t 7) 1, none⟩] [])
abbrev c41 : AC := c41_0
theorem c41_ok : compileFn Tryd.prog 41 = some (10, AC.strip c41, []) := by kernel_rfl
/-- harrow/machine.choices$10 -/
abbrev c42_0 : AC := .seq (.ops 0 [⟨(some 3), .bx (.t 1), none⟩] [0]) (.ops 0 [⟨(some 4), .mv (.t 0), none⟩, ⟨(some 5), .nc (.t 4), none⟩, ⟨(some 6), .fa (.t 5) 9, none⟩, ⟨(some 7), .fa (.t 6) 0, none⟩, ⟨none, .st (.t 7) (.k (.lf (.int .i64 1))) 1, none⟩] [])
abbrev c42 : AC := c42_0
theorem c42_ok : compileFn Tryd.prog 42 = some (8, AC.strip c42, []) := by kernel_rfl
/-- harrow/machine.captures$1 -/
abbrev c43_0 : AC := .seq (.ops 0 [⟨(some 3), .bx (.t 1), none⟩] [0, 3]) (.reg [⟨(some 4), .mv (.t 0), none⟩, ⟨(some 5), .fa (.t 3) 0, none⟩, ⟨(some 6), .ld (.t 5) 1 false, none⟩, ⟨(some 7), .fa (.t 3) 2, none⟩, ⟨(some 8), .ld (.t 7) 1 false, none⟩, ⟨(some 9), .mv (.t 0), none⟩, ⟨(some 10), .nc (.t 9), none⟩, ⟨(some 11), .fa (.t 10) 6, none⟩, ⟨(some 12), .ld (.t 11) 1 false, none⟩, ⟨(some 13), .fa (.t 3) 3, none⟩, ⟨(some 14), .ld (.t 13) 1 false, none⟩, ⟨(some 15), .fa (.t 3) 4, none⟩, ⟨(some 16), .ld (.t 15) 1 false, none⟩, ⟨(some 17), .bd [.int .i64 0, .int .i64 0, .int .i64 0, .int .i64 0, .int .i64 0, .str ⟨#[]⟩] [(0, 1, (.t 6)), (1, 1, (.t 8)), (2, 1, (.t 12)), (4, 1, (.t 14)), (5, 1, (.t 16))], none⟩] [⟨(some 18), .callp 44 0 [(.t 4), (.t 17)], none⟩] [])
abbrev c43 : AC := c43_0
theorem c43_ok : compileFn Tryd.prog 43 = some (19, AC.strip c43, []) := by kernel_rfl
/-- (*harrow/machine.state).note -/
abbrev c44_0 : AC := .seq (.ops 0 [⟨(some 15), .mv (.t 0), none⟩, ⟨(some 16), .nc (.t 15), none⟩, ⟨(some 17), .fa (.t 16) 15, none⟩, ⟨none, .st (.t 17) (.k (.lf (.int .i64 211))) 1, none⟩] []) .ret
abbrev c44_1 : AC := .cond (.t 14) c44_0 .skip
abbrev c44_2 : AC := .seq (.ops 2 [⟨(some 4), .mv (.t 0), none⟩, ⟨(some 5), .nc (.t 4), none⟩, ⟨(some 6), .fa (.t 5) 8, none⟩, ⟨(some 7), .ld (.t 6) 1 false, none⟩, ⟨(some 8), .len (.t 7), none⟩, ⟨(some 9), .mv (.t 0), none⟩, ⟨(some 10), .nc (.t 9), none⟩, ⟨(some 11), .fa (.t 10) 2, none⟩, ⟨(some 12), .fa (.t 11) 1, none⟩, ⟨(some 13), .ld (.t 12) 1 false, none⟩, ⟨(some 14), .bin .geq (.t 8) (.t 13), none⟩] [0, 3, 14]) c44_1
abbrev c44_3 : AC := .seq (.reg [⟨(some 28), .mv (.t 0), none⟩, ⟨(some 29), .mv (.t 0), none⟩, ⟨(some 30), .nc (.t 29), none⟩, ⟨(some 31), .fa (.t 30) 9, none⟩, ⟨(some 32), .fa (.t 31) 5, none⟩, ⟨(some 33), .ld (.t 32) 1 false, none⟩, ⟨(some 34), .mv (.t 0), none⟩, ⟨(some 35), .nc (.t 34), none⟩, ⟨(some 36), .fa (.t 35) 8, none⟩, ⟨(some 37), .ld (.t 36) 1 false, none⟩, ⟨(some 38), .len (.t 37), none⟩, ⟨(some 39), .mm true (.t 33) (.t 38), none⟩, ⟨(some 40), .nc (.t 28), none⟩, ⟨(some 41), .fa (.t 40) 9, none⟩, ⟨(some 42), .fa (.t 41) 5, none⟩] [⟨none, .st (.t 42) (.t 39) 1, none⟩] [0]) (.ops 0 [⟨(some 43), .mv (.t 0), none⟩, ⟨(some 44), .nc (.t 43), none⟩, ⟨(some 45), .fa (.t 44) 5, none⟩, ⟨(some 46), .ld (.t 45) 1 false, none⟩, ⟨(some 47), .bin .add (.t 46) (.k (.lf (.int .i64 1))), none⟩, ⟨(some 48), .nc (.t 43), none⟩, ⟨(some 49), .fa (.t 48) 5, none⟩, ⟨none, .st (.t 49) (.t 47) 1, none⟩] [])
abbrev c44_4 : AC := .seq (.gdq [⟨(some 18), .mv (.t 0), none⟩, ⟨(some 19), .mv (.t 0), none⟩, ⟨(some 20), .nc (.t 19), none⟩, ⟨(some 21), .fa (.t 20) 8, none⟩, ⟨(some 22), .ld (.t 21) 1 false, none⟩, ⟨(some 23), .ld (.t 3) 6 true, none⟩] [⟨(some 24), .bs 63 6 1 [.int .i64 0, .int .i64 0, .int .i64 0, .int .i64 0, .int .i64 0, .str ⟨#[]⟩] [(0, (.t 23))], none⟩, ⟨(some 25), .app 63 6 56 (.t 22) (.t 24), none⟩, ⟨(some 26), .nc (.t 18), none⟩, ⟨(some 27), .fa (.t 26) 8, none⟩, ⟨none, .st (.t 27) (.t 25) 1, none⟩] [0]) c44_3
abbrev c44_5 : AC := .seq c44_2 c44_4
abbrev c44_6 : AC := .seq (.ops 0 [⟨(some 3), .bx (.t 1), none⟩] [0, 3]) c44_5
abbrev c44 : AC := c44_6
theorem c44_ok : compileFn Tryd.prog 44 = some (50, AC.strip c44, []) := by kernel_rfl
/-- harrow/machine.captures$2 -/
abbrev c45_0 : AC := .seq (.ops 0 [⟨(some 3), .bx (.t 1), none⟩] [0, 3]) (.reg [⟨(some 4), .mv (.t 0), none⟩, ⟨(some 5), .fa (.t 3) 0, none⟩, ⟨(some 6), .ld (.t 5) 1 false, none⟩, ⟨(some 7), .mv (.t 0), none⟩, ⟨(some 8), .nc (.t 7), none⟩, ⟨(some 9), .fa (.t 8) 6, none⟩, ⟨(some 10), .ld (.t 9) 1 false, none⟩, ⟨(some 11), .bd [.int .i64 0, .int .i64 0, .int .i64 0, .int .i64 0, .int .i64 0, .str ⟨#[]⟩] [(0, 1, (.t 6)), (2, 1, (.t 10))], none⟩] [⟨(some 12), .callp 44 0 [(.t 4), (.t 11)], none⟩] [])
abbrev c45 : AC := c45_0
theorem c45_ok : compileFn Tryd.prog 45 = some (13, AC.strip c45, []) := by kernel_rfl
/-- harrow/machine.captures$3 -/
abbrev c46_0 : AC := .seq (.ops 0 [⟨(some 11), .mv (.t 0), none⟩, ⟨(some 12), .nc (.t 11), none⟩, ⟨(some 13), .fa (.t 12) 15, none⟩, ⟨none, .st (.t 13) (.k (.lf (.int .i64 213))) 1, none⟩] []) .ret
abbrev c46_1 : AC := .cond (.t 10) c46_0 .skip
abbrev c46_2 : AC := .seq (.ops 2 [⟨(some 4), .fa (.t 3) 1, none⟩, ⟨(some 5), .ld (.t 4) 1 false, none⟩, ⟨(some 6), .mv (.t 0), none⟩, ⟨(some 7), .nc (.t 6), none⟩, ⟨(some 8), .fa (.t 7) 6, none⟩, ⟨(some 9), .ld (.t 8) 1 false, none⟩, ⟨(some 10), .bin .gtr (.t 5) (.t 9), none⟩] [0, 3, 10]) c46_1
abbrev c46_3 : AC := .seq c46_2 (.reg [⟨(some 14), .mv (.t 0), none⟩, ⟨(some 15), .fa (.t 3) 0, none⟩, ⟨(some 16), .ld (.t 15) 1 false, none⟩, ⟨(some 17), .fa (.t 3) 2, none⟩, ⟨(some 18), .ld (.t 17) 1 false, none⟩, ⟨(some 19), .mv (.t 0), none⟩, ⟨(some 20), .nc (.t 19), none⟩, ⟨(some 21), .fa (.t 20) 6, none⟩, ⟨(some 22), .ld (.t 21) 1 false, none⟩, ⟨(some 23), .fa (.t 3) 1, none⟩, ⟨(some 24), .ld (.t 23) 1 false, none⟩, ⟨(some 25), .bin .sub (.t 22) (.t 24), none⟩, ⟨(some 26), .fa (.t 3) 1, none⟩, ⟨(some 27), .ld (.t 26) 1 false, none⟩, ⟨(some 28), .fa (.t 3) 3, none⟩, ⟨(some 29), .ld (.t 28) 1 false, none⟩, ⟨(some 30), .fa (.t 3) 4, none⟩, ⟨(some 31), .ld (.t 30) 1 false, none⟩, ⟨(some 32), .bd [.int .i64 0, .int .i64 0, .int .i64 0, .int .i64 0, .int .i64 0, .str ⟨#[]⟩] [(0, 1, (.t 16)), (1, 1, (.t 18)), (2, 1, (.t 25)), (3, 1, (.t 27)), (4, 1, (.t 29)), (5, 1, (.t 31))], none⟩] [⟨(some 33), .callp 44 0 [(.t 14), (.t 32)], none⟩] [])
abbrev c46_4 : AC := .seq (.ops 0 [⟨(some 3), .bx (.t 1), none⟩] [0, 3]) c46_3
abbrev c46 : AC := c46_4
theorem c46_ok : compileFn Tryd.prog 46 = some (34, AC.strip c46, []) := by kernel_rfl
end Go.Proofs.YtkmhoholblbbfaaDoor.M
set_option linter.unusedVariables false
set_option linter.unusedSimpArgs false
namespace Go.Proofs.YtkmhoholblbbfaaDoor.M
open Go Go.Proofs.YtkmhoholblbbfaaDoor.AM
variable {X : Cx}
/-- an entry of the machine's stack, a note, the machine's state -/
structure Ent where
  ret : Bool
  pc : Int
  at' : Int
  no : Int
abbrev Ent.c (e : Ent) : List L := [.bool e.ret, .int .i64 e.pc, .int .i64 e.at', .int .i64 e.no]
structure Nt where
  op : Int
  kind : Int
  at' : Int
  len : Int
  n : Int
  t : ByteArray
abbrev Nt.c (x : Nt) : List L := [.int .i64 x.op, .int .i64 x.kind, .int .i64 x.at', .int .i64 x.len, .int .i64 x.n, .str x.t]
structure MS where
  pc : Int
  at' : Int
  st : List Ent
  lg : List Nt
  kind : Int
  steps : Int
  rs : Int
  rn : Int
  bad : Int
/-- what stays in a run: the code, the subject, the limits -/
structure MC where
  code : List (List L)
  sp : List (List L)
  s : ByteArray
  l0 : Int
  l1 : Int
  l2 : Int
abbrev mst (k : MC) (m : MS) : List L := [.lst .ro 9 k.code k.sp, .str k.s, .int .i64 k.l0, .int .i64 k.l1, .int .i64 k.l2, .int .i64 m.pc, .int .i64 m.at', .lst (.own 15 68) 4 (m.st.map Ent.c) [], .lst (.own 17 63) 6 (m.lg.map Nt.c) [], .int .i64 m.kind, .int .i64 0, .lst (.own 23 63) 6 [] [], .int .i64 m.steps, .int .i64 m.rs, .int .i64 m.rn, .int .i64 m.bad]
def pushM (k : MC) (e : Ent) (m : MS) : MS := if k.l0 ≤ (m.st.length : Int) then { m with bad := 210 } else { m with st := m.st ++ [e], rs := max m.rs ((m.st.length : Int) + 1) }
def noteM (k : MC) (x : Nt) (m : MS) : MS := if k.l1 ≤ (m.lg.length : Int) then { m with bad := 211 } else { m with lg := m.lg ++ [x], rn := max m.rn ((m.lg.length : Int) + 1), pc := IntKind.i64.wrap (m.pc + 1) }
theorem r32 (k : MC) (m : MS) (e : Ent) (h : k.l0 ≤ 1048576) : R X Tryd.prog 32 [.lf (.ptr 0 0), .ag e.c] [mst k m] (.tp []) [mst k (pushM k e m)] := by
  obtain ⟨pc, a, st, lg, kind, steps, rs, rn, bad⟩ := m
  obtain ⟨code, sp, s, l0, l1, l2⟩ := k
  simp only at h
  have hl : (st.map Ent.c).length = st.length := List.length_map _
  refine R_i [(15, 15), (17, 17), (23, 23)] [] c32_ok rfl (by simp) ?_
  generalize hr : pushM _ e _ = r
  simp -implicitDefEqProofs (maxSteps := 2000000) only [c32, hl, ↓reduceIte, s_skip, s_ret, s_ops0, s_ops2, s_seq, s_cond, s_opsK, s_seqK_n, s_seqK_r, s_cnd, s_nil, s_cons, s_wopsK, s_wopsqK, s_putK, s_qnil, s_qcons, q_mv, q_bin, q_fa, q_ld, q_nc, q_len, o_mv, o_bin, v_geq, v_part_t, v_part_f, v_atK, o_bx, o_fa, v_fa_p, o_ld, v_ld_p, v_ldC, o_st, v_st_p, v_stCK, o_nc, v_nc_p, o_bs, v_bsK, v_lit_n, v_lit_c, o_len, v_len, o_app, v_app_o, e_t, e_k, e_put, e_get, e_res, e_keep_n, e_keep_c, e_keep1_s, St.init, enum, List.length_nil, List.length_cons, Option.getD_some, Nat.reduceEqDiff, Nat.reduceAdd, reduceCtorEq, true_and, and_true, Bool.not_false, Bool.false_eq_true, decide_eq_true_eq, s_ret_r, s_ret_n, s_retX, s_cells_n, t_tp, t_n, t_ln, t_lc, t_i, t_s, t_l, t_oo, t_rr, r_n, List.map_cons, List.map_nil, Bool.or_false, List.append_nil, List.cons_append, List.nil_append, List.all_cons, List.all_nil, Bool.and_true, Bool.true_and, Bool.and_self, PV.cells, cellL, datL, fillL, Nat.reduceMul, Nat.reduceBEq, Nat.reduceLeDiff, Nat.le_refl, BEq.rfl, List.take_zero, List.drop_zero, List.take_succ_cons, List.drop_succ_cons, List.drop_nil, List.take_nil, List.getElem?_cons_zero, List.getElem?_cons_succ, kp_b, kp_i, kp_s, kp_u, kc_b, kc_i, kc_s, rk_b, rk_i, rk_s, rk_u, rl_b, rl_i, kp_p, kp_lro, rk_p, rk_lro, kc_p, kc_l, kp_lo, rk_lo, m_lf, m_ag, m_n, m_c, m_all, st_i1, st_lo, d_n, d_c, dw_n, dw_b, dw_i, plT, plC, lit_n, lit_c, List.reduceReplicate, List.set_cons_zero, List.length_append, Nat.lt_add_one, Nat.zero_add, Nat.add_zero, true_or, or_true, or_false, o_mm, v_mm, s_reg, q_mm, s_cells_c, t_some, one_0, v_bx_a, s_gdq, s_gqn, s_gqc, s_gqK, s_gqE, s_gq1, s_gq2, s_gqF, s_gqT, pv_p, sv_l, lk_mv, lk_fa, ns_fa, lk_nc, ns_nc, lk_ld, ns_bs, ns_app]
  intro _
  with_reducible refine ite_pr (fun h1 => ?_) (fun h1 => ?_)
  · rw [pushM, if_pos h1] at hr
    subst hr
    simp
  · rw [pushM, if_neg h1] at hr
    subst hr
    refine ⟨by omega, fun _ => ?_⟩
    simp
theorem r44 (k : MC) (m : MS) (x : Nt) (h : k.l1 ≤ 1048576) : R X Tryd.prog 44 [.lf (.ptr 0 0), .ag x.c] [mst k m] (.tp []) [mst k (noteM k x m)] := by
  obtain ⟨pc, a, st, lg, kind, steps, rs, rn, bad⟩ := m
  obtain ⟨code, sp, s, l0, l1, l2⟩ := k
  simp only at h
  have hl : (lg.map Nt.c).length = lg.length := List.length_map _
  refine R_i [(15, 15), (17, 17), (23, 23)] [] c44_ok rfl (by simp) ?_
  generalize hr : noteM _ x _ = r
  simp -implicitDefEqProofs (maxSteps := 2000000) only [c44, hl, ↓reduceIte, s_skip, s_ret, s_ops0, s_ops2, s_seq, s_cond, s_opsK, s_seqK_n, s_seqK_r, s_cnd, s_nil, s_cons, s_wopsK, s_wopsqK, s_putK, s_qnil, s_qcons, q_mv, q_bin, q_fa, q_ld, q_nc, q_len, o_mv, o_bin, v_add, v_geq, v_part_t, v_part_f, v_atK, o_bx, o_fa, v_fa_p, o_ld, v_ld_p, v_ldC, o_st, v_st_p, v_stCK, o_nc, v_nc_p, o_bs, v_bsK, v_lit_n, v_lit_c, o_len, v_len, o_app, v_app_o, e_t, e_k, e_put, e_get, e_res, e_keep_n, e_keep_c, e_keep1_s, St.init, enum, List.length_nil, List.length_cons, Option.getD_some, Nat.reduceEqDiff, Nat.reduceAdd, reduceCtorEq, true_and, and_true, Bool.not_false, Bool.false_eq_true, decide_eq_true_eq, s_ret_r, s_ret_n, s_retX, s_cells_n, t_tp, t_n, t_ln, t_lc, t_i, t_s, t_l, t_oo, t_rr, r_n, List.map_cons, List.map_nil, Bool.or_false, List.append_nil, List.cons_append, List.nil_append, List.all_cons, List.all_nil, Bool.and_true, Bool.true_and, Bool.and_self, PV.cells, cellL, datL, fillL, Nat.reduceMul, Nat.reduceBEq, Nat.reduceLeDiff, Nat.le_refl, BEq.rfl, List.take_zero, List.drop_zero, List.take_succ_cons, List.drop_succ_cons, List.drop_nil, List.take_nil, List.getElem?_cons_zero, List.getElem?_cons_succ, kp_b, kp_i, kp_s, kp_u, kc_i, kc_s, rk_b, rk_i, rk_s, rk_u, rl_i, rl_s, kp_p, kp_lro, rk_p, rk_lro, kc_p, kc_l, kp_lo, rk_lo, m_lf, m_ag, m_n, m_c, m_all, st_i1, st_lo, d_n, d_c, dw_n, dw_i, dw_s, plT, plC, lit_n, lit_c, List.reduceReplicate, List.set_cons_zero, List.length_append, Nat.lt_add_one, Nat.zero_add, Nat.add_zero, true_or, or_true, or_false, o_mm, v_mm, s_reg, q_mm, s_cells_c, t_some, one_0, v_bx_a, s_gdq, s_gqn, s_gqc, s_gqK, s_gqE, s_gq1, s_gq2, s_gqF, s_gqT, pv_p, sv_l, lk_mv, lk_fa, ns_fa, lk_nc, ns_nc, lk_ld, ns_bs, ns_app]
  intro _
  with_reducible refine ite_pr (fun h1 => ?_) (fun h1 => ?_)
  · rw [noteM, if_pos h1] at hr
    subst hr
    simp
  · rw [noteM, if_neg h1] at hr
    subst hr
    refine ⟨by omega, fun _ => ?_⟩
    simp
/-- the last entry is taken, which must be a return, or a choice -/
def ent0 : Ent := ⟨false, 0, 0, 0⟩
def popM (ret : Bool) (m : MS) : Ent × MS :=
  match m.st.getLast? with
  | none => (ent0, { m with bad := 213 })
  | some e => if e.ret = ret then (e, { m with st := m.st.dropLast }) else (ent0, { m with bad := 213 })
theorem r34 (k : MC) (m : MS) (ret : Bool) (h : m.st.length ≤ 1048576) : R X Tryd.prog 34 [.lf (.ptr 0 0), .lf (.bool ret)] [mst k m] (.ag (popM ret m).1.c) [mst k (popM ret m).2] := by
  obtain ⟨pc, a, st, lg, kind, steps, rs, rn, bad⟩ := m
  obtain ⟨code, sp, s, l0, l1, l2⟩ := k
  simp only at h
  have hl : (st.map Ent.c).length = st.length := List.length_map _
  refine R_i [(15, 15), (17, 17), (23, 23)] [] c34_ok rfl (by simp) ?_
  generalize hr : popM ret _ = r
  rcases List.eq_nil_or_concat st with rfl | ⟨st', e, rfl⟩
  · simp only [popM, List.getLast?_nil] at hr
    subst hr
    have w0 : IntKind.i64.wrap (((0 : Nat) : Int) - 1) = -1 := by decide
    have hm1 : (-1 : Int) < 0 := by decide
    simp -implicitDefEqProofs (maxSteps := 2000000) only [c34, hl, w0, ent0, hm1, decide_true, ↓reduceIte, s_ret, s_ops0, s_seq, s_cond, s_opsK, s_seqK_n, s_seqK_r, s_cnd, s_nil, s_cons, s_guard, s_wopsK, s_putK, s_grd, o_mv, o_as, o_pk, v_pk, o_bin, v_sub, v_lss, v_part_f, v_atK, o_al, o_fa, v_fa_p, o_ld, v_ld_p, v_ldC, o_st, v_st_p, v_stCK, o_nc, v_nc_p, o_bd, v_agK, v_bd_n, o_len, v_len, e_t, e_k, e_put, e_get, e_res, e_keep_n, e_keep_c, e_keep1_s, e_asg_i, St.init, enum, List.length_nil, List.length_cons, Option.getD_some, Nat.reduceEqDiff, Nat.reduceAdd, reduceCtorEq, true_and, and_true, Bool.not_false, Bool.true_eq_false, Bool.false_eq_true, s_ret_r, s_retX, s_cells_n, t_ag, t_ln, t_lc, t_b, t_i, t_s, t_l, t_oo, t_rr, r_n, r_c, r_cons, r_cell, r_part_t, one_1, List.map_cons, List.map_nil, List.append_nil, List.cons_append, List.nil_append, List.all_cons, List.all_nil, Bool.and_true, Bool.true_and, Bool.and_self, PV.cells, cellL, fillL, Nat.reduceBEq, Nat.reduceLeDiff, Nat.zero_le, Nat.le_refl, List.take_zero, List.drop_zero, List.take_succ_cons, List.drop_succ_cons, List.drop_nil, List.take_nil, List.getElem?_cons_zero, List.getElem?_cons_succ, Option.bind_some, kc_b, kc_i, kc_s, kc_p, kc_l, m_lf, m_n, m_c, m_all, st_b, st_i1, d_n, d_c, Int.reduceNeg, Nat.lt_add_one, Nat.zero_add, true_or, or_true, implies_true, s_cells_c, t_some]
  · have hl2 : (st'.concat e).length = st'.length + 1 := by simp
    have w1 : IntKind.i64.wrap (((st'.length + 1 : Nat) : Int) - 1) = (st'.length : Int) := by
      have : st'.length + 1 ≤ 1048576 := by simpa using h
      rw [show ((st'.length + 1 : Nat) : Int) - 1 = (st'.length : Int) by omega, w64 (by omega) (by omega)]
    have hg : ((st'.concat e).map Ent.c).getD st'.length [] = e.c := by simp [List.getD_eq_getElem?_getD]
    simp only [popM, List.concat_eq_append, List.getLast?_concat, List.dropLast_concat] at hr
    have hneg : ¬ ((st'.length : Int) < 0) := by omega
    simp -implicitDefEqProofs (maxSteps := 2000000) only [c34, hl, hl2, w1, hneg, hg, v_ld_e, Int.toNat_natCast, ↓reduceIte, s_skip, s_ret, s_ops0, s_seq, s_cond, s_opsK, s_seqK_n, s_seqK_r, s_cnd, s_nil, s_cons, s_guard, s_wopsK, s_putK, s_grd, q_mv, q_bqb, q_fa, q_ia, q_ld, q_nc, o_mv, o_as, o_pk, v_pk, o_bin, v_sub, v_lss, o_bqb, v_bqb, v_part_t, v_part_f, v_atK, o_al, o_fa, v_fa_p, v_fa_e, o_ia, v_ia, o_ld, v_ld_p, v_ldC, o_st, v_st_p, v_stCK, o_nc, v_nc_p, o_bd, v_agK, v_bd_n, o_len, v_len, o_sll, v_sll_b, e_t, e_k, e_put, e_get, e_res, e_keep_n, e_keep_c, e_keep1_s, e_asg_i, St.init, enum, List.length_nil, List.length_cons, Option.getD_some, Option.map_some, Option.map_none, Nat.reduceEqDiff, Nat.reduceAdd, reduceCtorEq, true_and, and_true, cond_false, Bool.not_true, Bool.false_eq_true, decide_eq_false_iff_not, s_ret_r, s_retX, s_cells_n, t_ag, t_ln, t_lc, t_b, t_i, t_s, t_l, t_oo, t_rr, r_n, r_c, r_cons, r_cell, r_part_t, one_1, List.map_cons, List.map_nil, List.append_nil, List.cons_append, List.nil_append, List.all_cons, List.all_nil, Bool.and_true, Bool.true_and, Bool.and_self, PV.cells, cellL, fillL, Nat.reduceMul, Nat.reduceBEq, Nat.reduceLeDiff, Nat.le_refl, BEq.rfl, List.take_zero, List.drop_zero, List.take_succ_cons, List.drop_succ_cons, List.drop_nil, List.take_nil, List.getElem?_cons_zero, List.getElem?_cons_succ, Option.bind_some, kc_b, kc_i, kc_s, kc_p, kc_l, m_lf, m_ag, m_n, m_c, m_all, st_b, st_i1, st_lo, d_n, d_c, plC, not_false_eq_true, Nat.lt_add_one, Nat.zero_add, Nat.add_zero, true_or, or_true, Bool.not_eq_eq_eq_not, kc_eo, s_cells_c, t_some]
    intro _
    refine ⟨by omega, ?_⟩
    with_reducible refine ite_pr (fun h1 => ?_) (fun h1 => ?_)
    · have h2 : ¬ e.ret = ret := by simpa using h1
      rw [if_neg h2] at hr
      subst hr
      simp [ent0]
    · have h2 : e.ret = ret := by simpa using h1
      rw [if_pos h2] at hr
      subst hr
      refine ⟨by omega, ⟨by omega, by omega⟩, ?_⟩
      simp
/-- the byte at the place, if there is one -/
theorem fn15 : fnOK Tryd.prog 15 = true := by kernel_rfl
theorem fn17 : fnOK Tryd.prog 17 = true := by kernel_rfl
theorem fn19 : fnOK Tryd.prog 19 = true := by kernel_rfl
theorem r15 (b : Int) : R X Tryd.prog 15 [.lf (.int .u8 b)] [] (.lf (.bool true)) [] := by
  refine R_i [] [] c15_ok rfl (by simp) ?_
  simp -implicitDefEqProofs (maxSteps := 2000000) only [c15, ↓reduceIte, s_ret, s_ops0, s_seq, s_opsK, s_seqK_n, s_nil, s_cons, s_wopsK, o_as, e_t, e_k, e_get, e_res, e_keep_n, e_keep_c, e_keep1_s, e_asg_b, St.init, enum, List.length_nil, Option.getD_some, and_true, s_ret_r, s_retX, s_cells_n, t_lf, t_b, r_n, r_t, r_cons, one_1, Bool.and_true]
theorem r17 (b : Int) (h0 : 0 ≤ b) (h1 : b ≤ 255) (x : Ins) : R X Tryd.prog 17 [.lf (.int .u8 b), .lf (.rp x.c 0)] [] (.lf (.bool (decide (b = x.b)))) [] := by
  have w : IntKind.i64.wrap b = b := w64 (by omega) (by omega)
  simp only [Ins.c]
  refine R_i [] [] c17_ok rfl (by simp) ?_
  simp -implicitDefEqProofs (maxSteps := 2000000) only [c17, w, ↓reduceIte, s_ret, s_ops0, s_seq, s_opsK, s_seqK_n, s_nil, s_cons, s_wopsK, s_putK, o_mv, o_as, o_bin, v_eql, o_cvi, v_cvi, v_part_f, v_atK, o_fa, o_ld, e_t, e_k, e_put, e_get, e_res, e_keep_n, e_keep_c, e_keep1_s, e_asg_b, St.init, enum, List.length_nil, Option.getD_some, Nat.reduceEqDiff, reduceCtorEq, and_true, s_ret_r, s_retX, s_cells_n, t_lf, t_b, r_n, r_t, r_cons, one_1, Bool.and_true, List.getElem?_cons_zero, List.getElem?_cons_succ, Nat.zero_add, v_fa_r, v_ld_r]
  trace_state
  done
end Go.Proofs.YtkmhoholblbbfaaDoor.M
set_option linter.unusedVariables false
set_option linter.unusedSimpArgs false
namespace Go.Proofs.YtkmhoholblbbfaaDoor.M
open Go Go.Proofs.YtkmhoholblbbfaaDoor.AM
variable {X : Cx}
theorem r14 (x : Ins) : R X Tryd.prog 14 [.ag x.c] [] (.lf (.fn 15 [] [])) [] := by
  simp only [Ins.c]
  refine R_i [] [] c14_ok rfl (by simp) ?_
  simp -implicitDefEqProofs (maxSteps := 2000000) only [c14, ↓reduceIte, s_ret, s_ops0, s_seq, s_opsK, s_seqK_n, s_nil, s_cons, s_wopsK, o_as, o_bx, e_t, e_k, e_get, e_res, e_keep_n, e_keep_c, e_keep1_s, St.init, enum, List.length_nil, Option.getD_some, and_true, s_ret_r, s_retX, s_cells_n, t_lf, r_n, r_t, r_cons, one_1, List.map_cons, List.map_nil, Bool.and_true, Nat.zero_le, kc_i, kc_s, m_ag, m_n, m_c, m_all, d_n, pl_nn, e_asg_fn, t_f, v_bx_a, e_asg_nf]
theorem r16 (x : Ins) : R X Tryd.prog 16 [.ag x.c] [] (.lf (.fn 17 [] [.rp x.c 0])) [] := by
  simp only [Ins.c]
  refine R_i [] [] c16_ok rfl (by simp) ?_
  simp -implicitDefEqProofs (maxSteps := 2000000) only [c16, ↓reduceIte, s_ops0, s_seq, s_opsK, s_seqK_n, s_nil, s_cons, s_wopsK, o_as, o_bx, e_t, e_k, e_put, e_get, e_res, e_keep_n, e_keep_c, e_keep1_s, St.init, enum, List.length_nil, Option.getD_some, Option.map_some, Nat.reduceEqDiff, true_and, List.map_cons, List.map_nil, List.nil_append, List.all_cons, List.all_nil, Bool.true_and, Bool.and_self, Nat.zero_le, kc_i, kc_s, m_ag, m_n, m_c, m_all, d_n, dw_n, dw_p, rc_p, o_mkf, v_mkf, v_lf_n, v_lf_c, v_bx_a, e_asg_nf, capL]
  refine wmkf_f [1] ?_
  simp -implicitDefEqProofs (maxSteps := 2000000) only [c16, ↓reduceIte, s_ret, s_opsK, s_seqK_n, s_nil, s_cons, s_wopsK, o_as, e_t, e_get, e_res, e_keep_n, e_keep_c, e_keep1_s, Option.getD_some, true_and, and_true, s_ret_r, s_retX, s_cells_n, t_lf, r_n, r_t, r_cons, one_1, List.map_cons, List.map_nil, List.all_cons, List.all_nil, Bool.and_true, Bool.true_and, Bool.and_self, Nat.zero_le, BEq.rfl, m_lf, m_n, m_c, d_n, d_c, e_asg_fn, t_f, fz_p, fz_fn, f1_p, fD_i, fD_s, wf_n, wf_c, wf_o, e_frz]
  rfl
theorem r18 (x : Ins) : R X Tryd.prog 18 [.ag x.c] [] (.lf (.fn 19 [] [.rp x.c 0])) [] := by
  simp only [Ins.c]
  refine R_i [] [] c18_ok rfl (by simp) ?_
  simp -implicitDefEqProofs (maxSteps := 2000000) only [c18, ↓reduceIte, s_ops0, s_seq, s_opsK, s_seqK_n, s_nil, s_cons, s_wopsK, o_as, o_bx, e_t, e_k, e_put, e_get, e_res, e_keep_n, e_keep_c, e_keep1_s, St.init, enum, List.length_nil, Option.getD_some, Option.map_some, Nat.reduceEqDiff, true_and, List.map_cons, List.map_nil, List.nil_append, List.all_cons, List.all_nil, Bool.true_and, Bool.and_self, Nat.zero_le, kc_i, kc_s, m_ag, m_n, m_c, m_all, d_n, dw_n, dw_p, rc_p, o_mkf, v_mkf, v_lf_n, v_lf_c, v_bx_a, e_asg_nf, capL]
  refine wmkf_f [1] ?_
  simp -implicitDefEqProofs (maxSteps := 2000000) only [c18, ↓reduceIte, s_ret, s_opsK, s_seqK_n, s_nil, s_cons, s_wopsK, o_as, e_t, e_get, e_res, e_keep_n, e_keep_c, e_keep1_s, Option.getD_some, true_and, and_true, s_ret_r, s_retX, s_cells_n, t_lf, r_n, r_t, r_cons, one_1, List.map_cons, List.map_nil, List.all_cons, List.all_nil, Bool.and_true, Bool.true_and, Bool.and_self, Nat.zero_le, BEq.rfl, m_lf, m_n, m_c, d_n, d_c, e_asg_fn, t_f, fz_p, fz_fn, f1_p, fD_i, fD_s, wf_n, wf_c, wf_o, e_frz]
  rfl
/-- is bit b of the set on? -/
def setI (x : Ins) (b : Int) : Bool := decide (bits .and .u64 ((match b / 64 with | 0 => x.s0 | 1 => x.s1 | 2 => x.s2 | _ => x.s3).fdiv (2 ^ min (b % 64).toNat IntKind.u64.bits)) 1 = 1)
theorem r19 (b : Int) (h0 : 0 ≤ b) (h1 : b ≤ 255) (x : Ins) : R X Tryd.prog 19 [.lf (.int .u8 b), .lf (.rp x.c 0)] [] (.lf (.bool (setI x b))) [] := by
  simp only [Ins.c]
  refine R_i [] [] c19_ok rfl (by simp) ?_
  generalize hr : setI x b = r
  unfold setI at hr
  have e1 : IntKind.u8.wrap (b.tdiv 64) = b / 64 := by rw [Int.tdiv_eq_ediv_of_nonneg h0, w8 (by omega) (by omega)]
  have e2 : b.tmod 64 = b % 64 := Int.tmod_eq_emod_of_nonneg h0
  have hq : b / 64 = 0 ∨ b / 64 = 1 ∨ b / 64 = 2 ∨ b / 64 = 3 := by omega
  have hm : 0 ≤ b % 64 := by omega
  have t0 : (0 : Int).toNat = 0 := rfl
  have t1 : (1 : Int).toNat = 1 := rfl
  have t2 : (2 : Int).toNat = 2 := rfl
  have t3 : (3 : Int).toNat = 3 := rfl
  rcases hq with hq | hq | hq | hq
  all_goals
    rw [hq] at hr e1
    simp -implicitDefEqProofs (maxSteps := 2000000) only [c19, e1, e2, t0, t1, t2, t3, hm, ↓reduceIte, s_ret, s_ops0, s_seq, s_opsK, s_seqK_n, s_nil, s_cons, s_wopsK, s_putK, o_mv, o_as, o_bin, v_quo, v_rem, v_and, v_shr, v_eql, v_part_f, v_atK, o_fa, o_iaa, o_ld, e_t, e_k, e_put, e_get, e_res, e_keep_n, e_keep_c, e_keep1_s, e_asg_b, St.init, enum, List.length_nil, Option.getD_some, Nat.reduceEqDiff, Nat.reduceAdd, reduceCtorEq, true_and, and_true, s_ret_r, s_retX, s_cells_n, t_lf, t_b, r_n, r_t, r_cons, one_1, Bool.and_true, Bool.true_and, Nat.reduceMul, List.getElem?_cons_zero, List.getElem?_cons_succ, ne_eq, Nat.zero_add, Nat.add_zero, v_fa_r, v_iaa_r, v_ld_r]
    exact ⟨by decide, ⟨by decide, by decide⟩, by decide, hr⟩
theorem r20 (g : Nat) : R X Tryd.prog 20 [.lf (.fn g [] [])] [] (.lf (.fn 21 [] [.rp [.fn g [] []] 0])) [] := by
  refine R_i [] [] c20_ok rfl (by simp) ?_
  simp -implicitDefEqProofs (maxSteps := 2000000) only [c20, ↓reduceIte, s_ops0, s_seq, s_opsK, s_seqK_n, s_nil, s_cons, s_wopsK, o_as, o_bx, e_t, e_k, e_put, e_get, e_res, e_keep_n, e_keep_c, e_keep1_s, St.init, enum, List.length_nil, Option.getD_some, Option.map_some, Nat.reduceEqDiff, true_and, Bool.false_eq_true, List.map_cons, List.map_nil, List.any_nil, Bool.or_self, List.nil_append, List.all_cons, List.all_nil, Bool.true_and, Bool.and_self, cellL, Nat.zero_le, m_lf, m_n, m_c, m_all, d_n, dw_n, dw_p, kc_fn, rc_p, o_mkf, v_mkf, v_lf_n, v_lf_c, v_bx_l, e_asg_nf, capL]
  refine wmkf_f [1] ?_
  simp -implicitDefEqProofs (maxSteps := 2000000) only [c20, ↓reduceIte, s_ret, s_opsK, s_seqK_n, s_nil, s_cons, s_wopsK, o_as, e_t, e_get, e_res, e_keep_n, e_keep_c, e_keep1_s, Option.getD_some, true_and, and_true, s_ret_r, s_retX, s_cells_n, t_lf, r_n, r_t, r_cons, one_1, List.map_cons, List.map_nil, List.all_cons, List.all_nil, Bool.and_true, Bool.true_and, Bool.and_self, Nat.zero_le, BEq.rfl, m_lf, m_n, m_c, d_n, d_c, pl_nn, e_asg_fn, t_f, fz_p, fz_fn, f1_p, fD_fn, wf_n, wf_c, wf_o, e_frz]
  rfl
theorem r24 (g : Nat) : R X Tryd.prog 24 [.lf (.fn g [] [])] [] (.lf (.fn 25 [] [.rp [.fn g [] []] 0])) [] := by
  refine R_i [] [] c24_ok rfl (by simp) ?_
  simp -implicitDefEqProofs (maxSteps := 2000000) only [c24, ↓reduceIte, s_ops0, s_seq, s_opsK, s_seqK_n, s_nil, s_cons, s_wopsK, o_as, o_bx, e_t, e_k, e_put, e_get, e_res, e_keep_n, e_keep_c, e_keep1_s, St.init, enum, List.length_nil, Option.getD_some, Option.map_some, Nat.reduceEqDiff, true_and, Bool.false_eq_true, List.map_cons, List.map_nil, List.any_nil, Bool.or_self, List.nil_append, List.all_cons, List.all_nil, Bool.true_and, Bool.and_self, cellL, Nat.zero_le, m_lf, m_n, m_c, m_all, d_n, dw_n, dw_p, kc_fn, rc_p, o_mkf, v_mkf, v_lf_n, v_lf_c, v_bx_l, e_asg_nf, capL]
  refine wmkf_f [1] ?_
  simp -implicitDefEqProofs (maxSteps := 2000000) only [c24, ↓reduceIte, s_ret, s_opsK, s_seqK_n, s_nil, s_cons, s_wopsK, o_as, e_t, e_get, e_res, e_keep_n, e_keep_c, e_keep1_s, Option.getD_some, true_and, and_true, s_ret_r, s_retX, s_cells_n, t_lf, r_n, r_t, r_cons, one_1, List.map_cons, List.map_nil, List.all_cons, List.all_nil, Bool.and_true, Bool.true_and, Bool.and_self, Nat.zero_le, BEq.rfl, m_lf, m_n, m_c, d_n, d_c, pl_nn, e_asg_fn, t_f, fz_p, fz_fn, f1_p, fD_fn, wf_n, wf_c, wf_o, e_frz]
  rfl
/-- a byte that goes is ahead -/
def seesB (k : MC) (G : Int → Bool) (m : MS) : Bool := decide (m.at' < (k.s.size : Int)) && G (byteAt k.s m.at')
theorem r22 (k : MC) (m : MS) (f : Nat) (cp : List L) (G : Int → Bool) (hf : fnOK Tryd.prog f = true) (hp : pureL [] cp = true) (hG : ∀ b : Int, 0 ≤ b → b ≤ 255 → R X Tryd.prog f ([.lf (.int .u8 b)] ++ cp.map (fun x => .lf x)) [] (.lf (.bool (G b))) [])
    (ha : 0 ≤ m.at') : R X Tryd.prog 22 [.lf (.ptr 0 0), .lf (.fn f [] cp)] [mst k m] (.lf (.bool (seesB k G m))) [mst k m] := by
  obtain ⟨pc, a, st, lg, kind, steps, rs, rn, bad⟩ := m
  obtain ⟨code, sp, s, l0, l1, l2⟩ := k
  simp only at ha
  refine R_i [(15, 15), (17, 17), (23, 23)] [] c22_ok rfl (by simp) ?_
  generalize hr : seesB _ G _ = r
  simp only [seesB] at hr
  simp -implicitDefEqProofs (maxSteps := 2000000) only [c22, ↓reduceIte, s_ret, s_ops0, s_seq, s_opsK, s_seqK_n, s_nil, s_cons, s_guard, s_wopsK, s_wopsqK, s_putK, s_grd, s_qnil, s_qcons, s_qguard, q_mv, q_bin, q_ixs, q_fa, q_ld, q_nc, q_lns, o_mv, o_as, o_pk, v_pk, o_bin, v_lss, v_part_f, v_atK, o_ixs, v_ixs, o_fa, v_fa_p, o_ld, v_ld_p, v_ldC, o_nc, v_nc_p, o_lns, v_lns, e_t, e_k, e_put, e_get, e_res, e_keep_n, e_keep_c, e_keep1_s, e_asg_b, St.init, enum, List.length_nil, List.length_cons, Option.getD_some, Nat.reduceEqDiff, reduceCtorEq, true_and, and_true, cond_true, cond_false, Bool.not_true, Bool.false_eq_true, decide_eq_true_eq, s_ret_r, s_retX, s_cells_n, t_lf, t_ln, t_lc, t_b, t_i, t_s, t_l, t_oo, t_rr, r_n, r_t, r_cons, one_1, List.map_cons, List.map_nil, PV.leaves, List.flatMap_cons, List.flatMap_nil, List.append_nil, Bool.and_true, Bool.true_and, List.getElem?_cons_zero, List.getElem?_cons_succ, rl_i, m_lf, Nat.lt_add_one, Nat.zero_add, true_or, or_true, o_cald, s_reg, s_cells_c, t_some]
  with_reducible refine ite_pr (fun h1 => ?_) (fun h1 => ?_)
  · refine ⟨⟨ha, h1⟩, wcald_i hf hp (hG _ (byteAt_0 s a) (byteAt_1 s a)) rfl ?_⟩
    simp -implicitDefEqProofs (maxSteps := 2000000) only [c22, ↓reduceIte, s_ret, s_opsK, s_seqK_n, s_nil, s_cons, s_wopsK, s_putK, o_as, o_pk, v_pk, e_t, e_k, e_put, e_get, e_res, e_keep_n, e_keep_c, e_keep1_s, e_asg_b, Option.getD_some, Nat.reduceEqDiff, true_and, and_true, Bool.false_eq_true, s_ret_r, s_retX, s_cells_n, t_lf, t_ln, t_lc, t_b, t_i, t_s, t_l, t_oo, t_rr, r_n, r_t, r_cons, one_1, St.clr, outV, ownsV, owns1, ownL, Bool.and_true, Bool.true_and, ol_b, m_lf, dw_n, dw_i, Nat.lt_add_one, Nat.zero_add, true_or, or_true, s_cells_c, t_some]
    rw [← hr]
    simp [h1]
  · rw [← hr]
    simp [h1]
end Go.Proofs.YtkmhoholblbbfaaDoor.M
set_option linter.unusedVariables false
set_option linter.unusedSimpArgs false
namespace Go.Proofs.YtkmhoholblbbfaaDoor.M
open Go Go.Proofs.YtkmhoholblbbfaaDoor.AM
variable {X : Cx}
abbrev W (z : Int) : Int := IntKind.i64.wrap z
def choiceM (k : MC) (x : Ins) (m : MS) : MS := { pushM k ⟨false, W (m.pc + x.a), m.at', m.lg.length⟩ m with pc := W ((pushM k ⟨false, W (m.pc + x.a), m.at', m.lg.length⟩ m).pc + 1) }
def commitM (x : Ins) (m : MS) : MS := { (popM false m).2 with pc := W ((popM false m).2.pc + x.a) }
def jumpM (x : Ins) (m : MS) : MS := { m with pc := W (m.pc + x.a) }
def callM (k : MC) (x : Ins) (m : MS) : MS := { pushM k ⟨true, W (m.pc + 1), 0, 0⟩ m with pc := W ((pushM k ⟨true, W (m.pc + 1), 0, 0⟩ m).pc + x.a) }
def retM (m : MS) : MS := { (popM true m).2 with pc := (popM true m).1.pc }
def endM (m : MS) : MS := { m with kind := 1 }
def openM (k : MC) (x : Ins) (m : MS) : MS := noteM k ⟨x.op, x.b, m.at', 0, x.n, x.t⟩ m
def closeM (k : MC) (x : Ins) (m : MS) : MS := noteM k ⟨x.op, 0, m.at', 0, 0, ⟨#[]⟩⟩ m
def fullM (k : MC) (x : Ins) (m : MS) : MS := if m.at' < x.a then { m with bad := 213 } else noteM k ⟨x.op, x.b, W (m.at' - x.a), x.a, x.n, x.t⟩ m
theorem r31 (k : MC) (m : MS) (x : Ins) (h : k.l0 ≤ 1048576) : R X Tryd.prog 31 [.lf (.ptr 0 0), .ag x.c] [mst k m] (.tp []) [mst k (choiceM k x m)] := by
  have h32 := fun e => r32 (X := X) k m e h
  have hl : (m.lg.map Nt.c).length = m.lg.length := List.length_map _
  unfold choiceM
  simp only [Ins.c]
  refine R_i [(15, 15), (17, 17), (23, 23)] [] c31_ok rfl (by simp) ?_
  simp -implicitDefEqProofs (maxSteps := 2000000) only [c31, hl, ↓reduceIte, s_ops0, s_seq, s_opsK, s_seqK_n, s_nil, s_cons, s_wopsK, s_wopsqK, s_putK, s_qnil, s_qcons, q_mv, q_bin, q_fa, q_ld, q_nc, q_bd, q_len, o_bin, v_add, v_part_f, v_atK, o_bx, o_fa, v_fa_p, o_ld, v_ld_p, v_ldC, o_nc, v_nc_p, o_bd, v_agK, v_bd_n, v_bd_c, o_len, v_len, e_t, e_put, e_get, e_res, e_keep_n, e_keep_c, e_keep1_s, St.init, enum, List.length_nil, List.length_cons, Option.getD_some, Nat.reduceEqDiff, Nat.reduceAdd, reduceCtorEq, true_and, Bool.false_eq_true, List.map_cons, List.map_nil, PV.leaves, List.flatMap_cons, List.flatMap_nil, List.append_nil, List.cons_append, List.nil_append, List.all_cons, List.all_nil, Bool.true_and, Bool.and_self, PV.cells, cellL, fillL, Nat.reduceBEq, Nat.reduceLeDiff, Nat.le_refl, List.take_zero, List.drop_zero, List.take_succ_cons, List.drop_succ_cons, List.drop_nil, List.getElem?_cons_zero, List.getElem?_cons_succ, Option.bind_some, kc_i, kc_s, kc_p, kc_l, m_lf, m_ag, m_n, m_c, m_all, d_n, d_c, dw_n, dw_b, dw_i, dw_p, ne_eq, not_false_eq_true, Nat.zero_add, ta_b, ta_i, ta_p, pc_p, s_reg, o_callp, v_callp, v_bx_a]
  intro _
  refine pcall_i (h32 ⟨false, W (m.pc + x.a), m.at', m.lg.length⟩) rfl rfl ?_
  generalize pushM k _ m = m1
  simp -implicitDefEqProofs (maxSteps := 2000000) only [c31, ↓reduceIte, s_ops0, s_opsK, s_seqK_n, s_nil, s_cons, s_wopsK, s_putK, o_mv, o_bin, v_add, v_part_f, v_atK, o_fa, v_fa_p, o_ld, v_ld_p, v_ldC, o_st, v_st_p, v_stCK, o_nc, v_nc_p, e_t, e_k, e_put, e_get, e_res, e_keep_n, e_keep_c, e_keep1_s, List.length_nil, List.length_cons, Option.getD_some, Nat.reduceEqDiff, Nat.reduceAdd, reduceCtorEq, true_and, and_true, Bool.false_eq_true, s_ret_n, s_retX, s_cells_n, t_tp, t_n, t_ln, t_lc, t_i, t_s, t_l, t_oo, t_rr, r_n, outV, ownsV, List.map_cons, List.map_nil, List.any_nil, List.cons_append, List.nil_append, List.all_cons, List.all_nil, Bool.and_true, Bool.true_and, Bool.and_self, PV.cells, cellL, fillL, Nat.reduceMul, Nat.reduceLeDiff, BEq.rfl, List.take_zero, List.drop_zero, List.take_succ_cons, List.drop_succ_cons, List.getElem?_cons_zero, List.getElem?_cons_succ, m_lf, m_ag, m_tp, m_n, m_c, st_i1, d_n, d_c, Nat.lt_add_one, Nat.zero_add, true_or, or_true, fc_i, fc_s, fc_lr, fc_lo, kl_b, kl_i, kl_s, kl_p, kl_lr, kl_lo, kf_s, cp_st, s_cells_c, t_some, isC, cplc, Nat.reduceMod, Nat.reduceDiv, one_0]
  done
theorem r33 (k : MC) (m : MS) (x : Ins) (h : m.st.length ≤ 1048576) : R X Tryd.prog 33 [.lf (.ptr 0 0), .ag x.c] [mst k m] (.tp []) [mst k (commitM x m)] := by
  have h34 := r34 (X := X) k m false h
  unfold commitM
  simp only [Ins.c]
  refine R_i [(15, 15), (17, 17), (23, 23)] [] c33_ok rfl (by simp) ?_
  simp -implicitDefEqProofs (maxSteps := 2000000) only [c33, ↓reduceIte, s_ops0, s_seq, s_opsK, s_seqK_n, s_nil, s_cons, s_wopsK, o_mv, o_bx, e_t, e_k, e_put, e_get, e_res, e_keep_n, e_keep_c, e_keep1_s, St.init, enum, List.length_nil, List.length_cons, Option.getD_some, reduceCtorEq, true_and, Bool.false_eq_true, List.map_cons, List.map_nil, PV.leaves, List.flatMap_cons, List.flatMap_nil, List.append_nil, List.cons_append, List.nil_append, Bool.true_and, Nat.reduceBEq, Nat.reduceLeDiff, List.getElem?_cons_zero, Option.bind_some, kc_i, kc_s, kc_p, kc_l, m_lf, m_ag, m_n, m_c, m_all, d_n, d_c, dw_n, dw_b, dw_p, Nat.zero_add, ta_b, ta_p, pc_p, o_callp, v_callp, v_bx_a]
  refine pcall_i h34 rfl rfl ?_
  generalize popM false m = p
  simp -implicitDefEqProofs (maxSteps := 2000000) only [c33, ↓reduceIte, s_opsK, s_seqK_n, s_nil, s_cons, s_wopsK, s_wopsqK, s_putK, s_qnil, s_qcons, q_mv, q_bin, q_fa, q_ld, q_nc, o_bin, v_add, v_part_f, v_atK, o_fa, v_fa_p, o_ld, v_ld_p, v_ldC, o_st, v_st_p, v_stCK, o_nc, v_nc_p, e_t, e_put, e_get, e_res, e_keep_n, e_keep_c, e_keep1_s, List.length_nil, List.length_cons, Option.getD_some, Nat.reduceEqDiff, Nat.reduceAdd, reduceCtorEq, true_and, and_true, Bool.false_eq_true, s_ret_n, s_retX, s_cells_n, t_tp, t_n, t_ln, t_lc, t_i, t_s, t_l, t_oo, t_rr, r_n, outV, ownsV, owns1, ownL, List.map_cons, List.map_nil, List.any_cons, List.any_nil, Bool.or_self, List.cons_append, List.nil_append, List.all_cons, List.all_nil, Bool.and_true, Bool.true_and, Bool.and_self, PV.cells, cellL, fillL, Nat.reduceMul, Nat.reduceLeDiff, BEq.rfl, List.take_zero, List.drop_zero, List.take_succ_cons, List.drop_succ_cons, List.getElem?_cons_zero, List.getElem?_cons_succ, ol_b, ol_i, m_lf, m_ag, m_n, m_c, st_i1, d_n, d_c, Nat.lt_add_one, Nat.zero_add, true_or, or_true, fc_i, fc_s, fc_lr, fc_lo, kl_i, kl_s, kl_p, kl_lr, kl_lo, kf_s, cp_st, s_reg, s_cells_c, t_some, isC, cplc, Nat.reduceMod, Nat.reduceDiv, one_0]
  done
theorem r39 (k : MC) (m : MS) (x : Ins) : R X Tryd.prog 39 [.lf (.ptr 0 0), .ag x.c] [mst k m] (.tp []) [mst k (jumpM x m)] := by
  unfold jumpM
  simp only [Ins.c]
  refine R_i [(15, 15), (17, 17), (23, 23)] [] c39_ok rfl (by simp) ?_
  simp -implicitDefEqProofs (maxSteps := 2000000) only [c39, ↓reduceIte, s_ops0, s_seq, s_opsK, s_seqK_n, s_nil, s_cons, s_wopsK, s_wopsqK, s_putK, s_qnil, s_qcons, q_mv, q_bin, q_fa, q_ld, q_nc, o_bin, v_add, v_part_f, v_atK, o_bx, o_fa, v_fa_p, o_ld, v_ld_p, v_ldC, o_st, v_st_p, v_stCK, o_nc, v_nc_p, e_t, e_put, e_get, e_res, e_keep_n, e_keep_c, e_keep1_s, St.init, enum, List.length_nil, List.length_cons, Option.getD_some, Nat.reduceEqDiff, Nat.reduceAdd, reduceCtorEq, true_and, and_true, Bool.false_eq_true, s_ret_n, s_retX, s_cells_n, t_tp, t_n, t_ln, t_lc, t_i, t_s, t_l, t_oo, t_rr, r_n, List.map_cons, List.map_nil, List.cons_append, List.nil_append, List.all_cons, List.all_nil, Bool.and_true, Bool.true_and, Bool.and_self, PV.cells, cellL, fillL, Nat.reduceBEq, Nat.reduceLeDiff, List.take_zero, List.drop_zero, List.take_succ_cons, List.drop_succ_cons, List.getElem?_cons_zero, List.getElem?_cons_succ, kc_i, kc_s, kc_p, kc_l, m_lf, m_ag, m_n, m_c, m_all, st_i1, d_n, d_c, Nat.lt_add_one, Nat.zero_add, true_or, or_true, s_reg, s_cells_c, t_some, one_0, v_bx_a]
  done
theorem r40 (k : MC) (m : MS) (x : Ins) (h : k.l0 ≤ 1048576) : R X Tryd.prog 40 [.lf (.ptr 0 0), .ag x.c] [mst k m] (.tp []) [mst k (callM k x m)] := by
  have h32 := fun e => r32 (X := X) k m e h
  unfold callM
  simp only [Ins.c]
  refine R_i [(15, 15), (17, 17), (23, 23)] [] c40_ok rfl (by simp) ?_
  simp -implicitDefEqProofs (maxSteps := 2000000) only [c40, ↓reduceIte, s_ops0, s_seq, s_opsK, s_seqK_n, s_nil, s_cons, s_wopsK, s_putK, o_mv, o_bin, v_add, v_part_f, v_atK, o_bx, o_fa, v_fa_p, o_ld, v_ld_p, v_ldC, o_nc, v_nc_p, o_bd, v_agK, v_bd_n, v_bd_c, e_t, e_k, e_put, e_get, e_res, e_keep_n, e_keep_c, e_keep1_s, St.init, enum, List.length_nil, List.length_cons, Option.getD_some, Nat.reduceEqDiff, Nat.reduceAdd, reduceCtorEq, true_and, Bool.false_eq_true, List.map_cons, List.map_nil, PV.leaves, List.flatMap_cons, List.flatMap_nil, List.append_nil, List.cons_append, List.nil_append, List.all_cons, List.all_nil, Bool.true_and, Bool.and_self, PV.cells, cellL, fillL, Nat.reduceBEq, Nat.reduceLeDiff, List.take_zero, List.drop_zero, List.take_succ_cons, List.drop_succ_cons, List.getElem?_cons_zero, List.getElem?_cons_succ, Option.bind_some, kc_i, kc_s, kc_p, kc_l, m_lf, m_ag, m_n, m_c, m_all, d_n, d_c, dw_n, dw_b, dw_i, dw_p, ne_eq, not_false_eq_true, Nat.zero_add, ta_b, ta_i, ta_p, pc_p, o_callp, v_callp, v_bx_a]
  refine pcall_i (h32 ⟨true, W (m.pc + 1), 0, 0⟩) rfl rfl ?_
  generalize pushM k _ m = m1
  simp -implicitDefEqProofs (maxSteps := 2000000) only [c40, ↓reduceIte, s_opsK, s_seqK_n, s_nil, s_cons, s_wopsK, s_wopsqK, s_putK, s_qnil, s_qcons, q_mv, q_bin, q_fa, q_ld, q_nc, o_bin, v_add, v_part_f, v_atK, o_fa, v_fa_p, o_ld, v_ld_p, v_ldC, o_st, v_st_p, v_stCK, o_nc, v_nc_p, e_t, e_put, e_get, e_res, e_keep_n, e_keep_c, e_keep1_s, List.length_nil, List.length_cons, Option.getD_some, Nat.reduceEqDiff, Nat.reduceAdd, reduceCtorEq, true_and, and_true, Bool.false_eq_true, s_ret_n, s_retX, s_cells_n, t_tp, t_n, t_ln, t_lc, t_i, t_s, t_l, t_oo, t_rr, r_n, outV, ownsV, List.map_cons, List.map_nil, List.any_nil, List.cons_append, List.nil_append, List.all_cons, List.all_nil, Bool.and_true, Bool.true_and, Bool.and_self, PV.cells, cellL, fillL, Nat.reduceMul, Nat.reduceLeDiff, BEq.rfl, List.take_zero, List.drop_zero, List.take_succ_cons, List.drop_succ_cons, List.getElem?_cons_zero, List.getElem?_cons_succ, m_lf, m_ag, m_tp, m_n, m_c, st_i1, d_n, d_c, Nat.lt_add_one, Nat.zero_add, true_or, or_true, fc_i, fc_s, fc_lr, fc_lo, kl_b, kl_i, kl_s, kl_p, kl_lr, kl_lo, kf_s, cp_st, s_reg, s_cells_c, t_some, isC, cplc, Nat.reduceMod, Nat.reduceDiv, one_0]
  done
theorem r41 (k : MC) (m : MS) (x : Ins) (h : m.st.length ≤ 1048576) : R X Tryd.prog 41 [.lf (.ptr 0 0), .ag x.c] [mst k m] (.tp []) [mst k (retM m)] := by
  have h34 := r34 (X := X) k m true h
  unfold retM
  simp only [Ins.c]
  refine R_i [(15, 15), (17, 17), (23, 23)] [] c41_ok rfl (by simp) ?_
  simp -implicitDefEqProofs (maxSteps := 2000000) only [c41, ↓reduceIte, s_ops0, s_seq, s_opsK, s_seqK_n, s_nil, s_cons, s_wopsK, o_mv, o_bx, e_t, e_k, e_put, e_get, e_res, e_keep_n, e_keep_c, e_keep1_s, St.init, enum, List.length_nil, List.length_cons, Option.getD_some, reduceCtorEq, true_and, Bool.false_eq_true, List.map_cons, List.map_nil, PV.leaves, List.flatMap_cons, List.flatMap_nil, List.append_nil, List.cons_append, List.nil_append, Bool.true_and, Nat.reduceBEq, Nat.reduceLeDiff, List.getElem?_cons_zero, Option.bind_some, kc_i, kc_s, kc_p, kc_l, m_lf, m_ag, m_n, m_c, m_all, d_n, d_c, dw_n, dw_b, dw_p, Nat.zero_add, ta_b, ta_p, pc_p, o_callp, v_callp, v_bx_a]
  refine pcall_i h34 rfl rfl ?_
  generalize popM true m = p
  simp -implicitDefEqProofs (maxSteps := 2000000) only [c41, ↓reduceIte, s_opsK, s_nil, s_cons, s_wopsK, s_putK, o_fld, v_fld, v_part_f, v_atK, o_fa, v_fa_p, o_st, v_st_p, v_stCK, o_nc, v_nc_p, e_t, e_put, e_get, e_res, e_keep_n, List.length_nil, List.length_cons, Option.getD_some, Nat.reduceEqDiff, Nat.reduceAdd, reduceCtorEq, true_and, and_true, Bool.false_eq_true, s_ret_n, s_retX, s_cells_n, t_tp, t_n, t_ln, t_lc, t_i, t_s, t_l, t_oo, t_rr, r_n, outV, ownsV, owns1, ownL, List.map_cons, List.map_nil, List.any_cons, List.any_nil, Bool.or_self, List.cons_append, List.nil_append, List.all_cons, List.all_nil, Bool.and_true, Bool.true_and, Bool.and_self, PV.cells, cellL, fillL, Nat.reduceMul, Nat.reduceLeDiff, BEq.rfl, List.take_zero, List.drop_zero, List.take_succ_cons, List.drop_succ_cons, List.getElem?_cons_zero, List.getElem?_cons_succ, ol_b, ol_i, m_lf, m_ag, m_n, m_c, st_i1, d_n, d_c, Nat.lt_add_one, Nat.zero_add, true_or, or_true, fc_i, fc_s, fc_lr, fc_lo, kl_i, kl_s, kl_p, kl_lr, kl_lo, kf_s, cp_st, s_cells_c, t_some, isC, cplc, Nat.reduceMod, Nat.reduceDiv, one_0]
  done
theorem r42 (k : MC) (m : MS) (x : Ins) : R X Tryd.prog 42 [.lf (.ptr 0 0), .ag x.c] [mst k m] (.tp []) [mst k (endM m)] := by
  unfold endM
  simp only [Ins.c]
  refine R_i [(15, 15), (17, 17), (23, 23)] [] c42_ok rfl (by simp) ?_
  simp -implicitDefEqProofs (maxSteps := 2000000) only [c42, ↓reduceIte, s_ops0, s_seq, s_opsK, s_seqK_n, s_nil, s_cons, s_wopsK, s_putK, o_mv, o_bx, o_fa, v_fa_p, o_st, v_st_p, v_stCK, o_nc, v_nc_p, e_t, e_k, e_put, e_get, e_res, e_keep_n, e_keep_c, e_keep1_s, St.init, enum, List.length_nil, List.length_cons, Option.getD_some, Nat.reduceEqDiff, Nat.reduceAdd, reduceCtorEq, true_and, and_true, Bool.false_eq_true, s_ret_n, s_retX, s_cells_n, t_tp, t_n, t_ln, t_lc, t_i, t_s, t_l, t_oo, t_rr, r_n, List.map_cons, List.map_nil, List.cons_append, List.nil_append, List.all_cons, List.all_nil, Bool.and_true, Bool.true_and, Bool.and_self, PV.cells, cellL, fillL, Nat.reduceBEq, Nat.reduceLeDiff, List.take_zero, List.drop_zero, List.take_succ_cons, List.drop_succ_cons, kc_i, kc_s, kc_p, kc_l, m_lf, m_ag, m_n, m_c, m_all, st_i1, d_n, d_c, Nat.lt_add_one, Nat.zero_add, Nat.add_zero, true_or, or_true, s_cells_c, t_some, one_0, v_bx_a]
  done
theorem r43 (k : MC) (m : MS) (x : Ins) (h : k.l1 ≤ 1048576) : R X Tryd.prog 43 [.lf (.ptr 0 0), .ag x.c] [mst k m] (.tp []) [mst k (openM k x m)] := by
  have h44 := fun e => r44 (X := X) k m e h
  unfold openM
  simp only [Ins.c]
  refine R_i [(15, 15), (17, 17), (23, 23)] [] c43_ok rfl (by simp) ?_
  simp -implicitDefEqProofs (maxSteps := 2000000) only [c43, ↓reduceIte, s_ops0, s_seq, s_opsK, s_seqK_n, s_nil, s_cons, s_wopsK, s_wopsqK, s_putK, s_qnil, s_qcons, q_mv, q_fa, q_ld, q_nc, q_bd, v_part_f, v_atK, o_bx, o_fa, v_fa_p, o_ld, v_ld_p, v_ldC, o_nc, v_nc_p, o_bd, v_agK, v_bd_n, v_bd_c, e_t, e_put, e_get, e_res, e_keep_n, e_keep_c, e_keep1_s, St.init, enum, List.length_nil, List.length_cons, Option.getD_some, Nat.reduceEqDiff, Nat.reduceAdd, reduceCtorEq, true_and, Bool.false_eq_true, List.map_cons, List.map_nil, PV.leaves, List.flatMap_cons, List.flatMap_nil, List.append_nil, List.cons_append, List.nil_append, List.all_cons, List.all_nil, Bool.true_and, Bool.and_self, PV.cells, cellL, fillL, Nat.reduceBEq, Nat.reduceLeDiff, Nat.le_refl, List.take_zero, List.drop_zero, List.take_succ_cons, List.drop_succ_cons, List.drop_nil, List.getElem?_cons_zero, List.getElem?_cons_succ, Option.bind_some, kc_i, kc_s, kc_p, kc_l, m_lf, m_ag, m_n, m_c, m_all, d_n, d_c, dw_n, dw_i, dw_s, dw_p, ne_eq, not_false_eq_true, Nat.zero_add, Nat.add_zero, ta_i, ta_s, ta_p, pc_p, s_reg, o_callp, v_callp, v_bx_a]
  refine pcall_i (h44 ⟨x.op, x.b, m.at', 0, x.n, x.t⟩) rfl rfl ?_
  generalize noteM k _ m = m1
  simp -implicitDefEqProofs (maxSteps := 2000000) only [c43, ↓reduceIte, s_opsK, s_nil, s_wopsK, e_put, e_get, e_res, e_keep_n, Nat.reduceEqDiff, Nat.reduceAdd, reduceCtorEq, true_and, and_true, Bool.false_eq_true, s_ret_n, s_retX, s_cells_n, t_tp, t_n, t_ln, t_lc, t_i, t_s, t_l, t_oo, t_rr, r_n, outV, ownsV, List.map_cons, List.map_nil, List.any_nil, Bool.and_true, Bool.true_and, Bool.and_self, Nat.reduceMul, BEq.rfl, m_lf, m_ag, m_tp, m_n, m_c, d_n, d_c, Nat.lt_add_one, Nat.zero_add, true_or, or_true, fc_i, fc_s, fc_lr, fc_lo, kl_i, kl_s, kl_p, kl_lr, kl_lo, kf_s, cp_st, s_cells_c, t_some, isC, cplc, Nat.reduceMod, Nat.reduceDiv, one_0]
  done
theorem r45 (k : MC) (m : MS) (x : Ins) (h : k.l1 ≤ 1048576) : R X Tryd.prog 45 [.lf (.ptr 0 0), .ag x.c] [mst k m] (.tp []) [mst k (closeM k x m)] := by
  have h44 := fun e => r44 (X := X) k m e h
  unfold closeM
  simp only [Ins.c]
  refine R_i [(15, 15), (17, 17), (23, 23)] [] c45_ok rfl (by simp) ?_
  simp -implicitDefEqProofs (maxSteps := 2000000) only [c45, ↓reduceIte, s_ops0, s_seq, s_opsK, s_seqK_n, s_nil, s_cons, s_wopsK, s_wopsqK, s_putK, s_qnil, s_qcons, q_mv, q_fa, q_ld, q_nc, q_bd, v_part_f, v_atK, o_bx, o_fa, v_fa_p, o_ld, v_ld_p, v_ldC, o_nc, v_nc_p, o_bd, v_agK, v_bd_n, v_bd_c, e_t, e_put, e_get, e_res, e_keep_n, e_keep_c, e_keep1_s, St.init, enum, List.length_nil, List.length_cons, Option.getD_some, Nat.reduceEqDiff, Nat.reduceAdd, reduceCtorEq, true_and, Bool.false_eq_true, List.map_cons, List.map_nil, PV.leaves, List.flatMap_cons, List.flatMap_nil, List.append_nil, List.cons_append, List.nil_append, List.all_cons, List.all_nil, Bool.true_and, Bool.and_self, PV.cells, cellL, fillL, Nat.reduceBEq, Nat.reduceLeDiff, List.take_zero, List.drop_zero, List.take_succ_cons, List.drop_succ_cons, List.getElem?_cons_zero, List.getElem?_cons_succ, Option.bind_some, kc_i, kc_s, kc_p, kc_l, m_lf, m_ag, m_n, m_c, m_all, d_n, d_c, dw_n, dw_i, dw_s, dw_p, ne_eq, not_false_eq_true, Nat.zero_add, Nat.add_zero, ta_i, ta_s, ta_p, pc_p, s_reg, o_callp, v_callp, v_bx_a]
  refine pcall_i (h44 ⟨x.op, 0, m.at', 0, 0, ⟨#[]⟩⟩) rfl rfl ?_
  generalize noteM k _ m = m1
  simp -implicitDefEqProofs (maxSteps := 2000000) only [c45, ↓reduceIte, s_opsK, s_nil, s_wopsK, e_put, e_get, e_res, e_keep_n, Nat.reduceEqDiff, Nat.reduceAdd, reduceCtorEq, true_and, and_true, Bool.false_eq_true, s_ret_n, s_retX, s_cells_n, t_tp, t_n, t_ln, t_lc, t_i, t_s, t_l, t_oo, t_rr, r_n, outV, ownsV, List.map_cons, List.map_nil, List.any_nil, Bool.and_true, Bool.true_and, Bool.and_self, Nat.reduceMul, BEq.rfl, m_lf, m_ag, m_tp, m_n, m_c, d_n, d_c, Nat.lt_add_one, Nat.zero_add, true_or, or_true, fc_i, fc_s, fc_lr, fc_lo, kl_i, kl_s, kl_p, kl_lr, kl_lo, kf_s, cp_st, s_cells_c, t_some, isC, cplc, Nat.reduceMod, Nat.reduceDiv, one_0]
  done
theorem r46 (k : MC) (m : MS) (x : Ins) (h : k.l1 ≤ 1048576) : R X Tryd.prog 46 [.lf (.ptr 0 0), .ag x.c] [mst k m] (.tp []) [mst k (fullM k x m)] := by
  have h44 := fun e => r44 (X := X) k m e h
  simp only [Ins.c]
  refine R_i [(15, 15), (17, 17), (23, 23)] [] c46_ok rfl (by simp) ?_
  generalize hr : fullM k x m = r
  unfold fullM at hr
  simp -implicitDefEqProofs (maxSteps := 2000000) only [c46, ↓reduceIte, s_skip, s_ret, s_ops0, s_ops2, s_seq, s_cond, s_opsK, s_seqK_n, s_seqK_r, s_cnd, s_nil, s_cons, s_wopsK, s_wopsqK, s_putK, s_qnil, s_qcons, q_mv, q_bin, q_fa, q_ld, q_nc, q_bd, o_mv, o_bin, v_sub, v_gtr, v_part_f, v_atK, o_bx, o_fa, v_fa_p, o_ld, v_ld_p, v_ldC, o_st, v_st_p, v_stCK, o_nc, v_nc_p, o_bd, v_agK, v_bd_n, v_bd_c, e_t, e_k, e_put, e_get, e_res, e_keep_n, e_keep_c, e_keep1_s, St.init, enum, List.length_nil, List.length_cons, Option.getD_some, Nat.reduceEqDiff, Nat.reduceAdd, reduceCtorEq, true_and, and_true, Bool.false_eq_true, decide_eq_true_eq, s_ret_r, s_retX, s_cells_n, t_tp, t_n, t_ln, t_lc, t_i, t_s, t_l, t_oo, t_rr, r_n, List.map_cons, List.map_nil, PV.leaves, List.flatMap_cons, List.flatMap_nil, List.append_nil, List.cons_append, List.nil_append, List.all_cons, List.all_nil, Bool.and_true, Bool.true_and, Bool.and_self, PV.cells, cellL, fillL, Nat.reduceBEq, Nat.reduceLeDiff, Nat.le_refl, List.take_zero, List.drop_zero, List.take_succ_cons, List.drop_succ_cons, List.drop_nil, List.getElem?_cons_zero, List.getElem?_cons_succ, Option.bind_some, kc_i, kc_s, kc_p, kc_l, m_lf, m_ag, m_n, m_c, m_all, st_i1, d_n, d_c, dw_n, dw_i, dw_s, dw_p, ne_eq, not_false_eq_true, Nat.lt_add_one, Nat.zero_add, Nat.add_zero, true_or, or_true, ta_i, ta_s, ta_p, pc_p, s_reg, s_cells_c, t_some, o_callp, v_callp, one_0, v_bx_a]
  with_reducible refine ite_pr (fun h1 => ?_) (fun h1 => ?_)
  · rw [if_pos h1] at hr
    subst hr
    simp
  · rw [if_neg h1] at hr
    refine pcall_i (h44 ⟨x.op, x.b, W (m.at' - x.a), x.a, x.n, x.t⟩) rfl rfl ?_
    rw [hr]
    simp -implicitDefEqProofs (maxSteps := 2000000) only [c46, ↓reduceIte, s_opsK, s_nil, s_wopsK, e_put, e_get, e_res, e_keep_n, Nat.reduceEqDiff, Nat.reduceAdd, reduceCtorEq, true_and, and_true, Bool.false_eq_true, s_ret_n, s_retX, s_cells_n, t_tp, t_n, t_ln, t_lc, t_i, t_s, t_l, t_oo, t_rr, r_n, outV, ownsV, List.map_cons, List.map_nil, List.any_nil, Bool.and_true, Bool.true_and, Bool.and_self, Nat.reduceMul, BEq.rfl, m_lf, m_ag, m_tp, m_n, m_c, d_n, d_c, Nat.lt_add_one, Nat.zero_add, true_or, or_true, fc_i, fc_s, fc_lr, fc_lo, kl_b, kl_i, kl_s, kl_p, kl_lr, kl_lo, kf_s, cp_st, s_cells_c, t_some, isC, cplc, Nat.reduceMod, Nat.reduceDiv, one_0]
    done
end Go.Proofs.YtkmhoholblbbfaaDoor.M
