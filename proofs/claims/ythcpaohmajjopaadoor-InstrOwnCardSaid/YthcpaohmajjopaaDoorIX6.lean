/- Contracts, part IX6. -/
import Derived.Test.YthcpaohmajjopaaDoorProg
import Derived.Test.YthcpaohmajjopaaDoorAmLeaf2
import Derived.Test.YthcpaohmajjopaaDoorIX1
import Derived.Test.YthcpaohmajjopaaDoorIX3
set_option maxRecDepth 100000
namespace Go.Proofs.YthcpaohmajjopaaDoor.I
open Go Go.Proofs.YthcpaohmajjopaaDoor.AM
/-- harrow/harrowlaw16.InstrClosed -/
abbrev c6_0 : AC := .seq (.ops 0 [⟨(some 18), .call 9 [], none⟩, ⟨(some 19), .mv (.t 18), none⟩, ⟨(some 20), .mv (.t 3), (some (19, true))⟩, ⟨(some 21), .len (.t 20), (some (19, true))⟩, ⟨(some 22), .bin .eql (.t 21) (.k (.lf (.int .i64 0))), (some (19, true))⟩, ⟨(some 23), .pk (.t 19) (.t 22) (.k (.lf (.bool false))), none⟩, ⟨(some 2), .as 0 0 (.t 23), none⟩] [2]) .ret
abbrev c6_1 : AC := .cond (.t 17) c6_0 .skip
abbrev c6_2 : AC := .seq (.ops 0 [⟨(some 16), .mv (.t 4), none⟩, ⟨(some 17), .bin .neq (.t 16) (.k (.lf (.int .i64 0))), none⟩] [0, 3, 17]) c6_1
abbrev c6_3 : AC := .seq (.ops 0 [⟨(some 2), .as 0 0 (.k (.lf (.bool false))), none⟩] [2]) .ret
abbrev c6_4 : AC := .cond (.t 39) c6_3 .skip
abbrev c6_5 : AC := .seq (.ops 0 [⟨(some 24), .mv (.t 3), none⟩, ⟨(some 25), .len (.t 24), none⟩, ⟨(some 26), .mv (.t 0), none⟩, ⟨(some 27), .len (.t 26), none⟩, ⟨(some 28), .bin .neq (.t 25) (.t 27), none⟩, ⟨(some 29), .mv (.t 28), none⟩, ⟨(some 30), .mv (.t 3), (some (29, false))⟩, ⟨(some 31), .len (.t 30), (some (29, false))⟩, ⟨(some 32), .bin .eql (.t 31) (.k (.lf (.int .i64 0))), (some (29, false))⟩, ⟨(some 33), .pk (.t 29) (.k (.lf (.bool true))) (.t 32), none⟩, ⟨(some 34), .mv (.t 33), none⟩, ⟨(some 35), .mv (.t 3), (some (34, false))⟩, ⟨(some 36), .ia (.t 35) (.k (.lf (.int .i64 0))) 1, (some (34, false))⟩, ⟨(some 37), .ld (.t 36) 1 false, (some (34, false))⟩, ⟨(some 38), .un .not (.t 37), (some (34, false))⟩, ⟨(some 39), .pk (.t 34) (.k (.lf (.bool true))) (.t 38), none⟩] [0, 3, 39]) c6_4
abbrev c6_6 : AC := .cond (.t 53) .skip (.exit 0)
abbrev c6_7 : AC := .seq (.ops 0 [⟨(some 45), .mv (.t 6), none⟩, ⟨(some 46), .mv (.t 0), none⟩, ⟨(some 47), .len (.t 46), none⟩, ⟨(some 48), .bin .lss (.t 45) (.t 47), none⟩, ⟨(some 49), .mv (.t 48), none⟩, ⟨(some 50), .mv (.t 0), (some (49, true))⟩, ⟨(some 51), .len (.t 50), (some (49, true))⟩, ⟨(some 52), .bin .lss (.t 51) (.k (.lf (.int .i64 300))), (some (49, true))⟩, ⟨(some 53), .pk (.t 49) (.t 52) (.k (.lf (.bool false))), none⟩] [0, 3, 5, 6, 53]) c6_6
abbrev c6_8 : AC := .seq (.ops 0 [⟨(some 2), .as 0 0 (.k (.lf (.bool false))), none⟩] [2]) .ret
abbrev c6_9 : AC := .cond (.t 68) c6_8 .skip
abbrev c6_10 : AC := .seq (.ops 0 [⟨(some 62), .mv (.t 8), none⟩, ⟨(some 63), .bin .neq (.t 62) (.k (.lf (.int .i64 0))), none⟩, ⟨(some 64), .mv (.t 63), none⟩, ⟨(some 65), .mv (.t 7), (some (64, false))⟩, ⟨(some 66), .len (.t 65), (some (64, false))⟩, ⟨(some 67), .bin .gtr (.t 66) (.k (.lf (.int .i64 2))), (some (64, false))⟩, ⟨(some 68), .pk (.t 64) (.k (.lf (.bool true))) (.t 67), none⟩] [0, 3, 5, 6, 7, 68]) c6_9
abbrev c6_11 : AC := .cond (.t 72) .skip (.exit 2)
abbrev c6_12 : AC := .seq (.ops 0 [⟨(some 69), .mv (.t 9), none⟩, ⟨(some 70), .mv (.t 7), none⟩, ⟨(some 71), .len (.t 70), none⟩, ⟨(some 72), .bin .lss (.t 69) (.t 71), none⟩] [0, 3, 5, 6, 7, 9, 72]) c6_11
abbrev c6_13 : AC := .seq (.ops 0 [⟨(some 2), .as 0 0 (.k (.lf (.bool false))), none⟩] [2]) .ret
abbrev c6_14 : AC := .cond (.t 120) c6_13 .skip
abbrev c6_15 : AC := .seq (.ops 2 [⟨(some 75), .mv (.t 7), none⟩, ⟨(some 76), .mv (.t 9), none⟩, ⟨(some 77), .ia (.t 75) (.t 76) 1, none⟩, ⟨(some 78), .ld (.t 77) 1 false, none⟩, ⟨(some 79), .bin .lss (.t 78) (.k (.lf (.int .i64 0))), none⟩, ⟨(some 80), .mv (.t 79), none⟩, ⟨(some 81), .mv (.t 7), (some (80, false))⟩, ⟨(some 82), .mv (.t 9), (some (80, false))⟩, ⟨(some 83), .ia (.t 81) (.t 82) 1, (some (80, false))⟩, ⟨(some 84), .ld (.t 83) 1 false, (some (80, false))⟩, ⟨(some 85), .mv (.t 0), (some (80, false))⟩, ⟨(some 86), .len (.t 85), (some (80, false))⟩, ⟨(some 87), .bin .geq (.t 84) (.t 86), (some (80, false))⟩, ⟨(some 88), .pk (.t 80) (.k (.lf (.bool true))) (.t 87), none⟩, ⟨(some 89), .mv (.t 88), none⟩, ⟨(some 90), .mv (.t 9), (some (89, false))⟩, ⟨(some 91), .bin .gtr (.t 90) (.k (.lf (.int .i64 0))), (some (89, false))⟩, ⟨(some 92), .mv (.t 91), (some (89, false))⟩, ⟨(some 93), .mv (.t 7), (some (92, true))⟩, ⟨(some 94), .mv (.t 9), (some (92, true))⟩, ⟨(some 95), .ia (.t 93) (.t 94) 1, (some (92, true))⟩, ⟨(some 96), .ld (.t 95) 1 false, (some (92, true))⟩, ⟨(some 97), .mv (.t 7), (some (92, true))⟩, ⟨(some 98), .mv (.t 9), (some (92, true))⟩, ⟨(some 99), .bin .sub (.t 98) (.k (.lf (.int .i64 1))), (some (92, true))⟩, ⟨(some 100), .ia (.t 97) (.t 99) 1, (some (92, true))⟩, ⟨(some 101), .ld (.t 100) 1 false, (some (92, true))⟩, ⟨(some 102), .bin .leq (.t 96) (.t 101), (some (92, true))⟩, ⟨(some 103), .pk (.t 92) (.t 102) (.k (.lf (.bool false))), (some (89, false))⟩, ⟨(some 104), .pk (.t 89) (.k (.lf (.bool true))) (.t 103), none⟩, ⟨(some 105), .mv (.t 104), none⟩, ⟨(some 106), .mv (.t 3), (some (105, false))⟩, ⟨(some 107), .mv (.t 6), (some (105, false))⟩, ⟨(some 108), .ia (.t 106) (.t 107) 1, (some (105, false))⟩, ⟨(some 109), .ld (.t 108) 1 false, (some (105, false))⟩, ⟨(some 110), .mv (.t 109), (some (105, false))⟩, ⟨(some 111), .mv (.t 3), (some (110, true))⟩, ⟨(some 112), .mv (.t 7), (some (110, true))⟩, ⟨(some 113), .mv (.t 9), (some (110, true))⟩, ⟨(some 114), .ia (.t 112) (.t 113) 1, (some (110, true))⟩, ⟨(some 115), .ld (.t 114) 1 false, (some (110, true))⟩, ⟨(some 116), .ia (.t 111) (.t 115) 1, (some (110, true))⟩, ⟨(some 117), .ld (.t 116) 1 false, (some (110, true))⟩, ⟨(some 118), .un .not (.t 117), (some (110, true))⟩, ⟨(some 119), .pk (.t 110) (.t 118) (.k (.lf (.bool false))), (some (105, false))⟩, ⟨(some 120), .pk (.t 105) (.k (.lf (.bool true))) (.t 119), none⟩] [0, 3, 5, 6, 7, 9, 120]) c6_14
abbrev c6_16 : AC := .seq c6_15 (.ops 1 [⟨(some 121), .mv (.t 5), none⟩, ⟨(some 122), .mv (.t 7), none⟩, ⟨(some 123), .mv (.t 9), none⟩, ⟨(some 124), .ia (.t 122) (.t 123) 1, none⟩, ⟨(some 125), .ld (.t 124) 1 false, none⟩, ⟨(some 126), .mv (.t 5), none⟩, ⟨(some 127), .mv (.t 7), none⟩, ⟨(some 128), .mv (.t 9), none⟩, ⟨(some 129), .ia (.t 127) (.t 128) 1, none⟩, ⟨(some 130), .ld (.t 129) 1 false, none⟩, ⟨(some 131), .ia (.t 126) (.t 130) 1, none⟩, ⟨(some 132), .ld (.t 131) 1 false, none⟩, ⟨(some 133), .mv (.t 132), none⟩, ⟨(some 134), .mv (.t 3), (some (133, false))⟩, ⟨(some 135), .mv (.t 6), (some (133, false))⟩, ⟨(some 136), .ia (.t 134) (.t 135) 1, (some (133, false))⟩, ⟨(some 137), .ld (.t 136) 1 false, (some (133, false))⟩, ⟨(some 138), .pk (.t 133) (.k (.lf (.bool true))) (.t 137), none⟩, ⟨(some 139), .ia (.t 121) (.t 125) 1, none⟩, ⟨none, .st (.t 139) (.t 138) 1, none⟩] [0, 3, 5, 6, 7, 9])
abbrev c6_17 : AC := .block 3 c6_16
abbrev c6_18 : AC := .seq c6_17 (.ops 0 [⟨(some 73), .mv (.t 9), none⟩, ⟨(some 74), .bin .add (.t 73) (.k (.lf (.int .i64 1))), none⟩, ⟨(some 9), .as 0 0 (.t 74), none⟩] [0, 3, 5, 6, 7, 9])
abbrev c6_19 : AC := .seq c6_12 c6_18
abbrev c6_20 : AC := .loop c6_19 [0, 3, 5, 6, 7, 9]
abbrev c6_21 : AC := .block 2 c6_20
abbrev c6_22 : AC := .seq (.ops 0 [⟨(some 9), .as 0 0 (.k (.lf (.int .i64 0))), none⟩] [0, 3, 5, 6, 7, 9]) c6_21
abbrev c6_23 : AC := .seq c6_10 c6_22
abbrev c6_24 : AC := .seq (.ops 0 [⟨(some 57), .mv (.t 0), none⟩, ⟨(some 58), .mv (.t 6), none⟩, ⟨(some 59), .call 15 [(.t 57), (.t 58)], none⟩, ⟨(some 56), .mv (.t 59), none⟩, ⟨(some 60), .ext (.t 56) 0, none⟩, ⟨(some 61), .ext (.t 56) 1, none⟩, ⟨(some 7), .as 3 1 (.t 60), none⟩, ⟨(some 8), .as 0 0 (.t 61), none⟩] [0, 3, 5, 6, 7, 8]) c6_23
abbrev c6_25 : AC := .block 1 c6_24
abbrev c6_26 : AC := .seq c6_25 (.ops 0 [⟨(some 54), .mv (.t 6), none⟩, ⟨(some 55), .bin .add (.t 54) (.k (.lf (.int .i64 1))), none⟩, ⟨(some 6), .as 0 0 (.t 55), none⟩] [0, 3, 5, 6])
abbrev c6_27 : AC := .seq c6_7 c6_26
abbrev c6_28 : AC := .loop c6_27 [0, 3, 5, 6]
abbrev c6_29 : AC := .block 0 c6_28
abbrev c6_30 : AC := .seq (.ops 0 [⟨(some 6), .as 0 0 (.k (.lf (.int .i64 0))), none⟩] [0, 3, 5, 6]) c6_29
abbrev c6_31 : AC := .cond (.t 148) .skip (.exit 4)
abbrev c6_32 : AC := .seq (.ops 0 [⟨(some 140), .mv (.t 10), none⟩, ⟨(some 141), .mv (.t 0), none⟩, ⟨(some 142), .len (.t 141), none⟩, ⟨(some 143), .bin .lss (.t 140) (.t 142), none⟩, ⟨(some 144), .mv (.t 143), none⟩, ⟨(some 145), .mv (.t 0), (some (144, true))⟩, ⟨(some 146), .len (.t 145), (some (144, true))⟩, ⟨(some 147), .bin .lss (.t 146) (.k (.lf (.int .i64 300))), (some (144, true))⟩, ⟨(some 148), .pk (.t 144) (.t 147) (.k (.lf (.bool false))), none⟩] [0, 3, 5, 10, 148]) c6_31
abbrev c6_33 : AC := .seq (.ops 0 [⟨(some 2), .as 0 0 (.k (.lf (.bool false))), none⟩] [2]) .ret
abbrev c6_34 : AC := .cond (.t 161) c6_33 .skip
abbrev c6_35 : AC := .seq (.ops 0 [⟨(some 151), .mv (.t 3), none⟩, ⟨(some 152), .mv (.t 10), none⟩, ⟨(some 153), .ia (.t 151) (.t 152) 1, none⟩, ⟨(some 154), .ld (.t 153) 1 false, none⟩, ⟨(some 155), .mv (.t 154), none⟩, ⟨(some 156), .mv (.t 5), (some (155, true))⟩, ⟨(some 157), .mv (.t 10), (some (155, true))⟩, ⟨(some 158), .ia (.t 156) (.t 157) 1, (some (155, true))⟩, ⟨(some 159), .ld (.t 158) 1 false, (some (155, true))⟩, ⟨(some 160), .un .not (.t 159), (some (155, true))⟩, ⟨(some 161), .pk (.t 155) (.t 160) (.k (.lf (.bool false))), none⟩] [0, 3, 5, 10, 161]) c6_34
abbrev c6_36 : AC := .block 5 c6_35
abbrev c6_37 : AC := .seq c6_36 (.ops 0 [⟨(some 149), .mv (.t 10), none⟩, ⟨(some 150), .bin .add (.t 149) (.k (.lf (.int .i64 1))), none⟩, ⟨(some 10), .as 0 0 (.t 150), none⟩] [0, 3, 5, 10])
abbrev c6_38 : AC := .seq c6_32 c6_37
abbrev c6_39 : AC := .loop c6_38 [0, 3, 5, 10]
abbrev c6_40 : AC := .block 4 c6_39
abbrev c6_41 : AC := .seq (.ops 0 [⟨(some 10), .as 0 0 (.k (.lf (.int .i64 0))), none⟩] [0, 3, 5, 10]) c6_40
abbrev c6_42 : AC := .seq (.ops 0 [⟨(some 162), .call 9 [], none⟩, ⟨(some 2), .as 0 0 (.t 162), none⟩] [2]) .ret
abbrev c6_43 : AC := .seq c6_41 c6_42
abbrev c6_44 : AC := .seq c6_30 c6_43
abbrev c6_45 : AC := .seq (.ops 0 [⟨(some 43), .mv (.t 5), none⟩, ⟨(some 44), .ia (.t 43) (.k (.lf (.int .i64 0))) 1, none⟩, ⟨none, .st (.t 44) (.k (.lf (.bool true))) 1, none⟩] [0, 3, 5]) c6_44
abbrev c6_46 : AC := .seq (.ops 0 [⟨(some 40), .mv (.t 0), none⟩, ⟨(some 41), .len (.t 40), none⟩, ⟨(some 42), .ms 4 1 1 [.bool false] (.t 41) (.t 41), none⟩, ⟨(some 5), .as 4 1 (.t 42), none⟩] [0, 3, 5]) c6_45
abbrev c6_47 : AC := .seq c6_5 c6_46
abbrev c6_48 : AC := .seq c6_2 c6_47
abbrev c6_49 : AC := .seq (.ops 0 [⟨(some 12), .mv (.t 0), none⟩, ⟨(some 13), .call 17 [(.t 12)], none⟩, ⟨(some 11), .mv (.t 13), none⟩, ⟨(some 14), .ext (.t 11) 0, none⟩, ⟨(some 15), .ext (.t 11) 1, none⟩, ⟨(some 3), .as 4 1 (.t 14), none⟩, ⟨(some 4), .as 0 0 (.t 15), none⟩] [0, 3, 4]) c6_48
abbrev c6_50 : AC := .seq (.ops 0 [⟨(some 2), .as 0 0 (.k (.lf (.bool false))), none⟩] [0]) c6_49
abbrev c6 : AC := c6_50
/-- harrow/harrowbook.LendCode -/
abbrev c14_0 : AC := .seq (.ops 0 [⟨(some 3), .bs 52 9 0 [.int .i64 0, .int .i64 0, .int .i64 0, .int .i64 0, .str ⟨#[]⟩, .int .u64 0, .int .u64 0, .int .u64 0, .int .u64 0] [], none⟩, ⟨(some 4), .mv (.t 0), none⟩, ⟨(some 5), .app 52 9 80 (.t 3) (.t 4), none⟩, ⟨(some 6), .bd [.int .i64 0, .int .i64 0, .int .i64 0, .int .i64 0, .str ⟨#[]⟩, .int .u64 0, .int .u64 0, .int .u64 0, .int .u64 0] [(0, 1, (.k (.lf (.int .i64 (-77)))))], none⟩, ⟨(some 7), .bs 52 9 1 [.int .i64 0, .int .i64 0, .int .i64 0, .int .i64 0, .str ⟨#[]⟩, .int .u64 0, .int .u64 0, .int .u64 0, .int .u64 0] [(0, (.t 6))], none⟩, ⟨(some 8), .app 52 9 80 (.t 5) (.t 7), none⟩, ⟨(some 9), .mv (.t 0), none⟩, ⟨(some 10), .len (.t 9), none⟩, ⟨(some 11), .sll 9 (.t 8) none (some (.t 10)), none⟩, ⟨(some 2), .as 52 9 (.t 11), none⟩] [2]) .ret
abbrev c14_1 : AC := .seq (.ops 0 [⟨(some 2), .as 52 9 (.k (.lf (.lst .nl 9 [] []))), none⟩] [0]) c14_0
abbrev c14 : AC := c14_1
theorem c14_ok : compileFn Tryd.prog 14 = some (12, AC.strip c14, [.t 2]) := by kernel_rfl
/-- harrow/instr.Goes -/
abbrev c15_0 : AC := .seq (.ops 0 [⟨(some 15), .mv (.t 7), none⟩, ⟨(some 4), .as 3 1 (.k (.lf (.lst .nl 1 [] []))), none⟩, ⟨(some 5), .as 0 0 (.t 15), none⟩] [4, 5]) .ret
abbrev c15_1 : AC := .cond (.t 14) c15_0 .skip
abbrev c15_2 : AC := .seq (.ops 0 [⟨(some 13), .mv (.t 7), none⟩, ⟨(some 14), .bin .neq (.t 13) (.k (.lf (.int .i64 0))), none⟩] [0, 1, 7, 14]) c15_1
abbrev c15_3 : AC := .seq (.ops 0 [⟨(some 9), .mv (.t 0), none⟩, ⟨(some 10), .call 28 [(.t 9)], none⟩, ⟨(some 8), .mv (.t 10), none⟩, ⟨(some 11), .ext (.t 8) 0, none⟩, ⟨(some 12), .ext (.t 8) 1, none⟩, ⟨(some 6), .as 0 0 (.t 11), none⟩, ⟨(some 7), .as 0 0 (.t 12), none⟩] [0, 1, 7]) c15_2
abbrev c15_4 : AC := .seq (.ops 0 [⟨(some 4), .as 3 1 (.k (.lf (.lst .nl 1 [] []))), none⟩, ⟨(some 5), .as 0 0 (.k (.lf (.int .i64 1))), none⟩] [4, 5]) .ret
abbrev c15_5 : AC := .cond (.t 23) c15_4 .skip
abbrev c15_6 : AC := .seq (.ops 0 [⟨(some 16), .mv (.t 1), none⟩, ⟨(some 17), .bin .lss (.t 16) (.k (.lf (.int .i64 0))), none⟩, ⟨(some 18), .mv (.t 17), none⟩, ⟨(some 19), .mv (.t 1), (some (18, false))⟩, ⟨(some 20), .mv (.t 0), (some (18, false))⟩, ⟨(some 21), .len (.t 20), (some (18, false))⟩, ⟨(some 22), .bin .geq (.t 19) (.t 21), (some (18, false))⟩, ⟨(some 23), .pk (.t 18) (.k (.lf (.bool true))) (.t 22), none⟩] [0, 1, 23]) c15_5
abbrev c15_7 : AC := .seq (.ops 0 [⟨(some 24), .mv (.t 0), none⟩, ⟨(some 25), .mv (.t 1), none⟩, ⟨(some 26), .call 36 [(.t 24), (.t 25)], none⟩, ⟨(some 4), .as 3 1 (.t 26), none⟩, ⟨(some 5), .as 0 0 (.k (.lf (.int .i64 0))), none⟩] [4, 5]) .ret
abbrev c15_8 : AC := .seq c15_6 c15_7
abbrev c15_9 : AC := .seq c15_3 c15_8
abbrev c15_10 : AC := .seq (.ops 0 [⟨(some 4), .as 3 1 (.k (.lf (.lst .nl 1 [] []))), none⟩, ⟨(some 5), .as 0 0 (.k (.lf (.int .i64 0))), none⟩] [0, 1]) c15_9
abbrev c15 : AC := c15_10
theorem c15_ok : compileFn Tryd.prog 15 = some (27, AC.strip c15, [.t 4, .t 5]) := by kernel_rfl
/-- harrow/instr.Live -/
abbrev c17_0 : AC := .seq (.ops 0 [⟨(some 16), .mv (.t 5), none⟩, ⟨(some 2), .as 4 1 (.k (.lf (.lst .nl 1 [] []))), none⟩, ⟨(some 3), .as 0 0 (.t 16), none⟩] [2, 3]) .ret
abbrev c17_1 : AC := .cond (.t 15) c17_0 .skip
abbrev c17_2 : AC := .seq (.ops 0 [⟨(some 14), .mv (.t 5), none⟩, ⟨(some 15), .bin .neq (.t 14) (.k (.lf (.int .i64 0))), none⟩] [0, 5, 15]) c17_1
abbrev c17_3 : AC := .seq (.ops 0 [⟨(some 10), .mv (.t 0), none⟩, ⟨(some 11), .call 28 [(.t 10)], none⟩, ⟨(some 9), .mv (.t 11), none⟩, ⟨(some 12), .ext (.t 9) 0, none⟩, ⟨(some 13), .ext (.t 9) 1, none⟩, ⟨(some 4), .as 0 0 (.t 12), none⟩, ⟨(some 5), .as 0 0 (.t 13), none⟩] [0, 5]) c17_2
abbrev c17_4 : AC := .cond (.t 23) .skip (.exit 0)
abbrev c17_5 : AC := .seq (.ops 0 [⟨(some 21), .mv (.t 7), none⟩, ⟨(some 22), .len (.t 21), none⟩, ⟨(some 23), .bin .gtr (.t 22) (.k (.lf (.int .i64 0))), none⟩] [0, 6, 7, 23]) c17_4
abbrev c17_6 : AC := .seq (.ops 0 [⟨(some 40), .mv (.t 6), none⟩, ⟨(some 41), .mv (.t 8), none⟩, ⟨(some 42), .ia (.t 40) (.t 41) 1, none⟩, ⟨none, .st (.t 42) (.k (.lf (.bool true))) 1, none⟩] [0, 6, 7, 8]) (.ops 0 [⟨(some 43), .mv (.t 7), none⟩, ⟨(some 44), .mv (.t 0), none⟩, ⟨(some 45), .mv (.t 8), none⟩, ⟨(some 46), .call 36 [(.t 44), (.t 45)], none⟩, ⟨(some 47), .app 3 1 8 (.t 43) (.t 46), none⟩, ⟨(some 7), .as 3 1 (.t 47), none⟩] [0, 6, 7])
abbrev c17_7 : AC := .cond (.t 39) c17_6 .skip
abbrev c17_8 : AC := .seq (.ops 0 [⟨(some 35), .mv (.t 6), none⟩, ⟨(some 36), .mv (.t 8), none⟩, ⟨(some 37), .ia (.t 35) (.t 36) 1, none⟩, ⟨(some 38), .ld (.t 37) 1 false, none⟩, ⟨(some 39), .un .not (.t 38), none⟩] [0, 6, 7, 8, 39]) c17_7
abbrev c17_9 : AC := .seq (.ops 0 [⟨(some 30), .mv (.t 7), none⟩, ⟨(some 31), .mv (.t 7), none⟩, ⟨(some 32), .len (.t 31), none⟩, ⟨(some 33), .bin .sub (.t 32) (.k (.lf (.int .i64 1))), none⟩, ⟨(some 34), .sll 1 (.t 30) none (some (.t 33)), none⟩, ⟨(some 7), .as 3 1 (.t 34), none⟩] [0, 6, 7, 8]) c17_8
abbrev c17_10 : AC := .seq (.ops 0 [⟨(some 24), .mv (.t 7), none⟩, ⟨(some 25), .mv (.t 7), none⟩, ⟨(some 26), .len (.t 25), none⟩, ⟨(some 27), .bin .sub (.t 26) (.k (.lf (.int .i64 1))), none⟩, ⟨(some 28), .ia (.t 24) (.t 27) 1, none⟩, ⟨(some 29), .ld (.t 28) 1 false, none⟩, ⟨(some 8), .as 0 0 (.t 29), none⟩] [0, 6, 7, 8]) c17_9
abbrev c17_11 : AC := .block 1 c17_10
abbrev c17_12 : AC := .seq c17_5 c17_11
abbrev c17_13 : AC := .loop c17_12 [0, 6, 7]
abbrev c17_14 : AC := .block 0 c17_13
abbrev c17_15 : AC := .seq (.ops 0 [⟨(some 48), .mv (.t 6), none⟩, ⟨(some 2), .as 4 1 (.t 48), none⟩, ⟨(some 3), .as 0 0 (.k (.lf (.int .i64 0))), none⟩] [2, 3]) .ret
abbrev c17_16 : AC := .seq c17_14 c17_15
abbrev c17_17 : AC := .seq (.ops 0 [⟨(some 20), .bs 3 1 1 [.int .i64 0] [(0, (.k (.lf (.int .i64 0))))], none⟩, ⟨(some 7), .as 3 1 (.t 20), none⟩] [0, 6, 7]) c17_16
abbrev c17_18 : AC := .seq (.ops 0 [⟨(some 17), .mv (.t 0), none⟩, ⟨(some 18), .len (.t 17), none⟩, ⟨(some 19), .ms 4 1 1 [.bool false] (.t 18) (.t 18), none⟩, ⟨(some 6), .as 4 1 (.t 19), none⟩] [0, 6]) c17_17
abbrev c17_19 : AC := .seq c17_3 c17_18
abbrev c17_20 : AC := .seq (.ops 0 [⟨(some 2), .as 4 1 (.k (.lf (.lst .nl 1 [] []))), none⟩, ⟨(some 3), .as 0 0 (.k (.lf (.int .i64 0))), none⟩] [0]) c17_19
abbrev c17 : AC := c17_20
theorem c17_ok : compileFn Tryd.prog 17 = some (49, AC.strip c17, [.t 2, .t 3]) := by kernel_rfl
/-- harrow/instr.goes -/
abbrev c36_0 : AC := .cond (.t 13) (.ops 0 [⟨(some 14), .mv (.t 5), none⟩, ⟨(some 15), .mv (.t 1), none⟩, ⟨(some 16), .bin .add (.t 15) (.k (.lf (.int .i64 1))), none⟩, ⟨(some 17), .bs 3 1 1 [.int .i64 0] [(0, (.t 16))], none⟩, ⟨(some 18), .app 3 1 8 (.t 14) (.t 17), none⟩, ⟨(some 5), .as 3 1 (.t 18), none⟩] [1, 5, 6]) .skip
abbrev c36_1 : AC := .seq (.ops 0 [⟨(some 11), .fa (.t 6) 0, none⟩, ⟨(some 12), .ld (.t 11) 1 false, none⟩, ⟨(some 13), .call 50 [(.t 12), (.k (.lf (.int .i64 64)))], none⟩] [1, 5, 6, 13]) c36_0
abbrev c36_2 : AC := .cond (.t 32) (.ops 0 [⟨(some 33), .mv (.t 5), none⟩, ⟨(some 34), .mv (.t 1), none⟩, ⟨(some 35), .fa (.t 6) 1, none⟩, ⟨(some 36), .ld (.t 35) 1 false, none⟩, ⟨(some 37), .bin .add (.t 34) (.t 36), none⟩, ⟨(some 38), .bs 3 1 1 [.int .i64 0] [(0, (.t 37))], none⟩, ⟨(some 39), .app 3 1 8 (.t 33) (.t 38), none⟩, ⟨(some 5), .as 3 1 (.t 39), none⟩] [5]) .skip
abbrev c36_3 : AC := .seq (.ops 0 [⟨(some 19), .fa (.t 6) 0, none⟩, ⟨(some 20), .ld (.t 19) 1 false, none⟩, ⟨(some 21), .call 50 [(.t 20), (.k (.lf (.int .i64 32)))], none⟩, ⟨(some 22), .mv (.t 21), none⟩, ⟨(some 23), .fa (.t 6) 0, (some (22, true))⟩, ⟨(some 24), .ld (.t 23) 1 false, (some (22, true))⟩, ⟨(some 25), .call 50 [(.t 24), (.k (.lf (.int .i64 64)))], (some (22, true))⟩, ⟨(some 26), .un .not (.t 25), (some (22, true))⟩, ⟨(some 27), .mv (.t 26), (some (22, true))⟩, ⟨(some 28), .fa (.t 6) 1, (some (27, false))⟩, ⟨(some 29), .ld (.t 28) 1 false, (some (27, false))⟩, ⟨(some 30), .bin .neq (.t 29) (.k (.lf (.int .i64 1))), (some (27, false))⟩, ⟨(some 31), .pk (.t 27) (.k (.lf (.bool true))) (.t 30), (some (22, true))⟩, ⟨(some 32), .pk (.t 22) (.t 31) (.k (.lf (.bool false))), none⟩] [1, 5, 6, 32]) c36_2
abbrev c36_4 : AC := .seq (.ops 0 [⟨(some 42), .mv (.t 5), none⟩, ⟨(some 4), .as 3 1 (.t 42), none⟩] [4]) .ret
abbrev c36_5 : AC := .seq (.ops 0 [⟨(some 40), .mv (.t 5), none⟩, ⟨(some 41), .call 56 [(.t 40)], none⟩] [5]) c36_4
abbrev c36_6 : AC := .seq c36_3 c36_5
abbrev c36_7 : AC := .seq c36_1 c36_6
abbrev c36_8 : AC := .seq (.ops 0 [⟨(some 7), .mv (.t 0), none⟩, ⟨(some 8), .mv (.t 1), none⟩, ⟨(some 9), .ia (.t 7) (.t 8) 9, none⟩, ⟨(some 10), .ld (.t 9) 9 true, none⟩, ⟨(some 6), .al [.int .i64 0, .int .i64 0, .int .i64 0, .int .i64 0, .str ⟨#[]⟩, .int .u64 0, .int .u64 0, .int .u64 0, .int .u64 0], none⟩, ⟨none, .st (.t 6) (.t 10) 9, none⟩] [1, 5, 6]) c36_7
abbrev c36_9 : AC := .seq (.ops 0 [⟨(some 5), .as 3 1 (.k (.lf (.lst .nl 1 [] []))), none⟩] [0, 1, 5]) c36_8
abbrev c36_10 : AC := .seq (.ops 0 [⟨(some 4), .as 3 1 (.k (.lf (.lst .nl 1 [] []))), none⟩] [0, 1]) c36_9
abbrev c36 : AC := c36_10
theorem c36_ok : compileFn Tryd.prog 36 = some (43, AC.strip c36, [.t 4]) := by kernel_rfl
/-- slices.Sort[[]int,int] -/
abbrev c56_0 : AC := .seq (.ops 0 [⟨(some 3), .mv (.t 0), none⟩, ⟨(some 4), .len (.t 3), none⟩, ⟨(some 2), .as 0 0 (.t 4), none⟩] [0, 2]) (.ops 0 [⟨(some 5), .mv (.t 0), none⟩, ⟨(some 6), .mv (.t 2), none⟩, ⟨(some 7), .mv (.t 2), none⟩, ⟨(some 8), .cvi .u64 (.t 7), none⟩, ⟨(some 9), .call 69 [(.t 8)], none⟩, ⟨(some 10), .call 68 [(.t 5), (.k (.lf (.int .i64 0))), (.t 6), (.t 9)], none⟩] [])
abbrev c56 : AC := c56_0
theorem c56_ok : compileFn Tryd.prog 56 = some (11, AC.strip c56, []) := by kernel_rfl
/-- slices.pdqsortOrdered[int] -/
abbrev c68_0 : AC := .seq (.ops 0 [⟨(some 24), .mv (.t 0), none⟩, ⟨(some 25), .mv (.t 1), none⟩, ⟨(some 26), .mv (.t 2), none⟩, ⟨(some 27), .call 83 [(.t 24), (.t 25), (.t 26)], none⟩] []) .ret
abbrev c68_1 : AC := .cond (.t 23) c68_0 .skip
abbrev c68_2 : AC := .seq (.ops 0 [⟨(some 22), .mv (.t 10), none⟩, ⟨(some 23), .bin .leq (.t 22) (.k (.lf (.int .i64 12))), none⟩] [0, 1, 2, 3, 8, 9, 10, 23]) c68_1
abbrev c68_3 : AC := .seq (.ops 0 [⟨(some 30), .mv (.t 0), none⟩, ⟨(some 31), .mv (.t 1), none⟩, ⟨(some 32), .mv (.t 2), none⟩, ⟨(some 33), .call 84 [(.t 30), (.t 31), (.t 32)], none⟩] []) .ret
abbrev c68_4 : AC := .cond (.t 29) c68_3 .skip
abbrev c68_5 : AC := .seq (.ops 0 [⟨(some 28), .mv (.t 3), none⟩, ⟨(some 29), .bin .eql (.t 28) (.k (.lf (.int .i64 0))), none⟩] [0, 1, 2, 3, 8, 9, 10, 29]) c68_4
abbrev c68_6 : AC := .seq (.ops 0 [⟨(some 36), .mv (.t 0), none⟩, ⟨(some 37), .mv (.t 1), none⟩, ⟨(some 38), .mv (.t 2), none⟩, ⟨(some 39), .call 85 [(.t 36), (.t 37), (.t 38)], none⟩] [0, 1, 2, 3, 8, 9, 10]) (.ops 0 [⟨(some 40), .mv (.t 3), none⟩, ⟨(some 41), .bin .sub (.t 40) (.k (.lf (.int .i64 1))), none⟩, ⟨(some 3), .as 0 0 (.t 41), none⟩] [0, 1, 2, 3, 8, 9, 10])
abbrev c68_7 : AC := .cond (.t 35) c68_6 .skip
abbrev c68_8 : AC := .seq (.ops 0 [⟨(some 34), .mv (.t 8), none⟩, ⟨(some 35), .un .not (.t 34), none⟩] [0, 1, 2, 3, 8, 9, 10, 35]) c68_7
abbrev c68_9 : AC := .seq (.ops 0 [⟨(some 55), .mv (.t 2), none⟩, ⟨(some 56), .bin .sub (.t 55) (.k (.lf (.int .i64 1))), none⟩, ⟨(some 57), .mv (.t 11), none⟩, ⟨(some 58), .mv (.t 1), none⟩, ⟨(some 59), .bin .sub (.t 57) (.t 58), none⟩, ⟨(some 60), .bin .sub (.t 56) (.t 59), none⟩, ⟨(some 11), .as 0 0 (.t 60), none⟩] [0, 1, 2, 3, 8, 9, 10, 11]) (.ops 0 [⟨(some 12), .as 0 0 (.k (.lf (.int .i64 1))), none⟩] [0, 1, 2, 3, 8, 9, 10, 11, 12])
abbrev c68_10 : AC := .seq (.ops 0 [⟨(some 51), .mv (.t 0), none⟩, ⟨(some 52), .mv (.t 1), none⟩, ⟨(some 53), .mv (.t 2), none⟩, ⟨(some 54), .call 87 [(.t 51), (.t 52), (.t 53)], none⟩] [0, 1, 2, 3, 8, 9, 10, 11]) c68_9
abbrev c68_11 : AC := .cond (.t 50) c68_10 .skip
abbrev c68_12 : AC := .seq (.ops 0 [⟨(some 49), .mv (.t 12), none⟩, ⟨(some 50), .bin .eql (.t 49) (.k (.lf (.int .i64 2))), none⟩] [0, 1, 2, 3, 8, 9, 10, 11, 12, 50]) c68_11
abbrev c68_13 : AC := .cond (.t 72) .ret .skip
abbrev c68_14 : AC := .seq (.ops 0 [⟨(some 69), .mv (.t 0), none⟩, ⟨(some 70), .mv (.t 1), none⟩, ⟨(some 71), .mv (.t 2), none⟩, ⟨(some 72), .call 88 [(.t 69), (.t 70), (.t 71)], none⟩] [0, 1, 2, 3, 8, 9, 10, 11, 72]) c68_13
abbrev c68_15 : AC := .cond (.t 68) c68_14 .skip
abbrev c68_16 : AC := .seq (.ops 0 [⟨(some 61), .mv (.t 8), none⟩, ⟨(some 62), .mv (.t 61), none⟩, ⟨(some 63), .mv (.t 9), (some (62, true))⟩, ⟨(some 64), .pk (.t 62) (.t 63) (.k (.lf (.bool false))), none⟩, ⟨(some 65), .mv (.t 64), none⟩, ⟨(some 66), .mv (.t 12), (some (65, true))⟩, ⟨(some 67), .bin .eql (.t 66) (.k (.lf (.int .i64 1))), (some (65, true))⟩, ⟨(some 68), .pk (.t 65) (.t 67) (.k (.lf (.bool false))), none⟩] [0, 1, 2, 3, 8, 9, 10, 11, 68]) c68_15
abbrev c68_17 : AC := .seq (.ops 0 [⟨(some 93), .mv (.t 13), none⟩, ⟨(some 1), .as 0 0 (.t 93), none⟩] [0, 1, 2, 3, 8, 9]) (.exit 1)
abbrev c68_18 : AC := .seq (.ops 0 [⟨(some 88), .mv (.t 0), none⟩, ⟨(some 89), .mv (.t 1), none⟩, ⟨(some 90), .mv (.t 2), none⟩, ⟨(some 91), .mv (.t 11), none⟩, ⟨(some 92), .call 90 [(.t 88), (.t 89), (.t 90), (.t 91)], none⟩, ⟨(some 13), .as 0 0 (.t 92), none⟩] [0, 2, 3, 8, 9, 13]) c68_17
abbrev c68_19 : AC := .cond (.t 87) c68_18 .skip
abbrev c68_20 : AC := .seq (.reg [⟨(some 73), .mv (.t 1), none⟩, ⟨(some 74), .bin .gtr (.t 73) (.k (.lf (.int .i64 0))), none⟩, ⟨(some 75), .mv (.t 74), none⟩, ⟨(some 76), .mv (.t 0), (some (75, true))⟩, ⟨(some 77), .mv (.t 1), (some (75, true))⟩, ⟨(some 78), .bin .sub (.t 77) (.k (.lf (.int .i64 1))), (some (75, true))⟩, ⟨(some 79), .ia (.t 76) (.t 78) 1, (some (75, true))⟩, ⟨(some 80), .ld (.t 79) 1 false, (some (75, true))⟩, ⟨(some 81), .mv (.t 0), (some (75, true))⟩, ⟨(some 82), .mv (.t 11), (some (75, true))⟩, ⟨(some 83), .ia (.t 81) (.t 82) 1, (some (75, true))⟩, ⟨(some 84), .ld (.t 83) 1 false, (some (75, true))⟩] [⟨(some 85), .call 89 [(.t 80), (.t 84)], (some (75, true))⟩, ⟨(some 86), .un .not (.t 85), (some (75, true))⟩, ⟨(some 87), .pk (.t 75) (.t 86) (.k (.lf (.bool false))), none⟩] [0, 1, 2, 3, 8, 9, 10, 11, 87]) c68_19
abbrev c68_21 : AC := .seq (.ops 0 [⟨(some 117), .mv (.t 0), none⟩, ⟨(some 118), .mv (.t 1), none⟩, ⟨(some 119), .mv (.t 14), none⟩, ⟨(some 120), .mv (.t 3), none⟩, ⟨(some 121), .call 68 [(.t 117), (.t 118), (.t 119), (.t 120)], none⟩] [0, 2, 3, 8, 9, 14]) (.ops 0 [⟨(some 122), .mv (.t 14), none⟩, ⟨(some 123), .bin .add (.t 122) (.k (.lf (.int .i64 1))), none⟩, ⟨(some 1), .as 0 0 (.t 123), none⟩] [0, 1, 2, 3, 8, 9])
abbrev c68_22 : AC := .seq (.ops 0 [⟨(some 114), .mv (.t 16), none⟩, ⟨(some 115), .mv (.t 18), none⟩, ⟨(some 116), .bin .geq (.t 114) (.t 115), none⟩, ⟨(some 8), .as 0 0 (.t 116), none⟩] [0, 1, 2, 3, 8, 9, 14]) c68_21
abbrev c68_23 : AC := .seq (.ops 0 [⟨(some 127), .mv (.t 0), none⟩, ⟨(some 128), .mv (.t 14), none⟩, ⟨(some 129), .bin .add (.t 128) (.k (.lf (.int .i64 1))), none⟩, ⟨(some 130), .mv (.t 2), none⟩, ⟨(some 131), .mv (.t 3), none⟩, ⟨(some 132), .call 68 [(.t 127), (.t 129), (.t 130), (.t 131)], none⟩] [0, 1, 3, 8, 9, 14]) (.ops 0 [⟨(some 133), .mv (.t 14), none⟩, ⟨(some 2), .as 0 0 (.t 133), none⟩] [0, 1, 2, 3, 8, 9])
abbrev c68_24 : AC := .seq (.ops 0 [⟨(some 124), .mv (.t 17), none⟩, ⟨(some 125), .mv (.t 18), none⟩, ⟨(some 126), .bin .geq (.t 124) (.t 125), none⟩, ⟨(some 8), .as 0 0 (.t 126), none⟩] [0, 1, 2, 3, 8, 9, 14]) c68_23
abbrev c68_25 : AC := .cond (.t 113) c68_22 c68_24
abbrev c68_26 : AC := .seq (.ops 0 [⟨(some 111), .mv (.t 16), none⟩, ⟨(some 112), .mv (.t 17), none⟩, ⟨(some 113), .bin .lss (.t 111) (.t 112), none⟩] [0, 1, 2, 3, 9, 14, 16, 17, 18, 113]) c68_25
abbrev c68_27 : AC := .seq (.ops 0 [⟨(some 109), .mv (.t 10), none⟩, ⟨(some 110), .bin .quo (.t 109) (.k (.lf (.int .i64 8))), none⟩, ⟨(some 18), .as 0 0 (.t 110), none⟩] [0, 1, 2, 3, 9, 14, 16, 17, 18]) c68_26
abbrev c68_28 : AC := .seq (.ops 0 [⟨(some 103), .mv (.t 14), none⟩, ⟨(some 104), .mv (.t 1), none⟩, ⟨(some 105), .bin .sub (.t 103) (.t 104), none⟩, ⟨(some 106), .mv (.t 2), none⟩, ⟨(some 107), .mv (.t 14), none⟩, ⟨(some 108), .bin .sub (.t 106) (.t 107), none⟩, ⟨(some 16), .as 0 0 (.t 105), none⟩, ⟨(some 17), .as 0 0 (.t 108), none⟩] [0, 1, 2, 3, 9, 10, 14, 16, 17]) c68_27
abbrev c68_29 : AC := .seq (.ops 0 [⟨(some 102), .mv (.t 15), none⟩, ⟨(some 9), .as 0 0 (.t 102), none⟩] [0, 1, 2, 3, 9, 10, 14]) c68_28
abbrev c68_30 : AC := .seq (.ops 0 [⟨(some 95), .mv (.t 0), none⟩, ⟨(some 96), .mv (.t 1), none⟩, ⟨(some 97), .mv (.t 2), none⟩, ⟨(some 98), .mv (.t 11), none⟩, ⟨(some 99), .call 91 [(.t 95), (.t 96), (.t 97), (.t 98)], none⟩, ⟨(some 94), .mv (.t 99), none⟩, ⟨(some 100), .ext (.t 94) 0, none⟩, ⟨(some 101), .ext (.t 94) 1, none⟩, ⟨(some 14), .as 0 0 (.t 100), none⟩, ⟨(some 15), .as 0 0 (.t 101), none⟩] [0, 1, 2, 3, 10, 14, 15]) c68_29
abbrev c68_31 : AC := .seq c68_20 c68_30
abbrev c68_32 : AC := .seq c68_16 c68_31
abbrev c68_33 : AC := .seq c68_12 c68_32
abbrev c68_34 : AC := .seq (.ops 0 [⟨(some 43), .mv (.t 0), none⟩, ⟨(some 44), .mv (.t 1), none⟩, ⟨(some 45), .mv (.t 2), none⟩, ⟨(some 46), .call 86 [(.t 43), (.t 44), (.t 45)], none⟩, ⟨(some 42), .mv (.t 46), none⟩, ⟨(some 47), .ext (.t 42) 0, none⟩, ⟨(some 48), .ext (.t 42) 1, none⟩, ⟨(some 11), .as 0 0 (.t 47), none⟩, ⟨(some 12), .as 0 0 (.t 48), none⟩] [0, 1, 2, 3, 8, 9, 10, 11, 12]) c68_33
abbrev c68_35 : AC := .seq c68_8 c68_34
abbrev c68_36 : AC := .seq c68_5 c68_35
abbrev c68_37 : AC := .seq c68_2 c68_36
abbrev c68_38 : AC := .seq (.ops 0 [⟨(some 19), .mv (.t 2), none⟩, ⟨(some 20), .mv (.t 1), none⟩, ⟨(some 21), .bin .sub (.t 19) (.t 20), none⟩, ⟨(some 10), .as 0 0 (.t 21), none⟩] [0, 1, 2, 3, 8, 9, 10]) c68_37
abbrev c68_39 : AC := .block 1 c68_38
abbrev c68_40 : AC := .loop c68_39 [0, 1, 2, 3, 8, 9]
abbrev c68_41 : AC := .block 0 c68_40
abbrev c68_42 : AC := .seq (.ops 0 [⟨(some 9), .as 0 0 (.k (.lf (.bool true))), none⟩] [0, 1, 2, 3, 8, 9]) c68_41
abbrev c68_43 : AC := .seq (.ops 0 [⟨(some 8), .as 0 0 (.k (.lf (.bool true))), none⟩] [0, 1, 2, 3, 8]) c68_42
abbrev c68 : AC := c68_43
theorem c68_ok : compileFn Tryd.prog 68 = some (134, AC.strip c68, []) := by kernel_rfl
/-- math/bits.Len -/
abbrev c69_0 : AC := .seq (.ops 0 [⟨(some 3), .mv (.t 0), none⟩, ⟨(some 4), .cvi .u32 (.t 3), none⟩, ⟨(some 5), .call 92 [(.t 4)], none⟩, ⟨(some 2), .as 0 0 (.t 5), none⟩] [2]) .ret
abbrev c69_1 : AC := .cond (.k (.lf (.bool false))) c69_0 .skip
abbrev c69_2 : AC := .seq (.ops 0 [⟨(some 6), .mv (.t 0), none⟩, ⟨(some 7), .call 93 [(.t 6)], none⟩, ⟨(some 2), .as 0 0 (.t 7), none⟩] [2]) .ret
abbrev c69_3 : AC := .seq c69_1 c69_2
abbrev c69_4 : AC := .seq (.ops 0 [⟨(some 2), .as 0 0 (.k (.lf (.int .i64 0))), none⟩] [0]) c69_3
abbrev c69 : AC := c69_4
theorem c69_ok : compileFn Tryd.prog 69 = some (8, AC.strip c69, [.t 2]) := by kernel_rfl
/-- slices.insertionSortOrdered[int] -/
abbrev c83_0 : AC := .cond (.t 12) .skip (.exit 0)
abbrev c83_1 : AC := .seq (.ops 0 [⟨(some 10), .mv (.t 6), none⟩, ⟨(some 11), .mv (.t 2), none⟩, ⟨(some 12), .bin .lss (.t 10) (.t 11), none⟩] [0, 1, 2, 6, 12]) c83_0
abbrev c83_2 : AC := .cond (.t 30) .skip (.exit 2)
abbrev c83_3 : AC := .seq (.reg [⟨(some 16), .mv (.t 7), none⟩, ⟨(some 17), .mv (.t 1), none⟩, ⟨(some 18), .bin .gtr (.t 16) (.t 17), none⟩, ⟨(some 19), .mv (.t 18), none⟩, ⟨(some 20), .mv (.t 0), (some (19, true))⟩, ⟨(some 21), .mv (.t 7), (some (19, true))⟩, ⟨(some 22), .ia (.t 20) (.t 21) 1, (some (19, true))⟩, ⟨(some 23), .ld (.t 22) 1 false, (some (19, true))⟩, ⟨(some 24), .mv (.t 0), (some (19, true))⟩, ⟨(some 25), .mv (.t 7), (some (19, true))⟩, ⟨(some 26), .bin .sub (.t 25) (.k (.lf (.int .i64 1))), (some (19, true))⟩, ⟨(some 27), .ia (.t 24) (.t 26) 1, (some (19, true))⟩, ⟨(some 28), .ld (.t 27) 1 false, (some (19, true))⟩] [⟨(some 29), .call 89 [(.t 23), (.t 28)], (some (19, true))⟩, ⟨(some 30), .pk (.t 19) (.t 29) (.k (.lf (.bool false))), none⟩] [0, 1, 2, 6, 7, 30]) c83_2
abbrev c83_4 : AC := .block 3 (.reg [⟨(some 33), .mv (.t 0), none⟩, ⟨(some 34), .mv (.t 7), none⟩, ⟨(some 35), .mv (.t 0), none⟩, ⟨(some 36), .mv (.t 7), none⟩, ⟨(some 37), .bin .sub (.t 36) (.k (.lf (.int .i64 1))), none⟩, ⟨(some 38), .mv (.t 0), none⟩, ⟨(some 39), .mv (.t 7), none⟩, ⟨(some 40), .bin .sub (.t 39) (.k (.lf (.int .i64 1))), none⟩, ⟨(some 41), .ia (.t 38) (.t 40) 1, none⟩, ⟨(some 42), .ld (.t 41) 1 false, none⟩, ⟨(some 43), .mv (.t 0), none⟩, ⟨(some 44), .mv (.t 7), none⟩, ⟨(some 45), .ia (.t 43) (.t 44) 1, none⟩, ⟨(some 46), .ld (.t 45) 1 false, none⟩, ⟨(some 47), .ia (.t 33) (.t 34) 1, none⟩] [⟨none, .st (.t 47) (.t 42) 1, none⟩, ⟨(some 48), .ia (.t 35) (.t 37) 1, none⟩, ⟨none, .st (.t 48) (.t 46) 1, none⟩] [0, 1, 2, 6, 7])
abbrev c83_5 : AC := .seq c83_4 (.ops 0 [⟨(some 31), .mv (.t 7), none⟩, ⟨(some 32), .bin .sub (.t 31) (.k (.lf (.int .i64 1))), none⟩, ⟨(some 7), .as 0 0 (.t 32), none⟩] [0, 1, 2, 6, 7])
abbrev c83_6 : AC := .seq c83_3 c83_5
abbrev c83_7 : AC := .loop c83_6 [0, 1, 2, 6, 7]
abbrev c83_8 : AC := .block 2 c83_7
abbrev c83_9 : AC := .seq (.ops 0 [⟨(some 15), .mv (.t 6), none⟩, ⟨(some 7), .as 0 0 (.t 15), none⟩] [0, 1, 2, 6, 7]) c83_8
abbrev c83_10 : AC := .block 1 c83_9
abbrev c83_11 : AC := .seq c83_10 (.ops 0 [⟨(some 13), .mv (.t 6), none⟩, ⟨(some 14), .bin .add (.t 13) (.k (.lf (.int .i64 1))), none⟩, ⟨(some 6), .as 0 0 (.t 14), none⟩] [0, 1, 2, 6])
abbrev c83_12 : AC := .seq c83_1 c83_11
abbrev c83_13 : AC := .loop c83_12 [0, 1, 2, 6]
abbrev c83_14 : AC := .block 0 c83_13
abbrev c83_15 : AC := .seq (.ops 0 [⟨(some 8), .mv (.t 1), none⟩, ⟨(some 9), .bin .add (.t 8) (.k (.lf (.int .i64 1))), none⟩, ⟨(some 6), .as 0 0 (.t 9), none⟩] [0, 1, 2, 6]) c83_14
abbrev c83 : AC := c83_15
theorem c83_ok : compileFn Tryd.prog 83 = some (49, AC.strip c83, []) := by kernel_rfl
/-- cmp.Less[int] -/
abbrev c89_0 : AC := .seq (.ops 0 [⟨(some 5), .mv (.t 0), none⟩, ⟨(some 6), .call 109 [(.t 5)], none⟩, ⟨(some 7), .mv (.t 6), none⟩, ⟨(some 8), .mv (.t 1), (some (7, true))⟩, ⟨(some 9), .call 109 [(.t 8)], (some (7, true))⟩, ⟨(some 10), .un .not (.t 9), (some (7, true))⟩, ⟨(some 11), .pk (.t 7) (.t 10) (.k (.lf (.bool false))), none⟩, ⟨(some 12), .mv (.t 11), none⟩, ⟨(some 13), .mv (.t 0), (some (12, false))⟩, ⟨(some 14), .mv (.t 1), (some (12, false))⟩, ⟨(some 15), .bin .lss (.t 13) (.t 14), (some (12, false))⟩, ⟨(some 16), .pk (.t 12) (.k (.lf (.bool true))) (.t 15), none⟩, ⟨(some 4), .as 0 0 (.t 16), none⟩] [4]) .ret
abbrev c89_1 : AC := .seq (.ops 0 [⟨(some 4), .as 0 0 (.k (.lf (.bool false))), none⟩] [0, 1]) c89_0
abbrev c89 : AC := c89_1
theorem c89_ok : compileFn Tryd.prog 89 = some (17, AC.strip c89, [.t 4]) := by kernel_rfl
/-- math/bits.Len64 -/
abbrev c93_0 : AC := .seq (.ops 0 [⟨(some 5), .mv (.t 0), none⟩, ⟨(some 6), .bin .shr (.t 5) (.k (.lf (.int .u64 32))), none⟩, ⟨(some 0), .as 0 0 (.t 6), none⟩] [0]) (.ops 0 [⟨(some 2), .as 0 0 (.k (.lf (.int .i64 32))), none⟩] [0, 2])
abbrev c93_1 : AC := .cond (.t 4) c93_0 .skip
abbrev c93_2 : AC := .seq (.ops 0 [⟨(some 3), .mv (.t 0), none⟩, ⟨(some 4), .bin .geq (.t 3) (.k (.lf (.int .u64 4294967296))), none⟩] [0, 2, 4]) c93_1
abbrev c93_3 : AC := .seq (.ops 0 [⟨(some 9), .mv (.t 0), none⟩, ⟨(some 10), .bin .shr (.t 9) (.k (.lf (.int .u64 16))), none⟩, ⟨(some 0), .as 0 0 (.t 10), none⟩] [0, 2]) (.ops 0 [⟨(some 11), .mv (.t 2), none⟩, ⟨(some 12), .bin .add (.t 11) (.k (.lf (.int .i64 16))), none⟩, ⟨(some 2), .as 0 0 (.t 12), none⟩] [0, 2])
abbrev c93_4 : AC := .cond (.t 8) c93_3 .skip
abbrev c93_5 : AC := .seq (.ops 0 [⟨(some 7), .mv (.t 0), none⟩, ⟨(some 8), .bin .geq (.t 7) (.k (.lf (.int .u64 65536))), none⟩] [0, 2, 8]) c93_4
abbrev c93_6 : AC := .seq (.ops 0 [⟨(some 15), .mv (.t 0), none⟩, ⟨(some 16), .bin .shr (.t 15) (.k (.lf (.int .u64 8))), none⟩, ⟨(some 0), .as 0 0 (.t 16), none⟩] [0, 2]) (.ops 0 [⟨(some 17), .mv (.t 2), none⟩, ⟨(some 18), .bin .add (.t 17) (.k (.lf (.int .i64 8))), none⟩, ⟨(some 2), .as 0 0 (.t 18), none⟩] [0, 2])
abbrev c93_7 : AC := .cond (.t 14) c93_6 .skip
abbrev c93_8 : AC := .seq (.ops 0 [⟨(some 13), .mv (.t 0), none⟩, ⟨(some 14), .bin .geq (.t 13) (.k (.lf (.int .u64 256))), none⟩] [0, 2, 14]) c93_7
abbrev c93_9 : AC := .seq (.ops 0 [⟨(some 19), .mv (.t 2), none⟩, ⟨(some 20), .mv (.t 0), none⟩, ⟨(some 21), .cvi .u8 (.t 20), none⟩, ⟨(some 22), .ixs (.k (.lf (.str ⟨#[0, 1, 2, 2, 3, 3, 3, 3, 4, 4, 4, 4, 4, 4, 4, 4, 5, 5, 5, 5, 5, 5, 5, 5, 5, 5, 5, 5, 5, 5, 5, 5, 6, 6, 6, 6, 6, 6, 6, 6, 6, 6, 6, 6, 6, 6, 6, 6, 6, 6, 6, 6, 6, 6, 6, 6, 6, 6, 6, 6, 6, 6, 6, 6, 7, 7, 7, 7, 7, 7, 7, 7, 7, 7, 7, 7, 7, 7, 7, 7, 7, 7, 7, 7, 7, 7, 7, 7, 7, 7, 7, 7, 7, 7, 7, 7, 7, 7, 7, 7, 7, 7, 7, 7, 7, 7, 7, 7, 7, 7, 7, 7, 7, 7, 7, 7, 7, 7, 7, 7, 7, 7, 7, 7, 7, 7, 7, 7, 8, 8, 8, 8, 8, 8, 8, 8, 8, 8, 8, 8, 8, 8, 8, 8, 8, 8, 8, 8, 8, 8, 8, 8, 8, 8, 8, 8, 8, 8, 8, 8, 8, 8, 8, 8, 8, 8, 8, 8, 8, 8, 8, 8, 8, 8, 8, 8, 8, 8, 8, 8, 8, 8, 8, 8, 8, 8, 8, 8, 8, 8, 8, 8, 8, 8, 8, 8, 8, 8, 8, 8, 8, 8, 8, 8, 8, 8, 8, 8, 8, 8, 8, 8, 8, 8, 8, 8, 8, 8, 8, 8, 8, 8, 8, 8, 8, 8, 8, 8, 8, 8, 8, 8, 8, 8, 8, 8, 8, 8, 8, 8, 8, 8, 8, 8, 8, 8, 8, 8, 8, 8, 8, 8, 8, 8, 8, 8]⟩))) (.t 21), none⟩, ⟨(some 23), .cvi .i64 (.t 22), none⟩, ⟨(some 24), .bin .add (.t 19) (.t 23), none⟩, ⟨(some 2), .as 0 0 (.t 24), none⟩] [2]) .ret
abbrev c93_10 : AC := .seq c93_8 c93_9
abbrev c93_11 : AC := .seq c93_5 c93_10
abbrev c93_12 : AC := .seq c93_2 c93_11
abbrev c93_13 : AC := .seq (.ops 0 [⟨(some 2), .as 0 0 (.k (.lf (.int .i64 0))), none⟩] [0, 2]) c93_12
abbrev c93 : AC := c93_13
theorem c93_ok : compileFn Tryd.prog 93 = some (25, AC.strip c93, [.t 2]) := by kernel_rfl
/-- cmp.isNaN[int] -/
abbrev c109_0 : AC := .seq (.ops 0 [⟨(some 3), .mv (.t 0), none⟩, ⟨(some 4), .mv (.t 0), none⟩, ⟨(some 5), .bin .neq (.t 3) (.t 4), none⟩, ⟨(some 2), .as 0 0 (.t 5), none⟩] [2]) .ret
abbrev c109_1 : AC := .seq (.ops 0 [⟨(some 2), .as 0 0 (.k (.lf (.bool false))), none⟩] [0]) c109_0
abbrev c109 : AC := c109_1
theorem c109_ok : compileFn Tryd.prog 109 = some (6, AC.strip c109, [.t 2]) := by kernel_rfl
end Go.Proofs.YthcpaohmajjopaaDoor.I
set_option linter.unusedVariables false
set_option linter.unusedSimpArgs false
namespace Go.Proofs.YthcpaohmajjopaaDoor.I
open Go Go.Proofs.YthcpaohmajjopaaDoor.AM
variable {X : Cx}
theorem r109 (x : Int) : R X Tryd.prog 109 [.lf (.int .i64 x)] [] (.lf (.bool false)) [] := by
  refine R_i [] [] c109_ok rfl (by simp) ?_
  simp -implicitDefEqProofs (maxSteps := 2000000) only [c109, ↓reduceIte, s_ret, s_ops0, s_seq, s_opsK, s_seqK_n, s_nil, s_cons, s_wopsK, s_putK, o_mv, o_as, o_bin, v_neq, e_t, e_k, e_put, e_get, e_res, e_keep_n, e_keep_c, e_keep1_s, e_asg_b, St.init, enum, List.length_nil, Option.getD_some, Nat.reduceEqDiff, reduceCtorEq, and_true, decide_eq_false_iff_not, s_ret_r, s_retX, s_cells_n, t_lf, t_b, r_n, r_t, r_cons, one_1, Bool.and_true, ne_eq, Decidable.not_not]
theorem r89 (x y : Int) : R X Tryd.prog 89 [.lf (.int .i64 x), .lf (.int .i64 y)] [] (.lf (.bool (decide (x < y)))) [] := by
  refine R_i [] [] c89_ok rfl (by simp) ?_
  simp -implicitDefEqProofs (maxSteps := 2000000) only [c89, ↓reduceIte, s_ops0, s_seq, s_opsK, s_seqK_n, s_nil, s_cons, s_wopsK, o_mv, o_as, o_call, e_t, e_k, e_put, e_get, e_res, e_keep_n, e_keep_c, e_keep1_s, e_asg_b, St.init, enum, List.length_nil, Option.getD_some, Nat.reduceEqDiff, reduceCtorEq, List.map_cons, List.map_nil, PV.leaves, List.flatMap_cons, List.flatMap_nil, List.append_nil, rl_i, m_lf, Nat.zero_add]
  refine wcall_s (r109 x) rfl rfl ?_
  simp -implicitDefEqProofs (maxSteps := 2000000) only [c89, ↓reduceIte, s_ret, s_opsK, s_seqK_n, s_nil, s_cons, s_guard, s_wopsK, s_putK, s_grd, q_mv, q_bin, o_mv, o_as, o_pk, v_pk, o_bin, v_lss, e_t, e_k, e_put, e_get, e_res, e_keep_n, e_keep_c, e_keep1_s, e_asg_b, Option.getD_some, Nat.reduceEqDiff, reduceCtorEq, and_true, cond_false, Bool.not_true, Bool.false_eq_true, s_ret_r, s_retX, s_cells_n, t_lf, t_b, r_n, r_t, r_cons, one_1, St.clr, outV, ownsV, owns1, ownL, Bool.and_true, ol_b, m_lf]
theorem b01 : IntKind.i64.wrap (0 + 1) = 1 := by decide
theorem b12 : IntKind.i64.wrap (1 + 1) = 2 := by decide
theorem b10 : IntKind.i64.wrap (1 - 1) = 0 := by decide
theorem t0 : (0 : Int).toNat = 0 := rfl
theorem t1 : (1 : Int).toNat = 1 := rfl
theorem n11 : ¬ (1 : Int) < 1 := by decide
theorem n22 : ¬ (2 : Int) < 2 := by decide
theorem l12 : (1 : Int) < 2 := by decide
theorem l01 : (0 : Int) < 1 := by decide
theorem n00 : ¬ (0 : Int) < 0 := by decide
theorem r83a (x : Int) (k cap : Nat) : R X Tryd.prog 83 [.lf (.sl 0 0 1 1 cap), .lf (.int .i64 0), .lf (.int .i64 1)] [.int .i64 x :: List.replicate k .undef] (.tp []) [.int .i64 x :: List.replicate k .undef] := by
  refine R_i [] [] c83_ok rfl (by simp) ?_
  simp -implicitDefEqProofs (maxSteps := 2000000) only [c83, ↓reduceIte, s_ops0, s_seq, s_block, s_loop, s_opsK, s_seqK_n, s_nil, s_cons, s_wopsK, s_putK, o_mv, o_as, o_bin, v_add, e_t, e_k, e_put, e_get, e_res, e_keep_n, e_keep_c, e_keep1_s, e_asg_i, St.init, enum, List.length_nil, List.length_cons, Option.getD_some, Nat.reduceEqDiff, Nat.reduceAdd, reduceCtorEq, List.cons_append, List.nil_append, e_head, e_headK, kC_n, kC_c, pO_n, pO_i, Nat.zero_add, rg_1, pO_sl]
  intro Z hZ; apply hZ
  simp -implicitDefEqProofs (maxSteps := 2000000) only [c83, b01, n11, ↓reduceIte, s_exit, s_ops0, s_seq, s_cond, s_opsK, s_seqK_n, s_seqK_e, s_blkK_e, s_loopK_e, s_cnd, s_nil, s_cons, s_wopsK, s_putK, o_mv, o_bin, v_lss, e_t, e_put, e_get, e_res, e_keep_n, e_keep_c, e_keep1_s, Option.getD_some, Nat.reduceEqDiff, reduceCtorEq, and_true, decide_eq_true_eq, s_ret_n, s_retX, s_cells_n, t_tp, t_n, t_lc, t_i, r_n, Bool.and_true, Nat.lt_add_one, Nat.zero_add, s_cells_c, t_some, one_0, lv_rep]
theorem r83b (x y : Int) (k cap : Nat) : R X Tryd.prog 83 [.lf (.sl 0 0 1 2 cap), .lf (.int .i64 0), .lf (.int .i64 2)] [.int .i64 x :: .int .i64 y :: List.replicate k .undef] (.tp [])
    [.int .i64 (if y < x then y else x) :: .int .i64 (if y < x then x else y) :: List.replicate k .undef] := by
  refine R_i [] [] c83_ok rfl (by simp) ?_
  simp -implicitDefEqProofs (maxSteps := 2000000) only [c83, ↓reduceIte, s_ops0, s_seq, s_block, s_loop, s_opsK, s_seqK_n, s_nil, s_cons, s_wopsK, s_putK, o_mv, o_as, o_bin, v_add, e_t, e_k, e_put, e_get, e_res, e_keep_n, e_keep_c, e_keep1_s, e_asg_i, St.init, enum, List.length_nil, List.length_cons, Option.getD_some, Nat.reduceEqDiff, Nat.reduceAdd, reduceCtorEq, List.cons_append, List.nil_append, e_head, e_headK, kC_n, kC_c, pO_n, pO_i, Nat.zero_add, rg_1, pO_sl]
  intro Z hZ; apply hZ
  simp -implicitDefEqProofs (maxSteps := 2000000) only [c83, b01, l12, ↓reduceIte, s_skip, s_ops0, s_seq, s_cond, s_block, s_loop, s_opsK, s_seqK_n, s_cnd, s_nil, s_cons, s_wopsK, s_putK, o_mv, o_as, o_bin, v_lss, e_t, e_put, e_get, e_res, e_keep_n, e_keep_c, e_keep1_s, e_asg_i, Option.getD_some, Nat.reduceEqDiff, reduceCtorEq, decide_eq_true_eq, List.cons_append, List.nil_append, e_head, e_headK, kC_n, kC_c, pO_n, pO_i, rg_1, pO_sl]
  intro Z2 hZ2; apply hZ2
  simp -implicitDefEqProofs (maxSteps := 2000000) only [c83, b01, b10, l01, t0, t1, Nat.mul_one, Nat.zero_add, List.getElem?_cons_zero, List.getElem?_cons_succ, ↓reduceIte, s_seq, s_guard, s_wopsK, s_wopsqK, s_putK, s_grd, s_qnil, s_qcons, s_qguard, q_call, q_mv, q_bin, q_ia, q_ld, o_mv, o_bin, v_sub, v_gtr, v_part_f, v_atK, o_ia, o_ld, v_ld_p, v_ldC, o_call, e_t, e_k, e_put, e_get, Option.getD_some, Nat.reduceEqDiff, reduceCtorEq, true_and, and_true, cond_true, cond_false, decide_eq_true_eq, List.map_cons, List.map_nil, PV.leaves, List.flatMap_cons, List.flatMap_nil, List.append_nil, List.cons_append, List.nil_append, Bool.and_true, Bool.true_and, List.getElem?_cons_zero, List.getElem?_cons_succ, rl_i, m_lf, Nat.reduceLT, Nat.lt_add_one, Nat.zero_add, Nat.add_zero, s_reg, v_ia_s]
  refine ⟨by decide, by decide, ?_⟩
  refine wcall_s (r89 y x) rfl rfl ?_
  by_cases h : y < x
  · simp only [if_pos h] at *
    rw [decide_eq_true h]
    simp -implicitDefEqProofs (maxSteps := 2000000) only [c83, b01, b10, b12, l01, n00, n22, t0, t1, Nat.mul_one, Nat.zero_add, List.getElem?_cons_zero, List.getElem?_cons_succ, ↓reduceIte, s_skip, s_ops0, s_seq, s_cond, s_block, s_opsK, s_seqK_n, s_blkK_n, s_loopK_n, s_cnd, s_nil, s_cons, s_wopsK, s_wopsqK, s_putK, s_qnil, s_qcons, q_mv, q_bin, q_ia, q_ld, o_mv, o_as, o_pk, v_pk, o_bin, v_sub, v_part_f, v_atK, o_ia, o_ld, v_ld_p, v_ldC, o_st, v_st_p, v_stCK, e_t, e_k, e_put, e_get, e_res, e_keep_n, e_keep_c, e_keep1_s, e_asg_i, List.length_nil, List.length_cons, Option.getD_some, Nat.reduceEqDiff, Nat.reduceAdd, reduceCtorEq, true_and, and_true, Bool.false_eq_true, St.clr, outV, ownsV, owns1, ownL, List.cons_append, List.nil_append, List.all_cons, List.all_nil, Bool.and_true, Bool.true_and, Bool.and_self, PV.cells, cellL, fillL, Nat.reduceLeDiff, List.take_zero, List.drop_zero, List.take_succ_cons, List.drop_succ_cons, List.getElem?_cons_zero, List.getElem?_cons_succ, ol_b, m_lf, e_head, e_headK, kC_n, kC_c, pO_n, pO_i, st_i1, d_n, d_c, List.length_replicate, Nat.reduceLT, Nat.lt_add_one, Nat.zero_add, Nat.add_zero, s_reg, rg_1, pO_sl, v_ia_s]
    refine ⟨by decide, by decide, by decide, by decide, ?_⟩
    apply hZ2
    simp -implicitDefEqProofs (maxSteps := 2000000) only [c83, b01, b10, b12, l01, n00, n22, t0, t1, Nat.mul_one, Nat.zero_add, List.getElem?_cons_zero, List.getElem?_cons_succ, ↓reduceIte, s_exit, s_ops0, s_seq, s_cond, s_opsK, s_seqK_n, s_seqK_e, s_blkK_n, s_blkK_e, s_loopK_n, s_loopK_e, s_cnd, s_nil, s_cons, s_guard, s_wopsK, s_wopsqK, s_putK, s_grd, s_qnil, s_qcons, s_qguard, q_mv, q_bin, o_mv, o_as, o_pk, v_pk, o_bin, v_add, v_gtr, e_t, e_k, e_put, e_get, e_res, e_keep_n, e_keep_c, e_keep1_s, e_asg_i, Option.getD_some, Nat.reduceEqDiff, reduceCtorEq, Bool.not_true, Bool.false_eq_true, decide_eq_true_eq, List.cons_append, List.nil_append, e_head, e_headK, kC_n, kC_c, pO_n, pO_i, s_reg, rg_1, pO_sl]
    apply hZ
    simp -implicitDefEqProofs (maxSteps := 2000000) only [c83, b01, b10, b12, l01, n00, n22, t0, t1, Nat.mul_one, Nat.zero_add, List.getElem?_cons_zero, List.getElem?_cons_succ, ↓reduceIte, s_exit, s_ops0, s_seq, s_cond, s_opsK, s_seqK_n, s_seqK_e, s_blkK_e, s_loopK_e, s_cnd, s_nil, s_cons, s_wopsK, s_putK, o_mv, o_bin, v_lss, e_t, e_put, e_get, e_res, e_keep_n, e_keep_c, e_keep1_s, Option.getD_some, Nat.reduceEqDiff, reduceCtorEq, and_true, decide_eq_true_eq, s_ret_n, s_retX, s_cells_n, t_tp, t_n, t_lc, t_i, r_n, Bool.and_true, Nat.lt_add_one, Nat.zero_add, s_cells_c, t_some, one_0, lv_rep]
  · simp only [if_neg h] at *
    rw [decide_eq_false h]
    simp -implicitDefEqProofs (maxSteps := 2000000) only [c83, b01, b10, b12, l01, n00, n22, t0, t1, Nat.mul_one, Nat.zero_add, List.getElem?_cons_zero, List.getElem?_cons_succ, ↓reduceIte, s_exit, s_ops0, s_cond, s_opsK, s_seqK_n, s_seqK_e, s_blkK_n, s_blkK_e, s_loopK_n, s_loopK_e, s_cnd, s_nil, s_cons, s_wopsK, s_putK, o_mv, o_as, o_pk, v_pk, o_bin, v_add, e_t, e_k, e_put, e_get, e_res, e_keep_n, e_keep_c, e_keep1_s, e_asg_i, Option.getD_some, Nat.reduceEqDiff, reduceCtorEq, Bool.false_eq_true, St.clr, outV, ownsV, owns1, ownL, List.cons_append, List.nil_append, ol_b, m_lf, e_head, e_headK, kC_n, kC_c, pO_n, pO_i, rg_1, pO_sl]
    apply hZ
    simp -implicitDefEqProofs (maxSteps := 2000000) only [c83, b01, b10, b12, l01, n00, n22, t0, t1, Nat.mul_one, Nat.zero_add, List.getElem?_cons_zero, List.getElem?_cons_succ, ↓reduceIte, s_exit, s_ops0, s_seq, s_cond, s_opsK, s_seqK_n, s_seqK_e, s_blkK_e, s_loopK_e, s_cnd, s_nil, s_cons, s_wopsK, s_putK, o_mv, o_bin, v_lss, e_t, e_put, e_get, e_res, e_keep_n, e_keep_c, e_keep1_s, Option.getD_some, Nat.reduceEqDiff, reduceCtorEq, and_true, decide_eq_true_eq, s_ret_n, s_retX, s_cells_n, t_tp, t_n, t_lc, t_i, r_n, Bool.and_true, Nat.lt_add_one, Nat.zero_add, s_cells_c, t_some, one_0, lv_rep]
set_option maxRecDepth 100000 in
theorem r93 (n : Nat) (hn : n ≤ 2) : R X Tryd.prog 93 [.lf (.int .u64 n)] [] (.lf (.int .i64 n)) [] := by
  have h2 : ¬ (4294967296 : Int) ≤ (n : Int) := by omega
  have h3 : ¬ (65536 : Int) ≤ (n : Int) := by omega
  have h4 : ¬ (256 : Int) ≤ (n : Int) := by omega
  have h5 : IntKind.u8.wrap (n : Int) = n := w8 (by omega) (by omega)
  refine R_i [] [] c93_ok rfl (by simp) ?_
  simp -implicitDefEqProofs (maxSteps := 2000000) only [c93, h2, h3, h4, h5, ↓reduceIte, s_skip, s_ret, s_ops0, s_seq, s_cond, s_opsK, s_seqK_n, s_cnd, s_nil, s_cons, s_wopsK, s_putK, o_mv, o_as, o_bin, v_add, v_geq, o_cvi, v_cvi, o_ixs, v_ixs, e_t, e_k, e_put, e_get, e_res, e_keep_n, e_keep_c, e_keep1_s, e_asg_i, St.init, enum, List.length_nil, List.length_cons, Option.getD_some, Nat.reduceEqDiff, Nat.reduceAdd, reduceCtorEq, true_and, and_true, decide_eq_true_eq, s_ret_r, s_retX, s_cells_n, t_lf, t_i, r_n, r_t, r_cons, one_1, Bool.and_true, Bool.true_and, Nat.zero_add, ba_size]
  refine ⟨⟨by omega, by omega⟩, ?_⟩
  rcases (show n = 0 ∨ n = 1 ∨ n = 2 by omega) with rfl | rfl | rfl <;> decide
theorem r69 (n : Nat) (hn : n ≤ 2) : R X Tryd.prog 69 [.lf (.int .u64 n)] [] (.lf (.int .i64 n)) [] := by
  refine R_i [] [] c69_ok rfl (by simp) ?_
  simp -implicitDefEqProofs (maxSteps := 2000000) only [c69, ↓reduceIte, s_skip, s_ops0, s_seq, s_cond, s_opsK, s_seqK_n, s_cnd, s_nil, s_cons, s_wopsK, o_mv, o_as, o_call, e_t, e_k, e_put, e_get, e_res, e_keep_n, e_keep_c, e_keep1_s, e_asg_i, St.init, enum, List.length_nil, Option.getD_some, reduceCtorEq, Bool.false_eq_true, List.map_cons, List.map_nil, PV.leaves, List.flatMap_cons, List.flatMap_nil, List.append_nil, rl_i, m_lf]
  refine wcall_s (r93 n hn) rfl rfl ?_
  simp -implicitDefEqProofs (maxSteps := 2000000) only [c69, ↓reduceIte, s_ret, s_opsK, s_seqK_n, s_nil, s_cons, s_wopsK, o_as, e_t, e_put, e_get, e_res, e_keep_n, e_keep_c, e_keep1_s, e_asg_i, Option.getD_some, and_true, Bool.false_eq_true, s_ret_r, s_retX, s_cells_n, t_lf, t_i, r_n, r_t, r_cons, one_1, St.clr, outV, ownsV, owns1, ownL, Bool.and_true, ol_i, m_lf]
theorem rep_toC (c k : Nat) (l : List L) (h : l.map (toC c) = l) : (l ++ List.replicate k L.undef).map (toC c) = l ++ List.replicate k L.undef := by
  rw [List.map_append, h, List.map_replicate]; rfl
/-- one or two numbers, sorted -/
def srt : List Int → List Int
  | [x, y] => if y < x then [y, x] else [x, y]
  | l => l
def intL (l : List Int) : List L := l.map fun x => .int .i64 x
theorem intL_toC (c : Nat) (l : List Int) : (intL l).map (toC c) = intL l := by
  simp [intL, toC]
theorem intL_fromC (c : Nat) (l : List Int) : (intL l).map (fromC c) = intL l := by
  simp [intL, fromC]
theorem rep_fromC (c k : Nat) (l : List L) (h : l.map (fromC c) = l) : (l ++ List.replicate k L.undef).map (fromC c) = l ++ List.replicate k L.undef := by
  rw [List.map_append, h, List.map_replicate]; rfl
theorem leaves_int (m : Nat) (ρ : List (Nat × Nat)) (dn : List Nat) (k : Nat) : ∀ (l : List Int), leavesTo m ρ dn (intL l ++ List.replicate k L.undef) (intL l ++ List.replicate k L.undef) = True
  | [] => lv_rep
  | x :: l => by
    refine eq_true ⟨⟨rfl, rfl⟩, ?_⟩
    exact of_eq_true (leaves_int m ρ dn k l)
theorem srt_len (l : List Int) : (srt l).length = l.length := by
  unfold srt; split
  · split <;> rfl
  · rfl
theorem r83 (l : List Int) (hl : l.length = 1 ∨ l.length = 2) (k cap : Nat) : R X Tryd.prog 83 [.lf (.sl 0 0 1 l.length cap), .lf (.int .i64 0), .lf (.int .i64 l.length)] [intL l ++ List.replicate k .undef] (.tp []) [intL (srt l) ++ List.replicate k .undef] := by
  match l, hl with
  | [x], _ => exact r83a x k cap
  | [x, y], _ =>
    have := r83b (X := X) x y k cap
    by_cases h : y < x
    · simp only [if_pos h] at this
      simp only [srt, if_pos h]
      exact this
    · simp only [if_neg h] at this
      simp only [srt, if_neg h]
      exact this
theorem r68 (l : List Int) (hl : l.length = 1 ∨ l.length = 2) (k cap : Nat) (lim : Int) : R X Tryd.prog 68 [.lf (.sl 0 0 1 l.length cap), .lf (.int .i64 0), .lf (.int .i64 l.length), .lf (.int .i64 lim)] [intL l ++ List.replicate k .undef] (.tp []) [intL (srt l) ++ List.replicate k .undef] := by
  have h83 := r83 (X := X) l hl k cap
  have hw : IntKind.i64.wrap ((l.length : Int) - 0) = l.length := by rw [w64 (by omega) (by omega)]; omega
  have hlt : (l.length : Int) ≤ 12 := by omega
  generalize l.length = n at *
  have hC := rep_toC 0 k (intL l) (intL_toC 0 l)
  have hF := rep_fromC 0 k (intL (srt l)) (intL_fromC 0 _)
  have hL := leaves_int 1 [] [] k (srt l)
  generalize intL l ++ List.replicate k L.undef = cs at *
  generalize intL (srt l) ++ List.replicate k L.undef = cs2 at *
  refine R_i [] [] c68_ok rfl (by simp) ?_
  simp -implicitDefEqProofs (maxSteps := 2000000) only [c68, ↓reduceIte, s_ops0, s_seq, s_block, s_loop, s_opsK, s_seqK_n, s_nil, s_cons, s_wopsK, o_as, e_k, e_get, e_res, e_keep_n, e_keep_c, e_keep1_s, e_asg_b, St.init, enum, List.length_nil, List.length_cons, Nat.reduceEqDiff, Nat.reduceAdd, reduceCtorEq, List.cons_append, List.nil_append, e_head, e_headK, kC_n, kC_c, pO_n, pO_b, pO_i, Nat.zero_add, rg_1, pO_sl]
  intro Z hZ; apply hZ
  simp -implicitDefEqProofs (maxSteps := 2000000) only [c68, hw, hlt, ↓reduceIte, s_ops0, s_seq, s_cond, s_block, s_opsK, s_seqK_n, s_cnd, s_nil, s_cons, s_wopsK, s_putK, o_mv, o_as, o_bin, v_sub, v_leq, o_call, e_t, e_k, e_put, e_get, e_res, e_keep_n, e_keep_c, e_keep1_s, e_asg_i, Option.getD_some, Nat.reduceEqDiff, reduceCtorEq, decide_eq_true_eq, List.map_cons, List.map_nil, PV.leaves, List.flatMap_cons, List.flatMap_nil, List.append_nil, List.cons_append, List.nil_append, rl_i, m_lf, rl_sl]
  refine wcall_b 0 (c := 0) rfl rfl h83 rfl hC rfl ?_
  simp -implicitDefEqProofs (maxSteps := 2000000) only [c68, hF, hL, ↓reduceIte, s_ret, s_opsK, s_seqK_n, s_seqK_r, s_blkK_r, s_loopK_r, s_nil, s_wopsK, e_put, e_get, e_res, e_keep_n, and_true, Bool.false_eq_true, s_ret_r, s_retX, s_cells_n, t_tp, t_n, r_n, outV, ownsV, List.map_nil, List.any_nil, Bool.and_true, m_lf, m_tp, m_n, m_c, d_n, d_c, dw_n, dw_i, Nat.lt_add_one, Nat.zero_add, kl_b, kl_i, kf_s, cp_st, s_cells_c, t_some, one_0, kl_sl, dw_sl0]
theorem r56 (l : List Int) (hl : l.length = 1 ∨ l.length = 2) (k cap : Nat) : R X Tryd.prog 56 [.lf (.sl 0 0 1 l.length cap)] [intL l ++ List.replicate k .undef] (.tp []) [intL (srt l) ++ List.replicate k .undef] := by
  have h68 := r68 (X := X) l hl k cap l.length
  have h69 := r69 (X := X) l.length (by omega)
  have hw : IntKind.u64.wrap (l.length : Int) = l.length := by simp only [IntKind.wrap, IntKind.bits, IntKind.signed]; simp; omega
  generalize l.length = n at *
  have hC := rep_toC 0 k (intL l) (intL_toC 0 l)
  have hF := rep_fromC 0 k (intL (srt l)) (intL_fromC 0 _)
  have hL := leaves_int 1 [] [] k (srt l)
  generalize intL l ++ List.replicate k L.undef = cs at *
  generalize intL (srt l) ++ List.replicate k L.undef = cs2 at *
  refine R_i [] [] c56_ok rfl (by simp) ?_
  simp -implicitDefEqProofs (maxSteps := 2000000) only [c56, hw, ↓reduceIte, s_ops0, s_seq, s_opsK, s_seqK_n, s_nil, s_cons, s_wopsK, s_putK, o_mv, o_as, o_cvi, v_cvi, o_len, o_call, e_t, e_put, e_get, e_res, e_keep_n, e_keep_c, e_keep1_s, e_asg_i, St.init, enum, List.length_nil, List.length_cons, Option.getD_some, Nat.reduceEqDiff, reduceCtorEq, List.map_cons, List.map_nil, PV.leaves, List.flatMap_cons, List.flatMap_nil, List.append_nil, rl_i, m_lf, Nat.zero_add, v_len_s]
  refine wcall_s h69 rfl rfl ?_
  simp -implicitDefEqProofs (maxSteps := 2000000) only [c56, ↓reduceIte, s_cons, s_wopsK, o_call, e_t, e_k, e_put, e_get, Option.getD_some, Nat.reduceEqDiff, Bool.false_eq_true, St.clr, outV, ownsV, owns1, ownL, List.map_cons, List.map_nil, PV.leaves, List.flatMap_cons, List.flatMap_nil, List.append_nil, List.cons_append, List.nil_append, rl_i, ol_i, m_lf, rl_sl]
  refine wcall_b 0 (c := 0) rfl rfl h68 rfl hC rfl ?_
  simp -implicitDefEqProofs (maxSteps := 2000000) only [c56, hF, hL, ↓reduceIte, s_opsK, s_nil, s_wopsK, e_put, e_get, e_res, e_keep_n, and_true, Bool.false_eq_true, s_ret_n, s_retX, s_cells_n, t_tp, t_n, r_n, outV, ownsV, List.map_nil, List.any_nil, Bool.and_true, m_lf, m_tp, m_n, m_c, d_n, d_c, dw_n, dw_i, Nat.lt_add_one, Nat.zero_add, kl_i, kf_s, cp_st, s_cells_c, t_some, one_0, kl_sl, dw_sl0]
/-- an empty list stays -/
theorem r83e : R X Tryd.prog 83 [.lf (.lst .ro 1 [] []), .lf (.int .i64 0), .lf (.int .i64 0)] [] (.tp []) [] := by
  have h10 : ¬ (1 : Int) < 0 := by decide
  refine R_i [] [] c83_ok rfl (by simp) ?_
  simp -implicitDefEqProofs (maxSteps := 2000000) only [c83, ↓reduceIte, s_ops0, s_seq, s_block, s_loop, s_opsK, s_seqK_n, s_nil, s_cons, s_wopsK, s_putK, o_mv, o_as, o_bin, v_add, e_t, e_k, e_put, e_get, e_res, e_keep_n, e_keep_c, e_keep1_s, e_asg_i, St.init, enum, List.length_nil, Option.getD_some, Nat.reduceEqDiff, Nat.reduceAdd, reduceCtorEq, List.append_nil, e_head, e_headK, kC_n, pO_n, pO_i, pO_l, List.range_zero, Nat.zero_add]
  intro Z hZ; apply hZ
  simp -implicitDefEqProofs (maxSteps := 2000000) only [c83, b01, h10, ↓reduceIte, s_exit, s_ops0, s_seq, s_cond, s_opsK, s_seqK_n, s_seqK_e, s_blkK_e, s_loopK_e, s_cnd, s_nil, s_cons, s_wopsK, s_putK, o_mv, o_bin, v_lss, e_t, e_put, e_get, e_res, e_keep_n, e_keep_c, e_keep1_s, Option.getD_some, Nat.reduceEqDiff, reduceCtorEq, and_true, decide_eq_true_eq, s_ret_n, s_retX, s_cells_n, t_tp, t_n, r_n, Bool.and_true, one_0]
theorem r68e (lim : Int) : R X Tryd.prog 68 [.lf (.lst .ro 1 [] []), .lf (.int .i64 0), .lf (.int .i64 0), .lf (.int .i64 lim)] [] (.tp []) [] := by
  have h10 : (0 : Int) ≤ 12 := by decide
  have hw : IntKind.i64.wrap (0 - 0) = 0 := by decide
  refine R_i [] [] c68_ok rfl (by simp) ?_
  simp -implicitDefEqProofs (maxSteps := 2000000) only [c68, ↓reduceIte, s_ops0, s_seq, s_block, s_loop, s_opsK, s_seqK_n, s_nil, s_cons, s_wopsK, o_as, e_k, e_get, e_res, e_keep_n, e_keep_c, e_keep1_s, e_asg_b, St.init, enum, List.length_nil, Nat.reduceEqDiff, Nat.reduceAdd, reduceCtorEq, List.append_nil, e_head, e_headK, kC_n, pO_n, pO_b, pO_i, pO_l, List.range_zero, Nat.zero_add]
  intro Z hZ; apply hZ
  simp -implicitDefEqProofs (maxSteps := 2000000) only [c68, hw, h10, ↓reduceIte, s_ops0, s_seq, s_cond, s_block, s_opsK, s_seqK_n, s_cnd, s_nil, s_cons, s_wopsK, s_putK, o_mv, o_as, o_bin, v_sub, v_leq, o_call, e_t, e_k, e_put, e_get, e_res, e_keep_n, e_keep_c, e_keep1_s, e_asg_i, Option.getD_some, Nat.reduceEqDiff, reduceCtorEq, decide_eq_true_eq, List.map_cons, List.map_nil, PV.leaves, List.flatMap_cons, List.flatMap_nil, List.append_nil, List.cons_append, List.nil_append, rl_i, rl_l, m_lf]
  refine wcall_s r83e rfl rfl ?_
  simp -implicitDefEqProofs (maxSteps := 2000000) only [c68, ↓reduceIte, s_ret, s_opsK, s_seqK_n, s_seqK_r, s_blkK_r, s_loopK_r, s_nil, s_wopsK, e_put, e_res, e_keep_n, and_true, Bool.false_eq_true, s_ret_r, s_retX, s_cells_n, t_tp, t_n, r_n, St.clr, outV, ownsV, List.map_nil, List.any_nil, Bool.and_true, m_tp, one_0]
theorem r56e : R X Tryd.prog 56 [.lf (.lst .ro 1 [] [])] [] (.tp []) [] := by
  refine R_i [] [] c56_ok rfl (by simp) ?_
  have h69 := r69 (X := X) 0 (by omega)
  have hw : IntKind.u64.wrap ((0 : Nat) : Int) = ((0 : Nat) : Int) := by decide
  simp -implicitDefEqProofs (maxSteps := 2000000) only [c56, hw, ↓reduceIte, s_ops0, s_seq, s_opsK, s_seqK_n, s_nil, s_cons, s_wopsK, s_putK, o_mv, o_as, o_cvi, v_cvi, o_len, v_len, o_call, e_t, e_put, e_get, e_res, e_keep_n, e_keep_c, e_keep1_s, e_asg_i, St.init, enum, List.length_nil, Option.getD_some, Nat.reduceEqDiff, reduceCtorEq, List.map_cons, List.map_nil, PV.leaves, List.flatMap_cons, List.flatMap_nil, List.append_nil, Nat.zero_le, rl_i, m_lf, forall_const]
  refine wcall_s h69 rfl rfl ?_
  simp -implicitDefEqProofs (maxSteps := 2000000) only [c56, ↓reduceIte, s_cons, s_wopsK, o_call, e_t, e_k, e_put, e_get, Option.getD_some, Nat.reduceEqDiff, Bool.false_eq_true, St.clr, outV, ownsV, owns1, ownL, List.map_cons, List.map_nil, PV.leaves, List.flatMap_cons, List.flatMap_nil, List.append_nil, List.cons_append, List.nil_append, rl_i, ol_i, rl_l, m_lf]
  refine wcall_s (r68e _) rfl rfl ?_
  simp -implicitDefEqProofs (maxSteps := 2000000) only [c56, ↓reduceIte, s_opsK, s_nil, s_wopsK, e_put, e_res, e_keep_n, and_true, Bool.false_eq_true, s_ret_n, s_retX, s_cells_n, t_tp, t_n, r_n, St.clr, outV, ownsV, List.map_nil, List.any_nil, Bool.and_true, m_tp, one_0]
/-- where an instruction goes on -/
def goesF (on tg : Bool) (at' a : Int) : List Int := srt ((if on then [at' + 1] else []) ++ (if tg && (!on || decide (¬ a = 1)) then [at' + a] else []))
theorem r36 (hX : X.G 1 = some usesL) (code : List Ins) (sp : List (List L)) (i : Nat) (hi : i < code.length) (hl : code.length ≤ 9000) (k : Nat) (hk : k < 21) (hop : code[i].op = k)
    (ha : hasB k 32 = true → -(i : Int) ≤ code[i].a ∧ code[i].a < code.length - i) (r : List Int) (hr : goesF (hasB k 64) (hasB k 32) i code[i].a = r) :
    R X Tryd.prog 36 [.lf (.lst .ro 9 (code.map Ins.c) sp), .lf (.int .i64 i)] [] (.lf (.lst (.own 0 3) 1 (r.map fun x => [L.int .i64 x]) [])) [] := by
  have h64 := r50 hX k hk 64
  have h32 := r50 hX k hk 32
  have w1 : IntKind.i64.wrap ((i : Int) + 1) = (i : Int) + 1 := w64 (by omega) (by omega)
  refine R_i [(0, 512)] [] c36_ok rfl (by simp) ?_
  unfold goesF at hr
  have hop' : code[i].op = (k : Int) := hop
  generalize hx : code[i] = x at *
  obtain ⟨xop, xa, xb, xn, xt, s0, s1, s2, s3⟩ := x
  simp only at hop' ha hr
  subst hop'
  have hxi : code[i]? = some ⟨k, xa, xb, xn, xt, s0, s1, s2, s3⟩ := by rw [List.getElem?_eq_getElem hi, hx]
  have hg : (code.map Ins.c).getD (i : Int).toNat [] = [.int .i64 k, .int .i64 xa, .int .i64 xb, .int .i64 xn, .str xt, .int .u64 s0, .int .u64 s1, .int .u64 s2, .int .u64 s3] := by
    rw [Int.toNat_natCast, List.getD_eq_getElem?_getD, List.getElem?_map, hxi]; rfl
  simp -implicitDefEqProofs (maxSteps := 2000000) only [c36, hg, v_ld_e, w1, ↓reduceIte, s_ops0, s_seq, s_opsK, s_seqK_n, s_nil, s_cons, s_wopsK, s_putK, o_mv, o_as, v_part_t, v_part_f, v_atK, o_al, o_fa, v_fa_p, o_ia, v_ia, o_ld, v_ld_p, v_ldC, o_st, v_st_p, v_stCK, o_call, e_t, e_k, e_put, e_get, e_res, e_keep_n, e_keep_c, e_keep1_s, St.init, enum, List.length_nil, List.length_cons, Option.getD_some, Nat.reduceEqDiff, Nat.reduceAdd, reduceCtorEq, true_and, List.map_cons, List.map_nil, PV.leaves, List.flatMap_cons, List.flatMap_nil, List.append_nil, List.cons_append, List.nil_append, List.all_cons, List.all_nil, Bool.true_and, Bool.and_self, PV.cells, cellL, fillL, Nat.reduceMul, Nat.zero_le, Nat.le_refl, List.take_zero, List.drop_zero, List.take_succ_cons, List.drop_succ_cons, List.drop_nil, List.take_nil, List.getElem?_cons_zero, kp_i, kc_i, kc_s, rl_i, kp_lro, kc_l, m_lf, m_ag, m_n, m_c, m_all, e_asg_n, st_b, d_n, d_c, plT, Nat.zero_add, Nat.add_zero, kc_er]
  refine ⟨⟨by omega, by simp; omega⟩, by simp; omega, ?_⟩
  refine wcall_s h64 rfl rfl ?_
  have w2 : hasB k 32 = true → IntKind.i64.wrap ((i : Int) + xa) = (i : Int) + xa := fun h => w64 (by have := ha h; omega) (by have := ha h; omega)
  generalize hasB k 64 = f64 at *
  generalize hasB k 32 = f32 at *
  have one : ∀ x : Int, srt [x] = [x] := fun x => rfl
  cases f64 <;> cases f32
  · simp -implicitDefEqProofs (maxSteps := 2000000) only [c36, ↓reduceIte, s_skip, s_ops0, s_seq, s_cond, s_opsK, s_seqK_n, s_cnd, s_nil, s_cons, s_wopsK, s_putK, v_part_f, v_atK, o_fa, v_fa_p, o_ld, v_ld_p, v_ldC, o_call, e_t, e_k, e_put, e_get, e_res, e_keep_n, e_keep_c, e_keep1_s, Option.getD_some, Nat.reduceEqDiff, Bool.false_eq_true, St.clr, outV, ownsV, owns1, ownL, List.map_cons, List.map_nil, PV.leaves, List.flatMap_cons, List.flatMap_nil, List.append_nil, List.cons_append, List.nil_append, List.getElem?_cons_zero, rl_i, ol_b, m_lf, Nat.add_zero]
    refine wcall_s h32 rfl rfl ?_
    simp -implicitDefEqProofs (maxSteps := 2000000) only [c36, ↓reduceIte, s_skip, s_ops0, s_seq, s_cond, s_opsK, s_seqK_n, s_cnd, s_nil, s_cons, s_guard, s_wopsK, s_putK, s_grd, s_grd_no, o_mv, o_pk, v_pk, o_call, e_t, e_k, e_put, e_get, e_res, e_keep_n, e_keep_c, e_keep1_s, Option.getD_some, Nat.reduceEqDiff, Bool.not_true, Bool.false_eq_true, St.clr, outV, ownsV, owns1, ownL, List.map_cons, List.map_nil, PV.leaves, List.flatMap_cons, List.flatMap_nil, List.append_nil, ol_b, rl_l, m_lf]
    refine wcall_s r56e rfl rfl ?_
    simp only [Bool.false_eq_true, if_false, Bool.false_and, List.append_nil] at hr
    subst hr
    simp -implicitDefEqProofs (maxSteps := 2000000) only [c36, srt, List.map_nil, ↓reduceIte, s_ret, s_ops0, s_seq, s_opsK, s_seqK_n, s_nil, s_cons, s_wopsK, o_mv, o_as, e_t, e_put, e_get, e_res, e_keep_n, e_keep_c, e_keep1_s, Option.getD_some, Nat.reduceEqDiff, true_and, and_true, Bool.false_eq_true, s_ret_r, s_retX, s_cells_n, t_lf, t_l, t_oo, r_n, r_t, r_cons, one_1, St.clr, outV, ownsV, List.map_cons, List.map_nil, List.any_nil, Bool.and_true, Bool.true_and, Nat.reduceMul, Nat.reduceBEq, BEq.rfl, rk_i, rk_s, rk_lo, m_lf, m_tp, m_n, m_c, m_all, e_asg_o, plT, Nat.add_zero, true_or, or_true]
    done
  · simp -implicitDefEqProofs (maxSteps := 2000000) only [c36, ↓reduceIte, s_skip, s_ops0, s_seq, s_cond, s_opsK, s_seqK_n, s_cnd, s_nil, s_cons, s_wopsK, s_putK, v_part_f, v_atK, o_fa, v_fa_p, o_ld, v_ld_p, v_ldC, o_call, e_t, e_k, e_put, e_get, e_res, e_keep_n, e_keep_c, e_keep1_s, Option.getD_some, Nat.reduceEqDiff, Bool.false_eq_true, St.clr, outV, ownsV, owns1, ownL, List.map_cons, List.map_nil, PV.leaves, List.flatMap_cons, List.flatMap_nil, List.append_nil, List.cons_append, List.nil_append, List.getElem?_cons_zero, rl_i, ol_b, m_lf, Nat.add_zero]
    refine wcall_s h32 rfl rfl ?_
    have w3 := w2 rfl
    simp -implicitDefEqProofs (maxSteps := 2000000) only [c36, w3, ↓reduceIte, s_cons, s_guard, s_wopsK, s_putK, s_grd, q_call, q_fa, q_ld, o_mv, v_part_f, v_atK, o_fa, v_fa_p, o_ld, v_ld_p, v_ldC, o_call, e_t, e_k, e_put, e_get, Option.getD_some, Nat.reduceEqDiff, cond_false, Bool.false_eq_true, St.clr, outV, ownsV, owns1, ownL, List.map_cons, List.map_nil, PV.leaves, List.flatMap_cons, List.flatMap_nil, List.append_nil, List.cons_append, List.nil_append, List.getElem?_cons_zero, rl_i, ol_b, m_lf, Nat.add_zero]
    refine wcall_s h64 rfl rfl ?_
    simp -implicitDefEqProofs (maxSteps := 2000000) only [c36, w3, ↓reduceIte, s_ops0, s_seq, s_cond, s_opsK, s_seqK_n, s_cnd, s_nil, s_cons, s_guard, s_wopsK, s_putK, s_grd, q_mv, q_pk, q_un, o_mv, o_as, o_pk, v_pk, o_bin, v_add, o_un, v_not, v_part_f, v_atK, o_fa, v_fa_p, o_ld, v_ld_p, v_ldC, o_bs, v_bsK, v_lit_n, v_lit_c, o_app, v_app_o, o_call, e_t, e_k, e_put, e_get, e_res, e_keep_n, e_keep_c, e_keep1_s, List.length_nil, List.length_cons, Option.getD_some, Nat.reduceEqDiff, reduceCtorEq, true_and, cond_false, Bool.not_false, Bool.true_eq_false, Bool.false_eq_true, St.clr, outV, ownsV, owns1, ownL, List.map_cons, List.map_nil, Bool.or_false, PV.leaves, List.flatMap_cons, List.flatMap_nil, List.append_nil, List.nil_append, List.all_cons, List.all_nil, Bool.true_and, Bool.and_self, PV.cells, datL, Nat.reduceMul, Nat.reduceBEq, Nat.reduceLeDiff, BEq.rfl, List.getElem?_cons_zero, List.getElem?_cons_succ, kp_b, kp_i, kp_s, kp_u, rk_b, rk_i, rk_s, rk_u, rl_i, ol_b, kp_p, rk_p, kp_lo, rk_lo, rl_l, m_lf, m_n, m_c, m_all, e_asg_o, dw_n, dw_i, plT, lit_n, lit_c, List.reduceReplicate, List.set_cons_zero, Nat.lt_add_one, Nat.zero_add, Nat.add_zero, or_false]
    simp only [Bool.false_eq_true, if_false, Bool.true_and, Bool.not_false, Bool.true_or, if_true, List.nil_append, one] at hr
    subst hr
    refine wcall_w 0 (ys := [[L.int .i64 ((i : Int) + xa)]]) rfl (by simp) rfl (r56 [(i : Int) + xa] (.inl rfl)) (fun cap => rfl) rfl rfl rfl ?_
    simp -implicitDefEqProofs (maxSteps := 2000000) only [c36, List.map_cons, List.map_nil, ↓reduceIte, s_ret, s_ops0, s_seq, s_opsK, s_seqK_n, s_nil, s_cons, s_wopsK, o_mv, o_as, e_t, e_put, e_get, e_res, e_keep_n, e_keep_c, e_keep1_s, List.length_nil, List.length_cons, Option.getD_some, Nat.reduceEqDiff, reduceCtorEq, true_and, and_true, Bool.false_eq_true, s_ret_r, s_retX, s_cells_n, t_lf, t_l, t_oo, r_n, r_t, r_cons, one_1, List.map_cons, List.map_nil, Bool.and_true, Bool.true_and, Nat.reduceMul, Nat.reduceBEq, BEq.rfl, rk_i, rk_s, rk_lo, m_lf, m_n, m_c, m_all, e_asg_o, plT, Nat.zero_add, Nat.add_zero, true_or, or_true, uw_i, uw_s, uw_lo]
    done
  · simp -implicitDefEqProofs (maxSteps := 2000000) only [c36, w1, ↓reduceIte, s_ops0, s_seq, s_cond, s_opsK, s_seqK_n, s_cnd, s_nil, s_cons, s_wopsK, s_putK, o_mv, o_as, o_bin, v_add, v_part_f, v_atK, o_fa, v_fa_p, o_ld, v_ld_p, v_ldC, o_bs, v_bsK, v_lit_n, v_lit_c, o_app, v_app_o, o_call, e_t, e_k, e_put, e_get, e_res, e_keep_n, e_keep_c, e_keep1_s, List.length_nil, List.length_cons, Option.getD_some, Nat.reduceEqDiff, reduceCtorEq, true_and, Bool.false_eq_true, St.clr, outV, ownsV, owns1, ownL, List.map_cons, List.map_nil, Bool.or_false, PV.leaves, List.flatMap_cons, List.flatMap_nil, List.append_nil, List.cons_append, List.nil_append, List.all_cons, List.all_nil, Bool.true_and, Bool.and_self, PV.cells, datL, Nat.reduceMul, Nat.reduceBEq, Nat.reduceLeDiff, BEq.rfl, List.getElem?_cons_zero, kp_b, kp_i, kp_s, kp_u, rk_b, rk_i, rk_s, rk_u, rl_i, ol_b, kp_p, rk_p, kp_lo, rk_lo, m_lf, m_n, m_c, m_all, e_asg_o, dw_n, dw_i, plT, lit_n, lit_c, List.reduceReplicate, List.set_cons_zero, Nat.lt_add_one, Nat.zero_add, Nat.add_zero, or_false]
    refine wcall_s h32 rfl rfl ?_
    simp -implicitDefEqProofs (maxSteps := 2000000) only [c36, w1, ↓reduceIte, s_skip, s_ops0, s_seq, s_cond, s_opsK, s_seqK_n, s_cnd, s_nil, s_cons, s_guard, s_wopsK, s_putK, s_grd, s_grd_no, o_mv, o_pk, v_pk, o_call, e_t, e_k, e_put, e_get, e_res, e_keep_n, e_keep_c, e_keep1_s, Option.getD_some, Nat.reduceEqDiff, Bool.not_true, Bool.false_eq_true, St.clr, outV, ownsV, owns1, ownL, List.map_cons, List.map_nil, PV.leaves, List.flatMap_cons, List.flatMap_nil, List.append_nil, ol_b, rl_l, m_lf]
    simp only [Bool.false_eq_true, if_false, Bool.false_and, if_true, List.append_nil, one] at hr
    subst hr
    refine wcall_w 0 (ys := [[L.int .i64 ((i : Int) + 1)]]) rfl (by simp) rfl (r56 [(i : Int) + 1] (.inl rfl)) (fun cap => rfl) rfl rfl rfl ?_
    simp -implicitDefEqProofs (maxSteps := 2000000) only [c36, List.map_cons, List.map_nil, ↓reduceIte, s_ret, s_ops0, s_seq, s_opsK, s_seqK_n, s_nil, s_cons, s_wopsK, o_mv, o_as, e_t, e_put, e_get, e_res, e_keep_n, e_keep_c, e_keep1_s, List.length_nil, List.length_cons, Option.getD_some, Nat.reduceEqDiff, reduceCtorEq, true_and, and_true, Bool.false_eq_true, s_ret_r, s_retX, s_cells_n, t_lf, t_l, t_oo, r_n, r_t, r_cons, one_1, List.map_cons, List.map_nil, Bool.and_true, Bool.true_and, Nat.reduceMul, Nat.reduceBEq, BEq.rfl, rk_i, rk_s, rk_lo, m_lf, m_n, m_c, m_all, e_asg_o, plT, Nat.zero_add, Nat.add_zero, true_or, or_true, uw_b, uw_i, uw_s, uw_p, uw_lo]
    done
  · have w3 := w2 rfl
    by_cases h1 : xa = 1
    · simp -implicitDefEqProofs (maxSteps := 2000000) only [c36, w1, w3, ↓reduceIte, s_ops0, s_seq, s_cond, s_opsK, s_seqK_n, s_cnd, s_nil, s_cons, s_wopsK, s_putK, o_mv, o_as, o_bin, v_add, v_part_f, v_atK, o_fa, v_fa_p, o_ld, v_ld_p, v_ldC, o_bs, v_bsK, v_lit_n, v_lit_c, o_app, v_app_o, o_call, e_t, e_k, e_put, e_get, e_res, e_keep_n, e_keep_c, e_keep1_s, List.length_nil, List.length_cons, Option.getD_some, Nat.reduceEqDiff, reduceCtorEq, true_and, Bool.false_eq_true, St.clr, outV, ownsV, owns1, ownL, List.map_cons, List.map_nil, Bool.or_false, PV.leaves, List.flatMap_cons, List.flatMap_nil, List.append_nil, List.cons_append, List.nil_append, List.all_cons, List.all_nil, Bool.true_and, Bool.and_self, PV.cells, datL, Nat.reduceMul, Nat.reduceBEq, Nat.reduceLeDiff, BEq.rfl, List.getElem?_cons_zero, kp_b, kp_i, kp_s, kp_u, rk_b, rk_i, rk_s, rk_u, rl_i, ol_b, kp_p, rk_p, kp_lo, rk_lo, m_lf, m_n, m_c, m_all, e_asg_o, dw_n, dw_i, plT, lit_n, lit_c, List.reduceReplicate, List.set_cons_zero, Nat.lt_add_one, Nat.zero_add, Nat.add_zero, or_false]
      refine wcall_s h32 rfl rfl ?_
      simp -implicitDefEqProofs (maxSteps := 2000000) only [c36, w1, w3, ↓reduceIte, s_cons, s_guard, s_wopsK, s_putK, s_grd, q_call, q_fa, q_ld, o_mv, v_part_f, v_atK, o_fa, v_fa_p, o_ld, v_ld_p, v_ldC, o_call, e_t, e_k, e_put, e_get, Option.getD_some, Nat.reduceEqDiff, cond_false, Bool.false_eq_true, St.clr, outV, ownsV, owns1, ownL, List.map_cons, List.map_nil, PV.leaves, List.flatMap_cons, List.flatMap_nil, List.append_nil, List.cons_append, List.nil_append, List.getElem?_cons_zero, rl_i, ol_b, m_lf, Nat.add_zero]
      refine wcall_s h64 rfl rfl ?_
      simp -implicitDefEqProofs (maxSteps := 2000000) only [c36, w1, w3, h1, not_true, decide_false, ↓reduceIte, s_skip, s_ops0, s_seq, s_cond, s_opsK, s_seqK_n, s_cnd, s_nil, s_cons, s_guard, s_wopsK, s_putK, s_grd, q_mv, q_pk, q_bin, q_un, q_fa, q_ld, o_mv, o_pk, v_pk, o_bin, v_neq, o_un, v_not, v_part_f, v_atK, o_fa, v_fa_p, o_ld, v_ld_p, v_ldC, o_call, e_t, e_k, e_put, e_get, e_res, e_keep_n, e_keep_c, e_keep1_s, Option.getD_some, Nat.reduceEqDiff, cond_false, Bool.not_true, Bool.false_eq_true, St.clr, outV, ownsV, owns1, ownL, List.map_cons, List.map_nil, PV.leaves, List.flatMap_cons, List.flatMap_nil, List.append_nil, List.getElem?_cons_zero, List.getElem?_cons_succ, ol_b, rl_l, m_lf, ne_eq, Nat.zero_add]
      simp only [h1, not_true_eq_false, decide_false, Bool.not_true, Bool.or_false, Bool.and_false, Bool.false_eq_true, if_false, if_true, List.append_nil, one] at hr
      subst hr
      refine wcall_w 0 (ys := [[L.int .i64 ((i : Int) + 1)]]) rfl (by simp) rfl (r56 [(i : Int) + 1] (.inl rfl)) (fun cap => rfl) rfl rfl rfl ?_
      simp -implicitDefEqProofs (maxSteps := 2000000) only [c36, List.map_cons, List.map_nil, ↓reduceIte, s_ret, s_ops0, s_seq, s_opsK, s_seqK_n, s_nil, s_cons, s_wopsK, o_mv, o_as, e_t, e_put, e_get, e_res, e_keep_n, e_keep_c, e_keep1_s, List.length_nil, List.length_cons, Option.getD_some, Nat.reduceEqDiff, reduceCtorEq, true_and, and_true, Bool.false_eq_true, s_ret_r, s_retX, s_cells_n, t_lf, t_l, t_oo, r_n, r_t, r_cons, one_1, List.map_cons, List.map_nil, Bool.and_true, Bool.true_and, Nat.reduceMul, Nat.reduceBEq, BEq.rfl, rk_i, rk_s, rk_lo, m_lf, m_n, m_c, m_all, e_asg_o, plT, Nat.zero_add, Nat.add_zero, true_or, or_true, uw_b, uw_i, uw_s, uw_p, uw_lo]
      done
    · have h1' : ¬ (xa = 1) := h1
      simp -implicitDefEqProofs (maxSteps := 2000000) only [c36, w1, w3, ↓reduceIte, s_ops0, s_seq, s_cond, s_opsK, s_seqK_n, s_cnd, s_nil, s_cons, s_wopsK, s_putK, o_mv, o_as, o_bin, v_add, v_part_f, v_atK, o_fa, v_fa_p, o_ld, v_ld_p, v_ldC, o_bs, v_bsK, v_lit_n, v_lit_c, o_app, v_app_o, o_call, e_t, e_k, e_put, e_get, e_res, e_keep_n, e_keep_c, e_keep1_s, List.length_nil, List.length_cons, Option.getD_some, Nat.reduceEqDiff, reduceCtorEq, true_and, Bool.false_eq_true, St.clr, outV, ownsV, owns1, ownL, List.map_cons, List.map_nil, Bool.or_false, PV.leaves, List.flatMap_cons, List.flatMap_nil, List.append_nil, List.cons_append, List.nil_append, List.all_cons, List.all_nil, Bool.true_and, Bool.and_self, PV.cells, datL, Nat.reduceMul, Nat.reduceBEq, Nat.reduceLeDiff, BEq.rfl, List.getElem?_cons_zero, kp_b, kp_i, kp_s, kp_u, rk_b, rk_i, rk_s, rk_u, rl_i, ol_b, kp_p, rk_p, kp_lo, rk_lo, m_lf, m_n, m_c, m_all, e_asg_o, dw_n, dw_i, plT, lit_n, lit_c, List.reduceReplicate, List.set_cons_zero, Nat.lt_add_one, Nat.zero_add, Nat.add_zero, or_false]
      refine wcall_s h32 rfl rfl ?_
      simp -implicitDefEqProofs (maxSteps := 2000000) only [c36, w1, w3, ↓reduceIte, s_cons, s_guard, s_wopsK, s_putK, s_grd, q_call, q_fa, q_ld, o_mv, v_part_f, v_atK, o_fa, v_fa_p, o_ld, v_ld_p, v_ldC, o_call, e_t, e_k, e_put, e_get, Option.getD_some, Nat.reduceEqDiff, cond_false, Bool.false_eq_true, St.clr, outV, ownsV, owns1, ownL, List.map_cons, List.map_nil, PV.leaves, List.flatMap_cons, List.flatMap_nil, List.append_nil, List.cons_append, List.nil_append, List.getElem?_cons_zero, rl_i, ol_b, m_lf, Nat.add_zero]
      refine wcall_s h64 rfl rfl ?_
      simp -implicitDefEqProofs (maxSteps := 2000000) only [c36, w1, w3, h1, ↓reduceIte, s_ops0, s_seq, s_cond, s_opsK, s_seqK_n, s_cnd, s_nil, s_cons, s_guard, s_wopsK, s_putK, s_grd, q_mv, q_pk, q_bin, q_un, q_fa, q_ld, o_mv, o_as, o_pk, v_pk, o_bin, v_add, v_neq, o_un, v_not, v_part_f, v_atK, o_fa, v_fa_p, o_ld, v_ld_p, v_ldC, o_bs, v_bsK, v_lit_n, v_lit_c, o_app, v_app_o, o_call, e_t, e_k, e_put, e_get, e_res, e_keep_n, e_keep_c, e_keep1_s, List.length_nil, List.length_cons, Option.getD_some, Nat.reduceEqDiff, Nat.reduceAdd, reduceCtorEq, true_and, cond_false, Bool.not_true, Bool.false_eq_true, decide_eq_true_eq, St.clr, outV, ownsV, owns1, ownL, List.map_cons, List.map_nil, Bool.or_false, PV.leaves, List.flatMap_cons, List.flatMap_nil, List.append_nil, List.cons_append, List.nil_append, List.all_cons, List.all_nil, Bool.true_and, Bool.and_self, PV.cells, datL, Nat.reduceMul, Nat.reduceBEq, Nat.reduceLeDiff, BEq.rfl, List.getElem?_cons_zero, List.getElem?_cons_succ, kp_b, kp_i, kp_s, kp_u, rk_b, rk_i, rk_s, rk_u, rl_i, ol_b, kp_p, rk_p, kp_lo, rk_lo, rl_l, m_lf, m_n, m_c, m_all, e_asg_o, dw_n, dw_i, plT, ne_eq, not_false_eq_true, lit_n, lit_c, List.reduceReplicate, List.set_cons_zero, Nat.lt_add_one, Nat.zero_add, Nat.add_zero, or_false]
      simp only [h1, not_false_eq_true, decide_true, Bool.not_true, Bool.false_or, Bool.and_true, if_true, List.cons_append, List.nil_append] at hr
      have h56 := r56 (X := X) [(i : Int) + 1, (i : Int) + xa] (.inr rfl)
      by_cases h2 : (i : Int) + xa < (i : Int) + 1
      · simp only [srt, if_pos h2] at hr h56
        subst hr
        refine wcall_w 0 (ys := [[L.int .i64 ((i : Int) + xa)], [L.int .i64 ((i : Int) + 1)]]) rfl (by simp) rfl h56 (fun cap => rfl) rfl rfl rfl ?_
        simp -implicitDefEqProofs (maxSteps := 2000000) only [c36, List.map_cons, List.map_nil, ↓reduceIte, s_ret, s_ops0, s_seq, s_opsK, s_seqK_n, s_nil, s_cons, s_wopsK, o_mv, o_as, e_t, e_put, e_get, e_res, e_keep_n, e_keep_c, e_keep1_s, List.length_nil, List.length_cons, Option.getD_some, Nat.reduceEqDiff, Nat.reduceAdd, reduceCtorEq, true_and, and_true, Bool.false_eq_true, s_ret_r, s_retX, s_cells_n, t_lf, t_l, t_oo, r_n, r_t, r_cons, one_1, List.map_cons, List.map_nil, Bool.and_true, Bool.true_and, Nat.reduceMul, Nat.reduceBEq, BEq.rfl, rk_i, rk_s, rk_lo, m_lf, m_n, m_c, m_all, e_asg_o, plT, Nat.zero_add, Nat.add_zero, true_or, or_true, uw_i, uw_s, uw_lo]
        done
      · simp only [srt, if_neg h2] at hr h56
        subst hr
        refine wcall_w 0 (ys := [[L.int .i64 ((i : Int) + 1)], [L.int .i64 ((i : Int) + xa)]]) rfl (by simp) rfl h56 (fun cap => rfl) rfl rfl rfl ?_
        simp -implicitDefEqProofs (maxSteps := 2000000) only [c36, List.map_cons, List.map_nil, ↓reduceIte, s_ret, s_ops0, s_seq, s_opsK, s_seqK_n, s_nil, s_cons, s_wopsK, o_mv, o_as, e_t, e_put, e_get, e_res, e_keep_n, e_keep_c, e_keep1_s, List.length_nil, List.length_cons, Option.getD_some, Nat.reduceEqDiff, Nat.reduceAdd, reduceCtorEq, true_and, and_true, Bool.false_eq_true, s_ret_r, s_retX, s_cells_n, t_lf, t_l, t_oo, r_n, r_t, r_cons, one_1, List.map_cons, List.map_nil, Bool.and_true, Bool.true_and, Nat.reduceMul, Nat.reduceBEq, BEq.rfl, rk_i, rk_s, rk_lo, m_lf, m_n, m_c, m_all, e_asg_o, plT, Nat.zero_add, Nat.add_zero, true_or, or_true, uw_i, uw_s, uw_lo]
        done
end Go.Proofs.YthcpaohmajjopaaDoor.I
set_option linter.unusedVariables false
set_option linter.unusedSimpArgs false
namespace Go.Proofs.YthcpaohmajjopaaDoor.I
open Go Go.Proofs.YthcpaohmajjopaaDoor.AM
variable {X : Cx}
/-- what a code that is right meets -/
structure CodeOK (code : List Ins) : Prop where
  pos : 0 < code.length
  len : code.length ≤ 8192
  op : ∀ (i : Nat) (x : Ins), code[i]? = some x → 1 ≤ x.op ∧ x.op ≤ 20
  tg : ∀ (i : Nat) (x : Ins), code[i]? = some x → hasB x.op.toNat 32 = true → -(i : Int) ≤ x.a ∧ x.a < code.length - i
  on : ∀ (i : Nat) (x : Ins), code[i]? = some x → hasB x.op.toNat 64 = true → i + 1 < code.length
theorem chkGo_ok (capF : Ins → Bool) (len : Nat) : ∀ (q : List Ins) (i : Nat), chkGo capF len i q = none → ∀ (j : Nat) (x : Ins), q[j]? = some x → errAt capF len (i + j) x = 0
  | [], i, _, j, x, hx => by simp at hx
  | y :: q, i, h, j, x, hx => by
    simp only [chkGo] at h
    split at h
    · rename_i he
      cases j with
      | zero => simp at hx; subst hx; exact he
      | succ j =>
        have := chkGo_ok capF len q (i + 1) h j x (by simpa using hx)
        rwa [show i + 1 + j = i + (j + 1) by omega] at this
    · cases h
theorem chkGo_ne (capF : Ins → Bool) (len : Nat) : ∀ (q : List Ins) (i : Nat) (p : Int × Int), chkGo capF len i q = some p → p.2 ≠ 0
  | [], i, p, h => by simp [chkGo] at h
  | y :: q, i, p, h => by
    simp only [chkGo] at h
    split at h
    · exact chkGo_ne capF len q _ p h
    · rename_i he
      obtain rfl := Option.some.inj h
      exact he
theorem chk_ok {code : List Ins} (h : (chk capX code).2 = 0) : CodeOK code := by
  unfold chk at h
  split at h
  · cases h
  rename_i h1
  split at h
  · cases h
  rename_i h2
  have hpos : 0 < code.length := by omega
  cases hg : chkGo capX code.length 0 code with
  | some p =>
    rw [hg] at h
    exact absurd h (chkGo_ne _ _ _ _ _ hg)
  | none =>
    rw [hg] at h
    simp only [Option.getD_none, chkEnd] at h
    have hall := chkGo_ok _ _ _ _ hg
    have hlast : ¬ hasB (lastOp code).toNat 64 = true := by
      intro hh; rw [if_pos hh] at h; cases h
    refine ⟨hpos, by omega, fun i x hx => ?_, fun i x hx h32 => ?_, fun i x hx h64 => ?_⟩
    · have := hall i x hx
      unfold errAt at this
      split at this
      · cases this
      · omega
    · have := hall i x hx
      rw [Nat.zero_add] at this
      unfold errAt at this
      split at this
      · cases this
      · split at this
        · cases this
        · split at this
          · cases this
          · rename_i hh
            by_cases h3 : x.a < -(i : Int) ∨ (code.length : Int) - i ≤ x.a
            · exact absurd ⟨h32, h3⟩ hh
            · omega
    · have hi := (List.getElem?_eq_some_iff.1 hx).1
      obtain ⟨y, hy, hlo, _⟩ := last_get hpos
      by_cases e : i = code.length - 1
      · subst e
        rw [hx] at hy
        cases hy
        rw [hlo] at hlast
        exact absurd h64 hlast
      · omega
def gAt (code : List Ins) (i : Nat) : List Int :=
  match code[i]? with
  | some x => goesF (hasB x.op.toNat 64) (hasB x.op.toNat 32) i x.a
  | none => []
theorem srt_mem {l : List Int} {z : Int} (h : z ∈ srt l) : z ∈ l := by
  unfold srt at h
  split at h
  · split at h <;> simp at h ⊢ <;> omega
  · exact h
theorem gAt_range {code : List Ins} (hc : CodeOK code) {i : Nat} {z : Int} (h : z ∈ gAt code i) : 0 ≤ z ∧ z < code.length := by
  unfold gAt at h
  split at h
  · rename_i x hx
    have hi := (List.getElem?_eq_some_iff.1 hx).1
    have h1 := srt_mem h
    rw [List.mem_append] at h1
    rcases h1 with h1 | h1
    · split at h1
      · rename_i h64
        have := hc.on i x hx h64
        simp at h1
        omega
      · simp at h1
    · split at h1
      · rename_i hb
        simp only [Bool.and_eq_true] at hb
        have := hc.tg i x hx hb.1
        simp at h1
        omega
      · simp at h1
  · simp at h
theorem gAt_len (code : List Ins) (i : Nat) : (gAt code i).length ≤ 2 := by
  unfold gAt
  split
  · unfold goesF
    rw [srt_len, List.length_append]
    split <;> split <;> simp
  · simp
theorem r36' (hX : X.G 1 = some usesL) {code : List Ins} (hc : CodeOK code) (sp : List (List L)) (i : Nat) (hi : i < code.length) :
    R X Tryd.prog 36 [.lf (.lst .ro 9 (code.map Ins.c) sp), .lf (.int .i64 i)] [] (.lf (.lst (.own 0 3) 1 ((gAt code i).map fun x => [L.int .i64 x]) [])) [] := by
  have hx : code[i]? = some code[i] := List.getElem?_eq_getElem hi
  have hop := hc.op i _ hx
  have hg : gAt code i = goesF (hasB code[i].op.toNat 64) (hasB code[i].op.toNat 32) i code[i].a := by unfold gAt; rw [hx]
  exact r36 hX code sp i hi (by have := hc.len; omega) code[i].op.toNat (by omega) (by omega) (fun h => hc.tg i _ hx h) _ hg.symm
/-- instr.Goes -/
def goesA (code : List Ins) (at' : Int) : List Int × Int := if ¬ (chk capX code).2 = 0 then ([], (chk capX code).2) else if at' < 0 ∨ (code.length : Int) ≤ at' then ([], 1) else (gAt code at'.toNat, 0)
theorem flat_ints (l : List Int) (e : Int) : Flat (.tp [.lf (.lst (.own 0 3) 1 (l.map fun x => [L.int .i64 x]) []), .lf (.int .i64 e)]) := by
  intro v hv
  simp only [List.mem_cons, List.mem_nil_iff, or_false] at hv
  rcases hv with rfl | rfl
  · refine ⟨fun x hx c hc => ?_, rfl⟩
    obtain ⟨y, _, rfl⟩ := List.mem_map.1 hx
    simp at hc; subst hc; rfl
  · rfl
theorem flat_int1 (l : List Int) : Flat (.lf (.lst (.own 0 3) 1 (l.map fun x => [L.int .i64 x]) [])) := by
  refine ⟨fun x hx c hc => ?_, rfl⟩
  obtain ⟨y, _, rfl⟩ := List.mem_map.1 hx
  simp at hc; subst hc; rfl
theorem r15 (hX : X.G 1 = some usesL) (code : List Ins) (sp : List (List L)) (at' : Int) (r : List Int × Int) (hr : goesA code at' = r) :
    R X Tryd.prog 15 [.lf (.lst .ro 9 (code.map Ins.c) sp), .lf (.int .i64 at')] [] (.tp [.lf (.lst (.own 0 3) 1 (r.1.map fun x => [L.int .i64 x]) []), .lf (.int .i64 r.2)]) [] := by
  have h28 := r28x hX code sp
  have hok := fun h => chk_ok (code := code) h
  unfold goesA at hr
  refine R_i [(0, 512)] [] c15_ok rfl (by simp) ?_
  generalize chk capX code = e at *
  simp -implicitDefEqProofs (maxSteps := 2000000) only [c15, ↓reduceIte, s_ops0, s_seq, s_opsK, s_seqK_n, s_nil, s_cons, s_wopsK, o_mv, o_as, o_call, e_t, e_k, e_put, e_get, e_res, e_keep_n, e_keep_c, e_keep1_s, e_asg_i, St.init, enum, List.length_nil, Option.getD_some, Nat.reduceEqDiff, reduceCtorEq, List.map_cons, List.map_nil, PV.leaves, List.flatMap_cons, List.flatMap_nil, List.append_nil, Nat.reduceMul, kp_i, kp_lro, rl_l, m_lf, m_n, m_c, m_all, e_asg_n, plT, Nat.zero_add, Nat.add_zero]
  refine wcall_s h28 rfl rfl ?_
  have hl : (code.map Ins.c).length = code.length := List.length_map _
  by_cases h : e.2 = 0
  · rw [if_neg (by omega)] at hr
    have hc := hok h
    have hlen := hc.len
    simp -implicitDefEqProofs (maxSteps := 2000000) only [c15, h, hl, ↓reduceIte, s_skip, s_ret, s_ops0, s_seq, s_cond, s_opsK, s_seqK_n, s_seqK_r, s_cnd, s_nil, s_cons, s_guard, s_wopsK, s_putK, s_grd, q_mv, q_bin, q_len, o_mv, o_as, o_pk, v_pk, o_bin, v_neq, v_lss, v_geq, o_ext, v_ext0, v_ext1, o_len, v_len, o_call, e_t, e_k, e_put, e_get, e_res, e_keep_n, e_keep_c, e_keep1_s, e_asg_i, Option.getD_some, Nat.reduceEqDiff, reduceCtorEq, true_and, and_true, cond_false, Bool.not_false, Bool.true_eq_false, Bool.false_eq_true, decide_eq_true_eq, decide_eq_false_iff_not, s_ret_r, s_retX, s_cells_n, t_tp, t_n, t_c, t_1l, t_i, t_l, t_oo, r_n, r_t, r_cons, one_2, St.clr, outV, ownsV, owns1, ownL, List.map_cons, List.map_nil, List.any_cons, List.any_nil, Bool.or_self, PV.leaves, List.flatMap_cons, List.flatMap_nil, List.append_nil, List.cons_append, List.nil_append, Bool.and_true, Bool.true_and, Nat.reduceMul, kp_b, kp_i, rl_i, ol_i, kp_lro, rl_l, m_lf, m_tp, m_1l, m_n, m_c, m_all, e_asg_n, plT, ne_eq, Nat.add_zero, true_or, or_true, ite_not]
    with_reducible refine ite_pr (fun h1 => ?_) (fun h1 => ?_)
    · rw [if_pos (by omega)] at hr
      subst hr
      simp -implicitDefEqProofs (maxSteps := 2000000) only [List.map_nil, ↓reduceIte, and_true, List.map_nil, Bool.and_true]
    intro _
    with_reducible refine ite_pr (fun h2 => ?_) (fun h2 => ?_)
    · rw [if_pos (by omega)] at hr
      subst hr
      simp -implicitDefEqProofs (maxSteps := 2000000) only [List.map_nil, ↓reduceIte, and_true, List.map_nil, Bool.and_true]
    rw [if_neg (by omega)] at hr
    subst hr
    obtain ⟨i, rfl⟩ : ∃ i : Nat, at' = i := ⟨at'.toNat, by omega⟩
    refine wcall_flat (r36' hX hc sp i (by omega)) rfl (flat_int1 _) ?_
    rw [Int.toNat_natCast]
    simp -implicitDefEqProofs (maxSteps := 2000000) only [c15, ↓reduceIte, s_ret, s_opsK, s_seqK_n, s_nil, s_cons, s_wopsK, o_as, e_t, e_k, e_put, e_get, e_res, e_keep_n, e_keep_c, e_keep1_s, e_asg_i, Option.getD_some, Nat.reduceEqDiff, Nat.reduceAdd, true_and, and_true, Bool.false_eq_true, s_ret_r, s_retX, s_cells_n, t_tp, t_n, t_c, t_1l, t_i, t_l, t_oo, r_n, r_t, r_cons, one_2, St.clr, outV, ownsV, owns1, ownL, Bool.and_true, Bool.true_and, Nat.reduceMul, Nat.reduceBEq, BEq.rfl, kps_b, kps_i, rk_b, rk_i, kps_lro, rk_lro, rk_lo, ol_lo, m_lf, m_n, m_c, m_all, e_asg_o, plT, Nat.add_zero, true_or, or_true]
    done
  · rw [if_pos h] at hr
    subst hr
    simp -implicitDefEqProofs (maxSteps := 2000000) only [c15, h, List.map_nil, ↓reduceIte, s_ret, s_ops0, s_seq, s_cond, s_opsK, s_seqK_n, s_seqK_r, s_cnd, s_nil, s_cons, s_wopsK, s_putK, o_mv, o_as, o_bin, v_neq, o_ext, v_ext0, v_ext1, e_t, e_k, e_put, e_get, e_res, e_keep_n, e_keep_c, e_keep1_s, e_asg_i, Option.getD_some, Nat.reduceEqDiff, reduceCtorEq, true_and, and_true, Bool.false_eq_true, decide_eq_true_eq, s_ret_r, s_retX, s_cells_n, t_tp, t_n, t_c, t_1l, t_i, t_l, t_oo, r_n, r_t, r_cons, one_2, St.clr, outV, ownsV, owns1, ownL, List.map_cons, List.map_nil, List.any_cons, List.any_nil, Bool.or_self, Bool.and_true, Bool.true_and, Nat.reduceMul, kp_b, kp_i, ol_i, kp_lro, m_lf, m_tp, m_1l, m_n, m_c, m_all, e_asg_n, plT, ne_eq, not_false_eq_true, Nat.add_zero, true_or, or_true]
    done
end Go.Proofs.YthcpaohmajjopaaDoor.I
set_option linter.unusedVariables false
set_option linter.unusedSimpArgs false
namespace Go.Proofs.YthcpaohmajjopaaDoor.I
open Go Go.Proofs.YthcpaohmajjopaaDoor.AM
variable {X : Cx}
/-! what is come to -/
inductive Reach (code : List Ins) : Nat → Prop where
  | zero : Reach code 0
  | step {i j : Nat} : Reach code i → (j : Int) ∈ gAt code i → Reach code j
noncomputable def liveL (code : List Ins) : List Bool := (List.range code.length).map fun i => @decide (Reach code i) (Classical.propDecidable _)
theorem live_get (code : List Ins) (i : Nat) : (liveL code)[i]? = if i < code.length then some (@decide (Reach code i) (Classical.propDecidable _)) else none := by
  unfold liveL
  rw [List.getElem?_map]
  split
  · rename_i h; rw [List.getElem?_range h]; rfl
  · rename_i h; rw [List.getElem?_eq_none (by simpa using h)]; rfl
structure LInv (code : List Ins) (bs : List Bool) (ws : List Int) : Prop where
  len : bs.length = code.length
  mks : ∀ i, bs[i]? = some true → Reach code i
  wk : ∀ z ∈ ws, ∃ i : Nat, z = i ∧ i < code.length ∧ Reach code i
  zr : bs[0]? = some true ∨ (0 : Int) ∈ ws
  cl : ∀ i, bs[i]? = some true → ∀ z ∈ gAt code i, bs[z.toNat]? = some true ∨ z ∈ ws
theorem Reach.lt {code : List Ins} (hc : CodeOK code) {i : Nat} (h : Reach code i) : i < code.length := by
  cases h with
  | zero => exact hc.pos
  | step _ h2 => have := gAt_range hc h2; omega
theorem LInv.fin {code : List Ins} {bs : List Bool} (hc : CodeOK code) (h : LInv code bs []) : bs = liveL code := by
  have hz : bs[0]? = some true := h.zr.resolve_right (by simp)
  have all : ∀ i, Reach code i → bs[i]? = some true := by
    intro i hi
    induction hi with
    | zero => exact hz
    | step _ h2 ih =>
      have := (h.cl _ ih _ h2).resolve_right (by simp)
      simpa using this
  apply List.ext_getElem?
  intro i
  rw [live_get]
  split
  · rename_i hi
    have h1 : i < bs.length := by rw [h.len]; exact hi
    by_cases hr : Reach code i
    · rw [all i hr, @decide_eq_true _ (Classical.propDecidable _) hr]
    · rw [@decide_eq_false _ (Classical.propDecidable _) hr, List.getElem?_eq_getElem h1]
      cases hb : bs[i] with
      | false => rfl
      | true => exact absurd (h.mks i (by rw [List.getElem?_eq_getElem h1, hb])) hr
  · rename_i hi
    rw [List.getElem?_eq_none_iff, h.len]
    omega
theorem LInv.skip {code : List Ins} {bs : List Bool} {ws : List Int} {i : Nat} (h : LInv code bs (ws ++ [(i : Int)])) (hb : bs[i]? = some true) : LInv code bs ws := by
  refine ⟨h.len, h.mks, fun z hz => h.wk z (by simp [hz]), ?_, fun j hj z hz => ?_⟩
  · rcases h.zr with h1 | h1
    · exact .inl h1
    · rcases List.mem_append.1 h1 with h2 | h2
      · exact .inr h2
      · simp at h2
        have e : i = 0 := by omega
        exact .inl (e ▸ hb)
  · rcases h.cl j hj z hz with h1 | h1
    · exact .inl h1
    · rcases List.mem_append.1 h1 with h2 | h2
      · exact .inr h2
      · simp at h2
        subst h2
        exact .inl (by simpa using hb)
theorem LInv.mark {code : List Ins} {bs : List Bool} {ws : List Int} {i : Nat} (hc : CodeOK code) (h : LInv code bs (ws ++ [(i : Int)])) : LInv code (bs.set i true) (ws ++ gAt code i) := by
  have hi : i < bs.length ∧ Reach code i := by
    obtain ⟨j, hj, h1, h2⟩ := h.wk i (by simp)
    have : j = i := by omega
    subst this
    exact ⟨by rw [h.len]; exact h1, h2⟩
  have old : ∀ j : Nat, bs[j]? = some true → (bs.set i true)[j]? = some true := by
    intro j hj
    rw [List.getElem?_set]
    split
    · rename_i e; subst e; simp [hi.1]
    · exact hj
  have new : (bs.set i true)[i]? = some true := by rw [List.getElem?_set]; simp [hi.1]
  refine ⟨by rw [List.length_set]; exact h.len, fun j hj => ?_, fun z hz => ?_, ?_, fun j hj z hz => ?_⟩
  · rw [List.getElem?_set] at hj
    split at hj
    · rename_i e; subst e; exact hi.2
    · exact h.mks j hj
  · rcases List.mem_append.1 hz with h1 | h1
    · exact h.wk z (by simp [h1])
    · have := gAt_range hc h1
      exact ⟨z.toNat, by omega, by omega, .step hi.2 (by rw [Int.toNat_of_nonneg this.1]; exact h1)⟩
  · rcases h.zr with h1 | h1
    · exact .inl (old 0 h1)
    · rcases List.mem_append.1 h1 with h2 | h2
      · exact .inr (by simp [h2])
      · simp at h2
        have e : i = 0 := by omega
        exact .inl (e ▸ new)
  · by_cases e : i = j
    · subst e; exact .inr (by simp [hz])
    · rw [List.getElem?_set, if_neg e] at hj
      rcases h.cl j hj z hz with h1 | h1
      · exact .inl (old _ h1)
      · rcases List.mem_append.1 h1 with h2 | h2
        · exact .inr (by simp [h2])
        · simp at h2
          subst h2
          exact .inl (by simpa using new)
def cf : List Bool → Nat
  | [] => 0
  | b :: r => (if b then 0 else 1) + cf r
theorem cf_set : ∀ (bs : List Bool) (i : Nat), bs[i]? = some false → cf (bs.set i true) + 1 = cf bs
  | [], i, h => by simp at h
  | b :: r, 0, h => by simp at h; subst h; simp [cf]; omega
  | b :: r, i + 1, h => by
    simp at h
    have := cf_set r i h
    simp only [List.set_cons_succ, cf]
    omega
theorem cf_le : ∀ (bs : List Bool), cf bs ≤ bs.length
  | [] => Nat.le_refl _
  | b :: r => by have := cf_le r; simp only [cf, List.length_cons]; split <;> omega
theorem wrX_bools (bs : List Bool) (i : Nat) : wrX i 0 [L.bool true] (bs.map fun b => [L.bool b]) = (bs.set i true).map fun b => [L.bool b] := by
  unfold wrX
  apply List.ext_getElem?
  intro j
  rw [List.getElem?_modify, List.getElem?_map, List.getElem?_map, List.getElem?_set]
  by_cases e : i = j
  · subst e
    simp only [if_true]
    cases h : bs[i]? with
    | none => simp [List.getElem?_eq_none_iff.1 h]
    | some b => simp [(List.getElem?_eq_some_iff.1 h).1, fillL]
  · simp [e]
theorem v_msK {σ : St} {t e n bytes : Nat} {zero : List L} {k k' : IntKind} {l c : Int} {K : St → Prop} : msK σ t e n bytes zero (.lf (.int k l)) (.lf (.int k' c)) K = (zero.length = n ∧ (0 ≤ l ∧ l ≤ c ∧ c * bytes ≤ 140737488355328 ∧ c ≤ 9223372036854775807) ∧ K ((σ.mapAll (killP (plT t 0))).put (some t) (.lf (.lst (.own (plT t 0) e) n (List.replicate l.toNat zero) (List.replicate (c - l).toNat zero))))) := rfl
theorem snoc {α : Type} : ∀ (l : List α), l = [] ∨ ∃ a b, l = a ++ [b]
  | [] => .inl rfl
  | x :: l => by
    rcases snoc l with h | ⟨a, b, h⟩
    · exact .inr ⟨[], x, by rw [h]; rfl⟩
    · exact .inr ⟨x :: a, b, by rw [h]; rfl⟩
theorem r17 (hX : X.G 1 = some usesL) (code : List Ins) (sp : List (List L)) (r : List Bool × Int) (hr : (if (chk capX code).2 = 0 then (liveL code, 0) else ([], (chk capX code).2)) = r) :
    R X Tryd.prog 17 [.lf (.lst .ro 9 (code.map Ins.c) sp)] [] (.tp [.lf (.lst (.own 0 4) 1 (r.1.map fun b => [L.bool b]) []), .lf (.int .i64 r.2)]) [] := by
  have h28 := r28x hX code sp
  by_cases h : (chk capX code).2 = 0
  · rw [if_pos h] at hr
    have hc := chk_ok h
    have hlen := hc.len
    have hl : (code.map Ins.c).length = code.length := List.length_map _
    have key : ∀ (N : Nat) (bs : List Bool) (ws : List Int) (os ls sq : List (List L)), os = (bs.map fun b => [L.bool b]) → ls = (ws.map fun x => [L.int .i64 x]) → 3 * cf bs + ws.length = N → N ≤ 3 * code.length + 1 → LInv code bs ws →
        LoopAt X Tryd.prog c17_12 [0, 6, 7] (blkK 0 (seqK X Tryd.prog c17_15 (retS [(0, 256)] [] 0 [RV.t 2, RV.t 3] (PV.tp [PV.lf (L.lst (Tag.own 0 4) 1 (List.map (fun b => [L.bool b]) r.1) []), PV.lf (L.int IntKind.i64 r.2)]) [])))
          { m := 0, tm := [(0, PV.lf (L.lst Tag.ro 9 (List.map Ins.c code) sp)), (6, PV.lf (L.lst (Tag.own 768 4) 1 os [])), (7, PV.lf (L.lst (Tag.own 896 3) 1 ls sq))], ce := [] } := by
      intro N
      induction N using Nat.strongRecOn with
      | _ N ih =>
        intro bs ws os ls sq hos hls hN hNle hinv
        intro Z hZ; apply hZ
        have hll : ls.length = ws.length := by rw [hls, List.length_map]
        rcases snoc ws with hw | ⟨ws', z, hw⟩
        · subst hw
          have hn : ¬ ((([] : List Int).length : Nat) : Int) > 0 := by simp
          have hn2 : ¬ (0 : Int) < ((([] : List Int).length : Nat) : Int) := by simp
          have hfin := hinv.fin hc
          have hz0 : ¬ (0 : Int) < ((0 : Nat) : Int) := by omega
          simp -implicitDefEqProofs (maxSteps := 2000000) only [c17, hll, hn2, hz0, ↓reduceIte, s_exit, s_ret, s_ops0, s_seq, s_cond, s_opsK, s_seqK_n, s_seqK_e, s_blkK_e, s_loopK_e, s_cnd, s_nil, s_cons, s_wopsK, s_putK, o_mv, o_as, o_bin, v_gtr, o_len, v_len, e_t, e_k, e_put, e_get, e_res, e_keep_n, e_keep_c, e_keep1_s, e_asg_i, List.length_nil, Option.getD_some, Nat.reduceEqDiff, reduceCtorEq, true_and, and_true, Bool.false_eq_true, decide_eq_true_eq, s_ret_r, s_retX, s_cells_n, t_tp, t_n, t_c, t_1l, t_i, t_l, t_oo, r_n, r_t, r_cons, one_2, Bool.and_true, Bool.true_and, Nat.reduceMul, Nat.reduceBEq, Nat.zero_le, BEq.rfl, rk_b, rk_lro, rk_lo, m_lf, m_n, m_c, m_all, e_asg_o, plT, Nat.add_zero, true_or, or_true, forall_const]
          subst hos hr
          rw [hfin]
          exact ⟨rfl, rfl⟩
        · obtain ⟨i, rfl, hi, hreach⟩ := hinv.wk z (by simp [hw])
          have hwl : ws.length = ws'.length + 1 := by rw [hw]; simp
          have hlt : (0 : Int) < ((ws.length : Nat) : Int) := by omega
          have hcf := cf_le bs
          have hbl := hinv.len
          have w1 : IntKind.i64.wrap ((ws.length : Int) - 1) = ((ws'.length : Nat) : Int) := by rw [w64 (by omega) (by omega)]; omega
          have hg : ls.getD ws'.length [] = [L.int .i64 i] := by rw [hls, hw]; simp [List.getD_eq_getElem?_getD]
          have ht : (ls ++ sq).take ws'.length = ws'.map fun x => [L.int .i64 x] := by
            rw [hls, hw, List.map_append, List.append_assoc, List.take_left' (by simp)]
          generalize hdr : (ls ++ sq).drop ws'.length = sq' 
          have hob : os.getD i [] = [L.bool (bs[i]'(by omega))] := by rw [hos]; simp [List.getD_eq_getElem?_getD, show i < bs.length by omega]
          have hol : os.length = code.length := by rw [hos, List.length_map, hbl]
          simp -implicitDefEqProofs (maxSteps := 2000000) only [c17, hll, hlt, w1, Int.toNat_natCast, v_ld_e, hg, ht, hdr, hob, hol, ↓reduceIte, s_skip, s_ops0, s_seq, s_cond, s_block, s_opsK, s_seqK_n, s_blkK_n, s_loopK_n, s_cnd, s_nil, s_cons, s_wopsK, s_putK, o_mv, o_as, o_bin, v_sub, v_gtr, o_un, v_not, v_part_f, v_atK, o_ia, v_ia, o_ld, o_st, v_st_e, o_len, v_len, o_sll, v_sll_b, o_call, e_t, e_k, e_put, e_get, e_res, e_keep_n, e_keep_c, e_keep1_s, e_asg_i, List.length_nil, List.length_cons, Option.getD_some, Option.map_some, Option.map_none, Nat.reduceEqDiff, reduceCtorEq, true_and, Bool.not_true, Bool.false_eq_true, decide_eq_true_eq, List.map_cons, List.map_nil, PV.leaves, List.flatMap_cons, List.flatMap_nil, List.append_nil, List.cons_append, List.nil_append, List.all_cons, List.all_nil, Bool.true_and, Bool.and_self, PV.cells, cellL, datL, placeOf, Nat.reduceMul, Nat.reduceBEq, Nat.le_refl, BEq.rfl, List.getElem?_cons_zero, wr_b, wr_i, rl_b, rl_i, wr_lro, wr_lo, rl_l, m_lf, m_n, m_c, m_all, e_asg_o, e_head, e_headK, kC_n, pO_n, pO_l, dw_n, dw_b, List.range_zero, plT, ne_eq, Nat.zero_add, Nat.add_zero, Bool.not_eq_eq_eq_not]
          intro _ _
          refine ⟨⟨by omega, by omega⟩, by omega, fun _ => ⟨⟨by omega, by omega⟩, ⟨by omega, by omega⟩, by omega, ?_⟩⟩
          have hib : i < bs.length := by omega
          have hbi : bs[i]? = some bs[i] := List.getElem?_eq_getElem hib
          with_reducible refine ite_pr (fun hb => ?_) (fun hb => ?_)
          · rw [hb] at hbi
            have hset := cf_set bs i hbi
            have hgl := gAt_len code i
            have hinv' : LInv code (bs.set i true) (ws' ++ gAt code i) := LInv.mark hc (hw ▸ hinv)
            have hws : wrS i 0 [L.bool true] code.length [] = [] := by unfold wrS; rw [if_pos hi]
            have hwx : wrX i 0 [L.bool true] os = (bs.set i true).map fun b => [L.bool b] := by rw [hos, wrX_bools]
            refine ⟨⟨by omega, by omega⟩, (by intro x hx; simp at hx; subst hx; simp), ?_⟩
            refine wcall_flat (r36' hX hc sp i hi) rfl (flat_int1 _) ?_
            simp -implicitDefEqProofs (maxSteps := 2000000) only [c17, hws, hwx, ↓reduceIte, s_cons, s_wopsK, o_app, e_t, e_put, e_get, Option.getD_some, Nat.reduceEqDiff, Nat.reduceAdd, St.clr, outV, ownsV, owns1, ownL, Nat.reduceMul, kps_i, kps_lro, kps_lo, ol_lo, m_lf, m_n, m_c, m_all, plT, Nat.add_zero]
            refine ⟨rfl, rfl, .inl rfl, by simp only [List.length_map]; omega, ?_⟩
            simp -implicitDefEqProofs (maxSteps := 2000000) only [c17, ↓reduceIte, s_opsK, s_blkK_n, s_loopK_n, s_nil, s_cons, s_wopsK, o_as, e_t, e_put, e_get, e_res, e_keep_n, e_keep_c, e_keep1_s, Option.getD_some, Nat.reduceEqDiff, reduceCtorEq, Bool.false_eq_true, List.nil_append, Nat.reduceMul, Nat.reduceBEq, BEq.rfl, kp_i, rk_i, kp_lro, rk_lro, kp_lo, rk_lo, m_lf, m_n, m_c, m_all, e_asg_o, e_head, e_headK, pO_l, List.range_zero, plT, Nat.add_zero]
            exact ih _ (by rw [List.length_append]; omega) (bs.set i true) (ws' ++ gAt code i) _ _ _ rfl (by rw [List.map_append]) rfl (by rw [List.length_append]; omega) hinv' Z hZ
          · have hb' : bs[i] = true := by simpa using hb
            rw [hb'] at hbi
            exact ih _ (by omega) bs ws' os _ sq' hos rfl rfl (by omega) (LInv.skip (hw ▸ hinv) hbi) Z hZ
    refine R_i [(0, 256)] [] c17_ok rfl (by simp) ?_
    simp -implicitDefEqProofs (maxSteps := 2000000) only [c17, ↓reduceIte, s_ops0, s_seq, s_opsK, s_seqK_n, s_nil, s_cons, s_wopsK, o_mv, o_as, o_call, e_t, e_k, e_put, e_get, e_res, e_keep_n, e_keep_c, e_keep1_s, e_asg_i, St.init, enum, List.length_nil, Option.getD_some, reduceCtorEq, List.map_cons, List.map_nil, PV.leaves, List.flatMap_cons, List.flatMap_nil, List.append_nil, Nat.reduceMul, kp_lro, rl_l, m_lf, m_n, m_c, m_all, e_asg_n, plT, Nat.add_zero]
    refine wcall_s h28 rfl rfl ?_
    simp -implicitDefEqProofs (maxSteps := 2000000) only [c17, h, hl, v_msK, ↓reduceIte, s_skip, s_ret, s_ops0, s_seq, s_cond, s_block, s_loop, s_opsK, s_seqK_n, s_seqK_r, s_cnd, s_nil, s_cons, s_wopsK, s_putK, o_mv, o_as, o_bin, v_neq, o_ext, v_ext0, v_ext1, o_bs, v_bsK, v_lit_n, v_lit_c, o_ms, o_len, v_len, e_t, e_k, e_put, e_get, e_res, e_keep_n, e_keep_c, e_keep1_s, e_asg_i, List.length_nil, List.length_cons, Option.getD_some, Nat.reduceEqDiff, reduceCtorEq, true_and, and_true, Bool.false_eq_true, decide_eq_true_eq, s_ret_r, s_retX, s_cells_n, t_tp, t_n, t_c, t_1l, t_i, t_l, t_oo, r_n, r_t, r_cons, one_2, St.clr, outV, ownsV, owns1, ownL, List.map_cons, List.map_nil, List.any_cons, List.any_nil, Bool.or_self, List.append_nil, List.all_cons, List.all_nil, Bool.and_true, Bool.true_and, Bool.and_self, PV.cells, datL, Nat.reduceMul, Nat.reduceBEq, Nat.reduceLeDiff, BEq.rfl, kp_b, kp_i, rk_b, rk_i, rl_i, ol_i, kp_lro, rk_lro, kp_lo, rk_lo, m_lf, m_tp, m_1l, m_n, m_c, m_all, e_asg_n, e_asg_o, e_head, e_headK, kC_n, pO_n, pO_l, dw_n, dw_i, List.range_zero, plT, ne_eq, lit_n, lit_c, List.reduceReplicate, List.set_cons_zero, Nat.lt_add_one, Nat.zero_add, Nat.add_zero, true_or, or_true, ite_not]
    intro _
    refine ⟨⟨by omega, by omega, by omega, by omega⟩, ?_⟩
    have hrep : List.replicate code.length [L.bool false] = (List.replicate code.length false).map fun b => [L.bool b] := by rw [List.map_replicate]
    rw [Int.toNat_natCast, Int.sub_self]
    have hcf := cf_le (List.replicate code.length false)
    rw [List.length_replicate] at hcf
    exact key _ (List.replicate code.length false) [0] _ _ _ hrep rfl rfl (by simp only [List.length_cons, List.length_nil]; omega) ⟨by simp, fun i h => (by rw [List.getElem?_replicate] at h; split at h <;> simp at h), fun z hz => ⟨0, by simpa using hz, hc.pos, .zero⟩, .inr (by simp), fun i h => (by rw [List.getElem?_replicate] at h; split at h <;> simp at h)⟩
  · rw [if_neg h] at hr
    subst hr
    refine R_i [(0, 256)] [] c17_ok rfl (by simp) ?_
    simp -implicitDefEqProofs (maxSteps := 2000000) only [c17, ↓reduceIte, s_ops0, s_seq, s_opsK, s_seqK_n, s_nil, s_cons, s_wopsK, o_mv, o_as, o_call, e_t, e_k, e_put, e_get, e_res, e_keep_n, e_keep_c, e_keep1_s, e_asg_i, St.init, enum, List.length_nil, Option.getD_some, reduceCtorEq, List.map_cons, List.map_nil, PV.leaves, List.flatMap_cons, List.flatMap_nil, List.append_nil, Nat.reduceMul, kp_lro, rl_l, m_lf, m_n, m_c, m_all, e_asg_n, plT, Nat.add_zero]
    refine wcall_s h28 rfl rfl ?_
    simp -implicitDefEqProofs (maxSteps := 2000000) only [c17, h, List.map_nil, ↓reduceIte, s_ret, s_ops0, s_seq, s_cond, s_opsK, s_seqK_n, s_seqK_r, s_cnd, s_nil, s_cons, s_wopsK, s_putK, o_mv, o_as, o_bin, v_neq, o_ext, v_ext0, v_ext1, e_t, e_k, e_put, e_get, e_res, e_keep_n, e_keep_c, e_keep1_s, e_asg_i, Option.getD_some, Nat.reduceEqDiff, reduceCtorEq, true_and, and_true, Bool.false_eq_true, decide_eq_true_eq, s_ret_r, s_retX, s_cells_n, t_tp, t_n, t_c, t_1l, t_i, t_l, t_oo, r_n, r_t, r_cons, one_2, St.clr, outV, ownsV, owns1, ownL, List.map_cons, List.map_nil, List.any_cons, List.any_nil, Bool.or_self, Bool.and_true, Bool.true_and, Nat.reduceMul, kp_b, kp_i, ol_i, kp_lro, m_lf, m_tp, m_1l, m_n, m_c, m_all, e_asg_n, plT, ne_eq, not_false_eq_true, Nat.add_zero, true_or, or_true]
    done
end Go.Proofs.YthcpaohmajjopaaDoor.I
set_option linter.unusedVariables false
set_option linter.unusedSimpArgs false
namespace Go.Proofs.YthcpaohmajjopaaDoor.I
open Go Go.Proofs.YthcpaohmajjopaaDoor.AM
variable {X : Cx}
theorem flat_bools (l : List Bool) (e : Int) : Flat (.tp [.lf (.lst (.own 0 4) 1 (l.map fun b => [L.bool b]) []), .lf (.int .i64 e)]) := by
  intro v hv
  simp only [List.mem_cons, List.mem_nil_iff, or_false] at hv
  rcases hv with rfl | rfl
  · refine ⟨fun x hx c hc => ?_, rfl⟩
    obtain ⟨y, _, rfl⟩ := List.mem_map.1 hx
    simp at hc; subst hc; rfl
  · rfl
theorem wrX_boolv (bs : List Bool) (i : Nat) (v : Bool) : wrX i 0 [L.bool v] (bs.map fun b => [L.bool b]) = (bs.set i v).map fun b => [L.bool b] := by
  unfold wrX
  apply List.ext_getElem?
  intro j
  rw [List.getElem?_modify, List.getElem?_map, List.getElem?_map, List.getElem?_set]
  by_cases e : i = j
  · subst e
    simp only [if_true]
    cases h : bs[i]? with
    | none => simp [List.getElem?_eq_none_iff.1 h]
    | some b => simp [(List.getElem?_eq_some_iff.1 h).1, fillL]
  · simp [e]
structure FInv (code : List Ins) (fs : List Bool) (i : Nat) : Prop where
  len : fs.length = code.length
  zr : fs[0]? = some true
  cl : ∀ i', i' < i → Reach code i' → ∀ z ∈ gAt code i', fs[z.toNat]? = some true
theorem FInv.fin {code : List Ins} {fs : List Bool} (hc : CodeOK code) (h : FInv code fs code.length) {j : Nat} (hr : Reach code j) : fs[j]? = some true := by
  cases hr with
  | zero => exact h.zr
  | step h1 h2 =>
    have := h.cl _ (Reach.lt hc h1) h1 _ h2
    simpa using this
end Go.Proofs.YthcpaohmajjopaaDoor.I
