/- Contracts, part IX2. -/
import Derived.Test.YthcpaohmajjopaaDoorProg
import Derived.Test.YthcpaohmajjopaaDoorAmLeaf2
import Derived.Test.YthcpaohmajjopaaDoorIX1
set_option maxRecDepth 100000
namespace Go.Proofs.YthcpaohmajjopaaDoor.I
open Go Go.Proofs.YthcpaohmajjopaaDoor.AM
/-- harrow/instr.capture -/
abbrev c66_0 : AC := .seq (.ops 0 [⟨(some 18), .mv (.t 1), none⟩, ⟨(some 19), .bin .eql (.t 18) (.k (.lf (.int .i64 0))), none⟩, ⟨(some 20), .mv (.t 19), none⟩, ⟨(some 21), .mv (.t 2), (some (20, true))⟩, ⟨(some 22), .bin .eql (.t 21) (.k (.lf (.str ⟨#[]⟩))), (some (20, true))⟩, ⟨(some 23), .pk (.t 20) (.t 22) (.k (.lf (.bool false))), none⟩, ⟨(some 6), .as 0 0 (.t 23), none⟩] [6]) .ret
abbrev c66_1 : AC := .cond (.t 17) c66_0 .skip
abbrev c66_2 : AC := .seq (.ops 0 [⟨(some 16), .mv (.t 0), none⟩, ⟨(some 17), .bin .eql (.t 16) (.k (.lf (.int .i64 1))), none⟩] [1, 2, 7, 17]) c66_1
abbrev c66_3 : AC := .seq (.ops 0 [⟨(some 32), .mv (.t 9), none⟩, ⟨(some 33), .bin .eql (.t 32) (.k (.lf (.int .i64 0))), none⟩, ⟨(some 6), .as 0 0 (.t 33), none⟩] [6]) .ret
abbrev c66_4 : AC := .seq (.ops 0 [⟨(some 25), .ld (.t 7) 7 true, none⟩, ⟨(some 26), .bd [.int .i64 0, .int .i64 0, .str ⟨#[]⟩, .int .u64 0, .int .u64 0, .int .u64 0, .int .u64 0] [(0, 1, (.k (.lf (.int .i64 3))))], none⟩, ⟨(some 27), .bs 109 7 1 [.int .i64 0, .int .i64 0, .str ⟨#[]⟩, .int .u64 0, .int .u64 0, .int .u64 0, .int .u64 0] [(0, (.t 26))], none⟩, ⟨(some 28), .bs 111 1 1 [.lst .ro 7 [] []] [(0, (.t 27))], none⟩, ⟨(some 29), .call 80 [(.t 25), (.t 28)], none⟩, ⟨(some 24), .mv (.t 29), none⟩, ⟨(some 30), .ext (.t 24) 0, none⟩, ⟨(some 31), .ext (.t 24) 1, none⟩, ⟨(some 8), .as 109 7 (.t 30), none⟩, ⟨(some 9), .as 0 0 (.t 31), none⟩] [9]) c66_3
abbrev c66_5 : AC := .seq c66_2 c66_4
abbrev c66_6 : AC := .seq (.ops 0 [⟨(some 10), .mv (.t 0), none⟩, ⟨(some 11), .bin .sub (.t 10) (.k (.lf (.int .i64 2))), none⟩, ⟨(some 12), .bin .add (.t 11) (.k (.lf (.int .i64 18))), none⟩, ⟨(some 13), .mv (.t 1), none⟩, ⟨(some 14), .mv (.t 2), none⟩, ⟨(some 15), .bd [.int .i64 0, .int .i64 0, .str ⟨#[]⟩, .int .u64 0, .int .u64 0, .int .u64 0, .int .u64 0] [(0, 1, (.t 12)), (1, 1, (.t 13)), (2, 1, (.t 14))], none⟩, ⟨(some 7), .al [.int .i64 0, .int .i64 0, .str ⟨#[]⟩, .int .u64 0, .int .u64 0, .int .u64 0, .int .u64 0], none⟩, ⟨none, .st (.t 7) (.t 15) 7, none⟩] [0, 1, 2, 7]) c66_5
abbrev c66_7 : AC := .seq (.ops 0 [⟨(some 6), .as 0 0 (.k (.lf (.bool false))), none⟩] [0, 1, 2]) c66_6
abbrev c66 : AC := c66_7
theorem c66_ok : compileFn Tryd.prog 66 = some (34, AC.strip c66, [.t 6]) := by kernel_rfl
/-- harrow/tree.Join -/
abbrev c80_0 : AC := .seq (.ops 0 [⟨(some 4), .as 109 7 (.k (.lf (.lst .nl 7 [] []))), none⟩, ⟨(some 5), .as 0 0 (.k (.lf (.int .i64 40))), none⟩] [4, 5]) .ret
abbrev c80_1 : AC := .seq (.ops 0 [⟨(some 4), .as 109 7 (.k (.lf (.lst .nl 7 [] []))), none⟩, ⟨(some 5), .as 0 0 (.k (.lf (.int .i64 41))), none⟩] [4, 5]) .ret
abbrev c80_2 : AC := .seq (.ops 0 [⟨(some 4), .as 109 7 (.k (.lf (.lst .nl 7 [] []))), none⟩, ⟨(some 5), .as 0 0 (.k (.lf (.int .i64 42))), none⟩] [4, 5]) .ret
abbrev c80_3 : AC := .cond (.t 22) c80_2 .skip
abbrev c80_4 : AC := .seq (.ops 0 [⟨(some 23), .mv (.t 6), none⟩, ⟨(some 24), .mv (.t 1), none⟩, ⟨(some 25), .len (.t 24), none⟩, ⟨(some 26), .bin .neq (.t 23) (.t 25), none⟩, ⟨(some 22), .as 0 0 (.t 26), none⟩] [1, 2, 22]) c80_3
abbrev c80_5 : AC := .cond (.t 18) c80_1 c80_4
abbrev c80_6 : AC := .seq (.ops 0 [⟨(some 19), .ld (.t 2) 7 true, none⟩, ⟨(some 20), .call 101 [(.t 19)], none⟩, ⟨(some 21), .un .not (.t 20), none⟩, ⟨(some 18), .as 0 0 (.t 21), none⟩] [1, 2, 6, 18]) c80_5
abbrev c80_7 : AC := .cond (.t 15) c80_0 c80_6
abbrev c80_8 : AC := .seq (.ops 0 [⟨(some 16), .mv (.t 6), none⟩, ⟨(some 17), .bin .lss (.t 16) (.k (.lf (.int .i64 0))), none⟩, ⟨(some 15), .as 0 0 (.t 17), none⟩] [1, 2, 6, 15]) c80_7
abbrev c80_9 : AC := .block 0 c80_8
abbrev c80_10 : AC := .seq (.ops 0 [⟨(some 12), .fa (.t 2) 0, none⟩, ⟨(some 13), .ld (.t 12) 1 false, none⟩, ⟨(some 14), .call 100 [(.t 13)], none⟩, ⟨(some 6), .as 0 0 (.t 14), none⟩] [1, 2, 6]) c80_9
abbrev c80_11 : AC := .cond (.t 30) .skip (.exit 1)
abbrev c80_12 : AC := .seq (.ops 0 [⟨(some 40), .mv (.t 11), none⟩, ⟨(some 4), .as 109 7 (.k (.lf (.lst .nl 7 [] []))), none⟩, ⟨(some 5), .as 0 0 (.t 40), none⟩] [4, 5]) .ret
abbrev c80_13 : AC := .cond (.t 39) c80_12 .skip
abbrev c80_14 : AC := .seq (.ops 0 [⟨(some 38), .mv (.t 11), none⟩, ⟨(some 39), .bin .neq (.t 38) (.k (.lf (.int .i64 0))), none⟩] [2, 7, 9, 11, 27, 28, 29, 39]) c80_13
abbrev c80_15 : AC := .seq (.ops 0 [⟨(some 34), .mv (.t 9), none⟩, ⟨(some 35), .call 102 [(.t 34)], none⟩, ⟨(some 33), .mv (.t 35), none⟩, ⟨(some 36), .ext (.t 33) 0, none⟩, ⟨(some 37), .ext (.t 33) 1, none⟩, ⟨(some 10), .as 0 0 (.t 36), none⟩, ⟨(some 11), .as 0 0 (.t 37), none⟩] [2, 7, 9, 11, 27, 28, 29]) c80_14
abbrev c80_16 : AC := .seq c80_15 (.ops 0 [⟨(some 41), .mv (.t 7), none⟩, ⟨(some 42), .mv (.t 9), none⟩, ⟨(some 43), .app 109 7 64 (.t 41) (.t 42), none⟩, ⟨(some 7), .as 109 7 (.t 43), none⟩] [2, 7, 27, 28, 29])
abbrev c80_17 : AC := .seq (.ops 0 [⟨(some 31), .ia (.t 27) (.t 29) 1, none⟩, ⟨(some 32), .ld (.t 31) 1 false, none⟩, ⟨(some 9), .as 109 7 (.t 32), none⟩] [2, 7, 9, 27, 28, 29]) c80_16
abbrev c80_18 : AC := .block 2 c80_17
abbrev c80_19 : AC := .seq c80_18 (.ops 0 [⟨(some 44), .bin .add (.t 29) (.k (.lf (.int .i64 1))), none⟩, ⟨(some 29), .mv (.t 44), none⟩] [2, 7, 27, 28, 29])
abbrev c80_20 : AC := .seq c80_11 c80_19
abbrev c80_21 : AC := .seq (.ops 0 [⟨(some 30), .bin .lss (.t 29) (.t 28), none⟩] [2, 7, 27, 28, 29, 30]) c80_20
abbrev c80_22 : AC := .loop c80_21 [2, 7, 27, 28, 29]
abbrev c80_23 : AC := .block 1 c80_22
abbrev c80_24 : AC := .seq (.ops 0 [⟨(some 27), .mv (.t 1), none⟩, ⟨(some 28), .len (.t 27), none⟩, ⟨(some 29), .mv (.k (.lf (.int .i64 0))), none⟩] [2, 7, 27, 28, 29]) c80_23
abbrev c80_25 : AC := .seq (.ops 0 [⟨(some 45), .mv (.t 7), none⟩, ⟨(some 46), .ld (.t 2) 7 true, none⟩, ⟨(some 47), .bs 109 7 1 [.int .i64 0, .int .i64 0, .str ⟨#[]⟩, .int .u64 0, .int .u64 0, .int .u64 0, .int .u64 0] [(0, (.t 46))], none⟩, ⟨(some 48), .app 109 7 64 (.t 45) (.t 47), none⟩, ⟨(some 49), .call 103 [(.t 48)], none⟩, ⟨(some 50), .ext (.t 49) 0, none⟩, ⟨(some 51), .ext (.t 49) 1, none⟩, ⟨(some 4), .as 109 7 (.t 50), none⟩, ⟨(some 5), .as 0 0 (.t 51), none⟩] [4, 5]) .ret
abbrev c80_26 : AC := .seq c80_24 c80_25
abbrev c80_27 : AC := .seq (.ops 0 [⟨(some 7), .as 109 7 (.k (.lf (.lst .nl 7 [] []))), none⟩] [1, 2, 7]) c80_26
abbrev c80_28 : AC := .seq c80_10 c80_27
abbrev c80_29 : AC := .seq (.ops 0 [⟨(some 2), .bx (.t 0), none⟩, ⟨(some 4), .as 109 7 (.k (.lf (.lst .nl 7 [] []))), none⟩, ⟨(some 5), .as 0 0 (.k (.lf (.int .i64 0))), none⟩] [1, 2]) c80_28
abbrev c80 : AC := c80_29
theorem c80_ok : compileFn Tryd.prog 80 = some (52, AC.strip c80, [.t 4, .t 5]) := by kernel_rfl
/-- harrow/tree.Arity -/
abbrev c100_0 : AC := .seq (.ops 0 [⟨(some 2), .as 0 0 (.k (.lf (.int .i64 2))), none⟩] [2]) .ret
abbrev c100_1 : AC := .seq (.ops 0 [⟨(some 2), .as 0 0 (.k (.lf (.int .i64 0))), none⟩] [2]) .ret
abbrev c100_2 : AC := .seq (.ops 0 [⟨(some 2), .as 0 0 (.k (.lf (.int .i64 1))), none⟩] [2]) .ret
abbrev c100_3 : AC := .cond (.t 21) c100_2 .skip
abbrev c100_4 : AC := .seq (.ops 0 [⟨(some 22), .mv (.t 0), none⟩, ⟨(some 23), .bin .gtr (.t 22) (.k (.lf (.int .i64 8))), none⟩, ⟨(some 24), .mv (.t 23), none⟩, ⟨(some 25), .mv (.t 0), (some (24, true))⟩, ⟨(some 26), .bin .leq (.t 25) (.k (.lf (.int .i64 23))), (some (24, true))⟩, ⟨(some 27), .pk (.t 24) (.t 26) (.k (.lf (.bool false))), none⟩, ⟨(some 21), .as 0 0 (.t 27), none⟩] [21]) c100_3
abbrev c100_5 : AC := .cond (.t 10) c100_1 c100_4
abbrev c100_6 : AC := .seq (.ops 0 [⟨(some 11), .mv (.t 0), none⟩, ⟨(some 12), .bin .geq (.t 11) (.k (.lf (.int .i64 1))), none⟩, ⟨(some 13), .mv (.t 12), none⟩, ⟨(some 14), .mv (.t 0), (some (13, true))⟩, ⟨(some 15), .bin .leq (.t 14) (.k (.lf (.int .i64 6))), (some (13, true))⟩, ⟨(some 16), .pk (.t 13) (.t 15) (.k (.lf (.bool false))), none⟩, ⟨(some 17), .mv (.t 16), none⟩, ⟨(some 18), .mv (.t 0), (some (17, false))⟩, ⟨(some 19), .bin .eql (.t 18) (.k (.lf (.int .i64 17))), (some (17, false))⟩, ⟨(some 20), .pk (.t 17) (.k (.lf (.bool true))) (.t 19), none⟩, ⟨(some 10), .as 0 0 (.t 20), none⟩] [0, 10]) c100_5
abbrev c100_7 : AC := .cond (.t 3) c100_0 c100_6
abbrev c100_8 : AC := .seq (.ops 0 [⟨(some 4), .mv (.t 0), none⟩, ⟨(some 5), .bin .eql (.t 4) (.k (.lf (.int .i64 7))), none⟩, ⟨(some 6), .mv (.t 5), none⟩, ⟨(some 7), .mv (.t 0), (some (6, false))⟩, ⟨(some 8), .bin .eql (.t 7) (.k (.lf (.int .i64 8))), (some (6, false))⟩, ⟨(some 9), .pk (.t 6) (.k (.lf (.bool true))) (.t 8), none⟩, ⟨(some 3), .as 0 0 (.t 9), none⟩] [0, 3]) c100_7
abbrev c100_9 : AC := .block 0 c100_8
abbrev c100_10 : AC := .seq (.ops 0 [⟨(some 2), .as 0 0 (.k (.lf (.int .i64 (-1)))), none⟩] [2]) .ret
abbrev c100_11 : AC := .seq c100_9 c100_10
abbrev c100_12 : AC := .seq (.ops 0 [⟨(some 2), .as 0 0 (.k (.lf (.int .i64 0))), none⟩] [0]) c100_11
abbrev c100 : AC := c100_12
theorem c100_ok : compileFn Tryd.prog 100 = some (28, AC.strip c100, [.t 2]) := by kernel_rfl
/-- harrow/tree.fields -/
abbrev c101_0 : AC := .seq (.ops 0 [⟨(some 2), .as 0 0 (.k (.lf (.bool false))), none⟩] [2]) .ret
abbrev c101_1 : AC := .cond (.t 11) c101_0 .skip
abbrev c101_2 : AC := .seq (.ops 0 [⟨(some 3), .fa (.t 1) 0, none⟩, ⟨(some 4), .ld (.t 3) 1 false, none⟩, ⟨(some 5), .bin .neq (.t 4) (.k (.lf (.int .i64 5))), none⟩, ⟨(some 6), .mv (.t 5), none⟩, ⟨(some 7), .fa (.t 1) 3, (some (6, true))⟩, ⟨(some 8), .ld (.t 7) 4 true, (some (6, true))⟩, ⟨(some 9), .bd [.int .u64 0, .int .u64 0, .int .u64 0, .int .u64 0] [], (some (6, true))⟩, ⟨(some 10), .beq true [2, 2, 2, 2] (.t 8) (.t 9), (some (6, true))⟩, ⟨(some 11), .pk (.t 6) (.t 10) (.k (.lf (.bool false))), none⟩] [1, 11]) c101_1
abbrev c101_3 : AC := .seq (.ops 0 [⟨(some 2), .as 0 0 (.k (.lf (.bool false))), none⟩] [2]) .ret
abbrev c101_4 : AC := .cond (.t 30) c101_3 .skip
abbrev c101_5 : AC := .seq (.ops 0 [⟨(some 12), .fa (.t 1) 1, none⟩, ⟨(some 13), .ld (.t 12) 1 false, none⟩, ⟨(some 14), .bin .lss (.t 13) (.k (.lf (.int .i64 0))), none⟩, ⟨(some 15), .mv (.t 14), none⟩, ⟨(some 16), .fa (.t 1) 1, (some (15, false))⟩, ⟨(some 17), .ld (.t 16) 1 false, (some (15, false))⟩, ⟨(some 18), .bin .gtr (.t 17) (.k (.lf (.int .i64 50))), (some (15, false))⟩, ⟨(some 19), .pk (.t 15) (.k (.lf (.bool true))) (.t 18), none⟩, ⟨(some 20), .mv (.t 19), none⟩, ⟨(some 21), .fa (.t 1) 1, (some (20, false))⟩, ⟨(some 22), .ld (.t 21) 1 false, (some (20, false))⟩, ⟨(some 23), .bin .gtr (.t 22) (.k (.lf (.int .i64 0))), (some (20, false))⟩, ⟨(some 24), .mv (.t 23), (some (20, false))⟩, ⟨(some 25), .fa (.t 1) 0, (some (24, true))⟩, ⟨(some 26), .ld (.t 25) 1 false, (some (24, true))⟩, ⟨(some 27), .call 116 [(.t 26)], (some (24, true))⟩, ⟨(some 28), .un .not (.t 27), (some (24, true))⟩, ⟨(some 29), .pk (.t 24) (.t 28) (.k (.lf (.bool false))), (some (20, false))⟩, ⟨(some 30), .pk (.t 20) (.k (.lf (.bool true))) (.t 29), none⟩] [1, 30]) c101_4
abbrev c101_6 : AC := .seq (.ops 0 [⟨(some 35), .fa (.t 1) 2, none⟩, ⟨(some 36), .ld (.t 35) 1 false, none⟩, ⟨(some 37), .bin .neq (.t 36) (.k (.lf (.str ⟨#[]⟩))), none⟩, ⟨(some 38), .mv (.t 37), none⟩, ⟨(some 39), .fa (.t 1) 2, (some (38, true))⟩, ⟨(some 40), .ld (.t 39) 1 false, (some (38, true))⟩, ⟨(some 41), .lns (.t 40), (some (38, true))⟩, ⟨(some 42), .bin .leq (.t 41) (.k (.lf (.int .i64 255))), (some (38, true))⟩, ⟨(some 43), .pk (.t 38) (.t 42) (.k (.lf (.bool false))), none⟩, ⟨(some 2), .as 0 0 (.t 43), none⟩] [2]) .ret
abbrev c101_7 : AC := .seq (.ops 0 [⟨(some 46), .fa (.t 1) 2, none⟩, ⟨(some 47), .ld (.t 46) 1 false, none⟩, ⟨(some 48), .call 117 [(.t 47)], none⟩, ⟨(some 2), .as 0 0 (.t 48), none⟩] [2]) .ret
abbrev c101_8 : AC := .seq (.ops 0 [⟨(some 51), .fa (.t 1) 2, none⟩, ⟨(some 52), .ld (.t 51) 1 false, none⟩, ⟨(some 53), .bin .eql (.t 52) (.k (.lf (.str ⟨#[]⟩))), none⟩, ⟨(some 54), .mv (.t 53), none⟩, ⟨(some 55), .fa (.t 1) 2, (some (54, false))⟩, ⟨(some 56), .ld (.t 55) 1 false, (some (54, false))⟩, ⟨(some 57), .call 117 [(.t 56)], (some (54, false))⟩, ⟨(some 58), .pk (.t 54) (.k (.lf (.bool true))) (.t 57), none⟩, ⟨(some 2), .as 0 0 (.t 58), none⟩] [2]) .ret
abbrev c101_9 : AC := .seq (.ops 0 [⟨(some 61), .fa (.t 1) 2, none⟩, ⟨(some 62), .ld (.t 61) 1 false, none⟩, ⟨(some 63), .call 118 [(.t 62)], none⟩, ⟨(some 2), .as 0 0 (.t 63), none⟩] [2]) .ret
abbrev c101_10 : AC := .cond (.t 59) c101_9 .skip
abbrev c101_11 : AC := .seq (.ops 0 [⟨(some 60), .bin .eql (.t 32) (.k (.lf (.int .i64 22))), none⟩, ⟨(some 59), .as 0 0 (.t 60), none⟩] [1, 59]) c101_10
abbrev c101_12 : AC := .cond (.t 49) c101_8 c101_11
abbrev c101_13 : AC := .seq (.ops 0 [⟨(some 50), .bin .eql (.t 32) (.k (.lf (.int .i64 19))), none⟩, ⟨(some 49), .as 0 0 (.t 50), none⟩] [1, 32, 49]) c101_12
abbrev c101_14 : AC := .cond (.t 44) c101_7 c101_13
abbrev c101_15 : AC := .seq (.ops 0 [⟨(some 45), .bin .eql (.t 32) (.k (.lf (.int .i64 6))), none⟩, ⟨(some 44), .as 0 0 (.t 45), none⟩] [1, 32, 44]) c101_14
abbrev c101_16 : AC := .cond (.t 33) c101_6 c101_15
abbrev c101_17 : AC := .seq (.ops 0 [⟨(some 34), .bin .eql (.t 32) (.k (.lf (.int .i64 4))), none⟩, ⟨(some 33), .as 0 0 (.t 34), none⟩] [1, 32, 33]) c101_16
abbrev c101_18 : AC := .block 0 c101_17
abbrev c101_19 : AC := .seq (.ops 0 [⟨(some 31), .fa (.t 1) 0, none⟩, ⟨(some 32), .ld (.t 31) 1 false, none⟩] [1, 32]) c101_18
abbrev c101_20 : AC := .seq (.ops 0 [⟨(some 64), .fa (.t 1) 2, none⟩, ⟨(some 65), .ld (.t 64) 1 false, none⟩, ⟨(some 66), .bin .eql (.t 65) (.k (.lf (.str ⟨#[]⟩))), none⟩, ⟨(some 2), .as 0 0 (.t 66), none⟩] [2]) .ret
abbrev c101_21 : AC := .seq c101_19 c101_20
abbrev c101_22 : AC := .seq c101_5 c101_21
abbrev c101_23 : AC := .seq c101_2 c101_22
abbrev c101_24 : AC := .seq (.ops 0 [⟨(some 1), .bx (.t 0), none⟩, ⟨(some 2), .as 0 0 (.k (.lf (.bool false))), none⟩] [1]) c101_23
abbrev c101 : AC := c101_24
theorem c101_ok : compileFn Tryd.prog 101 = some (67, AC.strip c101, [.t 2]) := by kernel_rfl
/-- harrow/tree.Check -/
abbrev c102_0 : AC := .seq (.ops 0 [⟨(some 2), .as 0 0 (.k (.lf (.int .i64 0))), none⟩, ⟨(some 3), .as 0 0 (.k (.lf (.int .i64 2))), none⟩] [2, 3]) .ret
abbrev c102_1 : AC := .cond (.t 6) c102_0 .skip
abbrev c102_2 : AC := .seq (.ops 0 [⟨(some 4), .mv (.t 0), none⟩, ⟨(some 5), .len (.t 4), none⟩, ⟨(some 6), .bin .gtr (.t 5) (.k (.lf (.int .i64 2048))), none⟩] [0, 6]) c102_1
abbrev c102_3 : AC := .seq (.ops 0 [⟨(some 7), .mv (.t 0), none⟩, ⟨(some 8), .call 119 [(.t 7), (.k (.lf (.fn 120 [] [])))], none⟩, ⟨(some 9), .ext (.t 8) 0, none⟩, ⟨(some 10), .ext (.t 8) 1, none⟩, ⟨(some 2), .as 0 0 (.t 9), none⟩, ⟨(some 3), .as 0 0 (.t 10), none⟩] [2, 3]) .ret
abbrev c102_4 : AC := .seq c102_2 c102_3
abbrev c102_5 : AC := .seq (.ops 0 [⟨(some 2), .as 0 0 (.k (.lf (.int .i64 0))), none⟩, ⟨(some 3), .as 0 0 (.k (.lf (.int .i64 0))), none⟩] [0]) c102_4
abbrev c102 : AC := c102_5
theorem c102_ok : compileFn Tryd.prog 102 = some (11, AC.strip c102, [.t 2, .t 3]) := by kernel_rfl
/-- harrow/tree.checked -/
abbrev c103_0 : AC := .seq (.ops 0 [⟨(some 13), .mv (.t 5), none⟩, ⟨(some 2), .as 109 7 (.k (.lf (.lst .nl 7 [] []))), none⟩, ⟨(some 3), .as 0 0 (.t 13), none⟩] [2, 3]) .ret
abbrev c103_1 : AC := .cond (.t 12) c103_0 .skip
abbrev c103_2 : AC := .seq (.ops 0 [⟨(some 11), .mv (.t 5), none⟩, ⟨(some 12), .bin .neq (.t 11) (.k (.lf (.int .i64 0))), none⟩] [0, 5, 12]) c103_1
abbrev c103_3 : AC := .seq (.ops 0 [⟨(some 7), .mv (.t 0), none⟩, ⟨(some 8), .call 102 [(.t 7)], none⟩, ⟨(some 6), .mv (.t 8), none⟩, ⟨(some 9), .ext (.t 6) 0, none⟩, ⟨(some 10), .ext (.t 6) 1, none⟩, ⟨(some 4), .as 0 0 (.t 9), none⟩, ⟨(some 5), .as 0 0 (.t 10), none⟩] [0, 5]) c103_2
abbrev c103_4 : AC := .seq (.ops 0 [⟨(some 14), .mv (.t 0), none⟩, ⟨(some 2), .as 109 7 (.t 14), none⟩, ⟨(some 3), .as 0 0 (.k (.lf (.int .i64 0))), none⟩] [2, 3]) .ret
abbrev c103_5 : AC := .seq c103_3 c103_4
abbrev c103_6 : AC := .seq (.ops 0 [⟨(some 2), .as 109 7 (.k (.lf (.lst .nl 7 [] []))), none⟩, ⟨(some 3), .as 0 0 (.k (.lf (.int .i64 0))), none⟩] [0]) c103_5
abbrev c103 : AC := c103_6
theorem c103_ok : compileFn Tryd.prog 103 = some (15, AC.strip c103, [.t 2, .t 3]) := by kernel_rfl
/-- harrow/tree.counted -/
abbrev c116_0 : AC := .seq (.ops 0 [⟨(some 3), .mv (.t 0), none⟩, ⟨(some 4), .bin .geq (.t 3) (.k (.lf (.int .i64 14))), none⟩, ⟨(some 5), .mv (.t 4), none⟩, ⟨(some 6), .mv (.t 0), (some (5, true))⟩, ⟨(some 7), .bin .leq (.t 6) (.k (.lf (.int .i64 16))), (some (5, true))⟩, ⟨(some 8), .pk (.t 5) (.t 7) (.k (.lf (.bool false))), none⟩, ⟨(some 9), .mv (.t 8), none⟩, ⟨(some 10), .mv (.t 0), (some (9, false))⟩, ⟨(some 11), .bin .eql (.t 10) (.k (.lf (.int .i64 23))), (some (9, false))⟩, ⟨(some 12), .pk (.t 9) (.k (.lf (.bool true))) (.t 11), none⟩, ⟨(some 2), .as 0 0 (.t 12), none⟩] [2]) .ret
abbrev c116_1 : AC := .seq (.ops 0 [⟨(some 2), .as 0 0 (.k (.lf (.bool false))), none⟩] [0]) c116_0
abbrev c116 : AC := c116_1
theorem c116_ok : compileFn Tryd.prog 116 = some (13, AC.strip c116, [.t 2]) := by kernel_rfl
/-- harrow/tree.isName -/
abbrev c117_0 : AC := .seq (.ops 0 [⟨(some 2), .as 0 0 (.k (.lf (.bool false))), none⟩] [2]) .ret
abbrev c117_1 : AC := .cond (.t 16) c117_0 .skip
abbrev c117_2 : AC := .seq (.ops 0 [⟨(some 4), .mv (.t 0), none⟩, ⟨(some 5), .bin .eql (.t 4) (.k (.lf (.str ⟨#[]⟩))), none⟩, ⟨(some 6), .mv (.t 5), none⟩, ⟨(some 7), .mv (.t 0), (some (6, false))⟩, ⟨(some 8), .lns (.t 7), (some (6, false))⟩, ⟨(some 9), .bin .gtr (.t 8) (.k (.lf (.int .i64 32))), (some (6, false))⟩, ⟨(some 10), .pk (.t 6) (.k (.lf (.bool true))) (.t 9), none⟩, ⟨(some 11), .mv (.t 10), none⟩, ⟨(some 12), .mv (.t 0), (some (11, false))⟩, ⟨(some 13), .ixs (.t 12) (.k (.lf (.int .i64 0))), (some (11, false))⟩, ⟨(some 14), .call 126 [(.t 13)], (some (11, false))⟩, ⟨(some 15), .un .not (.t 14), (some (11, false))⟩, ⟨(some 16), .pk (.t 11) (.k (.lf (.bool true))) (.t 15), none⟩] [0, 16]) c117_1
abbrev c117_3 : AC := .cond (.t 20) .skip (.exit 0)
abbrev c117_4 : AC := .seq (.ops 0 [⟨(some 2), .as 0 0 (.k (.lf (.bool false))), none⟩] [2]) .ret
abbrev c117_5 : AC := .cond (.t 38) c117_4 .skip
abbrev c117_6 : AC := .seq (.ops 0 [⟨(some 22), .mv (.t 0), none⟩, ⟨(some 23), .mv (.t 3), none⟩, ⟨(some 24), .ixs (.t 22) (.t 23), none⟩, ⟨(some 25), .call 126 [(.t 24)], none⟩, ⟨(some 26), .un .not (.t 25), none⟩, ⟨(some 27), .mv (.t 26), none⟩, ⟨(some 28), .mv (.t 0), (some (27, true))⟩, ⟨(some 29), .mv (.t 3), (some (27, true))⟩, ⟨(some 30), .ixs (.t 28) (.t 29), (some (27, true))⟩, ⟨(some 31), .bin .lss (.t 30) (.k (.lf (.int .u8 48))), (some (27, true))⟩, ⟨(some 32), .mv (.t 31), (some (27, true))⟩, ⟨(some 33), .mv (.t 0), (some (32, false))⟩, ⟨(some 34), .mv (.t 3), (some (32, false))⟩, ⟨(some 35), .ixs (.t 33) (.t 34), (some (32, false))⟩, ⟨(some 36), .bin .gtr (.t 35) (.k (.lf (.int .u8 57))), (some (32, false))⟩, ⟨(some 37), .pk (.t 32) (.k (.lf (.bool true))) (.t 36), (some (27, true))⟩, ⟨(some 38), .pk (.t 27) (.t 37) (.k (.lf (.bool false))), none⟩] [0, 18, 19, 38]) c117_5
abbrev c117_7 : AC := .seq (.ops 0 [⟨(some 21), .mv (.t 19), none⟩, ⟨(some 3), .as 0 0 (.t 21), none⟩] [0, 3, 18, 19]) c117_6
abbrev c117_8 : AC := .block 1 c117_7
abbrev c117_9 : AC := .seq c117_8 (.ops 0 [⟨(some 39), .bin .add (.t 19) (.k (.lf (.int .i64 1))), none⟩, ⟨(some 19), .mv (.t 39), none⟩] [0, 18, 19])
abbrev c117_10 : AC := .seq c117_3 c117_9
abbrev c117_11 : AC := .seq (.ops 0 [⟨(some 20), .bin .lss (.t 19) (.t 18), none⟩] [0, 18, 19, 20]) c117_10
abbrev c117_12 : AC := .loop c117_11 [0, 18, 19]
abbrev c117_13 : AC := .block 0 c117_12
abbrev c117_14 : AC := .seq (.ops 0 [⟨(some 17), .mv (.t 0), none⟩, ⟨(some 18), .lns (.t 17), none⟩, ⟨(some 19), .mv (.k (.lf (.int .i64 0))), none⟩] [0, 18, 19]) c117_13
abbrev c117_15 : AC := .seq (.ops 0 [⟨(some 2), .as 0 0 (.k (.lf (.bool true))), none⟩] [2]) .ret
abbrev c117_16 : AC := .seq c117_14 c117_15
abbrev c117_17 : AC := .seq c117_2 c117_16
abbrev c117_18 : AC := .seq (.ops 0 [⟨(some 2), .as 0 0 (.k (.lf (.bool false))), none⟩] [0]) c117_17
abbrev c117 : AC := c117_18
theorem c117_ok : compileFn Tryd.prog 117 = some (40, AC.strip c117, [.t 2]) := by kernel_rfl
/-- harrow/tree.isTemplate -/
abbrev c118_0 : AC := .seq (.ops 0 [⟨(some 2), .as 0 0 (.k (.lf (.bool false))), none⟩] [2]) .ret
abbrev c118_1 : AC := .cond (.t 6) c118_0 .skip
abbrev c118_2 : AC := .seq (.ops 0 [⟨(some 4), .mv (.t 0), none⟩, ⟨(some 5), .lns (.t 4), none⟩, ⟨(some 6), .bin .gtr (.t 5) (.k (.lf (.int .i64 255))), none⟩] [0, 6]) c118_1
abbrev c118_3 : AC := .cond (.t 10) .skip (.exit 0)
abbrev c118_4 : AC := .seq (.ops 0 [⟨(some 7), .mv (.t 3), none⟩, ⟨(some 8), .mv (.t 0), none⟩, ⟨(some 9), .lns (.t 8), none⟩, ⟨(some 10), .bin .lss (.t 7) (.t 9), none⟩] [0, 3, 10]) c118_3
abbrev c118_5 : AC := .cond (.t 16) (.exit 1) .skip
abbrev c118_6 : AC := .seq (.ops 0 [⟨(some 13), .mv (.t 0), none⟩, ⟨(some 14), .mv (.t 3), none⟩, ⟨(some 15), .ixs (.t 13) (.t 14), none⟩, ⟨(some 16), .bin .neq (.t 15) (.k (.lf (.int .u8 37))), none⟩] [0, 3, 16]) c118_5
abbrev c118_7 : AC := .seq (.ops 0 [⟨(some 2), .as 0 0 (.k (.lf (.bool false))), none⟩] [2]) .ret
abbrev c118_8 : AC := .cond (.t 40) c118_7 .skip
abbrev c118_9 : AC := .seq (.ops 0 [⟨(some 19), .mv (.t 3), none⟩, ⟨(some 20), .mv (.t 0), none⟩, ⟨(some 21), .lns (.t 20), none⟩, ⟨(some 22), .bin .eql (.t 19) (.t 21), none⟩, ⟨(some 23), .mv (.t 22), none⟩, ⟨(some 24), .mv (.t 0), (some (23, false))⟩, ⟨(some 25), .mv (.t 3), (some (23, false))⟩, ⟨(some 26), .ixs (.t 24) (.t 25), (some (23, false))⟩, ⟨(some 27), .bin .neq (.t 26) (.k (.lf (.int .u8 37))), (some (23, false))⟩, ⟨(some 28), .mv (.t 27), (some (23, false))⟩, ⟨(some 29), .mv (.t 0), (some (28, true))⟩, ⟨(some 30), .mv (.t 3), (some (28, true))⟩, ⟨(some 31), .ixs (.t 29) (.t 30), (some (28, true))⟩, ⟨(some 32), .bin .lss (.t 31) (.k (.lf (.int .u8 48))), (some (28, true))⟩, ⟨(some 33), .mv (.t 32), (some (28, true))⟩, ⟨(some 34), .mv (.t 0), (some (33, false))⟩, ⟨(some 35), .mv (.t 3), (some (33, false))⟩, ⟨(some 36), .ixs (.t 34) (.t 35), (some (33, false))⟩, ⟨(some 37), .bin .gtr (.t 36) (.k (.lf (.int .u8 57))), (some (33, false))⟩, ⟨(some 38), .pk (.t 33) (.k (.lf (.bool true))) (.t 37), (some (28, true))⟩, ⟨(some 39), .pk (.t 28) (.t 38) (.k (.lf (.bool false))), (some (23, false))⟩, ⟨(some 40), .pk (.t 23) (.k (.lf (.bool true))) (.t 39), none⟩] [0, 3, 40]) c118_8
abbrev c118_10 : AC := .seq (.ops 0 [⟨(some 17), .mv (.t 3), none⟩, ⟨(some 18), .bin .add (.t 17) (.k (.lf (.int .i64 1))), none⟩, ⟨(some 3), .as 0 0 (.t 18), none⟩] [0, 3]) c118_9
abbrev c118_11 : AC := .seq c118_6 c118_10
abbrev c118_12 : AC := .block 1 c118_11
abbrev c118_13 : AC := .seq c118_12 (.ops 0 [⟨(some 11), .mv (.t 3), none⟩, ⟨(some 12), .bin .add (.t 11) (.k (.lf (.int .i64 1))), none⟩, ⟨(some 3), .as 0 0 (.t 12), none⟩] [0, 3])
abbrev c118_14 : AC := .seq c118_4 c118_13
abbrev c118_15 : AC := .loop c118_14 [0, 3]
abbrev c118_16 : AC := .block 0 c118_15
abbrev c118_17 : AC := .seq (.ops 0 [⟨(some 3), .as 0 0 (.k (.lf (.int .i64 0))), none⟩] [0, 3]) c118_16
abbrev c118_18 : AC := .seq (.ops 0 [⟨(some 2), .as 0 0 (.k (.lf (.bool true))), none⟩] [2]) .ret
abbrev c118_19 : AC := .seq c118_17 c118_18
abbrev c118_20 : AC := .seq c118_2 c118_19
abbrev c118_21 : AC := .seq (.ops 0 [⟨(some 2), .as 0 0 (.k (.lf (.bool false))), none⟩] [0]) c118_20
abbrev c118 : AC := c118_21
theorem c118_ok : compileFn Tryd.prog 118 = some (41, AC.strip c118, [.t 2]) := by kernel_rfl
/-- harrow/tree.each -/
abbrev c119_0 : AC := .cond (.t 19) .skip (.exit 0)
abbrev c119_1 : AC := .seq (.ops 0 [⟨(some 28), .mv (.t 7), none⟩, ⟨(some 4), .as 0 0 (.t 28), none⟩, ⟨(some 5), .as 0 0 (.k (.lf (.int .i64 40))), none⟩] [4, 5]) .ret
abbrev c119_2 : AC := .cond (.t 27) c119_1 .skip
abbrev c119_3 : AC := .seq (.ops 0 [⟨(some 26), .mv (.t 9), none⟩, ⟨(some 27), .bin .lss (.t 26) (.k (.lf (.int .i64 0))), none⟩] [0, 1, 6, 7, 8, 9, 16, 17, 18, 27]) c119_2
abbrev c119_4 : AC := .seq (.ops 0 [⟨(some 32), .mv (.t 7), none⟩, ⟨(some 4), .as 0 0 (.t 32), none⟩, ⟨(some 5), .as 0 0 (.k (.lf (.int .i64 41))), none⟩] [4, 5]) .ret
abbrev c119_5 : AC := .cond (.t 31) c119_4 .skip
abbrev c119_6 : AC := .seq (.ops 0 [⟨(some 29), .ld (.t 8) 7 true, none⟩, ⟨(some 30), .call 101 [(.t 29)], none⟩, ⟨(some 31), .un .not (.t 30), none⟩] [0, 1, 6, 7, 8, 9, 16, 17, 18, 31]) c119_5
abbrev c119_7 : AC := .cond (.t 37) .skip (.exit 2)
abbrev c119_8 : AC := .seq (.ops 0 [⟨(some 42), .mv (.t 7), none⟩, ⟨(some 4), .as 0 0 (.t 42), none⟩, ⟨(some 5), .as 0 0 (.k (.lf (.int .i64 42))), none⟩] [4, 5]) .ret
abbrev c119_9 : AC := .cond (.t 41) c119_8 .skip
abbrev c119_10 : AC := .seq (.ops 0 [⟨(some 39), .fa (.t 10) 0, none⟩, ⟨(some 40), .ld (.t 39) 1 false, none⟩, ⟨(some 41), .bin .eql (.t 40) (.k (.lf (.int .i64 0))), none⟩] [0, 1, 6, 7, 8, 10, 11, 16, 17, 18, 35, 36, 41]) c119_9
abbrev c119_11 : AC := .cond (.t 62) (.ops 0 [⟨(some 63), .fa (.t 12) 1, none⟩, ⟨(some 64), .ld (.t 63) 1 false, none⟩, ⟨(some 65), .bin .sub (.t 64) (.k (.lf (.int .i64 1))), none⟩, ⟨(some 66), .fa (.t 12) 1, none⟩, ⟨none, .st (.t 66) (.t 65) 1, none⟩] [0, 1, 6, 7, 8, 10, 12, 16, 17, 18, 35, 36]) .skip
abbrev c119_12 : AC := .seq (.ops 2 [⟨(some 49), .mv (.t 11), none⟩, ⟨(some 50), .bin .eql (.t 49) (.k (.lf (.int .i64 1))), none⟩, ⟨(some 51), .mv (.t 50), none⟩, ⟨(some 52), .mv (.t 0), (some (51, true))⟩, ⟨(some 53), .fa (.t 10) 0, (some (51, true))⟩, ⟨(some 54), .ld (.t 53) 1 false, (some (51, true))⟩, ⟨(some 55), .bin .sub (.t 54) (.k (.lf (.int .i64 1))), (some (51, true))⟩, ⟨(some 56), .ia (.t 52) (.t 55) 7, (some (51, true))⟩, ⟨(some 57), .fa (.t 56) 0, (some (51, true))⟩, ⟨(some 58), .ld (.t 57) 1 false, (some (51, true))⟩, ⟨(some 59), .fa (.t 8) 0, (some (51, true))⟩, ⟨(some 60), .ld (.t 59) 1 false, (some (51, true))⟩, ⟨(some 61), .bin .eql (.t 58) (.t 60), (some (51, true))⟩, ⟨(some 62), .pk (.t 51) (.t 61) (.k (.lf (.bool false))), none⟩] [0, 1, 6, 7, 8, 10, 12, 16, 17, 18, 35, 36, 62]) c119_11
abbrev c119_13 : AC := .seq c119_12 (.ops 0 [⟨(some 67), .fa (.t 12) 0, none⟩, ⟨(some 68), .ld (.t 67) 1 false, none⟩, ⟨(some 69), .fa (.t 10) 1, none⟩, ⟨(some 70), .ld (.t 69) 1 false, none⟩, ⟨(some 71), .fa (.t 12) 1, none⟩, ⟨(some 72), .ld (.t 71) 1 false, none⟩, ⟨(some 73), .mm true (.t 70) (.t 72), none⟩, ⟨(some 74), .bd [.int .i64 0, .int .i64 0] [(0, 1, (.t 68)), (1, 1, (.t 73))], none⟩, ⟨none, .st (.t 10) (.t 74) 2, none⟩] [0, 1, 6, 7, 8, 10, 16, 17, 18, 35, 36])
abbrev c119_14 : AC := .seq (.ops 0 [⟨(some 43), .mv (.t 6), none⟩, ⟨(some 44), .fa (.t 10) 0, none⟩, ⟨(some 45), .ld (.t 44) 1 false, none⟩, ⟨(some 46), .bin .sub (.t 45) (.k (.lf (.int .i64 1))), none⟩, ⟨(some 47), .ia (.t 43) (.t 46) 2, none⟩, ⟨(some 48), .ld (.t 47) 2 true, none⟩, ⟨(some 12), .al [.int .i64 0, .int .i64 0], none⟩, ⟨none, .st (.t 12) (.t 48) 2, none⟩] [0, 1, 6, 7, 8, 10, 11, 12, 16, 17, 18, 35, 36]) c119_13
abbrev c119_15 : AC := .seq c119_10 c119_14
abbrev c119_16 : AC := .seq (.ops 0 [⟨(some 38), .mv (.t 36), none⟩, ⟨(some 11), .as 0 0 (.t 38), none⟩] [0, 1, 6, 7, 8, 10, 11, 16, 17, 18, 35, 36]) c119_15
abbrev c119_17 : AC := .block 3 c119_16
abbrev c119_18 : AC := .seq c119_17 (.ops 0 [⟨(some 75), .bin .add (.t 36) (.k (.lf (.int .i64 1))), none⟩, ⟨(some 36), .mv (.t 75), none⟩] [0, 1, 6, 7, 8, 10, 16, 17, 18, 35, 36])
abbrev c119_19 : AC := .seq c119_7 c119_18
abbrev c119_20 : AC := .seq (.ops 0 [⟨(some 37), .bin .lss (.t 36) (.t 35), none⟩] [0, 1, 6, 7, 8, 10, 16, 17, 18, 35, 36, 37]) c119_19
abbrev c119_21 : AC := .loop c119_20 [0, 1, 6, 7, 8, 10, 16, 17, 18, 35, 36]
abbrev c119_22 : AC := .block 2 c119_21
abbrev c119_23 : AC := .seq (.ops 0 [⟨(some 35), .mv (.t 9), none⟩, ⟨(some 36), .mv (.k (.lf (.int .i64 0))), none⟩] [0, 1, 6, 7, 8, 10, 16, 17, 18, 35, 36]) c119_22
abbrev c119_24 : AC := .seq (.ops 0 [⟨(some 83), .mv (.t 7), none⟩, ⟨(some 4), .as 0 0 (.t 83), none⟩, ⟨(some 5), .as 0 0 (.k (.lf (.int .i64 4))), none⟩] [4, 5]) .ret
abbrev c119_25 : AC := .cond (.t 82) c119_24 .skip
abbrev c119_26 : AC := .seq (.ops 0 [⟨(some 80), .fa (.t 10) 1, none⟩, ⟨(some 81), .ld (.t 80) 1 false, none⟩, ⟨(some 82), .bin .gtr (.t 81) (.k (.lf (.int .i64 60))), none⟩] [0, 1, 6, 7, 10, 16, 17, 18, 82]) c119_25
abbrev c119_27 : AC := .seq (.ops 0 [⟨(some 84), .mv (.t 6), none⟩, ⟨(some 85), .ld (.t 10) 2 true, none⟩, ⟨(some 86), .bs 147 2 1 [.int .i64 0, .int .i64 0] [(0, (.t 85))], none⟩, ⟨(some 87), .app 147 2 16 (.t 84) (.t 86), none⟩, ⟨(some 6), .as 147 2 (.t 87), none⟩] [0, 1, 6, 7, 10, 16, 17, 18]) (.ops 0 [⟨(some 88), .mv (.t 1), none⟩, ⟨(some 89), .mv (.t 7), none⟩, ⟨(some 90), .ld (.t 10) 2 true, none⟩, ⟨(some 91), .cald (.t 88) [(.t 89), (.t 90)], none⟩] [0, 1, 6, 16, 17, 18])
abbrev c119_28 : AC := .seq c119_26 c119_27
abbrev c119_29 : AC := .seq (.ops 0 [⟨(some 76), .fa (.t 10) 1, none⟩, ⟨(some 77), .ld (.t 76) 1 false, none⟩, ⟨(some 78), .bin .add (.t 77) (.k (.lf (.int .i64 1))), none⟩, ⟨(some 79), .fa (.t 10) 1, none⟩, ⟨none, .st (.t 79) (.t 78) 1, none⟩] [0, 1, 6, 7, 10, 16, 17, 18]) c119_28
abbrev c119_30 : AC := .seq c119_23 c119_29
abbrev c119_31 : AC := .seq (.ops 0 [⟨(some 33), .mv (.t 7), none⟩, ⟨(some 34), .bd [.int .i64 0, .int .i64 0] [(0, 1, (.t 33))], none⟩, ⟨(some 10), .al [.int .i64 0, .int .i64 0], none⟩, ⟨none, .st (.t 10) (.t 34) 2, none⟩] [0, 1, 6, 7, 8, 9, 10, 16, 17, 18]) c119_30
abbrev c119_32 : AC := .seq c119_6 c119_31
abbrev c119_33 : AC := .seq c119_3 c119_32
abbrev c119_34 : AC := .seq (.ops 0 [⟨(some 23), .fa (.t 8) 0, none⟩, ⟨(some 24), .ld (.t 23) 1 false, none⟩, ⟨(some 25), .call 100 [(.t 24)], none⟩, ⟨(some 9), .as 0 0 (.t 25), none⟩] [0, 1, 6, 7, 8, 9, 16, 17, 18]) c119_33
abbrev c119_35 : AC := .seq (.ops 0 [⟨(some 20), .mv (.t 18), none⟩, ⟨(some 21), .ia (.t 16) (.t 18) 7, none⟩, ⟨(some 22), .ld (.t 21) 7 true, none⟩, ⟨(some 8), .al [.int .i64 0, .int .i64 0, .str ⟨#[]⟩, .int .u64 0, .int .u64 0, .int .u64 0, .int .u64 0], none⟩, ⟨(some 7), .as 0 0 (.t 20), none⟩, ⟨none, .st (.t 8) (.t 22) 7, none⟩] [0, 1, 6, 7, 8, 16, 17, 18]) c119_34
abbrev c119_36 : AC := .block 1 c119_35
abbrev c119_37 : AC := .seq c119_36 (.ops 0 [⟨(some 92), .bin .add (.t 18) (.k (.lf (.int .i64 1))), none⟩, ⟨(some 18), .mv (.t 92), none⟩] [0, 1, 6, 16, 17, 18])
abbrev c119_38 : AC := .seq c119_0 c119_37
abbrev c119_39 : AC := .seq (.ops 0 [⟨(some 19), .bin .lss (.t 18) (.t 17), none⟩] [0, 1, 6, 16, 17, 18, 19]) c119_38
abbrev c119_40 : AC := .loop c119_39 [0, 1, 6, 16, 17, 18]
abbrev c119_41 : AC := .block 0 c119_40
abbrev c119_42 : AC := .seq (.ops 0 [⟨(some 16), .mv (.t 0), none⟩, ⟨(some 17), .len (.t 16), none⟩, ⟨(some 18), .mv (.k (.lf (.int .i64 0))), none⟩] [0, 1, 6, 16, 17, 18]) c119_41
abbrev c119_43 : AC := .seq (.ops 0 [⟨(some 106), .mv (.t 0), none⟩, ⟨(some 107), .len (.t 106), none⟩, ⟨(some 4), .as 0 0 (.t 107), none⟩, ⟨(some 5), .as 0 0 (.k (.lf (.int .i64 42))), none⟩] [4, 5]) .ret
abbrev c119_44 : AC := .cond (.t 105) c119_43 .skip
abbrev c119_45 : AC := .seq (.ops 0 [⟨(some 93), .mv (.t 0), none⟩, ⟨(some 94), .len (.t 93), none⟩, ⟨(some 95), .bin .eql (.t 94) (.k (.lf (.int .i64 0))), none⟩, ⟨(some 96), .mv (.t 95), none⟩, ⟨(some 97), .mv (.t 6), (some (96, false))⟩, ⟨(some 98), .mv (.t 0), (some (96, false))⟩, ⟨(some 99), .len (.t 98), (some (96, false))⟩, ⟨(some 100), .bin .sub (.t 99) (.k (.lf (.int .i64 1))), (some (96, false))⟩, ⟨(some 101), .ia (.t 97) (.t 100) 2, (some (96, false))⟩, ⟨(some 102), .fa (.t 101) 0, (some (96, false))⟩, ⟨(some 103), .ld (.t 102) 1 false, (some (96, false))⟩, ⟨(some 104), .bin .neq (.t 103) (.k (.lf (.int .i64 0))), (some (96, false))⟩, ⟨(some 105), .pk (.t 96) (.k (.lf (.bool true))) (.t 104), none⟩] [0, 105]) c119_44
abbrev c119_46 : AC := .seq (.ops 0 [⟨(some 4), .as 0 0 (.k (.lf (.int .i64 0))), none⟩, ⟨(some 5), .as 0 0 (.k (.lf (.int .i64 0))), none⟩] [4, 5]) .ret
abbrev c119_47 : AC := .seq c119_45 c119_46
abbrev c119_48 : AC := .seq c119_42 c119_47
abbrev c119_49 : AC := .seq (.ops 0 [⟨(some 13), .mv (.t 0), none⟩, ⟨(some 14), .len (.t 13), none⟩, ⟨(some 15), .ms 147 2 16 [.int .i64 0, .int .i64 0] (.k (.lf (.int .i64 0))) (.t 14), none⟩, ⟨(some 6), .as 147 2 (.t 15), none⟩] [0, 1, 6]) c119_48
abbrev c119_50 : AC := .seq (.ops 0 [⟨(some 4), .as 0 0 (.k (.lf (.int .i64 0))), none⟩, ⟨(some 5), .as 0 0 (.k (.lf (.int .i64 0))), none⟩] [0, 1]) c119_49
abbrev c119 : AC := c119_50
theorem c119_ok : compileFn Tryd.prog 119 = some (108, AC.strip c119, [.t 4, .t 5]) := by kernel_rfl
/-- harrow/tree.Check$1 -/

abbrev c120 : AC := (.ops 0 [⟨(some 3), .bx (.t 1), none⟩] [])
theorem c120_ok : compileFn Tryd.prog 120 = some (4, AC.strip c120, []) := by kernel_rfl
/-- harrow/tree.isHead -/
abbrev c126_0 : AC := .seq (.ops 0 [⟨(some 3), .mv (.t 0), none⟩, ⟨(some 4), .bin .or (.t 3) (.k (.lf (.int .u8 32))), none⟩, ⟨(some 5), .bin .geq (.t 4) (.k (.lf (.int .u8 97))), none⟩, ⟨(some 6), .mv (.t 5), none⟩, ⟨(some 7), .mv (.t 0), (some (6, true))⟩, ⟨(some 8), .bin .or (.t 7) (.k (.lf (.int .u8 32))), (some (6, true))⟩, ⟨(some 9), .bin .leq (.t 8) (.k (.lf (.int .u8 122))), (some (6, true))⟩, ⟨(some 10), .pk (.t 6) (.t 9) (.k (.lf (.bool false))), none⟩, ⟨(some 11), .mv (.t 10), none⟩, ⟨(some 12), .mv (.t 0), (some (11, true))⟩, ⟨(some 13), .bin .lss (.t 12) (.k (.lf (.int .u8 128))), (some (11, true))⟩, ⟨(some 14), .pk (.t 11) (.t 13) (.k (.lf (.bool false))), none⟩, ⟨(some 15), .mv (.t 14), none⟩, ⟨(some 16), .mv (.t 0), (some (15, false))⟩, ⟨(some 17), .bin .eql (.t 16) (.k (.lf (.int .u8 95))), (some (15, false))⟩, ⟨(some 18), .pk (.t 15) (.k (.lf (.bool true))) (.t 17), none⟩, ⟨(some 2), .as 0 0 (.t 18), none⟩] [2]) .ret
abbrev c126_1 : AC := .seq (.ops 0 [⟨(some 2), .as 0 0 (.k (.lf (.bool false))), none⟩] [0]) c126_0
abbrev c126 : AC := c126_1
theorem c126_ok : compileFn Tryd.prog 126 = some (19, AC.strip c126, [.t 2]) := by kernel_rfl
/-- harrow/harrowref16.catches -/
abbrev c67_0 : AC := .cond (.t 6) (.ops 0 [⟨(some 3), .as 0 0 (.k (.lf (.int .i64 2))), none⟩] [1, 3]) .skip
abbrev c67_1 : AC := .seq (.ops 0 [⟨(some 4), .fa (.t 1) 0, none⟩, ⟨(some 5), .ld (.t 4) 1 false, none⟩, ⟨(some 6), .bin .eql (.t 5) (.k (.lf (.int .i64 18))), none⟩] [1, 3, 6]) c67_0
abbrev c67_2 : AC := .seq (.ops 0 [⟨(some 2), .as 0 0 (.k (.lf (.bool false))), none⟩] [2]) .ret
abbrev c67_3 : AC := .cond (.t 35) c67_2 .skip
abbrev c67_4 : AC := .seq (.ops 0 [⟨(some 7), .fa (.t 1) 2, none⟩, ⟨(some 8), .ld (.t 7) 1 false, none⟩, ⟨(some 9), .mv (.t 3), none⟩, ⟨(some 10), .bin .lss (.t 8) (.t 9), none⟩, ⟨(some 11), .mv (.t 10), none⟩, ⟨(some 12), .fa (.t 1) 2, (some (11, false))⟩, ⟨(some 13), .ld (.t 12) 1 false, (some (11, false))⟩, ⟨(some 14), .bin .gtr (.t 13) (.k (.lf (.int .i64 7))), (some (11, false))⟩, ⟨(some 15), .pk (.t 11) (.k (.lf (.bool true))) (.t 14), none⟩, ⟨(some 16), .mv (.t 15), none⟩, ⟨(some 17), .fa (.t 1) 3, (some (16, false))⟩, ⟨(some 18), .ld (.t 17) 1 false, (some (16, false))⟩, ⟨(some 19), .bin .lss (.t 18) (.k (.lf (.int .i64 0))), (some (16, false))⟩, ⟨(some 20), .pk (.t 16) (.k (.lf (.bool true))) (.t 19), none⟩, ⟨(some 21), .mv (.t 20), none⟩, ⟨(some 22), .fa (.t 1) 3, (some (21, false))⟩, ⟨(some 23), .ld (.t 22) 1 false, (some (21, false))⟩, ⟨(some 24), .bin .gtr (.t 23) (.k (.lf (.int .i64 50))), (some (21, false))⟩, ⟨(some 25), .pk (.t 21) (.k (.lf (.bool true))) (.t 24), none⟩, ⟨(some 26), .mv (.t 25), none⟩, ⟨(some 27), .fa (.t 1) 2, (some (26, false))⟩, ⟨(some 28), .ld (.t 27) 1 false, (some (26, false))⟩, ⟨(some 29), .bin .neq (.t 28) (.k (.lf (.int .i64 7))), (some (26, false))⟩, ⟨(some 30), .mv (.t 29), (some (26, false))⟩, ⟨(some 31), .fa (.t 1) 3, (some (30, true))⟩, ⟨(some 32), .ld (.t 31) 1 false, (some (30, true))⟩, ⟨(some 33), .bin .neq (.t 32) (.k (.lf (.int .i64 0))), (some (30, true))⟩, ⟨(some 34), .pk (.t 30) (.t 33) (.k (.lf (.bool false))), (some (26, false))⟩, ⟨(some 35), .pk (.t 26) (.k (.lf (.bool true))) (.t 34), none⟩] [1, 35]) c67_3
abbrev c67_5 : AC := .seq (.ops 0 [⟨(some 40), .fa (.t 1) 4, none⟩, ⟨(some 41), .ld (.t 40) 1 false, none⟩, ⟨(some 42), .bin .eql (.t 41) (.k (.lf (.str ⟨#[]⟩))), none⟩, ⟨(some 43), .mv (.t 42), none⟩, ⟨(some 44), .fa (.t 1) 4, (some (43, false))⟩, ⟨(some 45), .ld (.t 44) 1 false, (some (43, false))⟩, ⟨(some 46), .call 81 [(.t 45)], (some (43, false))⟩, ⟨(some 47), .pk (.t 43) (.k (.lf (.bool true))) (.t 46), none⟩, ⟨(some 2), .as 0 0 (.t 47), none⟩] [2]) .ret
abbrev c67_6 : AC := .seq (.ops 0 [⟨(some 50), .fa (.t 1) 4, none⟩, ⟨(some 51), .ld (.t 50) 1 false, none⟩, ⟨(some 52), .call 82 [(.t 51)], none⟩, ⟨(some 2), .as 0 0 (.t 52), none⟩] [2]) .ret
abbrev c67_7 : AC := .cond (.t 48) c67_6 .skip
abbrev c67_8 : AC := .seq (.ops 0 [⟨(some 49), .bin .eql (.t 37) (.k (.lf (.int .i64 6))), none⟩, ⟨(some 48), .as 0 0 (.t 49), none⟩] [1, 48]) c67_7
abbrev c67_9 : AC := .cond (.t 38) c67_5 c67_8
abbrev c67_10 : AC := .seq (.ops 0 [⟨(some 39), .bin .eql (.t 37) (.k (.lf (.int .i64 3))), none⟩, ⟨(some 38), .as 0 0 (.t 39), none⟩] [1, 37, 38]) c67_9
abbrev c67_11 : AC := .block 0 c67_10
abbrev c67_12 : AC := .seq (.ops 0 [⟨(some 36), .fa (.t 1) 2, none⟩, ⟨(some 37), .ld (.t 36) 1 false, none⟩] [1, 37]) c67_11
abbrev c67_13 : AC := .seq (.ops 0 [⟨(some 53), .fa (.t 1) 4, none⟩, ⟨(some 54), .ld (.t 53) 1 false, none⟩, ⟨(some 55), .bin .eql (.t 54) (.k (.lf (.str ⟨#[]⟩))), none⟩, ⟨(some 2), .as 0 0 (.t 55), none⟩] [2]) .ret
abbrev c67_14 : AC := .seq c67_12 c67_13
abbrev c67_15 : AC := .seq c67_4 c67_14
abbrev c67_16 : AC := .seq c67_1 c67_15
abbrev c67_17 : AC := .seq (.ops 0 [⟨(some 3), .as 0 0 (.k (.lf (.int .i64 1))), none⟩] [1, 3]) c67_16
abbrev c67_18 : AC := .seq (.ops 0 [⟨(some 1), .bx (.t 0), none⟩, ⟨(some 2), .as 0 0 (.k (.lf (.bool false))), none⟩] [1]) c67_17
abbrev c67 : AC := c67_18
theorem c67_ok : compileFn Tryd.prog 67 = some (56, AC.strip c67, [.t 2]) := by kernel_rfl
/-- harrow/harrowref04.Name -/
abbrev c81_0 : AC := .seq (.ops 0 [⟨(some 2), .as 0 0 (.k (.lf (.bool false))), none⟩] [2]) .ret
abbrev c81_1 : AC := .cond (.t 22) c81_0 .skip
abbrev c81_2 : AC := .seq (.ops 0 [⟨(some 5), .mv (.t 0), none⟩, ⟨(some 6), .lns (.t 5), none⟩, ⟨(some 7), .bin .lss (.t 6) (.k (.lf (.int .i64 1))), none⟩, ⟨(some 8), .mv (.t 7), none⟩, ⟨(some 9), .mv (.t 0), (some (8, false))⟩, ⟨(some 10), .lns (.t 9), (some (8, false))⟩, ⟨(some 11), .bin .gtr (.t 10) (.k (.lf (.int .i64 32))), (some (8, false))⟩, ⟨(some 12), .pk (.t 8) (.k (.lf (.bool true))) (.t 11), none⟩, ⟨(some 13), .mv (.t 12), none⟩, ⟨(some 14), .mv (.t 0), (some (13, false))⟩, ⟨(some 15), .ixs (.t 14) (.k (.lf (.int .i64 0))), (some (13, false))⟩, ⟨(some 16), .bin .geq (.t 15) (.k (.lf (.int .u8 48))), (some (13, false))⟩, ⟨(some 17), .mv (.t 16), (some (13, false))⟩, ⟨(some 18), .mv (.t 0), (some (17, true))⟩, ⟨(some 19), .ixs (.t 18) (.k (.lf (.int .i64 0))), (some (17, true))⟩, ⟨(some 20), .bin .leq (.t 19) (.k (.lf (.int .u8 57))), (some (17, true))⟩, ⟨(some 21), .pk (.t 17) (.t 20) (.k (.lf (.bool false))), (some (13, false))⟩, ⟨(some 22), .pk (.t 13) (.k (.lf (.bool true))) (.t 21), none⟩] [0, 22]) c81_1
abbrev c81_3 : AC := .cond (.t 26) .skip (.exit 0)
abbrev c81_4 : AC := .seq (.ops 0 [⟨(some 23), .mv (.t 3), none⟩, ⟨(some 24), .mv (.t 0), none⟩, ⟨(some 25), .lns (.t 24), none⟩, ⟨(some 26), .bin .lss (.t 23) (.t 25), none⟩] [0, 3, 26]) c81_3
abbrev c81_5 : AC := .seq (.ops 0 [⟨(some 2), .as 0 0 (.k (.lf (.bool false))), none⟩] [2]) .ret
abbrev c81_6 : AC := .cond (.t 58) c81_5 .skip
abbrev c81_7 : AC := .seq (.ops 0 [⟨(some 32), .mv (.t 4), none⟩, ⟨(some 33), .bin .geq (.t 32) (.k (.lf (.int .u8 97))), none⟩, ⟨(some 34), .mv (.t 33), none⟩, ⟨(some 35), .mv (.t 4), (some (34, true))⟩, ⟨(some 36), .bin .leq (.t 35) (.k (.lf (.int .u8 122))), (some (34, true))⟩, ⟨(some 37), .pk (.t 34) (.t 36) (.k (.lf (.bool false))), none⟩, ⟨(some 38), .mv (.t 37), none⟩, ⟨(some 39), .mv (.t 4), (some (38, false))⟩, ⟨(some 40), .bin .geq (.t 39) (.k (.lf (.int .u8 65))), (some (38, false))⟩, ⟨(some 41), .mv (.t 40), (some (38, false))⟩, ⟨(some 42), .mv (.t 4), (some (41, true))⟩, ⟨(some 43), .bin .leq (.t 42) (.k (.lf (.int .u8 90))), (some (41, true))⟩, ⟨(some 44), .pk (.t 41) (.t 43) (.k (.lf (.bool false))), (some (38, false))⟩, ⟨(some 45), .pk (.t 38) (.k (.lf (.bool true))) (.t 44), none⟩, ⟨(some 46), .mv (.t 45), none⟩, ⟨(some 47), .mv (.t 4), (some (46, false))⟩, ⟨(some 48), .bin .geq (.t 47) (.k (.lf (.int .u8 48))), (some (46, false))⟩, ⟨(some 49), .mv (.t 48), (some (46, false))⟩, ⟨(some 50), .mv (.t 4), (some (49, true))⟩, ⟨(some 51), .bin .leq (.t 50) (.k (.lf (.int .u8 57))), (some (49, true))⟩, ⟨(some 52), .pk (.t 49) (.t 51) (.k (.lf (.bool false))), (some (46, false))⟩, ⟨(some 53), .pk (.t 46) (.k (.lf (.bool true))) (.t 52), none⟩, ⟨(some 54), .mv (.t 53), none⟩, ⟨(some 55), .mv (.t 4), (some (54, false))⟩, ⟨(some 56), .bin .eql (.t 55) (.k (.lf (.int .u8 95))), (some (54, false))⟩, ⟨(some 57), .pk (.t 54) (.k (.lf (.bool true))) (.t 56), none⟩, ⟨(some 58), .un .not (.t 57), none⟩] [0, 3, 58]) c81_6
abbrev c81_8 : AC := .seq (.ops 0 [⟨(some 29), .mv (.t 0), none⟩, ⟨(some 30), .mv (.t 3), none⟩, ⟨(some 31), .ixs (.t 29) (.t 30), none⟩, ⟨(some 4), .as 0 0 (.t 31), none⟩] [0, 3, 4]) c81_7
abbrev c81_9 : AC := .block 1 c81_8
abbrev c81_10 : AC := .seq c81_9 (.ops 0 [⟨(some 27), .mv (.t 3), none⟩, ⟨(some 28), .bin .add (.t 27) (.k (.lf (.int .i64 1))), none⟩, ⟨(some 3), .as 0 0 (.t 28), none⟩] [0, 3])
abbrev c81_11 : AC := .seq c81_4 c81_10
abbrev c81_12 : AC := .loop c81_11 [0, 3]
abbrev c81_13 : AC := .block 0 c81_12
abbrev c81_14 : AC := .seq (.ops 0 [⟨(some 3), .as 0 0 (.k (.lf (.int .i64 0))), none⟩] [0, 3]) c81_13
abbrev c81_15 : AC := .seq (.ops 0 [⟨(some 2), .as 0 0 (.k (.lf (.bool true))), none⟩] [2]) .ret
abbrev c81_16 : AC := .seq c81_14 c81_15
abbrev c81_17 : AC := .seq c81_2 c81_16
abbrev c81_18 : AC := .seq (.ops 0 [⟨(some 2), .as 0 0 (.k (.lf (.bool false))), none⟩] [0]) c81_17
abbrev c81 : AC := c81_18
theorem c81_ok : compileFn Tryd.prog 81 = some (59, AC.strip c81, [.t 2]) := by kernel_rfl
/-- harrow/harrowref04.Template -/
abbrev c82_0 : AC := .seq (.ops 0 [⟨(some 2), .as 0 0 (.k (.lf (.bool false))), none⟩] [2]) .ret
abbrev c82_1 : AC := .cond (.t 6) c82_0 .skip
abbrev c82_2 : AC := .seq (.ops 0 [⟨(some 4), .mv (.t 0), none⟩, ⟨(some 5), .lns (.t 4), none⟩, ⟨(some 6), .bin .gtr (.t 5) (.k (.lf (.int .i64 255))), none⟩] [0, 6]) c82_1
abbrev c82_3 : AC := .cond (.t 10) .skip (.exit 0)
abbrev c82_4 : AC := .seq (.ops 0 [⟨(some 7), .mv (.t 3), none⟩, ⟨(some 8), .mv (.t 0), none⟩, ⟨(some 9), .lns (.t 8), none⟩, ⟨(some 10), .bin .lss (.t 7) (.t 9), none⟩] [0, 3, 10]) c82_3
abbrev c82_5 : AC := .cond (.t 16) (.exit 1) .skip
abbrev c82_6 : AC := .seq (.ops 0 [⟨(some 13), .mv (.t 0), none⟩, ⟨(some 14), .mv (.t 3), none⟩, ⟨(some 15), .ixs (.t 13) (.t 14), none⟩, ⟨(some 16), .bin .neq (.t 15) (.k (.lf (.int .u8 37))), none⟩] [0, 3, 16]) c82_5
abbrev c82_7 : AC := .seq (.ops 0 [⟨(some 2), .as 0 0 (.k (.lf (.bool false))), none⟩] [2]) .ret
abbrev c82_8 : AC := .cond (.t 40) c82_7 .skip
abbrev c82_9 : AC := .seq (.ops 0 [⟨(some 19), .mv (.t 3), none⟩, ⟨(some 20), .mv (.t 0), none⟩, ⟨(some 21), .lns (.t 20), none⟩, ⟨(some 22), .bin .eql (.t 19) (.t 21), none⟩, ⟨(some 23), .mv (.t 22), none⟩, ⟨(some 24), .mv (.t 0), (some (23, false))⟩, ⟨(some 25), .mv (.t 3), (some (23, false))⟩, ⟨(some 26), .ixs (.t 24) (.t 25), (some (23, false))⟩, ⟨(some 27), .bin .neq (.t 26) (.k (.lf (.int .u8 37))), (some (23, false))⟩, ⟨(some 28), .mv (.t 27), (some (23, false))⟩, ⟨(some 29), .mv (.t 0), (some (28, true))⟩, ⟨(some 30), .mv (.t 3), (some (28, true))⟩, ⟨(some 31), .ixs (.t 29) (.t 30), (some (28, true))⟩, ⟨(some 32), .bin .lss (.t 31) (.k (.lf (.int .u8 48))), (some (28, true))⟩, ⟨(some 33), .mv (.t 32), (some (28, true))⟩, ⟨(some 34), .mv (.t 0), (some (33, false))⟩, ⟨(some 35), .mv (.t 3), (some (33, false))⟩, ⟨(some 36), .ixs (.t 34) (.t 35), (some (33, false))⟩, ⟨(some 37), .bin .gtr (.t 36) (.k (.lf (.int .u8 57))), (some (33, false))⟩, ⟨(some 38), .pk (.t 33) (.k (.lf (.bool true))) (.t 37), (some (28, true))⟩, ⟨(some 39), .pk (.t 28) (.t 38) (.k (.lf (.bool false))), (some (23, false))⟩, ⟨(some 40), .pk (.t 23) (.k (.lf (.bool true))) (.t 39), none⟩] [0, 3, 40]) c82_8
abbrev c82_10 : AC := .seq (.ops 0 [⟨(some 17), .mv (.t 3), none⟩, ⟨(some 18), .bin .add (.t 17) (.k (.lf (.int .i64 1))), none⟩, ⟨(some 3), .as 0 0 (.t 18), none⟩] [0, 3]) c82_9
abbrev c82_11 : AC := .seq c82_6 c82_10
abbrev c82_12 : AC := .block 1 c82_11
abbrev c82_13 : AC := .seq c82_12 (.ops 0 [⟨(some 11), .mv (.t 3), none⟩, ⟨(some 12), .bin .add (.t 11) (.k (.lf (.int .i64 1))), none⟩, ⟨(some 3), .as 0 0 (.t 12), none⟩] [0, 3])
abbrev c82_14 : AC := .seq c82_4 c82_13
abbrev c82_15 : AC := .loop c82_14 [0, 3]
abbrev c82_16 : AC := .block 0 c82_15
abbrev c82_17 : AC := .seq (.ops 0 [⟨(some 3), .as 0 0 (.k (.lf (.int .i64 0))), none⟩] [0, 3]) c82_16
abbrev c82_18 : AC := .seq (.ops 0 [⟨(some 2), .as 0 0 (.k (.lf (.bool true))), none⟩] [2]) .ret
abbrev c82_19 : AC := .seq c82_17 c82_18
abbrev c82_20 : AC := .seq c82_2 c82_19
abbrev c82_21 : AC := .seq (.ops 0 [⟨(some 2), .as 0 0 (.k (.lf (.bool false))), none⟩] [0]) c82_20
abbrev c82 : AC := c82_21
theorem c82_ok : compileFn Tryd.prog 82 = some (41, AC.strip c82, [.t 2]) := by kernel_rfl
end Go.Proofs.YthcpaohmajjopaaDoor.I
set_option linter.unusedVariables false
set_option linter.unusedSimpArgs false
namespace Go.Proofs.YthcpaohmajjopaaDoor.I
open Go Go.Proofs.YthcpaohmajjopaaDoor.AM
variable {X : Cx}
abbrev headP (c : Int) : Prop := (65 ≤ c ∧ c ≤ 90) ∨ (97 ≤ c ∧ c ≤ 122) ∨ c = 95
abbrev wordP (c : Int) : Prop := headP c ∨ (48 ≤ c ∧ c ≤ 57)
abbrev nameP (s : ByteArray) : Prop := 1 ≤ s.size ∧ s.size ≤ 32 ∧ headP (byteAt s 0) ∧ ∀ i, i < s.size → wordP (byteAt s (i : Int))
theorem or32 : ∀ n : Fin 256, (((97 ≤ bits .or .u8 (n.val : Int) 32 ∧ bits .or .u8 (n.val : Int) 32 ≤ 122 ∧ (n.val : Int) < 128) ∨ (n.val : Int) = 95) ↔ headP (n.val : Int)) := by decide +kernel
theorem or32' {c : Int} (h0 : 0 ≤ c) (h1 : c ≤ 255) : ((97 ≤ bits .or .u8 c 32 ∧ bits .or .u8 c 32 ≤ 122 ∧ c < 128) ∨ c = 95) ↔ headP c := by
  have h := or32 ⟨c.toNat, by omega⟩
  have e : ((c.toNat : Nat) : Int) = c := by omega
  simp only [e] at h
  exact h
theorem r126 (c : Int) (h0 : 0 ≤ c) (h1 : c ≤ 255) : R X Tryd.prog 126 [.lf (.int .u8 c)] [] (.lf (.bool (decide (headP c)))) [] := by
  refine R_i [] [] c126_ok rfl (by simp) ?_
  have h := or32' h0 h1
  simp -implicitDefEqProofs (maxSteps := 2000000) only [c126, ↓reduceIte, s_ret, s_ops0, s_seq, s_opsK, s_seqK_n, s_nil, s_cons, s_guard, s_wopsK, s_putK, s_grd, q_mv, q_bin, o_mv, o_as, o_pk, v_pk, o_bin, v_or, v_eql, v_lss, v_leq, v_geq, e_t, e_k, e_put, e_get, e_res, e_keep_n, e_keep_c, e_keep1_s, e_asg_b, St.init, enum, List.length_nil, Option.getD_some, Nat.reduceEqDiff, reduceCtorEq, true_and, and_true, cond_false, Bool.not_true, Bool.not_false, Bool.true_eq_false, Bool.false_eq_true, decide_eq_true_eq, decide_eq_false_iff_not, s_ret_r, s_retX, s_cells_n, t_lf, t_b, r_n, r_t, r_cons, one_1, Bool.and_true, Bool.true_and, ite_not]
  generalize bits BinOp.or IntKind.u8 c 32 = y at *
  generalize hp : decide (headP c) = r
  have e1 : ((97 ≤ y ∧ y ≤ 122 ∧ c < 128) ∨ c = 95) → true = r := fun q => by rw [← hp, decide_eq_true (h.1 q)]
  have e2 : ¬ ((97 ≤ y ∧ y ≤ 122 ∧ c < 128) ∨ c = 95) → false = r := fun q => by rw [← hp, decide_eq_false (fun z => q (h.2 z))]
  have e3 : ¬ (97 ≤ y ∧ y ≤ 122 ∧ c < 128) → decide (c = 95) = r := fun q => by
    by_cases hc : c = 95
    · rw [decide_eq_true hc]; exact e1 (.inr hc)
    · rw [decide_eq_false hc]; exact e2 (fun z => z.elim q hc)
  iterate 3 (all_goals try (with_reducible refine ite_pr (fun _ => ?_) (fun _ => ?_)))
  · exact e1 (by omega)
  all_goals exact e3 (by omega)
theorem r117 (s : ByteArray) : R X Tryd.prog 117 [.lf (.str s)] [] (.lf (.bool (decide (nameP s)))) [] := by
  refine R_i [] [] c117_ok rfl (by simp) ?_
  generalize hr : decide (nameP s) = r
  have no : ¬ nameP s → false = r := fun h => by rw [← hr, decide_eq_false h]
  have yes : nameP s → true = r := fun h => by rw [← hr, decide_eq_true h]
  have key : ∀ (n i : Nat), n + i = s.size → s.size ≤ 32 → (∀ j, j < i → wordP (byteAt s (j : Int))) → 1 ≤ s.size → headP (byteAt s 0) → LoopAt X Tryd.prog c117_11 [0, 18, 19] (blkK 0 (seqK X Tryd.prog c117_15 (retS [] [] 0 [RV.t 2] (PV.lf (L.bool r)) [])))
      { m := 0, tm := [(0, PV.lf (L.str s)), (18, PV.lf (L.int IntKind.i64 s.size)), (19, PV.lf (L.int IntKind.i64 i))], ce := [] } := by
    intro n
    induction n with
    | zero =>
      intro i hn h32 hall h1 hh Z hZ
      apply hZ
      simp -implicitDefEqProofs (maxSteps := 2000000) only [c117, ↓reduceIte, s_skip, s_exit, s_ret, s_ops0, s_seq, s_cond, s_block, s_opsK, s_seqK_n, s_seqK_e, s_blkK_e, s_loopK_e, s_cnd, s_nil, s_cons, s_wopsK, s_putK, o_mv, o_as, o_bin, v_lss, o_ixs, v_ixs, o_call, e_t, e_k, e_put, e_get, e_res, e_keep_n, e_keep_c, e_keep1_s, e_asg_b, e_asg_i, Option.getD_some, Nat.reduceEqDiff, reduceCtorEq, true_and, and_true, decide_eq_true_eq, s_ret_r, s_retX, s_cells_n, t_lf, t_b, r_n, r_t, r_cons, one_1, List.map_cons, List.map_nil, PV.leaves, List.flatMap_cons, List.flatMap_nil, List.append_nil, Bool.and_true, Bool.true_and, rl_i, m_lf]
      with_reducible refine ite_pr (fun _ => ?_) (fun _ => ?_)
      · omega
      · exact yes ⟨h1, h32, hh, fun j hj => hall j (by omega)⟩
    | succ n ih =>
      intro i hn h32 hall h1 hh Z hZ
      apply hZ
      have w3 : IntKind.i64.wrap ((i : Int) + 1) = ((i + 1 : Nat) : Int) := by rw [w64 (by omega) (by omega)]; omega
      simp -implicitDefEqProofs (maxSteps := 2000000) only [c117, w3, ↓reduceIte, s_skip, s_exit, s_ret, s_ops0, s_seq, s_cond, s_block, s_opsK, s_seqK_n, s_seqK_e, s_blkK_e, s_loopK_e, s_cnd, s_nil, s_cons, s_wopsK, s_putK, o_mv, o_as, o_bin, v_lss, o_ixs, v_ixs, o_call, e_t, e_k, e_put, e_get, e_res, e_keep_n, e_keep_c, e_keep1_s, e_asg_b, e_asg_i, Option.getD_some, Nat.reduceEqDiff, reduceCtorEq, true_and, and_true, decide_eq_true_eq, s_ret_r, s_retX, s_cells_n, t_lf, t_b, r_n, r_t, r_cons, one_1, List.map_cons, List.map_nil, PV.leaves, List.flatMap_cons, List.flatMap_nil, List.append_nil, Bool.and_true, Bool.true_and, rl_i, m_lf]
      with_reducible refine ite_pr (fun _ => ?_) (fun _ => ?_)
      rotate_left
      · omega
      refine ⟨⟨by omega, by omega⟩, ?_⟩
      refine wcall_s (r126 _ (byteAt_0 s i) (byteAt_1 s i)) rfl rfl ?_
      simp -implicitDefEqProofs (maxSteps := 2000000) only [c117, w3, ↓reduceIte, s_skip, s_ret, s_ops0, s_seq, s_cond, s_opsK, s_seqK_n, s_seqK_r, s_blkK_n, s_blkK_r, s_loopK_n, s_loopK_r, s_cnd, s_nil, s_cons, s_guard, s_wopsK, s_putK, s_grd, s_grd_no, q_mv, q_pk, q_bin, q_ixs, o_mv, o_as, o_pk, v_pk, o_bin, v_add, v_lss, v_gtr, o_un, v_not, o_ixs, v_ixs, e_t, e_k, e_put, e_get, e_res, e_keep_n, e_keep_c, e_keep1_s, e_asg_b, Option.getD_some, Nat.reduceEqDiff, reduceCtorEq, true_and, and_true, cond_false, Bool.not_true, Bool.not_false, Bool.true_eq_false, Bool.false_eq_true, decide_eq_true_eq, decide_eq_false_iff_not, s_ret_r, s_retX, s_cells_n, t_lf, t_b, r_n, r_t, r_cons, one_1, St.clr, outV, ownsV, owns1, ownL, List.append_nil, Bool.and_true, Bool.true_and, ol_b, m_lf, e_head, e_headK, kC_n, pO_n, pO_i, pO_s, List.range_zero, ite_not, Bool.not_eq_eq_eq_not]
      have bad : ¬ wordP (byteAt s (i : Int)) → false = r := fun h => no (fun q => h (q.2.2.2 i (by omega)))
      have nx := fun h : wordP (byteAt s (i : Int)) => ih (i + 1) (by omega) h32 (fun j hj => by
        rcases Nat.lt_succ_iff_lt_or_eq.1 hj with h | rfl
        · exact hall j h
        · assumption) h1 hh Z hZ
      generalize byteAt s (i : Int) = y at *
      with_reducible refine ite_pr (fun h => ?_) (fun h => ?_)
      · exact nx (.inl h)
      refine ⟨⟨by omega, by omega⟩, ?_⟩
      with_reducible refine ite_pr (fun h2 => ?_) (fun h2 => ?_)
      · exact bad (by omega)
      refine ⟨⟨by omega, by omega⟩, ?_⟩
      with_reducible refine ite_pr (fun h2 => ?_) (fun h2 => ?_)
      · exact bad (by omega)
      · exact nx (by omega)
  simp -implicitDefEqProofs (maxSteps := 2000000) only [c117, ↓reduceIte, s_ret, s_ops0, s_seq, s_cond, s_opsK, s_seqK_n, s_seqK_r, s_cnd, s_nil, s_cons, s_guard, s_wopsK, s_putK, s_grd, q_call, q_mv, q_bin, q_ixs, q_lns, o_mv, o_as, o_pk, v_pk, o_bin, v_gtr, v_seql, o_ixs, v_ixs, o_lns, v_lns, o_call, e_t, e_k, e_put, e_get, e_res, e_keep_n, e_keep_c, e_keep1_s, e_asg_b, St.init, enum, List.length_nil, Option.getD_some, Nat.reduceEqDiff, reduceCtorEq, true_and, and_true, cond_false, Bool.not_false, Bool.true_eq_false, Bool.false_eq_true, decide_eq_false_iff_not, s_ret_r, s_retX, s_cells_n, t_lf, t_b, r_n, r_t, r_cons, one_1, List.map_cons, List.map_nil, PV.leaves, List.flatMap_cons, List.flatMap_nil, List.append_nil, Bool.and_true, Bool.true_and, rl_i, m_lf, ite_not]
  with_reducible refine ite_pr (fun h => ?_) (fun h => ?_)
  · exact no (fun q => absurd q.1 (by rw [h]; decide))
  have hz : 1 ≤ s.size := by
    rcases Nat.eq_zero_or_pos s.size with h0 | h0
    · refine absurd ?_ h
      have : s.data = #[] := Array.eq_empty_of_size_eq_zero h0
      cases s; simp_all
    · exact h0
  with_reducible refine ite_pr (fun h2 => ?_) (fun h2 => ?_)
  · exact no (fun q => by have := q.2.1; omega)
  refine ⟨⟨by omega, by omega⟩, ?_⟩
  refine wcall_s (r126 _ (byteAt_0 s 0) (byteAt_1 s 0)) rfl rfl ?_
  simp -implicitDefEqProofs (maxSteps := 2000000) only [c117, ↓reduceIte, s_skip, s_ret, s_ops0, s_seq, s_cond, s_block, s_loop, s_opsK, s_seqK_n, s_seqK_r, s_cnd, s_nil, s_cons, s_guard, s_wopsK, s_putK, s_grd, q_un, o_mv, o_as, o_pk, v_pk, o_un, v_not, o_lns, v_lns, e_t, e_k, e_put, e_get, e_res, e_keep_n, e_keep_c, e_keep1_s, e_asg_b, Option.getD_some, Nat.reduceEqDiff, reduceCtorEq, true_and, and_true, cond_false, Bool.not_true, Bool.false_eq_true, decide_eq_false_iff_not, s_ret_r, s_retX, s_cells_n, t_lf, t_b, r_n, r_t, r_cons, one_1, St.clr, outV, ownsV, owns1, ownL, List.append_nil, Bool.and_true, Bool.true_and, ol_b, m_lf, e_head, e_headK, kC_n, pO_n, pO_i, pO_s, List.range_zero, ite_not, Bool.not_eq_eq_eq_not]
  with_reducible refine ite_pr (fun h3 => ?_) (fun h3 => ?_)
  · exact key s.size 0 rfl (by omega) (fun j hj => by omega) (by omega) h3
  · exact no (fun q => h3 q.2.2.1)
theorem r81 (s : ByteArray) : R X Tryd.prog 81 [.lf (.str s)] [] (.lf (.bool (decide (nameP s)))) [] := by
  refine R_i [] [] c81_ok rfl (by simp) ?_
  generalize hr : decide (nameP s) = r
  have no : ¬ nameP s → false = r := fun h => by rw [← hr, decide_eq_false h]
  have yes : nameP s → true = r := fun h => by rw [← hr, decide_eq_true h]
  have key : ∀ (n i : Nat), n + i = s.size → s.size ≤ 32 → (∀ j, j < i → wordP (byteAt s (j : Int))) → 1 ≤ s.size → ¬ (48 ≤ byteAt s 0 ∧ byteAt s 0 ≤ 57) → LoopAt X Tryd.prog c81_11 [0, 3] (blkK 0 (seqK X Tryd.prog c81_15 (retS [] [] 0 [RV.t 2] (PV.lf (L.bool r)) [])))
      { m := 0, tm := [(0, PV.lf (L.str s)), (3, PV.lf (L.int IntKind.i64 i))], ce := [] } := by
    intro n
    induction n with
    | zero =>
      intro i hn h32 hall h1 hh Z hZ
      apply hZ
      simp -implicitDefEqProofs (maxSteps := 2000000) only [c81, ↓reduceIte, s_skip, s_exit, s_ret, s_ops0, s_seq, s_cond, s_block, s_opsK, s_seqK_n, s_seqK_e, s_seqK_r, s_blkK_n, s_blkK_e, s_blkK_r, s_loopK_n, s_loopK_e, s_loopK_r, s_cnd, s_nil, s_cons, s_guard, s_wopsK, s_putK, s_grd, s_grd_no, q_mv, q_pk, q_bin, o_mv, o_as, o_pk, v_pk, o_bin, v_add, v_eql, v_lss, v_leq, v_geq, o_un, v_not, o_ixs, v_ixs, o_lns, v_lns, e_t, e_k, e_put, e_get, e_res, e_keep_n, e_keep_c, e_keep1_s, e_asg_b, e_asg_i, Option.getD_some, Nat.reduceEqDiff, reduceCtorEq, true_and, and_true, cond_false, Bool.not_true, Bool.not_false, Bool.true_eq_false, Bool.false_eq_true, decide_eq_true_eq, decide_eq_false_iff_not, s_ret_r, s_retX, s_cells_n, t_lf, t_b, r_n, r_t, r_cons, one_1, List.append_nil, Bool.and_true, Bool.true_and, e_head, e_headK, kC_n, pO_n, pO_i, pO_s, List.range_zero, ite_not, Bool.not_eq_eq_eq_not]
      with_reducible refine ite_pr (fun _ => ?_) (fun _ => ?_)
      · omega
      · refine yes ⟨h1, h32, ?_, fun j hj => hall j (by omega)⟩
        have := hall 0 (by omega)
        simp only [Int.natCast_zero] at this
        rcases this with h | h
        · exact h
        · exact absurd h hh
    | succ n ih =>
      intro i hn h32 hall h1 hh Z hZ
      apply hZ
      have w3 : IntKind.i64.wrap ((i : Int) + 1) = ((i + 1 : Nat) : Int) := by rw [w64 (by omega) (by omega)]; omega
      have bad : ¬ wordP (byteAt s (i : Int)) → false = r := fun h => no (fun q => h (q.2.2.2 i (by omega)))
      have nx := fun h : wordP (byteAt s (i : Int)) => ih (i + 1) (by omega) h32 (fun j hj => by
        rcases Nat.lt_succ_iff_lt_or_eq.1 hj with h | rfl
        · exact hall j h
        · assumption) h1 hh Z hZ
      simp -implicitDefEqProofs (maxSteps := 2000000) only [c81, w3, ↓reduceIte, s_skip, s_exit, s_ret, s_ops0, s_seq, s_cond, s_block, s_opsK, s_seqK_n, s_seqK_e, s_seqK_r, s_blkK_n, s_blkK_e, s_blkK_r, s_loopK_n, s_loopK_e, s_loopK_r, s_cnd, s_nil, s_cons, s_guard, s_wopsK, s_putK, s_grd, s_grd_no, q_mv, q_pk, q_bin, o_mv, o_as, o_pk, v_pk, o_bin, v_add, v_eql, v_lss, v_leq, v_geq, o_un, v_not, o_ixs, v_ixs, o_lns, v_lns, e_t, e_k, e_put, e_get, e_res, e_keep_n, e_keep_c, e_keep1_s, e_asg_b, e_asg_i, Option.getD_some, Nat.reduceEqDiff, reduceCtorEq, true_and, and_true, cond_false, Bool.not_true, Bool.not_false, Bool.true_eq_false, Bool.false_eq_true, decide_eq_true_eq, decide_eq_false_iff_not, s_ret_r, s_retX, s_cells_n, t_lf, t_b, r_n, r_t, r_cons, one_1, List.append_nil, Bool.and_true, Bool.true_and, e_head, e_headK, kC_n, pO_n, pO_i, pO_s, List.range_zero, ite_not, Bool.not_eq_eq_eq_not]
      generalize byteAt s (i : Int) = y at *
      with_reducible refine ite_pr (fun h => ?_) (fun h => ?_)
      rotate_left
      · omega
      refine ⟨⟨by omega, by omega⟩, ?_⟩
      iterate 9
        all_goals try (with_reducible refine ite_pr (fun _ => ?_) (fun _ => ?_))
        all_goals try (with_reducible refine And.intro (And.intro (by omega) (by omega)) ?_)
      all_goals try omega
      all_goals first
        | exact nx (by omega)
        | exact bad (by omega)
        | trace_state
  simp -implicitDefEqProofs (maxSteps := 2000000) only [c81, ↓reduceIte, s_skip, s_ret, s_ops0, s_seq, s_cond, s_block, s_loop, s_opsK, s_seqK_n, s_seqK_r, s_cnd, s_nil, s_cons, s_guard, s_wopsK, s_putK, s_grd, s_grd_no, q_mv, q_pk, q_bin, q_ixs, q_lns, o_mv, o_as, o_pk, v_pk, o_bin, v_lss, v_leq, v_gtr, v_geq, o_ixs, v_ixs, o_lns, v_lns, e_t, e_k, e_put, e_get, e_res, e_keep_n, e_keep_c, e_keep1_s, e_asg_b, e_asg_i, St.init, enum, List.length_nil, Option.getD_some, Nat.reduceEqDiff, reduceCtorEq, true_and, and_true, cond_false, Bool.not_true, Bool.not_false, Bool.true_eq_false, Bool.false_eq_true, decide_eq_true_eq, decide_eq_false_iff_not, s_ret_r, s_retX, s_cells_n, t_lf, t_b, r_n, r_t, r_cons, one_1, List.append_nil, Bool.and_true, Bool.true_and, e_head, e_headK, kC_n, pO_n, pO_i, pO_s, List.range_zero, ite_not]
  with_reducible refine ite_pr (fun h => ?_) (fun h => ?_)
  · exact no (fun q => by have := q.1; omega)
  with_reducible refine ite_pr (fun h2 => ?_) (fun h2 => ?_)
  · exact no (fun q => by have := q.2.1; omega)
  refine ⟨⟨by omega, by omega⟩, ?_⟩
  with_reducible refine ite_pr (fun h3 => ?_) (fun h3 => ?_)
  · refine ⟨⟨by omega, by omega⟩, ?_⟩
    with_reducible refine ite_pr (fun h4 => ?_) (fun h4 => ?_)
    · exact no (fun q => by have := q.2.2.1; omega)
    · exact key s.size 0 rfl (by omega) (fun j hj => by omega) (by omega) (by omega)
  · exact key s.size 0 rfl (by omega) (fun j hj => by omega) (by omega) (by omega)
end Go.Proofs.YthcpaohmajjopaaDoor.I
set_option linter.unusedVariables false
set_option linter.unusedSimpArgs false
namespace Go.Proofs.YthcpaohmajjopaaDoor.I
open Go Go.Proofs.YthcpaohmajjopaaDoor.AM
variable {X : Cx}
def tmB : List UInt8 → Bool
  | [] => true
  | c :: r => if c.toNat = 37 then match r with
      | [] => false
      | d :: r' => if d.toNat = 37 ∨ (48 ≤ d.toNat ∧ d.toNat ≤ 57) then tmB r' else false
    else tmB r
theorem drop_byte {s : ByteArray} {i : Nat} {c : UInt8} {r : List UInt8} (h : s.data.toList.drop i = c :: r) : i < s.size ∧ byteAt s (i : Int) = (c.toNat : Int) ∧ s.data.toList.drop (i + 1) = r := by
  have hl : s.data.toList.length = s.size := size_len s
  have h1 : i < s.data.toList.length := by
    have := congrArg List.length h
    simp at this; simp; omega
  refine ⟨by omega, ?_, ?_⟩
  · have := congrArg (fun l => l[0]?) h
    simp only [List.getElem?_drop, Nat.add_zero, List.getElem?_cons_zero] at this
    unfold byteAt
    rw [Int.toNat_natCast, List.getD_eq_getElem?_getD, this]; rfl
  · rw [← List.drop_drop, h]; rfl
def tempB (s : ByteArray) : Bool := decide (s.size ≤ 255) && tmB s.data.toList
theorem r118 (s : ByteArray) : R X Tryd.prog 118 [.lf (.str s)] [] (.lf (.bool (tempB s))) [] := by
  refine R_i [] [] c118_ok rfl (by simp) ?_
  generalize hr : tempB s = r
  have key : ∀ (n i : Nat) (q : List UInt8), s.data.toList.drop i = q → q.length ≤ n → s.size ≤ 255 → tmB q = r → LoopAt X Tryd.prog c118_14 [0, 3] (blkK 0 (seqK X Tryd.prog c118_18 (retS [] [] 0 [RV.t 2] (PV.lf (L.bool r)) [])))
      { m := 0, tm := [(0, PV.lf (L.str s)), (3, PV.lf (L.int IntKind.i64 i))], ce := [] } := by
    intro n
    induction n with
    | zero =>
      intro i q hq hn h255 hr Z hZ
      obtain rfl : q = [] := List.eq_nil_of_length_eq_zero (by omega)
      have hi : s.size ≤ i := by
        have := congrArg List.length hq
        simp at this; omega
      apply hZ
      simp -implicitDefEqProofs (maxSteps := 2000000) only [c118, ↓reduceIte, s_skip, s_exit, s_ret, s_ops0, s_seq, s_cond, s_block, s_opsK, s_seqK_n, s_seqK_e, s_seqK_r, s_blkK_n, s_blkK_e, s_blkK_r, s_loopK_n, s_loopK_e, s_loopK_r, s_cnd, s_nil, s_cons, s_guard, s_wopsK, s_putK, s_grd, s_grd_no, q_mv, q_pk, q_bin, q_ixs, o_mv, o_as, o_pk, v_pk, o_bin, v_add, v_eql, v_neq, v_lss, v_gtr, o_ixs, v_ixs, o_lns, v_lns, e_t, e_k, e_put, e_get, e_res, e_keep_n, e_keep_c, e_keep1_s, e_asg_b, e_asg_i, Option.getD_some, Nat.reduceEqDiff, reduceCtorEq, true_and, and_true, cond_false, Bool.not_true, Bool.not_false, Bool.true_eq_false, Bool.false_eq_true, decide_eq_true_eq, decide_eq_false_iff_not, s_ret_r, s_retX, s_cells_n, t_lf, t_b, r_n, r_t, r_cons, one_1, List.append_nil, Bool.and_true, Bool.true_and, e_head, e_headK, kC_n, pO_n, pO_i, pO_s, List.range_zero, ne_eq, ite_not]
      with_reducible refine ite_pr (fun _ => ?_) (fun _ => ?_)
      · omega
      · exact hr
    | succ n ih =>
      intro i q hq hn h255 hr Z hZ
      apply hZ
      cases q with
      | nil =>
        have hi : s.size ≤ i := by
          have := congrArg List.length hq
          simp at this; omega
        simp -implicitDefEqProofs (maxSteps := 2000000) only [c118, ↓reduceIte, s_skip, s_exit, s_ret, s_ops0, s_seq, s_cond, s_block, s_opsK, s_seqK_n, s_seqK_e, s_seqK_r, s_blkK_n, s_blkK_e, s_blkK_r, s_loopK_n, s_loopK_e, s_loopK_r, s_cnd, s_nil, s_cons, s_guard, s_wopsK, s_putK, s_grd, s_grd_no, q_mv, q_pk, q_bin, q_ixs, o_mv, o_as, o_pk, v_pk, o_bin, v_add, v_eql, v_neq, v_lss, v_gtr, o_ixs, v_ixs, o_lns, v_lns, e_t, e_k, e_put, e_get, e_res, e_keep_n, e_keep_c, e_keep1_s, e_asg_b, e_asg_i, Option.getD_some, Nat.reduceEqDiff, reduceCtorEq, true_and, and_true, cond_false, Bool.not_true, Bool.not_false, Bool.true_eq_false, Bool.false_eq_true, decide_eq_true_eq, decide_eq_false_iff_not, s_ret_r, s_retX, s_cells_n, t_lf, t_b, r_n, r_t, r_cons, one_1, List.append_nil, Bool.and_true, Bool.true_and, e_head, e_headK, kC_n, pO_n, pO_i, pO_s, List.range_zero, ne_eq, ite_not]
        with_reducible refine ite_pr (fun _ => ?_) (fun _ => ?_)
        · omega
        · exact hr
      | cons c q =>
        obtain ⟨hi, hb, hq⟩ := drop_byte hq
        simp only [List.length_cons] at hn
        have w1 : IntKind.i64.wrap ((i : Int) + 1) = ((i + 1 : Nat) : Int) := by rw [w64 (by omega) (by omega)]; omega
        have w2 : IntKind.i64.wrap (((i + 1 : Nat) : Int) + 1) = ((i + 2 : Nat) : Int) := by rw [w64 (by omega) (by omega)]; omega
        simp -implicitDefEqProofs (maxSteps := 2000000) only [c118, w1, w2, ↓reduceIte, s_skip, s_exit, s_ret, s_ops0, s_seq, s_cond, s_block, s_opsK, s_seqK_n, s_seqK_e, s_seqK_r, s_blkK_n, s_blkK_e, s_blkK_r, s_loopK_n, s_loopK_e, s_loopK_r, s_cnd, s_nil, s_cons, s_guard, s_wopsK, s_putK, s_grd, s_grd_no, q_mv, q_pk, q_bin, q_ixs, o_mv, o_as, o_pk, v_pk, o_bin, v_add, v_eql, v_neq, v_lss, v_gtr, o_ixs, v_ixs, o_lns, v_lns, e_t, e_k, e_put, e_get, e_res, e_keep_n, e_keep_c, e_keep1_s, e_asg_b, e_asg_i, Option.getD_some, Nat.reduceEqDiff, reduceCtorEq, true_and, and_true, cond_false, Bool.not_true, Bool.not_false, Bool.true_eq_false, Bool.false_eq_true, decide_eq_true_eq, decide_eq_false_iff_not, s_ret_r, s_retX, s_cells_n, t_lf, t_b, r_n, r_t, r_cons, one_1, List.append_nil, Bool.and_true, Bool.true_and, e_head, e_headK, kC_n, pO_n, pO_i, pO_s, List.range_zero, ne_eq, ite_not]
        with_reducible refine ite_pr (fun _ => ?_) (fun _ => ?_)
        rotate_left
        · omega
        refine ⟨⟨by omega, by omega⟩, ?_⟩
        have hsz : s.data.toList.length = s.size := size_len s
        with_reducible refine ite_pr (fun h37 => ?_) (fun h37 => ?_)
        · have hc : c.toNat = 37 := by omega
          cases q with
          | nil =>
            have he : s.size = i + 1 := by
              have := congrArg List.length hq
              rw [List.length_drop, hsz] at this
              simp at this; omega
            simp only [tmB, hc, if_true] at hr
            with_reducible refine ite_pr (fun _ => ?_) (fun _ => ?_)
            · exact hr
            · omega
          | cons d q =>
            obtain ⟨hi2, hb2, hq2⟩ := drop_byte hq
            simp only [tmB, hc, if_true] at hr
            simp only [List.length_cons] at hn
            have nx := fun h : d.toNat = 37 ∨ (48 ≤ d.toNat ∧ d.toNat ≤ 57) => ih (i + 2) q hq2 (by omega) h255 (by rw [if_pos h] at hr; exact hr) Z hZ
            have bad : ¬ (d.toNat = 37 ∨ (48 ≤ d.toNat ∧ d.toNat ≤ 57)) → false = r := fun h => by rw [if_neg h] at hr; exact hr
            rw [hb2]
            with_reducible refine ite_pr (fun _ => ?_) (fun _ => ?_)
            · omega
            refine ⟨⟨by omega, by omega⟩, ?_⟩
            with_reducible refine ite_pr (fun _ => ?_) (fun _ => ?_)
            · exact nx (by omega)
            refine ⟨⟨by omega, by omega⟩, ?_⟩
            with_reducible refine ite_pr (fun _ => ?_) (fun _ => ?_)
            · exact bad (by omega)
            refine ⟨⟨by omega, by omega⟩, ?_⟩
            with_reducible refine ite_pr (fun _ => ?_) (fun _ => ?_)
            · exact bad (by omega)
            · exact nx (by omega)
        · have hc : ¬ c.toNat = 37 := by omega
          refine ih (i + 1) q hq (by omega) h255 ?_ Z hZ
          rw [tmB.eq_def] at hr
          simp only [hc, if_false] at hr
          exact hr
  simp -implicitDefEqProofs (maxSteps := 2000000) only [c118, ↓reduceIte, s_skip, s_ret, s_ops0, s_seq, s_cond, s_block, s_loop, s_opsK, s_seqK_n, s_seqK_r, s_cnd, s_nil, s_cons, s_wopsK, s_putK, o_mv, o_as, o_bin, v_gtr, o_lns, v_lns, e_t, e_k, e_put, e_get, e_res, e_keep_n, e_keep_c, e_keep1_s, e_asg_b, e_asg_i, St.init, enum, List.length_nil, Option.getD_some, reduceCtorEq, true_and, and_true, decide_eq_true_eq, s_ret_r, s_retX, s_cells_n, t_lf, t_b, r_n, r_t, r_cons, one_1, List.append_nil, Bool.and_true, Bool.true_and, e_head, e_headK, kC_n, pO_n, pO_i, pO_s, List.range_zero]
  with_reducible refine ite_pr (fun h => ?_) (fun h => ?_)
  · rw [← hr, tempB, decide_eq_false (by omega)]; rfl
  · refine key s.data.toList.length 0 _ rfl (Nat.le_refl _) (by omega) ?_
    rw [← hr, tempB, decide_eq_true (by omega)]; rfl
theorem r82 (s : ByteArray) : R X Tryd.prog 82 [.lf (.str s)] [] (.lf (.bool (tempB s))) [] := by
  refine R_i [] [] c82_ok rfl (by simp) ?_
  generalize hr : tempB s = r
  have key : ∀ (n i : Nat) (q : List UInt8), s.data.toList.drop i = q → q.length ≤ n → s.size ≤ 255 → tmB q = r → LoopAt X Tryd.prog c82_14 [0, 3] (blkK 0 (seqK X Tryd.prog c82_18 (retS [] [] 0 [RV.t 2] (PV.lf (L.bool r)) [])))
      { m := 0, tm := [(0, PV.lf (L.str s)), (3, PV.lf (L.int IntKind.i64 i))], ce := [] } := by
    intro n
    induction n with
    | zero =>
      intro i q hq hn h255 hr Z hZ
      obtain rfl : q = [] := List.eq_nil_of_length_eq_zero (by omega)
      have hi : s.size ≤ i := by
        have := congrArg List.length hq
        simp at this; omega
      apply hZ
      simp -implicitDefEqProofs (maxSteps := 2000000) only [c82, ↓reduceIte, s_skip, s_exit, s_ret, s_ops0, s_seq, s_cond, s_block, s_opsK, s_seqK_n, s_seqK_e, s_seqK_r, s_blkK_n, s_blkK_e, s_blkK_r, s_loopK_n, s_loopK_e, s_loopK_r, s_cnd, s_nil, s_cons, s_guard, s_wopsK, s_putK, s_grd, s_grd_no, q_mv, q_pk, q_bin, q_ixs, o_mv, o_as, o_pk, v_pk, o_bin, v_add, v_eql, v_neq, v_lss, v_gtr, o_ixs, v_ixs, o_lns, v_lns, e_t, e_k, e_put, e_get, e_res, e_keep_n, e_keep_c, e_keep1_s, e_asg_b, e_asg_i, Option.getD_some, Nat.reduceEqDiff, reduceCtorEq, true_and, and_true, cond_false, Bool.not_true, Bool.not_false, Bool.true_eq_false, Bool.false_eq_true, decide_eq_true_eq, decide_eq_false_iff_not, s_ret_r, s_retX, s_cells_n, t_lf, t_b, r_n, r_t, r_cons, one_1, List.append_nil, Bool.and_true, Bool.true_and, e_head, e_headK, kC_n, pO_n, pO_i, pO_s, List.range_zero, ne_eq, ite_not]
      with_reducible refine ite_pr (fun _ => ?_) (fun _ => ?_)
      · omega
      · exact hr
    | succ n ih =>
      intro i q hq hn h255 hr Z hZ
      apply hZ
      cases q with
      | nil =>
        have hi : s.size ≤ i := by
          have := congrArg List.length hq
          simp at this; omega
        simp -implicitDefEqProofs (maxSteps := 2000000) only [c82, ↓reduceIte, s_skip, s_exit, s_ret, s_ops0, s_seq, s_cond, s_block, s_opsK, s_seqK_n, s_seqK_e, s_seqK_r, s_blkK_n, s_blkK_e, s_blkK_r, s_loopK_n, s_loopK_e, s_loopK_r, s_cnd, s_nil, s_cons, s_guard, s_wopsK, s_putK, s_grd, s_grd_no, q_mv, q_pk, q_bin, q_ixs, o_mv, o_as, o_pk, v_pk, o_bin, v_add, v_eql, v_neq, v_lss, v_gtr, o_ixs, v_ixs, o_lns, v_lns, e_t, e_k, e_put, e_get, e_res, e_keep_n, e_keep_c, e_keep1_s, e_asg_b, e_asg_i, Option.getD_some, Nat.reduceEqDiff, reduceCtorEq, true_and, and_true, cond_false, Bool.not_true, Bool.not_false, Bool.true_eq_false, Bool.false_eq_true, decide_eq_true_eq, decide_eq_false_iff_not, s_ret_r, s_retX, s_cells_n, t_lf, t_b, r_n, r_t, r_cons, one_1, List.append_nil, Bool.and_true, Bool.true_and, e_head, e_headK, kC_n, pO_n, pO_i, pO_s, List.range_zero, ne_eq, ite_not]
        with_reducible refine ite_pr (fun _ => ?_) (fun _ => ?_)
        · omega
        · exact hr
      | cons c q =>
        obtain ⟨hi, hb, hq⟩ := drop_byte hq
        simp only [List.length_cons] at hn
        have w1 : IntKind.i64.wrap ((i : Int) + 1) = ((i + 1 : Nat) : Int) := by rw [w64 (by omega) (by omega)]; omega
        have w2 : IntKind.i64.wrap (((i + 1 : Nat) : Int) + 1) = ((i + 2 : Nat) : Int) := by rw [w64 (by omega) (by omega)]; omega
        simp -implicitDefEqProofs (maxSteps := 2000000) only [c82, w1, w2, ↓reduceIte, s_skip, s_exit, s_ret, s_ops0, s_seq, s_cond, s_block, s_opsK, s_seqK_n, s_seqK_e, s_seqK_r, s_blkK_n, s_blkK_e, s_blkK_r, s_loopK_n, s_loopK_e, s_loopK_r, s_cnd, s_nil, s_cons, s_guard, s_wopsK, s_putK, s_grd, s_grd_no, q_mv, q_pk, q_bin, q_ixs, o_mv, o_as, o_pk, v_pk, o_bin, v_add, v_eql, v_neq, v_lss, v_gtr, o_ixs, v_ixs, o_lns, v_lns, e_t, e_k, e_put, e_get, e_res, e_keep_n, e_keep_c, e_keep1_s, e_asg_b, e_asg_i, Option.getD_some, Nat.reduceEqDiff, reduceCtorEq, true_and, and_true, cond_false, Bool.not_true, Bool.not_false, Bool.true_eq_false, Bool.false_eq_true, decide_eq_true_eq, decide_eq_false_iff_not, s_ret_r, s_retX, s_cells_n, t_lf, t_b, r_n, r_t, r_cons, one_1, List.append_nil, Bool.and_true, Bool.true_and, e_head, e_headK, kC_n, pO_n, pO_i, pO_s, List.range_zero, ne_eq, ite_not]
        with_reducible refine ite_pr (fun _ => ?_) (fun _ => ?_)
        rotate_left
        · omega
        refine ⟨⟨by omega, by omega⟩, ?_⟩
        have hsz : s.data.toList.length = s.size := size_len s
        with_reducible refine ite_pr (fun h37 => ?_) (fun h37 => ?_)
        · have hc : c.toNat = 37 := by omega
          cases q with
          | nil =>
            have he : s.size = i + 1 := by
              have := congrArg List.length hq
              rw [List.length_drop, hsz] at this
              simp at this; omega
            simp only [tmB, hc, if_true] at hr
            with_reducible refine ite_pr (fun _ => ?_) (fun _ => ?_)
            · exact hr
            · omega
          | cons d q =>
            obtain ⟨hi2, hb2, hq2⟩ := drop_byte hq
            simp only [tmB, hc, if_true] at hr
            simp only [List.length_cons] at hn
            have nx := fun h : d.toNat = 37 ∨ (48 ≤ d.toNat ∧ d.toNat ≤ 57) => ih (i + 2) q hq2 (by omega) h255 (by rw [if_pos h] at hr; exact hr) Z hZ
            have bad : ¬ (d.toNat = 37 ∨ (48 ≤ d.toNat ∧ d.toNat ≤ 57)) → false = r := fun h => by rw [if_neg h] at hr; exact hr
            rw [hb2]
            with_reducible refine ite_pr (fun _ => ?_) (fun _ => ?_)
            · omega
            refine ⟨⟨by omega, by omega⟩, ?_⟩
            with_reducible refine ite_pr (fun _ => ?_) (fun _ => ?_)
            · exact nx (by omega)
            refine ⟨⟨by omega, by omega⟩, ?_⟩
            with_reducible refine ite_pr (fun _ => ?_) (fun _ => ?_)
            · exact bad (by omega)
            refine ⟨⟨by omega, by omega⟩, ?_⟩
            with_reducible refine ite_pr (fun _ => ?_) (fun _ => ?_)
            · exact bad (by omega)
            · exact nx (by omega)
        · have hc : ¬ c.toNat = 37 := by omega
          refine ih (i + 1) q hq (by omega) h255 ?_ Z hZ
          rw [tmB.eq_def] at hr
          simp only [hc, if_false] at hr
          exact hr
  simp -implicitDefEqProofs (maxSteps := 2000000) only [c82, ↓reduceIte, s_skip, s_ret, s_ops0, s_seq, s_cond, s_block, s_loop, s_opsK, s_seqK_n, s_seqK_r, s_cnd, s_nil, s_cons, s_wopsK, s_putK, o_mv, o_as, o_bin, v_gtr, o_lns, v_lns, e_t, e_k, e_put, e_get, e_res, e_keep_n, e_keep_c, e_keep1_s, e_asg_b, e_asg_i, St.init, enum, List.length_nil, Option.getD_some, reduceCtorEq, true_and, and_true, decide_eq_true_eq, s_ret_r, s_retX, s_cells_n, t_lf, t_b, r_n, r_t, r_cons, one_1, List.append_nil, Bool.and_true, Bool.true_and, e_head, e_headK, kC_n, pO_n, pO_i, pO_s, List.range_zero]
  with_reducible refine ite_pr (fun h => ?_) (fun h => ?_)
  · rw [← hr, tempB, decide_eq_false (by omega)]; rfl
  · refine key s.data.toList.length 0 _ rfl (Nat.le_refl _) (by omega) ?_
    rw [← hr, tempB, decide_eq_true (by omega)]; rfl
end Go.Proofs.YthcpaohmajjopaaDoor.I
set_option linter.unusedVariables false
set_option linter.unusedSimpArgs false
namespace Go.Proofs.YthcpaohmajjopaaDoor.I
open Go Go.Proofs.YthcpaohmajjopaaDoor.AM
variable {X : Cx}
theorem r116 (op : Int) : R X Tryd.prog 116 [.lf (.int .i64 op)] [] (.lf (.bool (decide ((14 ≤ op ∧ op ≤ 16) ∨ op = 23)))) [] := by
  refine R_i [] [] c116_ok rfl (by simp) ?_
  simp -implicitDefEqProofs (maxSteps := 2000000) only [c116, ↓reduceIte, s_ret, s_ops0, s_seq, s_opsK, s_seqK_n, s_nil, s_cons, s_guard, s_wopsK, s_putK, s_grd, q_mv, q_bin, o_mv, o_as, o_pk, v_pk, o_bin, v_eql, v_leq, v_geq, e_t, e_k, e_put, e_get, e_res, e_keep_n, e_keep_c, e_keep1_s, e_asg_b, St.init, enum, List.length_nil, Option.getD_some, Nat.reduceEqDiff, reduceCtorEq, true_and, and_true, cond_false, Bool.not_true, Bool.not_false, Bool.true_eq_false, Bool.false_eq_true, decide_eq_true_eq, decide_eq_false_iff_not, s_ret_r, s_retX, s_cells_n, t_lf, t_b, r_n, r_t, r_cons, one_1, Bool.and_true, Bool.true_and, ite_not]
  iterate 2 (all_goals try (with_reducible refine ite_pr (fun _ => ?_) (fun _ => ?_)))
  all_goals first
    | (rw [decide_eq_decide]; omega)
    | (symm; rw [decide_eq_true_eq]; omega)
theorem r100 (op : Int) (h : 18 ≤ op ∧ op ≤ 23) : R X Tryd.prog 100 [.lf (.int .i64 op)] [] (.lf (.int .i64 1)) [] := by
  refine R_i [] [] c100_ok rfl (by simp) ?_
  simp -implicitDefEqProofs (maxSteps := 2000000) only [c100, ↓reduceIte, s_skip, s_ret, s_ops0, s_seq, s_cond, s_block, s_opsK, s_seqK_n, s_seqK_r, s_blkK_n, s_blkK_r, s_cnd, s_nil, s_cons, s_guard, s_wopsK, s_putK, s_grd, q_mv, q_bin, o_mv, o_as, o_pk, v_pk, o_bin, v_eql, v_leq, v_gtr, v_geq, e_t, e_k, e_put, e_get, e_res, e_keep_n, e_keep_c, e_keep1_s, e_asg_b, e_asg_i, St.init, enum, List.length_nil, Option.getD_some, Nat.reduceEqDiff, reduceCtorEq, true_and, and_true, cond_false, Bool.not_true, Bool.not_false, Bool.true_eq_false, Bool.false_eq_true, decide_eq_true_eq, decide_eq_false_iff_not, s_ret_r, s_retX, s_cells_n, t_lf, t_i, r_n, r_t, r_cons, one_1, Bool.and_true, Bool.true_and, Int.reduceNeg, ite_not]
  (repeat' split) <;> first | trivial | omega
theorem r100' : R X Tryd.prog 100 [.lf (.int .i64 3)] [] (.lf (.int .i64 0)) [] := by
  refine R_i [] [] c100_ok rfl (by simp) ?_
  simp -implicitDefEqProofs (maxSteps := 2000000) only [c100, ↓reduceIte, s_skip, s_ret, s_ops0, s_seq, s_cond, s_block, s_opsK, s_seqK_n, s_seqK_r, s_blkK_n, s_blkK_r, s_cnd, s_nil, s_cons, s_guard, s_wopsK, s_putK, s_grd, q_mv, q_bin, o_mv, o_as, o_pk, v_pk, o_bin, v_eql, v_leq, v_gtr, v_geq, e_t, e_k, e_put, e_get, e_res, e_keep_n, e_keep_c, e_keep1_s, e_asg_b, e_asg_i, St.init, enum, List.length_nil, Option.getD_some, Nat.reduceEqDiff, reduceCtorEq, true_and, and_true, cond_false, Bool.not_true, Bool.not_false, Bool.true_eq_false, Bool.false_eq_true, decide_eq_true_eq, decide_eq_false_iff_not, s_ret_r, s_retX, s_cells_n, t_lf, t_i, r_n, r_t, r_cons, one_1, Bool.and_true, Bool.true_and, Int.reduceNeg, ite_not]
  decide
def fldB (op n : Int) (t : ByteArray) : Bool := decide (0 ≤ n ∧ n ≤ 50 ∧ (n = 0 ∨ op = 23)) && (if op = 19 then decide (t = ⟨#[]⟩) || decide (nameP t) else if op = 22 then tempB t else decide (t = ⟨#[]⟩))
theorem r101 (op n : Int) (t : ByteArray) (ho : op = 3 ∨ (18 ≤ op ∧ op ≤ 23)) : R X Tryd.prog 101 [.ag [.int .i64 op, .int .i64 n, .str t, .int .u64 0, .int .u64 0, .int .u64 0, .int .u64 0]] [] (.lf (.bool (fldB op n t))) [] := by
  refine R_i [] [] c101_ok rfl (by simp) ?_
  have he : eqLs [.int .u64 0, .int .u64 0, .int .u64 0, .int .u64 0] [.int .u64 0, .int .u64 0, .int .u64 0, .int .u64 0] = some true := rfl
  have hb := fun neg ks K => v_beq (neg := neg) (ks := ks) (K := K) he
  generalize hr : fldB op n t = r
  have no : ¬ (0 ≤ n ∧ n ≤ 50 ∧ (n = 0 ∨ op = 23)) → false = r := fun h => by rw [← hr, fldB, decide_eq_false h]; rfl
  have yes : (0 ≤ n ∧ n ≤ 50 ∧ (n = 0 ∨ op = 23)) → (if op = 19 then decide (t = ⟨#[]⟩) || decide (nameP t) else if op = 22 then tempB t else decide (t = ⟨#[]⟩)) = r := fun h => by rw [← hr, fldB, decide_eq_true h]; rfl
  clear hr
  simp -implicitDefEqProofs (maxSteps := 2000000) only [c101, hb, ↓reduceIte, s_skip, s_ret, s_ops0, s_seq, s_cond, s_block, s_opsK, s_seqK_n, s_seqK_r, s_blkK_n, s_blkK_r, s_cnd, s_nil, s_cons, s_guard, s_wopsK, s_putK, s_grd, s_grd_no, q_call, q_mv, q_pk, q_bin, q_beq, q_fa, q_ld, q_bd, q_lns, o_mv, o_as, o_pk, v_pk, o_bin, v_eql, v_neq, v_lss, v_leq, v_gtr, v_seql, v_sneq, o_beq, v_part_t, v_part_f, v_atK, o_bx, o_fa, v_fa_p, o_ld, v_ld_p, v_ldC, o_bd, v_agK, v_bd_n, o_lns, v_lns, o_call, e_t, e_k, e_put, e_get, e_res, e_keep_n, e_keep_c, e_keep1_s, e_asg_b, St.init, enum, List.length_nil, List.length_cons, Option.getD_some, Nat.reduceEqDiff, Nat.reduceAdd, true_and, and_true, cond_false, Bool.not_true, Bool.not_false, Bool.true_eq_false, Bool.false_eq_true, decide_eq_true_eq, decide_eq_false_iff_not, s_ret_r, s_retX, s_cells_n, t_lf, t_b, r_n, r_t, r_cons, one_1, List.map_cons, List.map_nil, PV.leaves, List.flatMap_cons, List.flatMap_nil, List.append_nil, Bool.and_true, Bool.true_and, Nat.zero_le, Nat.le_refl, List.drop_zero, List.take_succ_cons, List.drop_succ_cons, List.take_nil, List.getElem?_cons_zero, List.getElem?_cons_succ, kc_i, kc_s, rl_i, rl_s, m_lf, m_ag, m_n, m_c, m_all, d_n, ne_eq, Nat.zero_add, Nat.add_zero, kd_i, ite_not, v_bx_a]
  clear hb he
  iterate 4 (all_goals try (with_reducible refine ite_pr (fun _ => ?_) (fun _ => ?_)); all_goals try omega)
  all_goals try exact no (by omega)
  all_goals try (refine wcall_s (r116 op) rfl rfl ?_; simp -implicitDefEqProofs (maxSteps := 2000000) only [c101, ↓reduceIte, s_skip, s_ret, s_ops0, s_seq, s_cond, s_block, s_opsK, s_seqK_n, s_seqK_r, s_blkK_n, s_blkK_r, s_cnd, s_nil, s_cons, s_guard, s_wopsK, s_putK, s_grd, q_call, q_pk, q_bin, q_un, q_fa, q_ld, q_lns, o_mv, o_as, o_pk, v_pk, o_bin, v_eql, v_leq, v_seql, v_sneq, o_un, v_not, v_part_f, v_atK, o_fa, v_fa_p, o_ld, v_ld_p, v_ldC, o_lns, v_lns, o_call, e_t, e_k, e_put, e_get, e_res, e_keep_n, e_keep_c, e_keep1_s, e_asg_b, Option.getD_some, Nat.reduceEqDiff, true_and, and_true, cond_false, Bool.not_true, Bool.not_false, Bool.true_eq_false, Bool.false_eq_true, decide_eq_true_eq, decide_eq_false_iff_not, s_ret_r, s_retX, s_cells_n, t_lf, t_b, r_n, r_t, r_cons, one_1, St.clr, outV, ownsV, owns1, ownL, List.map_cons, List.map_nil, PV.leaves, List.flatMap_cons, List.flatMap_nil, List.append_nil, Bool.and_true, Bool.true_and, List.getElem?_cons_zero, List.getElem?_cons_succ, rl_s, ol_b, m_lf, ne_eq, Nat.zero_add, Nat.add_zero, ite_not, Bool.not_eq_eq_eq_not])
  iterate 6 (all_goals try (with_reducible refine ite_pr (fun _ => ?_) (fun _ => ?_)); all_goals try omega)
  all_goals try exact no (by omega)
  all_goals (have y := yes (by omega); clear yes no ho)
  all_goals try (refine wcall_s (r117 t) rfl rfl ?_; simp -implicitDefEqProofs (maxSteps := 2000000) only [c101, ↓reduceIte, s_ret, s_opsK, s_seqK_n, s_seqK_r, s_blkK_r, s_nil, s_cons, s_wopsK, s_putK, o_as, o_pk, v_pk, e_t, e_k, e_put, e_get, e_res, e_keep_n, e_keep_c, e_keep1_s, e_asg_b, Option.getD_some, Nat.reduceEqDiff, true_and, and_true, Bool.false_eq_true, s_ret_r, s_retX, s_cells_n, t_lf, t_b, r_n, r_t, r_cons, one_1, St.clr, outV, ownsV, owns1, ownL, Bool.and_true, Bool.true_and, ol_b, m_lf])
  all_goals try (refine wcall_s (r118 t) rfl rfl ?_; simp -implicitDefEqProofs (maxSteps := 2000000) only [c101, ↓reduceIte, s_ret, s_opsK, s_seqK_n, s_seqK_r, s_blkK_r, s_nil, s_cons, s_wopsK, o_as, e_t, e_put, e_get, e_res, e_keep_n, e_keep_c, e_keep1_s, e_asg_b, Option.getD_some, true_and, and_true, Bool.false_eq_true, s_ret_r, s_retX, s_cells_n, t_lf, t_b, r_n, r_t, r_cons, one_1, St.clr, outV, ownsV, owns1, ownL, Bool.and_true, Bool.true_and, ol_b, m_lf])
  all_goals simp_all
end Go.Proofs.YthcpaohmajjopaaDoor.I
set_option linter.unusedVariables false
set_option linter.unusedSimpArgs false
namespace Go.Proofs.YthcpaohmajjopaaDoor.I
open Go Go.Proofs.YthcpaohmajjopaaDoor.AM
variable {X : Cx}
theorem v_ms {σ : St} {t e n bytes : Nat} {zero : List L} {k k' : IntKind} {l c : Int} {K : St → Prop} : msK σ t e n bytes zero (.lf (.int k l)) (.lf (.int k' c)) K =
    (zero.length = n ∧ (0 ≤ l ∧ l ≤ c ∧ c * bytes ≤ 140737488355328 ∧ c ≤ 9223372036854775807) ∧ K ((σ.mapAll (killP (plT t 0))).put (some t) (.lf (.lst (.own (plT t 0) e) n (List.replicate l.toNat zero) (List.replicate (c - l).toNat zero))))) := rfl
theorem rep0 {z : List L} : List.replicate (0 : Int).toNat z = [] := rfl
theorem rep1 {z : List L} : List.replicate (((1 : Nat) : Int) - 0).toNat z = [z] := rfl
theorem rep2 {z : List L} : List.replicate (((2 : Nat) : Int) - 0).toNat z = [z, z] := rfl
abbrev nodeL (op n : Int) (t : ByteArray) : List L := [.int .i64 op, .int .i64 n, .str t, .int .u64 0, .int .u64 0, .int .u64 0, .int .u64 0]
theorem f3 : fldB 3 0 ⟨#[]⟩ = true := by decide +kernel
theorem r120 (a b c : Int) : R X Tryd.prog 120 [.lf (.int .i64 a), .ag [.int .i64 b, .int .i64 c]] [] (.tp []) [] := by
  refine R_i [] [] c120_ok rfl (by simp) ?_
  simp -implicitDefEqProofs (maxSteps := 2000000) only [c120, ↓reduceIte, s_ops0, s_opsK, s_nil, s_cons, s_wopsK, o_bx, e_t, e_get, e_res, e_keep_n, St.init, enum, List.length_nil, Option.getD_some, reduceCtorEq, and_true, s_ret_n, s_retX, s_cells_n, t_tp, t_n, r_n, List.map_cons, List.map_nil, Bool.and_true, Nat.zero_le, kc_i, m_lf, m_ag, m_n, m_c, m_all, d_n, Nat.zero_add, one_0, v_bx_a]
  trace_state
theorem wr0 : IntKind.i64.wrap 0 = 0 := by decide
theorem wr1 : IntKind.i64.wrap 1 = 1 := by decide
theorem wr2 : IntKind.i64.wrap 2 = 2 := by decide
theorem r119a (sp : List (List L)) : R X Tryd.prog 119 [.lf (.lst .ro 7 [nodeL 3 0 ⟨#[]⟩] sp), .lf (.fn 120 [] [])] [] (.tp [.lf (.int .i64 0), .lf (.int .i64 0)]) [] := by
  refine R_i [] [] c119_ok rfl (by simp) ?_
  have c1 : ((1 : Nat) : Int) = 1 := rfl
  have c2 : ((2 : Nat) : Int) = 2 := rfl
  have h101 := r101 (X := X) 3 0 ⟨#[]⟩ (by omega)
  rw [f3] at h101
  simp only [nodeL]
  simp -implicitDefEqProofs (maxSteps := 2000000) only [c119, v_ms, rep0, rep1, rep2, c1, c2, wr0, wr1, wr2, v_ld_e, Int.reduceToNat, List.getD_cons_zero, List.getD_cons_succ, Int.reduceLT, Int.reduceLE, Int.reduceAdd, Int.reduceSub, Nat.reduceLT, Int.reduceEq, decide_true, decide_false, ↓reduceIte, s_ops0, s_seq, s_block, s_loop, s_opsK, s_seqK_n, s_nil, s_cons, s_wopsK, s_putK, o_mv, o_as, o_ms, o_len, v_len, e_t, e_k, e_put, e_get, e_res, e_keep_n, e_keep_c, e_keep1_s, e_asg_i, St.init, enum, List.length_nil, List.length_cons, Option.getD_some, Nat.reduceEqDiff, Nat.reduceAdd, reduceCtorEq, true_and, and_true, Bool.false_eq_true, List.append_nil, Bool.and_true, Bool.true_and, Nat.reduceMul, Nat.reduceBEq, Nat.reduceLeDiff, BEq.rfl, Nat.reduceSub, kp_i, rk_i, kp_lro, rk_lro, rk_lo, m_lf, m_n, m_c, m_all, e_asg_o, e_head, e_headK, kC_n, pO_n, pO_i, pO_l, List.range_zero, plT, List.reduceReplicate, Nat.zero_add, Nat.add_zero, forall_const, kp_fn, rk_fn, pO_fn]
  refine ⟨by omega, ?_⟩
  intro Z hZ
  apply hZ
  simp -implicitDefEqProofs (maxSteps := 2000000) only [c119, v_ms, rep0, rep1, rep2, c1, c2, wr0, wr1, wr2, v_ld_e, Int.reduceToNat, List.getD_cons_zero, List.getD_cons_succ, Int.reduceLT, Int.reduceLE, Int.reduceAdd, Int.reduceSub, Nat.reduceLT, Int.reduceEq, decide_true, decide_false, ↓reduceIte, s_skip, s_ops0, s_seq, s_cond, s_block, s_opsK, s_seqK_n, s_cnd, s_nil, s_cons, s_wopsK, s_putK, o_mv, o_as, o_bin, v_lss, v_part_t, v_part_f, v_atK, o_al, o_fa, v_fa_p, o_ia, v_ia, o_ld, v_ld_p, v_ldC, o_st, v_st_p, v_stCK, o_call, e_t, e_put, e_get, e_res, e_keep_n, e_keep_c, e_keep1_s, e_asg_i, List.length_nil, List.length_cons, Option.getD_some, Nat.reduceEqDiff, Nat.reduceAdd, reduceCtorEq, true_and, and_true, Bool.false_eq_true, List.map_cons, List.map_nil, List.any_nil, Bool.or_self, PV.leaves, List.flatMap_cons, List.flatMap_nil, List.append_nil, List.nil_append, List.all_cons, List.all_nil, Bool.and_true, Bool.true_and, Bool.and_self, PV.cells, cellL, fillL, Nat.zero_le, Nat.le_refl, List.take_zero, List.drop_zero, List.take_succ_cons, List.drop_succ_cons, List.drop_nil, List.take_nil, List.getElem?_cons_zero, kc_b, kc_i, kc_s, rl_i, kc_l, m_lf, m_ag, m_n, m_c, m_all, st_b, d_n, d_c, Nat.reduceLT, Nat.lt_add_one, Nat.zero_add, Nat.add_zero, kc_fn, kc_er]
  refine wcall_s r100' rfl rfl ?_
  simp -implicitDefEqProofs (maxSteps := 2000000) only [c119, v_ms, rep0, rep1, rep2, c1, c2, wr0, wr1, wr2, v_ld_e, Int.reduceToNat, List.getD_cons_zero, List.getD_cons_succ, Int.reduceLT, Int.reduceLE, Int.reduceAdd, Int.reduceSub, Nat.reduceLT, Int.reduceEq, decide_true, decide_false, ↓reduceIte, s_skip, s_ops0, s_seq, s_cond, s_opsK, s_seqK_n, s_cnd, s_nil, s_cons, s_wopsK, s_putK, o_mv, o_as, o_bin, v_lss, v_part_t, o_ld, v_ld_p, v_ldC, o_call, e_t, e_k, e_put, e_get, e_res, e_keep_n, e_keep_c, e_keep1_s, e_asg_i, List.length_nil, List.length_cons, Option.getD_some, Nat.reduceEqDiff, Nat.reduceAdd, reduceCtorEq, true_and, Bool.false_eq_true, St.clr, outV, ownsV, owns1, ownL, List.map_cons, List.map_nil, PV.leaves, List.flatMap_cons, List.flatMap_nil, List.append_nil, Bool.true_and, Nat.le_refl, List.drop_zero, List.take_succ_cons, List.take_nil, rl_i, rl_s, ol_i, m_lf, m_ag, Nat.reduceLT, Nat.zero_add]
  refine wcall_s h101 rfl rfl ?_
  simp -implicitDefEqProofs (maxSteps := 2000000) only [c119, v_ms, rep0, rep1, rep2, c1, c2, wr0, wr1, wr2, v_ld_e, Int.reduceToNat, List.getD_cons_zero, List.getD_cons_succ, Int.reduceLT, Int.reduceLE, Int.reduceAdd, Int.reduceSub, Nat.reduceLT, Int.reduceEq, decide_true, decide_false, ↓reduceIte, s_skip, s_ops0, s_seq, s_cond, s_block, s_loop, s_opsK, s_seqK_n, s_cnd, s_nil, s_cons, s_wopsK, s_putK, o_mv, o_un, v_not, o_al, o_st, v_st_p, v_stCK, o_bd, v_agK, v_bd_n, v_bd_c, e_t, e_k, e_put, e_get, e_res, e_keep_n, e_keep_c, e_keep1_s, List.length_nil, List.length_cons, Option.getD_some, Nat.reduceEqDiff, Nat.reduceAdd, reduceCtorEq, true_and, Bool.not_true, Bool.false_eq_true, St.clr, outV, ownsV, owns1, ownL, List.map_cons, List.map_nil, List.any_nil, Bool.or_self, List.append_nil, List.cons_append, List.nil_append, List.all_cons, List.all_nil, Bool.true_and, Bool.and_self, PV.cells, cellL, fillL, Nat.reduceBEq, Nat.reduceLeDiff, Nat.zero_le, Nat.le_refl, List.take_zero, List.drop_zero, List.drop_succ_cons, List.drop_nil, kc_b, kc_i, kc_s, ol_b, kc_p, kc_l, m_lf, m_ag, m_n, m_c, m_all, e_head, e_headK, kC_n, kC_c, pO_n, pO_p, pO_i, pO_l, st_b, d_n, d_c, List.range_zero, ne_eq, not_false_eq_true, Nat.zero_add, kc_fn, pO_fn]
  intro Z2 hZ2
  apply hZ2
  simp -implicitDefEqProofs (maxSteps := 2000000) only [c119, v_ms, rep0, rep1, rep2, c1, c2, wr0, wr1, wr2, v_ld_e, Int.reduceToNat, List.getD_cons_zero, List.getD_cons_succ, Int.reduceLT, Int.reduceLE, Int.reduceAdd, Int.reduceSub, Nat.reduceLT, Int.reduceEq, decide_true, decide_false, ↓reduceIte, s_skip, s_exit, s_ops0, s_seq, s_cond, s_opsK, s_seqK_n, s_seqK_e, s_blkK_e, s_loopK_e, s_cnd, s_nil, s_cons, s_wopsK, s_putK, o_mv, o_as, o_bin, v_add, v_lss, v_gtr, v_part_t, v_part_f, v_atK, o_fa, v_fa_p, o_ld, v_ld_p, v_ldC, o_st, v_st_p, v_stCK, o_bs, v_bsK, v_lit_n, v_lit_c, o_app, v_app_o, e_t, e_k, e_put, e_get, e_res, e_keep_n, e_keep_c, e_keep1_s, List.length_nil, List.length_cons, Option.getD_some, Nat.reduceEqDiff, Nat.reduceAdd, reduceCtorEq, true_and, Bool.false_eq_true, List.map_cons, List.map_nil, Bool.or_false, PV.leaves, List.flatMap_cons, List.flatMap_nil, List.append_nil, List.cons_append, List.nil_append, List.all_cons, List.all_nil, Bool.true_and, Bool.and_self, PV.cells, cellL, datL, fillL, Nat.reduceMul, Nat.reduceBEq, Nat.reduceLeDiff, Nat.le_refl, BEq.rfl, List.take_zero, List.drop_zero, List.take_succ_cons, List.drop_succ_cons, List.drop_nil, List.take_nil, List.getElem?_cons_zero, List.getElem?_cons_succ, kp_b, kp_i, kp_s, kp_u, rk_b, rk_i, rk_s, rk_u, rl_i, kp_p, kp_lro, rk_p, rk_lro, kp_lo, rk_lo, m_lf, m_ag, m_n, m_c, m_all, e_asg_o, st_i1, d_n, d_c, dw_n, dw_i, plT, lit_n, lit_c, List.reduceReplicate, List.set_cons_zero, Nat.reduceLT, Nat.lt_add_one, Nat.zero_add, Nat.add_zero, or_false, kp_fn, rk_fn, o_cald]
  refine wcald_i (by kernel_rfl) rfl (r120 0 0 1) rfl ?_
  simp -implicitDefEqProofs (maxSteps := 2000000) only [c119, v_ms, rep0, rep1, rep2, c1, c2, wr0, wr1, wr2, v_ld_e, Int.reduceToNat, List.getD_cons_zero, List.getD_cons_succ, Int.reduceLT, Int.reduceLE, Int.reduceAdd, Int.reduceSub, Nat.reduceLT, Int.reduceEq, decide_true, decide_false, ↓reduceIte, s_ops0, s_opsK, s_seqK_n, s_blkK_n, s_loopK_n, s_nil, s_cons, s_wopsK, s_putK, o_mv, o_bin, v_add, e_t, e_k, e_put, e_get, e_res, e_keep_n, e_keep_c, e_keep1_s, Option.getD_some, Nat.reduceEqDiff, Nat.reduceAdd, reduceCtorEq, Bool.false_eq_true, St.clr, outV, ownsV, List.map_nil, List.any_nil, List.append_nil, m_tp, e_head, e_headK, kC_n, pO_n, pO_i, pO_l, dw_n, dw_i, List.range_zero, pO_fn]
  apply hZ
  simp -implicitDefEqProofs (maxSteps := 2000000) only [c119, v_ms, rep0, rep1, rep2, c1, c2, wr0, wr1, wr2, v_ld_e, Int.reduceToNat, List.getD_cons_zero, List.getD_cons_succ, Int.reduceLT, Int.reduceLE, Int.reduceAdd, Int.reduceSub, Nat.reduceLT, Int.reduceEq, decide_true, decide_false, ↓reduceIte, s_skip, s_exit, s_ret, s_ops0, s_seq, s_cond, s_opsK, s_seqK_n, s_seqK_e, s_seqK_r, s_blkK_e, s_loopK_e, s_cnd, s_nil, s_cons, s_guard, s_wopsK, s_putK, s_grd, q_mv, q_bin, q_fa, q_ia, q_ld, q_len, o_mv, o_as, o_pk, v_pk, o_bin, v_sub, v_eql, v_neq, v_lss, v_part_f, v_atK, o_fa, v_fa_e, o_ia, v_ia, o_ld, o_len, v_len, e_t, e_k, e_put, e_get, e_res, e_keep_n, e_keep_c, e_keep1_s, e_asg_i, List.length_nil, List.length_cons, Option.getD_some, Nat.reduceEqDiff, reduceCtorEq, true_and, and_true, cond_false, Bool.false_eq_true, decide_eq_true_eq, s_ret_r, s_retX, s_cells_n, t_tp, t_n, t_c, t_1l, t_i, r_n, r_t, r_cons, one_2, Bool.and_true, Bool.true_and, Nat.reduceLeDiff, List.getElem?_cons_zero, Nat.reduceSub, ne_eq, Nat.reduceLT, Nat.lt_add_one, Nat.zero_add, Nat.add_zero, implies_true, forall_const, ite_not]
theorem mx : max (0 : Int) 1 = 1 := by decide
theorem fn120 : fnOK Tryd.prog 120 = true := by kernel_rfl
theorem r119b (op n : Int) (t : ByteArray) (ho : 18 ≤ op ∧ op ≤ 23) (hf : fldB op n t = true) (sp : List (List L)) : R X Tryd.prog 119 [.lf (.lst .ro 7 [nodeL 3 0 ⟨#[]⟩, nodeL op n t] sp), .lf (.fn 120 [] [])] [] (.tp [.lf (.int .i64 0), .lf (.int .i64 0)]) [] := by
  refine R_i [] [] c119_ok rfl (by simp) ?_
  have c1 : ((1 : Nat) : Int) = 1 := rfl
  have c2 : ((2 : Nat) : Int) = 2 := rfl
  have h101 := r101 (X := X) 3 0 ⟨#[]⟩ (by omega)
  rw [f3] at h101
  have h101' := r101 (X := X) op n t (by omega)
  rw [hf] at h101'
  simp only [nodeL]
  simp -implicitDefEqProofs (maxSteps := 2000000) only [c119, v_ms, rep0, rep1, rep2, c1, c2, wr0, wr1, wr2, v_ld_e, Int.reduceToNat, List.getD_cons_zero, List.getD_cons_succ, Int.reduceLT, Int.reduceLE, Int.reduceAdd, Int.reduceSub, Nat.reduceLT, Int.reduceEq, decide_true, decide_false, ↓reduceIte, s_ops0, s_seq, s_block, s_loop, s_opsK, s_seqK_n, s_nil, s_cons, s_wopsK, s_putK, o_mv, o_as, o_ms, o_len, v_len, e_t, e_k, e_put, e_get, e_res, e_keep_n, e_keep_c, e_keep1_s, e_asg_i, St.init, enum, List.length_nil, List.length_cons, Option.getD_some, Nat.reduceEqDiff, Nat.reduceAdd, reduceCtorEq, true_and, and_true, Bool.false_eq_true, List.append_nil, Bool.and_true, Bool.true_and, Nat.reduceMul, Nat.reduceBEq, Nat.reduceLeDiff, BEq.rfl, Nat.reduceSub, kp_i, rk_i, kp_lro, rk_lro, rk_lo, m_lf, m_n, m_c, m_all, e_asg_o, e_head, e_headK, kC_n, pO_n, pO_i, pO_l, List.range_zero, plT, List.reduceReplicate, Nat.zero_add, Nat.add_zero, forall_const, kp_fn, rk_fn, pO_fn]
  refine ⟨by omega, ?_⟩
  intro Z hZ
  apply hZ
  simp -implicitDefEqProofs (maxSteps := 2000000) only [c119, v_ms, rep0, rep1, rep2, c1, c2, wr0, wr1, wr2, v_ld_e, Int.reduceToNat, List.getD_cons_zero, List.getD_cons_succ, Int.reduceLT, Int.reduceLE, Int.reduceAdd, Int.reduceSub, Nat.reduceLT, Int.reduceEq, decide_true, decide_false, ↓reduceIte, s_skip, s_ops0, s_seq, s_cond, s_block, s_opsK, s_seqK_n, s_cnd, s_nil, s_cons, s_wopsK, s_putK, o_mv, o_as, o_bin, v_lss, v_part_t, v_part_f, v_atK, o_al, o_fa, v_fa_p, o_ia, v_ia, o_ld, v_ld_p, v_ldC, o_st, v_st_p, v_stCK, o_call, e_t, e_put, e_get, e_res, e_keep_n, e_keep_c, e_keep1_s, e_asg_i, List.length_nil, List.length_cons, Option.getD_some, Nat.reduceEqDiff, Nat.reduceAdd, reduceCtorEq, true_and, and_true, Bool.false_eq_true, List.map_cons, List.map_nil, List.any_nil, Bool.or_self, PV.leaves, List.flatMap_cons, List.flatMap_nil, List.append_nil, List.nil_append, List.all_cons, List.all_nil, Bool.and_true, Bool.true_and, Bool.and_self, PV.cells, cellL, fillL, Nat.zero_le, Nat.le_refl, List.take_zero, List.drop_zero, List.take_succ_cons, List.drop_succ_cons, List.drop_nil, List.take_nil, List.getElem?_cons_zero, kc_b, kc_i, kc_s, rl_i, kc_l, m_lf, m_ag, m_n, m_c, m_all, st_b, d_n, d_c, Nat.reduceLT, Nat.zero_add, Nat.add_zero, kc_fn, kc_er]
  refine wcall_s r100' rfl rfl ?_
  simp -implicitDefEqProofs (maxSteps := 2000000) only [c119, v_ms, rep0, rep1, rep2, c1, c2, wr0, wr1, wr2, v_ld_e, Int.reduceToNat, List.getD_cons_zero, List.getD_cons_succ, Int.reduceLT, Int.reduceLE, Int.reduceAdd, Int.reduceSub, Nat.reduceLT, Int.reduceEq, decide_true, decide_false, ↓reduceIte, s_skip, s_ops0, s_seq, s_cond, s_opsK, s_seqK_n, s_cnd, s_nil, s_cons, s_wopsK, s_putK, o_mv, o_as, o_bin, v_lss, v_part_t, o_ld, v_ld_p, v_ldC, o_call, e_t, e_k, e_put, e_get, e_res, e_keep_n, e_keep_c, e_keep1_s, e_asg_i, List.length_nil, List.length_cons, Option.getD_some, Nat.reduceEqDiff, Nat.reduceAdd, reduceCtorEq, true_and, Bool.false_eq_true, St.clr, outV, ownsV, owns1, ownL, List.map_cons, List.map_nil, PV.leaves, List.flatMap_cons, List.flatMap_nil, List.append_nil, Bool.true_and, Nat.le_refl, List.drop_zero, List.take_succ_cons, List.take_nil, rl_i, rl_s, ol_i, m_lf, m_ag, Nat.reduceLT, Nat.zero_add]
  refine wcall_s h101 rfl rfl ?_
  simp -implicitDefEqProofs (maxSteps := 2000000) only [c119, v_ms, rep0, rep1, rep2, c1, c2, wr0, wr1, wr2, v_ld_e, Int.reduceToNat, List.getD_cons_zero, List.getD_cons_succ, Int.reduceLT, Int.reduceLE, Int.reduceAdd, Int.reduceSub, Nat.reduceLT, Int.reduceEq, decide_true, decide_false, ↓reduceIte, s_skip, s_ops0, s_seq, s_cond, s_block, s_loop, s_opsK, s_seqK_n, s_cnd, s_nil, s_cons, s_wopsK, s_putK, o_mv, o_un, v_not, o_al, o_st, v_st_p, v_stCK, o_bd, v_agK, v_bd_n, v_bd_c, e_t, e_k, e_put, e_get, e_res, e_keep_n, e_keep_c, e_keep1_s, List.length_nil, List.length_cons, Option.getD_some, Nat.reduceEqDiff, Nat.reduceAdd, reduceCtorEq, true_and, Bool.not_true, Bool.false_eq_true, St.clr, outV, ownsV, owns1, ownL, List.map_cons, List.map_nil, List.any_nil, Bool.or_self, List.append_nil, List.cons_append, List.nil_append, List.all_cons, List.all_nil, Bool.true_and, Bool.and_self, PV.cells, cellL, fillL, Nat.reduceBEq, Nat.reduceLeDiff, Nat.zero_le, Nat.le_refl, List.take_zero, List.drop_zero, List.drop_succ_cons, List.drop_nil, kc_b, kc_i, kc_s, ol_b, kc_p, kc_l, m_lf, m_ag, m_n, m_c, m_all, e_head, e_headK, kC_n, kC_c, pO_n, pO_p, pO_i, pO_l, st_b, d_n, d_c, List.range_zero, ne_eq, not_false_eq_true, Nat.zero_add, kc_fn, pO_fn]
  intro Z2 hZ2
  apply hZ2
  simp -implicitDefEqProofs (maxSteps := 2000000) only [c119, v_ms, rep0, rep1, rep2, c1, c2, wr0, wr1, wr2, v_ld_e, Int.reduceToNat, List.getD_cons_zero, List.getD_cons_succ, Int.reduceLT, Int.reduceLE, Int.reduceAdd, Int.reduceSub, Nat.reduceLT, Int.reduceEq, decide_true, decide_false, ↓reduceIte, s_skip, s_exit, s_ops0, s_seq, s_cond, s_opsK, s_seqK_n, s_seqK_e, s_blkK_e, s_loopK_e, s_cnd, s_nil, s_cons, s_wopsK, s_putK, o_mv, o_as, o_bin, v_add, v_lss, v_gtr, v_part_t, v_part_f, v_atK, o_fa, v_fa_p, o_ld, v_ld_p, v_ldC, o_st, v_st_p, v_stCK, o_bs, v_bsK, v_lit_n, v_lit_c, o_app, v_app_o, e_t, e_k, e_put, e_get, e_res, e_keep_n, e_keep_c, e_keep1_s, List.length_nil, List.length_cons, Option.getD_some, Nat.reduceEqDiff, Nat.reduceAdd, reduceCtorEq, true_and, Bool.false_eq_true, List.map_cons, List.map_nil, Bool.or_false, PV.leaves, List.flatMap_cons, List.flatMap_nil, List.append_nil, List.cons_append, List.nil_append, List.all_cons, List.all_nil, Bool.true_and, Bool.and_self, PV.cells, cellL, datL, fillL, Nat.reduceMul, Nat.reduceBEq, Nat.reduceLeDiff, Nat.le_refl, BEq.rfl, List.take_zero, List.drop_zero, List.take_succ_cons, List.drop_succ_cons, List.drop_nil, List.take_nil, List.getElem?_cons_zero, List.getElem?_cons_succ, kp_b, kp_i, kp_s, kp_u, rk_b, rk_i, rk_s, rk_u, rl_i, kp_p, kp_lro, rk_p, rk_lro, kp_lo, rk_lo, m_lf, m_ag, m_n, m_c, m_all, e_asg_o, st_i1, d_n, d_c, dw_n, dw_i, plT, lit_n, lit_c, List.reduceReplicate, List.set_cons_zero, Nat.reduceLT, Nat.lt_add_one, Nat.zero_add, Nat.add_zero, or_false, kp_fn, rk_fn, o_cald]
  refine wcald_i fn120 rfl (r120 0 0 1) rfl ?_
  simp -implicitDefEqProofs (maxSteps := 2000000) only [c119, v_ms, rep0, rep1, rep2, c1, c2, wr0, wr1, wr2, v_ld_e, Int.reduceToNat, List.getD_cons_zero, List.getD_cons_succ, Int.reduceLT, Int.reduceLE, Int.reduceAdd, Int.reduceSub, Nat.reduceLT, Int.reduceEq, decide_true, decide_false, ↓reduceIte, s_ops0, s_opsK, s_seqK_n, s_blkK_n, s_loopK_n, s_nil, s_cons, s_wopsK, s_putK, o_mv, o_bin, v_add, e_t, e_k, e_put, e_get, e_res, e_keep_n, e_keep_c, e_keep1_s, Option.getD_some, Nat.reduceEqDiff, Nat.reduceAdd, reduceCtorEq, Bool.false_eq_true, St.clr, outV, ownsV, List.map_nil, List.any_nil, List.append_nil, m_tp, e_head, e_headK, kC_n, pO_n, pO_i, pO_l, dw_n, dw_i, List.range_zero, pO_fn]
  clear hZ2 Z2
  apply hZ
  simp -implicitDefEqProofs (maxSteps := 2000000) only [c119, v_ms, rep0, rep1, rep2, c1, c2, wr0, wr1, wr2, v_ld_e, Int.reduceToNat, List.getD_cons_zero, List.getD_cons_succ, Int.reduceLT, Int.reduceLE, Int.reduceAdd, Int.reduceSub, Nat.reduceLT, Int.reduceEq, decide_true, decide_false, ↓reduceIte, s_skip, s_ops0, s_seq, s_cond, s_block, s_opsK, s_seqK_n, s_cnd, s_nil, s_cons, s_wopsK, s_putK, o_mv, o_as, o_bin, v_lss, v_part_t, v_part_f, v_atK, o_al, o_fa, v_fa_p, o_ia, v_ia, o_ld, v_ld_p, v_ldC, o_st, v_st_p, v_stCK, o_call, e_t, e_put, e_get, e_res, e_keep_n, e_keep_c, e_keep1_s, e_asg_i, List.length_nil, List.length_cons, Option.getD_some, Nat.reduceEqDiff, Nat.reduceAdd, reduceCtorEq, true_and, and_true, Bool.false_eq_true, List.map_cons, List.map_nil, List.any_nil, Bool.or_self, PV.leaves, List.flatMap_cons, List.flatMap_nil, List.append_nil, List.nil_append, List.all_cons, List.all_nil, Bool.and_true, Bool.true_and, Bool.and_self, PV.cells, cellL, fillL, Nat.zero_le, Nat.le_refl, List.take_zero, List.drop_zero, List.take_succ_cons, List.drop_succ_cons, List.drop_nil, List.take_nil, List.getElem?_cons_zero, kc_b, kc_i, kc_s, rl_i, kc_l, m_lf, m_ag, m_n, m_c, m_all, st_b, d_n, d_c, Nat.reduceLT, Nat.lt_add_one, Nat.zero_add, Nat.add_zero, kc_fn, kc_er]
  refine wcall_s (r100 op ho) rfl rfl ?_
  simp -implicitDefEqProofs (maxSteps := 2000000) only [c119, v_ms, rep0, rep1, rep2, c1, c2, wr0, wr1, wr2, v_ld_e, Int.reduceToNat, List.getD_cons_zero, List.getD_cons_succ, Int.reduceLT, Int.reduceLE, Int.reduceAdd, Int.reduceSub, Nat.reduceLT, Int.reduceEq, decide_true, decide_false, ↓reduceIte, s_skip, s_ops0, s_seq, s_cond, s_opsK, s_seqK_n, s_cnd, s_nil, s_cons, s_wopsK, s_putK, o_mv, o_as, o_bin, v_lss, v_part_t, o_ld, v_ld_p, v_ldC, o_call, e_t, e_k, e_put, e_get, e_res, e_keep_n, e_keep_c, e_keep1_s, e_asg_i, List.length_nil, List.length_cons, Option.getD_some, Nat.reduceEqDiff, Nat.reduceAdd, reduceCtorEq, true_and, Bool.false_eq_true, St.clr, outV, ownsV, owns1, ownL, List.map_cons, List.map_nil, PV.leaves, List.flatMap_cons, List.flatMap_nil, List.append_nil, Bool.true_and, Nat.le_refl, List.drop_zero, List.take_succ_cons, List.take_nil, rl_i, rl_s, ol_i, m_lf, m_ag, Nat.reduceLT, Nat.zero_add]
  refine wcall_s h101' rfl rfl ?_
  simp -implicitDefEqProofs (maxSteps := 2000000) only [c119, v_ms, rep0, rep1, rep2, c1, c2, wr0, wr1, wr2, v_ld_e, Int.reduceToNat, List.getD_cons_zero, List.getD_cons_succ, Int.reduceLT, Int.reduceLE, Int.reduceAdd, Int.reduceSub, Nat.reduceLT, Int.reduceEq, decide_true, decide_false, ↓reduceIte, s_skip, s_ops0, s_seq, s_cond, s_block, s_loop, s_opsK, s_seqK_n, s_cnd, s_nil, s_cons, s_wopsK, s_putK, o_mv, o_un, v_not, o_al, o_st, v_st_p, v_stCK, o_bd, v_agK, v_bd_n, v_bd_c, e_t, e_k, e_put, e_get, e_res, e_keep_n, e_keep_c, e_keep1_s, List.length_nil, List.length_cons, Option.getD_some, Nat.reduceEqDiff, Nat.reduceAdd, reduceCtorEq, true_and, Bool.not_true, Bool.false_eq_true, St.clr, outV, ownsV, owns1, ownL, List.map_cons, List.map_nil, List.any_nil, Bool.or_self, List.append_nil, List.cons_append, List.nil_append, List.all_cons, List.all_nil, Bool.true_and, Bool.and_self, PV.cells, cellL, fillL, Nat.reduceBEq, Nat.reduceLeDiff, Nat.zero_le, Nat.le_refl, List.take_zero, List.drop_zero, List.drop_succ_cons, List.drop_nil, kc_b, kc_i, kc_s, ol_b, kc_p, kc_l, m_lf, m_ag, m_n, m_c, m_all, e_head, e_headK, kC_n, kC_c, pO_n, pO_p, pO_i, pO_l, st_b, d_n, d_c, List.range_zero, ne_eq, not_false_eq_true, Nat.zero_add, kc_fn, pO_fn]
  intro Z2 hZ2
  apply hZ2
  simp -implicitDefEqProofs (maxSteps := 2000000) only [c119, v_ms, rep0, rep1, rep2, c1, c2, wr0, wr1, wr2, mx, v_ld_e, Int.reduceToNat, List.getD_cons_zero, List.getD_cons_succ, Int.reduceLT, Int.reduceLE, Int.reduceAdd, Int.reduceSub, Nat.reduceLT, Int.reduceEq, decide_true, decide_false, ↓reduceIte, s_skip, s_ops0, s_ops2, s_seq, s_cond, s_block, s_opsK, s_seqK_n, s_blkK_n, s_loopK_n, s_cnd, s_nil, s_cons, s_wopsK, s_wopsqK, s_putK, s_grd, s_qnil, s_qcons, s_qguard, q_mv, q_pk, q_bin, o_mv, o_as, o_pk, v_pk, o_bin, v_add, v_sub, v_eql, v_lss, v_part_t, v_part_f, v_atK, o_al, o_fa, v_fa_p, o_ia, v_ia, o_ld, v_ld_p, v_ldC, o_st, v_st_p, v_stCK, o_bd, v_agK, v_bd_n, v_bd_c, e_t, e_k, e_put, e_get, e_res, e_keep_n, e_keep_c, e_keep1_s, e_asg_i, List.length_nil, List.length_cons, Option.getD_some, Nat.reduceEqDiff, Nat.reduceAdd, reduceCtorEq, true_and, and_true, Bool.not_true, Bool.false_eq_true, List.map_cons, List.map_nil, List.any_nil, Bool.or_self, List.append_nil, List.cons_append, List.nil_append, List.all_cons, List.all_nil, Bool.and_true, Bool.true_and, Bool.and_self, PV.cells, cellL, fillL, Nat.reduceBEq, Nat.reduceLeDiff, Nat.zero_le, Nat.le_refl, List.take_zero, List.drop_zero, List.take_succ_cons, List.drop_succ_cons, List.drop_nil, List.take_nil, List.getElem?_cons_zero, List.getElem?_cons_succ, Nat.reduceSub, kc_b, kc_i, kc_s, kc_p, kc_l, m_lf, m_ag, m_n, m_c, m_all, e_head, e_headK, kC_n, kC_c, pO_n, pO_p, pO_i, pO_l, st_b, d_n, d_c, List.range_zero, ne_eq, not_false_eq_true, Nat.reduceLT, Nat.lt_add_one, Nat.zero_add, Nat.add_zero, kc_fn, kc_eo, pO_fn, o_mm, v_mm]
  apply hZ2
  simp -implicitDefEqProofs (maxSteps := 2000000) only [c119, v_ms, rep0, rep1, rep2, c1, c2, wr0, wr1, wr2, mx, v_ld_e, Int.reduceToNat, List.getD_cons_zero, List.getD_cons_succ, Int.reduceLT, Int.reduceLE, Int.reduceAdd, Int.reduceSub, Nat.reduceLT, Int.reduceEq, decide_true, decide_false, ↓reduceIte, s_skip, s_exit, s_ops0, s_seq, s_cond, s_opsK, s_seqK_n, s_seqK_e, s_blkK_e, s_loopK_e, s_cnd, s_nil, s_cons, s_wopsK, s_putK, o_mv, o_as, o_bin, v_add, v_lss, v_gtr, v_part_t, v_part_f, v_atK, o_fa, v_fa_p, o_ld, v_ld_p, v_ldC, o_st, v_st_p, v_stCK, o_bs, v_bsK, v_lit_n, v_lit_c, o_app, v_app_o, e_t, e_k, e_put, e_get, e_res, e_keep_n, e_keep_c, e_keep1_s, List.length_nil, List.length_cons, Option.getD_some, Nat.reduceEqDiff, Nat.reduceAdd, reduceCtorEq, true_and, Bool.false_eq_true, List.map_cons, List.map_nil, Bool.or_false, PV.leaves, List.flatMap_cons, List.flatMap_nil, List.append_nil, List.cons_append, List.nil_append, List.all_cons, List.all_nil, Bool.true_and, Bool.and_self, PV.cells, cellL, datL, fillL, Nat.reduceMul, Nat.reduceBEq, Nat.reduceLeDiff, Nat.le_refl, BEq.rfl, List.take_zero, List.drop_zero, List.take_succ_cons, List.drop_succ_cons, List.drop_nil, List.take_nil, List.getElem?_cons_zero, List.getElem?_cons_succ, kp_b, kp_i, kp_s, kp_u, rk_b, rk_i, rk_s, rk_u, rl_i, kp_p, kp_lro, rk_p, rk_lro, kp_lo, rk_lo, m_lf, m_ag, m_n, m_c, m_all, e_asg_o, st_i1, d_n, d_c, dw_n, dw_i, plT, lit_n, lit_c, List.reduceReplicate, List.set_cons_zero, Nat.reduceLT, Nat.lt_add_one, Nat.zero_add, Nat.add_zero, or_false, kp_fn, rk_fn, o_cald]
  refine wcald_i fn120 rfl (r120 1 0 2) rfl ?_
  simp -implicitDefEqProofs (maxSteps := 2000000) only [c119, v_ms, rep0, rep1, rep2, c1, c2, wr0, wr1, wr2, mx, v_ld_e, Int.reduceToNat, List.getD_cons_zero, List.getD_cons_succ, Int.reduceLT, Int.reduceLE, Int.reduceAdd, Int.reduceSub, Nat.reduceLT, Int.reduceEq, decide_true, decide_false, ↓reduceIte, s_ops0, s_opsK, s_seqK_n, s_blkK_n, s_loopK_n, s_nil, s_cons, s_wopsK, s_putK, o_mv, o_bin, v_add, e_t, e_k, e_put, e_get, e_res, e_keep_n, e_keep_c, e_keep1_s, Option.getD_some, Nat.reduceEqDiff, Nat.reduceAdd, reduceCtorEq, Bool.false_eq_true, St.clr, outV, ownsV, List.map_nil, List.any_nil, List.append_nil, m_tp, e_head, e_headK, kC_n, pO_n, pO_i, pO_l, dw_n, dw_i, List.range_zero, pO_fn]
  apply hZ
  simp -implicitDefEqProofs (maxSteps := 2000000) only [c119, v_ms, rep0, rep1, rep2, c1, c2, wr0, wr1, wr2, mx, v_ld_e, Int.reduceToNat, List.getD_cons_zero, List.getD_cons_succ, Int.reduceLT, Int.reduceLE, Int.reduceAdd, Int.reduceSub, Nat.reduceLT, Int.reduceEq, decide_true, decide_false, ↓reduceIte, s_skip, s_exit, s_ret, s_ops0, s_seq, s_cond, s_opsK, s_seqK_n, s_seqK_e, s_seqK_r, s_blkK_e, s_loopK_e, s_cnd, s_nil, s_cons, s_guard, s_wopsK, s_putK, s_grd, q_mv, q_bin, q_fa, q_ia, q_ld, q_len, o_mv, o_as, o_pk, v_pk, o_bin, v_sub, v_eql, v_neq, v_lss, v_part_f, v_atK, o_fa, v_fa_e, o_ia, v_ia, o_ld, o_len, v_len, e_t, e_k, e_put, e_get, e_res, e_keep_n, e_keep_c, e_keep1_s, e_asg_i, List.length_nil, List.length_cons, Option.getD_some, Nat.reduceEqDiff, Nat.reduceAdd, reduceCtorEq, true_and, and_true, cond_false, Bool.false_eq_true, decide_eq_true_eq, s_ret_r, s_retX, s_cells_n, t_tp, t_n, t_c, t_1l, t_i, r_n, r_t, r_cons, one_2, Bool.and_true, Bool.true_and, Nat.reduceLeDiff, List.getElem?_cons_zero, Nat.reduceSub, ne_eq, Nat.reduceLT, Nat.lt_add_one, Nat.zero_add, Nat.add_zero, implies_true, forall_const, ite_not]
theorem r102a (sp : List (List L)) : R X Tryd.prog 102 [.lf (.lst .ro 7 [nodeL 3 0 ⟨#[]⟩] sp)] [] (.tp [.lf (.int .i64 0), .lf (.int .i64 0)]) [] := by
  have h := r119a (X := X) sp
  refine R_i [] [] c102_ok rfl (by simp) ?_
  have c1 : ((1 : Nat) : Int) = 1 := rfl
  simp only [nodeL] at h ⊢
  simp -implicitDefEqProofs (maxSteps := 2000000) only [c102, v_ms, rep0, rep1, rep2, c1, wr0, wr1, wr2, mx, v_ld_e, Int.reduceToNat, List.getD_cons_zero, List.getD_cons_succ, Int.reduceLT, Int.reduceLE, Int.reduceAdd, Int.reduceSub, Nat.reduceLT, Int.reduceEq, decide_true, decide_false, ↓reduceIte, s_skip, s_ops0, s_seq, s_cond, s_opsK, s_seqK_n, s_cnd, s_nil, s_cons, s_wopsK, s_putK, o_mv, o_as, o_bin, v_gtr, o_len, v_len, o_call, e_t, e_k, e_put, e_get, e_res, e_keep_n, e_keep_c, e_keep1_s, e_asg_i, St.init, enum, List.length_nil, List.length_cons, Option.getD_some, reduceCtorEq, Bool.false_eq_true, List.map_cons, List.map_nil, PV.leaves, List.flatMap_cons, List.flatMap_nil, List.append_nil, List.cons_append, List.nil_append, Nat.reduceLeDiff, rl_l, m_lf, Nat.reduceLT, Nat.zero_add, forall_const, rl_fn, pl_nn]
  refine wcall_s h rfl rfl ?_
  simp -implicitDefEqProofs (maxSteps := 2000000) only [c102, v_ms, rep0, rep1, rep2, c1, wr0, wr1, wr2, mx, v_ld_e, Int.reduceToNat, List.getD_cons_zero, List.getD_cons_succ, Int.reduceLT, Int.reduceLE, Int.reduceAdd, Int.reduceSub, Nat.reduceLT, Int.reduceEq, decide_true, decide_false, ↓reduceIte, s_ret, s_opsK, s_seqK_n, s_nil, s_cons, s_wopsK, s_putK, o_as, o_ext, v_ext0, v_ext1, e_t, e_put, e_get, e_res, e_keep_n, e_keep_c, e_keep1_s, e_asg_i, Option.getD_some, Nat.reduceEqDiff, and_true, Bool.false_eq_true, s_ret_r, s_retX, s_cells_n, t_tp, t_n, t_c, t_1l, t_i, r_n, r_t, r_cons, one_2, St.clr, outV, ownsV, owns1, ownL, List.map_cons, List.map_nil, List.any_cons, List.any_nil, Bool.or_self, Bool.and_true, ol_i, m_tp, m_1l]
theorem r102b (op n : Int) (t : ByteArray) (ho : 18 ≤ op ∧ op ≤ 23) (hf : fldB op n t = true) (sp : List (List L)) : R X Tryd.prog 102 [.lf (.lst .ro 7 [nodeL 3 0 ⟨#[]⟩, nodeL op n t] sp)] [] (.tp [.lf (.int .i64 0), .lf (.int .i64 0)]) [] := by
  have h := r119b (X := X) op n t ho hf sp
  refine R_i [] [] c102_ok rfl (by simp) ?_
  have c2 : ((2 : Nat) : Int) = 2 := rfl
  simp only [nodeL] at h ⊢
  simp -implicitDefEqProofs (maxSteps := 2000000) only [c102, v_ms, rep0, rep1, rep2, c2, wr0, wr1, wr2, mx, v_ld_e, Int.reduceToNat, List.getD_cons_zero, List.getD_cons_succ, Int.reduceLT, Int.reduceLE, Int.reduceAdd, Int.reduceSub, Nat.reduceLT, Int.reduceEq, decide_true, decide_false, ↓reduceIte, s_skip, s_ops0, s_seq, s_cond, s_opsK, s_seqK_n, s_cnd, s_nil, s_cons, s_wopsK, s_putK, o_mv, o_as, o_bin, v_gtr, o_len, v_len, o_call, e_t, e_k, e_put, e_get, e_res, e_keep_n, e_keep_c, e_keep1_s, e_asg_i, St.init, enum, List.length_nil, List.length_cons, Option.getD_some, Nat.reduceAdd, reduceCtorEq, Bool.false_eq_true, List.map_cons, List.map_nil, PV.leaves, List.flatMap_cons, List.flatMap_nil, List.append_nil, List.cons_append, List.nil_append, Nat.reduceLeDiff, rl_l, m_lf, Nat.reduceLT, Nat.zero_add, forall_const, rl_fn, pl_nn]
  refine wcall_s h rfl rfl ?_
  simp -implicitDefEqProofs (maxSteps := 2000000) only [c102, v_ms, rep0, rep1, rep2, c2, wr0, wr1, wr2, mx, v_ld_e, Int.reduceToNat, List.getD_cons_zero, List.getD_cons_succ, Int.reduceLT, Int.reduceLE, Int.reduceAdd, Int.reduceSub, Nat.reduceLT, Int.reduceEq, decide_true, decide_false, ↓reduceIte, s_ret, s_opsK, s_seqK_n, s_nil, s_cons, s_wopsK, s_putK, o_as, o_ext, v_ext0, v_ext1, e_t, e_put, e_get, e_res, e_keep_n, e_keep_c, e_keep1_s, e_asg_i, Option.getD_some, Nat.reduceEqDiff, and_true, Bool.false_eq_true, s_ret_r, s_retX, s_cells_n, t_tp, t_n, t_c, t_1l, t_i, r_n, r_t, r_cons, one_2, St.clr, outV, ownsV, owns1, ownL, List.map_cons, List.map_nil, List.any_cons, List.any_nil, Bool.or_self, Bool.and_true, ol_i, m_tp, m_1l]
theorem r103 (op n : Int) (t : ByteArray) (ho : 18 ≤ op ∧ op ≤ 23) (hf : fldB op n t = true) (sp : List (List L)) : R X Tryd.prog 103 [.lf (.lst .ro 7 [nodeL 3 0 ⟨#[]⟩, nodeL op n t] sp)] [] (.tp [.lf (.lst .ro 7 [nodeL 3 0 ⟨#[]⟩, nodeL op n t] sp), .lf (.int .i64 0)]) [] := by
  have h := r102b (X := X) op n t ho hf sp
  refine R_i [] [] c103_ok rfl (by simp) ?_
  simp only [nodeL] at h ⊢
  simp -implicitDefEqProofs (maxSteps := 2000000) only [c103, v_ms, rep0, rep1, rep2, wr0, wr1, wr2, mx, v_ld_e, Int.reduceToNat, List.getD_cons_zero, List.getD_cons_succ, Int.reduceLT, Int.reduceLE, Int.reduceAdd, Int.reduceSub, Nat.reduceLT, Int.reduceEq, decide_true, decide_false, ↓reduceIte, s_ops0, s_seq, s_opsK, s_seqK_n, s_nil, s_cons, s_wopsK, o_mv, o_as, o_call, e_t, e_k, e_put, e_get, e_res, e_keep_n, e_keep_c, e_keep1_s, e_asg_i, St.init, enum, List.length_nil, Option.getD_some, reduceCtorEq, List.map_cons, List.map_nil, PV.leaves, List.flatMap_cons, List.flatMap_nil, List.append_nil, Nat.reduceMul, kp_lro, rl_l, m_lf, m_n, m_c, m_all, e_asg_n, plT, Nat.add_zero]
  refine wcall_s h rfl rfl ?_
  simp -implicitDefEqProofs (maxSteps := 2000000) only [c103, v_ms, rep0, rep1, rep2, wr0, wr1, wr2, mx, v_ld_e, Int.reduceToNat, List.getD_cons_zero, List.getD_cons_succ, Int.reduceLT, Int.reduceLE, Int.reduceAdd, Int.reduceSub, Nat.reduceLT, Int.reduceEq, decide_true, decide_false, ↓reduceIte, s_skip, s_ret, s_ops0, s_seq, s_cond, s_opsK, s_seqK_n, s_seqK_r, s_cnd, s_nil, s_cons, s_wopsK, s_putK, o_mv, o_as, o_bin, v_neq, o_ext, v_ext0, v_ext1, e_t, e_k, e_put, e_get, e_res, e_keep_n, e_keep_c, e_keep1_s, e_asg_i, e_asg_r, Option.getD_some, Nat.reduceEqDiff, reduceCtorEq, true_and, and_true, Bool.false_eq_true, decide_eq_true_eq, s_ret_r, s_retX, s_cells_n, t_tp, t_n, t_c, t_1l, t_i, t_l, t_rr, t_or, r_n, r_t, r_cons, one_2, St.clr, outV, ownsV, owns1, ownL, List.map_cons, List.map_nil, List.any_cons, List.any_nil, Bool.or_self, Bool.and_true, Bool.true_and, Nat.reduceMul, kp_b, kp_i, ol_i, kp_lro, m_lf, m_tp, m_1l, m_n, m_c, m_all, e_asg_n, plT, ne_eq, Nat.add_zero, true_or, or_true, ite_not]
end Go.Proofs.YthcpaohmajjopaaDoor.I
set_option linter.unusedVariables false
set_option linter.unusedSimpArgs false
namespace Go.Proofs.YthcpaohmajjopaaDoor.I
open Go Go.Proofs.YthcpaohmajjopaaDoor.AM
variable {X : Cx}
theorem r80a (op n : Int) (t : ByteArray) (ho : 18 ≤ op ∧ op ≤ 23) (hf : fldB op n t = true) (sp sp' : List (List L)) : R X Tryd.prog 80 [.ag (nodeL op n t), .lf (.lst .ro 1 [[.lst .ro 7 [nodeL 3 0 ⟨#[]⟩] sp]] sp')] [] (.tp [.lf (.lst .ro 7 [nodeL 3 0 ⟨#[]⟩, nodeL op n t] []), .lf (.int .i64 0)]) [] := by
  have h102 := r102a (X := X) sp
  have h103 := r103 (X := X) op n t ho hf []
  have h101 := r101 (X := X) op n t (by omega)
  rw [hf] at h101
  have c1 : ((1 : Nat) : Int) = 1 := rfl
  simp only [nodeL] at h102 h103 h101 ⊢
  refine R_i [] [] c80_ok rfl (by simp) ?_
  simp -implicitDefEqProofs (maxSteps := 2000000) only [c80, c1, wr0, wr1, v_ld_e, Int.reduceToNat, List.getD_cons_zero, Int.reduceLT, Int.reduceLE, Int.reduceAdd, Int.reduceSub, Nat.reduceLT, Int.reduceEq, decide_true, decide_false, ↓reduceIte, s_ops0, s_seq, s_opsK, s_seqK_n, s_nil, s_cons, s_wopsK, s_putK, o_as, v_part_f, v_atK, o_bx, o_fa, v_fa_p, o_ld, v_ld_p, v_ldC, o_call, e_t, e_k, e_put, e_get, e_res, e_keep_n, e_keep_c, e_keep1_s, e_asg_i, St.init, enum, List.length_nil, Option.getD_some, Nat.reduceEqDiff, reduceCtorEq, true_and, List.map_cons, List.map_nil, PV.leaves, List.flatMap_cons, List.flatMap_nil, List.append_nil, Bool.true_and, Nat.reduceMul, Nat.zero_le, List.getElem?_cons_zero, kp_i, kp_s, kc_i, kc_s, rl_i, kp_p, kp_lro, kc_l, m_lf, m_ag, m_n, m_c, m_all, e_asg_n, d_n, plT, Nat.zero_add, Nat.add_zero, v_bx_a]
  refine wcall_s (r100 op ho) rfl rfl ?_
  simp -implicitDefEqProofs (maxSteps := 2000000) only [c80, c1, wr0, wr1, v_ld_e, Int.reduceToNat, List.getD_cons_zero, Int.reduceLT, Int.reduceLE, Int.reduceAdd, Int.reduceSub, Nat.reduceLT, Int.reduceEq, decide_true, decide_false, ↓reduceIte, s_ops0, s_seq, s_cond, s_block, s_opsK, s_seqK_n, s_cnd, s_nil, s_cons, s_wopsK, s_putK, o_mv, o_as, o_bin, v_lss, v_part_t, o_ld, v_ld_p, v_ldC, o_call, e_t, e_k, e_put, e_get, e_res, e_keep_n, e_keep_c, e_keep1_s, e_asg_b, e_asg_i, List.length_nil, List.length_cons, Option.getD_some, Nat.reduceEqDiff, Nat.reduceAdd, true_and, Bool.false_eq_true, St.clr, outV, ownsV, owns1, ownL, List.map_cons, List.map_nil, PV.leaves, List.flatMap_cons, List.flatMap_nil, List.append_nil, Bool.true_and, Nat.le_refl, List.drop_zero, List.take_succ_cons, List.take_nil, rl_i, rl_s, ol_i, m_lf, m_ag, Nat.reduceLT, Nat.zero_add]
  refine wcall_s h101 rfl rfl ?_
  simp -implicitDefEqProofs (maxSteps := 2000000) only [c80, c1, wr0, wr1, v_ld_e, Int.reduceToNat, List.getD_cons_zero, Int.reduceLT, Int.reduceLE, Int.reduceAdd, Int.reduceSub, Nat.reduceLT, Int.reduceEq, decide_true, decide_false, ↓reduceIte, s_skip, s_ret, s_ops0, s_seq, s_cond, s_block, s_loop, s_opsK, s_seqK_n, s_seqK_r, s_blkK_n, s_blkK_r, s_cnd, s_nil, s_cons, s_wopsK, s_putK, o_mv, o_as, o_bin, v_neq, o_un, v_not, o_len, v_len, e_t, e_k, e_put, e_get, e_res, e_keep_n, e_keep_c, e_keep1_s, e_asg_b, e_asg_i, List.length_nil, List.length_cons, Option.getD_some, Nat.reduceEqDiff, reduceCtorEq, true_and, and_true, Bool.not_true, Bool.false_eq_true, decide_eq_true_eq, s_ret_r, s_retX, s_cells_n, t_tp, t_n, t_c, t_1l, t_i, t_l, t_or, r_n, r_t, r_cons, one_2, St.clr, outV, ownsV, owns1, ownL, List.map_cons, List.map_nil, List.nil_append, Bool.and_true, Bool.true_and, Nat.reduceMul, Nat.reduceLeDiff, kp_b, kp_i, kp_s, ol_b, kp_p, kp_lro, m_lf, m_n, m_c, m_all, e_asg_n, e_head, e_headK, kC_n, kC_c, pO_n, pO_p, pO_i, pO_l, List.range_zero, plT, ne_eq, Nat.zero_add, Nat.add_zero, true_or, or_true, forall_const, ite_not]
  intro Z hZ
  apply hZ
  simp -implicitDefEqProofs (maxSteps := 2000000) only [c80, c1, wr0, wr1, v_ld_e, Int.reduceToNat, List.getD_cons_zero, Int.reduceLT, Int.reduceLE, Int.reduceAdd, Int.reduceSub, Nat.reduceLT, Int.reduceEq, decide_true, decide_false, ↓reduceIte, s_skip, s_ops0, s_seq, s_cond, s_block, s_opsK, s_seqK_n, s_cnd, s_nil, s_cons, s_wopsK, s_putK, o_mv, o_as, o_bin, v_lss, v_part_f, v_atK, o_ia, v_ia, o_ld, o_call, e_t, e_put, e_get, e_res, e_keep_n, e_keep_c, e_keep1_s, e_asg_r, List.length_nil, List.length_cons, Option.getD_some, Nat.reduceEqDiff, true_and, and_true, List.map_cons, List.map_nil, PV.leaves, List.flatMap_cons, List.flatMap_nil, List.append_nil, Bool.and_true, Bool.true_and, List.getElem?_cons_zero, rl_l, m_lf, Nat.reduceLT, Nat.lt_add_one, Nat.zero_add]
  refine wcall_s h102 rfl rfl ?_
  simp -implicitDefEqProofs (maxSteps := 2000000) only [c80, c1, wr0, wr1, v_ld_e, Int.reduceToNat, List.getD_cons_zero, Int.reduceLT, Int.reduceLE, Int.reduceAdd, Int.reduceSub, Nat.reduceLT, Int.reduceEq, decide_true, decide_false, ↓reduceIte, s_skip, s_ret, s_ops0, s_seq, s_cond, s_opsK, s_seqK_n, s_seqK_r, s_blkK_n, s_blkK_r, s_loopK_n, s_loopK_r, s_cnd, s_nil, s_cons, s_wopsK, s_putK, o_mv, o_as, o_bin, v_add, v_neq, o_ext, v_ext0, v_ext1, o_app, v_app_o, e_t, e_k, e_put, e_get, e_res, e_keep_n, e_keep_c, e_keep1_s, e_asg_i, List.length_nil, List.length_cons, Option.getD_some, Nat.reduceEqDiff, Nat.reduceAdd, reduceCtorEq, true_and, and_true, Bool.false_eq_true, decide_eq_true_eq, s_ret_r, s_retX, s_cells_n, t_tp, t_n, t_c, t_1l, t_i, t_l, t_or, r_n, r_t, r_cons, one_2, St.clr, outV, ownsV, owns1, ownL, List.map_cons, List.map_nil, List.any_cons, List.any_nil, Bool.or_false, Bool.or_self, List.nil_append, Bool.and_true, Bool.true_and, Nat.reduceMul, Nat.reduceBEq, Nat.reduceLeDiff, BEq.rfl, kp_b, kp_i, kp_s, kp_u, rk_b, rk_i, rk_s, rk_u, ol_i, kp_p, kp_lro, rk_p, rk_lro, kp_lo, rk_lo, m_lf, m_tp, m_1l, m_n, m_c, m_all, e_asg_n, e_asg_o, e_head, e_headK, kC_n, kC_c, pO_n, pO_p, pO_i, pO_l, List.range_zero, plT, ne_eq, Nat.zero_add, Nat.add_zero, true_or, or_true, or_false, ite_not]
  apply hZ
  simp -implicitDefEqProofs (maxSteps := 2000000) only [c80, c1, wr0, wr1, v_ld_e, Int.reduceToNat, List.getD_cons_zero, Int.reduceLT, Int.reduceLE, Int.reduceAdd, Int.reduceSub, Nat.reduceLT, Int.reduceEq, decide_true, decide_false, ↓reduceIte, s_exit, s_ops0, s_seq, s_cond, s_opsK, s_seqK_n, s_seqK_e, s_blkK_e, s_loopK_e, s_cnd, s_nil, s_cons, s_wopsK, s_putK, o_mv, o_bin, v_lss, v_part_t, o_ld, v_ld_p, v_ldC, o_bs, v_bsK, v_lit_n, v_lit_c, o_app, v_app_o, o_call, e_t, e_put, e_get, e_res, e_keep_n, e_keep_c, e_keep1_s, List.length_nil, List.length_cons, Option.getD_some, Nat.reduceEqDiff, Nat.reduceAdd, reduceCtorEq, true_and, Bool.false_eq_true, List.map_cons, List.map_nil, Bool.or_false, PV.leaves, List.flatMap_cons, List.flatMap_nil, List.append_nil, List.cons_append, List.nil_append, List.all_cons, List.all_nil, Bool.true_and, Bool.and_self, PV.cells, datL, Nat.reduceMul, Nat.reduceBEq, Nat.reduceLeDiff, Nat.le_refl, BEq.rfl, List.drop_zero, List.take_succ_cons, List.take_nil, kp_b, kp_i, kp_s, kp_u, rl_i, rl_s, kp_p, kp_lro, kp_lo, rl_l, m_lf, m_ag, m_n, m_c, m_all, dw_n, dw_i, dw_s, plT, lit_n, lit_c, List.reduceReplicate, List.set_cons_zero, Nat.reduceLT, Nat.lt_add_one, Nat.zero_add, Nat.add_zero, or_false]
  refine wcall_down h103 rfl ?_
  simp -implicitDefEqProofs (maxSteps := 2000000) only [c80, c1, wr0, wr1, v_ld_e, Int.reduceToNat, List.getD_cons_zero, Int.reduceLT, Int.reduceLE, Int.reduceAdd, Int.reduceSub, Nat.reduceLT, Int.reduceEq, decide_true, decide_false, ↓reduceIte, s_ret, s_opsK, s_seqK_n, s_nil, s_cons, s_wopsK, s_putK, o_as, o_ext, v_ext0, v_ext1, e_t, e_put, e_get, e_res, e_keep_n, e_keep_c, e_keep1_s, e_asg_i, e_asg_r, Option.getD_some, Nat.reduceEqDiff, reduceCtorEq, true_and, and_true, Bool.false_eq_true, s_ret_r, s_retX, s_cells_n, t_tp, t_n, t_c, t_1l, t_i, t_l, t_rr, r_n, r_t, r_cons, one_2, St.clr, outV, ownsV, owns1, ownL, List.map_cons, List.map_nil, List.any_cons, List.any_nil, Bool.or_self, Bool.and_true, Bool.true_and, Nat.reduceBEq, BEq.rfl, ro_b, ro_i, ro_s, ro_u, ol_i, ro_p, ro_lro, ro_lo, ol_lr, m_lf, m_ag, m_tp, m_1l, m_n, m_c, m_all, dw_n, dw_lo, true_or, or_true]
theorem r80b (op n : Int) (t : ByteArray) (ho : 18 ≤ op ∧ op ≤ 23) (hf : fldB op n t = false) (sp sp' : List (List L)) : R X Tryd.prog 80 [.ag (nodeL op n t), .lf (.lst .ro 1 [[.lst .ro 7 [nodeL 3 0 ⟨#[]⟩] sp]] sp')] [] (.tp [.lf (.lst .ro 7 [] []), .lf (.int .i64 41)]) [] := by
  have h101 := r101 (X := X) op n t (by omega)
  rw [hf] at h101
  simp only [nodeL] at h101 ⊢
  refine R_i [] [512] c80_ok rfl (by simp) ?_
  simp -implicitDefEqProofs (maxSteps := 2000000) only [c80, ↓reduceIte, s_ops0, s_seq, s_opsK, s_seqK_n, s_nil, s_cons, s_wopsK, s_putK, o_as, v_part_f, v_atK, o_bx, o_fa, v_fa_p, o_ld, v_ld_p, v_ldC, o_call, e_t, e_k, e_put, e_get, e_res, e_keep_n, e_keep_c, e_keep1_s, e_asg_i, St.init, enum, List.length_nil, Option.getD_some, Nat.reduceEqDiff, reduceCtorEq, true_and, List.map_cons, List.map_nil, PV.leaves, List.flatMap_cons, List.flatMap_nil, List.append_nil, Bool.true_and, Nat.reduceMul, Nat.zero_le, List.getElem?_cons_zero, kp_i, kp_s, kc_i, kc_s, rl_i, kp_p, kp_lro, kc_l, m_lf, m_ag, m_n, m_c, m_all, e_asg_n, d_n, plT, Nat.zero_add, Nat.add_zero, v_bx_a]
  refine wcall_s (r100 op ho) rfl rfl ?_
  simp -implicitDefEqProofs (maxSteps := 2000000) only [c80, wr0, wr1, Int.reduceLT, Int.reduceLE, Int.reduceEq, decide_true, decide_false, ↓reduceIte, s_ops0, s_seq, s_cond, s_block, s_opsK, s_seqK_n, s_cnd, s_nil, s_cons, s_wopsK, s_putK, o_mv, o_as, o_bin, v_lss, v_part_t, o_ld, v_ld_p, v_ldC, o_call, e_t, e_k, e_put, e_get, e_res, e_keep_n, e_keep_c, e_keep1_s, e_asg_b, e_asg_i, List.length_nil, List.length_cons, Option.getD_some, Nat.reduceEqDiff, Nat.reduceAdd, true_and, Bool.false_eq_true, St.clr, outV, ownsV, owns1, ownL, List.map_cons, List.map_nil, PV.leaves, List.flatMap_cons, List.flatMap_nil, List.append_nil, Bool.true_and, Nat.le_refl, List.drop_zero, List.take_succ_cons, List.take_nil, rl_i, rl_s, ol_i, m_lf, m_ag, Nat.reduceLT, Nat.zero_add]
  refine wcall_s h101 rfl rfl ?_
  simp -implicitDefEqProofs (maxSteps := 2000000) only [c80, wr0, wr1, Int.reduceLT, Int.reduceLE, Int.reduceEq, decide_true, decide_false, ↓reduceIte, s_ret, s_ops0, s_seq, s_cond, s_opsK, s_seqK_n, s_seqK_r, s_blkK_r, s_cnd, s_nil, s_cons, s_wopsK, s_putK, o_as, o_un, v_not, e_t, e_k, e_put, e_get, e_res, e_keep_n, e_keep_c, e_keep1_s, e_asg_b, e_asg_i, Option.getD_some, Nat.reduceEqDiff, true_and, and_true, Bool.not_false, Bool.false_eq_true, s_ret_r, s_retX, s_cells_n, t_tp, t_n, t_c, t_1l, t_i, t_l, t_or, r_n, r_t, r_cons, one_2, St.clr, outV, ownsV, owns1, ownL, List.map_cons, List.map_nil, Bool.and_true, Bool.true_and, Nat.reduceMul, kp_b, kp_i, kp_s, ol_b, kp_p, kp_lro, m_lf, m_n, m_c, m_all, e_asg_n, plT, Nat.add_zero, true_or, or_true]
  rfl
def capB (b n : Int) (t : ByteArray) : Bool := if b = 1 then decide (n = 0) && decide (t = ⟨#[]⟩) else fldB (b + 16) n t
theorem r66 (b n : Int) (t : ByteArray) (hb : 1 ≤ b) (hb2 : b ≤ 7) : R X Tryd.prog 66 [.lf (.int .i64 b), .lf (.int .i64 n), .lf (.str t)] [] (.lf (.bool (capB b n t))) [] := by
  have w1 : IntKind.i64.wrap (b - 2) = b - 2 := w64 (by omega) (by omega)
  have w2 : IntKind.i64.wrap (b - 2 + 18) = b + 16 := by rw [w64 (by omega) (by omega)]; omega
  refine R_i [] [] c66_ok rfl (by simp) ?_
  generalize hr : capB b n t = r
  unfold capB at hr
  simp -implicitDefEqProofs (maxSteps := 2000000) only [c66, w1, w2, ↓reduceIte, s_skip, s_ret, s_ops0, s_seq, s_cond, s_opsK, s_seqK_n, s_seqK_r, s_cnd, s_nil, s_cons, s_guard, s_wopsK, s_putK, s_grd, q_mv, q_bin, o_mv, o_as, o_pk, v_pk, o_bin, v_add, v_sub, v_eql, v_seql, v_part_t, o_al, o_ld, v_ld_p, v_ldC, o_st, v_st_p, v_stCK, o_bd, v_agK, v_bd_n, v_bd_c, o_bs, v_bsK, v_lit_n, v_lit_c, o_call, e_t, e_k, e_put, e_get, e_res, e_keep_n, e_keep_c, e_keep1_s, e_asg_b, St.init, enum, List.length_nil, List.length_cons, Option.getD_some, Nat.reduceEqDiff, Nat.reduceAdd, reduceCtorEq, true_and, and_true, cond_false, Bool.not_true, Bool.false_eq_true, decide_eq_true_eq, s_ret_r, s_retX, s_cells_n, t_lf, t_b, r_n, r_t, r_cons, one_1, List.map_cons, List.map_nil, PV.leaves, List.flatMap_cons, List.flatMap_nil, List.append_nil, List.cons_append, List.nil_append, List.all_cons, List.all_nil, Bool.and_true, Bool.true_and, Bool.and_self, PV.cells, cellL, datL, fillL, Nat.reduceMul, Nat.reduceLeDiff, Nat.zero_le, Nat.le_refl, BEq.rfl, List.take_zero, List.drop_zero, List.take_succ_cons, List.drop_succ_cons, List.drop_nil, List.take_nil, kp_b, kp_i, kp_s, kc_i, kc_s, ro_b, ro_i, ro_s, rl_i, rl_s, kp_p, kp_lro, ro_p, ro_lo, rl_l, m_lf, m_ag, m_n, m_c, m_all, st_b, d_n, d_c, dw_n, dw_i, dw_s, dw_lo, plT, ne_eq, not_false_eq_true, lit_n, lit_c, List.reduceReplicate, List.set_cons_zero, Nat.lt_add_one, Nat.zero_add, Nat.add_zero]
  with_reducible refine ite_pr (fun h => ?_) (fun h => ?_)
  · rw [if_pos h] at hr
    with_reducible refine ite_pr (fun h2 => ?_) (fun h2 => ?_)
    · rw [decide_eq_true h2] at hr
      simpa using hr
    · rw [decide_eq_false h2] at hr
      simpa using hr
  · rw [if_neg h] at hr
    cases hf : fldB (b + 16) n t
    · have h80 := r80b (X := X) (b + 16) n t (by omega) hf [] []
      rw [hf] at hr
      simp only [nodeL] at h80
      refine wcall_down h80 rfl ?_
      simp -implicitDefEqProofs (maxSteps := 2000000) only [c66, Int.reduceEq, decide_true, decide_false, ↓reduceIte, s_ret, s_ops0, s_seq, s_opsK, s_seqK_n, s_nil, s_cons, s_wopsK, s_putK, o_mv, o_as, o_bin, v_eql, o_ext, v_ext0, v_ext1, e_t, e_k, e_put, e_get, e_res, e_keep_n, e_keep_c, e_keep1_s, e_asg_b, e_asg_i, e_asg_r, Option.getD_some, Nat.reduceEqDiff, true_and, and_true, Bool.false_eq_true, s_ret_r, s_retX, s_cells_n, t_lf, t_b, r_n, r_t, r_cons, one_1, St.clr, outV, ownsV, owns1, ownL, List.map_cons, List.map_nil, List.any_cons, List.any_nil, Bool.or_self, Bool.and_true, Bool.true_and, BEq.rfl, ro_b, ro_i, ro_s, ol_i, ro_p, ro_lro, ro_lo, ol_lr, m_lf, m_ag, m_tp, m_1l, m_n, m_c, m_all, dw_n, dw_i, dw_s, dw_lo]
      exact hr
    · have h80 := r80a (X := X) (b + 16) n t (by omega) hf [] []
      rw [hf] at hr
      simp only [nodeL] at h80
      refine wcall_down h80 rfl ?_
      simp -implicitDefEqProofs (maxSteps := 2000000) only [c66, Int.reduceEq, decide_true, decide_false, ↓reduceIte, s_ret, s_ops0, s_seq, s_opsK, s_seqK_n, s_nil, s_cons, s_wopsK, s_putK, o_mv, o_as, o_bin, v_eql, o_ext, v_ext0, v_ext1, e_t, e_k, e_put, e_get, e_res, e_keep_n, e_keep_c, e_keep1_s, e_asg_b, e_asg_i, e_asg_r, Option.getD_some, Nat.reduceEqDiff, true_and, and_true, Bool.false_eq_true, s_ret_r, s_retX, s_cells_n, t_lf, t_b, r_n, r_t, r_cons, one_1, St.clr, outV, ownsV, owns1, ownL, List.map_cons, List.map_nil, List.any_cons, List.any_nil, Bool.or_self, Bool.and_true, Bool.true_and, BEq.rfl, ro_b, ro_i, ro_s, ol_i, ro_p, ro_lro, ro_lo, ol_lr, m_lf, m_ag, m_tp, m_1l, m_n, m_c, m_all, dw_n, dw_i, dw_s, dw_lo]
      exact hr
end Go.Proofs.YthcpaohmajjopaaDoor.I
