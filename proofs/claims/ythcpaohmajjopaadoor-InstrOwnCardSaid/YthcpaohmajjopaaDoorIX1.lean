/- Contracts, part IX1. -/
import Derived.Test.YthcpaohmajjopaaDoorProg
import Derived.Test.YthcpaohmajjopaaDoorAmLeaf2
import Derived.Test.YthcpaohmajjopaaDoorAmOpen
import Derived.Test.YthcpaohmajjopaaDoorAmLaid
set_option maxRecDepth 100000
namespace Go.Proofs.YthcpaohmajjopaaDoor.I
open Go Go.Proofs.YthcpaohmajjopaaDoor.AM
/-- harrow/harrowlaw16.InstrSame -/
abbrev c3_0 : AC := .seq (.ops 0 [⟨(some 5), .call 9 [], none⟩, ⟨(some 6), .mv (.t 5), none⟩, ⟨(some 7), .mv (.t 0), (some (6, true))⟩, ⟨(some 8), .mv (.t 1), (some (6, true))⟩, ⟨(some 9), .call 10 [(.t 7), (.t 8)], (some (6, true))⟩, ⟨(some 10), .mv (.t 0), (some (6, true))⟩, ⟨(some 11), .mv (.t 1), (some (6, true))⟩, ⟨(some 12), .call 11 [(.t 10), (.t 11)], (some (6, true))⟩, ⟨(some 13), .bqb false (.t 9) (.t 12), (some (6, true))⟩, ⟨(some 14), .pk (.t 6) (.t 13) (.k (.lf (.bool false))), none⟩, ⟨(some 15), .mv (.t 14), none⟩, ⟨(some 16), .mv (.t 0), (some (15, true))⟩, ⟨(some 17), .mv (.t 0), (some (15, true))⟩, ⟨(some 18), .call 10 [(.t 16), (.t 17)], (some (15, true))⟩, ⟨(some 19), .pk (.t 15) (.t 18) (.k (.lf (.bool false))), none⟩, ⟨(some 4), .as 0 0 (.t 19), none⟩] [4]) .ret
abbrev c3_1 : AC := .seq (.ops 0 [⟨(some 4), .as 0 0 (.k (.lf (.bool false))), none⟩] [0, 1]) c3_0
abbrev c3 : AC := c3_1
/-- harrow/harrowlaw16.lives -/
abbrev c9_0 : AC := .seq (.ops 0 [⟨(some 17), .mv (.t 2), none⟩, ⟨(some 18), .bin .eql (.t 17) (.k (.lf (.int .i64 0))), none⟩, ⟨(some 19), .mv (.t 18), none⟩, ⟨(some 20), .mv (.t 4), (some (19, true))⟩, ⟨(some 21), .bin .eql (.t 20) (.k (.lf (.int .i64 163))), (some (19, true))⟩, ⟨(some 22), .pk (.t 19) (.t 21) (.k (.lf (.bool false))), none⟩, ⟨(some 0), .as 0 0 (.t 22), none⟩] [0]) .ret
abbrev c9_1 : AC := .seq (.ops 0 [⟨(some 12), .bd [.int .i64 0, .int .i64 0, .int .i64 0, .int .i64 0, .str ⟨#[]⟩, .int .u64 0, .int .u64 0, .int .u64 0, .int .u64 0] [(0, 1, (.k (.lf (.int .i64 1))))], none⟩, ⟨(some 13), .bs 52 9 1 [.int .i64 0, .int .i64 0, .int .i64 0, .int .i64 0, .str ⟨#[]⟩, .int .u64 0, .int .u64 0, .int .u64 0, .int .u64 0] [(0, (.t 12))], none⟩, ⟨(some 14), .call 28 [(.t 13)], none⟩, ⟨(some 11), .mv (.t 14), none⟩, ⟨(some 15), .ext (.t 11) 0, none⟩, ⟨(some 16), .ext (.t 11) 1, none⟩, ⟨(some 3), .as 0 0 (.t 15), none⟩, ⟨(some 4), .as 0 0 (.t 16), none⟩] [2, 4]) c9_0
abbrev c9_2 : AC := .seq (.ops 0 [⟨(some 6), .bd [.int .i64 0, .int .i64 0, .int .i64 0, .int .i64 0, .str ⟨#[]⟩, .int .u64 0, .int .u64 0, .int .u64 0, .int .u64 0] [(0, 1, (.k (.lf (.int .i64 17))))], none⟩, ⟨(some 7), .bs 52 9 1 [.int .i64 0, .int .i64 0, .int .i64 0, .int .i64 0, .str ⟨#[]⟩, .int .u64 0, .int .u64 0, .int .u64 0, .int .u64 0] [(0, (.t 6))], none⟩, ⟨(some 8), .call 28 [(.t 7)], none⟩, ⟨(some 5), .mv (.t 8), none⟩, ⟨(some 9), .ext (.t 5) 0, none⟩, ⟨(some 10), .ext (.t 5) 1, none⟩, ⟨(some 1), .as 0 0 (.t 9), none⟩, ⟨(some 2), .as 0 0 (.t 10), none⟩] [2]) c9_1
abbrev c9_3 : AC := .seq (.ops 0 [⟨(some 0), .as 0 0 (.k (.lf (.bool false))), none⟩] []) c9_2
abbrev c9 : AC := c9_3
theorem c9_ok : compileFn Tryd.prog 9 = some (23, AC.strip c9, [.t 0]) := by kernel_rfl
/-- harrow/harrowbook.SameCode -/
abbrev c11_0 : AC := .seq (.ops 0 [⟨(some 4), .as 0 0 (.k (.lf (.bool false))), none⟩] [4]) .ret
abbrev c11_1 : AC := .cond (.t 10) c11_0 .skip
abbrev c11_2 : AC := .seq (.ops 0 [⟨(some 6), .mv (.t 0), none⟩, ⟨(some 7), .len (.t 6), none⟩, ⟨(some 8), .mv (.t 1), none⟩, ⟨(some 9), .len (.t 8), none⟩, ⟨(some 10), .bin .neq (.t 7) (.t 9), none⟩] [0, 1, 10]) c11_1
abbrev c11_3 : AC := .cond (.t 14) .skip (.exit 0)
abbrev c11_4 : AC := .seq (.ops 0 [⟨(some 11), .mv (.t 5), none⟩, ⟨(some 12), .mv (.t 0), none⟩, ⟨(some 13), .len (.t 12), none⟩, ⟨(some 14), .bin .lss (.t 11) (.t 13), none⟩] [0, 1, 5, 14]) c11_3
abbrev c11_5 : AC := .seq (.ops 0 [⟨(some 4), .as 0 0 (.k (.lf (.bool false))), none⟩] [4]) .ret
abbrev c11_6 : AC := .cond (.t 25) c11_5 .skip
abbrev c11_7 : AC := .seq (.ops 2 [⟨(some 17), .mv (.t 0), none⟩, ⟨(some 18), .mv (.t 5), none⟩, ⟨(some 19), .ia (.t 17) (.t 18) 9, none⟩, ⟨(some 20), .ld (.t 19) 9 true, none⟩, ⟨(some 21), .mv (.t 1), none⟩, ⟨(some 22), .mv (.t 5), none⟩, ⟨(some 23), .ia (.t 21) (.t 22) 9, none⟩, ⟨(some 24), .ld (.t 23) 9 true, none⟩, ⟨(some 25), .beq true [2, 2, 2, 2, 3, 2, 2, 2, 2] (.t 20) (.t 24), none⟩] [0, 1, 5, 25]) c11_6
abbrev c11_8 : AC := .block 1 c11_7
abbrev c11_9 : AC := .seq c11_8 (.ops 0 [⟨(some 15), .mv (.t 5), none⟩, ⟨(some 16), .bin .add (.t 15) (.k (.lf (.int .i64 1))), none⟩, ⟨(some 5), .as 0 0 (.t 16), none⟩] [0, 1, 5])
abbrev c11_10 : AC := .seq c11_4 c11_9
abbrev c11_11 : AC := .loop c11_10 [0, 1, 5]
abbrev c11_12 : AC := .block 0 c11_11
abbrev c11_13 : AC := .seq (.ops 0 [⟨(some 5), .as 0 0 (.k (.lf (.int .i64 0))), none⟩] [0, 1, 5]) c11_12
abbrev c11_14 : AC := .seq (.ops 0 [⟨(some 4), .as 0 0 (.k (.lf (.bool true))), none⟩] [4]) .ret
abbrev c11_15 : AC := .seq c11_13 c11_14
abbrev c11_16 : AC := .seq c11_2 c11_15
abbrev c11_17 : AC := .seq (.ops 0 [⟨(some 4), .as 0 0 (.k (.lf (.bool false))), none⟩] [0, 1]) c11_16
abbrev c11 : AC := c11_17
theorem c11_ok : compileFn Tryd.prog 11 = some (26, AC.strip c11, [.t 4]) := by kernel_rfl
/-- harrow/instr.Check -/
abbrev c28_0 : AC := .seq (.ops 0 [⟨(some 2), .as 0 0 (.k (.lf (.int .i64 0))), none⟩, ⟨(some 3), .as 0 0 (.k (.lf (.int .i64 2))), none⟩] [2, 3]) .ret
abbrev c28_1 : AC := .cond (.t 9) c28_0 .skip
abbrev c28_2 : AC := .seq (.ops 0 [⟨(some 7), .mv (.t 0), none⟩, ⟨(some 8), .len (.t 7), none⟩, ⟨(some 9), .bin .gtr (.t 8) (.k (.lf (.int .i64 8192))), none⟩] [0, 9]) c28_1
abbrev c28_3 : AC := .seq (.ops 0 [⟨(some 2), .as 0 0 (.k (.lf (.int .i64 0))), none⟩, ⟨(some 3), .as 0 0 (.k (.lf (.int .i64 3))), none⟩] [2, 3]) .ret
abbrev c28_4 : AC := .cond (.t 12) c28_3 .skip
abbrev c28_5 : AC := .seq (.ops 0 [⟨(some 10), .mv (.t 0), none⟩, ⟨(some 11), .len (.t 10), none⟩, ⟨(some 12), .bin .eql (.t 11) (.k (.lf (.int .i64 0))), none⟩] [0, 12]) c28_4
abbrev c28_6 : AC := .cond (.t 16) .skip (.exit 0)
abbrev c28_7 : AC := .seq (.ops 0 [⟨(some 25), .mv (.t 4), none⟩, ⟨(some 2), .as 0 0 (.t 25), none⟩, ⟨(some 3), .as 0 0 (.k (.lf (.int .i64 160))), none⟩] [2, 3]) .ret
abbrev c28_8 : AC := .seq (.ops 0 [⟨(some 30), .mv (.t 4), none⟩, ⟨(some 2), .as 0 0 (.t 30), none⟩, ⟨(some 3), .as 0 0 (.k (.lf (.int .i64 161))), none⟩] [2, 3]) .ret
abbrev c28_9 : AC := .seq (.ops 0 [⟨(some 51), .mv (.t 4), none⟩, ⟨(some 2), .as 0 0 (.t 51), none⟩, ⟨(some 3), .as 0 0 (.k (.lf (.int .i64 162))), none⟩] [2, 3]) .ret
abbrev c28_10 : AC := .cond (.t 31) c28_9 .skip
abbrev c28_11 : AC := .seq (.ops 0 [⟨(some 32), .fa (.t 5) 0, none⟩, ⟨(some 33), .ld (.t 32) 1 false, none⟩, ⟨(some 34), .call 50 [(.t 33), (.k (.lf (.int .i64 32)))], none⟩, ⟨(some 35), .mv (.t 34), none⟩, ⟨(some 36), .fa (.t 5) 1, (some (35, true))⟩, ⟨(some 37), .ld (.t 36) 1 false, (some (35, true))⟩, ⟨(some 38), .mv (.t 4), (some (35, true))⟩, ⟨(some 39), .un .neg (.t 38), (some (35, true))⟩, ⟨(some 40), .bin .lss (.t 37) (.t 39), (some (35, true))⟩, ⟨(some 41), .mv (.t 40), (some (35, true))⟩, ⟨(some 42), .fa (.t 5) 1, (some (41, false))⟩, ⟨(some 43), .ld (.t 42) 1 false, (some (41, false))⟩, ⟨(some 44), .mv (.t 0), (some (41, false))⟩, ⟨(some 45), .len (.t 44), (some (41, false))⟩, ⟨(some 46), .mv (.t 4), (some (41, false))⟩, ⟨(some 47), .bin .sub (.t 45) (.t 46), (some (41, false))⟩, ⟨(some 48), .bin .geq (.t 43) (.t 47), (some (41, false))⟩, ⟨(some 49), .pk (.t 41) (.k (.lf (.bool true))) (.t 48), (some (35, true))⟩, ⟨(some 50), .pk (.t 35) (.t 49) (.k (.lf (.bool false))), none⟩, ⟨(some 31), .as 0 0 (.t 50), none⟩] [0, 4, 13, 14, 15, 31]) c28_10
abbrev c28_12 : AC := .cond (.t 26) c28_8 c28_11
abbrev c28_13 : AC := .seq (.ops 0 [⟨(some 27), .ld (.t 5) 9 true, none⟩, ⟨(some 28), .call 49 [(.t 27)], none⟩, ⟨(some 29), .un .not (.t 28), none⟩, ⟨(some 26), .as 0 0 (.t 29), none⟩] [0, 4, 5, 13, 14, 15, 26]) c28_12
abbrev c28_14 : AC := .cond (.t 20) c28_7 c28_13
abbrev c28_15 : AC := .seq (.ops 0 [⟨(some 21), .fa (.t 5) 0, none⟩, ⟨(some 22), .ld (.t 21) 1 false, none⟩, ⟨(some 23), .call 31 [(.t 22)], none⟩, ⟨(some 24), .un .not (.t 23), none⟩, ⟨(some 20), .as 0 0 (.t 24), none⟩] [0, 4, 5, 13, 14, 15, 20]) c28_14
abbrev c28_16 : AC := .block 2 c28_15
abbrev c28_17 : AC := .seq (.ops 0 [⟨(some 17), .mv (.t 15), none⟩, ⟨(some 18), .ia (.t 13) (.t 15) 9, none⟩, ⟨(some 19), .ld (.t 18) 9 true, none⟩, ⟨(some 5), .al [.int .i64 0, .int .i64 0, .int .i64 0, .int .i64 0, .str ⟨#[]⟩, .int .u64 0, .int .u64 0, .int .u64 0, .int .u64 0], none⟩, ⟨(some 4), .as 0 0 (.t 17), none⟩, ⟨none, .st (.t 5) (.t 19) 9, none⟩] [0, 4, 5, 13, 14, 15]) c28_16
abbrev c28_18 : AC := .block 1 c28_17
abbrev c28_19 : AC := .seq c28_18 (.ops 0 [⟨(some 52), .bin .add (.t 15) (.k (.lf (.int .i64 1))), none⟩, ⟨(some 15), .mv (.t 52), none⟩] [0, 13, 14, 15])
abbrev c28_20 : AC := .seq c28_6 c28_19
abbrev c28_21 : AC := .seq (.ops 0 [⟨(some 16), .bin .lss (.t 15) (.t 14), none⟩] [0, 13, 14, 15, 16]) c28_20
abbrev c28_22 : AC := .loop c28_21 [0, 13, 14, 15]
abbrev c28_23 : AC := .block 0 c28_22
abbrev c28_24 : AC := .seq (.ops 0 [⟨(some 13), .mv (.t 0), none⟩, ⟨(some 14), .len (.t 13), none⟩, ⟨(some 15), .mv (.k (.lf (.int .i64 0))), none⟩] [0, 13, 14, 15]) c28_23
abbrev c28_25 : AC := .seq (.ops 0 [⟨(some 62), .mv (.t 6), none⟩, ⟨(some 2), .as 0 0 (.t 62), none⟩, ⟨(some 3), .as 0 0 (.k (.lf (.int .i64 163))), none⟩] [2, 3]) .ret
abbrev c28_26 : AC := .cond (.t 61) c28_25 .skip
abbrev c28_27 : AC := .seq (.ops 0 [⟨(some 56), .mv (.t 0), none⟩, ⟨(some 57), .mv (.t 6), none⟩, ⟨(some 58), .ia (.t 56) (.t 57) 9, none⟩, ⟨(some 59), .fa (.t 58) 0, none⟩, ⟨(some 60), .ld (.t 59) 1 false, none⟩, ⟨(some 61), .call 50 [(.t 60), (.k (.lf (.int .i64 64)))], none⟩] [6, 61]) c28_26
abbrev c28_28 : AC := .seq (.ops 0 [⟨(some 53), .mv (.t 0), none⟩, ⟨(some 54), .len (.t 53), none⟩, ⟨(some 55), .bin .sub (.t 54) (.k (.lf (.int .i64 1))), none⟩, ⟨(some 6), .as 0 0 (.t 55), none⟩] [0, 6]) c28_27
abbrev c28_29 : AC := .seq (.ops 0 [⟨(some 2), .as 0 0 (.k (.lf (.int .i64 0))), none⟩, ⟨(some 3), .as 0 0 (.k (.lf (.int .i64 0))), none⟩] [2, 3]) .ret
abbrev c28_30 : AC := .seq c28_28 c28_29
abbrev c28_31 : AC := .seq c28_24 c28_30
abbrev c28_32 : AC := .seq c28_5 c28_31
abbrev c28_33 : AC := .seq c28_2 c28_32
abbrev c28_34 : AC := .seq (.ops 0 [⟨(some 2), .as 0 0 (.k (.lf (.int .i64 0))), none⟩, ⟨(some 3), .as 0 0 (.k (.lf (.int .i64 0))), none⟩] [0]) c28_33
abbrev c28 : AC := c28_34
theorem c28_ok : compileFn Tryd.prog 28 = some (63, AC.strip c28, [.t 2, .t 3]) := by kernel_rfl
/-- harrow/instr.is -/
abbrev c31_0 : AC := .seq (.ops 0 [⟨(some 3), .mv (.t 0), none⟩, ⟨(some 4), .bin .geq (.t 3) (.k (.lf (.int .i64 1))), none⟩, ⟨(some 5), .mv (.t 4), none⟩, ⟨(some 6), .mv (.t 0), (some (5, true))⟩, ⟨(some 7), .bin .leq (.t 6) (.k (.lf (.int .i64 20))), (some (5, true))⟩, ⟨(some 8), .pk (.t 5) (.t 7) (.k (.lf (.bool false))), none⟩, ⟨(some 2), .as 0 0 (.t 8), none⟩] [2]) .ret
abbrev c31_1 : AC := .seq (.ops 0 [⟨(some 2), .as 0 0 (.k (.lf (.bool false))), none⟩] [0]) c31_0
abbrev c31 : AC := c31_1
theorem c31_ok : compileFn Tryd.prog 31 = some (9, AC.strip c31, [.t 2]) := by kernel_rfl
/-- harrow/instr.fits -/
abbrev c49_0 : AC := .seq (.ops 0 [⟨(some 2), .as 0 0 (.k (.lf (.bool false))), none⟩] [2]) .ret
abbrev c49_1 : AC := .cond (.t 6) c49_0 .skip
abbrev c49_2 : AC := .seq (.ops 2 [⟨(some 3), .ld (.t 1) 9 true, none⟩, ⟨(some 4), .ld (.t 1) 9 true, none⟩, ⟨(some 5), .call 65 [(.t 4)], none⟩, ⟨(some 6), .beq true [2, 2, 2, 2, 3, 2, 2, 2, 2] (.t 3) (.t 5), none⟩] [1, 6]) c49_1
abbrev c49_3 : AC := .cond (.t 9) .skip (.ops 0 [⟨(some 11), .bin .eql (.t 8) (.k (.lf (.int .i64 5))), none⟩, ⟨(some 9), .as 0 0 (.t 11), none⟩] [1, 8, 9])
abbrev c49_4 : AC := .seq (.ops 0 [⟨(some 10), .bin .eql (.t 8) (.k (.lf (.int .i64 2))), none⟩, ⟨(some 9), .as 0 0 (.t 10), none⟩] [1, 8, 9]) c49_3
abbrev c49_5 : AC := .seq (.ops 0 [⟨(some 12), .fa (.t 1) 2, none⟩, ⟨(some 13), .ld (.t 12) 1 false, none⟩, ⟨(some 14), .bin .geq (.t 13) (.k (.lf (.int .i64 0))), none⟩, ⟨(some 15), .mv (.t 14), none⟩, ⟨(some 16), .fa (.t 1) 2, (some (15, true))⟩, ⟨(some 17), .ld (.t 16) 1 false, (some (15, true))⟩, ⟨(some 18), .bin .leq (.t 17) (.k (.lf (.int .i64 255))), (some (15, true))⟩, ⟨(some 19), .pk (.t 15) (.t 18) (.k (.lf (.bool false))), none⟩, ⟨(some 2), .as 0 0 (.t 19), none⟩] [2]) .ret
abbrev c49_6 : AC := .seq (.ops 0 [⟨(some 22), .fa (.t 1) 2, none⟩, ⟨(some 23), .ld (.t 22) 1 false, none⟩, ⟨(some 24), .bin .geq (.t 23) (.k (.lf (.int .i64 2))), none⟩, ⟨(some 25), .mv (.t 24), none⟩, ⟨(some 26), .fa (.t 1) 2, (some (25, true))⟩, ⟨(some 27), .ld (.t 26) 1 false, (some (25, true))⟩, ⟨(some 28), .bin .leq (.t 27) (.k (.lf (.int .i64 7))), (some (25, true))⟩, ⟨(some 29), .pk (.t 25) (.t 28) (.k (.lf (.bool false))), none⟩, ⟨(some 30), .mv (.t 29), none⟩, ⟨(some 31), .fa (.t 1) 2, (some (30, true))⟩, ⟨(some 32), .ld (.t 31) 1 false, (some (30, true))⟩, ⟨(some 33), .fa (.t 1) 3, (some (30, true))⟩, ⟨(some 34), .ld (.t 33) 1 false, (some (30, true))⟩, ⟨(some 35), .fa (.t 1) 4, (some (30, true))⟩, ⟨(some 36), .ld (.t 35) 1 false, (some (30, true))⟩, ⟨(some 37), .call 66 [(.t 32), (.t 34), (.t 36)], (some (30, true))⟩, ⟨(some 38), .pk (.t 30) (.t 37) (.k (.lf (.bool false))), none⟩, ⟨(some 2), .as 0 0 (.t 38), none⟩] [2]) .ret
abbrev c49_7 : AC := .seq (.ops 0 [⟨(some 2), .as 0 0 (.k (.lf (.bool false))), none⟩] [2]) .ret
abbrev c49_8 : AC := .cond (.t 68) c49_7 .skip
abbrev c49_9 : AC := .seq (.ops 0 [⟨(some 41), .fa (.t 1) 2, none⟩, ⟨(some 42), .ld (.t 41) 1 false, none⟩, ⟨(some 43), .bin .lss (.t 42) (.k (.lf (.int .i64 1))), none⟩, ⟨(some 44), .mv (.t 43), none⟩, ⟨(some 45), .fa (.t 1) 2, (some (44, false))⟩, ⟨(some 46), .ld (.t 45) 1 false, (some (44, false))⟩, ⟨(some 47), .bin .gtr (.t 46) (.k (.lf (.int .i64 7))), (some (44, false))⟩, ⟨(some 48), .pk (.t 44) (.k (.lf (.bool true))) (.t 47), none⟩, ⟨(some 49), .mv (.t 48), none⟩, ⟨(some 50), .fa (.t 1) 1, (some (49, false))⟩, ⟨(some 51), .ld (.t 50) 1 false, (some (49, false))⟩, ⟨(some 52), .bin .lss (.t 51) (.k (.lf (.int .i64 0))), (some (49, false))⟩, ⟨(some 53), .pk (.t 49) (.k (.lf (.bool true))) (.t 52), none⟩, ⟨(some 54), .mv (.t 53), none⟩, ⟨(some 55), .fa (.t 1) 1, (some (54, false))⟩, ⟨(some 56), .ld (.t 55) 1 false, (some (54, false))⟩, ⟨(some 57), .bin .gtr (.t 56) (.k (.lf (.int .i64 255))), (some (54, false))⟩, ⟨(some 58), .pk (.t 54) (.k (.lf (.bool true))) (.t 57), none⟩, ⟨(some 59), .mv (.t 58), none⟩, ⟨(some 60), .fa (.t 1) 2, (some (59, false))⟩, ⟨(some 61), .ld (.t 60) 1 false, (some (59, false))⟩, ⟨(some 62), .bin .eql (.t 61) (.k (.lf (.int .i64 1))), (some (59, false))⟩, ⟨(some 63), .mv (.t 62), (some (59, false))⟩, ⟨(some 64), .fa (.t 1) 1, (some (63, true))⟩, ⟨(some 65), .ld (.t 64) 1 false, (some (63, true))⟩, ⟨(some 66), .bin .gtr (.t 65) (.k (.lf (.int .i64 0))), (some (63, true))⟩, ⟨(some 67), .pk (.t 63) (.t 66) (.k (.lf (.bool false))), (some (59, false))⟩, ⟨(some 68), .pk (.t 59) (.k (.lf (.bool true))) (.t 67), none⟩] [1, 68]) c49_8
abbrev c49_10 : AC := .seq (.ops 0 [⟨(some 69), .fa (.t 1) 2, none⟩, ⟨(some 70), .ld (.t 69) 1 false, none⟩, ⟨(some 71), .fa (.t 1) 3, none⟩, ⟨(some 72), .ld (.t 71) 1 false, none⟩, ⟨(some 73), .fa (.t 1) 4, none⟩, ⟨(some 74), .ld (.t 73) 1 false, none⟩, ⟨(some 75), .call 66 [(.t 70), (.t 72), (.t 74)], none⟩, ⟨(some 2), .as 0 0 (.t 75), none⟩] [2]) .ret
abbrev c49_11 : AC := .seq c49_9 c49_10
abbrev c49_12 : AC := .cond (.t 39) c49_11 .skip
abbrev c49_13 : AC := .seq (.ops 0 [⟨(some 40), .bin .eql (.t 8) (.k (.lf (.int .i64 20))), none⟩, ⟨(some 39), .as 0 0 (.t 40), none⟩] [1, 39]) c49_12
abbrev c49_14 : AC := .cond (.t 20) c49_6 c49_13
abbrev c49_15 : AC := .seq (.ops 0 [⟨(some 21), .bin .eql (.t 8) (.k (.lf (.int .i64 18))), none⟩, ⟨(some 20), .as 0 0 (.t 21), none⟩] [1, 8, 20]) c49_14
abbrev c49_16 : AC := .cond (.t 9) c49_5 c49_15
abbrev c49_17 : AC := .seq c49_4 c49_16
abbrev c49_18 : AC := .block 0 c49_17
abbrev c49_19 : AC := .seq (.ops 0 [⟨(some 7), .fa (.t 1) 0, none⟩, ⟨(some 8), .ld (.t 7) 1 false, none⟩] [1, 8]) c49_18
abbrev c49_20 : AC := .seq (.ops 0 [⟨(some 2), .as 0 0 (.k (.lf (.bool true))), none⟩] [2]) .ret
abbrev c49_21 : AC := .seq c49_19 c49_20
abbrev c49_22 : AC := .seq c49_2 c49_21
abbrev c49_23 : AC := .seq (.ops 0 [⟨(some 1), .bx (.t 0), none⟩, ⟨(some 2), .as 0 0 (.k (.lf (.bool false))), none⟩] [1]) c49_22
abbrev c49 : AC := c49_23
theorem c49_ok : compileFn Tryd.prog 49 = some (76, AC.strip c49, [.t 2]) := by kernel_rfl
/-- harrow/instr.has -/
abbrev c50_0 : AC := .seq (.ops 0 [⟨(some 5), .mv (.t 0), none⟩, ⟨(some 6), .iaa (.k (.lf (.gl 1 0))) (.t 5) 21 1, none⟩, ⟨(some 7), .ld (.t 6) 1 false, none⟩, ⟨(some 8), .mv (.t 1), none⟩, ⟨(some 9), .bin .and (.t 7) (.t 8), none⟩, ⟨(some 10), .bin .neq (.t 9) (.k (.lf (.int .i64 0))), none⟩, ⟨(some 4), .as 0 0 (.t 10), none⟩] [4]) .ret
abbrev c50_1 : AC := .seq (.ops 0 [⟨(some 4), .as 0 0 (.k (.lf (.bool false))), none⟩] [0, 1]) c50_0
abbrev c50 : AC := c50_1
theorem c50_ok : compileFn Tryd.prog 50 = some (11, AC.strip c50, [.t 4]) := by kernel_rfl
/-- harrow/instr.plain -/
abbrev c65_0 : AC := .cond (.t 9) (.ops 0 [⟨(some 10), .fa (.t 1) 1, none⟩, ⟨(some 11), .ld (.t 10) 1 false, none⟩, ⟨(some 12), .fa (.t 3) 1, none⟩, ⟨none, .st (.t 12) (.t 11) 1, none⟩] [1, 2, 3]) .skip
abbrev c65_1 : AC := .seq (.ops 0 [⟨(some 7), .fa (.t 1) 0, none⟩, ⟨(some 8), .ld (.t 7) 1 false, none⟩, ⟨(some 9), .call 50 [(.t 8), (.k (.lf (.int .i64 1)))], none⟩] [1, 2, 3, 9]) c65_0
abbrev c65_2 : AC := .cond (.t 15) (.ops 0 [⟨(some 16), .fa (.t 1) 2, none⟩, ⟨(some 17), .ld (.t 16) 1 false, none⟩, ⟨(some 18), .fa (.t 3) 2, none⟩, ⟨none, .st (.t 18) (.t 17) 1, none⟩] [1, 2, 3]) .skip
abbrev c65_3 : AC := .seq (.ops 0 [⟨(some 13), .fa (.t 1) 0, none⟩, ⟨(some 14), .ld (.t 13) 1 false, none⟩, ⟨(some 15), .call 50 [(.t 14), (.k (.lf (.int .i64 2)))], none⟩] [1, 2, 3, 15]) c65_2
abbrev c65_4 : AC := .cond (.t 21) (.ops 0 [⟨(some 22), .fa (.t 1) 3, none⟩, ⟨(some 23), .ld (.t 22) 1 false, none⟩, ⟨(some 24), .fa (.t 3) 3, none⟩, ⟨none, .st (.t 24) (.t 23) 1, none⟩] [1, 2, 3]) .skip
abbrev c65_5 : AC := .seq (.ops 0 [⟨(some 19), .fa (.t 1) 0, none⟩, ⟨(some 20), .ld (.t 19) 1 false, none⟩, ⟨(some 21), .call 50 [(.t 20), (.k (.lf (.int .i64 4)))], none⟩] [1, 2, 3, 21]) c65_4
abbrev c65_6 : AC := .cond (.t 27) (.ops 0 [⟨(some 28), .fa (.t 1) 4, none⟩, ⟨(some 29), .ld (.t 28) 1 false, none⟩, ⟨(some 30), .fa (.t 3) 4, none⟩, ⟨none, .st (.t 30) (.t 29) 1, none⟩] [1, 2, 3]) .skip
abbrev c65_7 : AC := .seq (.ops 0 [⟨(some 25), .fa (.t 1) 0, none⟩, ⟨(some 26), .ld (.t 25) 1 false, none⟩, ⟨(some 27), .call 50 [(.t 26), (.k (.lf (.int .i64 8)))], none⟩] [1, 2, 3, 27]) c65_6
abbrev c65_8 : AC := .cond (.t 33) (.ops 0 [⟨(some 34), .fa (.t 1) 5, none⟩, ⟨(some 35), .ld (.t 34) 4 true, none⟩, ⟨(some 36), .fa (.t 3) 5, none⟩, ⟨none, .st (.t 36) (.t 35) 4, none⟩] [2, 3]) .skip
abbrev c65_9 : AC := .seq (.ops 0 [⟨(some 31), .fa (.t 1) 0, none⟩, ⟨(some 32), .ld (.t 31) 1 false, none⟩, ⟨(some 33), .call 50 [(.t 32), (.k (.lf (.int .i64 16)))], none⟩] [1, 2, 3, 33]) c65_8
abbrev c65_10 : AC := .seq (.ops 0 [⟨(some 37), .ld (.t 3) 9 true, none⟩, ⟨none, .st (.t 2) (.t 37) 9, none⟩] [2]) .ret
abbrev c65_11 : AC := .seq c65_9 c65_10
abbrev c65_12 : AC := .seq c65_7 c65_11
abbrev c65_13 : AC := .seq c65_5 c65_12
abbrev c65_14 : AC := .seq c65_3 c65_13
abbrev c65_15 : AC := .seq c65_1 c65_14
abbrev c65_16 : AC := .seq (.ops 0 [⟨(some 4), .fa (.t 1) 0, none⟩, ⟨(some 5), .ld (.t 4) 1 false, none⟩, ⟨(some 6), .bd [.int .i64 0, .int .i64 0, .int .i64 0, .int .i64 0, .str ⟨#[]⟩, .int .u64 0, .int .u64 0, .int .u64 0, .int .u64 0] [(0, 1, (.t 5))], none⟩, ⟨(some 3), .al [.int .i64 0, .int .i64 0, .int .i64 0, .int .i64 0, .str ⟨#[]⟩, .int .u64 0, .int .u64 0, .int .u64 0, .int .u64 0], none⟩, ⟨none, .st (.t 3) (.t 6) 9, none⟩] [1, 2, 3]) c65_15
abbrev c65_17 : AC := .seq (.ops 0 [⟨(some 1), .bx (.t 0), none⟩, ⟨(some 2), .al [.int .i64 0, .int .i64 0, .int .i64 0, .int .i64 0, .str ⟨#[]⟩, .int .u64 0, .int .u64 0, .int .u64 0, .int .u64 0], none⟩] [1, 2]) c65_16
abbrev c65 : AC := c65_17
theorem c65_ok : compileFn Tryd.prog 65 = some (38, AC.strip c65, [.c 2 9 true]) := by kernel_rfl
end Go.Proofs.YthcpaohmajjopaaDoor.I
set_option linter.unusedVariables false
set_option linter.unusedSimpArgs false
namespace Go.Proofs.YthcpaohmajjopaaDoor.I
open Go Go.Proofs.YthcpaohmajjopaaDoor.AM
variable {X : Cx}

theorem w8 {x : Int} (h0 : 0 ≤ x) (h1 : x ≤ 255) : IntKind.wrap .u8 x = x := by
  simp only [IntKind.wrap, IntKind.bits, IntKind.signed]; simp; omega
theorem w64 {x : Int} (h0 : -9223372036854775808 ≤ x) (h1 : x ≤ 9223372036854775807) : IntKind.wrap .i64 x = x := by
  simp only [IntKind.wrap, IntKind.bits, IntKind.signed]; simp; omega
theorem ite_pr {p : Prop} [Decidable p] {A B : Prop} (h1 : p → A) (h2 : ¬ p → B) : if p then A else B := by split <;> simp_all

/-- An instruction. -/
structure Ins where
  op : Int
  a : Int
  b : Int
  n : Int
  t : ByteArray
  s0 : Int
  s1 : Int
  s2 : Int
  s3 : Int
def Ins.c (x : Ins) : List L := [.int .i64 x.op, .int .i64 x.a, .int .i64 x.b, .int .i64 x.n, .str x.t, .int .u64 x.s0, .int .u64 x.s1, .int .u64 x.s2, .int .u64 x.s3]
def Ins.same (x y : Ins) : Bool := decide (x.op = y.op) && (decide (x.a = y.a) && (decide (x.b = y.b) && (decide (x.n = y.n) && (decide (x.t = y.t) && (decide (x.s0 = y.s0) && (decide (x.s1 = y.s1) && (decide (x.s2 = y.s2) && (decide (x.s3 = y.s3) && true))))))))
theorem Ins.same_eq {x y : Ins} : (x.same y = true) ↔ x = y := by
  cases x; cases y
  simp [Ins.same]
theorem eq_ins (x y : Ins) : eqLs x.c y.c = some (x.same y) := by
  simp [eqLs, eqL, Ins.c, Ins.same]

/-- instr.uses -/
def usesN : List Int := [0, 64, 66, 80, 97, 99, 113, 80, 97, 33, 33, 33, 0, 0, 33, 97, 0, 0, 78, 64, 79]
def usesL : List L := usesN.map (.int .i64 ·)
def useOf (k : Nat) : Int := usesN[k]?.getD 0
theorem usesL_get {k : Nat} (h : k < 21) : usesL[k]? = some (.int .i64 (useOf k)) := by
  have : usesN[k]? = some (useOf k) := by
    unfold useOf
    rw [List.getElem?_eq_getElem (by simpa [usesN] using h)]; rfl
  simp [usesL, this]
def hasB (k : Nat) (bit : Int) : Bool := decide (¬ bits .and .i64 (useOf k) bit = 0)

theorem r31 (op : Int) : R X Tryd.prog 31 [.lf (.int .i64 op)] [] (.lf (.bool (decide (1 ≤ op ∧ op ≤ 20)))) [] := by
  refine R_i [] [] c31_ok rfl (by simp) ?_
  simp -implicitDefEqProofs (maxSteps := 2000000) only [c31, ↓reduceIte, s_ret, s_ops0, s_seq, s_opsK, s_seqK_n, s_nil, s_cons, s_guard, s_wopsK, s_putK, s_grd, q_mv, q_bin, o_mv, o_as, o_pk, v_pk, o_bin, v_leq, v_geq, e_t, e_k, e_put, e_get, e_res, e_keep_n, e_keep_c, e_keep1_s, e_asg_b, St.init, enum, List.length_nil, Option.getD_some, Nat.reduceEqDiff, reduceCtorEq, true_and, and_true, cond_false, Bool.not_true, Bool.false_eq_true, decide_eq_true_eq, s_ret_r, s_retX, s_cells_n, t_lf, t_b, r_n, r_t, r_cons, one_1, Bool.and_true, Bool.true_and]
  split <;> simp_all
  intro h; omega
theorem r50 (hX : X.G 1 = some usesL) (k : Nat) (hk : k < 21) (bit : Int) : R X Tryd.prog 50 [.lf (.int .i64 k), .lf (.int .i64 bit)] [] (.lf (.bool (hasB k bit))) [] := by
  refine R_i [] [] c50_ok rfl (by simp) ?_
  have h1 : usesL[(↑k : Int).toNat * 1]? = some (.int .i64 (useOf k)) := by simpa using usesL_get hk
  simp -implicitDefEqProofs (maxSteps := 2000000) only [c50, hX, h1, ↓reduceIte, s_ret, s_ops0, s_seq, s_opsK, s_seqK_n, s_nil, s_cons, s_wopsK, s_putK, o_mv, o_as, o_bin, v_and, v_neq, v_part_f, v_atK, o_iaa, o_ld, v_ldC, e_t, e_k, e_put, e_get, e_res, e_keep_n, e_keep_c, e_keep1_s, e_asg_b, St.init, enum, List.length_nil, Option.getD_some, Nat.reduceEqDiff, reduceCtorEq, true_and, and_true, s_ret_r, s_retX, s_cells_n, t_lf, t_b, r_n, r_t, r_cons, one_1, Bool.and_true, Bool.true_and, ne_eq, Nat.zero_add, v_iaa_g, v_ld_g]
  exact ⟨⟨by omega, by omega⟩, rfl⟩
/-- which fields a kind has -/
theorem pat {k : Nat} (hk : k < 21) : ∃ p ∈ [(false, false, false, false, false), (false, true, false, false, false), (false, false, false, false, true), (true, false, false, false, false), (true, true, false, false, false), (true, false, false, false, true), (false, true, true, true, false), (true, true, true, true, false)],
    hasB k 1 = p.1 ∧ hasB k 2 = p.2.1 ∧ hasB k 4 = p.2.2.1 ∧ hasB k 8 = p.2.2.2.1 ∧ hasB k 16 = p.2.2.2.2 := by
  have h : ∀ i : Fin 21, (hasB i.val 1, hasB i.val 2, hasB i.val 4, hasB i.val 8, hasB i.val 16) ∈ [(false, false, false, false, false), (false, true, false, false, false), (false, false, false, false, true), (true, false, false, false, false), (true, true, false, false, false), (true, false, false, false, true), (false, true, true, true, false), (true, true, true, true, false)] := by decide +kernel
  exact ⟨_, h ⟨k, hk⟩, rfl, rfl, rfl, rfl, rfl⟩
def Ins.plain (k : Nat) (x : Ins) : Ins := { op := x.op, a := if hasB k 1 = true then x.a else 0, b := if hasB k 2 = true then x.b else 0, n := if hasB k 4 = true then x.n else 0, t := if hasB k 8 = true then x.t else ⟨#[]⟩, s0 := if hasB k 16 = true then x.s0 else 0, s1 := if hasB k 16 = true then x.s1 else 0, s2 := if hasB k 16 = true then x.s2 else 0, s3 := if hasB k 16 = true then x.s3 else 0 }
theorem r65 (hX : X.G 1 = some usesL) (k : Nat) (hk : k < 21) (x : Ins) (hx : x.op = k) : R X Tryd.prog 65 [.ag x.c] [] (.ag (x.plain k).c) [] := by
  obtain ⟨op, a, b, n, t, s0, s1, s2, s3⟩ := x
  simp only at hx
  subst hx
  obtain ⟨p, hp, h1, h2, h3, h4, h5⟩ := pat hk
  simp only [Ins.plain, Ins.c, h1, h2, h3, h4, h5]
  refine R_i [] [] c65_ok rfl (by simp) ?_
  simp -implicitDefEqProofs (maxSteps := 2000000) only [c65, ↓reduceIte, s_ops0, s_seq, s_opsK, s_seqK_n, s_nil, s_cons, s_wopsK, s_putK, v_part_f, v_atK, o_al, o_bx, o_fa, v_fa_p, o_ld, v_ld_p, v_ldC, o_st, v_st_p, v_stCK, o_bd, v_agK, v_bd_n, v_bd_c, o_call, e_t, e_k, e_put, e_get, e_res, e_keep_n, e_keep_c, e_keep1_s, St.init, enum, List.length_nil, List.length_cons, Option.getD_some, Nat.reduceEqDiff, Nat.reduceAdd, reduceCtorEq, true_and, Bool.false_eq_true, List.map_cons, List.map_nil, PV.leaves, List.flatMap_cons, List.flatMap_nil, List.append_nil, List.cons_append, List.nil_append, List.all_cons, List.all_nil, Bool.true_and, Bool.and_self, PV.cells, cellL, fillL, Nat.reduceBEq, Nat.reduceLeDiff, Nat.zero_le, Nat.le_refl, List.take_zero, List.drop_zero, List.drop_succ_cons, List.drop_nil, List.getElem?_cons_zero, kc_i, kc_s, rl_i, kc_p, m_lf, m_ag, m_n, m_c, m_all, st_b, d_n, d_c, ne_eq, not_false_eq_true, Nat.zero_add, Nat.add_zero, v_bx_a]
  refine wcall_s (r50 hX k hk 1) rfl rfl ?_
  simp only [List.mem_cons, List.not_mem_nil, or_false] at hp
  rcases hp with rfl | rfl | rfl | rfl | rfl | rfl | rfl | rfl
  all_goals
    simp only at h1 h2 h3 h4 h5
    simp -implicitDefEqProofs (maxSteps := 2000000) only [c65, h1, h2, h3, h4, h5, ↓reduceIte, s_skip, s_ops0, s_seq, s_cond, s_opsK, s_seqK_n, s_cnd, s_nil, s_cons, s_wopsK, s_putK, v_part_f, v_atK, o_fa, v_fa_p, o_ld, v_ld_p, v_ldC, o_st, v_st_p, v_stCK, o_call, e_t, e_k, e_put, e_get, e_res, e_keep_n, e_keep_c, e_keep1_s, List.length_nil, List.length_cons, Option.getD_some, Nat.reduceEqDiff, Nat.reduceAdd, true_and, Bool.false_eq_true, St.clr, outV, ownsV, owns1, ownL, List.map_cons, List.map_nil, PV.leaves, List.flatMap_cons, List.flatMap_nil, List.append_nil, List.cons_append, List.nil_append, List.all_cons, List.all_nil, Bool.true_and, Bool.and_self, PV.cells, cellL, fillL, Nat.reduceLeDiff, List.take_zero, List.drop_zero, List.take_succ_cons, List.drop_succ_cons, List.getElem?_cons_zero, List.getElem?_cons_succ, rl_i, ol_b, m_lf, st_i1, d_n, d_c, Nat.zero_add, Nat.add_zero]
    refine wcall_s (r50 hX k hk 2) rfl rfl ?_
    simp -implicitDefEqProofs (maxSteps := 2000000) only [c65, h1, h2, h3, h4, h5, ↓reduceIte, s_skip, s_ops0, s_seq, s_cond, s_opsK, s_seqK_n, s_cnd, s_nil, s_cons, s_wopsK, s_putK, v_part_f, v_atK, o_fa, v_fa_p, o_ld, v_ld_p, v_ldC, o_st, v_st_p, v_stCK, o_call, e_t, e_k, e_put, e_get, e_res, e_keep_n, e_keep_c, e_keep1_s, List.length_nil, List.length_cons, Option.getD_some, Nat.reduceEqDiff, Nat.reduceAdd, true_and, Bool.false_eq_true, St.clr, outV, ownsV, owns1, ownL, List.map_cons, List.map_nil, PV.leaves, List.flatMap_cons, List.flatMap_nil, List.append_nil, List.cons_append, List.nil_append, List.all_cons, List.all_nil, Bool.true_and, Bool.and_self, PV.cells, cellL, fillL, Nat.reduceLeDiff, List.take_zero, List.drop_zero, List.take_succ_cons, List.drop_succ_cons, List.getElem?_cons_zero, List.getElem?_cons_succ, rl_i, ol_b, m_lf, st_i1, d_n, d_c, Nat.zero_add, Nat.add_zero]
    refine wcall_s (r50 hX k hk 4) rfl rfl ?_
    simp -implicitDefEqProofs (maxSteps := 2000000) only [c65, h1, h2, h3, h4, h5, ↓reduceIte, s_skip, s_ops0, s_seq, s_cond, s_opsK, s_seqK_n, s_cnd, s_nil, s_cons, s_wopsK, s_putK, v_part_f, v_atK, o_fa, v_fa_p, o_ld, v_ld_p, v_ldC, o_st, v_st_p, v_stCK, o_call, e_t, e_k, e_put, e_get, e_res, e_keep_n, e_keep_c, e_keep1_s, List.length_nil, List.length_cons, Option.getD_some, Nat.reduceEqDiff, Nat.reduceAdd, true_and, Bool.false_eq_true, St.clr, outV, ownsV, owns1, ownL, List.map_cons, List.map_nil, PV.leaves, List.flatMap_cons, List.flatMap_nil, List.append_nil, List.cons_append, List.nil_append, List.all_cons, List.all_nil, Bool.true_and, Bool.and_self, PV.cells, cellL, fillL, Nat.reduceLeDiff, List.take_zero, List.drop_zero, List.take_succ_cons, List.drop_succ_cons, List.getElem?_cons_zero, List.getElem?_cons_succ, rl_i, ol_b, m_lf, st_i1, d_n, d_c, Nat.zero_add, Nat.add_zero]
    refine wcall_s (r50 hX k hk 8) rfl rfl ?_
    simp -implicitDefEqProofs (maxSteps := 2000000) only [c65, h1, h2, h3, h4, h5, ↓reduceIte, s_skip, s_ops0, s_seq, s_cond, s_opsK, s_seqK_n, s_cnd, s_nil, s_cons, s_wopsK, s_putK, v_part_f, v_atK, o_fa, v_fa_p, o_ld, v_ld_p, v_ldC, o_st, v_st_p, v_stCK, o_call, e_t, e_k, e_put, e_get, e_res, e_keep_n, e_keep_c, e_keep1_s, List.length_nil, List.length_cons, Option.getD_some, Nat.reduceEqDiff, Nat.reduceAdd, true_and, Bool.false_eq_true, St.clr, outV, ownsV, owns1, ownL, List.map_cons, List.map_nil, PV.leaves, List.flatMap_cons, List.flatMap_nil, List.append_nil, List.cons_append, List.nil_append, List.all_cons, List.all_nil, Bool.true_and, Bool.and_self, PV.cells, cellL, fillL, Nat.reduceLeDiff, List.take_zero, List.drop_zero, List.take_succ_cons, List.drop_succ_cons, List.getElem?_cons_zero, List.getElem?_cons_succ, rl_i, ol_b, m_lf, st_s1, d_n, d_c, Nat.zero_add, Nat.add_zero]
    refine wcall_s (r50 hX k hk 16) rfl rfl ?_
    simp -implicitDefEqProofs (maxSteps := 2000000) only [c65, h1, h2, h3, h4, h5, ↓reduceIte, s_skip, s_ret, s_ops0, s_seq, s_cond, s_opsK, s_seqK_n, s_cnd, s_nil, s_cons, s_wopsK, s_putK, v_part_t, o_fa, v_fa_p, o_ld, v_ld_p, v_ldC, o_st, v_st_p, v_stCK, e_t, e_put, e_get, e_res, e_keep_n, e_keep_c, e_keep1_s, List.length_nil, List.length_cons, Option.getD_some, Nat.reduceEqDiff, Nat.reduceAdd, and_true, Bool.false_eq_true, s_ret_r, s_retX, s_cells_n, t_ag, t_ln, t_lc, t_i, t_s, r_n, r_c, r_cons, r_cell, r_part_t, one_1, St.clr, outV, ownsV, owns1, ownL, List.append_nil, List.cons_append, List.nil_append, List.all_cons, List.all_nil, Bool.and_true, Bool.and_self, PV.cells, cellL, fillL, Nat.le_refl, List.take_zero, List.drop_zero, List.take_succ_cons, List.drop_succ_cons, List.drop_nil, List.take_nil, Option.bind_some, ol_b, m_lf, st_b, d_n, d_c, Nat.zero_add]
end Go.Proofs.YthcpaohmajjopaaDoor.I
set_option linter.unusedVariables false
set_option linter.unusedSimpArgs false
namespace Go.Proofs.YthcpaohmajjopaaDoor.I
open Go Go.Proofs.YthcpaohmajjopaaDoor.AM
variable {X : Cx}
def argB (capF : Bool) (k : Nat) (x : Ins) : Bool :=
  if k = 2 ∨ k = 5 then decide (0 ≤ x.b ∧ x.b ≤ 255) else if k = 18 then decide (2 ≤ x.b ∧ x.b ≤ 7) && capF
  else if k = 20 then decide (1 ≤ x.b ∧ x.b ≤ 7 ∧ 0 ≤ x.a ∧ x.a ≤ 255 ∧ ¬ (x.b = 1 ∧ 0 < x.a)) && capF else true
def fitB (capF : Bool) (k : Nat) (x : Ins) : Bool := x.same (x.plain k) && argB capF k x
theorem r49 (hX : X.G 1 = some usesL) (k : Nat) (hk : k < 21) (x : Ins) (hx : x.op = k) (capF : Bool) (hcap : k = 18 ∨ k = 20 → 1 ≤ x.b → x.b ≤ 7 → R X Tryd.prog 66 [.lf (.int .i64 x.b), .lf (.int .i64 x.n), .lf (.str x.t)] [] (.lf (.bool capF)) []) :
    R X Tryd.prog 49 [.ag x.c] [] (.lf (.bool (fitB capF k x))) [] := by
  refine R_i [] [] c49_ok rfl (by simp) ?_
  unfold fitB
  have h65 := r65 hX k hk x hx
  have he := eq_ins x (x.plain k)
  have hc : x.c = [.int .i64 x.op, .int .i64 x.a, .int .i64 x.b, .int .i64 x.n, .str x.t, .int .u64 x.s0, .int .u64 x.s1, .int .u64 x.s2, .int .u64 x.s3] := rfl
  generalize x.plain k = y at *
  have hy : y.c = [.int .i64 y.op, .int .i64 y.a, .int .i64 y.b, .int .i64 y.n, .str y.t, .int .u64 y.s0, .int .u64 y.s1, .int .u64 y.s2, .int .u64 y.s3] := rfl
  rw [hc] at he h65 ⊢
  rw [hy] at he h65
  rw [hx] at he h65 ⊢
  generalize x.same y = bb at *
  generalize hr : argB capF k x = r
  simp -implicitDefEqProofs (maxSteps := 2000000) only [c49, ↓reduceIte, s_ops0, s_ops2, s_seq, s_opsK, s_seqK_n, s_nil, s_cons, s_wopsK, s_wopsqK, s_putK, s_qcons, q_call, q_ld, o_as, v_part_t, o_bx, o_ld, v_ld_p, v_ldC, e_t, e_k, e_put, e_get, e_res, e_keep_n, e_keep_c, e_keep1_s, e_asg_b, St.init, enum, List.length_nil, List.length_cons, Option.getD_some, Nat.reduceEqDiff, Nat.reduceAdd, true_and, List.map_cons, List.map_nil, Bool.true_and, Nat.zero_le, Nat.le_refl, List.drop_zero, List.take_succ_cons, List.take_nil, kc_i, kc_s, rl_i, rl_s, m_ag, m_n, m_c, m_all, d_n, Nat.zero_add, v_bx_a]
  refine wcallq_i h65 rfl ?_
  have hb := fun neg ks K => v_beq (neg := neg) (ks := ks) (K := K) he
  simp -implicitDefEqProofs (maxSteps := 2000000) only [c49, hb, ↓reduceIte, s_skip, s_ret, s_ops0, s_seq, s_cond, s_block, s_opsK, s_seqK_n, s_seqK_r, s_blkK_n, s_blkK_r, s_cnd, s_nil, s_cons, s_guard, s_wopsK, s_wopsqK, s_putK, s_grd, s_grd_no, s_qnil, s_qcons, q_call, q_mv, q_pk, q_bin, q_beq, q_fa, q_ld, o_mv, o_as, o_pk, v_pk, o_bin, v_eql, v_lss, v_leq, v_gtr, v_geq, o_beq, v_part_f, v_atK, o_fa, v_fa_p, o_ld, v_ld_p, v_ldC, o_call, e_t, e_k, e_put, e_get, e_res, e_keep_n, e_keep_c, e_keep1_s, e_asg_b, Option.getD_some, Nat.reduceEqDiff, true_and, and_true, cond_false, Bool.not_true, Bool.not_false, Bool.true_eq_false, Bool.false_eq_true, decide_eq_true_eq, decide_eq_false_iff_not, s_ret_r, s_retX, s_cells_n, t_lf, t_b, r_n, r_t, r_cons, one_1, List.map_cons, List.map_nil, PV.leaves, List.flatMap_cons, List.flatMap_nil, List.append_nil, List.cons_append, List.nil_append, Bool.and_true, Bool.true_and, List.getElem?_cons_zero, List.getElem?_cons_succ, rl_i, rl_s, m_lf, Nat.zero_add, Nat.add_zero, kd_i, kd_s, ite_not, Bool.not_eq_eq_eq_not]
  clear he hb h65 hc hy
  unfold argB at hr
  iterate 14 (all_goals try (with_reducible refine ite_pr (fun _ => ?_) (fun _ => ?_)))
  all_goals try omega
  all_goals try (refine wcall_s (hcap (by omega) (by omega) (by omega)) rfl rfl ?_; simp -implicitDefEqProofs (maxSteps := 2000000) only [c49, ↓reduceIte, s_ret, s_opsK, s_seqK_n, s_seqK_r, s_blkK_r, s_nil, s_cons, s_wopsK, s_putK, o_as, o_pk, v_pk, e_t, e_k, e_put, e_get, e_res, e_keep_n, e_keep_c, e_keep1_s, e_asg_b, Option.getD_some, Nat.reduceEqDiff, true_and, and_true, Bool.false_eq_true, s_ret_r, s_retX, s_cells_n, t_lf, t_b, r_n, r_t, r_cons, one_1, St.clr, outV, ownsV, owns1, ownL, Bool.and_true, Bool.true_and, ol_b, m_lf])
  all_goals (cases bb; · simp_all)
  all_goals (simp only [Bool.true_and]; subst hr)
  all_goals try contradiction
  all_goals repeat' split
  all_goals first
    | omega
    | rfl
    | (rw [decide_eq_decide]; omega)
    | (rw [decide_eq_false (by omega)]; rfl)
    | (rw [decide_eq_true (by omega)]; rfl)
    | (rw [decide_eq_true (by omega), Bool.true_and])
    | (exact (decide_eq_false (by omega)).symm)
    | trace_state
end Go.Proofs.YthcpaohmajjopaaDoor.I
set_option linter.unusedVariables false
set_option linter.unusedSimpArgs false
namespace Go.Proofs.YthcpaohmajjopaaDoor.I
open Go Go.Proofs.YthcpaohmajjopaaDoor.AM
variable {X : Cx}
def errAt (capF : Ins → Bool) (len i : Nat) (x : Ins) : Int :=
  if ¬ (1 ≤ x.op ∧ x.op ≤ 20) then 160 else if fitB (capF x) x.op.toNat x = false then 161
  else if hasB x.op.toNat 32 = true ∧ (x.a < -(i : Int) ∨ (len : Int) - i ≤ x.a) then 162 else 0
def chkGo (capF : Ins → Bool) (len : Nat) : Nat → List Ins → Option (Int × Int)
  | _, [] => none
  | i, x :: r => if errAt capF len i x = 0 then chkGo capF len (i + 1) r else some ((i : Int), errAt capF len i x)
def lastOp : List Ins → Int
  | [] => 0
  | [x] => x.op
  | _ :: y :: r => lastOp (y :: r)
def chkEnd (code : List Ins) : Int × Int := if hasB (lastOp code).toNat 64 = true then ((code.length : Int) - 1, 163) else (0, 0)
def chk (capF : Ins → Bool) (code : List Ins) : Int × Int :=
  if 8192 < code.length then (0, 2) else if code.length = 0 then (0, 3) else (chkGo capF code.length 0 code).getD (chkEnd code)
def CapOK (X : Cx) (capF : Ins → Bool) (code : List Ins) : Prop := ∀ x ∈ code, x.op = 18 ∨ x.op = 20 → 1 ≤ x.b → x.b ≤ 7 → R X Tryd.prog 66 [.lf (.int .i64 x.b), .lf (.int .i64 x.n), .lf (.str x.t)] [] (.lf (.bool (capF x))) []
theorem last_get : ∀ {code : List Ins}, 0 < code.length → ∃ y, code[code.length - 1]? = some y ∧ lastOp code = y.op ∧ y ∈ code
  | [x], _ => ⟨x, rfl, rfl, by simp⟩
  | x :: y :: r, _ => by
    obtain ⟨z, h1, h2, h3⟩ := last_get (code := y :: r) (by simp)
    refine ⟨z, ?_, h2, by simp at h3 ⊢; right; exact h3⟩
    simpa using h1
theorem nat_of {z : Int} (h : 1 ≤ z ∧ z ≤ 20) : ∃ k : Nat, z = k ∧ k < 21 := ⟨z.toNat, by omega, by omega⟩
theorem r28 (hX : X.G 1 = some usesL) (capF : Ins → Bool) (code : List Ins) (hcap : CapOK X capF code) (sp : List (List L)) :
    R X Tryd.prog 28 [.lf (.lst .ro 9 (code.map Ins.c) sp)] [] (.tp [.lf (.int .i64 (chk capF code).1), .lf (.int .i64 (chk capF code).2)]) [] := by
  refine R_i [] [] c28_ok rfl (by simp) ?_
  generalize hr : chk capF code = r
  have hl : (code.map Ins.c).length = code.length := List.length_map _
  have key : ∀ (q : List Ins) (i : Nat), code.drop i = q → (∀ x ∈ code.take i, 1 ≤ x.op ∧ x.op ≤ 20) → code.length ≤ 8192 → 0 < code.length → (chkGo capF code.length i q).getD (chkEnd code) = r → LoopAt X Tryd.prog c28_21 [0, 13, 14, 15] (blkK 0 (seqK X Tryd.prog c28_30 (retS [] [] 0 [RV.t 2, RV.t 3] (PV.tp [PV.lf (L.int IntKind.i64 r.fst), PV.lf (L.int IntKind.i64 r.snd)]) [])))
      { m := 0, tm := [(0, PV.lf (L.lst Tag.ro 9 (List.map Ins.c code) sp)), (13, PV.lf (L.lst Tag.ro 9 (List.map Ins.c code) sp)), (14, PV.lf (L.int IntKind.i64 ↑code.length)), (15, PV.lf (L.int IntKind.i64 i))], ce := [] } := by
    intro q
    induction q with
    | nil =>
      intro i hq hal h1 h2 hr Z hZ
      apply hZ
      have hi : code.length ≤ i := by simpa using hq
      obtain ⟨y, g1, g2, g3⟩ := last_get h2
      rw [List.take_of_length_le hi] at hal
      obtain ⟨k, hk, hk2⟩ := nat_of (hal y g3)
      have e1 : IntKind.i64.wrap ((code.length : Int) - 1) = ((code.length - 1 : Nat) : Int) := by rw [w64 (by omega) (by omega)]; omega
      have hg : (code.map Ins.c).getD ((code.length - 1 : Nat) : Int).toNat [] = [.int .i64 y.op, .int .i64 y.a, .int .i64 y.b, .int .i64 y.n, .str y.t, .int .u64 y.s0, .int .u64 y.s1, .int .u64 y.s2, .int .u64 y.s3] := by
        rw [Int.toNat_natCast, List.getD_eq_getElem?_getD, List.getElem?_map, g1]; rfl
      rw [hk] at hg
      simp only [chkGo, Option.getD_none, chkEnd, g2, hk, Int.toNat_natCast] at hr
      simp -implicitDefEqProofs (maxSteps := 2000000) only [c28, hl, e1, hg, v_ld_e, ↓reduceIte, s_skip, s_exit, s_ops0, s_seq, s_cond, s_block, s_opsK, s_seqK_n, s_seqK_e, s_blkK_e, s_loopK_e, s_cnd, s_nil, s_cons, s_wopsK, s_putK, o_mv, o_as, o_bin, v_sub, v_lss, v_part_t, v_part_f, v_atK, o_al, o_fa, v_fa_p, v_fa_e, o_ia, v_ia, o_ld, v_ld_p, v_ldC, o_st, v_st_p, v_stCK, o_len, v_len, o_call, e_t, e_k, e_put, e_get, e_res, e_keep_n, e_keep_c, e_keep1_s, e_asg_i, List.length_nil, List.length_cons, Option.getD_some, Nat.reduceEqDiff, Nat.reduceAdd, reduceCtorEq, true_and, decide_eq_true_eq, List.map_cons, List.map_nil, PV.leaves, List.flatMap_cons, List.flatMap_nil, List.append_nil, List.cons_append, List.nil_append, Bool.true_and, PV.cells, fillL, Nat.zero_le, Nat.le_refl, List.take_zero, List.drop_zero, List.getElem?_cons_zero, kc_b, kc_i, rl_i, kc_l, m_lf, m_ag, m_n, m_c, m_all, st_b, d_n, d_c, Nat.zero_add, Nat.add_zero, kc_er]
      with_reducible refine ite_pr (fun _ => ?_) (fun _ => ?_)
      · omega
      refine fun _ => ⟨⟨by omega, by omega⟩, by omega, ?_⟩
      refine wcall_s (r50 hX k hk2 64) rfl rfl ?_
      simp -implicitDefEqProofs (maxSteps := 2000000) only [c28, ↓reduceIte, s_skip, s_ret, s_ops0, s_seq, s_cond, s_opsK, s_seqK_n, s_seqK_r, s_cnd, s_nil, s_cons, s_wopsK, o_mv, o_as, e_t, e_k, e_put, e_get, e_res, e_keep_n, e_keep_c, e_keep1_s, e_asg_i, Option.getD_some, Nat.reduceEqDiff, reduceCtorEq, true_and, and_true, Bool.false_eq_true, s_ret_r, s_retX, s_cells_n, t_tp, t_n, t_c, t_1l, t_i, r_n, r_t, r_cons, one_2, St.clr, outV, ownsV, owns1, ownL, Bool.and_true, Bool.true_and, ol_b, m_lf]
      rw [← hr]
      split
      · exact ⟨by simp only; omega, rfl⟩
      · exact ⟨rfl, rfl⟩
    | cons x q ih =>
      intro i hq hal h1 h2 hr Z hZ
      apply hZ
      have hi : i < code.length := by
        have := congrArg List.length hq
        simp at this; omega
      have hx : code[i]? = some x := by
        have := congrArg (fun l => l[0]?) hq
        simpa using this
      have hg : (code.map Ins.c).getD (i : Int).toNat [] = x.c := by
        rw [Int.toNat_natCast, List.getD_eq_getElem?_getD, List.getElem?_map, hx]; rfl
      have hq' : code.drop (i + 1) = q := by
        rw [← List.drop_drop, hq]; rfl
      have hc : x.c = [.int .i64 x.op, .int .i64 x.a, .int .i64 x.b, .int .i64 x.n, .str x.t, .int .u64 x.s0, .int .u64 x.s1, .int .u64 x.s2, .int .u64 x.s3] := rfl
      rw [hc] at hg
      simp -implicitDefEqProofs (maxSteps := 2000000) only [c28, hl, hg, v_ld_e, ↓reduceIte, s_skip, s_exit, s_ops0, s_seq, s_cond, s_block, s_opsK, s_seqK_n, s_seqK_e, s_blkK_e, s_loopK_e, s_cnd, s_nil, s_cons, s_wopsK, s_putK, o_mv, o_as, o_bin, v_sub, v_lss, v_part_t, v_part_f, v_atK, o_al, o_fa, v_fa_p, v_fa_e, o_ia, v_ia, o_ld, v_ld_p, v_ldC, o_st, v_st_p, v_stCK, o_len, v_len, o_call, e_t, e_k, e_put, e_get, e_res, e_keep_n, e_keep_c, e_keep1_s, e_asg_i, List.length_nil, List.length_cons, Option.getD_some, Nat.reduceEqDiff, Nat.reduceAdd, reduceCtorEq, true_and, decide_eq_true_eq, List.map_cons, List.map_nil, PV.leaves, List.flatMap_cons, List.flatMap_nil, List.append_nil, List.nil_append, List.all_cons, List.all_nil, Bool.true_and, Bool.and_self, PV.cells, cellL, fillL, Nat.zero_le, Nat.le_refl, List.take_zero, List.drop_zero, List.take_succ_cons, List.drop_succ_cons, List.drop_nil, List.take_nil, List.getElem?_cons_zero, kc_b, kc_i, kc_s, rl_i, kc_l, m_lf, m_ag, m_n, m_c, m_all, st_b, d_n, d_c, Nat.zero_add, Nat.add_zero, kc_er]
      with_reducible refine ite_pr (fun _ => ?_) (fun _ => ?_)
      rotate_left
      · omega
      refine ⟨⟨by omega, by omega⟩, by omega, ?_⟩
      refine wcall_s (r31 x.op) rfl rfl ?_
      simp -implicitDefEqProofs (maxSteps := 2000000) only [c28, hl, hg, v_ld_e, ↓reduceIte, s_ret, s_ops0, s_seq, s_cond, s_opsK, s_seqK_n, s_seqK_r, s_blkK_r, s_loopK_r, s_cnd, s_nil, s_cons, s_wopsK, s_putK, o_mv, o_as, o_un, v_not, v_part_t, o_ld, v_ld_p, v_ldC, o_call, e_t, e_k, e_put, e_get, e_res, e_keep_n, e_keep_c, e_keep1_s, e_asg_b, e_asg_i, List.length_nil, List.length_cons, Option.getD_some, Nat.reduceEqDiff, Nat.reduceAdd, reduceCtorEq, true_and, and_true, Bool.not_true, Bool.false_eq_true, decide_eq_false_iff_not, s_ret_r, s_retX, s_cells_n, t_tp, t_n, t_c, t_1l, t_i, r_n, r_t, r_cons, one_2, St.clr, outV, ownsV, owns1, ownL, List.map_cons, List.map_nil, PV.leaves, List.flatMap_cons, List.flatMap_nil, List.append_nil, Bool.and_true, Bool.true_and, Nat.le_refl, List.drop_zero, List.take_succ_cons, List.take_nil, rl_i, rl_s, ol_b, m_lf, m_ag, Nat.zero_add, ite_not, Bool.not_eq_eq_eq_not]
      have hxm : x ∈ code := List.mem_of_getElem? hx
      simp only [chkGo] at hr
      have he : errAt capF code.length i x = _ := rfl
      conv at he => rhs; unfold errAt
      generalize errAt capF code.length i x = e at hr he
      with_reducible refine ite_pr (fun ho => ?_) (fun ho => ?_)
      rotate_left
      · rw [if_pos ho] at he
        subst he
        rw [if_neg (by decide)] at hr
        rw [← hr]
        exact ⟨rfl, rfl⟩
      obtain ⟨k, hk, hk2⟩ := nat_of ho
      have h49 := r49 hX k hk2 x hk (capF x) (fun h => hcap x hxm (by omega))
      have h50 := r50 hX k hk2 32
      rw [← hk] at h50
      rw [hc] at h49
      have w1 : IntKind.i64.wrap (0 - (i : Int)) = -(i : Int) := by rw [w64 (by omega) (by omega)]; omega
      have w2 : IntKind.i64.wrap ((code.length : Int) - (i : Int)) = (code.length : Int) - (i : Int) := w64 (by omega) (by omega)
      have w3 : IntKind.i64.wrap ((i : Int) + 1) = ((i + 1 : Nat) : Int) := by rw [w64 (by omega) (by omega)]; omega
      rw [if_neg (by simpa using ho), show x.op.toNat = k by omega] at he
      refine wcall_s h49 rfl rfl ?_
      simp -implicitDefEqProofs (maxSteps := 2000000) only [c28, ↓reduceIte, s_ret, s_ops0, s_seq, s_cond, s_opsK, s_seqK_n, s_seqK_r, s_blkK_r, s_loopK_r, s_cnd, s_nil, s_cons, s_wopsK, s_putK, o_mv, o_as, o_un, v_not, v_part_f, v_atK, o_fa, v_fa_p, o_ld, v_ld_p, v_ldC, o_call, e_t, e_k, e_put, e_get, e_res, e_keep_n, e_keep_c, e_keep1_s, e_asg_b, e_asg_i, Option.getD_some, Nat.reduceEqDiff, reduceCtorEq, true_and, and_true, Bool.not_true, Bool.false_eq_true, s_ret_r, s_retX, s_cells_n, t_tp, t_n, t_c, t_1l, t_i, r_n, r_t, r_cons, one_2, St.clr, outV, ownsV, owns1, ownL, List.map_cons, List.map_nil, PV.leaves, List.flatMap_cons, List.flatMap_nil, List.append_nil, List.cons_append, List.nil_append, Bool.and_true, Bool.true_and, List.getElem?_cons_zero, rl_i, ol_b, m_lf, Nat.add_zero, Bool.not_eq_eq_eq_not]
      with_reducible refine ite_pr (fun hf => ?_) (fun hf => ?_)
      · rw [if_pos hf] at he
        subst he
        rw [if_neg (by decide)] at hr
        rw [← hr]
        exact ⟨rfl, rfl⟩
      rw [if_neg hf] at he
      refine wcall_s h50 rfl rfl ?_
      have hal' : ∀ y ∈ code.take (i + 1), 1 ≤ y.op ∧ y.op ≤ 20 := by
        intro y hy
        rw [List.take_add_one, hx] at hy
        simp only [List.mem_append, Option.toList_some, List.mem_singleton] at hy
        rcases hy with hy | rfl
        · exact hal y hy
        · exact ho
      have nx := fun h0 : e = 0 => ih (i + 1) hq' hal' h1 h2 (by rw [if_pos h0] at hr; exact hr) Z hZ
      have bad : e = 162 → (i : Int) = r.1 ∧ 162 = r.2 := by
        intro h0
        rw [h0, if_neg (by decide)] at hr
        rw [← hr]
        exact ⟨rfl, rfl⟩
      simp -implicitDefEqProofs (maxSteps := 2000000) only [c28, hl, w1, w2, w3, ↓reduceIte, s_skip, s_ret, s_ops0, s_seq, s_cond, s_opsK, s_seqK_n, s_seqK_r, s_blkK_n, s_blkK_r, s_loopK_n, s_loopK_r, s_cnd, s_nil, s_cons, s_guard, s_wopsK, s_putK, s_grd, s_grd_no, q_mv, q_pk, q_bin, q_un, q_fa, q_ld, q_len, o_mv, o_as, o_pk, v_pk, o_bin, v_add, v_sub, v_lss, v_geq, o_un, v_neg, v_part_f, v_atK, o_fa, v_fa_p, o_ld, v_ld_p, v_ldC, o_len, v_len, e_t, e_k, e_put, e_get, e_res, e_keep_n, e_keep_c, e_keep1_s, e_asg_b, e_asg_i, Option.getD_some, Nat.reduceEqDiff, reduceCtorEq, true_and, and_true, cond_false, Bool.not_true, Bool.not_false, Bool.true_eq_false, Bool.false_eq_true, decide_eq_true_eq, decide_eq_false_iff_not, s_ret_r, s_retX, s_cells_n, t_tp, t_n, t_c, t_1l, t_i, r_n, r_t, r_cons, one_2, St.clr, outV, ownsV, owns1, ownL, List.append_nil, Bool.and_true, Bool.true_and, List.getElem?_cons_zero, List.getElem?_cons_succ, ol_b, m_lf, e_head, e_headK, kC_n, pO_n, pO_i, pO_l, List.range_zero, Nat.zero_add, ite_not]
      with_reducible refine ite_pr (fun hj => ?_) (fun hj => ?_)
      · with_reducible refine ite_pr (fun ha => ?_) (fun ha => ?_)
        · exact bad (by rw [he, if_pos ⟨hj, by omega⟩])
        · refine fun _ => ?_
          with_reducible refine ite_pr (fun hb => ?_) (fun hb => ?_)
          · exact bad (by rw [he, if_pos ⟨hj, by omega⟩])
          · exact nx (by rw [he, if_neg (by omega)])
      · exact nx (by rw [he, if_neg (fun h => hj h.1)])
  unfold chk at hr
  simp -implicitDefEqProofs (maxSteps := 2000000) only [c28, hl, ↓reduceIte, s_skip, s_ret, s_ops0, s_seq, s_cond, s_block, s_loop, s_opsK, s_seqK_n, s_seqK_r, s_cnd, s_nil, s_cons, s_wopsK, s_putK, o_mv, o_as, o_bin, v_eql, v_gtr, o_len, v_len, e_t, e_k, e_put, e_get, e_res, e_keep_n, e_keep_c, e_keep1_s, e_asg_i, St.init, enum, List.length_nil, Option.getD_some, Nat.reduceEqDiff, reduceCtorEq, true_and, and_true, decide_eq_true_eq, s_ret_r, s_retX, s_cells_n, t_tp, t_n, t_c, t_1l, t_i, r_n, r_t, r_cons, one_2, List.append_nil, Bool.and_true, Bool.true_and, e_head, e_headK, kC_n, pO_n, pO_i, pO_l, List.range_zero]
  refine fun hl2 => ?_
  with_reducible refine ite_pr (fun h => ?_) (fun h => ?_)
  · rw [if_pos (by omega)] at hr
    rw [← hr]
    exact ⟨rfl, rfl⟩
  rw [if_neg (by omega)] at hr
  refine fun _ => ?_
  with_reducible refine ite_pr (fun h => ?_) (fun h => ?_)
  · rw [if_pos (by omega)] at hr
    rw [← hr]
    exact ⟨rfl, rfl⟩
  rw [if_neg (by omega)] at hr
  refine fun _ => key code 0 rfl (fun x hx => by simp at hx) (by omega) (by omega) hr
end Go.Proofs.YthcpaohmajjopaaDoor.I
set_option linter.unusedVariables false
set_option linter.unusedSimpArgs false
namespace Go.Proofs.YthcpaohmajjopaaDoor.I
open Go Go.Proofs.YthcpaohmajjopaaDoor.AM
variable {X : Cx}
def one (k : Int) : Ins := ⟨k, 0, 0, 0, ⟨#[]⟩, 0, 0, 0, 0⟩
theorem r9 (hX : X.G 1 = some usesL) : R X Tryd.prog 9 [] [] (.lf (.bool true)) [] := by
  refine R_i [] [] c9_ok rfl (by simp) ?_
  have h1 := r28 hX (fun _ => true) [one 17] (fun x hx h => by simp at hx; subst hx; simp [one] at h) []
  have h2 := r28 hX (fun _ => true) [one 1] (fun x hx h => by simp at hx; subst hx; simp [one] at h) []
  have e1 : chk (fun _ => true) [one 17] = (0, 0) := by decide +kernel
  have e2 : chk (fun _ => true) [one 1] = (0, 163) := by decide +kernel
  rw [e1] at h1
  rw [e2] at h2
  simp only [List.map_cons, List.map_nil, one, Ins.c] at h1 h2
  simp -implicitDefEqProofs (maxSteps := 2000000) only [c9, ↓reduceIte, s_ops0, s_seq, s_opsK, s_seqK_n, s_nil, s_cons, s_wopsK, o_as, o_bd, v_agK, v_bd_n, v_bd_c, o_bs, v_bsK, v_lit_n, v_lit_c, o_call, e_t, e_k, e_put, e_get, e_res, e_keep_n, e_asg_b, St.init, enum, List.length_nil, List.length_cons, Option.getD_some, Nat.reduceAdd, reduceCtorEq, true_and, List.map_cons, List.map_nil, PV.leaves, List.flatMap_cons, List.flatMap_nil, List.append_nil, List.cons_append, List.nil_append, List.all_cons, List.all_nil, Bool.true_and, Bool.and_self, PV.cells, cellL, datL, fillL, Nat.reduceMul, Nat.reduceLeDiff, List.take_zero, List.drop_zero, List.drop_succ_cons, kp_i, kp_s, rl_i, rl_s, rl_l, m_lf, m_ag, m_n, m_c, m_all, dw_n, dw_i, dw_s, plT, ne_eq, not_false_eq_true, lit_n, lit_c, List.reduceReplicate, List.set_cons_zero, Nat.lt_add_one, Nat.zero_add, Nat.add_zero]
  refine wcall_s h1 rfl rfl ?_
  simp -implicitDefEqProofs (maxSteps := 2000000) only [c9, ↓reduceIte, s_ops0, s_seq, s_opsK, s_seqK_n, s_nil, s_cons, s_wopsK, s_putK, o_mv, o_as, o_ext, v_ext0, v_ext1, o_bd, v_agK, v_bd_n, v_bd_c, o_bs, v_bsK, v_lit_n, v_lit_c, o_call, e_t, e_k, e_put, e_get, e_res, e_keep_n, e_keep_c, e_keep1_s, e_asg_i, List.length_nil, List.length_cons, Option.getD_some, Nat.reduceEqDiff, Nat.reduceAdd, reduceCtorEq, true_and, Bool.false_eq_true, St.clr, outV, ownsV, owns1, ownL, List.map_cons, List.map_nil, List.any_cons, List.any_nil, Bool.or_self, PV.leaves, List.flatMap_cons, List.flatMap_nil, List.append_nil, List.cons_append, List.nil_append, List.all_cons, List.all_nil, Bool.true_and, Bool.and_self, PV.cells, cellL, datL, fillL, Nat.reduceMul, Nat.reduceLeDiff, List.take_zero, List.drop_zero, List.drop_succ_cons, kp_i, kp_s, rl_i, rl_s, ol_i, rl_l, m_lf, m_ag, m_tp, m_1l, m_n, m_c, m_all, dw_n, dw_i, dw_s, plT, ne_eq, not_false_eq_true, lit_n, lit_c, List.reduceReplicate, List.set_cons_zero, Nat.lt_add_one, Nat.zero_add, Nat.add_zero]
  refine wcall_s h2 rfl rfl ?_
  simp -implicitDefEqProofs (maxSteps := 2000000) only [c9, ↓reduceIte, s_ret, s_ops0, s_seq, s_opsK, s_seqK_n, s_nil, s_cons, s_guard, s_wopsK, s_putK, s_grd, q_mv, q_bin, o_mv, o_as, o_pk, v_pk, o_bin, v_eql, o_ext, v_ext0, v_ext1, e_t, e_k, e_put, e_get, e_res, e_keep_n, e_keep_c, e_keep1_s, e_asg_b, e_asg_i, Option.getD_some, Nat.reduceEqDiff, and_true, cond_false, Bool.false_eq_true, decide_eq_true_eq, s_ret_r, s_retX, s_cells_n, t_lf, t_b, r_n, r_t, r_cons, one_1, St.clr, outV, ownsV, owns1, ownL, List.map_cons, List.map_nil, List.any_cons, List.any_nil, Bool.or_self, Bool.and_true, ol_i, m_tp, m_1l]

def sameL : List Ins → List Ins → Bool
  | [], [] => true
  | x :: a, y :: b => x.same y && sameL a b
  | _, _ => false
theorem same_self (x : Ins) : x.same x = true := Ins.same_eq.2 rfl
theorem sameL_self : ∀ (a : List Ins), sameL a a = true
  | [] => rfl
  | x :: a => by simp [sameL, same_self, sameL_self a]
theorem sameL_len : ∀ {a b : List Ins}, a.length ≠ b.length → sameL a b = false
  | [], [], h => by simp at h
  | [], _ :: _, _ => rfl
  | _ :: _, [], _ => rfl
  | x :: a, y :: b, h => by simp [sameL, sameL_len (a := a) (b := b) (by simpa using h)]
theorem drop_step {α : Type} {l q : List α} {x : α} {i : Nat} (h : l.drop i = x :: q) : i < l.length ∧ l[i]? = some x ∧ l.drop (i + 1) = q := by
  refine ⟨?_, ?_, ?_⟩
  · have := congrArg List.length h
    simp at this; omega
  · have := congrArg (fun l => l[0]?) h
    simpa using this
  · rw [← List.drop_drop, h]; rfl
theorem get_c {l : List Ins} {i : Nat} {x : Ins} (h : l[i]? = some x) : (l.map Ins.c).getD (i : Int).toNat [] = x.c := by
  rw [Int.toNat_natCast, List.getD_eq_getElem?_getD, List.getElem?_map, h]; rfl
theorem wp9 {x : Ins} {K : PV → Prop} : wpart x.c 0 9 true K = K (.ag x.c) := by
  simp [wpart, Ins.c]
theorem r11 (a b : List Ins) (sp sp' : List (List L)) : R X Tryd.prog 11 [.lf (.lst .ro 9 (a.map Ins.c) sp), .lf (.lst .ro 9 (b.map Ins.c) sp')] [] (.lf (.bool (sameL a b))) [] := by
  refine R_i [] [] c11_ok rfl (by simp) ?_
  generalize hr : sameL a b = r
  have hl : (a.map Ins.c).length = a.length := List.length_map _
  have hl' : (b.map Ins.c).length = b.length := List.length_map _
  have key : ∀ (q q' : List Ins) (i : Nat), a.length ≤ 9223372036854775807 → a.length = b.length → a.drop i = q → b.drop i = q' → sameL q q' = r → LoopAt X Tryd.prog c11_10 [0, 1, 5] (blkK 0 (seqK X Tryd.prog c11_14 (retS [] [] 0 [RV.t 4] (PV.lf (L.bool r)) [])))
      { m := 0, tm := [(0, PV.lf (L.lst Tag.ro 9 (List.map Ins.c a) sp)), (1, PV.lf (L.lst Tag.ro 9 (List.map Ins.c b) sp')), (5, PV.lf (L.int IntKind.i64 i))], ce := [] } := by
    intro q
    induction q with
    | nil =>
      intro q' i h0 hll hq hq' hr Z hZ
      apply hZ
      have hi : a.length ≤ i := by simpa using hq
      obtain rfl : q' = [] := by rw [← hq']; simp; omega
      simp -implicitDefEqProofs (maxSteps := 2000000) only [c11, hl, ↓reduceIte, s_skip, s_exit, s_ret, s_ops0, s_ops2, s_seq, s_cond, s_block, s_opsK, s_seqK_n, s_seqK_e, s_blkK_e, s_loopK_e, s_cnd, s_nil, s_cons, s_wopsK, s_wopsqK, s_putK, s_qcons, q_mv, q_ia, q_ld, o_mv, o_as, o_bin, v_lss, o_ia, v_ia, o_ld, o_len, v_len, e_t, e_k, e_put, e_get, e_res, e_keep_n, e_keep_c, e_keep1_s, e_asg_b, Option.getD_some, Nat.reduceEqDiff, reduceCtorEq, true_and, and_true, decide_eq_true_eq, s_ret_r, s_retX, s_cells_n, t_lf, t_b, r_n, r_t, r_cons, one_1, Bool.and_true, Bool.true_and]
      refine fun _ => ?_
      with_reducible refine ite_pr (fun _ => ?_) (fun _ => ?_)
      · omega
      · simpa [sameL] using hr
    | cons x q ih =>
      intro q' i h0 hll hq hq' hr Z hZ
      apply hZ
      obtain ⟨hi, hx, hq⟩ := drop_step hq
      obtain ⟨y, q', rfl⟩ : ∃ y p, q' = y :: p := by
        cases q' with
        | nil => simp at hq'; omega
        | cons y p => exact ⟨y, p, rfl⟩
      obtain ⟨hi', hy, hq'⟩ := drop_step hq'
      have g1 := get_c hx
      have g2 := get_c hy
      have he := eq_ins x y
      have hb := fun neg ks K => v_beq (neg := neg) (ks := ks) (K := K) he
      have kx : x.c.map kindL = [2, 2, 2, 2, 3, 2, 2, 2, 2] := rfl
      have ky : y.c.map kindL = [2, 2, 2, 2, 3, 2, 2, 2, 2] := rfl
      have wp := fun (z : Ins) (K : PV → Prop) => wp9 (x := z) (K := K)
      have w3 : IntKind.i64.wrap ((i : Int) + 1) = ((i + 1 : Nat) : Int) := by rw [w64 (by omega) (by omega)]; omega
      simp only [sameL] at hr
      simp -implicitDefEqProofs (maxSteps := 2000000) only [c11, hl, hl', g1, g2, v_ld_e, wp, hb, kx, ky, w3, ↓reduceIte, s_skip, s_exit, s_ret, s_ops0, s_ops2, s_seq, s_cond, s_block, s_opsK, s_seqK_n, s_seqK_e, s_seqK_r, s_blkK_n, s_blkK_e, s_blkK_r, s_loopK_n, s_loopK_e, s_loopK_r, s_cnd, s_nil, s_cons, s_wopsK, s_wopsqK, s_putK, s_qnil, s_qcons, q_mv, q_beq, q_ia, q_ld, o_mv, o_as, o_bin, v_add, v_lss, o_beq, o_ia, v_ia, o_ld, o_len, v_len, e_t, e_k, e_put, e_get, e_res, e_keep_n, e_keep_c, e_keep1_s, e_asg_b, e_asg_i, Option.getD_some, Nat.reduceEqDiff, reduceCtorEq, true_and, and_true, Bool.not_true, decide_eq_true_eq, s_ret_r, s_retX, s_cells_n, t_lf, t_b, r_n, r_t, r_cons, one_1, List.append_nil, Bool.and_true, Bool.true_and, e_head, e_headK, kC_n, pO_n, pO_i, pO_l, List.range_zero, Bool.not_eq_eq_eq_not]
      refine fun _ => ?_
      with_reducible refine ite_pr (fun _ => ?_) (fun _ => ?_)
      · refine ⟨⟨by omega, by omega⟩, by omega, ⟨by omega, by omega⟩, by omega, ?_⟩
        with_reducible refine ite_pr (fun hs => ?_) (fun hs => ?_)
        · rw [hs, Bool.false_and] at hr
          exact hr
        · refine ih q' (i + 1) h0 hll hq hq' ?_ Z hZ
          simpa [hs] using hr
      · omega
  simp -implicitDefEqProofs (maxSteps := 2000000) only [c11, hl, hl', ↓reduceIte, s_skip, s_ret, s_ops0, s_seq, s_cond, s_block, s_loop, s_opsK, s_seqK_n, s_seqK_r, s_cnd, s_nil, s_cons, s_wopsK, s_putK, o_mv, o_as, o_bin, v_neq, o_len, v_len, e_t, e_k, e_put, e_get, e_res, e_keep_n, e_keep_c, e_keep1_s, e_asg_b, e_asg_i, St.init, enum, List.length_nil, Option.getD_some, Nat.reduceEqDiff, reduceCtorEq, true_and, and_true, decide_eq_true_eq, s_ret_r, s_retX, s_cells_n, t_lf, t_b, r_n, r_t, r_cons, one_1, List.append_nil, Bool.and_true, Bool.true_and, e_head, e_headK, kC_n, pO_n, pO_i, pO_l, List.range_zero, ne_eq, Nat.zero_add, ite_not]
  refine fun h1 h2 => ?_
  with_reducible refine ite_pr (fun h => ?_) (fun h => ?_)
  · exact key a b 0 h1 (by omega) rfl rfl hr
  · rw [sameL_len (by omega)] at hr
    exact hr
end Go.Proofs.YthcpaohmajjopaaDoor.I
set_option linter.unusedVariables false
set_option linter.unusedSimpArgs false
namespace Go.Proofs.YthcpaohmajjopaaDoor.I
open Go Go.Proofs.YthcpaohmajjopaaDoor.AM

theorem wf64 {n : Int} (h : (Lit.int .i64 n).wf = true) : -9223372036854775808 ≤ n ∧ n ≤ 9223372036854775807 := by
  simp only [Lit.wf, IntKind.min, IntKind.max, Bool.and_eq_true] at h; simp [IntKind.bits, IntKind.signed] at h; omega
theorem wfu64 {n : Int} (h : (Lit.int .u64 n).wf = true) : 0 ≤ n ∧ n ≤ 18446744073709551615 := by
  simp only [Lit.wf, IntKind.min, IntKind.max, Bool.and_eq_true] at h; simp [IntKind.bits, IntKind.signed] at h; omega
structure Ins.ok (x : Ins) : Prop where
  op : -9223372036854775808 ≤ x.op ∧ x.op ≤ 9223372036854775807
  a : -9223372036854775808 ≤ x.a ∧ x.a ≤ 9223372036854775807
  b : -9223372036854775808 ≤ x.b ∧ x.b ≤ 9223372036854775807
  n : -9223372036854775808 ≤ x.n ∧ x.n ≤ 9223372036854775807
  t : x.t.size ≤ 140737488351232
  s0 : 0 ≤ x.s0 ∧ x.s0 ≤ 18446744073709551615
  s1 : 0 ≤ x.s1 ∧ x.s1 ≤ 18446744073709551615
  s2 : 0 ≤ x.s2 ∧ x.s2 ≤ 18446744073709551615
  s3 : 0 ≤ x.s3 ∧ x.s3 ≤ 18446744073709551615
theorem ins_of {l : List L} (h : WT Tryd.prog 52 l) : ∃ x : Ins, l = x.c ∧ x.ok := by
  obtain ⟨lss, rfl, m0⟩ := h.inv_struct Tryd.underlying52
  obtain ⟨e0, es0, rfl, m1, n1⟩ := All2.cons_inv m0
  obtain ⟨e1, es1, rfl, m2, n2⟩ := All2.cons_inv n1
  obtain ⟨e2, es2, rfl, m3, n3⟩ := All2.cons_inv n2
  obtain ⟨e3, es3, rfl, m4, n4⟩ := All2.cons_inv n3
  obtain ⟨e4, es4, rfl, m5, n5⟩ := All2.cons_inv n4
  obtain ⟨e5, es5, rfl, m6, n6⟩ := All2.cons_inv n5
  obtain rfl := All2.nil_inv n6
  obtain ⟨op, rfl, w1⟩ := m1.inv_int Tryd.underlying3
  obtain ⟨a, rfl, w2⟩ := m2.inv_int Tryd.underlying3
  obtain ⟨b, rfl, w3⟩ := m3.inv_int Tryd.underlying3
  obtain ⟨n, rfl, w4⟩ := m4.inv_int Tryd.underlying3
  obtain ⟨t, rfl, w5⟩ := m5.inv_str Tryd.underlying9
  obtain ⟨ss, rfl, hn, hs⟩ := m6.inv_array Tryd.underlying50
  match ss, hn, hs with
  | [z0, z1, z2, z3], _, hs =>
    obtain ⟨s0, rfl, q0⟩ := (hs 0 z0 rfl).inv_int Tryd.underlying48
    obtain ⟨s1, rfl, q1⟩ := (hs 1 z1 rfl).inv_int Tryd.underlying48
    obtain ⟨s2, rfl, q2⟩ := (hs 2 z2 rfl).inv_int Tryd.underlying48
    obtain ⟨s3, rfl, q3⟩ := (hs 3 z3 rfl).inv_int Tryd.underlying48
    exact ⟨⟨op, a, b, n, t, s0, s1, s2, s3⟩, rfl, ⟨wf64 w1, wf64 w2, wf64 w3, wf64 w4, w5, wfu64 q0, wfu64 q1, wfu64 q2, wfu64 q3⟩⟩
theorem code_list : ∀ (xs : List (List L)), (∀ x ∈ xs, ∃ y : Ins, x = y.c ∧ y.ok) → ∃ code : List Ins, xs = code.map Ins.c ∧ ∀ y ∈ code, y.ok
  | [], _ => ⟨[], rfl, fun y h => by simp at h⟩
  | x :: xs, h => by
    obtain ⟨y, rfl, h1⟩ := h x (by simp)
    obtain ⟨c, rfl, h2⟩ := code_list xs (fun z hz => h z (by simp [hz]))
    refine ⟨y :: c, rfl, fun z hz => ?_⟩
    simp only [List.mem_cons] at hz
    rcases hz with rfl | hz
    · exact h1
    · exact h2 z hz
def cxU : Cx := ⟨fun g => if g = 1 then some usesL else none⟩
theorem cxU_1 : cxU.G 1 = some usesL := rfl
theorem uses_glob {w : World} {fuel : Nat} {cs : Array Value} {ps : List MemPlace} {d : DataW Unit} (hv : w.var? Tryd.prog "harrow/instr.uses" = some cs)
    (h : DataW.trod (fun _ => ()) Tryd.prog w 0 (fun _ => true) false fuel 95 cs.toList = some (d, ps)) (hd : d = .agg (usesN.map fun n => .lit (.int .i64 n))) : GlobOK w 1 usesL := by
  subst hd
  exact glob_ints (by kernel_rfl) hv (table_ints Tryd.underlying95 Tryd.underlying3 (by kernel_rfl) (by kernel_rfl) h) (by decide)
end Go.Proofs.YthcpaohmajjopaaDoor.I
