/- Contracts, part I1. -/
import Derived.Test.YthcpaohmajjopaaDoorProg
import Derived.Test.YthcpaohmajjopaaDoorAmLeaf2
set_option maxRecDepth 100000
namespace Go.Proofs.YthcpaohmajjopaaDoor.I
open Go Go.Proofs.YthcpaohmajjopaaDoor.AM
/-- harrow/harrowlaw16.InstrSame -/
abbrev c3_0 : AC := .seq (.ops 0 [⟨(some 5), .call 9 [], none⟩, ⟨(some 6), .mv (.t 5), none⟩, ⟨(some 7), .mv (.t 0), (some (6, true))⟩, ⟨(some 8), .mv (.t 1), (some (6, true))⟩, ⟨(some 9), .call 10 [(.t 7), (.t 8)], (some (6, true))⟩, ⟨(some 10), .mv (.t 0), (some (6, true))⟩, ⟨(some 11), .mv (.t 1), (some (6, true))⟩, ⟨(some 12), .call 11 [(.t 10), (.t 11)], (some (6, true))⟩, ⟨(some 13), .bqb false (.t 9) (.t 12), (some (6, true))⟩, ⟨(some 14), .pk (.t 6) (.t 13) (.k (.lf (.bool false))), none⟩, ⟨(some 15), .mv (.t 14), none⟩, ⟨(some 16), .mv (.t 0), (some (15, true))⟩, ⟨(some 17), .mv (.t 0), (some (15, true))⟩, ⟨(some 18), .call 10 [(.t 16), (.t 17)], (some (15, true))⟩, ⟨(some 19), .pk (.t 15) (.t 18) (.k (.lf (.bool false))), none⟩, ⟨(some 4), .as 0 0 (.t 19), none⟩] [4]) .ret
abbrev c3_1 : AC := .seq (.ops 0 [⟨(some 4), .as 0 0 (.k (.lf (.bool false))), none⟩] [0, 1]) c3_0
abbrev c3 : AC := c3_1
theorem c3_ok : compileFn Tryd.prog 3 = some (20, AC.strip c3, [.t 4]) := by kernel_rfl
/-- harrow/harrowlaw16.lives -/
abbrev c9_0 : AC := .seq (.ops 0 [⟨(some 17), .mv (.t 2), none⟩, ⟨(some 18), .bin .eql (.t 17) (.k (.lf (.int .i64 0))), none⟩, ⟨(some 19), .mv (.t 18), none⟩, ⟨(some 20), .mv (.t 4), (some (19, true))⟩, ⟨(some 21), .bin .eql (.t 20) (.k (.lf (.int .i64 163))), (some (19, true))⟩, ⟨(some 22), .pk (.t 19) (.t 21) (.k (.lf (.bool false))), none⟩, ⟨(some 0), .as 0 0 (.t 22), none⟩] [0]) .ret
abbrev c9_1 : AC := .seq (.ops 0 [⟨(some 12), .bd [.int .i64 0, .int .i64 0, .int .i64 0, .int .i64 0, .str ⟨#[]⟩, .int .u64 0, .int .u64 0, .int .u64 0, .int .u64 0] [(0, 1, (.k (.lf (.int .i64 1))))], none⟩, ⟨(some 13), .bs 52 9 1 [.int .i64 0, .int .i64 0, .int .i64 0, .int .i64 0, .str ⟨#[]⟩, .int .u64 0, .int .u64 0, .int .u64 0, .int .u64 0] [(0, (.t 12))], none⟩, ⟨(some 14), .call 28 [(.t 13)], none⟩, ⟨(some 11), .mv (.t 14), none⟩, ⟨(some 15), .ext (.t 11) 0, none⟩, ⟨(some 16), .ext (.t 11) 1, none⟩, ⟨(some 3), .as 0 0 (.t 15), none⟩, ⟨(some 4), .as 0 0 (.t 16), none⟩] [2, 4]) c9_0
abbrev c9_2 : AC := .seq (.ops 0 [⟨(some 6), .bd [.int .i64 0, .int .i64 0, .int .i64 0, .int .i64 0, .str ⟨#[]⟩, .int .u64 0, .int .u64 0, .int .u64 0, .int .u64 0] [(0, 1, (.k (.lf (.int .i64 17))))], none⟩, ⟨(some 7), .bs 52 9 1 [.int .i64 0, .int .i64 0, .int .i64 0, .int .i64 0, .str ⟨#[]⟩, .int .u64 0, .int .u64 0, .int .u64 0, .int .u64 0] [(0, (.t 6))], none⟩, ⟨(some 8), .call 28 [(.t 7)], none⟩, ⟨(some 5), .mv (.t 8), none⟩, ⟨(some 9), .ext (.t 5) 0, none⟩, ⟨(some 10), .ext (.t 5) 1, none⟩, ⟨(some 1), .as 0 0 (.t 9), none⟩, ⟨(some 2), .as 0 0 (.t 10), none⟩] [2]) c9_1
abbrev c9_3 : AC := .seq (.ops 0 [⟨(some 0), .as 0 0 (.k (.lf (.bool false))), none⟩] []) c9_2
abbrev c9 : AC := c9_3
theorem c9_ok : compileFn Tryd.prog 9 = some (23, AC.strip c9, [.t 0]) := by kernel_rfl
/-- harrow/instr.Same -/
abbrev c10_0 : AC := .seq (.ops 0 [⟨(some 5), .mv (.t 0), none⟩, ⟨(some 6), .mv (.t 1), none⟩, ⟨(some 7), .call 29 [(.t 5), (.t 6)], none⟩, ⟨(some 4), .as 0 0 (.t 7), none⟩] [4]) .ret
abbrev c10_1 : AC := .seq (.ops 0 [⟨(some 4), .as 0 0 (.k (.lf (.bool false))), none⟩] [0, 1]) c10_0
abbrev c10 : AC := c10_1
theorem c10_ok : compileFn Tryd.prog 10 = some (8, AC.strip c10, [.t 4]) := by kernel_rfl
/-- harrow/harrowbook.SameCode -/
abbrev c11_0 : AC := .seq (.ops 0 [⟨(some 4), .as 0 0 (.k (.lf (.bool false))), none⟩] [4]) .ret
abbrev c11_1 : AC := .cond (.t 10) c11_0 .skip
abbrev c11_2 : AC := .seq (.ops 0 [⟨(some 6), .mv (.t 0), none⟩, ⟨(some 7), .len (.t 6), none⟩, ⟨(some 8), .mv (.t 1), none⟩, ⟨(some 9), .len (.t 8), none⟩, ⟨(some 10), .bin .neq (.t 7) (.t 9), none⟩] [0, 1, 10]) c11_1
abbrev c11_3 : AC := .cond (.t 14) .skip (.exit 0)
abbrev c11_4 : AC := .seq (.ops 0 [⟨(some 11), .mv (.t 5), none⟩, ⟨(some 12), .mv (.t 0), none⟩, ⟨(some 13), .len (.t 12), none⟩, ⟨(some 14), .bin .lss (.t 11) (.t 13), none⟩] [0, 1, 5, 14]) c11_3
abbrev c11_5 : AC := .seq (.ops 0 [⟨(some 4), .as 0 0 (.k (.lf (.bool false))), none⟩] [4]) .ret
abbrev c11_6 : AC := .cond (.t 25) c11_5 .skip
abbrev c11_7 : AC := .seq (.ops 2 [⟨(some 17), .mv (.t 0), none⟩, ⟨(some 18), .mv (.t 5), none⟩, ⟨(some 19), .ia (.t 17) (.t 18) 9, none⟩, ⟨(some 20), .ld (.t 19) 9 true, none⟩, ⟨(some 21), .mv (.t 1), none⟩, ⟨(some 22), .mv (.t 5), none⟩, ⟨(some 23), .ia (.t 21) (.t 22) 9, none⟩, ⟨(some 24), .ld (.t 23) 9 true, none⟩, ⟨(some 25), .beq true [2, 2, 2, 2, 3, 2, 2, 2, 2] (.t 20) (.t 24), none⟩] [0, 1, 5, 25]) c11_6
abbrev c11_8 : AC := .block 1 c11_7
abbrev c11_9 : AC := .seq c11_8 (.ops 0 [⟨(some 15), .mv (.t 5), none⟩, ⟨(some 16), .bin .add (.t 15) (.k (.lf (.int .i64 1))), none⟩, ⟨(some 5), .as 0 0 (.t 16), none⟩] [0, 1, 5])
abbrev c11_10 : AC := .seq c11_4 c11_9
abbrev c11_11 : AC := .loop c11_10 [0, 1, 5]
abbrev c11_12 : AC := .block 0 c11_11
abbrev c11_13 : AC := .seq (.ops 0 [⟨(some 5), .as 0 0 (.k (.lf (.int .i64 0))), none⟩] [0, 1, 5]) c11_12
abbrev c11_14 : AC := .seq (.ops 0 [⟨(some 4), .as 0 0 (.k (.lf (.bool true))), none⟩] [4]) .ret
abbrev c11_15 : AC := .seq c11_13 c11_14
abbrev c11_16 : AC := .seq c11_2 c11_15
abbrev c11_17 : AC := .seq (.ops 0 [⟨(some 4), .as 0 0 (.k (.lf (.bool false))), none⟩] [0, 1]) c11_16
abbrev c11 : AC := c11_17
theorem c11_ok : compileFn Tryd.prog 11 = some (26, AC.strip c11, [.t 4]) := by kernel_rfl
/-- harrow/instr.Check -/
abbrev c28_0 : AC := .seq (.ops 0 [⟨(some 2), .as 0 0 (.k (.lf (.int .i64 0))), none⟩, ⟨(some 3), .as 0 0 (.k (.lf (.int .i64 2))), none⟩] [2, 3]) .ret
abbrev c28_1 : AC := .cond (.t 9) c28_0 .skip
abbrev c28_2 : AC := .seq (.ops 0 [⟨(some 7), .mv (.t 0), none⟩, ⟨(some 8), .len (.t 7), none⟩, ⟨(some 9), .bin .gtr (.t 8) (.k (.lf (.int .i64 8192))), none⟩] [0, 9]) c28_1
abbrev c28_3 : AC := .seq (.ops 0 [⟨(some 2), .as 0 0 (.k (.lf (.int .i64 0))), none⟩, ⟨(some 3), .as 0 0 (.k (.lf (.int .i64 3))), none⟩] [2, 3]) .ret
abbrev c28_4 : AC := .cond (.t 12) c28_3 .skip
abbrev c28_5 : AC := .seq (.ops 0 [⟨(some 10), .mv (.t 0), none⟩, ⟨(some 11), .len (.t 10), none⟩, ⟨(some 12), .bin .eql (.t 11) (.k (.lf (.int .i64 0))), none⟩] [0, 12]) c28_4
abbrev c28_6 : AC := .cond (.t 16) .skip (.exit 0)
abbrev c28_7 : AC := .seq (.ops 0 [⟨(some 25), .mv (.t 4), none⟩, ⟨(some 2), .as 0 0 (.t 25), none⟩, ⟨(some 3), .as 0 0 (.k (.lf (.int .i64 160))), none⟩] [2, 3]) .ret
abbrev c28_8 : AC := .seq (.ops 0 [⟨(some 30), .mv (.t 4), none⟩, ⟨(some 2), .as 0 0 (.t 30), none⟩, ⟨(some 3), .as 0 0 (.k (.lf (.int .i64 161))), none⟩] [2, 3]) .ret
abbrev c28_9 : AC := .seq (.ops 0 [⟨(some 51), .mv (.t 4), none⟩, ⟨(some 2), .as 0 0 (.t 51), none⟩, ⟨(some 3), .as 0 0 (.k (.lf (.int .i64 162))), none⟩] [2, 3]) .ret
abbrev c28_10 : AC := .cond (.t 31) c28_9 .skip
abbrev c28_11 : AC := .seq (.ops 0 [⟨(some 32), .fa (.t 5) 0, none⟩, ⟨(some 33), .ld (.t 32) 1 false, none⟩, ⟨(some 34), .call 50 [(.t 33), (.k (.lf (.int .i64 32)))], none⟩, ⟨(some 35), .mv (.t 34), none⟩, ⟨(some 36), .fa (.t 5) 1, (some (35, true))⟩, ⟨(some 37), .ld (.t 36) 1 false, (some (35, true))⟩, ⟨(some 38), .mv (.t 4), (some (35, true))⟩, ⟨(some 39), .un .neg (.t 38), (some (35, true))⟩, ⟨(some 40), .bin .lss (.t 37) (.t 39), (some (35, true))⟩, ⟨(some 41), .mv (.t 40), (some (35, true))⟩, ⟨(some 42), .fa (.t 5) 1, (some (41, false))⟩, ⟨(some 43), .ld (.t 42) 1 false, (some (41, false))⟩, ⟨(some 44), .mv (.t 0), (some (41, false))⟩, ⟨(some 45), .len (.t 44), (some (41, false))⟩, ⟨(some 46), .mv (.t 4), (some (41, false))⟩, ⟨(some 47), .bin .sub (.t 45) (.t 46), (some (41, false))⟩, ⟨(some 48), .bin .geq (.t 43) (.t 47), (some (41, false))⟩, ⟨(some 49), .pk (.t 41) (.k (.lf (.bool true))) (.t 48), (some (35, true))⟩, ⟨(some 50), .pk (.t 35) (.t 49) (.k (.lf (.bool false))), none⟩, ⟨(some 31), .as 0 0 (.t 50), none⟩] [0, 4, 13, 14, 15, 31]) c28_10
abbrev c28_12 : AC := .cond (.t 26) c28_8 c28_11
abbrev c28_13 : AC := .seq (.ops 0 [⟨(some 27), .ld (.t 5) 9 true, none⟩, ⟨(some 28), .call 49 [(.t 27)], none⟩, ⟨(some 29), .un .not (.t 28), none⟩, ⟨(some 26), .as 0 0 (.t 29), none⟩] [0, 4, 5, 13, 14, 15, 26]) c28_12
abbrev c28_14 : AC := .cond (.t 20) c28_7 c28_13
abbrev c28_15 : AC := .seq (.ops 0 [⟨(some 21), .fa (.t 5) 0, none⟩, ⟨(some 22), .ld (.t 21) 1 false, none⟩, ⟨(some 23), .call 31 [(.t 22)], none⟩, ⟨(some 24), .un .not (.t 23), none⟩, ⟨(some 20), .as 0 0 (.t 24), none⟩] [0, 4, 5, 13, 14, 15, 20]) c28_14
abbrev c28_16 : AC := .block 2 c28_15
abbrev c28_17 : AC := .seq (.ops 0 [⟨(some 17), .mv (.t 15), none⟩, ⟨(some 18), .ia (.t 13) (.t 15) 9, none⟩, ⟨(some 19), .ld (.t 18) 9 true, none⟩, ⟨(some 5), .al [.int .i64 0, .int .i64 0, .int .i64 0, .int .i64 0, .str ⟨#[]⟩, .int .u64 0, .int .u64 0, .int .u64 0, .int .u64 0], none⟩, ⟨(some 4), .as 0 0 (.t 17), none⟩, ⟨none, .st (.t 5) (.t 19) 9, none⟩] [0, 4, 5, 13, 14, 15]) c28_16
abbrev c28_18 : AC := .block 1 c28_17
abbrev c28_19 : AC := .seq c28_18 (.ops 0 [⟨(some 52), .bin .add (.t 15) (.k (.lf (.int .i64 1))), none⟩, ⟨(some 15), .mv (.t 52), none⟩] [0, 13, 14, 15])
abbrev c28_20 : AC := .seq c28_6 c28_19
abbrev c28_21 : AC := .seq (.ops 0 [⟨(some 16), .bin .lss (.t 15) (.t 14), none⟩] [0, 13, 14, 15, 16]) c28_20
abbrev c28_22 : AC := .loop c28_21 [0, 13, 14, 15]
abbrev c28_23 : AC := .block 0 c28_22
abbrev c28_24 : AC := .seq (.ops 0 [⟨(some 13), .mv (.t 0), none⟩, ⟨(some 14), .len (.t 13), none⟩, ⟨(some 15), .mv (.k (.lf (.int .i64 0))), none⟩] [0, 13, 14, 15]) c28_23
abbrev c28_25 : AC := .seq (.ops 0 [⟨(some 62), .mv (.t 6), none⟩, ⟨(some 2), .as 0 0 (.t 62), none⟩, ⟨(some 3), .as 0 0 (.k (.lf (.int .i64 163))), none⟩] [2, 3]) .ret
abbrev c28_26 : AC := .cond (.t 61) c28_25 .skip
abbrev c28_27 : AC := .seq (.ops 0 [⟨(some 56), .mv (.t 0), none⟩, ⟨(some 57), .mv (.t 6), none⟩, ⟨(some 58), .ia (.t 56) (.t 57) 9, none⟩, ⟨(some 59), .fa (.t 58) 0, none⟩, ⟨(some 60), .ld (.t 59) 1 false, none⟩, ⟨(some 61), .call 50 [(.t 60), (.k (.lf (.int .i64 64)))], none⟩] [6, 61]) c28_26
abbrev c28_28 : AC := .seq (.ops 0 [⟨(some 53), .mv (.t 0), none⟩, ⟨(some 54), .len (.t 53), none⟩, ⟨(some 55), .bin .sub (.t 54) (.k (.lf (.int .i64 1))), none⟩, ⟨(some 6), .as 0 0 (.t 55), none⟩] [0, 6]) c28_27
abbrev c28_29 : AC := .seq (.ops 0 [⟨(some 2), .as 0 0 (.k (.lf (.int .i64 0))), none⟩, ⟨(some 3), .as 0 0 (.k (.lf (.int .i64 0))), none⟩] [2, 3]) .ret
abbrev c28_30 : AC := .seq c28_28 c28_29
abbrev c28_31 : AC := .seq c28_24 c28_30
abbrev c28_32 : AC := .seq c28_5 c28_31
abbrev c28_33 : AC := .seq c28_2 c28_32
abbrev c28_34 : AC := .seq (.ops 0 [⟨(some 2), .as 0 0 (.k (.lf (.int .i64 0))), none⟩, ⟨(some 3), .as 0 0 (.k (.lf (.int .i64 0))), none⟩] [0]) c28_33
abbrev c28 : AC := c28_34
theorem c28_ok : compileFn Tryd.prog 28 = some (63, AC.strip c28, [.t 2, .t 3]) := by kernel_rfl
/-- slices.Equal[[]harrow/api.Instr,harrow/api.Instr] -/
abbrev c29_0 : AC := .seq (.ops 0 [⟨(some 4), .as 0 0 (.k (.lf (.bool false))), none⟩] [4]) .ret
abbrev c29_1 : AC := .cond (.t 10) c29_0 .skip
abbrev c29_2 : AC := .seq (.ops 0 [⟨(some 6), .mv (.t 0), none⟩, ⟨(some 7), .len (.t 6), none⟩, ⟨(some 8), .mv (.t 1), none⟩, ⟨(some 9), .len (.t 8), none⟩, ⟨(some 10), .bin .neq (.t 7) (.t 9), none⟩] [0, 1, 10]) c29_1
abbrev c29_3 : AC := .cond (.t 14) .skip (.exit 0)
abbrev c29_4 : AC := .seq (.ops 0 [⟨(some 4), .as 0 0 (.k (.lf (.bool false))), none⟩] [4]) .ret
abbrev c29_5 : AC := .cond (.t 24) c29_4 .skip
abbrev c29_6 : AC := .seq (.ops 2 [⟨(some 16), .mv (.t 0), none⟩, ⟨(some 17), .mv (.t 5), none⟩, ⟨(some 18), .ia (.t 16) (.t 17) 9, none⟩, ⟨(some 19), .ld (.t 18) 9 true, none⟩, ⟨(some 20), .mv (.t 1), none⟩, ⟨(some 21), .mv (.t 5), none⟩, ⟨(some 22), .ia (.t 20) (.t 21) 9, none⟩, ⟨(some 23), .ld (.t 22) 9 true, none⟩, ⟨(some 24), .beq true [2, 2, 2, 2, 3, 2, 2, 2, 2] (.t 19) (.t 23), none⟩] [0, 1, 12, 13, 24]) c29_5
abbrev c29_7 : AC := .seq (.ops 0 [⟨(some 15), .mv (.t 13), none⟩, ⟨(some 5), .as 0 0 (.t 15), none⟩] [0, 1, 5, 12, 13]) c29_6
abbrev c29_8 : AC := .block 1 c29_7
abbrev c29_9 : AC := .seq c29_8 (.ops 0 [⟨(some 25), .bin .add (.t 13) (.k (.lf (.int .i64 1))), none⟩, ⟨(some 13), .mv (.t 25), none⟩] [0, 1, 12, 13])
abbrev c29_10 : AC := .seq c29_3 c29_9
abbrev c29_11 : AC := .seq (.ops 0 [⟨(some 14), .bin .lss (.t 13) (.t 12), none⟩] [0, 1, 12, 13, 14]) c29_10
abbrev c29_12 : AC := .loop c29_11 [0, 1, 12, 13]
abbrev c29_13 : AC := .block 0 c29_12
abbrev c29_14 : AC := .seq (.ops 0 [⟨(some 11), .mv (.t 0), none⟩, ⟨(some 12), .len (.t 11), none⟩, ⟨(some 13), .mv (.k (.lf (.int .i64 0))), none⟩] [0, 1, 12, 13]) c29_13
abbrev c29_15 : AC := .seq (.ops 0 [⟨(some 4), .as 0 0 (.k (.lf (.bool true))), none⟩] [4]) .ret
abbrev c29_16 : AC := .seq c29_14 c29_15
abbrev c29_17 : AC := .seq c29_2 c29_16
abbrev c29_18 : AC := .seq (.ops 0 [⟨(some 4), .as 0 0 (.k (.lf (.bool false))), none⟩] [0, 1]) c29_17
abbrev c29 : AC := c29_18
theorem c29_ok : compileFn Tryd.prog 29 = some (26, AC.strip c29, [.t 4]) := by kernel_rfl
/-- harrow/instr.is -/
abbrev c31_0 : AC := .seq (.ops 0 [⟨(some 3), .mv (.t 0), none⟩, ⟨(some 4), .bin .geq (.t 3) (.k (.lf (.int .i64 1))), none⟩, ⟨(some 5), .mv (.t 4), none⟩, ⟨(some 6), .mv (.t 0), (some (5, true))⟩, ⟨(some 7), .bin .leq (.t 6) (.k (.lf (.int .i64 20))), (some (5, true))⟩, ⟨(some 8), .pk (.t 5) (.t 7) (.k (.lf (.bool false))), none⟩, ⟨(some 2), .as 0 0 (.t 8), none⟩] [2]) .ret
abbrev c31_1 : AC := .seq (.ops 0 [⟨(some 2), .as 0 0 (.k (.lf (.bool false))), none⟩] [0]) c31_0
abbrev c31 : AC := c31_1
theorem c31_ok : compileFn Tryd.prog 31 = some (9, AC.strip c31, [.t 2]) := by kernel_rfl
/-- harrow/instr.fits -/
abbrev c49_0 : AC := .seq (.ops 0 [⟨(some 2), .as 0 0 (.k (.lf (.bool false))), none⟩] [2]) .ret
abbrev c49_1 : AC := .cond (.t 6) c49_0 .skip
abbrev c49_2 : AC := .seq (.ops 2 [⟨(some 3), .ld (.t 1) 9 true, none⟩, ⟨(some 4), .ld (.t 1) 9 true, none⟩, ⟨(some 5), .call 65 [(.t 4)], none⟩, ⟨(some 6), .beq true [2, 2, 2, 2, 3, 2, 2, 2, 2] (.t 3) (.t 5), none⟩] [1, 6]) c49_1
abbrev c49_3 : AC := .cond (.t 9) .skip (.ops 0 [⟨(some 11), .bin .eql (.t 8) (.k (.lf (.int .i64 5))), none⟩, ⟨(some 9), .as 0 0 (.t 11), none⟩] [1, 8, 9])
abbrev c49_4 : AC := .seq (.ops 0 [⟨(some 10), .bin .eql (.t 8) (.k (.lf (.int .i64 2))), none⟩, ⟨(some 9), .as 0 0 (.t 10), none⟩] [1, 8, 9]) c49_3
abbrev c49_5 : AC := .seq (.ops 0 [⟨(some 12), .fa (.t 1) 2, none⟩, ⟨(some 13), .ld (.t 12) 1 false, none⟩, ⟨(some 14), .bin .geq (.t 13) (.k (.lf (.int .i64 0))), none⟩, ⟨(some 15), .mv (.t 14), none⟩, ⟨(some 16), .fa (.t 1) 2, (some (15, true))⟩, ⟨(some 17), .ld (.t 16) 1 false, (some (15, true))⟩, ⟨(some 18), .bin .leq (.t 17) (.k (.lf (.int .i64 255))), (some (15, true))⟩, ⟨(some 19), .pk (.t 15) (.t 18) (.k (.lf (.bool false))), none⟩, ⟨(some 2), .as 0 0 (.t 19), none⟩] [2]) .ret
abbrev c49_6 : AC := .seq (.ops 0 [⟨(some 22), .fa (.t 1) 2, none⟩, ⟨(some 23), .ld (.t 22) 1 false, none⟩, ⟨(some 24), .bin .geq (.t 23) (.k (.lf (.int .i64 2))), none⟩, ⟨(some 25), .mv (.t 24), none⟩, ⟨(some 26), .fa (.t 1) 2, (some (25, true))⟩, ⟨(some 27), .ld (.t 26) 1 false, (some (25, true))⟩, ⟨(some 28), .bin .leq (.t 27) (.k (.lf (.int .i64 7))), (some (25, true))⟩, ⟨(some 29), .pk (.t 25) (.t 28) (.k (.lf (.bool false))), none⟩, ⟨(some 30), .mv (.t 29), none⟩, ⟨(some 31), .fa (.t 1) 2, (some (30, true))⟩, ⟨(some 32), .ld (.t 31) 1 false, (some (30, true))⟩, ⟨(some 33), .fa (.t 1) 3, (some (30, true))⟩, ⟨(some 34), .ld (.t 33) 1 false, (some (30, true))⟩, ⟨(some 35), .fa (.t 1) 4, (some (30, true))⟩, ⟨(some 36), .ld (.t 35) 1 false, (some (30, true))⟩, ⟨(some 37), .call 66 [(.t 32), (.t 34), (.t 36)], (some (30, true))⟩, ⟨(some 38), .pk (.t 30) (.t 37) (.k (.lf (.bool false))), none⟩, ⟨(some 2), .as 0 0 (.t 38), none⟩] [2]) .ret
abbrev c49_7 : AC := .seq (.ops 0 [⟨(some 2), .as 0 0 (.k (.lf (.bool false))), none⟩] [2]) .ret
abbrev c49_8 : AC := .cond (.t 68) c49_7 .skip
abbrev c49_9 : AC := .seq (.ops 0 [⟨(some 41), .fa (.t 1) 2, none⟩, ⟨(some 42), .ld (.t 41) 1 false, none⟩, ⟨(some 43), .bin .lss (.t 42) (.k (.lf (.int .i64 1))), none⟩, ⟨(some 44), .mv (.t 43), none⟩, ⟨(some 45), .fa (.t 1) 2, (some (44, false))⟩, ⟨(some 46), .ld (.t 45) 1 false, (some (44, false))⟩, ⟨(some 47), .bin .gtr (.t 46) (.k (.lf (.int .i64 7))), (some (44, false))⟩, ⟨(some 48), .pk (.t 44) (.k (.lf (.bool true))) (.t 47), none⟩, ⟨(some 49), .mv (.t 48), none⟩, ⟨(some 50), .fa (.t 1) 1, (some (49, false))⟩, ⟨(some 51), .ld (.t 50) 1 false, (some (49, false))⟩, ⟨(some 52), .bin .lss (.t 51) (.k (.lf (.int .i64 0))), (some (49, false))⟩, ⟨(some 53), .pk (.t 49) (.k (.lf (.bool true))) (.t 52), none⟩, ⟨(some 54), .mv (.t 53), none⟩, ⟨(some 55), .fa (.t 1) 1, (some (54, false))⟩, ⟨(some 56), .ld (.t 55) 1 false, (some (54, false))⟩, ⟨(some 57), .bin .gtr (.t 56) (.k (.lf (.int .i64 255))), (some (54, false))⟩, ⟨(some 58), .pk (.t 54) (.k (.lf (.bool true))) (.t 57), none⟩, ⟨(some 59), .mv (.t 58), none⟩, ⟨(some 60), .fa (.t 1) 2, (some (59, false))⟩, ⟨(some 61), .ld (.t 60) 1 false, (some (59, false))⟩, ⟨(some 62), .bin .eql (.t 61) (.k (.lf (.int .i64 1))), (some (59, false))⟩, ⟨(some 63), .mv (.t 62), (some (59, false))⟩, ⟨(some 64), .fa (.t 1) 1, (some (63, true))⟩, ⟨(some 65), .ld (.t 64) 1 false, (some (63, true))⟩, ⟨(some 66), .bin .gtr (.t 65) (.k (.lf (.int .i64 0))), (some (63, true))⟩, ⟨(some 67), .pk (.t 63) (.t 66) (.k (.lf (.bool false))), (some (59, false))⟩, ⟨(some 68), .pk (.t 59) (.k (.lf (.bool true))) (.t 67), none⟩] [1, 68]) c49_8
abbrev c49_10 : AC := .seq (.ops 0 [⟨(some 69), .fa (.t 1) 2, none⟩, ⟨(some 70), .ld (.t 69) 1 false, none⟩, ⟨(some 71), .fa (.t 1) 3, none⟩, ⟨(some 72), .ld (.t 71) 1 false, none⟩, ⟨(some 73), .fa (.t 1) 4, none⟩, ⟨(some 74), .ld (.t 73) 1 false, none⟩, ⟨(some 75), .call 66 [(.t 70), (.t 72), (.t 74)], none⟩, ⟨(some 2), .as 0 0 (.t 75), none⟩] [2]) .ret
abbrev c49_11 : AC := .seq c49_9 c49_10
abbrev c49_12 : AC := .cond (.t 39) c49_11 .skip
abbrev c49_13 : AC := .seq (.ops 0 [⟨(some 40), .bin .eql (.t 8) (.k (.lf (.int .i64 20))), none⟩, ⟨(some 39), .as 0 0 (.t 40), none⟩] [1, 39]) c49_12
abbrev c49_14 : AC := .cond (.t 20) c49_6 c49_13
abbrev c49_15 : AC := .seq (.ops 0 [⟨(some 21), .bin .eql (.t 8) (.k (.lf (.int .i64 18))), none⟩, ⟨(some 20), .as 0 0 (.t 21), none⟩] [1, 8, 20]) c49_14
abbrev c49_16 : AC := .cond (.t 9) c49_5 c49_15
abbrev c49_17 : AC := .seq c49_4 c49_16
abbrev c49_18 : AC := .block 0 c49_17
abbrev c49_19 : AC := .seq (.ops 0 [⟨(some 7), .fa (.t 1) 0, none⟩, ⟨(some 8), .ld (.t 7) 1 false, none⟩] [1, 8]) c49_18
abbrev c49_20 : AC := .seq (.ops 0 [⟨(some 2), .as 0 0 (.k (.lf (.bool true))), none⟩] [2]) .ret
abbrev c49_21 : AC := .seq c49_19 c49_20
abbrev c49_22 : AC := .seq c49_2 c49_21
abbrev c49_23 : AC := .seq (.ops 0 [⟨(some 1), .bx (.t 0), none⟩, ⟨(some 2), .as 0 0 (.k (.lf (.bool false))), none⟩] [1]) c49_22
abbrev c49 : AC := c49_23
theorem c49_ok : compileFn Tryd.prog 49 = some (76, AC.strip c49, [.t 2]) := by kernel_rfl
/-- harrow/instr.has -/
abbrev c50_0 : AC := .seq (.ops 0 [⟨(some 5), .mv (.t 0), none⟩, ⟨(some 6), .iaa (.k (.lf (.gl 1 0))) (.t 5) 21 1, none⟩, ⟨(some 7), .ld (.t 6) 1 false, none⟩, ⟨(some 8), .mv (.t 1), none⟩, ⟨(some 9), .bin .and (.t 7) (.t 8), none⟩, ⟨(some 10), .bin .neq (.t 9) (.k (.lf (.int .i64 0))), none⟩, ⟨(some 4), .as 0 0 (.t 10), none⟩] [4]) .ret
abbrev c50_1 : AC := .seq (.ops 0 [⟨(some 4), .as 0 0 (.k (.lf (.bool false))), none⟩] [0, 1]) c50_0
abbrev c50 : AC := c50_1
theorem c50_ok : compileFn Tryd.prog 50 = some (11, AC.strip c50, [.t 4]) := by kernel_rfl
/-- harrow/instr.plain -/
abbrev c65_0 : AC := .cond (.t 9) (.ops 0 [⟨(some 10), .fa (.t 1) 1, none⟩, ⟨(some 11), .ld (.t 10) 1 false, none⟩, ⟨(some 12), .fa (.t 3) 1, none⟩, ⟨none, .st (.t 12) (.t 11) 1, none⟩] [1, 2, 3]) .skip
abbrev c65_1 : AC := .seq (.ops 0 [⟨(some 7), .fa (.t 1) 0, none⟩, ⟨(some 8), .ld (.t 7) 1 false, none⟩, ⟨(some 9), .call 50 [(.t 8), (.k (.lf (.int .i64 1)))], none⟩] [1, 2, 3, 9]) c65_0
abbrev c65_2 : AC := .cond (.t 15) (.ops 0 [⟨(some 16), .fa (.t 1) 2, none⟩, ⟨(some 17), .ld (.t 16) 1 false, none⟩, ⟨(some 18), .fa (.t 3) 2, none⟩, ⟨none, .st (.t 18) (.t 17) 1, none⟩] [1, 2, 3]) .skip
abbrev c65_3 : AC := .seq (.ops 0 [⟨(some 13), .fa (.t 1) 0, none⟩, ⟨(some 14), .ld (.t 13) 1 false, none⟩, ⟨(some 15), .call 50 [(.t 14), (.k (.lf (.int .i64 2)))], none⟩] [1, 2, 3, 15]) c65_2
abbrev c65_4 : AC := .cond (.t 21) (.ops 0 [⟨(some 22), .fa (.t 1) 3, none⟩, ⟨(some 23), .ld (.t 22) 1 false, none⟩, ⟨(some 24), .fa (.t 3) 3, none⟩, ⟨none, .st (.t 24) (.t 23) 1, none⟩] [1, 2, 3]) .skip
abbrev c65_5 : AC := .seq (.ops 0 [⟨(some 19), .fa (.t 1) 0, none⟩, ⟨(some 20), .ld (.t 19) 1 false, none⟩, ⟨(some 21), .call 50 [(.t 20), (.k (.lf (.int .i64 4)))], none⟩] [1, 2, 3, 21]) c65_4
abbrev c65_6 : AC := .cond (.t 27) (.ops 0 [⟨(some 28), .fa (.t 1) 4, none⟩, ⟨(some 29), .ld (.t 28) 1 false, none⟩, ⟨(some 30), .fa (.t 3) 4, none⟩, ⟨none, .st (.t 30) (.t 29) 1, none⟩] [1, 2, 3]) .skip
abbrev c65_7 : AC := .seq (.ops 0 [⟨(some 25), .fa (.t 1) 0, none⟩, ⟨(some 26), .ld (.t 25) 1 false, none⟩, ⟨(some 27), .call 50 [(.t 26), (.k (.lf (.int .i64 8)))], none⟩] [1, 2, 3, 27]) c65_6
abbrev c65_8 : AC := .cond (.t 33) (.ops 0 [⟨(some 34), .fa (.t 1) 5, none⟩, ⟨(some 35), .ld (.t 34) 4 true, none⟩, ⟨(some 36), .fa (.t 3) 5, none⟩, ⟨none, .st (.t 36) (.t 35) 4, none⟩] [2, 3]) .skip
abbrev c65_9 : AC := .seq (.ops 0 [⟨(some 31), .fa (.t 1) 0, none⟩, ⟨(some 32), .ld (.t 31) 1 false, none⟩, ⟨(some 33), .call 50 [(.t 32), (.k (.lf (.int .i64 16)))], none⟩] [1, 2, 3, 33]) c65_8
abbrev c65_10 : AC := .seq (.ops 0 [⟨(some 37), .ld (.t 3) 9 true, none⟩, ⟨none, .st (.t 2) (.t 37) 9, none⟩] [2]) .ret
abbrev c65_11 : AC := .seq c65_9 c65_10
abbrev c65_12 : AC := .seq c65_7 c65_11
abbrev c65_13 : AC := .seq c65_5 c65_12
abbrev c65_14 : AC := .seq c65_3 c65_13
abbrev c65_15 : AC := .seq c65_1 c65_14
abbrev c65_16 : AC := .seq (.ops 0 [⟨(some 4), .fa (.t 1) 0, none⟩, ⟨(some 5), .ld (.t 4) 1 false, none⟩, ⟨(some 6), .bd [.int .i64 0, .int .i64 0, .int .i64 0, .int .i64 0, .str ⟨#[]⟩, .int .u64 0, .int .u64 0, .int .u64 0, .int .u64 0] [(0, 1, (.t 5))], none⟩, ⟨(some 3), .al [.int .i64 0, .int .i64 0, .int .i64 0, .int .i64 0, .str ⟨#[]⟩, .int .u64 0, .int .u64 0, .int .u64 0, .int .u64 0], none⟩, ⟨none, .st (.t 3) (.t 6) 9, none⟩] [1, 2, 3]) c65_15
abbrev c65_17 : AC := .seq (.ops 0 [⟨(some 1), .bx (.t 0), none⟩, ⟨(some 2), .al [.int .i64 0, .int .i64 0, .int .i64 0, .int .i64 0, .str ⟨#[]⟩, .int .u64 0, .int .u64 0, .int .u64 0, .int .u64 0], none⟩] [1, 2]) c65_16
abbrev c65 : AC := c65_17
theorem c65_ok : compileFn Tryd.prog 65 = some (38, AC.strip c65, [.c 2 9 true]) := by kernel_rfl
end Go.Proofs.YthcpaohmajjopaaDoor.I
