/- Contracts, part M1. -/
import Derived.Test.YtkmhoholblbbfaaDoorProg
import Derived.Test.YtkmhoholblbbfaaDoorAmLeaf2
import Derived.Test.YtkmhoholblbbfaaDoorAmOpen
set_option maxRecDepth 100000
namespace Go.Proofs.YtkmhoholblbbfaaDoor.M
open Go Go.Proofs.YtkmhoholblbbfaaDoor.AM
/-- harrow/instr.Check -/
abbrev c8_0 : AC := .seq (.ops 0 [⟨(some 2), .as 0 0 (.k (.lf (.int .i64 0))), none⟩, ⟨(some 3), .as 0 0 (.k (.lf (.int .i64 2))), none⟩] [2, 3]) .ret
abbrev c8_1 : AC := .cond (.t 9) c8_0 .skip
abbrev c8_2 : AC := .seq (.ops 0 [⟨(some 7), .mv (.t 0), none⟩, ⟨(some 8), .len (.t 7), none⟩, ⟨(some 9), .bin .gtr (.t 8) (.k (.lf (.int .i64 8192))), none⟩] [0, 9]) c8_1
abbrev c8_3 : AC := .seq (.ops 0 [⟨(some 2), .as 0 0 (.k (.lf (.int .i64 0))), none⟩, ⟨(some 3), .as 0 0 (.k (.lf (.int .i64 3))), none⟩] [2, 3]) .ret
abbrev c8_4 : AC := .cond (.t 12) c8_3 .skip
abbrev c8_5 : AC := .seq (.ops 0 [⟨(some 10), .mv (.t 0), none⟩, ⟨(some 11), .len (.t 10), none⟩, ⟨(some 12), .bin .eql (.t 11) (.k (.lf (.int .i64 0))), none⟩] [0, 12]) c8_4
abbrev c8_6 : AC := .cond (.t 16) .skip (.exit 0)
abbrev c8_7 : AC := .seq (.ops 0 [⟨(some 25), .mv (.t 4), none⟩, ⟨(some 2), .as 0 0 (.t 25), none⟩, ⟨(some 3), .as 0 0 (.k (.lf (.int .i64 160))), none⟩] [2, 3]) .ret
abbrev c8_8 : AC := .seq (.ops 0 [⟨(some 30), .mv (.t 4), none⟩, ⟨(some 2), .as 0 0 (.t 30), none⟩, ⟨(some 3), .as 0 0 (.k (.lf (.int .i64 161))), none⟩] [2, 3]) .ret
abbrev c8_9 : AC := .seq (.ops 0 [⟨(some 51), .mv (.t 4), none⟩, ⟨(some 2), .as 0 0 (.t 51), none⟩, ⟨(some 3), .as 0 0 (.k (.lf (.int .i64 162))), none⟩] [2, 3]) .ret
abbrev c8_10 : AC := .cond (.t 31) c8_9 .skip
abbrev c8_11 : AC := .seq (.ops 0 [⟨(some 32), .fa (.t 5) 0, none⟩, ⟨(some 33), .ld (.t 32) 1 false, none⟩, ⟨(some 34), .call 13 [(.t 33), (.k (.lf (.int .i64 32)))], none⟩, ⟨(some 35), .mv (.t 34), none⟩, ⟨(some 36), .fa (.t 5) 1, (some (35, true))⟩, ⟨(some 37), .ld (.t 36) 1 false, (some (35, true))⟩, ⟨(some 38), .mv (.t 4), (some (35, true))⟩, ⟨(some 39), .un .neg (.t 38), (some (35, true))⟩, ⟨(some 40), .bin .lss (.t 37) (.t 39), (some (35, true))⟩, ⟨(some 41), .mv (.t 40), (some (35, true))⟩, ⟨(some 42), .fa (.t 5) 1, (some (41, false))⟩, ⟨(some 43), .ld (.t 42) 1 false, (some (41, false))⟩, ⟨(some 44), .mv (.t 0), (some (41, false))⟩, ⟨(some 45), .len (.t 44), (some (41, false))⟩, ⟨(some 46), .mv (.t 4), (some (41, false))⟩, ⟨(some 47), .bin .sub (.t 45) (.t 46), (some (41, false))⟩, ⟨(some 48), .bin .geq (.t 43) (.t 47), (some (41, false))⟩, ⟨(some 49), .pk (.t 41) (.k (.lf (.bool true))) (.t 48), (some (35, true))⟩, ⟨(some 50), .pk (.t 35) (.t 49) (.k (.lf (.bool false))), none⟩, ⟨(some 31), .as 0 0 (.t 50), none⟩] [0, 4, 13, 14, 15, 31]) c8_10
abbrev c8_12 : AC := .cond (.t 26) c8_8 c8_11
abbrev c8_13 : AC := .seq (.ops 0 [⟨(some 27), .ld (.t 5) 9 true, none⟩, ⟨(some 28), .call 12 [(.t 27)], none⟩, ⟨(some 29), .un .not (.t 28), none⟩, ⟨(some 26), .as 0 0 (.t 29), none⟩] [0, 4, 5, 13, 14, 15, 26]) c8_12
abbrev c8_14 : AC := .cond (.t 20) c8_7 c8_13
abbrev c8_15 : AC := .seq (.ops 0 [⟨(some 21), .fa (.t 5) 0, none⟩, ⟨(some 22), .ld (.t 21) 1 false, none⟩, ⟨(some 23), .call 11 [(.t 22)], none⟩, ⟨(some 24), .un .not (.t 23), none⟩, ⟨(some 20), .as 0 0 (.t 24), none⟩] [0, 4, 5, 13, 14, 15, 20]) c8_14
abbrev c8_16 : AC := .block 2 c8_15
abbrev c8_17 : AC := .seq (.ops 0 [⟨(some 17), .mv (.t 15), none⟩, ⟨(some 18), .ia (.t 13) (.t 15) 9, none⟩, ⟨(some 19), .ld (.t 18) 9 true, none⟩, ⟨(some 5), .al [.int .i64 0, .int .i64 0, .int .i64 0, .int .i64 0, .str ⟨#[]⟩, .int .u64 0, .int .u64 0, .int .u64 0, .int .u64 0], none⟩, ⟨(some 4), .as 0 0 (.t 17), none⟩, ⟨none, .st (.t 5) (.t 19) 9, none⟩] [0, 4, 5, 13, 14, 15]) c8_16
abbrev c8_18 : AC := .block 1 c8_17
abbrev c8_19 : AC := .seq c8_18 (.ops 0 [⟨(some 52), .bin .add (.t 15) (.k (.lf (.int .i64 1))), none⟩, ⟨(some 15), .mv (.t 52), none⟩] [0, 13, 14, 15])
abbrev c8_20 : AC := .seq c8_6 c8_19
abbrev c8_21 : AC := .seq (.ops 0 [⟨(some 16), .bin .lss (.t 15) (.t 14), none⟩] [0, 13, 14, 15, 16]) c8_20
abbrev c8_22 : AC := .loop c8_21 [0, 13, 14, 15]
abbrev c8_23 : AC := .block 0 c8_22
abbrev c8_24 : AC := .seq (.ops 0 [⟨(some 13), .mv (.t 0), none⟩, ⟨(some 14), .len (.t 13), none⟩, ⟨(some 15), .mv (.k (.lf (.int .i64 0))), none⟩] [0, 13, 14, 15]) c8_23
abbrev c8_25 : AC := .seq (.ops 0 [⟨(some 62), .mv (.t 6), none⟩, ⟨(some 2), .as 0 0 (.t 62), none⟩, ⟨(some 3), .as 0 0 (.k (.lf (.int .i64 163))), none⟩] [2, 3]) .ret
abbrev c8_26 : AC := .cond (.t 61) c8_25 .skip
abbrev c8_27 : AC := .seq (.ops 0 [⟨(some 56), .mv (.t 0), none⟩, ⟨(some 57), .mv (.t 6), none⟩, ⟨(some 58), .ia (.t 56) (.t 57) 9, none⟩, ⟨(some 59), .fa (.t 58) 0, none⟩, ⟨(some 60), .ld (.t 59) 1 false, none⟩, ⟨(some 61), .call 13 [(.t 60), (.k (.lf (.int .i64 64)))], none⟩] [6, 61]) c8_26
abbrev c8_28 : AC := .seq (.ops 0 [⟨(some 53), .mv (.t 0), none⟩, ⟨(some 54), .len (.t 53), none⟩, ⟨(some 55), .bin .sub (.t 54) (.k (.lf (.int .i64 1))), none⟩, ⟨(some 6), .as 0 0 (.t 55), none⟩] [0, 6]) c8_27
abbrev c8_29 : AC := .seq (.ops 0 [⟨(some 2), .as 0 0 (.k (.lf (.int .i64 0))), none⟩, ⟨(some 3), .as 0 0 (.k (.lf (.int .i64 0))), none⟩] [2, 3]) .ret
abbrev c8_30 : AC := .seq c8_28 c8_29
abbrev c8_31 : AC := .seq c8_24 c8_30
abbrev c8_32 : AC := .seq c8_5 c8_31
abbrev c8_33 : AC := .seq c8_2 c8_32
abbrev c8_34 : AC := .seq (.ops 0 [⟨(some 2), .as 0 0 (.k (.lf (.int .i64 0))), none⟩, ⟨(some 3), .as 0 0 (.k (.lf (.int .i64 0))), none⟩] [0]) c8_33
abbrev c8 : AC := c8_34
theorem c8_ok : compileFn Tryd.prog 8 = some (63, AC.strip c8, [.t 2, .t 3]) := by kernel_rfl
/-- harrow/instr.is -/
abbrev c11_0 : AC := .seq (.ops 0 [⟨(some 3), .mv (.t 0), none⟩, ⟨(some 4), .bin .geq (.t 3) (.k (.lf (.int .i64 1))), none⟩, ⟨(some 5), .mv (.t 4), none⟩, ⟨(some 6), .mv (.t 0), (some (5, true))⟩, ⟨(some 7), .bin .leq (.t 6) (.k (.lf (.int .i64 20))), (some (5, true))⟩, ⟨(some 8), .pk (.t 5) (.t 7) (.k (.lf (.bool false))), none⟩, ⟨(some 2), .as 0 0 (.t 8), none⟩] [2]) .ret
abbrev c11_1 : AC := .seq (.ops 0 [⟨(some 2), .as 0 0 (.k (.lf (.bool false))), none⟩] [0]) c11_0
abbrev c11 : AC := c11_1
theorem c11_ok : compileFn Tryd.prog 11 = some (9, AC.strip c11, [.t 2]) := by kernel_rfl
/-- harrow/instr.fits -/
abbrev c12_0 : AC := .seq (.ops 0 [⟨(some 2), .as 0 0 (.k (.lf (.bool false))), none⟩] [2]) .ret
abbrev c12_1 : AC := .cond (.t 6) c12_0 .skip
abbrev c12_2 : AC := .seq (.ops 2 [⟨(some 3), .ld (.t 1) 9 true, none⟩, ⟨(some 4), .ld (.t 1) 9 true, none⟩, ⟨(some 5), .call 29 [(.t 4)], none⟩, ⟨(some 6), .beq true [2, 2, 2, 2, 3, 2, 2, 2, 2] (.t 3) (.t 5), none⟩] [1, 6]) c12_1
abbrev c12_3 : AC := .cond (.t 9) .skip (.ops 0 [⟨(some 11), .bin .eql (.t 8) (.k (.lf (.int .i64 5))), none⟩, ⟨(some 9), .as 0 0 (.t 11), none⟩] [1, 8, 9])
abbrev c12_4 : AC := .seq (.ops 0 [⟨(some 10), .bin .eql (.t 8) (.k (.lf (.int .i64 2))), none⟩, ⟨(some 9), .as 0 0 (.t 10), none⟩] [1, 8, 9]) c12_3
abbrev c12_5 : AC := .seq (.ops 0 [⟨(some 12), .fa (.t 1) 2, none⟩, ⟨(some 13), .ld (.t 12) 1 false, none⟩, ⟨(some 14), .bin .geq (.t 13) (.k (.lf (.int .i64 0))), none⟩, ⟨(some 15), .mv (.t 14), none⟩, ⟨(some 16), .fa (.t 1) 2, (some (15, true))⟩, ⟨(some 17), .ld (.t 16) 1 false, (some (15, true))⟩, ⟨(some 18), .bin .leq (.t 17) (.k (.lf (.int .i64 255))), (some (15, true))⟩, ⟨(some 19), .pk (.t 15) (.t 18) (.k (.lf (.bool false))), none⟩, ⟨(some 2), .as 0 0 (.t 19), none⟩] [2]) .ret
abbrev c12_6 : AC := .seq (.ops 0 [⟨(some 22), .fa (.t 1) 2, none⟩, ⟨(some 23), .ld (.t 22) 1 false, none⟩, ⟨(some 24), .bin .geq (.t 23) (.k (.lf (.int .i64 2))), none⟩, ⟨(some 25), .mv (.t 24), none⟩, ⟨(some 26), .fa (.t 1) 2, (some (25, true))⟩, ⟨(some 27), .ld (.t 26) 1 false, (some (25, true))⟩, ⟨(some 28), .bin .leq (.t 27) (.k (.lf (.int .i64 7))), (some (25, true))⟩, ⟨(some 29), .pk (.t 25) (.t 28) (.k (.lf (.bool false))), none⟩, ⟨(some 30), .mv (.t 29), none⟩, ⟨(some 31), .fa (.t 1) 2, (some (30, true))⟩, ⟨(some 32), .ld (.t 31) 1 false, (some (30, true))⟩, ⟨(some 33), .fa (.t 1) 3, (some (30, true))⟩, ⟨(some 34), .ld (.t 33) 1 false, (some (30, true))⟩, ⟨(some 35), .fa (.t 1) 4, (some (30, true))⟩, ⟨(some 36), .ld (.t 35) 1 false, (some (30, true))⟩, ⟨(some 37), .call 30 [(.t 32), (.t 34), (.t 36)], (some (30, true))⟩, ⟨(some 38), .pk (.t 30) (.t 37) (.k (.lf (.bool false))), none⟩, ⟨(some 2), .as 0 0 (.t 38), none⟩] [2]) .ret
abbrev c12_7 : AC := .seq (.ops 0 [⟨(some 2), .as 0 0 (.k (.lf (.bool false))), none⟩] [2]) .ret
abbrev c12_8 : AC := .cond (.t 68) c12_7 .skip
abbrev c12_9 : AC := .seq (.ops 0 [⟨(some 41), .fa (.t 1) 2, none⟩, ⟨(some 42), .ld (.t 41) 1 false, none⟩, ⟨(some 43), .bin .lss (.t 42) (.k (.lf (.int .i64 1))), none⟩, ⟨(some 44), .mv (.t 43), none⟩, ⟨(some 45), .fa (.t 1) 2, (some (44, false))⟩, ⟨(some 46), .ld (.t 45) 1 false, (some (44, false))⟩, ⟨(some 47), .bin .gtr (.t 46) (.k (.lf (.int .i64 7))), (some (44, false))⟩, ⟨(some 48), .pk (.t 44) (.k (.lf (.bool true))) (.t 47), none⟩, ⟨(some 49), .mv (.t 48), none⟩, ⟨(some 50), .fa (.t 1) 1, (some (49, false))⟩, ⟨(some 51), .ld (.t 50) 1 false, (some (49, false))⟩, ⟨(some 52), .bin .lss (.t 51) (.k (.lf (.int .i64 0))), (some (49, false))⟩, ⟨(some 53), .pk (.t 49) (.k (.lf (.bool true))) (.t 52), none⟩, ⟨(some 54), .mv (.t 53), none⟩, ⟨(some 55), .fa (.t 1) 1, (some (54, false))⟩, ⟨(some 56), .ld (.t 55) 1 false, (some (54, false))⟩, ⟨(some 57), .bin .gtr (.t 56) (.k (.lf (.int .i64 255))), (some (54, false))⟩, ⟨(some 58), .pk (.t 54) (.k (.lf (.bool true))) (.t 57), none⟩, ⟨(some 59), .mv (.t 58), none⟩, ⟨(some 60), .fa (.t 1) 2, (some (59, false))⟩, ⟨(some 61), .ld (.t 60) 1 false, (some (59, false))⟩, ⟨(some 62), .bin .eql (.t 61) (.k (.lf (.int .i64 1))), (some (59, false))⟩, ⟨(some 63), .mv (.t 62), (some (59, false))⟩, ⟨(some 64), .fa (.t 1) 1, (some (63, true))⟩, ⟨(some 65), .ld (.t 64) 1 false, (some (63, true))⟩, ⟨(some 66), .bin .gtr (.t 65) (.k (.lf (.int .i64 0))), (some (63, true))⟩, ⟨(some 67), .pk (.t 63) (.t 66) (.k (.lf (.bool false))), (some (59, false))⟩, ⟨(some 68), .pk (.t 59) (.k (.lf (.bool true))) (.t 67), none⟩] [1, 68]) c12_8
abbrev c12_10 : AC := .seq (.ops 0 [⟨(some 69), .fa (.t 1) 2, none⟩, ⟨(some 70), .ld (.t 69) 1 false, none⟩, ⟨(some 71), .fa (.t 1) 3, none⟩, ⟨(some 72), .ld (.t 71) 1 false, none⟩, ⟨(some 73), .fa (.t 1) 4, none⟩, ⟨(some 74), .ld (.t 73) 1 false, none⟩, ⟨(some 75), .call 30 [(.t 70), (.t 72), (.t 74)], none⟩, ⟨(some 2), .as 0 0 (.t 75), none⟩] [2]) .ret
abbrev c12_11 : AC := .seq c12_9 c12_10
abbrev c12_12 : AC := .cond (.t 39) c12_11 .skip
abbrev c12_13 : AC := .seq (.ops 0 [⟨(some 40), .bin .eql (.t 8) (.k (.lf (.int .i64 20))), none⟩, ⟨(some 39), .as 0 0 (.t 40), none⟩] [1, 39]) c12_12
abbrev c12_14 : AC := .cond (.t 20) c12_6 c12_13
abbrev c12_15 : AC := .seq (.ops 0 [⟨(some 21), .bin .eql (.t 8) (.k (.lf (.int .i64 18))), none⟩, ⟨(some 20), .as 0 0 (.t 21), none⟩] [1, 8, 20]) c12_14
abbrev c12_16 : AC := .cond (.t 9) c12_5 c12_15
abbrev c12_17 : AC := .seq c12_4 c12_16
abbrev c12_18 : AC := .block 0 c12_17
abbrev c12_19 : AC := .seq (.ops 0 [⟨(some 7), .fa (.t 1) 0, none⟩, ⟨(some 8), .ld (.t 7) 1 false, none⟩] [1, 8]) c12_18
abbrev c12_20 : AC := .seq (.ops 0 [⟨(some 2), .as 0 0 (.k (.lf (.bool true))), none⟩] [2]) .ret
abbrev c12_21 : AC := .seq c12_19 c12_20
abbrev c12_22 : AC := .seq c12_2 c12_21
abbrev c12_23 : AC := .seq (.ops 0 [⟨(some 1), .bx (.t 0), none⟩, ⟨(some 2), .as 0 0 (.k (.lf (.bool false))), none⟩] [1]) c12_22
abbrev c12 : AC := c12_23
theorem c12_ok : compileFn Tryd.prog 12 = some (76, AC.strip c12, [.t 2]) := by kernel_rfl
/-- harrow/instr.has -/
abbrev c13_0 : AC := .seq (.ops 0 [⟨(some 5), .mv (.t 0), none⟩, ⟨(some 6), .iaa (.k (.lf (.gl 0 0))) (.t 5) 21 1, none⟩, ⟨(some 7), .ld (.t 6) 1 false, none⟩, ⟨(some 8), .mv (.t 1), none⟩, ⟨(some 9), .bin .and (.t 7) (.t 8), none⟩, ⟨(some 10), .bin .neq (.t 9) (.k (.lf (.int .i64 0))), none⟩, ⟨(some 4), .as 0 0 (.t 10), none⟩] [4]) .ret
abbrev c13_1 : AC := .seq (.ops 0 [⟨(some 4), .as 0 0 (.k (.lf (.bool false))), none⟩] [0, 1]) c13_0
abbrev c13 : AC := c13_1
theorem c13_ok : compileFn Tryd.prog 13 = some (11, AC.strip c13, [.t 4]) := by kernel_rfl
/-- harrow/instr.plain -/
abbrev c29_0 : AC := .cond (.t 9) (.ops 0 [⟨(some 10), .fa (.t 1) 1, none⟩, ⟨(some 11), .ld (.t 10) 1 false, none⟩, ⟨(some 12), .fa (.t 3) 1, none⟩, ⟨none, .st (.t 12) (.t 11) 1, none⟩] [1, 2, 3]) .skip
abbrev c29_1 : AC := .seq (.ops 0 [⟨(some 7), .fa (.t 1) 0, none⟩, ⟨(some 8), .ld (.t 7) 1 false, none⟩, ⟨(some 9), .call 13 [(.t 8), (.k (.lf (.int .i64 1)))], none⟩] [1, 2, 3, 9]) c29_0
abbrev c29_2 : AC := .cond (.t 15) (.ops 0 [⟨(some 16), .fa (.t 1) 2, none⟩, ⟨(some 17), .ld (.t 16) 1 false, none⟩, ⟨(some 18), .fa (.t 3) 2, none⟩, ⟨none, .st (.t 18) (.t 17) 1, none⟩] [1, 2, 3]) .skip
abbrev c29_3 : AC := .seq (.ops 0 [⟨(some 13), .fa (.t 1) 0, none⟩, ⟨(some 14), .ld (.t 13) 1 false, none⟩, ⟨(some 15), .call 13 [(.t 14), (.k (.lf (.int .i64 2)))], none⟩] [1, 2, 3, 15]) c29_2
abbrev c29_4 : AC := .cond (.t 21) (.ops 0 [⟨(some 22), .fa (.t 1) 3, none⟩, ⟨(some 23), .ld (.t 22) 1 false, none⟩, ⟨(some 24), .fa (.t 3) 3, none⟩, ⟨none, .st (.t 24) (.t 23) 1, none⟩] [1, 2, 3]) .skip
abbrev c29_5 : AC := .seq (.ops 0 [⟨(some 19), .fa (.t 1) 0, none⟩, ⟨(some 20), .ld (.t 19) 1 false, none⟩, ⟨(some 21), .call 13 [(.t 20), (.k (.lf (.int .i64 4)))], none⟩] [1, 2, 3, 21]) c29_4
abbrev c29_6 : AC := .cond (.t 27) (.ops 0 [⟨(some 28), .fa (.t 1) 4, none⟩, ⟨(some 29), .ld (.t 28) 1 false, none⟩, ⟨(some 30), .fa (.t 3) 4, none⟩, ⟨none, .st (.t 30) (.t 29) 1, none⟩] [1, 2, 3]) .skip
abbrev c29_7 : AC := .seq (.ops 0 [⟨(some 25), .fa (.t 1) 0, none⟩, ⟨(some 26), .ld (.t 25) 1 false, none⟩, ⟨(some 27), .call 13 [(.t 26), (.k (.lf (.int .i64 8)))], none⟩] [1, 2, 3, 27]) c29_6
abbrev c29_8 : AC := .cond (.t 33) (.ops 0 [⟨(some 34), .fa (.t 1) 5, none⟩, ⟨(some 35), .ld (.t 34) 4 true, none⟩, ⟨(some 36), .fa (.t 3) 5, none⟩, ⟨none, .st (.t 36) (.t 35) 4, none⟩] [2, 3]) .skip
abbrev c29_9 : AC := .seq (.ops 0 [⟨(some 31), .fa (.t 1) 0, none⟩, ⟨(some 32), .ld (.t 31) 1 false, none⟩, ⟨(some 33), .call 13 [(.t 32), (.k (.lf (.int .i64 16)))], none⟩] [1, 2, 3, 33]) c29_8
abbrev c29_10 : AC := .seq (.ops 0 [⟨(some 37), .ld (.t 3) 9 true, none⟩, ⟨none, .st (.t 2) (.t 37) 9, none⟩] [2]) .ret
abbrev c29_11 : AC := .seq c29_9 c29_10
abbrev c29_12 : AC := .seq c29_7 c29_11
abbrev c29_13 : AC := .seq c29_5 c29_12
abbrev c29_14 : AC := .seq c29_3 c29_13
abbrev c29_15 : AC := .seq c29_1 c29_14
abbrev c29_16 : AC := .seq (.ops 0 [⟨(some 4), .fa (.t 1) 0, none⟩, ⟨(some 5), .ld (.t 4) 1 false, none⟩, ⟨(some 6), .bd [.int .i64 0, .int .i64 0, .int .i64 0, .int .i64 0, .str ⟨#[]⟩, .int .u64 0, .int .u64 0, .int .u64 0, .int .u64 0] [(0, 1, (.t 5))], none⟩, ⟨(some 3), .al [.int .i64 0, .int .i64 0, .int .i64 0, .int .i64 0, .str ⟨#[]⟩, .int .u64 0, .int .u64 0, .int .u64 0, .int .u64 0], none⟩, ⟨none, .st (.t 3) (.t 6) 9, none⟩] [1, 2, 3]) c29_15
abbrev c29_17 : AC := .seq (.ops 0 [⟨(some 1), .bx (.t 0), none⟩, ⟨(some 2), .al [.int .i64 0, .int .i64 0, .int .i64 0, .int .i64 0, .str ⟨#[]⟩, .int .u64 0, .int .u64 0, .int .u64 0, .int .u64 0], none⟩] [1, 2]) c29_16
abbrev c29 : AC := c29_17
theorem c29_ok : compileFn Tryd.prog 29 = some (38, AC.strip c29, [.c 2 9 true]) := by kernel_rfl
end Go.Proofs.YtkmhoholblbbfaaDoor.M
set_option maxRecDepth 100000
namespace Go.Proofs.YtkmhoholblbbfaaDoor.M
open Go Go.Proofs.YtkmhoholblbbfaaDoor.AM
/-- harrow/instr.capture -/
abbrev c30_0 : AC := .seq (.ops 0 [⟨(some 18), .mv (.t 1), none⟩, ⟨(some 19), .bin .eql (.t 18) (.k (.lf (.int .i64 0))), none⟩, ⟨(some 20), .mv (.t 19), none⟩, ⟨(some 21), .mv (.t 2), (some (20, true))⟩, ⟨(some 22), .bin .eql (.t 21) (.k (.lf (.str ⟨#[]⟩))), (some (20, true))⟩, ⟨(some 23), .pk (.t 20) (.t 22) (.k (.lf (.bool false))), none⟩, ⟨(some 6), .as 0 0 (.t 23), none⟩] [6]) .ret
abbrev c30_1 : AC := .cond (.t 17) c30_0 .skip
abbrev c30_2 : AC := .seq (.ops 0 [⟨(some 16), .mv (.t 0), none⟩, ⟨(some 17), .bin .eql (.t 16) (.k (.lf (.int .i64 1))), none⟩] [1, 2, 7, 17]) c30_1
abbrev c30_3 : AC := .seq (.ops 0 [⟨(some 32), .mv (.t 9), none⟩, ⟨(some 33), .bin .eql (.t 32) (.k (.lf (.int .i64 0))), none⟩, ⟨(some 6), .as 0 0 (.t 33), none⟩] [6]) .ret
abbrev c30_4 : AC := .seq (.ops 0 [⟨(some 25), .ld (.t 7) 7 true, none⟩, ⟨(some 26), .bd [.int .i64 0, .int .i64 0, .str ⟨#[]⟩, .int .u64 0, .int .u64 0, .int .u64 0, .int .u64 0] [(0, 1, (.k (.lf (.int .i64 3))))], none⟩, ⟨(some 27), .bs 73 7 1 [.int .i64 0, .int .i64 0, .str ⟨#[]⟩, .int .u64 0, .int .u64 0, .int .u64 0, .int .u64 0] [(0, (.t 26))], none⟩, ⟨(some 28), .bs 75 1 1 [.lst .ro 7 [] []] [(0, (.t 27))], none⟩, ⟨(some 29), .call 47 [(.t 25), (.t 28)], none⟩, ⟨(some 24), .mv (.t 29), none⟩, ⟨(some 30), .ext (.t 24) 0, none⟩, ⟨(some 31), .ext (.t 24) 1, none⟩, ⟨(some 8), .as 73 7 (.t 30), none⟩, ⟨(some 9), .as 0 0 (.t 31), none⟩] [9]) c30_3
abbrev c30_5 : AC := .seq c30_2 c30_4
abbrev c30_6 : AC := .seq (.ops 0 [⟨(some 10), .mv (.t 0), none⟩, ⟨(some 11), .bin .sub (.t 10) (.k (.lf (.int .i64 2))), none⟩, ⟨(some 12), .bin .add (.t 11) (.k (.lf (.int .i64 18))), none⟩, ⟨(some 13), .mv (.t 1), none⟩, ⟨(some 14), .mv (.t 2), none⟩, ⟨(some 15), .bd [.int .i64 0, .int .i64 0, .str ⟨#[]⟩, .int .u64 0, .int .u64 0, .int .u64 0, .int .u64 0] [(0, 1, (.t 12)), (1, 1, (.t 13)), (2, 1, (.t 14))], none⟩, ⟨(some 7), .al [.int .i64 0, .int .i64 0, .str ⟨#[]⟩, .int .u64 0, .int .u64 0, .int .u64 0, .int .u64 0], none⟩, ⟨none, .st (.t 7) (.t 15) 7, none⟩] [0, 1, 2, 7]) c30_5
abbrev c30_7 : AC := .seq (.ops 0 [⟨(some 6), .as 0 0 (.k (.lf (.bool false))), none⟩] [0, 1, 2]) c30_6
abbrev c30 : AC := c30_7
theorem c30_ok : compileFn Tryd.prog 30 = some (34, AC.strip c30, [.t 6]) := by kernel_rfl
/-- harrow/tree.Join -/
abbrev c47_0 : AC := .seq (.ops 0 [⟨(some 4), .as 73 7 (.k (.lf (.lst .nl 7 [] []))), none⟩, ⟨(some 5), .as 0 0 (.k (.lf (.int .i64 40))), none⟩] [4, 5]) .ret
abbrev c47_1 : AC := .seq (.ops 0 [⟨(some 4), .as 73 7 (.k (.lf (.lst .nl 7 [] []))), none⟩, ⟨(some 5), .as 0 0 (.k (.lf (.int .i64 41))), none⟩] [4, 5]) .ret
abbrev c47_2 : AC := .seq (.ops 0 [⟨(some 4), .as 73 7 (.k (.lf (.lst .nl 7 [] []))), none⟩, ⟨(some 5), .as 0 0 (.k (.lf (.int .i64 42))), none⟩] [4, 5]) .ret
abbrev c47_3 : AC := .cond (.t 22) c47_2 .skip
abbrev c47_4 : AC := .seq (.ops 0 [⟨(some 23), .mv (.t 6), none⟩, ⟨(some 24), .mv (.t 1), none⟩, ⟨(some 25), .len (.t 24), none⟩, ⟨(some 26), .bin .neq (.t 23) (.t 25), none⟩, ⟨(some 22), .as 0 0 (.t 26), none⟩] [1, 2, 22]) c47_3
abbrev c47_5 : AC := .cond (.t 18) c47_1 c47_4
abbrev c47_6 : AC := .seq (.ops 0 [⟨(some 19), .ld (.t 2) 7 true, none⟩, ⟨(some 20), .call 49 [(.t 19)], none⟩, ⟨(some 21), .un .not (.t 20), none⟩, ⟨(some 18), .as 0 0 (.t 21), none⟩] [1, 2, 6, 18]) c47_5
abbrev c47_7 : AC := .cond (.t 15) c47_0 c47_6
abbrev c47_8 : AC := .seq (.ops 0 [⟨(some 16), .mv (.t 6), none⟩, ⟨(some 17), .bin .lss (.t 16) (.k (.lf (.int .i64 0))), none⟩, ⟨(some 15), .as 0 0 (.t 17), none⟩] [1, 2, 6, 15]) c47_7
abbrev c47_9 : AC := .block 0 c47_8
abbrev c47_10 : AC := .seq (.ops 0 [⟨(some 12), .fa (.t 2) 0, none⟩, ⟨(some 13), .ld (.t 12) 1 false, none⟩, ⟨(some 14), .call 48 [(.t 13)], none⟩, ⟨(some 6), .as 0 0 (.t 14), none⟩] [1, 2, 6]) c47_9
abbrev c47_11 : AC := .cond (.t 30) .skip (.exit 1)
abbrev c47_12 : AC := .seq (.ops 0 [⟨(some 40), .mv (.t 11), none⟩, ⟨(some 4), .as 73 7 (.k (.lf (.lst .nl 7 [] []))), none⟩, ⟨(some 5), .as 0 0 (.t 40), none⟩] [4, 5]) .ret
abbrev c47_13 : AC := .cond (.t 39) c47_12 .skip
abbrev c47_14 : AC := .seq (.ops 0 [⟨(some 38), .mv (.t 11), none⟩, ⟨(some 39), .bin .neq (.t 38) (.k (.lf (.int .i64 0))), none⟩] [2, 7, 9, 11, 27, 28, 29, 39]) c47_13
abbrev c47_15 : AC := .seq (.ops 0 [⟨(some 34), .mv (.t 9), none⟩, ⟨(some 35), .call 50 [(.t 34)], none⟩, ⟨(some 33), .mv (.t 35), none⟩, ⟨(some 36), .ext (.t 33) 0, none⟩, ⟨(some 37), .ext (.t 33) 1, none⟩, ⟨(some 10), .as 0 0 (.t 36), none⟩, ⟨(some 11), .as 0 0 (.t 37), none⟩] [2, 7, 9, 11, 27, 28, 29]) c47_14
abbrev c47_16 : AC := .seq c47_15 (.ops 0 [⟨(some 41), .mv (.t 7), none⟩, ⟨(some 42), .mv (.t 9), none⟩, ⟨(some 43), .app 73 7 64 (.t 41) (.t 42), none⟩, ⟨(some 7), .as 73 7 (.t 43), none⟩] [2, 7, 27, 28, 29])
abbrev c47_17 : AC := .seq (.ops 0 [⟨(some 31), .ia (.t 27) (.t 29) 1, none⟩, ⟨(some 32), .ld (.t 31) 1 false, none⟩, ⟨(some 9), .as 73 7 (.t 32), none⟩] [2, 7, 9, 27, 28, 29]) c47_16
abbrev c47_18 : AC := .block 2 c47_17
abbrev c47_19 : AC := .seq c47_18 (.ops 0 [⟨(some 44), .bin .add (.t 29) (.k (.lf (.int .i64 1))), none⟩, ⟨(some 29), .mv (.t 44), none⟩] [2, 7, 27, 28, 29])
abbrev c47_20 : AC := .seq c47_11 c47_19
abbrev c47_21 : AC := .seq (.ops 0 [⟨(some 30), .bin .lss (.t 29) (.t 28), none⟩] [2, 7, 27, 28, 29, 30]) c47_20
abbrev c47_22 : AC := .loop c47_21 [2, 7, 27, 28, 29]
abbrev c47_23 : AC := .block 1 c47_22
abbrev c47_24 : AC := .seq (.ops 0 [⟨(some 27), .mv (.t 1), none⟩, ⟨(some 28), .len (.t 27), none⟩, ⟨(some 29), .mv (.k (.lf (.int .i64 0))), none⟩] [2, 7, 27, 28, 29]) c47_23
abbrev c47_25 : AC := .seq (.ops 0 [⟨(some 45), .mv (.t 7), none⟩, ⟨(some 46), .ld (.t 2) 7 true, none⟩, ⟨(some 47), .bs 73 7 1 [.int .i64 0, .int .i64 0, .str ⟨#[]⟩, .int .u64 0, .int .u64 0, .int .u64 0, .int .u64 0] [(0, (.t 46))], none⟩, ⟨(some 48), .app 73 7 64 (.t 45) (.t 47), none⟩, ⟨(some 49), .call 51 [(.t 48)], none⟩, ⟨(some 50), .ext (.t 49) 0, none⟩, ⟨(some 51), .ext (.t 49) 1, none⟩, ⟨(some 4), .as 73 7 (.t 50), none⟩, ⟨(some 5), .as 0 0 (.t 51), none⟩] [4, 5]) .ret
abbrev c47_26 : AC := .seq c47_24 c47_25
abbrev c47_27 : AC := .seq (.ops 0 [⟨(some 7), .as 73 7 (.k (.lf (.lst .nl 7 [] []))), none⟩] [1, 2, 7]) c47_26
abbrev c47_28 : AC := .seq c47_10 c47_27
abbrev c47_29 : AC := .seq (.ops 0 [⟨(some 2), .bx (.t 0), none⟩, ⟨(some 4), .as 73 7 (.k (.lf (.lst .nl 7 [] []))), none⟩, ⟨(some 5), .as 0 0 (.k (.lf (.int .i64 0))), none⟩] [1, 2]) c47_28
abbrev c47 : AC := c47_29
theorem c47_ok : compileFn Tryd.prog 47 = some (52, AC.strip c47, [.t 4, .t 5]) := by kernel_rfl
/-- harrow/tree.Arity -/
abbrev c48_0 : AC := .seq (.ops 0 [⟨(some 2), .as 0 0 (.k (.lf (.int .i64 2))), none⟩] [2]) .ret
abbrev c48_1 : AC := .seq (.ops 0 [⟨(some 2), .as 0 0 (.k (.lf (.int .i64 0))), none⟩] [2]) .ret
abbrev c48_2 : AC := .seq (.ops 0 [⟨(some 2), .as 0 0 (.k (.lf (.int .i64 1))), none⟩] [2]) .ret
abbrev c48_3 : AC := .cond (.t 21) c48_2 .skip
abbrev c48_4 : AC := .seq (.ops 0 [⟨(some 22), .mv (.t 0), none⟩, ⟨(some 23), .bin .gtr (.t 22) (.k (.lf (.int .i64 8))), none⟩, ⟨(some 24), .mv (.t 23), none⟩, ⟨(some 25), .mv (.t 0), (some (24, true))⟩, ⟨(some 26), .bin .leq (.t 25) (.k (.lf (.int .i64 23))), (some (24, true))⟩, ⟨(some 27), .pk (.t 24) (.t 26) (.k (.lf (.bool false))), none⟩, ⟨(some 21), .as 0 0 (.t 27), none⟩] [21]) c48_3
abbrev c48_5 : AC := .cond (.t 10) c48_1 c48_4
abbrev c48_6 : AC := .seq (.ops 0 [⟨(some 11), .mv (.t 0), none⟩, ⟨(some 12), .bin .geq (.t 11) (.k (.lf (.int .i64 1))), none⟩, ⟨(some 13), .mv (.t 12), none⟩, ⟨(some 14), .mv (.t 0), (some (13, true))⟩, ⟨(some 15), .bin .leq (.t 14) (.k (.lf (.int .i64 6))), (some (13, true))⟩, ⟨(some 16), .pk (.t 13) (.t 15) (.k (.lf (.bool false))), none⟩, ⟨(some 17), .mv (.t 16), none⟩, ⟨(some 18), .mv (.t 0), (some (17, false))⟩, ⟨(some 19), .bin .eql (.t 18) (.k (.lf (.int .i64 17))), (some (17, false))⟩, ⟨(some 20), .pk (.t 17) (.k (.lf (.bool true))) (.t 19), none⟩, ⟨(some 10), .as 0 0 (.t 20), none⟩] [0, 10]) c48_5
abbrev c48_7 : AC := .cond (.t 3) c48_0 c48_6
abbrev c48_8 : AC := .seq (.ops 0 [⟨(some 4), .mv (.t 0), none⟩, ⟨(some 5), .bin .eql (.t 4) (.k (.lf (.int .i64 7))), none⟩, ⟨(some 6), .mv (.t 5), none⟩, ⟨(some 7), .mv (.t 0), (some (6, false))⟩, ⟨(some 8), .bin .eql (.t 7) (.k (.lf (.int .i64 8))), (some (6, false))⟩, ⟨(some 9), .pk (.t 6) (.k (.lf (.bool true))) (.t 8), none⟩, ⟨(some 3), .as 0 0 (.t 9), none⟩] [0, 3]) c48_7
abbrev c48_9 : AC := .block 0 c48_8
abbrev c48_10 : AC := .seq (.ops 0 [⟨(some 2), .as 0 0 (.k (.lf (.int .i64 (-1)))), none⟩] [2]) .ret
abbrev c48_11 : AC := .seq c48_9 c48_10
abbrev c48_12 : AC := .seq (.ops 0 [⟨(some 2), .as 0 0 (.k (.lf (.int .i64 0))), none⟩] [0]) c48_11
abbrev c48 : AC := c48_12
theorem c48_ok : compileFn Tryd.prog 48 = some (28, AC.strip c48, [.t 2]) := by kernel_rfl
/-- harrow/tree.fields -/
abbrev c49_0 : AC := .seq (.ops 0 [⟨(some 2), .as 0 0 (.k (.lf (.bool false))), none⟩] [2]) .ret
abbrev c49_1 : AC := .cond (.t 11) c49_0 .skip
abbrev c49_2 : AC := .seq (.ops 0 [⟨(some 3), .fa (.t 1) 0, none⟩, ⟨(some 4), .ld (.t 3) 1 false, none⟩, ⟨(some 5), .bin .neq (.t 4) (.k (.lf (.int .i64 5))), none⟩, ⟨(some 6), .mv (.t 5), none⟩, ⟨(some 7), .fa (.t 1) 3, (some (6, true))⟩, ⟨(some 8), .ld (.t 7) 4 true, (some (6, true))⟩, ⟨(some 9), .bd [.int .u64 0, .int .u64 0, .int .u64 0, .int .u64 0] [], (some (6, true))⟩, ⟨(some 10), .beq true [2, 2, 2, 2] (.t 8) (.t 9), (some (6, true))⟩, ⟨(some 11), .pk (.t 6) (.t 10) (.k (.lf (.bool false))), none⟩] [1, 11]) c49_1
abbrev c49_3 : AC := .seq (.ops 0 [⟨(some 2), .as 0 0 (.k (.lf (.bool false))), none⟩] [2]) .ret
abbrev c49_4 : AC := .cond (.t 30) c49_3 .skip
abbrev c49_5 : AC := .seq (.ops 0 [⟨(some 12), .fa (.t 1) 1, none⟩, ⟨(some 13), .ld (.t 12) 1 false, none⟩, ⟨(some 14), .bin .lss (.t 13) (.k (.lf (.int .i64 0))), none⟩, ⟨(some 15), .mv (.t 14), none⟩, ⟨(some 16), .fa (.t 1) 1, (some (15, false))⟩, ⟨(some 17), .ld (.t 16) 1 false, (some (15, false))⟩, ⟨(some 18), .bin .gtr (.t 17) (.k (.lf (.int .i64 50))), (some (15, false))⟩, ⟨(some 19), .pk (.t 15) (.k (.lf (.bool true))) (.t 18), none⟩, ⟨(some 20), .mv (.t 19), none⟩, ⟨(some 21), .fa (.t 1) 1, (some (20, false))⟩, ⟨(some 22), .ld (.t 21) 1 false, (some (20, false))⟩, ⟨(some 23), .bin .gtr (.t 22) (.k (.lf (.int .i64 0))), (some (20, false))⟩, ⟨(some 24), .mv (.t 23), (some (20, false))⟩, ⟨(some 25), .fa (.t 1) 0, (some (24, true))⟩, ⟨(some 26), .ld (.t 25) 1 false, (some (24, true))⟩, ⟨(some 27), .call 52 [(.t 26)], (some (24, true))⟩, ⟨(some 28), .un .not (.t 27), (some (24, true))⟩, ⟨(some 29), .pk (.t 24) (.t 28) (.k (.lf (.bool false))), (some (20, false))⟩, ⟨(some 30), .pk (.t 20) (.k (.lf (.bool true))) (.t 29), none⟩] [1, 30]) c49_4
abbrev c49_6 : AC := .seq (.ops 0 [⟨(some 35), .fa (.t 1) 2, none⟩, ⟨(some 36), .ld (.t 35) 1 false, none⟩, ⟨(some 37), .bin .neq (.t 36) (.k (.lf (.str ⟨#[]⟩))), none⟩, ⟨(some 38), .mv (.t 37), none⟩, ⟨(some 39), .fa (.t 1) 2, (some (38, true))⟩, ⟨(some 40), .ld (.t 39) 1 false, (some (38, true))⟩, ⟨(some 41), .lns (.t 40), (some (38, true))⟩, ⟨(some 42), .bin .leq (.t 41) (.k (.lf (.int .i64 255))), (some (38, true))⟩, ⟨(some 43), .pk (.t 38) (.t 42) (.k (.lf (.bool false))), none⟩, ⟨(some 2), .as 0 0 (.t 43), none⟩] [2]) .ret
abbrev c49_7 : AC := .seq (.ops 0 [⟨(some 46), .fa (.t 1) 2, none⟩, ⟨(some 47), .ld (.t 46) 1 false, none⟩, ⟨(some 48), .call 53 [(.t 47)], none⟩, ⟨(some 2), .as 0 0 (.t 48), none⟩] [2]) .ret
abbrev c49_8 : AC := .seq (.ops 0 [⟨(some 51), .fa (.t 1) 2, none⟩, ⟨(some 52), .ld (.t 51) 1 false, none⟩, ⟨(some 53), .bin .eql (.t 52) (.k (.lf (.str ⟨#[]⟩))), none⟩, ⟨(some 54), .mv (.t 53), none⟩, ⟨(some 55), .fa (.t 1) 2, (some (54, false))⟩, ⟨(some 56), .ld (.t 55) 1 false, (some (54, false))⟩, ⟨(some 57), .call 53 [(.t 56)], (some (54, false))⟩, ⟨(some 58), .pk (.t 54) (.k (.lf (.bool true))) (.t 57), none⟩, ⟨(some 2), .as 0 0 (.t 58), none⟩] [2]) .ret
abbrev c49_9 : AC := .seq (.ops 0 [⟨(some 61), .fa (.t 1) 2, none⟩, ⟨(some 62), .ld (.t 61) 1 false, none⟩, ⟨(some 63), .call 54 [(.t 62)], none⟩, ⟨(some 2), .as 0 0 (.t 63), none⟩] [2]) .ret
abbrev c49_10 : AC := .cond (.t 59) c49_9 .skip
abbrev c49_11 : AC := .seq (.ops 0 [⟨(some 60), .bin .eql (.t 32) (.k (.lf (.int .i64 22))), none⟩, ⟨(some 59), .as 0 0 (.t 60), none⟩] [1, 59]) c49_10
abbrev c49_12 : AC := .cond (.t 49) c49_8 c49_11
abbrev c49_13 : AC := .seq (.ops 0 [⟨(some 50), .bin .eql (.t 32) (.k (.lf (.int .i64 19))), none⟩, ⟨(some 49), .as 0 0 (.t 50), none⟩] [1, 32, 49]) c49_12
abbrev c49_14 : AC := .cond (.t 44) c49_7 c49_13
abbrev c49_15 : AC := .seq (.ops 0 [⟨(some 45), .bin .eql (.t 32) (.k (.lf (.int .i64 6))), none⟩, ⟨(some 44), .as 0 0 (.t 45), none⟩] [1, 32, 44]) c49_14
abbrev c49_16 : AC := .cond (.t 33) c49_6 c49_15
abbrev c49_17 : AC := .seq (.ops 0 [⟨(some 34), .bin .eql (.t 32) (.k (.lf (.int .i64 4))), none⟩, ⟨(some 33), .as 0 0 (.t 34), none⟩] [1, 32, 33]) c49_16
abbrev c49_18 : AC := .block 0 c49_17
abbrev c49_19 : AC := .seq (.ops 0 [⟨(some 31), .fa (.t 1) 0, none⟩, ⟨(some 32), .ld (.t 31) 1 false, none⟩] [1, 32]) c49_18
abbrev c49_20 : AC := .seq (.ops 0 [⟨(some 64), .fa (.t 1) 2, none⟩, ⟨(some 65), .ld (.t 64) 1 false, none⟩, ⟨(some 66), .bin .eql (.t 65) (.k (.lf (.str ⟨#[]⟩))), none⟩, ⟨(some 2), .as 0 0 (.t 66), none⟩] [2]) .ret
abbrev c49_21 : AC := .seq c49_19 c49_20
abbrev c49_22 : AC := .seq c49_5 c49_21
abbrev c49_23 : AC := .seq c49_2 c49_22
abbrev c49_24 : AC := .seq (.ops 0 [⟨(some 1), .bx (.t 0), none⟩, ⟨(some 2), .as 0 0 (.k (.lf (.bool false))), none⟩] [1]) c49_23
abbrev c49 : AC := c49_24
theorem c49_ok : compileFn Tryd.prog 49 = some (67, AC.strip c49, [.t 2]) := by kernel_rfl
/-- harrow/tree.Check -/
abbrev c50_0 : AC := .seq (.ops 0 [⟨(some 2), .as 0 0 (.k (.lf (.int .i64 0))), none⟩, ⟨(some 3), .as 0 0 (.k (.lf (.int .i64 2))), none⟩] [2, 3]) .ret
abbrev c50_1 : AC := .cond (.t 6) c50_0 .skip
abbrev c50_2 : AC := .seq (.ops 0 [⟨(some 4), .mv (.t 0), none⟩, ⟨(some 5), .len (.t 4), none⟩, ⟨(some 6), .bin .gtr (.t 5) (.k (.lf (.int .i64 2048))), none⟩] [0, 6]) c50_1
abbrev c50_3 : AC := .seq (.ops 0 [⟨(some 7), .mv (.t 0), none⟩, ⟨(some 8), .call 55 [(.t 7), (.k (.lf (.fn 56 [] [])))], none⟩, ⟨(some 9), .ext (.t 8) 0, none⟩, ⟨(some 10), .ext (.t 8) 1, none⟩, ⟨(some 2), .as 0 0 (.t 9), none⟩, ⟨(some 3), .as 0 0 (.t 10), none⟩] [2, 3]) .ret
abbrev c50_4 : AC := .seq c50_2 c50_3
abbrev c50_5 : AC := .seq (.ops 0 [⟨(some 2), .as 0 0 (.k (.lf (.int .i64 0))), none⟩, ⟨(some 3), .as 0 0 (.k (.lf (.int .i64 0))), none⟩] [0]) c50_4
abbrev c50 : AC := c50_5
theorem c50_ok : compileFn Tryd.prog 50 = some (11, AC.strip c50, [.t 2, .t 3]) := by kernel_rfl
/-- harrow/tree.checked -/
abbrev c51_0 : AC := .seq (.ops 0 [⟨(some 13), .mv (.t 5), none⟩, ⟨(some 2), .as 73 7 (.k (.lf (.lst .nl 7 [] []))), none⟩, ⟨(some 3), .as 0 0 (.t 13), none⟩] [2, 3]) .ret
abbrev c51_1 : AC := .cond (.t 12) c51_0 .skip
abbrev c51_2 : AC := .seq (.ops 0 [⟨(some 11), .mv (.t 5), none⟩, ⟨(some 12), .bin .neq (.t 11) (.k (.lf (.int .i64 0))), none⟩] [0, 5, 12]) c51_1
abbrev c51_3 : AC := .seq (.ops 0 [⟨(some 7), .mv (.t 0), none⟩, ⟨(some 8), .call 50 [(.t 7)], none⟩, ⟨(some 6), .mv (.t 8), none⟩, ⟨(some 9), .ext (.t 6) 0, none⟩, ⟨(some 10), .ext (.t 6) 1, none⟩, ⟨(some 4), .as 0 0 (.t 9), none⟩, ⟨(some 5), .as 0 0 (.t 10), none⟩] [0, 5]) c51_2
abbrev c51_4 : AC := .seq (.ops 0 [⟨(some 14), .mv (.t 0), none⟩, ⟨(some 2), .as 73 7 (.t 14), none⟩, ⟨(some 3), .as 0 0 (.k (.lf (.int .i64 0))), none⟩] [2, 3]) .ret
abbrev c51_5 : AC := .seq c51_3 c51_4
abbrev c51_6 : AC := .seq (.ops 0 [⟨(some 2), .as 73 7 (.k (.lf (.lst .nl 7 [] []))), none⟩, ⟨(some 3), .as 0 0 (.k (.lf (.int .i64 0))), none⟩] [0]) c51_5
abbrev c51 : AC := c51_6
theorem c51_ok : compileFn Tryd.prog 51 = some (15, AC.strip c51, [.t 2, .t 3]) := by kernel_rfl
/-- harrow/tree.counted -/
abbrev c52_0 : AC := .seq (.ops 0 [⟨(some 3), .mv (.t 0), none⟩, ⟨(some 4), .bin .geq (.t 3) (.k (.lf (.int .i64 14))), none⟩, ⟨(some 5), .mv (.t 4), none⟩, ⟨(some 6), .mv (.t 0), (some (5, true))⟩, ⟨(some 7), .bin .leq (.t 6) (.k (.lf (.int .i64 16))), (some (5, true))⟩, ⟨(some 8), .pk (.t 5) (.t 7) (.k (.lf (.bool false))), none⟩, ⟨(some 9), .mv (.t 8), none⟩, ⟨(some 10), .mv (.t 0), (some (9, false))⟩, ⟨(some 11), .bin .eql (.t 10) (.k (.lf (.int .i64 23))), (some (9, false))⟩, ⟨(some 12), .pk (.t 9) (.k (.lf (.bool true))) (.t 11), none⟩, ⟨(some 2), .as 0 0 (.t 12), none⟩] [2]) .ret
abbrev c52_1 : AC := .seq (.ops 0 [⟨(some 2), .as 0 0 (.k (.lf (.bool false))), none⟩] [0]) c52_0
abbrev c52 : AC := c52_1
theorem c52_ok : compileFn Tryd.prog 52 = some (13, AC.strip c52, [.t 2]) := by kernel_rfl
/-- harrow/tree.isName -/
abbrev c53_0 : AC := .seq (.ops 0 [⟨(some 2), .as 0 0 (.k (.lf (.bool false))), none⟩] [2]) .ret
abbrev c53_1 : AC := .cond (.t 16) c53_0 .skip
abbrev c53_2 : AC := .seq (.ops 0 [⟨(some 4), .mv (.t 0), none⟩, ⟨(some 5), .bin .eql (.t 4) (.k (.lf (.str ⟨#[]⟩))), none⟩, ⟨(some 6), .mv (.t 5), none⟩, ⟨(some 7), .mv (.t 0), (some (6, false))⟩, ⟨(some 8), .lns (.t 7), (some (6, false))⟩, ⟨(some 9), .bin .gtr (.t 8) (.k (.lf (.int .i64 32))), (some (6, false))⟩, ⟨(some 10), .pk (.t 6) (.k (.lf (.bool true))) (.t 9), none⟩, ⟨(some 11), .mv (.t 10), none⟩, ⟨(some 12), .mv (.t 0), (some (11, false))⟩, ⟨(some 13), .ixs (.t 12) (.k (.lf (.int .i64 0))), (some (11, false))⟩, ⟨(some 14), .call 57 [(.t 13)], (some (11, false))⟩, ⟨(some 15), .un .not (.t 14), (some (11, false))⟩, ⟨(some 16), .pk (.t 11) (.k (.lf (.bool true))) (.t 15), none⟩] [0, 16]) c53_1
abbrev c53_3 : AC := .cond (.t 20) .skip (.exit 0)
abbrev c53_4 : AC := .seq (.ops 0 [⟨(some 2), .as 0 0 (.k (.lf (.bool false))), none⟩] [2]) .ret
abbrev c53_5 : AC := .cond (.t 38) c53_4 .skip
abbrev c53_6 : AC := .seq (.ops 0 [⟨(some 22), .mv (.t 0), none⟩, ⟨(some 23), .mv (.t 3), none⟩, ⟨(some 24), .ixs (.t 22) (.t 23), none⟩, ⟨(some 25), .call 57 [(.t 24)], none⟩, ⟨(some 26), .un .not (.t 25), none⟩, ⟨(some 27), .mv (.t 26), none⟩, ⟨(some 28), .mv (.t 0), (some (27, true))⟩, ⟨(some 29), .mv (.t 3), (some (27, true))⟩, ⟨(some 30), .ixs (.t 28) (.t 29), (some (27, true))⟩, ⟨(some 31), .bin .lss (.t 30) (.k (.lf (.int .u8 48))), (some (27, true))⟩, ⟨(some 32), .mv (.t 31), (some (27, true))⟩, ⟨(some 33), .mv (.t 0), (some (32, false))⟩, ⟨(some 34), .mv (.t 3), (some (32, false))⟩, ⟨(some 35), .ixs (.t 33) (.t 34), (some (32, false))⟩, ⟨(some 36), .bin .gtr (.t 35) (.k (.lf (.int .u8 57))), (some (32, false))⟩, ⟨(some 37), .pk (.t 32) (.k (.lf (.bool true))) (.t 36), (some (27, true))⟩, ⟨(some 38), .pk (.t 27) (.t 37) (.k (.lf (.bool false))), none⟩] [0, 18, 19, 38]) c53_5
abbrev c53_7 : AC := .seq (.ops 0 [⟨(some 21), .mv (.t 19), none⟩, ⟨(some 3), .as 0 0 (.t 21), none⟩] [0, 3, 18, 19]) c53_6
abbrev c53_8 : AC := .block 1 c53_7
abbrev c53_9 : AC := .seq c53_8 (.ops 0 [⟨(some 39), .bin .add (.t 19) (.k (.lf (.int .i64 1))), none⟩, ⟨(some 19), .mv (.t 39), none⟩] [0, 18, 19])
abbrev c53_10 : AC := .seq c53_3 c53_9
abbrev c53_11 : AC := .seq (.ops 0 [⟨(some 20), .bin .lss (.t 19) (.t 18), none⟩] [0, 18, 19, 20]) c53_10
abbrev c53_12 : AC := .loop c53_11 [0, 18, 19]
abbrev c53_13 : AC := .block 0 c53_12
abbrev c53_14 : AC := .seq (.ops 0 [⟨(some 17), .mv (.t 0), none⟩, ⟨(some 18), .lns (.t 17), none⟩, ⟨(some 19), .mv (.k (.lf (.int .i64 0))), none⟩] [0, 18, 19]) c53_13
abbrev c53_15 : AC := .seq (.ops 0 [⟨(some 2), .as 0 0 (.k (.lf (.bool true))), none⟩] [2]) .ret
abbrev c53_16 : AC := .seq c53_14 c53_15
abbrev c53_17 : AC := .seq c53_2 c53_16
abbrev c53_18 : AC := .seq (.ops 0 [⟨(some 2), .as 0 0 (.k (.lf (.bool false))), none⟩] [0]) c53_17
abbrev c53 : AC := c53_18
theorem c53_ok : compileFn Tryd.prog 53 = some (40, AC.strip c53, [.t 2]) := by kernel_rfl
/-- harrow/tree.isTemplate -/
abbrev c54_0 : AC := .seq (.ops 0 [⟨(some 2), .as 0 0 (.k (.lf (.bool false))), none⟩] [2]) .ret
abbrev c54_1 : AC := .cond (.t 6) c54_0 .skip
abbrev c54_2 : AC := .seq (.ops 0 [⟨(some 4), .mv (.t 0), none⟩, ⟨(some 5), .lns (.t 4), none⟩, ⟨(some 6), .bin .gtr (.t 5) (.k (.lf (.int .i64 255))), none⟩] [0, 6]) c54_1
abbrev c54_3 : AC := .cond (.t 10) .skip (.exit 0)
abbrev c54_4 : AC := .seq (.ops 0 [⟨(some 7), .mv (.t 3), none⟩, ⟨(some 8), .mv (.t 0), none⟩, ⟨(some 9), .lns (.t 8), none⟩, ⟨(some 10), .bin .lss (.t 7) (.t 9), none⟩] [0, 3, 10]) c54_3
abbrev c54_5 : AC := .cond (.t 16) (.exit 1) .skip
abbrev c54_6 : AC := .seq (.ops 0 [⟨(some 13), .mv (.t 0), none⟩, ⟨(some 14), .mv (.t 3), none⟩, ⟨(some 15), .ixs (.t 13) (.t 14), none⟩, ⟨(some 16), .bin .neq (.t 15) (.k (.lf (.int .u8 37))), none⟩] [0, 3, 16]) c54_5
abbrev c54_7 : AC := .seq (.ops 0 [⟨(some 2), .as 0 0 (.k (.lf (.bool false))), none⟩] [2]) .ret
abbrev c54_8 : AC := .cond (.t 40) c54_7 .skip
abbrev c54_9 : AC := .seq (.ops 0 [⟨(some 19), .mv (.t 3), none⟩, ⟨(some 20), .mv (.t 0), none⟩, ⟨(some 21), .lns (.t 20), none⟩, ⟨(some 22), .bin .eql (.t 19) (.t 21), none⟩, ⟨(some 23), .mv (.t 22), none⟩, ⟨(some 24), .mv (.t 0), (some (23, false))⟩, ⟨(some 25), .mv (.t 3), (some (23, false))⟩, ⟨(some 26), .ixs (.t 24) (.t 25), (some (23, false))⟩, ⟨(some 27), .bin .neq (.t 26) (.k (.lf (.int .u8 37))), (some (23, false))⟩, ⟨(some 28), .mv (.t 27), (some (23, false))⟩, ⟨(some 29), .mv (.t 0), (some (28, true))⟩, ⟨(some 30), .mv (.t 3), (some (28, true))⟩, ⟨(some 31), .ixs (.t 29) (.t 30), (some (28, true))⟩, ⟨(some 32), .bin .lss (.t 31) (.k (.lf (.int .u8 48))), (some (28, true))⟩, ⟨(some 33), .mv (.t 32), (some (28, true))⟩, ⟨(some 34), .mv (.t 0), (some (33, false))⟩, ⟨(some 35), .mv (.t 3), (some (33, false))⟩, ⟨(some 36), .ixs (.t 34) (.t 35), (some (33, false))⟩, ⟨(some 37), .bin .gtr (.t 36) (.k (.lf (.int .u8 57))), (some (33, false))⟩, ⟨(some 38), .pk (.t 33) (.k (.lf (.bool true))) (.t 37), (some (28, true))⟩, ⟨(some 39), .pk (.t 28) (.t 38) (.k (.lf (.bool false))), (some (23, false))⟩, ⟨(some 40), .pk (.t 23) (.k (.lf (.bool true))) (.t 39), none⟩] [0, 3, 40]) c54_8
abbrev c54_10 : AC := .seq (.ops 0 [⟨(some 17), .mv (.t 3), none⟩, ⟨(some 18), .bin .add (.t 17) (.k (.lf (.int .i64 1))), none⟩, ⟨(some 3), .as 0 0 (.t 18), none⟩] [0, 3]) c54_9
abbrev c54_11 : AC := .seq c54_6 c54_10
abbrev c54_12 : AC := .block 1 c54_11
abbrev c54_13 : AC := .seq c54_12 (.ops 0 [⟨(some 11), .mv (.t 3), none⟩, ⟨(some 12), .bin .add (.t 11) (.k (.lf (.int .i64 1))), none⟩, ⟨(some 3), .as 0 0 (.t 12), none⟩] [0, 3])
abbrev c54_14 : AC := .seq c54_4 c54_13
abbrev c54_15 : AC := .loop c54_14 [0, 3]
abbrev c54_16 : AC := .block 0 c54_15
abbrev c54_17 : AC := .seq (.ops 0 [⟨(some 3), .as 0 0 (.k (.lf (.int .i64 0))), none⟩] [0, 3]) c54_16
abbrev c54_18 : AC := .seq (.ops 0 [⟨(some 2), .as 0 0 (.k (.lf (.bool true))), none⟩] [2]) .ret
abbrev c54_19 : AC := .seq c54_17 c54_18
abbrev c54_20 : AC := .seq c54_2 c54_19
abbrev c54_21 : AC := .seq (.ops 0 [⟨(some 2), .as 0 0 (.k (.lf (.bool false))), none⟩] [0]) c54_20
abbrev c54 : AC := c54_21
theorem c54_ok : compileFn Tryd.prog 54 = some (41, AC.strip c54, [.t 2]) := by kernel_rfl
/-- harrow/tree.each -/
abbrev c55_0 : AC := .cond (.t 19) .skip (.exit 0)
abbrev c55_1 : AC := .seq (.ops 0 [⟨(some 28), .mv (.t 7), none⟩, ⟨(some 4), .as 0 0 (.t 28), none⟩, ⟨(some 5), .as 0 0 (.k (.lf (.int .i64 40))), none⟩] [4, 5]) .ret
abbrev c55_2 : AC := .cond (.t 27) c55_1 .skip
abbrev c55_3 : AC := .seq (.ops 0 [⟨(some 26), .mv (.t 9), none⟩, ⟨(some 27), .bin .lss (.t 26) (.k (.lf (.int .i64 0))), none⟩] [0, 1, 6, 7, 8, 9, 16, 17, 18, 27]) c55_2
abbrev c55_4 : AC := .seq (.ops 0 [⟨(some 32), .mv (.t 7), none⟩, ⟨(some 4), .as 0 0 (.t 32), none⟩, ⟨(some 5), .as 0 0 (.k (.lf (.int .i64 41))), none⟩] [4, 5]) .ret
abbrev c55_5 : AC := .cond (.t 31) c55_4 .skip
abbrev c55_6 : AC := .seq (.ops 0 [⟨(some 29), .ld (.t 8) 7 true, none⟩, ⟨(some 30), .call 49 [(.t 29)], none⟩, ⟨(some 31), .un .not (.t 30), none⟩] [0, 1, 6, 7, 8, 9, 16, 17, 18, 31]) c55_5
abbrev c55_7 : AC := .cond (.t 37) .skip (.exit 2)
abbrev c55_8 : AC := .seq (.ops 0 [⟨(some 42), .mv (.t 7), none⟩, ⟨(some 4), .as 0 0 (.t 42), none⟩, ⟨(some 5), .as 0 0 (.k (.lf (.int .i64 42))), none⟩] [4, 5]) .ret
abbrev c55_9 : AC := .cond (.t 41) c55_8 .skip
abbrev c55_10 : AC := .seq (.ops 0 [⟨(some 39), .fa (.t 10) 0, none⟩, ⟨(some 40), .ld (.t 39) 1 false, none⟩, ⟨(some 41), .bin .eql (.t 40) (.k (.lf (.int .i64 0))), none⟩] [0, 1, 6, 7, 8, 10, 11, 16, 17, 18, 35, 36, 41]) c55_9
abbrev c55_11 : AC := .cond (.t 62) (.ops 0 [⟨(some 63), .fa (.t 12) 1, none⟩, ⟨(some 64), .ld (.t 63) 1 false, none⟩, ⟨(some 65), .bin .sub (.t 64) (.k (.lf (.int .i64 1))), none⟩, ⟨(some 66), .fa (.t 12) 1, none⟩, ⟨none, .st (.t 66) (.t 65) 1, none⟩] [0, 1, 6, 7, 8, 10, 12, 16, 17, 18, 35, 36]) .skip
abbrev c55_12 : AC := .seq (.ops 2 [⟨(some 49), .mv (.t 11), none⟩, ⟨(some 50), .bin .eql (.t 49) (.k (.lf (.int .i64 1))), none⟩, ⟨(some 51), .mv (.t 50), none⟩, ⟨(some 52), .mv (.t 0), (some (51, true))⟩, ⟨(some 53), .fa (.t 10) 0, (some (51, true))⟩, ⟨(some 54), .ld (.t 53) 1 false, (some (51, true))⟩, ⟨(some 55), .bin .sub (.t 54) (.k (.lf (.int .i64 1))), (some (51, true))⟩, ⟨(some 56), .ia (.t 52) (.t 55) 7, (some (51, true))⟩, ⟨(some 57), .fa (.t 56) 0, (some (51, true))⟩, ⟨(some 58), .ld (.t 57) 1 false, (some (51, true))⟩, ⟨(some 59), .fa (.t 8) 0, (some (51, true))⟩, ⟨(some 60), .ld (.t 59) 1 false, (some (51, true))⟩, ⟨(some 61), .bin .eql (.t 58) (.t 60), (some (51, true))⟩, ⟨(some 62), .pk (.t 51) (.t 61) (.k (.lf (.bool false))), none⟩] [0, 1, 6, 7, 8, 10, 12, 16, 17, 18, 35, 36, 62]) c55_11
abbrev c55_13 : AC := .seq c55_12 (.ops 0 [⟨(some 67), .fa (.t 12) 0, none⟩, ⟨(some 68), .ld (.t 67) 1 false, none⟩, ⟨(some 69), .fa (.t 10) 1, none⟩, ⟨(some 70), .ld (.t 69) 1 false, none⟩, ⟨(some 71), .fa (.t 12) 1, none⟩, ⟨(some 72), .ld (.t 71) 1 false, none⟩, ⟨(some 73), .mm true (.t 70) (.t 72), none⟩, ⟨(some 74), .bd [.int .i64 0, .int .i64 0] [(0, 1, (.t 68)), (1, 1, (.t 73))], none⟩, ⟨none, .st (.t 10) (.t 74) 2, none⟩] [0, 1, 6, 7, 8, 10, 16, 17, 18, 35, 36])
abbrev c55_14 : AC := .seq (.ops 0 [⟨(some 43), .mv (.t 6), none⟩, ⟨(some 44), .fa (.t 10) 0, none⟩, ⟨(some 45), .ld (.t 44) 1 false, none⟩, ⟨(some 46), .bin .sub (.t 45) (.k (.lf (.int .i64 1))), none⟩, ⟨(some 47), .ia (.t 43) (.t 46) 2, none⟩, ⟨(some 48), .ld (.t 47) 2 true, none⟩, ⟨(some 12), .al [.int .i64 0, .int .i64 0], none⟩, ⟨none, .st (.t 12) (.t 48) 2, none⟩] [0, 1, 6, 7, 8, 10, 11, 12, 16, 17, 18, 35, 36]) c55_13
abbrev c55_15 : AC := .seq c55_10 c55_14
abbrev c55_16 : AC := .seq (.ops 0 [⟨(some 38), .mv (.t 36), none⟩, ⟨(some 11), .as 0 0 (.t 38), none⟩] [0, 1, 6, 7, 8, 10, 11, 16, 17, 18, 35, 36]) c55_15
abbrev c55_17 : AC := .block 3 c55_16
abbrev c55_18 : AC := .seq c55_17 (.ops 0 [⟨(some 75), .bin .add (.t 36) (.k (.lf (.int .i64 1))), none⟩, ⟨(some 36), .mv (.t 75), none⟩] [0, 1, 6, 7, 8, 10, 16, 17, 18, 35, 36])
abbrev c55_19 : AC := .seq c55_7 c55_18
abbrev c55_20 : AC := .seq (.ops 0 [⟨(some 37), .bin .lss (.t 36) (.t 35), none⟩] [0, 1, 6, 7, 8, 10, 16, 17, 18, 35, 36, 37]) c55_19
abbrev c55_21 : AC := .loop c55_20 [0, 1, 6, 7, 8, 10, 16, 17, 18, 35, 36]
abbrev c55_22 : AC := .block 2 c55_21
abbrev c55_23 : AC := .seq (.ops 0 [⟨(some 35), .mv (.t 9), none⟩, ⟨(some 36), .mv (.k (.lf (.int .i64 0))), none⟩] [0, 1, 6, 7, 8, 10, 16, 17, 18, 35, 36]) c55_22
abbrev c55_24 : AC := .seq (.ops 0 [⟨(some 83), .mv (.t 7), none⟩, ⟨(some 4), .as 0 0 (.t 83), none⟩, ⟨(some 5), .as 0 0 (.k (.lf (.int .i64 4))), none⟩] [4, 5]) .ret
abbrev c55_25 : AC := .cond (.t 82) c55_24 .skip
abbrev c55_26 : AC := .seq (.ops 0 [⟨(some 80), .fa (.t 10) 1, none⟩, ⟨(some 81), .ld (.t 80) 1 false, none⟩, ⟨(some 82), .bin .gtr (.t 81) (.k (.lf (.int .i64 60))), none⟩] [0, 1, 6, 7, 10, 16, 17, 18, 82]) c55_25
abbrev c55_27 : AC := .seq (.ops 0 [⟨(some 84), .mv (.t 6), none⟩, ⟨(some 85), .ld (.t 10) 2 true, none⟩, ⟨(some 86), .bs 86 2 1 [.int .i64 0, .int .i64 0] [(0, (.t 85))], none⟩, ⟨(some 87), .app 86 2 16 (.t 84) (.t 86), none⟩, ⟨(some 6), .as 86 2 (.t 87), none⟩] [0, 1, 6, 7, 10, 16, 17, 18]) (.ops 0 [⟨(some 88), .mv (.t 1), none⟩, ⟨(some 89), .mv (.t 7), none⟩, ⟨(some 90), .ld (.t 10) 2 true, none⟩, ⟨(some 91), .cald (.t 88) [(.t 89), (.t 90)], none⟩] [0, 1, 6, 16, 17, 18])
abbrev c55_28 : AC := .seq c55_26 c55_27
abbrev c55_29 : AC := .seq (.ops 0 [⟨(some 76), .fa (.t 10) 1, none⟩, ⟨(some 77), .ld (.t 76) 1 false, none⟩, ⟨(some 78), .bin .add (.t 77) (.k (.lf (.int .i64 1))), none⟩, ⟨(some 79), .fa (.t 10) 1, none⟩, ⟨none, .st (.t 79) (.t 78) 1, none⟩] [0, 1, 6, 7, 10, 16, 17, 18]) c55_28
abbrev c55_30 : AC := .seq c55_23 c55_29
abbrev c55_31 : AC := .seq (.ops 0 [⟨(some 33), .mv (.t 7), none⟩, ⟨(some 34), .bd [.int .i64 0, .int .i64 0] [(0, 1, (.t 33))], none⟩, ⟨(some 10), .al [.int .i64 0, .int .i64 0], none⟩, ⟨none, .st (.t 10) (.t 34) 2, none⟩] [0, 1, 6, 7, 8, 9, 10, 16, 17, 18]) c55_30
abbrev c55_32 : AC := .seq c55_6 c55_31
abbrev c55_33 : AC := .seq c55_3 c55_32
abbrev c55_34 : AC := .seq (.ops 0 [⟨(some 23), .fa (.t 8) 0, none⟩, ⟨(some 24), .ld (.t 23) 1 false, none⟩, ⟨(some 25), .call 48 [(.t 24)], none⟩, ⟨(some 9), .as 0 0 (.t 25), none⟩] [0, 1, 6, 7, 8, 9, 16, 17, 18]) c55_33
abbrev c55_35 : AC := .seq (.ops 0 [⟨(some 20), .mv (.t 18), none⟩, ⟨(some 21), .ia (.t 16) (.t 18) 7, none⟩, ⟨(some 22), .ld (.t 21) 7 true, none⟩, ⟨(some 8), .al [.int .i64 0, .int .i64 0, .str ⟨#[]⟩, .int .u64 0, .int .u64 0, .int .u64 0, .int .u64 0], none⟩, ⟨(some 7), .as 0 0 (.t 20), none⟩, ⟨none, .st (.t 8) (.t 22) 7, none⟩] [0, 1, 6, 7, 8, 16, 17, 18]) c55_34
abbrev c55_36 : AC := .block 1 c55_35
abbrev c55_37 : AC := .seq c55_36 (.ops 0 [⟨(some 92), .bin .add (.t 18) (.k (.lf (.int .i64 1))), none⟩, ⟨(some 18), .mv (.t 92), none⟩] [0, 1, 6, 16, 17, 18])
abbrev c55_38 : AC := .seq c55_0 c55_37
abbrev c55_39 : AC := .seq (.ops 0 [⟨(some 19), .bin .lss (.t 18) (.t 17), none⟩] [0, 1, 6, 16, 17, 18, 19]) c55_38
abbrev c55_40 : AC := .loop c55_39 [0, 1, 6, 16, 17, 18]
abbrev c55_41 : AC := .block 0 c55_40
abbrev c55_42 : AC := .seq (.ops 0 [⟨(some 16), .mv (.t 0), none⟩, ⟨(some 17), .len (.t 16), none⟩, ⟨(some 18), .mv (.k (.lf (.int .i64 0))), none⟩] [0, 1, 6, 16, 17, 18]) c55_41
abbrev c55_43 : AC := .seq (.ops 0 [⟨(some 106), .mv (.t 0), none⟩, ⟨(some 107), .len (.t 106), none⟩, ⟨(some 4), .as 0 0 (.t 107), none⟩, ⟨(some 5), .as 0 0 (.k (.lf (.int .i64 42))), none⟩] [4, 5]) .ret
abbrev c55_44 : AC := .cond (.t 105) c55_43 .skip
abbrev c55_45 : AC := .seq (.ops 0 [⟨(some 93), .mv (.t 0), none⟩, ⟨(some 94), .len (.t 93), none⟩, ⟨(some 95), .bin .eql (.t 94) (.k (.lf (.int .i64 0))), none⟩, ⟨(some 96), .mv (.t 95), none⟩, ⟨(some 97), .mv (.t 6), (some (96, false))⟩, ⟨(some 98), .mv (.t 0), (some (96, false))⟩, ⟨(some 99), .len (.t 98), (some (96, false))⟩, ⟨(some 100), .bin .sub (.t 99) (.k (.lf (.int .i64 1))), (some (96, false))⟩, ⟨(some 101), .ia (.t 97) (.t 100) 2, (some (96, false))⟩, ⟨(some 102), .fa (.t 101) 0, (some (96, false))⟩, ⟨(some 103), .ld (.t 102) 1 false, (some (96, false))⟩, ⟨(some 104), .bin .neq (.t 103) (.k (.lf (.int .i64 0))), (some (96, false))⟩, ⟨(some 105), .pk (.t 96) (.k (.lf (.bool true))) (.t 104), none⟩] [0, 105]) c55_44
abbrev c55_46 : AC := .seq (.ops 0 [⟨(some 4), .as 0 0 (.k (.lf (.int .i64 0))), none⟩, ⟨(some 5), .as 0 0 (.k (.lf (.int .i64 0))), none⟩] [4, 5]) .ret
abbrev c55_47 : AC := .seq c55_45 c55_46
abbrev c55_48 : AC := .seq c55_42 c55_47
abbrev c55_49 : AC := .seq (.ops 0 [⟨(some 13), .mv (.t 0), none⟩, ⟨(some 14), .len (.t 13), none⟩, ⟨(some 15), .ms 86 2 16 [.int .i64 0, .int .i64 0] (.k (.lf (.int .i64 0))) (.t 14), none⟩, ⟨(some 6), .as 86 2 (.t 15), none⟩] [0, 1, 6]) c55_48
abbrev c55_50 : AC := .seq (.ops 0 [⟨(some 4), .as 0 0 (.k (.lf (.int .i64 0))), none⟩, ⟨(some 5), .as 0 0 (.k (.lf (.int .i64 0))), none⟩] [0, 1]) c55_49
abbrev c55 : AC := c55_50
theorem c55_ok : compileFn Tryd.prog 55 = some (108, AC.strip c55, [.t 4, .t 5]) := by kernel_rfl
/-- harrow/tree.Check$1 -/

abbrev c56 : AC := (.ops 0 [⟨(some 3), .bx (.t 1), none⟩] [])
theorem c56_ok : compileFn Tryd.prog 56 = some (4, AC.strip c56, []) := by kernel_rfl
/-- harrow/tree.isHead -/
abbrev c57_0 : AC := .seq (.ops 0 [⟨(some 3), .mv (.t 0), none⟩, ⟨(some 4), .bin .or (.t 3) (.k (.lf (.int .u8 32))), none⟩, ⟨(some 5), .bin .geq (.t 4) (.k (.lf (.int .u8 97))), none⟩, ⟨(some 6), .mv (.t 5), none⟩, ⟨(some 7), .mv (.t 0), (some (6, true))⟩, ⟨(some 8), .bin .or (.t 7) (.k (.lf (.int .u8 32))), (some (6, true))⟩, ⟨(some 9), .bin .leq (.t 8) (.k (.lf (.int .u8 122))), (some (6, true))⟩, ⟨(some 10), .pk (.t 6) (.t 9) (.k (.lf (.bool false))), none⟩, ⟨(some 11), .mv (.t 10), none⟩, ⟨(some 12), .mv (.t 0), (some (11, true))⟩, ⟨(some 13), .bin .lss (.t 12) (.k (.lf (.int .u8 128))), (some (11, true))⟩, ⟨(some 14), .pk (.t 11) (.t 13) (.k (.lf (.bool false))), none⟩, ⟨(some 15), .mv (.t 14), none⟩, ⟨(some 16), .mv (.t 0), (some (15, false))⟩, ⟨(some 17), .bin .eql (.t 16) (.k (.lf (.int .u8 95))), (some (15, false))⟩, ⟨(some 18), .pk (.t 15) (.k (.lf (.bool true))) (.t 17), none⟩, ⟨(some 2), .as 0 0 (.t 18), none⟩] [2]) .ret
abbrev c57_1 : AC := .seq (.ops 0 [⟨(some 2), .as 0 0 (.k (.lf (.bool false))), none⟩] [0]) c57_0
abbrev c57 : AC := c57_1
theorem c57_ok : compileFn Tryd.prog 57 = some (19, AC.strip c57, [.t 2]) := by kernel_rfl
end Go.Proofs.YtkmhoholblbbfaaDoor.M
set_option linter.unusedVariables false
set_option linter.unusedSimpArgs false
namespace Go.Proofs.YtkmhoholblbbfaaDoor.M
open Go Go.Proofs.YtkmhoholblbbfaaDoor.AM
variable {X : Cx}

theorem w8 {x : Int} (h0 : 0 ≤ x) (h1 : x ≤ 255) : IntKind.wrap .u8 x = x := by
  simp only [IntKind.wrap, IntKind.bits, IntKind.signed]; simp; omega
theorem w64 {x : Int} (h0 : -9223372036854775808 ≤ x) (h1 : x ≤ 9223372036854775807) : IntKind.wrap .i64 x = x := by
  simp only [IntKind.wrap, IntKind.bits, IntKind.signed]; simp; omega
theorem ite_pr {p : Prop} [Decidable p] {A B : Prop} (h1 : p → A) (h2 : ¬ p → B) : if p then A else B := by split <;> simp_all

/-- An instruction. -/
structure Ins where
  op : Int
  a : Int
  b : Int
  n : Int
  t : ByteArray
  s0 : Int
  s1 : Int
  s2 : Int
  s3 : Int
def Ins.c (x : Ins) : List L := [.int .i64 x.op, .int .i64 x.a, .int .i64 x.b, .int .i64 x.n, .str x.t, .int .u64 x.s0, .int .u64 x.s1, .int .u64 x.s2, .int .u64 x.s3]
def Ins.same (x y : Ins) : Bool := decide (x.op = y.op) && (decide (x.a = y.a) && (decide (x.b = y.b) && (decide (x.n = y.n) && (decide (x.t = y.t) && (decide (x.s0 = y.s0) && (decide (x.s1 = y.s1) && (decide (x.s2 = y.s2) && (decide (x.s3 = y.s3) && true))))))))
theorem Ins.same_eq {x y : Ins} : (x.same y = true) ↔ x = y := by
  cases x; cases y
  simp [Ins.same]
theorem eq_ins (x y : Ins) : eqLs x.c y.c = some (x.same y) := by
  simp [eqLs, eqL, Ins.c, Ins.same]

/-- instr.uses -/
def usesN : List Int := [0, 64, 66, 80, 97, 99, 113, 80, 97, 33, 33, 33, 0, 0, 33, 97, 0, 0, 78, 64, 79]
def usesL : List L := usesN.map (.int .i64 ·)
def useOf (k : Nat) : Int := usesN[k]?.getD 0
theorem usesL_get {k : Nat} (h : k < 21) : usesL[k]? = some (.int .i64 (useOf k)) := by
  have : usesN[k]? = some (useOf k) := by
    unfold useOf
    rw [List.getElem?_eq_getElem (by simpa [usesN] using h)]; rfl
  simp [usesL, this]
def hasB (k : Nat) (bit : Int) : Bool := decide (¬ bits .and .i64 (useOf k) bit = 0)

theorem r11 (op : Int) : R X Tryd.prog 11 [.lf (.int .i64 op)] [] (.lf (.bool (decide (1 ≤ op ∧ op ≤ 20)))) [] := by
  refine R_i [] [] c11_ok rfl (by simp) ?_
  simp -implicitDefEqProofs (maxSteps := 2000000) only [c11, ↓reduceIte, s_ret, s_ops0, s_seq, s_opsK, s_seqK_n, s_nil, s_cons, s_guard, s_wopsK, s_putK, s_grd, q_mv, q_bin, o_mv, o_as, o_pk, v_pk, o_bin, v_leq, v_geq, e_t, e_k, e_put, e_get, e_res, e_keep_n, e_keep_c, e_keep1_s, e_asg_b, St.init, enum, List.length_nil, Option.getD_some, Nat.reduceEqDiff, reduceCtorEq, true_and, and_true, cond_false, Bool.not_true, Bool.false_eq_true, decide_eq_true_eq, s_ret_r, s_retX, s_cells_n, t_lf, t_b, r_n, r_t, r_cons, one_1, Bool.and_true, Bool.true_and]
  split <;> simp_all
  intro h; omega
theorem r13 (hX : X.G 0 = some usesL) (k : Nat) (hk : k < 21) (bit : Int) : R X Tryd.prog 13 [.lf (.int .i64 k), .lf (.int .i64 bit)] [] (.lf (.bool (hasB k bit))) [] := by
  refine R_i [] [] c13_ok rfl (by simp) ?_
  have h1 : usesL[(↑k : Int).toNat * 1]? = some (.int .i64 (useOf k)) := by simpa using usesL_get hk
  simp -implicitDefEqProofs (maxSteps := 2000000) only [c13, hX, h1, ↓reduceIte, s_ret, s_ops0, s_seq, s_opsK, s_seqK_n, s_nil, s_cons, s_wopsK, s_putK, o_mv, o_as, o_bin, v_and, v_neq, v_part_f, v_atK, o_iaa, o_ld, v_ldC, e_t, e_k, e_put, e_get, e_res, e_keep_n, e_keep_c, e_keep1_s, e_asg_b, St.init, enum, List.length_nil, Option.getD_some, Nat.reduceEqDiff, reduceCtorEq, true_and, and_true, s_ret_r, s_retX, s_cells_n, t_lf, t_b, r_n, r_t, r_cons, one_1, Bool.and_true, Bool.true_and, ne_eq, Nat.zero_add, v_iaa_g, v_ld_g]
  exact ⟨⟨by omega, by omega⟩, rfl⟩
/-- which fields a kind has -/
theorem pat {k : Nat} (hk : k < 21) : ∃ p ∈ [(false, false, false, false, false), (false, true, false, false, false), (false, false, false, false, true), (true, false, false, false, false), (true, true, false, false, false), (true, false, false, false, true), (false, true, true, true, false), (true, true, true, true, false)],
    hasB k 1 = p.1 ∧ hasB k 2 = p.2.1 ∧ hasB k 4 = p.2.2.1 ∧ hasB k 8 = p.2.2.2.1 ∧ hasB k 16 = p.2.2.2.2 := by
  have h : ∀ i : Fin 21, (hasB i.val 1, hasB i.val 2, hasB i.val 4, hasB i.val 8, hasB i.val 16) ∈ [(false, false, false, false, false), (false, true, false, false, false), (false, false, false, false, true), (true, false, false, false, false), (true, true, false, false, false), (true, false, false, false, true), (false, true, true, true, false), (true, true, true, true, false)] := by decide +kernel
  exact ⟨_, h ⟨k, hk⟩, rfl, rfl, rfl, rfl, rfl⟩
def Ins.plain (k : Nat) (x : Ins) : Ins := { op := x.op, a := if hasB k 1 = true then x.a else 0, b := if hasB k 2 = true then x.b else 0, n := if hasB k 4 = true then x.n else 0, t := if hasB k 8 = true then x.t else ⟨#[]⟩, s0 := if hasB k 16 = true then x.s0 else 0, s1 := if hasB k 16 = true then x.s1 else 0, s2 := if hasB k 16 = true then x.s2 else 0, s3 := if hasB k 16 = true then x.s3 else 0 }
theorem r29 (hX : X.G 0 = some usesL) (k : Nat) (hk : k < 21) (x : Ins) (hx : x.op = k) : R X Tryd.prog 29 [.ag x.c] [] (.ag (x.plain k).c) [] := by
  obtain ⟨op, a, b, n, t, s0, s1, s2, s3⟩ := x
  simp only at hx
  subst hx
  obtain ⟨p, hp, h1, h2, h3, h4, h5⟩ := pat hk
  simp only [Ins.plain, Ins.c, h1, h2, h3, h4, h5]
  refine R_i [] [] c29_ok rfl (by simp) ?_
  simp -implicitDefEqProofs (maxSteps := 2000000) only [c29, ↓reduceIte, s_ops0, s_seq, s_opsK, s_seqK_n, s_nil, s_cons, s_wopsK, s_putK, v_part_f, v_atK, o_al, o_bx, o_fa, v_fa_p, o_ld, v_ld_p, v_ldC, o_st, v_st_p, v_stCK, o_bd, v_agK, v_bd_n, v_bd_c, o_call, e_t, e_k, e_put, e_get, e_res, e_keep_n, e_keep_c, e_keep1_s, St.init, enum, List.length_nil, List.length_cons, Option.getD_some, Nat.reduceEqDiff, Nat.reduceAdd, reduceCtorEq, true_and, Bool.false_eq_true, List.map_cons, List.map_nil, PV.leaves, List.flatMap_cons, List.flatMap_nil, List.append_nil, List.cons_append, List.nil_append, List.all_cons, List.all_nil, Bool.true_and, Bool.and_self, PV.cells, cellL, fillL, Nat.reduceBEq, Nat.reduceLeDiff, Nat.zero_le, Nat.le_refl, List.take_zero, List.drop_zero, List.drop_succ_cons, List.drop_nil, List.getElem?_cons_zero, kc_i, kc_s, rl_i, kc_p, m_lf, m_ag, m_n, m_c, m_all, st_b, d_n, d_c, ne_eq, not_false_eq_true, Nat.zero_add, Nat.add_zero, v_bx_a]
  refine wcall_s (r13 hX k hk 1) rfl rfl ?_
  simp only [List.mem_cons, List.not_mem_nil, or_false] at hp
  rcases hp with rfl | rfl | rfl | rfl | rfl | rfl | rfl | rfl
  all_goals
    simp only at h1 h2 h3 h4 h5
    simp -implicitDefEqProofs (maxSteps := 2000000) only [c29, h1, h2, h3, h4, h5, ↓reduceIte, s_skip, s_ops0, s_seq, s_cond, s_opsK, s_seqK_n, s_cnd, s_nil, s_cons, s_wopsK, s_putK, v_part_f, v_atK, o_fa, v_fa_p, o_ld, v_ld_p, v_ldC, o_st, v_st_p, v_stCK, o_call, e_t, e_k, e_put, e_get, e_res, e_keep_n, e_keep_c, e_keep1_s, List.length_nil, List.length_cons, Option.getD_some, Nat.reduceEqDiff, Nat.reduceAdd, true_and, Bool.false_eq_true, St.clr, outV, ownsV, owns1, ownL, List.map_cons, List.map_nil, PV.leaves, List.flatMap_cons, List.flatMap_nil, List.append_nil, List.cons_append, List.nil_append, List.all_cons, List.all_nil, Bool.true_and, Bool.and_self, PV.cells, cellL, fillL, Nat.reduceLeDiff, List.take_zero, List.drop_zero, List.take_succ_cons, List.drop_succ_cons, List.getElem?_cons_zero, List.getElem?_cons_succ, rl_i, ol_b, m_lf, st_i1, d_n, d_c, Nat.zero_add, Nat.add_zero]
    refine wcall_s (r13 hX k hk 2) rfl rfl ?_
    simp -implicitDefEqProofs (maxSteps := 2000000) only [c29, h1, h2, h3, h4, h5, ↓reduceIte, s_skip, s_ops0, s_seq, s_cond, s_opsK, s_seqK_n, s_cnd, s_nil, s_cons, s_wopsK, s_putK, v_part_f, v_atK, o_fa, v_fa_p, o_ld, v_ld_p, v_ldC, o_st, v_st_p, v_stCK, o_call, e_t, e_k, e_put, e_get, e_res, e_keep_n, e_keep_c, e_keep1_s, List.length_nil, List.length_cons, Option.getD_some, Nat.reduceEqDiff, Nat.reduceAdd, true_and, Bool.false_eq_true, St.clr, outV, ownsV, owns1, ownL, List.map_cons, List.map_nil, PV.leaves, List.flatMap_cons, List.flatMap_nil, List.append_nil, List.cons_append, List.nil_append, List.all_cons, List.all_nil, Bool.true_and, Bool.and_self, PV.cells, cellL, fillL, Nat.reduceLeDiff, List.take_zero, List.drop_zero, List.take_succ_cons, List.drop_succ_cons, List.getElem?_cons_zero, List.getElem?_cons_succ, rl_i, ol_b, m_lf, st_i1, d_n, d_c, Nat.zero_add, Nat.add_zero]
    refine wcall_s (r13 hX k hk 4) rfl rfl ?_
    simp -implicitDefEqProofs (maxSteps := 2000000) only [c29, h1, h2, h3, h4, h5, ↓reduceIte, s_skip, s_ops0, s_seq, s_cond, s_opsK, s_seqK_n, s_cnd, s_nil, s_cons, s_wopsK, s_putK, v_part_f, v_atK, o_fa, v_fa_p, o_ld, v_ld_p, v_ldC, o_st, v_st_p, v_stCK, o_call, e_t, e_k, e_put, e_get, e_res, e_keep_n, e_keep_c, e_keep1_s, List.length_nil, List.length_cons, Option.getD_some, Nat.reduceEqDiff, Nat.reduceAdd, true_and, Bool.false_eq_true, St.clr, outV, ownsV, owns1, ownL, List.map_cons, List.map_nil, PV.leaves, List.flatMap_cons, List.flatMap_nil, List.append_nil, List.cons_append, List.nil_append, List.all_cons, List.all_nil, Bool.true_and, Bool.and_self, PV.cells, cellL, fillL, Nat.reduceLeDiff, List.take_zero, List.drop_zero, List.take_succ_cons, List.drop_succ_cons, List.getElem?_cons_zero, List.getElem?_cons_succ, rl_i, ol_b, m_lf, st_i1, d_n, d_c, Nat.zero_add, Nat.add_zero]
    refine wcall_s (r13 hX k hk 8) rfl rfl ?_
    simp -implicitDefEqProofs (maxSteps := 2000000) only [c29, h1, h2, h3, h4, h5, ↓reduceIte, s_skip, s_ops0, s_seq, s_cond, s_opsK, s_seqK_n, s_cnd, s_nil, s_cons, s_wopsK, s_putK, v_part_f, v_atK, o_fa, v_fa_p, o_ld, v_ld_p, v_ldC, o_st, v_st_p, v_stCK, o_call, e_t, e_k, e_put, e_get, e_res, e_keep_n, e_keep_c, e_keep1_s, List.length_nil, List.length_cons, Option.getD_some, Nat.reduceEqDiff, Nat.reduceAdd, true_and, Bool.false_eq_true, St.clr, outV, ownsV, owns1, ownL, List.map_cons, List.map_nil, PV.leaves, List.flatMap_cons, List.flatMap_nil, List.append_nil, List.cons_append, List.nil_append, List.all_cons, List.all_nil, Bool.true_and, Bool.and_self, PV.cells, cellL, fillL, Nat.reduceLeDiff, List.take_zero, List.drop_zero, List.take_succ_cons, List.drop_succ_cons, List.getElem?_cons_zero, List.getElem?_cons_succ, rl_i, ol_b, m_lf, st_s1, d_n, d_c, Nat.zero_add, Nat.add_zero]
    refine wcall_s (r13 hX k hk 16) rfl rfl ?_
    simp -implicitDefEqProofs (maxSteps := 2000000) only [c29, h1, h2, h3, h4, h5, ↓reduceIte, s_skip, s_ret, s_ops0, s_seq, s_cond, s_opsK, s_seqK_n, s_cnd, s_nil, s_cons, s_wopsK, s_putK, v_part_t, o_fa, v_fa_p, o_ld, v_ld_p, v_ldC, o_st, v_st_p, v_stCK, e_t, e_put, e_get, e_res, e_keep_n, e_keep_c, e_keep1_s, List.length_nil, List.length_cons, Option.getD_some, Nat.reduceEqDiff, Nat.reduceAdd, and_true, Bool.false_eq_true, s_ret_r, s_retX, s_cells_n, t_ag, t_ln, t_lc, t_i, t_s, r_n, r_c, r_cons, r_cell, r_part_t, one_1, St.clr, outV, ownsV, owns1, ownL, List.append_nil, List.cons_append, List.nil_append, List.all_cons, List.all_nil, Bool.and_true, Bool.and_self, PV.cells, cellL, fillL, Nat.le_refl, List.take_zero, List.drop_zero, List.take_succ_cons, List.drop_succ_cons, List.drop_nil, List.take_nil, Option.bind_some, ol_b, m_lf, st_b, d_n, d_c, Nat.zero_add]
end Go.Proofs.YtkmhoholblbbfaaDoor.M
set_option linter.unusedVariables false
set_option linter.unusedSimpArgs false
namespace Go.Proofs.YtkmhoholblbbfaaDoor.M
open Go Go.Proofs.YtkmhoholblbbfaaDoor.AM
variable {X : Cx}
def argB (capF : Bool) (k : Nat) (x : Ins) : Bool :=
  if k = 2 ∨ k = 5 then decide (0 ≤ x.b ∧ x.b ≤ 255) else if k = 18 then decide (2 ≤ x.b ∧ x.b ≤ 7) && capF
  else if k = 20 then decide (1 ≤ x.b ∧ x.b ≤ 7 ∧ 0 ≤ x.a ∧ x.a ≤ 255 ∧ ¬ (x.b = 1 ∧ 0 < x.a)) && capF else true
def fitB (capF : Bool) (k : Nat) (x : Ins) : Bool := x.same (x.plain k) && argB capF k x
theorem r12 (hX : X.G 0 = some usesL) (k : Nat) (hk : k < 21) (x : Ins) (hx : x.op = k) (capF : Bool) (hcap : k = 18 ∨ k = 20 → 1 ≤ x.b → x.b ≤ 7 → R X Tryd.prog 30 [.lf (.int .i64 x.b), .lf (.int .i64 x.n), .lf (.str x.t)] [] (.lf (.bool capF)) []) :
    R X Tryd.prog 12 [.ag x.c] [] (.lf (.bool (fitB capF k x))) [] := by
  refine R_i [] [] c12_ok rfl (by simp) ?_
  unfold fitB
  have h65 := r29 hX k hk x hx
  have he := eq_ins x (x.plain k)
  have hc : x.c = [.int .i64 x.op, .int .i64 x.a, .int .i64 x.b, .int .i64 x.n, .str x.t, .int .u64 x.s0, .int .u64 x.s1, .int .u64 x.s2, .int .u64 x.s3] := rfl
  generalize x.plain k = y at *
  have hy : y.c = [.int .i64 y.op, .int .i64 y.a, .int .i64 y.b, .int .i64 y.n, .str y.t, .int .u64 y.s0, .int .u64 y.s1, .int .u64 y.s2, .int .u64 y.s3] := rfl
  rw [hc] at he h65 ⊢
  rw [hy] at he h65
  rw [hx] at he h65 ⊢
  generalize x.same y = bb at *
  generalize hr : argB capF k x = r
  simp -implicitDefEqProofs (maxSteps := 2000000) only [c12, ↓reduceIte, s_ops0, s_ops2, s_seq, s_opsK, s_seqK_n, s_nil, s_cons, s_wopsK, s_wopsqK, s_putK, s_qcons, q_call, q_ld, o_as, v_part_t, o_bx, o_ld, v_ld_p, v_ldC, e_t, e_k, e_put, e_get, e_res, e_keep_n, e_keep_c, e_keep1_s, e_asg_b, St.init, enum, List.length_nil, List.length_cons, Option.getD_some, Nat.reduceEqDiff, Nat.reduceAdd, true_and, List.map_cons, List.map_nil, Bool.true_and, Nat.zero_le, Nat.le_refl, List.drop_zero, List.take_succ_cons, List.take_nil, kc_i, kc_s, rl_i, rl_s, m_ag, m_n, m_c, m_all, d_n, Nat.zero_add, v_bx_a]
  refine wcallq_i h65 rfl ?_
  have hb := fun neg ks K => v_beq (neg := neg) (ks := ks) (K := K) he
  simp -implicitDefEqProofs (maxSteps := 2000000) only [c12, hb, ↓reduceIte, s_skip, s_ret, s_ops0, s_seq, s_cond, s_block, s_opsK, s_seqK_n, s_seqK_r, s_blkK_n, s_blkK_r, s_cnd, s_nil, s_cons, s_guard, s_wopsK, s_wopsqK, s_putK, s_grd, s_grd_no, s_qnil, s_qcons, q_call, q_mv, q_pk, q_bin, q_beq, q_fa, q_ld, o_mv, o_as, o_pk, v_pk, o_bin, v_eql, v_lss, v_leq, v_gtr, v_geq, o_beq, v_part_f, v_atK, o_fa, v_fa_p, o_ld, v_ld_p, v_ldC, o_call, e_t, e_k, e_put, e_get, e_res, e_keep_n, e_keep_c, e_keep1_s, e_asg_b, Option.getD_some, Nat.reduceEqDiff, true_and, and_true, cond_false, Bool.not_true, Bool.not_false, Bool.true_eq_false, Bool.false_eq_true, decide_eq_true_eq, decide_eq_false_iff_not, s_ret_r, s_retX, s_cells_n, t_lf, t_b, r_n, r_t, r_cons, one_1, List.map_cons, List.map_nil, PV.leaves, List.flatMap_cons, List.flatMap_nil, List.append_nil, List.cons_append, List.nil_append, Bool.and_true, Bool.true_and, List.getElem?_cons_zero, List.getElem?_cons_succ, rl_i, rl_s, m_lf, Nat.zero_add, Nat.add_zero, kd_i, kd_s, ite_not, Bool.not_eq_eq_eq_not]
  clear he hb h65 hc hy
  unfold argB at hr
  iterate 14 (all_goals try (with_reducible refine ite_pr (fun _ => ?_) (fun _ => ?_)))
  all_goals try omega
  all_goals try (refine wcall_s (hcap (by omega) (by omega) (by omega)) rfl rfl ?_; simp -implicitDefEqProofs (maxSteps := 2000000) only [c12, ↓reduceIte, s_ret, s_opsK, s_seqK_n, s_seqK_r, s_blkK_r, s_nil, s_cons, s_wopsK, s_putK, o_as, o_pk, v_pk, e_t, e_k, e_put, e_get, e_res, e_keep_n, e_keep_c, e_keep1_s, e_asg_b, Option.getD_some, Nat.reduceEqDiff, true_and, and_true, Bool.false_eq_true, s_ret_r, s_retX, s_cells_n, t_lf, t_b, r_n, r_t, r_cons, one_1, St.clr, outV, ownsV, owns1, ownL, Bool.and_true, Bool.true_and, ol_b, m_lf])
  all_goals (cases bb; · simp_all)
  all_goals (simp only [Bool.true_and]; subst hr)
  all_goals try contradiction
  all_goals repeat' split
  all_goals first
    | omega
    | rfl
    | (rw [decide_eq_decide]; omega)
    | (rw [decide_eq_false (by omega)]; rfl)
    | (rw [decide_eq_true (by omega)]; rfl)
    | (rw [decide_eq_true (by omega), Bool.true_and])
    | (exact (decide_eq_false (by omega)).symm)
    | trace_state
end Go.Proofs.YtkmhoholblbbfaaDoor.M
set_option linter.unusedVariables false
set_option linter.unusedSimpArgs false
namespace Go.Proofs.YtkmhoholblbbfaaDoor.M
open Go Go.Proofs.YtkmhoholblbbfaaDoor.AM
variable {X : Cx}
def errAt (capF : Ins → Bool) (len i : Nat) (x : Ins) : Int :=
  if ¬ (1 ≤ x.op ∧ x.op ≤ 20) then 160 else if fitB (capF x) x.op.toNat x = false then 161
  else if hasB x.op.toNat 32 = true ∧ (x.a < -(i : Int) ∨ (len : Int) - i ≤ x.a) then 162 else 0
def chkGo (capF : Ins → Bool) (len : Nat) : Nat → List Ins → Option (Int × Int)
  | _, [] => none
  | i, x :: r => if errAt capF len i x = 0 then chkGo capF len (i + 1) r else some ((i : Int), errAt capF len i x)
def lastOp : List Ins → Int
  | [] => 0
  | [x] => x.op
  | _ :: y :: r => lastOp (y :: r)
def chkEnd (code : List Ins) : Int × Int := if hasB (lastOp code).toNat 64 = true then ((code.length : Int) - 1, 163) else (0, 0)
def chk (capF : Ins → Bool) (code : List Ins) : Int × Int :=
  if 8192 < code.length then (0, 2) else if code.length = 0 then (0, 3) else (chkGo capF code.length 0 code).getD (chkEnd code)
def CapOK (X : Cx) (capF : Ins → Bool) (code : List Ins) : Prop := ∀ x ∈ code, x.op = 18 ∨ x.op = 20 → 1 ≤ x.b → x.b ≤ 7 → R X Tryd.prog 30 [.lf (.int .i64 x.b), .lf (.int .i64 x.n), .lf (.str x.t)] [] (.lf (.bool (capF x))) []
theorem last_get : ∀ {code : List Ins}, 0 < code.length → ∃ y, code[code.length - 1]? = some y ∧ lastOp code = y.op ∧ y ∈ code
  | [x], _ => ⟨x, rfl, rfl, by simp⟩
  | x :: y :: r, _ => by
    obtain ⟨z, h1, h2, h3⟩ := last_get (code := y :: r) (by simp)
    refine ⟨z, ?_, h2, by simp at h3 ⊢; right; exact h3⟩
    simpa using h1
theorem nat_of {z : Int} (h : 1 ≤ z ∧ z ≤ 20) : ∃ k : Nat, z = k ∧ k < 21 := ⟨z.toNat, by omega, by omega⟩
theorem r8 (hX : X.G 0 = some usesL) (capF : Ins → Bool) (code : List Ins) (hcap : CapOK X capF code) (sp : List (List L)) :
    R X Tryd.prog 8 [.lf (.lst .ro 9 (code.map Ins.c) sp)] [] (.tp [.lf (.int .i64 (chk capF code).1), .lf (.int .i64 (chk capF code).2)]) [] := by
  refine R_i [] [] c8_ok rfl (by simp) ?_
  generalize hr : chk capF code = r
  have hl : (code.map Ins.c).length = code.length := List.length_map _
  have key : ∀ (q : List Ins) (i : Nat), code.drop i = q → (∀ x ∈ code.take i, 1 ≤ x.op ∧ x.op ≤ 20) → code.length ≤ 8192 → 0 < code.length → (chkGo capF code.length i q).getD (chkEnd code) = r → LoopAt X Tryd.prog c8_21 [0, 13, 14, 15] (blkK 0 (seqK X Tryd.prog c8_30 (retS [] [] 0 [RV.t 2, RV.t 3] (PV.tp [PV.lf (L.int IntKind.i64 r.fst), PV.lf (L.int IntKind.i64 r.snd)]) [])))
      { m := 0, tm := [(0, PV.lf (L.lst Tag.ro 9 (List.map Ins.c code) sp)), (13, PV.lf (L.lst Tag.ro 9 (List.map Ins.c code) sp)), (14, PV.lf (L.int IntKind.i64 ↑code.length)), (15, PV.lf (L.int IntKind.i64 i))], ce := [] } := by
    intro q
    induction q with
    | nil =>
      intro i hq hal h1 h2 hr Z hZ
      apply hZ
      have hi : code.length ≤ i := by simpa using hq
      obtain ⟨y, g1, g2, g3⟩ := last_get h2
      rw [List.take_of_length_le hi] at hal
      obtain ⟨k, hk, hk2⟩ := nat_of (hal y g3)
      have e1 : IntKind.i64.wrap ((code.length : Int) - 1) = ((code.length - 1 : Nat) : Int) := by rw [w64 (by omega) (by omega)]; omega
      have hg : (code.map Ins.c).getD ((code.length - 1 : Nat) : Int).toNat [] = [.int .i64 y.op, .int .i64 y.a, .int .i64 y.b, .int .i64 y.n, .str y.t, .int .u64 y.s0, .int .u64 y.s1, .int .u64 y.s2, .int .u64 y.s3] := by
        rw [Int.toNat_natCast, List.getD_eq_getElem?_getD, List.getElem?_map, g1]; rfl
      rw [hk] at hg
      simp only [chkGo, Option.getD_none, chkEnd, g2, hk, Int.toNat_natCast] at hr
      simp -implicitDefEqProofs (maxSteps := 2000000) only [c8, hl, e1, hg, v_ld_e, ↓reduceIte, s_skip, s_exit, s_ops0, s_seq, s_cond, s_block, s_opsK, s_seqK_n, s_seqK_e, s_blkK_e, s_loopK_e, s_cnd, s_nil, s_cons, s_wopsK, s_putK, o_mv, o_as, o_bin, v_sub, v_lss, v_part_t, v_part_f, v_atK, o_al, o_fa, v_fa_p, v_fa_e, o_ia, v_ia, o_ld, v_ld_p, v_ldC, o_st, v_st_p, v_stCK, o_len, v_len, o_call, e_t, e_k, e_put, e_get, e_res, e_keep_n, e_keep_c, e_keep1_s, e_asg_i, List.length_nil, List.length_cons, Option.getD_some, Nat.reduceEqDiff, Nat.reduceAdd, reduceCtorEq, true_and, decide_eq_true_eq, List.map_cons, List.map_nil, PV.leaves, List.flatMap_cons, List.flatMap_nil, List.append_nil, List.cons_append, List.nil_append, Bool.true_and, PV.cells, fillL, Nat.zero_le, Nat.le_refl, List.take_zero, List.drop_zero, List.getElem?_cons_zero, kc_b, kc_i, rl_i, kc_l, m_lf, m_ag, m_n, m_c, m_all, st_b, d_n, d_c, Nat.zero_add, Nat.add_zero, kc_er]
      with_reducible refine ite_pr (fun _ => ?_) (fun _ => ?_)
      · omega
      refine fun _ => ⟨⟨by omega, by omega⟩, by omega, ?_⟩
      refine wcall_s (r13 hX k hk2 64) rfl rfl ?_
      simp -implicitDefEqProofs (maxSteps := 2000000) only [c8, ↓reduceIte, s_skip, s_ret, s_ops0, s_seq, s_cond, s_opsK, s_seqK_n, s_seqK_r, s_cnd, s_nil, s_cons, s_wopsK, o_mv, o_as, e_t, e_k, e_put, e_get, e_res, e_keep_n, e_keep_c, e_keep1_s, e_asg_i, Option.getD_some, Nat.reduceEqDiff, reduceCtorEq, true_and, and_true, Bool.false_eq_true, s_ret_r, s_retX, s_cells_n, t_tp, t_n, t_c, t_1l, t_i, r_n, r_t, r_cons, one_2, St.clr, outV, ownsV, owns1, ownL, Bool.and_true, Bool.true_and, ol_b, m_lf]
      rw [← hr]
      split
      · exact ⟨by simp only; omega, rfl⟩
      · exact ⟨rfl, rfl⟩
    | cons x q ih =>
      intro i hq hal h1 h2 hr Z hZ
      apply hZ
      have hi : i < code.length := by
        have := congrArg List.length hq
        simp at this; omega
      have hx : code[i]? = some x := by
        have := congrArg (fun l => l[0]?) hq
        simpa using this
      have hg : (code.map Ins.c).getD (i : Int).toNat [] = x.c := by
        rw [Int.toNat_natCast, List.getD_eq_getElem?_getD, List.getElem?_map, hx]; rfl
      have hq' : code.drop (i + 1) = q := by
        rw [← List.drop_drop, hq]; rfl
      have hc : x.c = [.int .i64 x.op, .int .i64 x.a, .int .i64 x.b, .int .i64 x.n, .str x.t, .int .u64 x.s0, .int .u64 x.s1, .int .u64 x.s2, .int .u64 x.s3] := rfl
      rw [hc] at hg
      simp -implicitDefEqProofs (maxSteps := 2000000) only [c8, hl, hg, v_ld_e, ↓reduceIte, s_skip, s_exit, s_ops0, s_seq, s_cond, s_block, s_opsK, s_seqK_n, s_seqK_e, s_blkK_e, s_loopK_e, s_cnd, s_nil, s_cons, s_wopsK, s_putK, o_mv, o_as, o_bin, v_sub, v_lss, v_part_t, v_part_f, v_atK, o_al, o_fa, v_fa_p, v_fa_e, o_ia, v_ia, o_ld, v_ld_p, v_ldC, o_st, v_st_p, v_stCK, o_len, v_len, o_call, e_t, e_k, e_put, e_get, e_res, e_keep_n, e_keep_c, e_keep1_s, e_asg_i, List.length_nil, List.length_cons, Option.getD_some, Nat.reduceEqDiff, Nat.reduceAdd, reduceCtorEq, true_and, decide_eq_true_eq, List.map_cons, List.map_nil, PV.leaves, List.flatMap_cons, List.flatMap_nil, List.append_nil, List.nil_append, List.all_cons, List.all_nil, Bool.true_and, Bool.and_self, PV.cells, cellL, fillL, Nat.zero_le, Nat.le_refl, List.take_zero, List.drop_zero, List.take_succ_cons, List.drop_succ_cons, List.drop_nil, List.take_nil, List.getElem?_cons_zero, kc_b, kc_i, kc_s, rl_i, kc_l, m_lf, m_ag, m_n, m_c, m_all, st_b, d_n, d_c, Nat.zero_add, Nat.add_zero, kc_er]
      with_reducible refine ite_pr (fun _ => ?_) (fun _ => ?_)
      rotate_left
      · omega
      refine ⟨⟨by omega, by omega⟩, by omega, ?_⟩
      refine wcall_s (r11 x.op) rfl rfl ?_
      simp -implicitDefEqProofs (maxSteps := 2000000) only [c8, hl, hg, v_ld_e, ↓reduceIte, s_ret, s_ops0, s_seq, s_cond, s_opsK, s_seqK_n, s_seqK_r, s_blkK_r, s_loopK_r, s_cnd, s_nil, s_cons, s_wopsK, s_putK, o_mv, o_as, o_un, v_not, v_part_t, o_ld, v_ld_p, v_ldC, o_call, e_t, e_k, e_put, e_get, e_res, e_keep_n, e_keep_c, e_keep1_s, e_asg_b, e_asg_i, List.length_nil, List.length_cons, Option.getD_some, Nat.reduceEqDiff, Nat.reduceAdd, reduceCtorEq, true_and, and_true, Bool.not_true, Bool.false_eq_true, decide_eq_false_iff_not, s_ret_r, s_retX, s_cells_n, t_tp, t_n, t_c, t_1l, t_i, r_n, r_t, r_cons, one_2, St.clr, outV, ownsV, owns1, ownL, List.map_cons, List.map_nil, PV.leaves, List.flatMap_cons, List.flatMap_nil, List.append_nil, Bool.and_true, Bool.true_and, Nat.le_refl, List.drop_zero, List.take_succ_cons, List.take_nil, rl_i, rl_s, ol_b, m_lf, m_ag, Nat.zero_add, ite_not, Bool.not_eq_eq_eq_not]
      have hxm : x ∈ code := List.mem_of_getElem? hx
      simp only [chkGo] at hr
      have he : errAt capF code.length i x = _ := rfl
      conv at he => rhs; unfold errAt
      generalize errAt capF code.length i x = e at hr he
      with_reducible refine ite_pr (fun ho => ?_) (fun ho => ?_)
      rotate_left
      · rw [if_pos ho] at he
        subst he
        rw [if_neg (by decide)] at hr
        rw [← hr]
        exact ⟨rfl, rfl⟩
      obtain ⟨k, hk, hk2⟩ := nat_of ho
      have h49 := r12 hX k hk2 x hk (capF x) (fun h => hcap x hxm (by omega))
      have h50 := r13 hX k hk2 32
      rw [← hk] at h50
      rw [hc] at h49
      have w1 : IntKind.i64.wrap (0 - (i : Int)) = -(i : Int) := by rw [w64 (by omega) (by omega)]; omega
      have w2 : IntKind.i64.wrap ((code.length : Int) - (i : Int)) = (code.length : Int) - (i : Int) := w64 (by omega) (by omega)
      have w3 : IntKind.i64.wrap ((i : Int) + 1) = ((i + 1 : Nat) : Int) := by rw [w64 (by omega) (by omega)]; omega
      rw [if_neg (by simpa using ho), show x.op.toNat = k by omega] at he
      refine wcall_s h49 rfl rfl ?_
      simp -implicitDefEqProofs (maxSteps := 2000000) only [c8, ↓reduceIte, s_ret, s_ops0, s_seq, s_cond, s_opsK, s_seqK_n, s_seqK_r, s_blkK_r, s_loopK_r, s_cnd, s_nil, s_cons, s_wopsK, s_putK, o_mv, o_as, o_un, v_not, v_part_f, v_atK, o_fa, v_fa_p, o_ld, v_ld_p, v_ldC, o_call, e_t, e_k, e_put, e_get, e_res, e_keep_n, e_keep_c, e_keep1_s, e_asg_b, e_asg_i, Option.getD_some, Nat.reduceEqDiff, reduceCtorEq, true_and, and_true, Bool.not_true, Bool.false_eq_true, s_ret_r, s_retX, s_cells_n, t_tp, t_n, t_c, t_1l, t_i, r_n, r_t, r_cons, one_2, St.clr, outV, ownsV, owns1, ownL, List.map_cons, List.map_nil, PV.leaves, List.flatMap_cons, List.flatMap_nil, List.append_nil, List.cons_append, List.nil_append, Bool.and_true, Bool.true_and, List.getElem?_cons_zero, rl_i, ol_b, m_lf, Nat.add_zero, Bool.not_eq_eq_eq_not]
      with_reducible refine ite_pr (fun hf => ?_) (fun hf => ?_)
      · rw [if_pos hf] at he
        subst he
        rw [if_neg (by decide)] at hr
        rw [← hr]
        exact ⟨rfl, rfl⟩
      rw [if_neg hf] at he
      refine wcall_s h50 rfl rfl ?_
      have hal' : ∀ y ∈ code.take (i + 1), 1 ≤ y.op ∧ y.op ≤ 20 := by
        intro y hy
        rw [List.take_add_one, hx] at hy
        simp only [List.mem_append, Option.toList_some, List.mem_singleton] at hy
        rcases hy with hy | rfl
        · exact hal y hy
        · exact ho
      have nx := fun h0 : e = 0 => ih (i + 1) hq' hal' h1 h2 (by rw [if_pos h0] at hr; exact hr) Z hZ
      have bad : e = 162 → (i : Int) = r.1 ∧ 162 = r.2 := by
        intro h0
        rw [h0, if_neg (by decide)] at hr
        rw [← hr]
        exact ⟨rfl, rfl⟩
      simp -implicitDefEqProofs (maxSteps := 2000000) only [c8, hl, w1, w2, w3, ↓reduceIte, s_skip, s_ret, s_ops0, s_seq, s_cond, s_opsK, s_seqK_n, s_seqK_r, s_blkK_n, s_blkK_r, s_loopK_n, s_loopK_r, s_cnd, s_nil, s_cons, s_guard, s_wopsK, s_putK, s_grd, s_grd_no, q_mv, q_pk, q_bin, q_un, q_fa, q_ld, q_len, o_mv, o_as, o_pk, v_pk, o_bin, v_add, v_sub, v_lss, v_geq, o_un, v_neg, v_part_f, v_atK, o_fa, v_fa_p, o_ld, v_ld_p, v_ldC, o_len, v_len, e_t, e_k, e_put, e_get, e_res, e_keep_n, e_keep_c, e_keep1_s, e_asg_b, e_asg_i, Option.getD_some, Nat.reduceEqDiff, reduceCtorEq, true_and, and_true, cond_false, Bool.not_true, Bool.not_false, Bool.true_eq_false, Bool.false_eq_true, decide_eq_true_eq, decide_eq_false_iff_not, s_ret_r, s_retX, s_cells_n, t_tp, t_n, t_c, t_1l, t_i, r_n, r_t, r_cons, one_2, St.clr, outV, ownsV, owns1, ownL, List.append_nil, Bool.and_true, Bool.true_and, List.getElem?_cons_zero, List.getElem?_cons_succ, ol_b, m_lf, e_head, e_headK, kC_n, pO_n, pO_i, pO_l, List.range_zero, Nat.zero_add, ite_not]
      with_reducible refine ite_pr (fun hj => ?_) (fun hj => ?_)
      · with_reducible refine ite_pr (fun ha => ?_) (fun ha => ?_)
        · exact bad (by rw [he, if_pos ⟨hj, by omega⟩])
        · refine fun _ => ?_
          with_reducible refine ite_pr (fun hb => ?_) (fun hb => ?_)
          · exact bad (by rw [he, if_pos ⟨hj, by omega⟩])
          · exact nx (by rw [he, if_neg (by omega)])
      · exact nx (by rw [he, if_neg (fun h => hj h.1)])
  unfold chk at hr
  simp -implicitDefEqProofs (maxSteps := 2000000) only [c8, hl, ↓reduceIte, s_skip, s_ret, s_ops0, s_seq, s_cond, s_block, s_loop, s_opsK, s_seqK_n, s_seqK_r, s_cnd, s_nil, s_cons, s_wopsK, s_putK, o_mv, o_as, o_bin, v_eql, v_gtr, o_len, v_len, e_t, e_k, e_put, e_get, e_res, e_keep_n, e_keep_c, e_keep1_s, e_asg_i, St.init, enum, List.length_nil, Option.getD_some, Nat.reduceEqDiff, reduceCtorEq, true_and, and_true, decide_eq_true_eq, s_ret_r, s_retX, s_cells_n, t_tp, t_n, t_c, t_1l, t_i, r_n, r_t, r_cons, one_2, List.append_nil, Bool.and_true, Bool.true_and, e_head, e_headK, kC_n, pO_n, pO_i, pO_l, List.range_zero]
  refine fun hl2 => ?_
  with_reducible refine ite_pr (fun h => ?_) (fun h => ?_)
  · rw [if_pos (by omega)] at hr
    rw [← hr]
    exact ⟨rfl, rfl⟩
  rw [if_neg (by omega)] at hr
  refine fun _ => ?_
  with_reducible refine ite_pr (fun h => ?_) (fun h => ?_)
  · rw [if_pos (by omega)] at hr
    rw [← hr]
    exact ⟨rfl, rfl⟩
  rw [if_neg (by omega)] at hr
  refine fun _ => key code 0 rfl (fun x hx => by simp at hx) (by omega) (by omega) hr
end Go.Proofs.YtkmhoholblbbfaaDoor.M
set_option linter.unusedVariables false
set_option linter.unusedSimpArgs false
namespace Go.Proofs.YtkmhoholblbbfaaDoor.M
open Go Go.Proofs.YtkmhoholblbbfaaDoor.AM
variable {X : Cx}
abbrev headP (c : Int) : Prop := (65 ≤ c ∧ c ≤ 90) ∨ (97 ≤ c ∧ c ≤ 122) ∨ c = 95
abbrev wordP (c : Int) : Prop := headP c ∨ (48 ≤ c ∧ c ≤ 57)
abbrev nameP (s : ByteArray) : Prop := 1 ≤ s.size ∧ s.size ≤ 32 ∧ headP (byteAt s 0) ∧ ∀ i, i < s.size → wordP (byteAt s (i : Int))
theorem or32 : ∀ n : Fin 256, (((97 ≤ bits .or .u8 (n.val : Int) 32 ∧ bits .or .u8 (n.val : Int) 32 ≤ 122 ∧ (n.val : Int) < 128) ∨ (n.val : Int) = 95) ↔ headP (n.val : Int)) := by decide +kernel
theorem or32' {c : Int} (h0 : 0 ≤ c) (h1 : c ≤ 255) : ((97 ≤ bits .or .u8 c 32 ∧ bits .or .u8 c 32 ≤ 122 ∧ c < 128) ∨ c = 95) ↔ headP c := by
  have h := or32 ⟨c.toNat, by omega⟩
  have e : ((c.toNat : Nat) : Int) = c := by omega
  simp only [e] at h
  exact h
theorem r57 (c : Int) (h0 : 0 ≤ c) (h1 : c ≤ 255) : R X Tryd.prog 57 [.lf (.int .u8 c)] [] (.lf (.bool (decide (headP c)))) [] := by
  refine R_i [] [] c57_ok rfl (by simp) ?_
  have h := or32' h0 h1
  simp -implicitDefEqProofs (maxSteps := 2000000) only [c57, ↓reduceIte, s_ret, s_ops0, s_seq, s_opsK, s_seqK_n, s_nil, s_cons, s_guard, s_wopsK, s_putK, s_grd, q_mv, q_bin, o_mv, o_as, o_pk, v_pk, o_bin, v_or, v_eql, v_lss, v_leq, v_geq, e_t, e_k, e_put, e_get, e_res, e_keep_n, e_keep_c, e_keep1_s, e_asg_b, St.init, enum, List.length_nil, Option.getD_some, Nat.reduceEqDiff, reduceCtorEq, true_and, and_true, cond_false, Bool.not_true, Bool.not_false, Bool.true_eq_false, Bool.false_eq_true, decide_eq_true_eq, decide_eq_false_iff_not, s_ret_r, s_retX, s_cells_n, t_lf, t_b, r_n, r_t, r_cons, one_1, Bool.and_true, Bool.true_and, ite_not]
  generalize bits BinOp.or IntKind.u8 c 32 = y at *
  generalize hp : decide (headP c) = r
  have e1 : ((97 ≤ y ∧ y ≤ 122 ∧ c < 128) ∨ c = 95) → true = r := fun q => by rw [← hp, decide_eq_true (h.1 q)]
  have e2 : ¬ ((97 ≤ y ∧ y ≤ 122 ∧ c < 128) ∨ c = 95) → false = r := fun q => by rw [← hp, decide_eq_false (fun z => q (h.2 z))]
  have e3 : ¬ (97 ≤ y ∧ y ≤ 122 ∧ c < 128) → decide (c = 95) = r := fun q => by
    by_cases hc : c = 95
    · rw [decide_eq_true hc]; exact e1 (.inr hc)
    · rw [decide_eq_false hc]; exact e2 (fun z => z.elim q hc)
  iterate 3 (all_goals try (with_reducible refine ite_pr (fun _ => ?_) (fun _ => ?_)))
  · exact e1 (by omega)
  all_goals exact e3 (by omega)
theorem r53 (s : ByteArray) : R X Tryd.prog 53 [.lf (.str s)] [] (.lf (.bool (decide (nameP s)))) [] := by
  refine R_i [] [] c53_ok rfl (by simp) ?_
  generalize hr : decide (nameP s) = r
  have no : ¬ nameP s → false = r := fun h => by rw [← hr, decide_eq_false h]
  have yes : nameP s → true = r := fun h => by rw [← hr, decide_eq_true h]
  have key : ∀ (n i : Nat), n + i = s.size → s.size ≤ 32 → (∀ j, j < i → wordP (byteAt s (j : Int))) → 1 ≤ s.size → headP (byteAt s 0) → LoopAt X Tryd.prog c53_11 [0, 18, 19] (blkK 0 (seqK X Tryd.prog c53_15 (retS [] [] 0 [RV.t 2] (PV.lf (L.bool r)) [])))
      { m := 0, tm := [(0, PV.lf (L.str s)), (18, PV.lf (L.int IntKind.i64 s.size)), (19, PV.lf (L.int IntKind.i64 i))], ce := [] } := by
    intro n
    induction n with
    | zero =>
      intro i hn h32 hall h1 hh Z hZ
      apply hZ
      simp -implicitDefEqProofs (maxSteps := 2000000) only [c53, ↓reduceIte, s_skip, s_exit, s_ret, s_ops0, s_seq, s_cond, s_block, s_opsK, s_seqK_n, s_seqK_e, s_blkK_e, s_loopK_e, s_cnd, s_nil, s_cons, s_wopsK, s_putK, o_mv, o_as, o_bin, v_lss, o_ixs, v_ixs, o_call, e_t, e_k, e_put, e_get, e_res, e_keep_n, e_keep_c, e_keep1_s, e_asg_b, e_asg_i, Option.getD_some, Nat.reduceEqDiff, reduceCtorEq, true_and, and_true, decide_eq_true_eq, s_ret_r, s_retX, s_cells_n, t_lf, t_b, r_n, r_t, r_cons, one_1, List.map_cons, List.map_nil, PV.leaves, List.flatMap_cons, List.flatMap_nil, List.append_nil, Bool.and_true, Bool.true_and, rl_i, m_lf]
      with_reducible refine ite_pr (fun _ => ?_) (fun _ => ?_)
      · omega
      · exact yes ⟨h1, h32, hh, fun j hj => hall j (by omega)⟩
    | succ n ih =>
      intro i hn h32 hall h1 hh Z hZ
      apply hZ
      have w3 : IntKind.i64.wrap ((i : Int) + 1) = ((i + 1 : Nat) : Int) := by rw [w64 (by omega) (by omega)]; omega
      simp -implicitDefEqProofs (maxSteps := 2000000) only [c53, w3, ↓reduceIte, s_skip, s_exit, s_ret, s_ops0, s_seq, s_cond, s_block, s_opsK, s_seqK_n, s_seqK_e, s_blkK_e, s_loopK_e, s_cnd, s_nil, s_cons, s_wopsK, s_putK, o_mv, o_as, o_bin, v_lss, o_ixs, v_ixs, o_call, e_t, e_k, e_put, e_get, e_res, e_keep_n, e_keep_c, e_keep1_s, e_asg_b, e_asg_i, Option.getD_some, Nat.reduceEqDiff, reduceCtorEq, true_and, and_true, decide_eq_true_eq, s_ret_r, s_retX, s_cells_n, t_lf, t_b, r_n, r_t, r_cons, one_1, List.map_cons, List.map_nil, PV.leaves, List.flatMap_cons, List.flatMap_nil, List.append_nil, Bool.and_true, Bool.true_and, rl_i, m_lf]
      with_reducible refine ite_pr (fun _ => ?_) (fun _ => ?_)
      rotate_left
      · omega
      refine ⟨⟨by omega, by omega⟩, ?_⟩
      refine wcall_s (r57 _ (byteAt_0 s i) (byteAt_1 s i)) rfl rfl ?_
      simp -implicitDefEqProofs (maxSteps := 2000000) only [c53, w3, ↓reduceIte, s_skip, s_ret, s_ops0, s_seq, s_cond, s_opsK, s_seqK_n, s_seqK_r, s_blkK_n, s_blkK_r, s_loopK_n, s_loopK_r, s_cnd, s_nil, s_cons, s_guard, s_wopsK, s_putK, s_grd, s_grd_no, q_mv, q_pk, q_bin, q_ixs, o_mv, o_as, o_pk, v_pk, o_bin, v_add, v_lss, v_gtr, o_un, v_not, o_ixs, v_ixs, e_t, e_k, e_put, e_get, e_res, e_keep_n, e_keep_c, e_keep1_s, e_asg_b, Option.getD_some, Nat.reduceEqDiff, reduceCtorEq, true_and, and_true, cond_false, Bool.not_true, Bool.not_false, Bool.true_eq_false, Bool.false_eq_true, decide_eq_true_eq, decide_eq_false_iff_not, s_ret_r, s_retX, s_cells_n, t_lf, t_b, r_n, r_t, r_cons, one_1, St.clr, outV, ownsV, owns1, ownL, List.append_nil, Bool.and_true, Bool.true_and, ol_b, m_lf, e_head, e_headK, kC_n, pO_n, pO_i, pO_s, List.range_zero, ite_not, Bool.not_eq_eq_eq_not]
      have bad : ¬ wordP (byteAt s (i : Int)) → false = r := fun h => no (fun q => h (q.2.2.2 i (by omega)))
      have nx := fun h : wordP (byteAt s (i : Int)) => ih (i + 1) (by omega) h32 (fun j hj => by
        rcases Nat.lt_succ_iff_lt_or_eq.1 hj with h | rfl
        · exact hall j h
        · assumption) h1 hh Z hZ
      generalize byteAt s (i : Int) = y at *
      with_reducible refine ite_pr (fun h => ?_) (fun h => ?_)
      · exact nx (.inl h)
      refine ⟨⟨by omega, by omega⟩, ?_⟩
      with_reducible refine ite_pr (fun h2 => ?_) (fun h2 => ?_)
      · exact bad (by omega)
      refine ⟨⟨by omega, by omega⟩, ?_⟩
      with_reducible refine ite_pr (fun h2 => ?_) (fun h2 => ?_)
      · exact bad (by omega)
      · exact nx (by omega)
  simp -implicitDefEqProofs (maxSteps := 2000000) only [c53, ↓reduceIte, s_ret, s_ops0, s_seq, s_cond, s_opsK, s_seqK_n, s_seqK_r, s_cnd, s_nil, s_cons, s_guard, s_wopsK, s_putK, s_grd, q_call, q_mv, q_bin, q_ixs, q_lns, o_mv, o_as, o_pk, v_pk, o_bin, v_gtr, v_seql, o_ixs, v_ixs, o_lns, v_lns, o_call, e_t, e_k, e_put, e_get, e_res, e_keep_n, e_keep_c, e_keep1_s, e_asg_b, St.init, enum, List.length_nil, Option.getD_some, Nat.reduceEqDiff, reduceCtorEq, true_and, and_true, cond_false, Bool.not_false, Bool.true_eq_false, Bool.false_eq_true, decide_eq_false_iff_not, s_ret_r, s_retX, s_cells_n, t_lf, t_b, r_n, r_t, r_cons, one_1, List.map_cons, List.map_nil, PV.leaves, List.flatMap_cons, List.flatMap_nil, List.append_nil, Bool.and_true, Bool.true_and, rl_i, m_lf, ite_not]
  with_reducible refine ite_pr (fun h => ?_) (fun h => ?_)
  · exact no (fun q => absurd q.1 (by rw [h]; decide))
  have hz : 1 ≤ s.size := by
    rcases Nat.eq_zero_or_pos s.size with h0 | h0
    · refine absurd ?_ h
      have : s.data = #[] := Array.eq_empty_of_size_eq_zero h0
      cases s; simp_all
    · exact h0
  with_reducible refine ite_pr (fun h2 => ?_) (fun h2 => ?_)
  · exact no (fun q => by have := q.2.1; omega)
  refine ⟨⟨by omega, by omega⟩, ?_⟩
  refine wcall_s (r57 _ (byteAt_0 s 0) (byteAt_1 s 0)) rfl rfl ?_
  simp -implicitDefEqProofs (maxSteps := 2000000) only [c53, ↓reduceIte, s_skip, s_ret, s_ops0, s_seq, s_cond, s_block, s_loop, s_opsK, s_seqK_n, s_seqK_r, s_cnd, s_nil, s_cons, s_guard, s_wopsK, s_putK, s_grd, q_un, o_mv, o_as, o_pk, v_pk, o_un, v_not, o_lns, v_lns, e_t, e_k, e_put, e_get, e_res, e_keep_n, e_keep_c, e_keep1_s, e_asg_b, Option.getD_some, Nat.reduceEqDiff, reduceCtorEq, true_and, and_true, cond_false, Bool.not_true, Bool.false_eq_true, decide_eq_false_iff_not, s_ret_r, s_retX, s_cells_n, t_lf, t_b, r_n, r_t, r_cons, one_1, St.clr, outV, ownsV, owns1, ownL, List.append_nil, Bool.and_true, Bool.true_and, ol_b, m_lf, e_head, e_headK, kC_n, pO_n, pO_i, pO_s, List.range_zero, ite_not, Bool.not_eq_eq_eq_not]
  with_reducible refine ite_pr (fun h3 => ?_) (fun h3 => ?_)
  · exact key s.size 0 rfl (by omega) (fun j hj => by omega) (by omega) h3
  · exact no (fun q => h3 q.2.2.1)
end Go.Proofs.YtkmhoholblbbfaaDoor.M
set_option linter.unusedVariables false
set_option linter.unusedSimpArgs false
namespace Go.Proofs.YtkmhoholblbbfaaDoor.M
open Go Go.Proofs.YtkmhoholblbbfaaDoor.AM
variable {X : Cx}
def tmB : List UInt8 → Bool
  | [] => true
  | c :: r => if c.toNat = 37 then match r with
      | [] => false
      | d :: r' => if d.toNat = 37 ∨ (48 ≤ d.toNat ∧ d.toNat ≤ 57) then tmB r' else false
    else tmB r
theorem drop_byte {s : ByteArray} {i : Nat} {c : UInt8} {r : List UInt8} (h : s.data.toList.drop i = c :: r) : i < s.size ∧ byteAt s (i : Int) = (c.toNat : Int) ∧ s.data.toList.drop (i + 1) = r := by
  have hl : s.data.toList.length = s.size := size_len s
  have h1 : i < s.data.toList.length := by
    have := congrArg List.length h
    simp at this; simp; omega
  refine ⟨by omega, ?_, ?_⟩
  · have := congrArg (fun l => l[0]?) h
    simp only [List.getElem?_drop, Nat.add_zero, List.getElem?_cons_zero] at this
    unfold byteAt
    rw [Int.toNat_natCast, List.getD_eq_getElem?_getD, this]; rfl
  · rw [← List.drop_drop, h]; rfl
def tempB (s : ByteArray) : Bool := decide (s.size ≤ 255) && tmB s.data.toList
theorem r54 (s : ByteArray) : R X Tryd.prog 54 [.lf (.str s)] [] (.lf (.bool (tempB s))) [] := by
  refine R_i [] [] c54_ok rfl (by simp) ?_
  generalize hr : tempB s = r
  have key : ∀ (n i : Nat) (q : List UInt8), s.data.toList.drop i = q → q.length ≤ n → s.size ≤ 255 → tmB q = r → LoopAt X Tryd.prog c54_14 [0, 3] (blkK 0 (seqK X Tryd.prog c54_18 (retS [] [] 0 [RV.t 2] (PV.lf (L.bool r)) [])))
      { m := 0, tm := [(0, PV.lf (L.str s)), (3, PV.lf (L.int IntKind.i64 i))], ce := [] } := by
    intro n
    induction n with
    | zero =>
      intro i q hq hn h255 hr Z hZ
      obtain rfl : q = [] := List.eq_nil_of_length_eq_zero (by omega)
      have hi : s.size ≤ i := by
        have := congrArg List.length hq
        simp at this; omega
      apply hZ
      simp -implicitDefEqProofs (maxSteps := 2000000) only [c54, ↓reduceIte, s_skip, s_exit, s_ret, s_ops0, s_seq, s_cond, s_block, s_opsK, s_seqK_n, s_seqK_e, s_seqK_r, s_blkK_n, s_blkK_e, s_blkK_r, s_loopK_n, s_loopK_e, s_loopK_r, s_cnd, s_nil, s_cons, s_guard, s_wopsK, s_putK, s_grd, s_grd_no, q_mv, q_pk, q_bin, q_ixs, o_mv, o_as, o_pk, v_pk, o_bin, v_add, v_eql, v_neq, v_lss, v_gtr, o_ixs, v_ixs, o_lns, v_lns, e_t, e_k, e_put, e_get, e_res, e_keep_n, e_keep_c, e_keep1_s, e_asg_b, e_asg_i, Option.getD_some, Nat.reduceEqDiff, reduceCtorEq, true_and, and_true, cond_false, Bool.not_true, Bool.not_false, Bool.true_eq_false, Bool.false_eq_true, decide_eq_true_eq, decide_eq_false_iff_not, s_ret_r, s_retX, s_cells_n, t_lf, t_b, r_n, r_t, r_cons, one_1, List.append_nil, Bool.and_true, Bool.true_and, e_head, e_headK, kC_n, pO_n, pO_i, pO_s, List.range_zero, ne_eq, ite_not]
      with_reducible refine ite_pr (fun _ => ?_) (fun _ => ?_)
      · omega
      · exact hr
    | succ n ih =>
      intro i q hq hn h255 hr Z hZ
      apply hZ
      cases q with
      | nil =>
        have hi : s.size ≤ i := by
          have := congrArg List.length hq
          simp at this; omega
        simp -implicitDefEqProofs (maxSteps := 2000000) only [c54, ↓reduceIte, s_skip, s_exit, s_ret, s_ops0, s_seq, s_cond, s_block, s_opsK, s_seqK_n, s_seqK_e, s_seqK_r, s_blkK_n, s_blkK_e, s_blkK_r, s_loopK_n, s_loopK_e, s_loopK_r, s_cnd, s_nil, s_cons, s_guard, s_wopsK, s_putK, s_grd, s_grd_no, q_mv, q_pk, q_bin, q_ixs, o_mv, o_as, o_pk, v_pk, o_bin, v_add, v_eql, v_neq, v_lss, v_gtr, o_ixs, v_ixs, o_lns, v_lns, e_t, e_k, e_put, e_get, e_res, e_keep_n, e_keep_c, e_keep1_s, e_asg_b, e_asg_i, Option.getD_some, Nat.reduceEqDiff, reduceCtorEq, true_and, and_true, cond_false, Bool.not_true, Bool.not_false, Bool.true_eq_false, Bool.false_eq_true, decide_eq_true_eq, decide_eq_false_iff_not, s_ret_r, s_retX, s_cells_n, t_lf, t_b, r_n, r_t, r_cons, one_1, List.append_nil, Bool.and_true, Bool.true_and, e_head, e_headK, kC_n, pO_n, pO_i, pO_s, List.range_zero, ne_eq, ite_not]
        with_reducible refine ite_pr (fun _ => ?_) (fun _ => ?_)
        · omega
        · exact hr
      | cons c q =>
        obtain ⟨hi, hb, hq⟩ := drop_byte hq
        simp only [List.length_cons] at hn
        have w1 : IntKind.i64.wrap ((i : Int) + 1) = ((i + 1 : Nat) : Int) := by rw [w64 (by omega) (by omega)]; omega
        have w2 : IntKind.i64.wrap (((i + 1 : Nat) : Int) + 1) = ((i + 2 : Nat) : Int) := by rw [w64 (by omega) (by omega)]; omega
        simp -implicitDefEqProofs (maxSteps := 2000000) only [c54, w1, w2, ↓reduceIte, s_skip, s_exit, s_ret, s_ops0, s_seq, s_cond, s_block, s_opsK, s_seqK_n, s_seqK_e, s_seqK_r, s_blkK_n, s_blkK_e, s_blkK_r, s_loopK_n, s_loopK_e, s_loopK_r, s_cnd, s_nil, s_cons, s_guard, s_wopsK, s_putK, s_grd, s_grd_no, q_mv, q_pk, q_bin, q_ixs, o_mv, o_as, o_pk, v_pk, o_bin, v_add, v_eql, v_neq, v_lss, v_gtr, o_ixs, v_ixs, o_lns, v_lns, e_t, e_k, e_put, e_get, e_res, e_keep_n, e_keep_c, e_keep1_s, e_asg_b, e_asg_i, Option.getD_some, Nat.reduceEqDiff, reduceCtorEq, true_and, and_true, cond_false, Bool.not_true, Bool.not_false, Bool.true_eq_false, Bool.false_eq_true, decide_eq_true_eq, decide_eq_false_iff_not, s_ret_r, s_retX, s_cells_n, t_lf, t_b, r_n, r_t, r_cons, one_1, List.append_nil, Bool.and_true, Bool.true_and, e_head, e_headK, kC_n, pO_n, pO_i, pO_s, List.range_zero, ne_eq, ite_not]
        with_reducible refine ite_pr (fun _ => ?_) (fun _ => ?_)
        rotate_left
        · omega
        refine ⟨⟨by omega, by omega⟩, ?_⟩
        have hsz : s.data.toList.length = s.size := size_len s
        with_reducible refine ite_pr (fun h37 => ?_) (fun h37 => ?_)
        · have hc : c.toNat = 37 := by omega
          cases q with
          | nil =>
            have he : s.size = i + 1 := by
              have := congrArg List.length hq
              rw [List.length_drop, hsz] at this
              simp at this; omega
            simp only [tmB, hc, if_true] at hr
            with_reducible refine ite_pr (fun _ => ?_) (fun _ => ?_)
            · exact hr
            · omega
          | cons d q =>
            obtain ⟨hi2, hb2, hq2⟩ := drop_byte hq
            simp only [tmB, hc, if_true] at hr
            simp only [List.length_cons] at hn
            have nx := fun h : d.toNat = 37 ∨ (48 ≤ d.toNat ∧ d.toNat ≤ 57) => ih (i + 2) q hq2 (by omega) h255 (by rw [if_pos h] at hr; exact hr) Z hZ
            have bad : ¬ (d.toNat = 37 ∨ (48 ≤ d.toNat ∧ d.toNat ≤ 57)) → false = r := fun h => by rw [if_neg h] at hr; exact hr
            rw [hb2]
            with_reducible refine ite_pr (fun _ => ?_) (fun _ => ?_)
            · omega
            refine ⟨⟨by omega, by omega⟩, ?_⟩
            with_reducible refine ite_pr (fun _ => ?_) (fun _ => ?_)
            · exact nx (by omega)
            refine ⟨⟨by omega, by omega⟩, ?_⟩
            with_reducible refine ite_pr (fun _ => ?_) (fun _ => ?_)
            · exact bad (by omega)
            refine ⟨⟨by omega, by omega⟩, ?_⟩
            with_reducible refine ite_pr (fun _ => ?_) (fun _ => ?_)
            · exact bad (by omega)
            · exact nx (by omega)
        · have hc : ¬ c.toNat = 37 := by omega
          refine ih (i + 1) q hq (by omega) h255 ?_ Z hZ
          rw [tmB.eq_def] at hr
          simp only [hc, if_false] at hr
          exact hr
  simp -implicitDefEqProofs (maxSteps := 2000000) only [c54, ↓reduceIte, s_skip, s_ret, s_ops0, s_seq, s_cond, s_block, s_loop, s_opsK, s_seqK_n, s_seqK_r, s_cnd, s_nil, s_cons, s_wopsK, s_putK, o_mv, o_as, o_bin, v_gtr, o_lns, v_lns, e_t, e_k, e_put, e_get, e_res, e_keep_n, e_keep_c, e_keep1_s, e_asg_b, e_asg_i, St.init, enum, List.length_nil, Option.getD_some, reduceCtorEq, true_and, and_true, decide_eq_true_eq, s_ret_r, s_retX, s_cells_n, t_lf, t_b, r_n, r_t, r_cons, one_1, List.append_nil, Bool.and_true, Bool.true_and, e_head, e_headK, kC_n, pO_n, pO_i, pO_s, List.range_zero]
  with_reducible refine ite_pr (fun h => ?_) (fun h => ?_)
  · rw [← hr, tempB, decide_eq_false (by omega)]; rfl
  · refine key s.data.toList.length 0 _ rfl (Nat.le_refl _) (by omega) ?_
    rw [← hr, tempB, decide_eq_true (by omega)]; rfl
end Go.Proofs.YtkmhoholblbbfaaDoor.M
set_option linter.unusedVariables false
set_option linter.unusedSimpArgs false
namespace Go.Proofs.YtkmhoholblbbfaaDoor.M
open Go Go.Proofs.YtkmhoholblbbfaaDoor.AM
variable {X : Cx}
theorem r52 (op : Int) : R X Tryd.prog 52 [.lf (.int .i64 op)] [] (.lf (.bool (decide ((14 ≤ op ∧ op ≤ 16) ∨ op = 23)))) [] := by
  refine R_i [] [] c52_ok rfl (by simp) ?_
  simp -implicitDefEqProofs (maxSteps := 2000000) only [c52, ↓reduceIte, s_ret, s_ops0, s_seq, s_opsK, s_seqK_n, s_nil, s_cons, s_guard, s_wopsK, s_putK, s_grd, q_mv, q_bin, o_mv, o_as, o_pk, v_pk, o_bin, v_eql, v_leq, v_geq, e_t, e_k, e_put, e_get, e_res, e_keep_n, e_keep_c, e_keep1_s, e_asg_b, St.init, enum, List.length_nil, Option.getD_some, Nat.reduceEqDiff, reduceCtorEq, true_and, and_true, cond_false, Bool.not_true, Bool.not_false, Bool.true_eq_false, Bool.false_eq_true, decide_eq_true_eq, decide_eq_false_iff_not, s_ret_r, s_retX, s_cells_n, t_lf, t_b, r_n, r_t, r_cons, one_1, Bool.and_true, Bool.true_and, ite_not]
  iterate 2 (all_goals try (with_reducible refine ite_pr (fun _ => ?_) (fun _ => ?_)))
  all_goals first
    | (rw [decide_eq_decide]; omega)
    | (symm; rw [decide_eq_true_eq]; omega)
theorem r48 (op : Int) (h : 18 ≤ op ∧ op ≤ 23) : R X Tryd.prog 48 [.lf (.int .i64 op)] [] (.lf (.int .i64 1)) [] := by
  refine R_i [] [] c48_ok rfl (by simp) ?_
  simp -implicitDefEqProofs (maxSteps := 2000000) only [c48, ↓reduceIte, s_skip, s_ret, s_ops0, s_seq, s_cond, s_block, s_opsK, s_seqK_n, s_seqK_r, s_blkK_n, s_blkK_r, s_cnd, s_nil, s_cons, s_guard, s_wopsK, s_putK, s_grd, q_mv, q_bin, o_mv, o_as, o_pk, v_pk, o_bin, v_eql, v_leq, v_gtr, v_geq, e_t, e_k, e_put, e_get, e_res, e_keep_n, e_keep_c, e_keep1_s, e_asg_b, e_asg_i, St.init, enum, List.length_nil, Option.getD_some, Nat.reduceEqDiff, reduceCtorEq, true_and, and_true, cond_false, Bool.not_true, Bool.not_false, Bool.true_eq_false, Bool.false_eq_true, decide_eq_true_eq, decide_eq_false_iff_not, s_ret_r, s_retX, s_cells_n, t_lf, t_i, r_n, r_t, r_cons, one_1, Bool.and_true, Bool.true_and, Int.reduceNeg, ite_not]
  (repeat' split) <;> first | trivial | omega
theorem r48' : R X Tryd.prog 48 [.lf (.int .i64 3)] [] (.lf (.int .i64 0)) [] := by
  refine R_i [] [] c48_ok rfl (by simp) ?_
  simp -implicitDefEqProofs (maxSteps := 2000000) only [c48, ↓reduceIte, s_skip, s_ret, s_ops0, s_seq, s_cond, s_block, s_opsK, s_seqK_n, s_seqK_r, s_blkK_n, s_blkK_r, s_cnd, s_nil, s_cons, s_guard, s_wopsK, s_putK, s_grd, q_mv, q_bin, o_mv, o_as, o_pk, v_pk, o_bin, v_eql, v_leq, v_gtr, v_geq, e_t, e_k, e_put, e_get, e_res, e_keep_n, e_keep_c, e_keep1_s, e_asg_b, e_asg_i, St.init, enum, List.length_nil, Option.getD_some, Nat.reduceEqDiff, reduceCtorEq, true_and, and_true, cond_false, Bool.not_true, Bool.not_false, Bool.true_eq_false, Bool.false_eq_true, decide_eq_true_eq, decide_eq_false_iff_not, s_ret_r, s_retX, s_cells_n, t_lf, t_i, r_n, r_t, r_cons, one_1, Bool.and_true, Bool.true_and, Int.reduceNeg, ite_not]
  decide
def fldB (op n : Int) (t : ByteArray) : Bool := decide (0 ≤ n ∧ n ≤ 50 ∧ (n = 0 ∨ op = 23)) && (if op = 19 then decide (t = ⟨#[]⟩) || decide (nameP t) else if op = 22 then tempB t else decide (t = ⟨#[]⟩))
theorem r49 (op n : Int) (t : ByteArray) (ho : op = 3 ∨ (18 ≤ op ∧ op ≤ 23)) : R X Tryd.prog 49 [.ag [.int .i64 op, .int .i64 n, .str t, .int .u64 0, .int .u64 0, .int .u64 0, .int .u64 0]] [] (.lf (.bool (fldB op n t))) [] := by
  refine R_i [] [] c49_ok rfl (by simp) ?_
  have he : eqLs [.int .u64 0, .int .u64 0, .int .u64 0, .int .u64 0] [.int .u64 0, .int .u64 0, .int .u64 0, .int .u64 0] = some true := rfl
  have hb := fun neg ks K => v_beq (neg := neg) (ks := ks) (K := K) he
  generalize hr : fldB op n t = r
  have no : ¬ (0 ≤ n ∧ n ≤ 50 ∧ (n = 0 ∨ op = 23)) → false = r := fun h => by rw [← hr, fldB, decide_eq_false h]; rfl
  have yes : (0 ≤ n ∧ n ≤ 50 ∧ (n = 0 ∨ op = 23)) → (if op = 19 then decide (t = ⟨#[]⟩) || decide (nameP t) else if op = 22 then tempB t else decide (t = ⟨#[]⟩)) = r := fun h => by rw [← hr, fldB, decide_eq_true h]; rfl
  clear hr
  simp -implicitDefEqProofs (maxSteps := 2000000) only [c49, hb, ↓reduceIte, s_skip, s_ret, s_ops0, s_seq, s_cond, s_block, s_opsK, s_seqK_n, s_seqK_r, s_blkK_n, s_blkK_r, s_cnd, s_nil, s_cons, s_guard, s_wopsK, s_putK, s_grd, s_grd_no, q_call, q_mv, q_pk, q_bin, q_beq, q_fa, q_ld, q_bd, q_lns, o_mv, o_as, o_pk, v_pk, o_bin, v_eql, v_neq, v_lss, v_leq, v_gtr, v_seql, v_sneq, o_beq, v_part_t, v_part_f, v_atK, o_bx, o_fa, v_fa_p, o_ld, v_ld_p, v_ldC, o_bd, v_agK, v_bd_n, o_lns, v_lns, o_call, e_t, e_k, e_put, e_get, e_res, e_keep_n, e_keep_c, e_keep1_s, e_asg_b, St.init, enum, List.length_nil, List.length_cons, Option.getD_some, Nat.reduceEqDiff, Nat.reduceAdd, true_and, and_true, cond_false, Bool.not_true, Bool.not_false, Bool.true_eq_false, Bool.false_eq_true, decide_eq_true_eq, decide_eq_false_iff_not, s_ret_r, s_retX, s_cells_n, t_lf, t_b, r_n, r_t, r_cons, one_1, List.map_cons, List.map_nil, PV.leaves, List.flatMap_cons, List.flatMap_nil, List.append_nil, Bool.and_true, Bool.true_and, Nat.zero_le, Nat.le_refl, List.drop_zero, List.take_succ_cons, List.drop_succ_cons, List.take_nil, List.getElem?_cons_zero, List.getElem?_cons_succ, kc_i, kc_s, rl_i, rl_s, m_lf, m_ag, m_n, m_c, m_all, d_n, ne_eq, Nat.zero_add, Nat.add_zero, kd_i, ite_not, v_bx_a]
  clear hb he
  iterate 4 (all_goals try (with_reducible refine ite_pr (fun _ => ?_) (fun _ => ?_)); all_goals try omega)
  all_goals try exact no (by omega)
  all_goals try (refine wcall_s (r52 op) rfl rfl ?_; simp -implicitDefEqProofs (maxSteps := 2000000) only [c49, ↓reduceIte, s_skip, s_ret, s_ops0, s_seq, s_cond, s_block, s_opsK, s_seqK_n, s_seqK_r, s_blkK_n, s_blkK_r, s_cnd, s_nil, s_cons, s_guard, s_wopsK, s_putK, s_grd, q_call, q_pk, q_bin, q_un, q_fa, q_ld, q_lns, o_mv, o_as, o_pk, v_pk, o_bin, v_eql, v_leq, v_seql, v_sneq, o_un, v_not, v_part_f, v_atK, o_fa, v_fa_p, o_ld, v_ld_p, v_ldC, o_lns, v_lns, o_call, e_t, e_k, e_put, e_get, e_res, e_keep_n, e_keep_c, e_keep1_s, e_asg_b, Option.getD_some, Nat.reduceEqDiff, true_and, and_true, cond_false, Bool.not_true, Bool.not_false, Bool.true_eq_false, Bool.false_eq_true, decide_eq_true_eq, decide_eq_false_iff_not, s_ret_r, s_retX, s_cells_n, t_lf, t_b, r_n, r_t, r_cons, one_1, St.clr, outV, ownsV, owns1, ownL, List.map_cons, List.map_nil, PV.leaves, List.flatMap_cons, List.flatMap_nil, List.append_nil, Bool.and_true, Bool.true_and, List.getElem?_cons_zero, List.getElem?_cons_succ, rl_s, ol_b, m_lf, ne_eq, Nat.zero_add, Nat.add_zero, ite_not, Bool.not_eq_eq_eq_not])
  iterate 6 (all_goals try (with_reducible refine ite_pr (fun _ => ?_) (fun _ => ?_)); all_goals try omega)
  all_goals try exact no (by omega)
  all_goals (have y := yes (by omega); clear yes no ho)
  all_goals try (refine wcall_s (r53 t) rfl rfl ?_; simp -implicitDefEqProofs (maxSteps := 2000000) only [c49, ↓reduceIte, s_ret, s_opsK, s_seqK_n, s_seqK_r, s_blkK_r, s_nil, s_cons, s_wopsK, s_putK, o_as, o_pk, v_pk, e_t, e_k, e_put, e_get, e_res, e_keep_n, e_keep_c, e_keep1_s, e_asg_b, Option.getD_some, Nat.reduceEqDiff, true_and, and_true, Bool.false_eq_true, s_ret_r, s_retX, s_cells_n, t_lf, t_b, r_n, r_t, r_cons, one_1, St.clr, outV, ownsV, owns1, ownL, Bool.and_true, Bool.true_and, ol_b, m_lf])
  all_goals try (refine wcall_s (r54 t) rfl rfl ?_; simp -implicitDefEqProofs (maxSteps := 2000000) only [c49, ↓reduceIte, s_ret, s_opsK, s_seqK_n, s_seqK_r, s_blkK_r, s_nil, s_cons, s_wopsK, o_as, e_t, e_put, e_get, e_res, e_keep_n, e_keep_c, e_keep1_s, e_asg_b, Option.getD_some, true_and, and_true, Bool.false_eq_true, s_ret_r, s_retX, s_cells_n, t_lf, t_b, r_n, r_t, r_cons, one_1, St.clr, outV, ownsV, owns1, ownL, Bool.and_true, Bool.true_and, ol_b, m_lf])
  all_goals simp_all
end Go.Proofs.YtkmhoholblbbfaaDoor.M
