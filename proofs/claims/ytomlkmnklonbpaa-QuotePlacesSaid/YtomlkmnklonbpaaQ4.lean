/- Contracts, part Q4. -/
import Derived.Test.YtomlkmnklonbpaaProg
import Derived.Test.YtomlkmnklonbpaaAmLeaf2
set_option maxRecDepth 100000
namespace Go.Proofs.Ytomlkmnklonbpaa.Q
open Go Go.Proofs.Ytomlkmnklonbpaa.AM
/-- harrow/harrowlaw02.QuoteLines -/
abbrev c7_0 : AC := .seq (.ops 0 [⟨(some 35), .call 15 [], none⟩, ⟨(some 36), .mv (.t 35), none⟩, ⟨(some 37), .mv (.t 5), (some (36, true))⟩, ⟨(some 38), .mv (.t 7), (some (36, true))⟩, ⟨(some 39), .bin .eql (.t 37) (.t 38), (some (36, true))⟩, ⟨(some 40), .pk (.t 36) (.t 39) (.k (.lf (.bool false))), none⟩, ⟨(some 41), .mv (.t 40), none⟩, ⟨(some 42), .mv (.t 6), (some (41, true))⟩, ⟨(some 43), .mv (.t 8), (some (41, true))⟩, ⟨(some 44), .bin .eql (.t 42) (.t 43), (some (41, true))⟩, ⟨(some 45), .pk (.t 41) (.t 44) (.k (.lf (.bool false))), none⟩, ⟨(some 46), .mv (.t 45), none⟩, ⟨(some 47), .mv (.t 9), (some (46, true))⟩, ⟨(some 48), .mv (.t 11), (some (46, true))⟩, ⟨(some 49), .bin .eql (.t 47) (.t 48), (some (46, true))⟩, ⟨(some 50), .pk (.t 46) (.t 49) (.k (.lf (.bool false))), none⟩, ⟨(some 51), .mv (.t 50), none⟩, ⟨(some 52), .mv (.t 10), (some (51, true))⟩, ⟨(some 53), .mv (.t 12), (some (51, true))⟩, ⟨(some 54), .bin .eql (.t 52) (.t 53), (some (51, true))⟩, ⟨(some 55), .pk (.t 51) (.t 54) (.k (.lf (.bool false))), none⟩, ⟨(some 4), .as 0 0 (.t 55), none⟩] [4]) .ret
abbrev c7_1 : AC := .seq (.ops 0 [⟨(some 30), .mv (.t 0), none⟩, ⟨(some 31), .mv (.t 1), none⟩, ⟨(some 32), .call 21 [(.t 30), (.t 31)], none⟩, ⟨(some 29), .mv (.t 32), none⟩, ⟨(some 33), .ext (.t 29) 0, none⟩, ⟨(some 34), .ext (.t 29) 1, none⟩, ⟨(some 11), .as 0 0 (.t 33), none⟩, ⟨(some 12), .as 0 0 (.t 34), none⟩] [5, 6, 7, 8, 9, 10, 11, 12]) c7_0
abbrev c7_2 : AC := .seq (.ops 0 [⟨(some 24), .mv (.t 0), none⟩, ⟨(some 25), .mv (.t 1), none⟩, ⟨(some 26), .call 20 [(.t 24), (.t 25)], none⟩, ⟨(some 23), .mv (.t 26), none⟩, ⟨(some 27), .ext (.t 23) 0, none⟩, ⟨(some 28), .ext (.t 23) 1, none⟩, ⟨(some 9), .as 0 0 (.t 27), none⟩, ⟨(some 10), .as 0 0 (.t 28), none⟩] [0, 1, 5, 6, 7, 8, 9, 10]) c7_1
abbrev c7_3 : AC := .seq (.ops 0 [⟨(some 19), .mv (.t 0), none⟩, ⟨(some 20), .call 19 [(.t 19)], none⟩, ⟨(some 18), .mv (.t 20), none⟩, ⟨(some 21), .ext (.t 18) 0, none⟩, ⟨(some 22), .ext (.t 18) 1, none⟩, ⟨(some 7), .as 0 0 (.t 21), none⟩, ⟨(some 8), .as 0 0 (.t 22), none⟩] [0, 1, 5, 6, 7, 8]) c7_2
abbrev c7_4 : AC := .seq (.ops 0 [⟨(some 14), .mv (.t 0), none⟩, ⟨(some 15), .call 18 [(.t 14)], none⟩, ⟨(some 13), .mv (.t 15), none⟩, ⟨(some 16), .ext (.t 13) 0, none⟩, ⟨(some 17), .ext (.t 13) 1, none⟩, ⟨(some 5), .as 0 0 (.t 16), none⟩, ⟨(some 6), .as 0 0 (.t 17), none⟩] [0, 1, 5, 6]) c7_3
abbrev c7_5 : AC := .seq (.ops 0 [⟨(some 4), .as 0 0 (.k (.lf (.bool false))), none⟩] [0, 1]) c7_4
abbrev c7 : AC := c7_5
theorem c7_ok : compileFn Try.prog 7 = some (56, AC.strip c7, [.t 4]) := by kernel_rfl
/-- harrow/harrowlaw02.QuoteJoined -/
abbrev c8_0 : AC := .cond (.t 13) (.ops 0 [⟨(some 14), .mv (.t 0), none⟩, ⟨(some 15), .sls (.t 14) none (some (.k (.lf (.int .i64 3000)))), none⟩, ⟨(some 0), .as 0 0 (.t 15), none⟩] [0]) .skip
abbrev c8_1 : AC := .seq (.ops 0 [⟨(some 11), .mv (.t 0), none⟩, ⟨(some 12), .lns (.t 11), none⟩, ⟨(some 13), .bin .gtr (.t 12) (.k (.lf (.int .i64 3000))), none⟩] [0, 13]) c8_0
abbrev c8_2 : AC := .seq (.ops 0 [⟨(some 2), .as 0 0 (.k (.lf (.bool false))), none⟩] [2]) .ret
abbrev c8_3 : AC := .cond (.t 37) c8_2 .skip
abbrev c8_4 : AC := .seq (.ops 0 [⟨(some 21), .mv (.t 4), none⟩, ⟨(some 22), .bin .neq (.t 21) (.k (.lf (.int .i64 0))), none⟩, ⟨(some 23), .mv (.t 22), none⟩, ⟨(some 24), .mv (.t 3), (some (23, false))⟩, ⟨(some 25), .bin .lss (.t 24) (.k (.lf (.int .i64 1))), (some (23, false))⟩, ⟨(some 26), .pk (.t 23) (.k (.lf (.bool true))) (.t 25), none⟩, ⟨(some 27), .mv (.t 26), none⟩, ⟨(some 28), .mv (.t 3), (some (27, false))⟩, ⟨(some 29), .mv (.t 0), (some (27, false))⟩, ⟨(some 30), .lns (.t 29), (some (27, false))⟩, ⟨(some 31), .bin .add (.t 30) (.k (.lf (.int .i64 1))), (some (27, false))⟩, ⟨(some 32), .bin .gtr (.t 28) (.t 31), (some (27, false))⟩, ⟨(some 33), .pk (.t 27) (.k (.lf (.bool true))) (.t 32), none⟩, ⟨(some 34), .mv (.t 33), none⟩, ⟨(some 35), .call 15 [], (some (34, false))⟩, ⟨(some 36), .un .not (.t 35), (some (34, false))⟩, ⟨(some 37), .pk (.t 34) (.k (.lf (.bool true))) (.t 36), none⟩] [0, 3, 37]) c8_3
abbrev c8_5 : AC := .cond (.t 41) .skip (.exit 0)
abbrev c8_6 : AC := .seq (.ops 0 [⟨(some 39), .mv (.t 6), none⟩, ⟨(some 40), .mv (.t 3), none⟩, ⟨(some 41), .bin .leq (.t 39) (.t 40), none⟩] [0, 3, 5, 6, 41]) c8_5
abbrev c8_7 : AC := .seq (.ops 0 [⟨(some 2), .as 0 0 (.k (.lf (.bool false))), none⟩] [2]) .ret
abbrev c8_8 : AC := .cond (.t 51) c8_7 .skip
abbrev c8_9 : AC := .seq (.ops 0 [⟨(some 50), .mv (.t 8), none⟩, ⟨(some 51), .bin .neq (.t 50) (.k (.lf (.int .i64 0))), none⟩] [0, 3, 5, 6, 7, 51]) c8_8
abbrev c8_10 : AC := .cond (.t 53) (.ops 0 [⟨(some 54), .mv (.t 5), none⟩, ⟨(some 55), .bs 5 1 1 [.int .u8 0] [(0, (.k (.lf (.int .u8 10))))], none⟩, ⟨(some 56), .app 5 1 1 (.t 54) (.t 55), none⟩, ⟨(some 5), .as 5 1 (.t 56), none⟩] [0, 3, 5, 6, 7]) .skip
abbrev c8_11 : AC := .seq (.ops 0 [⟨(some 52), .mv (.t 6), none⟩, ⟨(some 53), .bin .gtr (.t 52) (.k (.lf (.int .i64 1))), none⟩] [0, 3, 5, 6, 7, 53]) c8_10
abbrev c8_12 : AC := .seq c8_11 (.ops 0 [⟨(some 57), .mv (.t 5), none⟩, ⟨(some 58), .mv (.t 7), none⟩, ⟨(some 59), .aps 5 (.t 57) (.t 58), none⟩, ⟨(some 5), .as 5 1 (.t 59), none⟩] [0, 3, 5, 6])
abbrev c8_13 : AC := .seq c8_9 c8_12
abbrev c8_14 : AC := .seq (.ops 0 [⟨(some 45), .mv (.t 0), none⟩, ⟨(some 46), .mv (.t 6), none⟩, ⟨(some 47), .call 20 [(.t 45), (.t 46)], none⟩, ⟨(some 44), .mv (.t 47), none⟩, ⟨(some 48), .ext (.t 44) 0, none⟩, ⟨(some 49), .ext (.t 44) 1, none⟩, ⟨(some 7), .as 0 0 (.t 48), none⟩, ⟨(some 8), .as 0 0 (.t 49), none⟩] [0, 3, 5, 6, 7, 8]) c8_13
abbrev c8_15 : AC := .block 1 c8_14
abbrev c8_16 : AC := .seq c8_15 (.ops 0 [⟨(some 42), .mv (.t 6), none⟩, ⟨(some 43), .bin .add (.t 42) (.k (.lf (.int .i64 1))), none⟩, ⟨(some 6), .as 0 0 (.t 43), none⟩] [0, 3, 5, 6])
abbrev c8_17 : AC := .seq c8_6 c8_16
abbrev c8_18 : AC := .loop c8_17 [0, 3, 5, 6]
abbrev c8_19 : AC := .block 0 c8_18
abbrev c8_20 : AC := .seq (.ops 0 [⟨(some 6), .as 0 0 (.k (.lf (.int .i64 1))), none⟩] [0, 3, 5, 6]) c8_19
abbrev c8_21 : AC := .seq (.ops 0 [⟨(some 67), .mv (.t 5), none⟩, ⟨(some 68), .cbs (.t 67), none⟩, ⟨(some 69), .mv (.t 0), none⟩, ⟨(some 70), .bin .eql (.t 68) (.t 69), none⟩, ⟨(some 71), .mv (.t 70), none⟩, ⟨(some 72), .mv (.t 10), (some (71, true))⟩, ⟨(some 73), .bin .eql (.t 72) (.k (.lf (.int .i64 1))), (some (71, true))⟩, ⟨(some 74), .pk (.t 71) (.t 73) (.k (.lf (.bool false))), none⟩, ⟨(some 2), .as 0 0 (.t 74), none⟩] [2]) .ret
abbrev c8_22 : AC := .seq (.ops 0 [⟨(some 61), .mv (.t 0), none⟩, ⟨(some 62), .mv (.t 3), none⟩, ⟨(some 63), .bin .add (.t 62) (.k (.lf (.int .i64 1))), none⟩, ⟨(some 64), .call 20 [(.t 61), (.t 63)], none⟩, ⟨(some 60), .mv (.t 64), none⟩, ⟨(some 65), .ext (.t 60) 0, none⟩, ⟨(some 66), .ext (.t 60) 1, none⟩, ⟨(some 9), .as 0 0 (.t 65), none⟩, ⟨(some 10), .as 0 0 (.t 66), none⟩] [0, 5, 10]) c8_21
abbrev c8_23 : AC := .seq c8_20 c8_22
abbrev c8_24 : AC := .seq (.ops 0 [⟨(some 38), .bs 5 1 0 [.int .u8 0] [], none⟩, ⟨(some 5), .as 5 1 (.t 38), none⟩] [0, 3, 5]) c8_23
abbrev c8_25 : AC := .seq c8_4 c8_24
abbrev c8_26 : AC := .seq (.ops 0 [⟨(some 17), .mv (.t 0), none⟩, ⟨(some 18), .call 18 [(.t 17)], none⟩, ⟨(some 16), .mv (.t 18), none⟩, ⟨(some 19), .ext (.t 16) 0, none⟩, ⟨(some 20), .ext (.t 16) 1, none⟩, ⟨(some 3), .as 0 0 (.t 19), none⟩, ⟨(some 4), .as 0 0 (.t 20), none⟩] [0, 3, 4]) c8_25
abbrev c8_27 : AC := .seq c8_1 c8_26
abbrev c8_28 : AC := .seq (.ops 0 [⟨(some 2), .as 0 0 (.k (.lf (.bool false))), none⟩] [0]) c8_27
abbrev c8 : AC := c8_28
theorem c8_ok : compileFn Try.prog 8 = some (75, AC.strip c8, [.t 2]) := by kernel_rfl
/-- harrow/harrowlaw02.QuotePlaces -/
abbrev c9_0 : AC := .seq (.ops 0 [⟨(some 50), .call 15 [], none⟩, ⟨(some 51), .mv (.t 50), none⟩, ⟨(some 52), .mv (.t 4), (some (51, true))⟩, ⟨(some 53), .mv (.t 7), (some (51, true))⟩, ⟨(some 54), .bin .eql (.t 52) (.t 53), (some (51, true))⟩, ⟨(some 55), .pk (.t 51) (.t 54) (.k (.lf (.bool false))), none⟩, ⟨(some 56), .mv (.t 55), none⟩, ⟨(some 57), .mv (.t 5), (some (56, true))⟩, ⟨(some 58), .mv (.t 8), (some (56, true))⟩, ⟨(some 59), .bin .eql (.t 57) (.t 58), (some (56, true))⟩, ⟨(some 60), .pk (.t 56) (.t 59) (.k (.lf (.bool false))), none⟩, ⟨(some 61), .mv (.t 60), none⟩, ⟨(some 62), .mv (.t 6), (some (61, true))⟩, ⟨(some 63), .mv (.t 9), (some (61, true))⟩, ⟨(some 64), .bin .eql (.t 62) (.t 63), (some (61, true))⟩, ⟨(some 65), .pk (.t 61) (.t 64) (.k (.lf (.bool false))), none⟩, ⟨(some 66), .mv (.t 65), none⟩, ⟨(some 67), .mv (.t 10), (some (66, true))⟩, ⟨(some 68), .mv (.t 12), (some (66, true))⟩, ⟨(some 69), .bin .eql (.t 67) (.t 68), (some (66, true))⟩, ⟨(some 70), .pk (.t 66) (.t 69) (.k (.lf (.bool false))), none⟩, ⟨(some 71), .mv (.t 70), none⟩, ⟨(some 72), .mv (.t 11), (some (71, true))⟩, ⟨(some 73), .mv (.t 13), (some (71, true))⟩, ⟨(some 74), .bin .eql (.t 72) (.t 73), (some (71, true))⟩, ⟨(some 75), .pk (.t 71) (.t 74) (.k (.lf (.bool false))), none⟩, ⟨(some 2), .as 0 0 (.t 75), none⟩] [2]) .ret
abbrev c9_1 : AC := .seq (.ops 0 [⟨(some 42), .mv (.t 3), none⟩, ⟨(some 43), .fa (.t 1) 2, none⟩, ⟨(some 44), .ld (.t 43) 1 false, none⟩, ⟨(some 45), .fa (.t 1) 3, none⟩, ⟨(some 46), .ld (.t 45) 1 false, none⟩, ⟨(some 47), .call 25 [(.t 42), (.t 44), (.t 46)], none⟩, ⟨(some 41), .mv (.t 47), none⟩, ⟨(some 48), .ext (.t 41) 0, none⟩, ⟨(some 49), .ext (.t 41) 1, none⟩, ⟨(some 12), .as 0 0 (.t 48), none⟩, ⟨(some 13), .as 0 0 (.t 49), none⟩] [4, 5, 6, 7, 8, 9, 10, 11, 12, 13]) c9_0
abbrev c9_2 : AC := .seq (.ops 0 [⟨(some 33), .mv (.t 3), none⟩, ⟨(some 34), .fa (.t 1) 2, none⟩, ⟨(some 35), .ld (.t 34) 1 false, none⟩, ⟨(some 36), .fa (.t 1) 3, none⟩, ⟨(some 37), .ld (.t 36) 1 false, none⟩, ⟨(some 38), .call 24 [(.t 33), (.t 35), (.t 37)], none⟩, ⟨(some 32), .mv (.t 38), none⟩, ⟨(some 39), .ext (.t 32) 0, none⟩, ⟨(some 40), .ext (.t 32) 1, none⟩, ⟨(some 10), .as 0 0 (.t 39), none⟩, ⟨(some 11), .as 0 0 (.t 40), none⟩] [1, 3, 4, 5, 6, 7, 8, 9, 10, 11]) c9_1
abbrev c9_3 : AC := .seq (.ops 0 [⟨(some 25), .mv (.t 3), none⟩, ⟨(some 26), .fa (.t 1) 1, none⟩, ⟨(some 27), .ld (.t 26) 1 false, none⟩, ⟨(some 28), .call 23 [(.t 25), (.t 27)], none⟩, ⟨(some 24), .mv (.t 28), none⟩, ⟨(some 29), .ext (.t 24) 0, none⟩, ⟨(some 30), .ext (.t 24) 1, none⟩, ⟨(some 31), .ext (.t 24) 2, none⟩, ⟨(some 7), .as 0 0 (.t 29), none⟩, ⟨(some 8), .as 0 0 (.t 30), none⟩, ⟨(some 9), .as 0 0 (.t 31), none⟩] [1, 3, 4, 5, 6, 7, 8, 9]) c9_2
abbrev c9_4 : AC := .seq (.ops 0 [⟨(some 17), .mv (.t 3), none⟩, ⟨(some 18), .fa (.t 1) 1, none⟩, ⟨(some 19), .ld (.t 18) 1 false, none⟩, ⟨(some 20), .call 22 [(.t 17), (.t 19)], none⟩, ⟨(some 16), .mv (.t 20), none⟩, ⟨(some 21), .ext (.t 16) 0, none⟩, ⟨(some 22), .ext (.t 16) 1, none⟩, ⟨(some 23), .ext (.t 16) 2, none⟩, ⟨(some 4), .as 0 0 (.t 21), none⟩, ⟨(some 5), .as 0 0 (.t 22), none⟩, ⟨(some 6), .as 0 0 (.t 23), none⟩] [1, 3, 4, 5, 6]) c9_3
abbrev c9_5 : AC := .seq (.ops 0 [⟨(some 14), .fa (.t 1) 0, none⟩, ⟨(some 15), .ld (.t 14) 1 false, none⟩, ⟨(some 3), .as 0 0 (.t 15), none⟩] [1, 3]) c9_4
abbrev c9_6 : AC := .seq (.ops 0 [⟨(some 1), .bx (.t 0), none⟩, ⟨(some 2), .as 0 0 (.k (.lf (.bool false))), none⟩] [1]) c9_5
abbrev c9 : AC := c9_6
theorem c9_ok : compileFn Try.prog 9 = some (76, AC.strip c9, [.t 2]) := by kernel_rfl
/-- harrow/harrowlaw02.QuoteHome -/
abbrev c10_0 : AC := .seq (.ops 0 [⟨(some 22), .call 15 [], none⟩, ⟨(some 23), .mv (.t 22), none⟩, ⟨(some 24), .mv (.t 5), (some (23, true))⟩, ⟨(some 25), .bin .eql (.t 24) (.k (.lf (.int .i64 0))), (some (23, true))⟩, ⟨(some 26), .pk (.t 23) (.t 25) (.k (.lf (.bool false))), none⟩, ⟨(some 27), .mv (.t 26), none⟩, ⟨(some 28), .mv (.t 6), (some (27, true))⟩, ⟨(some 29), .bin .eql (.t 28) (.k (.lf (.int .i64 0))), (some (27, true))⟩, ⟨(some 30), .pk (.t 27) (.t 29) (.k (.lf (.bool false))), none⟩, ⟨(some 31), .mv (.t 30), none⟩, ⟨(some 32), .mv (.t 0), (some (31, true))⟩, ⟨(some 33), .lns (.t 32), (some (31, true))⟩, ⟨(some 34), .bin .gtr (.t 33) (.k (.lf (.int .i64 65536))), (some (31, true))⟩, ⟨(some 35), .mv (.t 34), (some (31, true))⟩, ⟨(some 36), .mv (.t 1), (some (35, false))⟩, ⟨(some 37), .bin .lss (.t 36) (.k (.lf (.int .i64 0))), (some (35, false))⟩, ⟨(some 38), .pk (.t 35) (.k (.lf (.bool true))) (.t 37), (some (31, true))⟩, ⟨(some 39), .mv (.t 38), (some (31, true))⟩, ⟨(some 40), .mv (.t 1), (some (39, false))⟩, ⟨(some 41), .mv (.t 0), (some (39, false))⟩, ⟨(some 42), .lns (.t 41), (some (39, false))⟩, ⟨(some 43), .bin .gtr (.t 40) (.t 42), (some (39, false))⟩, ⟨(some 44), .pk (.t 39) (.k (.lf (.bool true))) (.t 43), (some (31, true))⟩, ⟨(some 45), .pk (.t 31) (.t 44) (.k (.lf (.bool false))), none⟩, ⟨(some 4), .as 0 0 (.t 45), none⟩] [4]) .ret
abbrev c10_1 : AC := .cond (.t 21) c10_0 .skip
abbrev c10_2 : AC := .seq (.ops 0 [⟨(some 20), .mv (.t 7), none⟩, ⟨(some 21), .bin .neq (.t 20) (.k (.lf (.int .i64 0))), none⟩] [0, 1, 5, 6, 21]) c10_1
abbrev c10_3 : AC := .seq (.ops 0 [⟨(some 4), .as 0 0 (.k (.lf (.bool false))), none⟩] [4]) .ret
abbrev c10_4 : AC := .cond (.t 65) c10_3 .skip
abbrev c10_5 : AC := .seq (.ops 0 [⟨(some 53), .mv (.t 9), none⟩, ⟨(some 54), .bin .neq (.t 53) (.k (.lf (.int .i64 0))), none⟩, ⟨(some 55), .mv (.t 54), none⟩, ⟨(some 56), .mv (.t 8), (some (55, false))⟩, ⟨(some 57), .mv (.t 1), (some (55, false))⟩, ⟨(some 58), .bin .gtr (.t 56) (.t 57), (some (55, false))⟩, ⟨(some 59), .pk (.t 55) (.k (.lf (.bool true))) (.t 58), none⟩, ⟨(some 60), .mv (.t 59), none⟩, ⟨(some 61), .mv (.t 1), (some (60, false))⟩, ⟨(some 62), .mv (.t 8), (some (60, false))⟩, ⟨(some 63), .bin .sub (.t 61) (.t 62), (some (60, false))⟩, ⟨(some 64), .bin .gtr (.t 63) (.k (.lf (.int .i64 3))), (some (60, false))⟩, ⟨(some 65), .pk (.t 60) (.k (.lf (.bool true))) (.t 64), none⟩] [0, 5, 6, 8, 65]) c10_4
abbrev c10_6 : AC := .seq (.ops 0 [⟨(some 73), .call 15 [], none⟩, ⟨(some 74), .mv (.t 73), none⟩, ⟨(some 75), .mv (.t 12), (some (74, true))⟩, ⟨(some 76), .bin .eql (.t 75) (.k (.lf (.int .i64 0))), (some (74, true))⟩, ⟨(some 77), .pk (.t 74) (.t 76) (.k (.lf (.bool false))), none⟩, ⟨(some 78), .mv (.t 77), none⟩, ⟨(some 79), .mv (.t 10), (some (78, true))⟩, ⟨(some 80), .mv (.t 5), (some (78, true))⟩, ⟨(some 81), .bin .eql (.t 79) (.t 80), (some (78, true))⟩, ⟨(some 82), .pk (.t 78) (.t 81) (.k (.lf (.bool false))), none⟩, ⟨(some 83), .mv (.t 82), none⟩, ⟨(some 84), .mv (.t 11), (some (83, true))⟩, ⟨(some 85), .mv (.t 6), (some (83, true))⟩, ⟨(some 86), .bin .eql (.t 84) (.t 85), (some (83, true))⟩, ⟨(some 87), .pk (.t 83) (.t 86) (.k (.lf (.bool false))), none⟩, ⟨(some 4), .as 0 0 (.t 87), none⟩] [4]) .ret
abbrev c10_7 : AC := .seq (.ops 0 [⟨(some 67), .mv (.t 0), none⟩, ⟨(some 68), .mv (.t 8), none⟩, ⟨(some 69), .call 22 [(.t 67), (.t 68)], none⟩, ⟨(some 66), .mv (.t 69), none⟩, ⟨(some 70), .ext (.t 66) 0, none⟩, ⟨(some 71), .ext (.t 66) 1, none⟩, ⟨(some 72), .ext (.t 66) 2, none⟩, ⟨(some 10), .as 0 0 (.t 70), none⟩, ⟨(some 11), .as 0 0 (.t 71), none⟩, ⟨(some 12), .as 0 0 (.t 72), none⟩] [5, 6, 10, 11, 12]) c10_6
abbrev c10_8 : AC := .seq c10_5 c10_7
abbrev c10_9 : AC := .seq (.ops 0 [⟨(some 47), .mv (.t 0), none⟩, ⟨(some 48), .mv (.t 5), none⟩, ⟨(some 49), .mv (.t 6), none⟩, ⟨(some 50), .call 24 [(.t 47), (.t 48), (.t 49)], none⟩, ⟨(some 46), .mv (.t 50), none⟩, ⟨(some 51), .ext (.t 46) 0, none⟩, ⟨(some 52), .ext (.t 46) 1, none⟩, ⟨(some 8), .as 0 0 (.t 51), none⟩, ⟨(some 9), .as 0 0 (.t 52), none⟩] [0, 1, 5, 6, 8, 9]) c10_8
abbrev c10_10 : AC := .seq c10_2 c10_9
abbrev c10_11 : AC := .seq (.ops 0 [⟨(some 14), .mv (.t 0), none⟩, ⟨(some 15), .mv (.t 1), none⟩, ⟨(some 16), .call 22 [(.t 14), (.t 15)], none⟩, ⟨(some 13), .mv (.t 16), none⟩, ⟨(some 17), .ext (.t 13) 0, none⟩, ⟨(some 18), .ext (.t 13) 1, none⟩, ⟨(some 19), .ext (.t 13) 2, none⟩, ⟨(some 5), .as 0 0 (.t 17), none⟩, ⟨(some 6), .as 0 0 (.t 18), none⟩, ⟨(some 7), .as 0 0 (.t 19), none⟩] [0, 1, 5, 6, 7]) c10_10
abbrev c10_12 : AC := .seq (.ops 0 [⟨(some 4), .as 0 0 (.k (.lf (.bool false))), none⟩] [0, 1]) c10_11
abbrev c10 : AC := c10_12
theorem c10_ok : compileFn Try.prog 10 = some (88, AC.strip c10, [.t 4]) := by kernel_rfl
/-- harrow/quote.Lines -/
abbrev c18_0 : AC := .seq (.ops 0 [⟨(some 2), .as 0 0 (.k (.lf (.int .i64 0))), none⟩, ⟨(some 3), .as 0 0 (.k (.lf (.int .i64 2))), none⟩] [2, 3]) .ret
abbrev c18_1 : AC := .cond (.t 6) c18_0 .skip
abbrev c18_2 : AC := .seq (.ops 0 [⟨(some 4), .mv (.t 0), none⟩, ⟨(some 5), .lns (.t 4), none⟩, ⟨(some 6), .bin .gtr (.t 5) (.k (.lf (.int .i64 65536))), none⟩] [0, 6]) c18_1
abbrev c18_3 : AC := .seq (.ops 0 [⟨(some 7), .mv (.t 0), none⟩, ⟨(some 8), .call 33 [(.t 7), (.k (.lf (.str ⟨#[10]⟩)))], none⟩, ⟨(some 9), .bin .add (.t 8) (.k (.lf (.int .i64 1))), none⟩, ⟨(some 2), .as 0 0 (.t 9), none⟩, ⟨(some 3), .as 0 0 (.k (.lf (.int .i64 0))), none⟩] [2, 3]) .ret
abbrev c18_4 : AC := .seq c18_2 c18_3
abbrev c18_5 : AC := .seq (.ops 0 [⟨(some 2), .as 0 0 (.k (.lf (.int .i64 0))), none⟩, ⟨(some 3), .as 0 0 (.k (.lf (.int .i64 0))), none⟩] [0]) c18_4
abbrev c18 : AC := c18_5
theorem c18_ok : compileFn Try.prog 18 = some (10, AC.strip c18, [.t 2, .t 3]) := by kernel_rfl
/-- harrow/harrowref02.Lines -/
abbrev c19_0 : AC := .seq (.ops 0 [⟨(some 2), .as 0 0 (.k (.lf (.int .i64 0))), none⟩, ⟨(some 3), .as 0 0 (.k (.lf (.int .i64 2))), none⟩] [2, 3]) .ret
abbrev c19_1 : AC := .cond (.t 8) c19_0 .skip
abbrev c19_2 : AC := .seq (.ops 0 [⟨(some 6), .mv (.t 0), none⟩, ⟨(some 7), .lns (.t 6), none⟩, ⟨(some 8), .bin .gtr (.t 7) (.k (.lf (.int .i64 65536))), none⟩] [0, 8]) c19_1
abbrev c19_3 : AC := .cond (.t 12) .skip (.exit 0)
abbrev c19_4 : AC := .seq (.ops 0 [⟨(some 9), .mv (.t 5), none⟩, ⟨(some 10), .mv (.t 0), none⟩, ⟨(some 11), .lns (.t 10), none⟩, ⟨(some 12), .bin .lss (.t 9) (.t 11), none⟩] [0, 4, 5, 12]) c19_3
abbrev c19_5 : AC := .cond (.t 18) (.ops 0 [⟨(some 19), .mv (.t 4), none⟩, ⟨(some 20), .bin .add (.t 19) (.k (.lf (.int .i64 1))), none⟩, ⟨(some 4), .as 0 0 (.t 20), none⟩] [0, 4, 5]) .skip
abbrev c19_6 : AC := .seq (.ops 0 [⟨(some 15), .mv (.t 0), none⟩, ⟨(some 16), .mv (.t 5), none⟩, ⟨(some 17), .ixs (.t 15) (.t 16), none⟩, ⟨(some 18), .bin .eql (.t 17) (.k (.lf (.int .u8 10))), none⟩] [0, 4, 5, 18]) c19_5
abbrev c19_7 : AC := .block 1 c19_6
abbrev c19_8 : AC := .seq c19_7 (.ops 0 [⟨(some 13), .mv (.t 5), none⟩, ⟨(some 14), .bin .add (.t 13) (.k (.lf (.int .i64 1))), none⟩, ⟨(some 5), .as 0 0 (.t 14), none⟩] [0, 4, 5])
abbrev c19_9 : AC := .seq c19_4 c19_8
abbrev c19_10 : AC := .loop c19_9 [0, 4, 5]
abbrev c19_11 : AC := .block 0 c19_10
abbrev c19_12 : AC := .seq (.ops 0 [⟨(some 5), .as 0 0 (.k (.lf (.int .i64 0))), none⟩] [0, 4, 5]) c19_11
abbrev c19_13 : AC := .seq (.ops 0 [⟨(some 21), .mv (.t 4), none⟩, ⟨(some 2), .as 0 0 (.t 21), none⟩, ⟨(some 3), .as 0 0 (.k (.lf (.int .i64 0))), none⟩] [2, 3]) .ret
abbrev c19_14 : AC := .seq c19_12 c19_13
abbrev c19_15 : AC := .seq (.ops 0 [⟨(some 4), .as 0 0 (.k (.lf (.int .i64 1))), none⟩] [0, 4]) c19_14
abbrev c19_16 : AC := .seq c19_2 c19_15
abbrev c19_17 : AC := .seq (.ops 0 [⟨(some 2), .as 0 0 (.k (.lf (.int .i64 0))), none⟩, ⟨(some 3), .as 0 0 (.k (.lf (.int .i64 0))), none⟩] [0]) c19_16
abbrev c19 : AC := c19_17
theorem c19_ok : compileFn Try.prog 19 = some (22, AC.strip c19, [.t 2, .t 3]) := by kernel_rfl
/-- harrow/quote.Line -/
abbrev c20_0 : AC := .seq (.ops 0 [⟨(some 4), .as 0 0 (.k (.lf (.str ⟨#[]⟩))), none⟩, ⟨(some 5), .as 0 0 (.k (.lf (.int .i64 2))), none⟩] [4, 5]) .ret
abbrev c20_1 : AC := .cond (.t 10) c20_0 .skip
abbrev c20_2 : AC := .seq (.ops 0 [⟨(some 8), .mv (.t 0), none⟩, ⟨(some 9), .lns (.t 8), none⟩, ⟨(some 10), .bin .gtr (.t 9) (.k (.lf (.int .i64 65536))), none⟩] [0, 1, 10]) c20_1
abbrev c20_3 : AC := .seq (.ops 0 [⟨(some 4), .as 0 0 (.k (.lf (.str ⟨#[]⟩))), none⟩, ⟨(some 5), .as 0 0 (.k (.lf (.int .i64 1))), none⟩] [4, 5]) .ret
abbrev c20_4 : AC := .cond (.t 18) c20_3 .skip
abbrev c20_5 : AC := .seq (.ops 0 [⟨(some 17), .mv (.t 7), none⟩, ⟨(some 18), .un .not (.t 17), none⟩] [0, 6, 18]) c20_4
abbrev c20_6 : AC := .seq (.ops 0 [⟨(some 19), .mv (.t 0), none⟩, ⟨(some 20), .mv (.t 6), none⟩, ⟨(some 21), .call 35 [(.t 19), (.t 20)], none⟩, ⟨(some 4), .as 0 0 (.t 21), none⟩, ⟨(some 5), .as 0 0 (.k (.lf (.int .i64 0))), none⟩] [4, 5]) .ret
abbrev c20_7 : AC := .seq c20_5 c20_6
abbrev c20_8 : AC := .seq (.ops 0 [⟨(some 12), .mv (.t 0), none⟩, ⟨(some 13), .mv (.t 1), none⟩, ⟨(some 14), .call 34 [(.t 12), (.t 13)], none⟩, ⟨(some 11), .mv (.t 14), none⟩, ⟨(some 15), .ext (.t 11) 0, none⟩, ⟨(some 16), .ext (.t 11) 1, none⟩, ⟨(some 6), .as 0 0 (.t 15), none⟩, ⟨(some 7), .as 0 0 (.t 16), none⟩] [0, 6, 7]) c20_7
abbrev c20_9 : AC := .seq c20_2 c20_8
abbrev c20_10 : AC := .seq (.ops 0 [⟨(some 4), .as 0 0 (.k (.lf (.str ⟨#[]⟩))), none⟩, ⟨(some 5), .as 0 0 (.k (.lf (.int .i64 0))), none⟩] [0, 1]) c20_9
abbrev c20 : AC := c20_10
theorem c20_ok : compileFn Try.prog 20 = some (22, AC.strip c20, [.t 4, .t 5]) := by kernel_rfl
/-- harrow/harrowref02.Line -/
abbrev c21_0 : AC := .seq (.ops 0 [⟨(some 4), .as 0 0 (.k (.lf (.str ⟨#[]⟩))), none⟩, ⟨(some 5), .as 0 0 (.k (.lf (.int .i64 2))), none⟩] [4, 5]) .ret
abbrev c21_1 : AC := .cond (.t 11) c21_0 .skip
abbrev c21_2 : AC := .seq (.ops 0 [⟨(some 9), .mv (.t 0), none⟩, ⟨(some 10), .lns (.t 9), none⟩, ⟨(some 11), .bin .gtr (.t 10) (.k (.lf (.int .i64 65536))), none⟩] [0, 1, 11]) c21_1
abbrev c21_3 : AC := .seq (.ops 0 [⟨(some 4), .as 0 0 (.k (.lf (.str ⟨#[]⟩))), none⟩, ⟨(some 5), .as 0 0 (.k (.lf (.int .i64 1))), none⟩] [4, 5]) .ret
abbrev c21_4 : AC := .cond (.t 20) c21_3 .skip
abbrev c21_5 : AC := .seq (.ops 0 [⟨(some 19), .mv (.t 8), none⟩, ⟨(some 20), .un .not (.t 19), none⟩] [0, 6, 7, 20]) c21_4
abbrev c21_6 : AC := .seq (.ops 0 [⟨(some 21), .mv (.t 0), none⟩, ⟨(some 22), .mv (.t 6), none⟩, ⟨(some 23), .mv (.t 7), none⟩, ⟨(some 24), .sls (.t 21) (some (.t 22)) (some (.t 23)), none⟩, ⟨(some 4), .as 0 0 (.t 24), none⟩, ⟨(some 5), .as 0 0 (.k (.lf (.int .i64 0))), none⟩] [4, 5]) .ret
abbrev c21_7 : AC := .seq c21_5 c21_6
abbrev c21_8 : AC := .seq (.ops 0 [⟨(some 13), .mv (.t 0), none⟩, ⟨(some 14), .mv (.t 1), none⟩, ⟨(some 15), .call 36 [(.t 13), (.t 14)], none⟩, ⟨(some 12), .mv (.t 15), none⟩, ⟨(some 16), .ext (.t 12) 0, none⟩, ⟨(some 17), .ext (.t 12) 1, none⟩, ⟨(some 18), .ext (.t 12) 2, none⟩, ⟨(some 6), .as 0 0 (.t 16), none⟩, ⟨(some 7), .as 0 0 (.t 17), none⟩, ⟨(some 8), .as 0 0 (.t 18), none⟩] [0, 6, 7, 8]) c21_7
abbrev c21_9 : AC := .seq c21_2 c21_8
abbrev c21_10 : AC := .seq (.ops 0 [⟨(some 4), .as 0 0 (.k (.lf (.str ⟨#[]⟩))), none⟩, ⟨(some 5), .as 0 0 (.k (.lf (.int .i64 0))), none⟩] [0, 1]) c21_9
abbrev c21 : AC := c21_10
theorem c21_ok : compileFn Try.prog 21 = some (25, AC.strip c21, [.t 4, .t 5]) := by kernel_rfl
/-- harrow/quote.Place -/
abbrev c22_0 : AC := .seq (.ops 0 [⟨(some 4), .as 0 0 (.k (.lf (.int .i64 0))), none⟩, ⟨(some 5), .as 0 0 (.k (.lf (.int .i64 0))), none⟩, ⟨(some 6), .as 0 0 (.k (.lf (.int .i64 2))), none⟩] [4, 5, 6]) .ret
abbrev c22_1 : AC := .cond (.t 10) c22_0 .skip
abbrev c22_2 : AC := .seq (.ops 0 [⟨(some 8), .mv (.t 0), none⟩, ⟨(some 9), .lns (.t 8), none⟩, ⟨(some 10), .bin .gtr (.t 9) (.k (.lf (.int .i64 65536))), none⟩] [0, 1, 10]) c22_1
abbrev c22_3 : AC := .seq (.ops 0 [⟨(some 4), .as 0 0 (.k (.lf (.int .i64 0))), none⟩, ⟨(some 5), .as 0 0 (.k (.lf (.int .i64 0))), none⟩, ⟨(some 6), .as 0 0 (.k (.lf (.int .i64 1))), none⟩] [4, 5, 6]) .ret
abbrev c22_4 : AC := .cond (.t 18) c22_3 .skip
abbrev c22_5 : AC := .seq (.ops 0 [⟨(some 11), .mv (.t 1), none⟩, ⟨(some 12), .bin .lss (.t 11) (.k (.lf (.int .i64 0))), none⟩, ⟨(some 13), .mv (.t 12), none⟩, ⟨(some 14), .mv (.t 1), (some (13, false))⟩, ⟨(some 15), .mv (.t 0), (some (13, false))⟩, ⟨(some 16), .lns (.t 15), (some (13, false))⟩, ⟨(some 17), .bin .gtr (.t 14) (.t 16), (some (13, false))⟩, ⟨(some 18), .pk (.t 13) (.k (.lf (.bool true))) (.t 17), none⟩] [0, 1, 18]) c22_4
abbrev c22_6 : AC := .seq (.ops 0 [⟨(some 29), .mv (.t 4), none⟩, ⟨(some 30), .mv (.t 0), none⟩, ⟨(some 31), .mv (.t 7), none⟩, ⟨(some 32), .call 35 [(.t 30), (.t 31)], none⟩, ⟨(some 33), .mv (.t 1), none⟩, ⟨(some 34), .mv (.t 7), none⟩, ⟨(some 35), .bin .sub (.t 33) (.t 34), none⟩, ⟨(some 36), .call 38 [(.t 32), (.t 35)], none⟩, ⟨(some 4), .as 0 0 (.t 29), none⟩, ⟨(some 5), .as 0 0 (.t 36), none⟩, ⟨(some 6), .as 0 0 (.k (.lf (.int .i64 0))), none⟩] [4, 5, 6]) .ret
abbrev c22_7 : AC := .seq (.ops 0 [⟨(some 24), .mv (.t 0), none⟩, ⟨(some 25), .mv (.t 7), none⟩, ⟨(some 26), .sls (.t 24) none (some (.t 25)), none⟩, ⟨(some 27), .call 33 [(.t 26), (.k (.lf (.str ⟨#[10]⟩)))], none⟩, ⟨(some 28), .bin .add (.t 27) (.k (.lf (.int .i64 1))), none⟩, ⟨(some 4), .as 0 0 (.t 28), none⟩] [0, 1, 4, 7]) c22_6
abbrev c22_8 : AC := .seq (.ops 0 [⟨(some 19), .mv (.t 0), none⟩, ⟨(some 20), .mv (.t 1), none⟩, ⟨(some 21), .sls (.t 19) none (some (.t 20)), none⟩, ⟨(some 22), .call 37 [(.t 21), (.k (.lf (.int .u8 10)))], none⟩, ⟨(some 23), .bin .add (.t 22) (.k (.lf (.int .i64 1))), none⟩, ⟨(some 7), .as 0 0 (.t 23), none⟩] [0, 1, 7]) c22_7
abbrev c22_9 : AC := .seq c22_5 c22_8
abbrev c22_10 : AC := .seq c22_2 c22_9
abbrev c22_11 : AC := .seq (.ops 0 [⟨(some 4), .as 0 0 (.k (.lf (.int .i64 0))), none⟩, ⟨(some 5), .as 0 0 (.k (.lf (.int .i64 0))), none⟩, ⟨(some 6), .as 0 0 (.k (.lf (.int .i64 0))), none⟩] [0, 1]) c22_10
abbrev c22 : AC := c22_11
theorem c22_ok : compileFn Try.prog 22 = some (37, AC.strip c22, [.t 4, .t 5, .t 6]) := by kernel_rfl
/-- harrow/harrowref02.Place -/
abbrev c23_0 : AC := .seq (.ops 0 [⟨(some 4), .as 0 0 (.k (.lf (.int .i64 0))), none⟩, ⟨(some 5), .as 0 0 (.k (.lf (.int .i64 0))), none⟩, ⟨(some 6), .as 0 0 (.k (.lf (.int .i64 2))), none⟩] [4, 5, 6]) .ret
abbrev c23_1 : AC := .cond (.t 16) c23_0 .skip
abbrev c23_2 : AC := .seq (.ops 0 [⟨(some 14), .mv (.t 0), none⟩, ⟨(some 15), .lns (.t 14), none⟩, ⟨(some 16), .bin .gtr (.t 15) (.k (.lf (.int .i64 65536))), none⟩] [0, 1, 16]) c23_1
abbrev c23_3 : AC := .seq (.ops 0 [⟨(some 4), .as 0 0 (.k (.lf (.int .i64 0))), none⟩, ⟨(some 5), .as 0 0 (.k (.lf (.int .i64 0))), none⟩, ⟨(some 6), .as 0 0 (.k (.lf (.int .i64 1))), none⟩] [4, 5, 6]) .ret
abbrev c23_4 : AC := .cond (.t 24) c23_3 .skip
abbrev c23_5 : AC := .seq (.ops 0 [⟨(some 17), .mv (.t 1), none⟩, ⟨(some 18), .bin .lss (.t 17) (.k (.lf (.int .i64 0))), none⟩, ⟨(some 19), .mv (.t 18), none⟩, ⟨(some 20), .mv (.t 1), (some (19, false))⟩, ⟨(some 21), .mv (.t 0), (some (19, false))⟩, ⟨(some 22), .lns (.t 21), (some (19, false))⟩, ⟨(some 23), .bin .gtr (.t 20) (.t 22), (some (19, false))⟩, ⟨(some 24), .pk (.t 19) (.k (.lf (.bool true))) (.t 23), none⟩] [0, 1, 24]) c23_4
abbrev c23_6 : AC := .cond (.t 27) .skip (.exit 0)
abbrev c23_7 : AC := .seq (.ops 0 [⟨(some 25), .mv (.t 8), none⟩, ⟨(some 26), .mv (.t 1), none⟩, ⟨(some 27), .bin .lss (.t 25) (.t 26), none⟩] [0, 1, 7, 8, 27]) c23_6
abbrev c23_8 : AC := .cond (.t 33) (.ops 0 [⟨(some 34), .mv (.t 7), none⟩, ⟨(some 35), .bin .add (.t 34) (.k (.lf (.int .i64 1))), none⟩, ⟨(some 7), .as 0 0 (.t 35), none⟩] [0, 1, 7, 8]) .skip
abbrev c23_9 : AC := .seq (.ops 0 [⟨(some 30), .mv (.t 0), none⟩, ⟨(some 31), .mv (.t 8), none⟩, ⟨(some 32), .ixs (.t 30) (.t 31), none⟩, ⟨(some 33), .bin .eql (.t 32) (.k (.lf (.int .u8 10))), none⟩] [0, 1, 7, 8, 33]) c23_8
abbrev c23_10 : AC := .block 1 c23_9
abbrev c23_11 : AC := .seq c23_10 (.ops 0 [⟨(some 28), .mv (.t 8), none⟩, ⟨(some 29), .bin .add (.t 28) (.k (.lf (.int .i64 1))), none⟩, ⟨(some 8), .as 0 0 (.t 29), none⟩] [0, 1, 7, 8])
abbrev c23_12 : AC := .seq c23_7 c23_11
abbrev c23_13 : AC := .loop c23_12 [0, 1, 7, 8]
abbrev c23_14 : AC := .block 0 c23_13
abbrev c23_15 : AC := .seq (.ops 0 [⟨(some 8), .as 0 0 (.k (.lf (.int .i64 0))), none⟩] [0, 1, 7, 8]) c23_14
abbrev c23_16 : AC := .cond (.t 46) .skip (.exit 2)
abbrev c23_17 : AC := .seq (.ops 0 [⟨(some 44), .mv (.t 13), none⟩, ⟨(some 45), .mv (.t 10), none⟩, ⟨(some 46), .bin .lss (.t 44) (.t 45), none⟩] [0, 1, 7, 10, 12, 13, 46]) c23_16
abbrev c23_18 : AC := .cond (.t 56) (.ops 0 [⟨(some 57), .mv (.t 12), none⟩, ⟨(some 58), .bin .add (.t 57) (.k (.lf (.int .i64 1))), none⟩, ⟨(some 12), .as 0 0 (.t 58), none⟩] [0, 1, 7, 10, 12, 13]) .skip
abbrev c23_19 : AC := .seq (.ops 0 [⟨(some 54), .mv (.t 13), none⟩, ⟨(some 55), .mv (.t 1), none⟩, ⟨(some 56), .bin .leq (.t 54) (.t 55), none⟩] [0, 1, 7, 10, 12, 13, 56]) c23_18
abbrev c23_20 : AC := .seq (.ops 0 [⟨(some 47), .mv (.t 13), none⟩, ⟨(some 48), .mv (.t 0), none⟩, ⟨(some 49), .mv (.t 10), none⟩, ⟨(some 50), .sls (.t 48) none (some (.t 49)), none⟩, ⟨(some 51), .mv (.t 13), none⟩, ⟨(some 52), .call 39 [(.t 50), (.t 51)], none⟩, ⟨(some 53), .bin .add (.t 47) (.t 52), none⟩, ⟨(some 13), .as 0 0 (.t 53), none⟩] [0, 1, 7, 10, 12, 13]) c23_19
abbrev c23_21 : AC := .block 3 c23_20
abbrev c23_22 : AC := .seq c23_17 c23_21
abbrev c23_23 : AC := .loop c23_22 [0, 1, 7, 10, 12, 13]
abbrev c23_24 : AC := .block 2 c23_23
abbrev c23_25 : AC := .seq (.ops 0 [⟨(some 43), .mv (.t 9), none⟩, ⟨(some 13), .as 0 0 (.t 43), none⟩] [0, 1, 7, 10, 12, 13]) c23_24
abbrev c23_26 : AC := .seq (.ops 0 [⟨(some 59), .mv (.t 7), none⟩, ⟨(some 60), .mv (.t 12), none⟩, ⟨(some 4), .as 0 0 (.t 59), none⟩, ⟨(some 5), .as 0 0 (.t 60), none⟩, ⟨(some 6), .as 0 0 (.k (.lf (.int .i64 0))), none⟩] [4, 5, 6]) .ret
abbrev c23_27 : AC := .seq c23_25 c23_26
abbrev c23_28 : AC := .seq (.ops 0 [⟨(some 12), .as 0 0 (.k (.lf (.int .i64 1))), none⟩] [0, 1, 7, 9, 10, 12]) c23_27
abbrev c23_29 : AC := .seq (.ops 0 [⟨(some 37), .mv (.t 0), none⟩, ⟨(some 38), .mv (.t 7), none⟩, ⟨(some 39), .call 36 [(.t 37), (.t 38)], none⟩, ⟨(some 36), .mv (.t 39), none⟩, ⟨(some 40), .ext (.t 36) 0, none⟩, ⟨(some 41), .ext (.t 36) 1, none⟩, ⟨(some 42), .ext (.t 36) 2, none⟩, ⟨(some 9), .as 0 0 (.t 40), none⟩, ⟨(some 10), .as 0 0 (.t 41), none⟩, ⟨(some 11), .as 0 0 (.t 42), none⟩] [0, 1, 7, 9, 10]) c23_28
abbrev c23_30 : AC := .seq c23_15 c23_29
abbrev c23_31 : AC := .seq (.ops 0 [⟨(some 7), .as 0 0 (.k (.lf (.int .i64 1))), none⟩] [0, 1, 7]) c23_30
abbrev c23_32 : AC := .seq c23_5 c23_31
abbrev c23_33 : AC := .seq c23_2 c23_32
abbrev c23_34 : AC := .seq (.ops 0 [⟨(some 4), .as 0 0 (.k (.lf (.int .i64 0))), none⟩, ⟨(some 5), .as 0 0 (.k (.lf (.int .i64 0))), none⟩, ⟨(some 6), .as 0 0 (.k (.lf (.int .i64 0))), none⟩] [0, 1]) c23_33
abbrev c23 : AC := c23_34
theorem c23_ok : compileFn Try.prog 23 = some (61, AC.strip c23, [.t 4, .t 5, .t 6]) := by kernel_rfl
/-- harrow/quote.At -/
abbrev c24_0 : AC := .seq (.ops 0 [⟨(some 6), .as 0 0 (.k (.lf (.int .i64 0))), none⟩, ⟨(some 7), .as 0 0 (.k (.lf (.int .i64 2))), none⟩] [6, 7]) .ret
abbrev c24_1 : AC := .cond (.t 14) c24_0 .skip
abbrev c24_2 : AC := .seq (.ops 0 [⟨(some 12), .mv (.t 0), none⟩, ⟨(some 13), .lns (.t 12), none⟩, ⟨(some 14), .bin .gtr (.t 13) (.k (.lf (.int .i64 65536))), none⟩] [0, 1, 2, 14]) c24_1
abbrev c24_3 : AC := .seq (.ops 0 [⟨(some 6), .as 0 0 (.k (.lf (.int .i64 0))), none⟩, ⟨(some 7), .as 0 0 (.k (.lf (.int .i64 1))), none⟩] [6, 7]) .ret
abbrev c24_4 : AC := .cond (.t 26) c24_3 .skip
abbrev c24_5 : AC := .seq (.ops 0 [⟨(some 21), .mv (.t 9), none⟩, ⟨(some 22), .un .not (.t 21), none⟩, ⟨(some 23), .mv (.t 22), none⟩, ⟨(some 24), .mv (.t 2), (some (23, false))⟩, ⟨(some 25), .bin .lss (.t 24) (.k (.lf (.int .i64 1))), (some (23, false))⟩, ⟨(some 26), .pk (.t 23) (.k (.lf (.bool true))) (.t 25), none⟩] [0, 2, 8, 26]) c24_4
abbrev c24_6 : AC := .seq (.ops 0 [⟨(some 38), .mv (.t 8), none⟩, ⟨(some 39), .mv (.t 10), none⟩, ⟨(some 40), .lns (.t 39), none⟩, ⟨(some 41), .bin .add (.t 38) (.t 40), none⟩, ⟨(some 6), .as 0 0 (.t 41), none⟩, ⟨(some 7), .as 0 0 (.k (.lf (.int .i64 0))), none⟩] [6, 7]) .ret
abbrev c24_7 : AC := .seq (.ops 0 [⟨(some 6), .as 0 0 (.k (.lf (.int .i64 0))), none⟩, ⟨(some 7), .as 0 0 (.k (.lf (.int .i64 1))), none⟩] [6, 7]) .ret
abbrev c24_8 : AC := .cond (.t 42) c24_7 .skip
abbrev c24_9 : AC := .seq (.ops 0 [⟨(some 43), .mv (.t 2), none⟩, ⟨(some 44), .mv (.t 11), none⟩, ⟨(some 45), .len (.t 44), none⟩, ⟨(some 46), .bin .gtr (.t 43) (.t 45), none⟩, ⟨(some 42), .as 0 0 (.t 46), none⟩] [2, 8, 11, 42]) c24_8
abbrev c24_10 : AC := .cond (.t 32) c24_6 c24_9
abbrev c24_11 : AC := .seq (.ops 0 [⟨(some 33), .mv (.t 2), none⟩, ⟨(some 34), .mv (.t 11), none⟩, ⟨(some 35), .len (.t 34), none⟩, ⟨(some 36), .bin .add (.t 35) (.k (.lf (.int .i64 1))), none⟩, ⟨(some 37), .bin .eql (.t 33) (.t 36), none⟩, ⟨(some 32), .as 0 0 (.t 37), none⟩] [2, 8, 10, 11, 32]) c24_10
abbrev c24_12 : AC := .block 0 c24_11
abbrev c24_13 : AC := .seq (.ops 0 [⟨(some 47), .mv (.t 8), none⟩, ⟨(some 48), .mv (.t 11), none⟩, ⟨(some 49), .mv (.t 2), none⟩, ⟨(some 50), .bin .sub (.t 49) (.k (.lf (.int .i64 1))), none⟩, ⟨(some 51), .ia (.t 48) (.t 50) 2, none⟩, ⟨(some 52), .fa (.t 51) 1, none⟩, ⟨(some 53), .ld (.t 52) 1 false, none⟩, ⟨(some 54), .bin .add (.t 47) (.t 53), none⟩, ⟨(some 6), .as 0 0 (.t 54), none⟩, ⟨(some 7), .as 0 0 (.k (.lf (.int .i64 0))), none⟩] [6, 7]) .ret
abbrev c24_14 : AC := .seq c24_12 c24_13
abbrev c24_15 : AC := .seq (.ops 0 [⟨(some 30), .mv (.t 10), none⟩, ⟨(some 31), .call 40 [(.t 30)], none⟩, ⟨(some 11), .as 67 2 (.t 31), none⟩] [2, 8, 10, 11]) c24_14
abbrev c24_16 : AC := .seq (.ops 0 [⟨(some 27), .mv (.t 0), none⟩, ⟨(some 28), .mv (.t 8), none⟩, ⟨(some 29), .call 35 [(.t 27), (.t 28)], none⟩, ⟨(some 10), .as 0 0 (.t 29), none⟩] [2, 8, 10]) c24_15
abbrev c24_17 : AC := .seq c24_5 c24_16
abbrev c24_18 : AC := .seq (.ops 0 [⟨(some 16), .mv (.t 0), none⟩, ⟨(some 17), .mv (.t 1), none⟩, ⟨(some 18), .call 34 [(.t 16), (.t 17)], none⟩, ⟨(some 15), .mv (.t 18), none⟩, ⟨(some 19), .ext (.t 15) 0, none⟩, ⟨(some 20), .ext (.t 15) 1, none⟩, ⟨(some 8), .as 0 0 (.t 19), none⟩, ⟨(some 9), .as 0 0 (.t 20), none⟩] [0, 2, 8, 9]) c24_17
abbrev c24_19 : AC := .seq c24_2 c24_18
abbrev c24_20 : AC := .seq (.ops 0 [⟨(some 6), .as 0 0 (.k (.lf (.int .i64 0))), none⟩, ⟨(some 7), .as 0 0 (.k (.lf (.int .i64 0))), none⟩] [0, 1, 2]) c24_19
abbrev c24 : AC := c24_20
theorem c24_ok : compileFn Try.prog 24 = some (55, AC.strip c24, [.t 6, .t 7]) := by kernel_rfl
/-- harrow/harrowref02.At -/
abbrev c25_0 : AC := .seq (.ops 0 [⟨(some 6), .as 0 0 (.k (.lf (.int .i64 0))), none⟩, ⟨(some 7), .as 0 0 (.k (.lf (.int .i64 2))), none⟩] [6, 7]) .ret
abbrev c25_1 : AC := .cond (.t 15) c25_0 .skip
abbrev c25_2 : AC := .seq (.ops 0 [⟨(some 13), .mv (.t 0), none⟩, ⟨(some 14), .lns (.t 13), none⟩, ⟨(some 15), .bin .gtr (.t 14) (.k (.lf (.int .i64 65536))), none⟩] [0, 1, 2, 15]) c25_1
abbrev c25_3 : AC := .seq (.ops 0 [⟨(some 6), .as 0 0 (.k (.lf (.int .i64 0))), none⟩, ⟨(some 7), .as 0 0 (.k (.lf (.int .i64 1))), none⟩] [6, 7]) .ret
abbrev c25_4 : AC := .cond (.t 28) c25_3 .skip
abbrev c25_5 : AC := .seq (.ops 0 [⟨(some 23), .mv (.t 10), none⟩, ⟨(some 24), .un .not (.t 23), none⟩, ⟨(some 25), .mv (.t 24), none⟩, ⟨(some 26), .mv (.t 2), (some (25, false))⟩, ⟨(some 27), .bin .lss (.t 26) (.k (.lf (.int .i64 1))), (some (25, false))⟩, ⟨(some 28), .pk (.t 25) (.k (.lf (.bool true))) (.t 27), none⟩] [0, 2, 8, 9, 28]) c25_4
abbrev c25_6 : AC := .cond (.t 32) .skip (.exit 0)
abbrev c25_7 : AC := .seq (.ops 0 [⟨(some 30), .mv (.t 12), none⟩, ⟨(some 31), .mv (.t 9), none⟩, ⟨(some 32), .bin .lss (.t 30) (.t 31), none⟩] [0, 2, 9, 11, 12, 32]) c25_6
abbrev c25_8 : AC := .seq (.ops 0 [⟨(some 38), .mv (.t 12), none⟩, ⟨(some 6), .as 0 0 (.t 38), none⟩, ⟨(some 7), .as 0 0 (.k (.lf (.int .i64 0))), none⟩] [6, 7]) .ret
abbrev c25_9 : AC := .cond (.t 37) c25_8 .skip
abbrev c25_10 : AC := .seq (.ops 0 [⟨(some 35), .mv (.t 11), none⟩, ⟨(some 36), .mv (.t 2), none⟩, ⟨(some 37), .bin .eql (.t 35) (.t 36), none⟩] [0, 2, 9, 11, 12, 37]) c25_9
abbrev c25_11 : AC := .seq c25_10 (.ops 0 [⟨(some 39), .mv (.t 12), none⟩, ⟨(some 40), .mv (.t 0), none⟩, ⟨(some 41), .mv (.t 9), none⟩, ⟨(some 42), .sls (.t 40) none (some (.t 41)), none⟩, ⟨(some 43), .mv (.t 12), none⟩, ⟨(some 44), .call 39 [(.t 42), (.t 43)], none⟩, ⟨(some 45), .bin .add (.t 39) (.t 44), none⟩, ⟨(some 12), .as 0 0 (.t 45), none⟩] [0, 2, 9, 11, 12])
abbrev c25_12 : AC := .block 1 c25_11
abbrev c25_13 : AC := .seq c25_12 (.ops 0 [⟨(some 33), .mv (.t 11), none⟩, ⟨(some 34), .bin .add (.t 33) (.k (.lf (.int .i64 1))), none⟩, ⟨(some 11), .as 0 0 (.t 34), none⟩] [0, 2, 9, 11, 12])
abbrev c25_14 : AC := .seq c25_7 c25_13
abbrev c25_15 : AC := .loop c25_14 [0, 2, 9, 11, 12]
abbrev c25_16 : AC := .block 0 c25_15
abbrev c25_17 : AC := .seq (.ops 0 [⟨(some 29), .mv (.t 8), none⟩, ⟨(some 12), .as 0 0 (.t 29), none⟩] [0, 2, 9, 11, 12]) c25_16
abbrev c25_18 : AC := .seq (.ops 0 [⟨(some 6), .as 0 0 (.k (.lf (.int .i64 0))), none⟩, ⟨(some 7), .as 0 0 (.k (.lf (.int .i64 1))), none⟩] [6, 7]) .ret
abbrev c25_19 : AC := .cond (.t 48) c25_18 .skip
abbrev c25_20 : AC := .seq (.ops 0 [⟨(some 46), .mv (.t 11), none⟩, ⟨(some 47), .mv (.t 2), none⟩, ⟨(some 48), .bin .neq (.t 46) (.t 47), none⟩] [9, 48]) c25_19
abbrev c25_21 : AC := .seq (.ops 0 [⟨(some 49), .mv (.t 9), none⟩, ⟨(some 6), .as 0 0 (.t 49), none⟩, ⟨(some 7), .as 0 0 (.k (.lf (.int .i64 0))), none⟩] [6, 7]) .ret
abbrev c25_22 : AC := .seq c25_20 c25_21
abbrev c25_23 : AC := .seq c25_17 c25_22
abbrev c25_24 : AC := .seq (.ops 0 [⟨(some 11), .as 0 0 (.k (.lf (.int .i64 1))), none⟩] [0, 2, 8, 9, 11]) c25_23
abbrev c25_25 : AC := .seq c25_5 c25_24
abbrev c25_26 : AC := .seq (.ops 0 [⟨(some 17), .mv (.t 0), none⟩, ⟨(some 18), .mv (.t 1), none⟩, ⟨(some 19), .call 36 [(.t 17), (.t 18)], none⟩, ⟨(some 16), .mv (.t 19), none⟩, ⟨(some 20), .ext (.t 16) 0, none⟩, ⟨(some 21), .ext (.t 16) 1, none⟩, ⟨(some 22), .ext (.t 16) 2, none⟩, ⟨(some 8), .as 0 0 (.t 20), none⟩, ⟨(some 9), .as 0 0 (.t 21), none⟩, ⟨(some 10), .as 0 0 (.t 22), none⟩] [0, 2, 8, 9, 10]) c25_25
abbrev c25_27 : AC := .seq c25_2 c25_26
abbrev c25_28 : AC := .seq (.ops 0 [⟨(some 6), .as 0 0 (.k (.lf (.int .i64 0))), none⟩, ⟨(some 7), .as 0 0 (.k (.lf (.int .i64 0))), none⟩] [0, 1, 2]) c25_27
abbrev c25 : AC := c25_28
theorem c25_ok : compileFn Try.prog 25 = some (50, AC.strip c25, [.t 6, .t 7]) := by kernel_rfl
/-- strings.Count -/
abbrev c33_0 : AC := .seq (.ops 0 [⟨(some 10), .mv (.t 0), none⟩, ⟨(some 11), .call 45 [(.t 10)], none⟩, ⟨(some 12), .bin .add (.t 11) (.k (.lf (.int .i64 1))), none⟩, ⟨(some 4), .as 0 0 (.t 12), none⟩] [4]) .ret
abbrev c33_1 : AC := .cond (.t 9) c33_0 .skip
abbrev c33_2 : AC := .seq (.ops 0 [⟨(some 7), .mv (.t 1), none⟩, ⟨(some 8), .lns (.t 7), none⟩, ⟨(some 9), .bin .eql (.t 8) (.k (.lf (.int .i64 0))), none⟩] [0, 1, 9]) c33_1
abbrev c33_3 : AC := .seq (.ops 0 [⟨(some 16), .mv (.t 0), none⟩, ⟨(some 17), .mv (.t 1), none⟩, ⟨(some 18), .ixs (.t 17) (.k (.lf (.int .i64 0))), none⟩, ⟨(some 19), .ex 1 [(.t 16), (.t 18)], none⟩, ⟨(some 4), .as 0 0 (.t 19), none⟩] [4]) .ret
abbrev c33_4 : AC := .cond (.t 15) c33_3 .skip
abbrev c33_5 : AC := .seq (.ops 0 [⟨(some 13), .mv (.t 1), none⟩, ⟨(some 14), .lns (.t 13), none⟩, ⟨(some 15), .bin .eql (.t 14) (.k (.lf (.int .i64 1))), none⟩] [0, 1, 15]) c33_4
abbrev c33_6 : AC := .seq (.ops 0 [⟨(some 25), .mv (.t 5), none⟩, ⟨(some 4), .as 0 0 (.t 25), none⟩] [4]) .ret
abbrev c33_7 : AC := .cond (.t 24) c33_6 .skip
abbrev c33_8 : AC := .seq (.ops 0 [⟨(some 23), .mv (.t 6), none⟩, ⟨(some 24), .bin .eql (.t 23) (.k (.lf (.int .i64 (-1)))), none⟩] [0, 1, 5, 6, 24]) c33_7
abbrev c33_9 : AC := .seq (.ops 0 [⟨(some 26), .mv (.t 5), none⟩, ⟨(some 27), .bin .add (.t 26) (.k (.lf (.int .i64 1))), none⟩, ⟨(some 5), .as 0 0 (.t 27), none⟩] [0, 1, 5, 6]) (.ops 0 [⟨(some 28), .mv (.t 0), none⟩, ⟨(some 29), .mv (.t 6), none⟩, ⟨(some 30), .mv (.t 1), none⟩, ⟨(some 31), .lns (.t 30), none⟩, ⟨(some 32), .bin .add (.t 29) (.t 31), none⟩, ⟨(some 33), .sls (.t 28) (some (.t 32)) none, none⟩, ⟨(some 0), .as 0 0 (.t 33), none⟩] [0, 1, 5])
abbrev c33_10 : AC := .seq c33_8 c33_9
abbrev c33_11 : AC := .seq (.ops 0 [⟨(some 20), .mv (.t 0), none⟩, ⟨(some 21), .mv (.t 1), none⟩, ⟨(some 22), .call 47 [(.t 20), (.t 21)], none⟩, ⟨(some 6), .as 0 0 (.t 22), none⟩] [0, 1, 5, 6]) c33_10
abbrev c33_12 : AC := .block 1 c33_11
abbrev c33_13 : AC := .loop c33_12 [0, 1, 5]
abbrev c33_14 : AC := .block 0 c33_13
abbrev c33_15 : AC := .seq (.ops 0 [⟨(some 5), .as 0 0 (.k (.lf (.int .i64 0))), none⟩] [0, 1, 5]) c33_14
abbrev c33_16 : AC := .seq c33_5 c33_15
abbrev c33_17 : AC := .seq c33_2 c33_16
abbrev c33_18 : AC := .seq (.ops 0 [⟨(some 4), .as 0 0 (.k (.lf (.int .i64 0))), none⟩] [0, 1]) c33_17
abbrev c33 : AC := c33_18
theorem c33_ok : compileFn Try.prog 33 = some (34, AC.strip c33, [.t 4]) := by kernel_rfl
/-- harrow/quote.begin -/
abbrev c34_0 : AC := .seq (.ops 0 [⟨(some 4), .as 0 0 (.k (.lf (.int .i64 0))), none⟩, ⟨(some 5), .as 0 0 (.k (.lf (.bool false))), none⟩] [4, 5]) .ret
abbrev c34_1 : AC := .cond (.t 9) c34_0 .skip
abbrev c34_2 : AC := .seq (.ops 0 [⟨(some 8), .mv (.t 1), none⟩, ⟨(some 9), .bin .lss (.t 8) (.k (.lf (.int .i64 1))), none⟩] [0, 1, 9]) c34_1
abbrev c34_3 : AC := .cond (.t 13) .skip (.exit 0)
abbrev c34_4 : AC := .seq (.ops 0 [⟨(some 4), .as 0 0 (.k (.lf (.int .i64 0))), none⟩, ⟨(some 5), .as 0 0 (.k (.lf (.bool false))), none⟩] [4, 5]) .ret
abbrev c34_5 : AC := .cond (.t 19) c34_4 .skip
abbrev c34_6 : AC := .seq (.ops 0 [⟨(some 18), .mv (.t 7), none⟩, ⟨(some 19), .bin .lss (.t 18) (.k (.lf (.int .i64 0))), none⟩] [0, 6, 7, 11, 12, 19]) c34_5
abbrev c34_7 : AC := .seq c34_6 (.ops 0 [⟨(some 20), .mv (.t 6), none⟩, ⟨(some 21), .mv (.t 7), none⟩, ⟨(some 22), .bin .add (.t 21) (.k (.lf (.int .i64 1))), none⟩, ⟨(some 23), .bin .add (.t 20) (.t 22), none⟩, ⟨(some 6), .as 0 0 (.t 23), none⟩] [0, 6, 11, 12])
abbrev c34_8 : AC := .seq (.ops 0 [⟨(some 14), .mv (.t 0), none⟩, ⟨(some 15), .mv (.t 6), none⟩, ⟨(some 16), .sls (.t 14) (some (.t 15)) none, none⟩, ⟨(some 17), .call 48 [(.t 16), (.k (.lf (.int .u8 10)))], none⟩, ⟨(some 7), .as 0 0 (.t 17), none⟩] [0, 6, 7, 11, 12]) c34_7
abbrev c34_9 : AC := .block 1 c34_8
abbrev c34_10 : AC := .seq c34_9 (.ops 0 [⟨(some 24), .bin .add (.t 12) (.k (.lf (.int .i64 1))), none⟩, ⟨(some 12), .mv (.t 24), none⟩] [0, 6, 11, 12])
abbrev c34_11 : AC := .seq c34_3 c34_10
abbrev c34_12 : AC := .seq (.ops 0 [⟨(some 13), .bin .lss (.t 12) (.t 11), none⟩] [0, 6, 11, 12, 13]) c34_11
abbrev c34_13 : AC := .loop c34_12 [0, 6, 11, 12]
abbrev c34_14 : AC := .block 0 c34_13
abbrev c34_15 : AC := .seq (.ops 0 [⟨(some 10), .mv (.t 1), none⟩, ⟨(some 11), .bin .sub (.t 10) (.k (.lf (.int .i64 1))), none⟩, ⟨(some 12), .mv (.k (.lf (.int .i64 0))), none⟩] [0, 6, 11, 12]) c34_14
abbrev c34_16 : AC := .seq (.ops 0 [⟨(some 25), .mv (.t 6), none⟩, ⟨(some 4), .as 0 0 (.t 25), none⟩, ⟨(some 5), .as 0 0 (.k (.lf (.bool true))), none⟩] [4, 5]) .ret
abbrev c34_17 : AC := .seq c34_15 c34_16
abbrev c34_18 : AC := .seq (.ops 0 [⟨(some 6), .as 0 0 (.k (.lf (.int .i64 0))), none⟩] [0, 1, 6]) c34_17
abbrev c34_19 : AC := .seq c34_2 c34_18
abbrev c34_20 : AC := .seq (.ops 0 [⟨(some 4), .as 0 0 (.k (.lf (.int .i64 0))), none⟩, ⟨(some 5), .as 0 0 (.k (.lf (.bool false))), none⟩] [0, 1]) c34_19
abbrev c34 : AC := c34_20
theorem c34_ok : compileFn Try.prog 34 = some (26, AC.strip c34, [.t 4, .t 5]) := by kernel_rfl
/-- harrow/quote.lineAt -/
abbrev c35_0 : AC := .seq (.ops 0 [⟨(some 12), .mv (.t 0), none⟩, ⟨(some 13), .mv (.t 1), none⟩, ⟨(some 14), .mv (.t 1), none⟩, ⟨(some 15), .mv (.t 5), none⟩, ⟨(some 16), .bin .add (.t 14) (.t 15), none⟩, ⟨(some 17), .sls (.t 12) (some (.t 13)) (some (.t 16)), none⟩, ⟨(some 4), .as 0 0 (.t 17), none⟩] [4]) .ret
abbrev c35_1 : AC := .cond (.t 11) c35_0 .skip
abbrev c35_2 : AC := .seq (.ops 0 [⟨(some 10), .mv (.t 5), none⟩, ⟨(some 11), .bin .geq (.t 10) (.k (.lf (.int .i64 0))), none⟩] [0, 1, 5, 11]) c35_1
abbrev c35_3 : AC := .seq (.ops 0 [⟨(some 6), .mv (.t 0), none⟩, ⟨(some 7), .mv (.t 1), none⟩, ⟨(some 8), .sls (.t 6) (some (.t 7)) none, none⟩, ⟨(some 9), .call 48 [(.t 8), (.k (.lf (.int .u8 10)))], none⟩, ⟨(some 5), .as 0 0 (.t 9), none⟩] [0, 1, 5]) c35_2
abbrev c35_4 : AC := .seq (.ops 0 [⟨(some 18), .mv (.t 0), none⟩, ⟨(some 19), .mv (.t 1), none⟩, ⟨(some 20), .sls (.t 18) (some (.t 19)) none, none⟩, ⟨(some 4), .as 0 0 (.t 20), none⟩] [4]) .ret
abbrev c35_5 : AC := .seq c35_3 c35_4
abbrev c35_6 : AC := .seq (.ops 0 [⟨(some 4), .as 0 0 (.k (.lf (.str ⟨#[]⟩))), none⟩] [0, 1]) c35_5
abbrev c35 : AC := c35_6
theorem c35_ok : compileFn Try.prog 35 = some (21, AC.strip c35, [.t 4]) := by kernel_rfl
/-- harrow/harrowref02.begins -/
abbrev c36_0 : AC := .cond (.t 13) .skip (.exit 0)
abbrev c36_1 : AC := .seq (.ops 0 [⟨(some 10), .mv (.t 9), none⟩, ⟨(some 11), .mv (.t 0), none⟩, ⟨(some 12), .lns (.t 11), none⟩, ⟨(some 13), .bin .leq (.t 10) (.t 12), none⟩] [0, 1, 7, 8, 9, 13]) c36_0
abbrev c36_2 : AC := .cond (.t 25) (.exit 1) .skip
abbrev c36_3 : AC := .seq (.ops 0 [⟨(some 16), .mv (.t 9), none⟩, ⟨(some 17), .mv (.t 0), none⟩, ⟨(some 18), .lns (.t 17), none⟩, ⟨(some 19), .bin .lss (.t 16) (.t 18), none⟩, ⟨(some 20), .mv (.t 19), none⟩, ⟨(some 21), .mv (.t 0), (some (20, true))⟩, ⟨(some 22), .mv (.t 9), (some (20, true))⟩, ⟨(some 23), .ixs (.t 21) (.t 22), (some (20, true))⟩, ⟨(some 24), .bin .neq (.t 23) (.k (.lf (.int .u8 10))), (some (20, true))⟩, ⟨(some 25), .pk (.t 20) (.t 24) (.k (.lf (.bool false))), none⟩] [0, 1, 7, 8, 9, 25]) c36_2
abbrev c36_4 : AC := .seq (.ops 0 [⟨(some 29), .mv (.t 7), none⟩, ⟨(some 30), .mv (.t 9), none⟩, ⟨(some 4), .as 0 0 (.t 29), none⟩, ⟨(some 5), .as 0 0 (.t 30), none⟩, ⟨(some 6), .as 0 0 (.k (.lf (.bool true))), none⟩] [4, 5, 6]) .ret
abbrev c36_5 : AC := .cond (.t 28) c36_4 .skip
abbrev c36_6 : AC := .seq (.ops 0 [⟨(some 26), .mv (.t 8), none⟩, ⟨(some 27), .mv (.t 1), none⟩, ⟨(some 28), .bin .eql (.t 26) (.t 27), none⟩] [0, 1, 7, 8, 9, 28]) c36_5
abbrev c36_7 : AC := .seq (.ops 0 [⟨(some 31), .mv (.t 9), none⟩, ⟨(some 32), .bin .add (.t 31) (.k (.lf (.int .i64 1))), none⟩, ⟨(some 7), .as 0 0 (.t 32), none⟩] [0, 1, 7, 8, 9]) (.ops 0 [⟨(some 33), .mv (.t 8), none⟩, ⟨(some 34), .bin .add (.t 33) (.k (.lf (.int .i64 1))), none⟩, ⟨(some 8), .as 0 0 (.t 34), none⟩] [0, 1, 7, 8, 9])
abbrev c36_8 : AC := .seq c36_6 c36_7
abbrev c36_9 : AC := .seq c36_3 c36_8
abbrev c36_10 : AC := .block 1 c36_9
abbrev c36_11 : AC := .seq c36_10 (.ops 0 [⟨(some 14), .mv (.t 9), none⟩, ⟨(some 15), .bin .add (.t 14) (.k (.lf (.int .i64 1))), none⟩, ⟨(some 9), .as 0 0 (.t 15), none⟩] [0, 1, 7, 8, 9])
abbrev c36_12 : AC := .seq c36_1 c36_11
abbrev c36_13 : AC := .loop c36_12 [0, 1, 7, 8, 9]
abbrev c36_14 : AC := .block 0 c36_13
abbrev c36_15 : AC := .seq (.ops 0 [⟨(some 9), .as 0 0 (.k (.lf (.int .i64 0))), none⟩] [0, 1, 7, 8, 9]) c36_14
abbrev c36_16 : AC := .seq (.ops 0 [⟨(some 4), .as 0 0 (.k (.lf (.int .i64 0))), none⟩, ⟨(some 5), .as 0 0 (.k (.lf (.int .i64 0))), none⟩, ⟨(some 6), .as 0 0 (.k (.lf (.bool false))), none⟩] [4, 5, 6]) .ret
abbrev c36_17 : AC := .seq c36_15 c36_16
abbrev c36_18 : AC := .seq (.ops 0 [⟨(some 7), .as 0 0 (.k (.lf (.int .i64 0))), none⟩, ⟨(some 8), .as 0 0 (.k (.lf (.int .i64 1))), none⟩] [0, 1, 7, 8]) c36_17
abbrev c36_19 : AC := .seq (.ops 0 [⟨(some 4), .as 0 0 (.k (.lf (.int .i64 0))), none⟩, ⟨(some 5), .as 0 0 (.k (.lf (.int .i64 0))), none⟩, ⟨(some 6), .as 0 0 (.k (.lf (.bool false))), none⟩] [0, 1]) c36_18
abbrev c36 : AC := c36_19
theorem c36_ok : compileFn Try.prog 36 = some (35, AC.strip c36, [.t 4, .t 5, .t 6]) := by kernel_rfl
/-- strings.LastIndexByte -/
abbrev c37_0 : AC := .seq (.ops 0 [⟨(some 5), .mv (.t 0), none⟩, ⟨(some 6), .mv (.t 1), none⟩, ⟨(some 7), .call 49 [(.t 5), (.t 6)], none⟩, ⟨(some 4), .as 0 0 (.t 7), none⟩] [4]) .ret
abbrev c37_1 : AC := .seq (.ops 0 [⟨(some 4), .as 0 0 (.k (.lf (.int .i64 0))), none⟩] [0, 1]) c37_0
abbrev c37 : AC := c37_1
theorem c37_ok : compileFn Try.prog 37 = some (8, AC.strip c37, [.t 4]) := by kernel_rfl
/-- harrow/quote.columnOf -/
abbrev c38_0 : AC := .cond (.t 10) .skip (.exit 0)
abbrev c38_1 : AC := .cond (.t 14) (.exit 0) .skip
abbrev c38_2 : AC := .seq (.ops 0 [⟨(some 12), .mv (.t 6), none⟩, ⟨(some 13), .mv (.t 1), none⟩, ⟨(some 14), .bin .gtr (.t 12) (.t 13), none⟩] [0, 1, 5, 8, 14]) c38_1
abbrev c38_3 : AC := .seq c38_2 (.ops 0 [⟨(some 15), .mv (.t 5), none⟩, ⟨(some 16), .bin .add (.t 15) (.k (.lf (.int .i64 1))), none⟩, ⟨(some 5), .as 0 0 (.t 16), none⟩] [0, 1, 5, 8])
abbrev c38_4 : AC := .seq (.ops 0 [⟨(some 11), .ext (.t 9) 1, none⟩, ⟨(some 6), .as 0 0 (.t 11), none⟩] [0, 1, 5, 6, 8]) c38_3
abbrev c38_5 : AC := .block 1 c38_4
abbrev c38_6 : AC := .seq c38_0 c38_5
abbrev c38_7 : AC := .seq (.ops 0 [⟨(some 9), .nxt (.t 8), none⟩, ⟨(some 10), .ext (.t 9) 0, none⟩] [0, 1, 5, 8, 9, 10]) c38_6
abbrev c38_8 : AC := .loop c38_7 [0, 1, 5, 8]
abbrev c38_9 : AC := .block 0 c38_8
abbrev c38_10 : AC := .seq (.ops 0 [⟨(some 7), .mv (.t 0), none⟩, ⟨(some 8), .rng (.t 7), none⟩] [0, 1, 5, 8]) c38_9
abbrev c38_11 : AC := .cond (.t 20) (.ops 0 [⟨(some 21), .mv (.t 5), none⟩, ⟨(some 22), .bin .add (.t 21) (.k (.lf (.int .i64 1))), none⟩, ⟨(some 5), .as 0 0 (.t 22), none⟩] [5]) .skip
abbrev c38_12 : AC := .seq (.ops 0 [⟨(some 17), .mv (.t 1), none⟩, ⟨(some 18), .mv (.t 0), none⟩, ⟨(some 19), .lns (.t 18), none⟩, ⟨(some 20), .bin .geq (.t 17) (.t 19), none⟩] [5, 20]) c38_11
abbrev c38_13 : AC := .seq (.ops 0 [⟨(some 23), .mv (.t 5), none⟩, ⟨(some 4), .as 0 0 (.t 23), none⟩] [4]) .ret
abbrev c38_14 : AC := .seq c38_12 c38_13
abbrev c38_15 : AC := .seq c38_10 c38_14
abbrev c38_16 : AC := .seq (.ops 0 [⟨(some 5), .as 0 0 (.k (.lf (.int .i64 0))), none⟩] [0, 1, 5]) c38_15
abbrev c38_17 : AC := .seq (.ops 0 [⟨(some 4), .as 0 0 (.k (.lf (.int .i64 0))), none⟩] [0, 1]) c38_16
abbrev c38 : AC := c38_17
theorem c38_ok : compileFn Try.prog 38 = some (24, AC.strip c38, [.t 4]) := by kernel_rfl
/-- harrow/harrowref02.length -/
abbrev c39_0 : AC := .seq (.ops 0 [⟨(some 4), .as 0 0 (.k (.lf (.int .i64 2))), none⟩] [4]) .ret
abbrev c39_1 : AC := .seq (.ops 0 [⟨(some 4), .as 0 0 (.k (.lf (.int .i64 3))), none⟩] [4]) .ret
abbrev c39_2 : AC := .seq (.ops 0 [⟨(some 4), .as 0 0 (.k (.lf (.int .i64 4))), none⟩] [4]) .ret
abbrev c39_3 : AC := .cond (.t 63) c39_2 .skip
abbrev c39_4 : AC := .seq (.ops 0 [⟨(some 64), .mv (.t 5), none⟩, ⟨(some 65), .bin .geq (.t 64) (.k (.lf (.int .u8 240))), none⟩, ⟨(some 66), .mv (.t 65), none⟩, ⟨(some 67), .mv (.t 5), (some (66, true))⟩, ⟨(some 68), .bin .leq (.t 67) (.k (.lf (.int .u8 244))), (some (66, true))⟩, ⟨(some 69), .pk (.t 66) (.t 68) (.k (.lf (.bool false))), none⟩, ⟨(some 70), .mv (.t 69), none⟩, ⟨(some 71), .mv (.t 0), (some (70, true))⟩, ⟨(some 72), .mv (.t 1), (some (70, true))⟩, ⟨(some 73), .bin .add (.t 72) (.k (.lf (.int .i64 1))), (some (70, true))⟩, ⟨(some 74), .call 50 [(.t 71), (.t 73)], (some (70, true))⟩, ⟨(some 75), .pk (.t 70) (.t 74) (.k (.lf (.bool false))), none⟩, ⟨(some 76), .mv (.t 75), none⟩, ⟨(some 77), .mv (.t 0), (some (76, true))⟩, ⟨(some 78), .mv (.t 1), (some (76, true))⟩, ⟨(some 79), .bin .add (.t 78) (.k (.lf (.int .i64 2))), (some (76, true))⟩, ⟨(some 80), .call 50 [(.t 77), (.t 79)], (some (76, true))⟩, ⟨(some 81), .pk (.t 76) (.t 80) (.k (.lf (.bool false))), none⟩, ⟨(some 82), .mv (.t 81), none⟩, ⟨(some 83), .mv (.t 0), (some (82, true))⟩, ⟨(some 84), .mv (.t 1), (some (82, true))⟩, ⟨(some 85), .bin .add (.t 84) (.k (.lf (.int .i64 3))), (some (82, true))⟩, ⟨(some 86), .call 50 [(.t 83), (.t 85)], (some (82, true))⟩, ⟨(some 87), .pk (.t 82) (.t 86) (.k (.lf (.bool false))), none⟩, ⟨(some 88), .mv (.t 87), none⟩, ⟨(some 89), .mv (.t 5), (some (88, true))⟩, ⟨(some 90), .bin .neq (.t 89) (.k (.lf (.int .u8 240))), (some (88, true))⟩, ⟨(some 91), .mv (.t 90), (some (88, true))⟩, ⟨(some 92), .mv (.t 0), (some (91, false))⟩, ⟨(some 93), .mv (.t 1), (some (91, false))⟩, ⟨(some 94), .bin .add (.t 93) (.k (.lf (.int .i64 1))), (some (91, false))⟩, ⟨(some 95), .ixs (.t 92) (.t 94), (some (91, false))⟩, ⟨(some 96), .bin .geq (.t 95) (.k (.lf (.int .u8 144))), (some (91, false))⟩, ⟨(some 97), .pk (.t 91) (.k (.lf (.bool true))) (.t 96), (some (88, true))⟩, ⟨(some 98), .pk (.t 88) (.t 97) (.k (.lf (.bool false))), none⟩, ⟨(some 99), .mv (.t 98), none⟩, ⟨(some 100), .mv (.t 5), (some (99, true))⟩, ⟨(some 101), .bin .neq (.t 100) (.k (.lf (.int .u8 244))), (some (99, true))⟩, ⟨(some 102), .mv (.t 101), (some (99, true))⟩, ⟨(some 103), .mv (.t 0), (some (102, false))⟩, ⟨(some 104), .mv (.t 1), (some (102, false))⟩, ⟨(some 105), .bin .add (.t 104) (.k (.lf (.int .i64 1))), (some (102, false))⟩, ⟨(some 106), .ixs (.t 103) (.t 105), (some (102, false))⟩, ⟨(some 107), .bin .lss (.t 106) (.k (.lf (.int .u8 144))), (some (102, false))⟩, ⟨(some 108), .pk (.t 102) (.k (.lf (.bool true))) (.t 107), (some (99, true))⟩, ⟨(some 109), .pk (.t 99) (.t 108) (.k (.lf (.bool false))), none⟩, ⟨(some 63), .as 0 0 (.t 109), none⟩] [63]) c39_3
abbrev c39_5 : AC := .cond (.t 22) c39_1 c39_4
abbrev c39_6 : AC := .seq (.ops 0 [⟨(some 23), .mv (.t 5), none⟩, ⟨(some 24), .bin .geq (.t 23) (.k (.lf (.int .u8 224))), none⟩, ⟨(some 25), .mv (.t 24), none⟩, ⟨(some 26), .mv (.t 5), (some (25, true))⟩, ⟨(some 27), .bin .leq (.t 26) (.k (.lf (.int .u8 239))), (some (25, true))⟩, ⟨(some 28), .pk (.t 25) (.t 27) (.k (.lf (.bool false))), none⟩, ⟨(some 29), .mv (.t 28), none⟩, ⟨(some 30), .mv (.t 0), (some (29, true))⟩, ⟨(some 31), .mv (.t 1), (some (29, true))⟩, ⟨(some 32), .bin .add (.t 31) (.k (.lf (.int .i64 1))), (some (29, true))⟩, ⟨(some 33), .call 50 [(.t 30), (.t 32)], (some (29, true))⟩, ⟨(some 34), .pk (.t 29) (.t 33) (.k (.lf (.bool false))), none⟩, ⟨(some 35), .mv (.t 34), none⟩, ⟨(some 36), .mv (.t 0), (some (35, true))⟩, ⟨(some 37), .mv (.t 1), (some (35, true))⟩, ⟨(some 38), .bin .add (.t 37) (.k (.lf (.int .i64 2))), (some (35, true))⟩, ⟨(some 39), .call 50 [(.t 36), (.t 38)], (some (35, true))⟩, ⟨(some 40), .pk (.t 35) (.t 39) (.k (.lf (.bool false))), none⟩, ⟨(some 41), .mv (.t 40), none⟩, ⟨(some 42), .mv (.t 5), (some (41, true))⟩, ⟨(some 43), .bin .neq (.t 42) (.k (.lf (.int .u8 224))), (some (41, true))⟩, ⟨(some 44), .mv (.t 43), (some (41, true))⟩, ⟨(some 45), .mv (.t 0), (some (44, false))⟩, ⟨(some 46), .mv (.t 1), (some (44, false))⟩, ⟨(some 47), .bin .add (.t 46) (.k (.lf (.int .i64 1))), (some (44, false))⟩, ⟨(some 48), .ixs (.t 45) (.t 47), (some (44, false))⟩, ⟨(some 49), .bin .geq (.t 48) (.k (.lf (.int .u8 160))), (some (44, false))⟩, ⟨(some 50), .pk (.t 44) (.k (.lf (.bool true))) (.t 49), (some (41, true))⟩, ⟨(some 51), .pk (.t 41) (.t 50) (.k (.lf (.bool false))), none⟩, ⟨(some 52), .mv (.t 51), none⟩, ⟨(some 53), .mv (.t 5), (some (52, true))⟩, ⟨(some 54), .bin .neq (.t 53) (.k (.lf (.int .u8 237))), (some (52, true))⟩, ⟨(some 55), .mv (.t 54), (some (52, true))⟩, ⟨(some 56), .mv (.t 0), (some (55, false))⟩, ⟨(some 57), .mv (.t 1), (some (55, false))⟩, ⟨(some 58), .bin .add (.t 57) (.k (.lf (.int .i64 1))), (some (55, false))⟩, ⟨(some 59), .ixs (.t 56) (.t 58), (some (55, false))⟩, ⟨(some 60), .bin .lss (.t 59) (.k (.lf (.int .u8 160))), (some (55, false))⟩, ⟨(some 61), .pk (.t 55) (.k (.lf (.bool true))) (.t 60), (some (52, true))⟩, ⟨(some 62), .pk (.t 52) (.t 61) (.k (.lf (.bool false))), none⟩, ⟨(some 22), .as 0 0 (.t 62), none⟩] [0, 1, 5, 22]) c39_5
abbrev c39_7 : AC := .cond (.t 9) c39_0 c39_6
abbrev c39_8 : AC := .seq (.ops 0 [⟨(some 10), .mv (.t 5), none⟩, ⟨(some 11), .bin .geq (.t 10) (.k (.lf (.int .u8 194))), none⟩, ⟨(some 12), .mv (.t 11), none⟩, ⟨(some 13), .mv (.t 5), (some (12, true))⟩, ⟨(some 14), .bin .leq (.t 13) (.k (.lf (.int .u8 223))), (some (12, true))⟩, ⟨(some 15), .pk (.t 12) (.t 14) (.k (.lf (.bool false))), none⟩, ⟨(some 16), .mv (.t 15), none⟩, ⟨(some 17), .mv (.t 0), (some (16, true))⟩, ⟨(some 18), .mv (.t 1), (some (16, true))⟩, ⟨(some 19), .bin .add (.t 18) (.k (.lf (.int .i64 1))), (some (16, true))⟩, ⟨(some 20), .call 50 [(.t 17), (.t 19)], (some (16, true))⟩, ⟨(some 21), .pk (.t 16) (.t 20) (.k (.lf (.bool false))), none⟩, ⟨(some 9), .as 0 0 (.t 21), none⟩] [0, 1, 5, 9]) c39_7
abbrev c39_9 : AC := .block 0 c39_8
abbrev c39_10 : AC := .seq (.ops 0 [⟨(some 4), .as 0 0 (.k (.lf (.int .i64 1))), none⟩] [4]) .ret
abbrev c39_11 : AC := .seq c39_9 c39_10
abbrev c39_12 : AC := .seq (.ops 0 [⟨(some 6), .mv (.t 0), none⟩, ⟨(some 7), .mv (.t 1), none⟩, ⟨(some 8), .ixs (.t 6) (.t 7), none⟩, ⟨(some 5), .as 0 0 (.t 8), none⟩] [0, 1, 5]) c39_11
abbrev c39_13 : AC := .seq (.ops 0 [⟨(some 4), .as 0 0 (.k (.lf (.int .i64 0))), none⟩] [0, 1]) c39_12
abbrev c39 : AC := c39_13
theorem c39_ok : compileFn Try.prog 39 = some (110, AC.strip c39, [.t 4]) := by kernel_rfl
/-- harrow/quote.characters -/
abbrev c40_0 : AC := .cond (.t 9) .skip (.exit 0)
abbrev c40_1 : AC := .seq (.ops 0 [⟨(some 10), .ext (.t 8) 1, none⟩, ⟨(some 11), .ext (.t 8) 2, none⟩, ⟨(some 4), .as 0 0 (.t 10), none⟩, ⟨(some 5), .as 0 0 (.t 11), none⟩] [3, 4, 5, 7]) (.ops 0 [⟨(some 12), .mv (.t 3), none⟩, ⟨(some 13), .mv (.t 5), none⟩, ⟨(some 14), .mv (.t 4), none⟩, ⟨(some 15), .bd [.int .i32 0, .int .i64 0] [(0, 1, (.t 13)), (1, 1, (.t 14))], none⟩, ⟨(some 16), .bs 67 2 1 [.int .i32 0, .int .i64 0] [(0, (.t 15))], none⟩, ⟨(some 17), .app 67 2 16 (.t 12) (.t 16), none⟩, ⟨(some 3), .as 67 2 (.t 17), none⟩] [3, 7])
abbrev c40_2 : AC := .block 1 c40_1
abbrev c40_3 : AC := .seq c40_0 c40_2
abbrev c40_4 : AC := .seq (.ops 0 [⟨(some 8), .nxt (.t 7), none⟩, ⟨(some 9), .ext (.t 8) 0, none⟩] [3, 7, 8, 9]) c40_3
abbrev c40_5 : AC := .loop c40_4 [3, 7]
abbrev c40_6 : AC := .block 0 c40_5
abbrev c40_7 : AC := .seq (.ops 0 [⟨(some 6), .mv (.t 0), none⟩, ⟨(some 7), .rng (.t 6), none⟩] [3, 7]) c40_6
abbrev c40_8 : AC := .seq (.ops 0 [⟨(some 18), .mv (.t 3), none⟩, ⟨(some 2), .as 67 2 (.t 18), none⟩] [2]) .ret
abbrev c40_9 : AC := .seq c40_7 c40_8
abbrev c40_10 : AC := .seq (.ops 0 [⟨(some 3), .as 67 2 (.k (.lf (.lst .nl 2 [] []))), none⟩] [0, 3]) c40_9
abbrev c40_11 : AC := .seq (.ops 0 [⟨(some 2), .as 67 2 (.k (.lf (.lst .nl 2 [] []))), none⟩] [0]) c40_10
abbrev c40 : AC := c40_11
theorem c40_ok : compileFn Try.prog 40 = some (19, AC.strip c40, [.t 2]) := by kernel_rfl
/-- unicode/utf8.RuneCountInString -/
abbrev c45_0 : AC := .cond (.t 6) .skip (.exit 0)
abbrev c45_1 : AC := .block 1 (.ops 0 [⟨(some 7), .mv (.t 2), none⟩, ⟨(some 8), .bin .add (.t 7) (.k (.lf (.int .i64 1))), none⟩, ⟨(some 2), .as 0 0 (.t 8), none⟩] [2, 4])
abbrev c45_2 : AC := .seq c45_0 c45_1
abbrev c45_3 : AC := .seq (.ops 0 [⟨(some 5), .nxt (.t 4), none⟩, ⟨(some 6), .ext (.t 5) 0, none⟩] [2, 4, 6]) c45_2
abbrev c45_4 : AC := .loop c45_3 [2, 4]
abbrev c45_5 : AC := .block 0 c45_4
abbrev c45_6 : AC := .seq (.ops 0 [⟨(some 3), .mv (.t 0), none⟩, ⟨(some 4), .rng (.t 3), none⟩] [2, 4]) c45_5
abbrev c45_7 : AC := .seq (.ops 0 [⟨(some 9), .mv (.t 2), none⟩, ⟨(some 2), .as 0 0 (.t 9), none⟩] [2]) .ret
abbrev c45_8 : AC := .seq c45_6 c45_7
abbrev c45_9 : AC := .seq (.ops 0 [⟨(some 2), .as 0 0 (.k (.lf (.int .i64 0))), none⟩] [0, 2]) c45_8
abbrev c45 : AC := c45_9
theorem c45_ok : compileFn Try.prog 45 = some (10, AC.strip c45, [.t 2]) := by kernel_rfl
/-- strings.Index -/
abbrev c47_0 : AC := .seq (.ops 0 [⟨(some 5), .mv (.t 0), none⟩, ⟨(some 6), .mv (.t 1), none⟩, ⟨(some 7), .call 52 [(.t 5), (.t 6)], none⟩, ⟨(some 4), .as 0 0 (.t 7), none⟩] [4]) .ret
abbrev c47_1 : AC := .seq (.ops 0 [⟨(some 4), .as 0 0 (.k (.lf (.int .i64 0))), none⟩] [0, 1]) c47_0
abbrev c47 : AC := c47_1
theorem c47_ok : compileFn Try.prog 47 = some (8, AC.strip c47, [.t 4]) := by kernel_rfl
/-- strings.IndexByte -/
abbrev c48_0 : AC := .seq (.ops 0 [⟨(some 5), .mv (.t 0), none⟩, ⟨(some 6), .mv (.t 1), none⟩, ⟨(some 7), .call 53 [(.t 5), (.t 6)], none⟩, ⟨(some 4), .as 0 0 (.t 7), none⟩] [4]) .ret
abbrev c48_1 : AC := .seq (.ops 0 [⟨(some 4), .as 0 0 (.k (.lf (.int .i64 0))), none⟩] [0, 1]) c48_0
abbrev c48 : AC := c48_1
theorem c48_ok : compileFn Try.prog 48 = some (8, AC.strip c48, [.t 4]) := by kernel_rfl
/-- internal/bytealg.LastIndexByteString -/
abbrev c49_0 : AC := .cond (.t 10) .skip (.exit 0)
abbrev c49_1 : AC := .seq (.ops 0 [⟨(some 9), .mv (.t 5), none⟩, ⟨(some 10), .bin .geq (.t 9) (.k (.lf (.int .i64 0))), none⟩] [0, 1, 5, 10]) c49_0
abbrev c49_2 : AC := .seq (.ops 0 [⟨(some 18), .mv (.t 5), none⟩, ⟨(some 4), .as 0 0 (.t 18), none⟩] [4]) .ret
abbrev c49_3 : AC := .cond (.t 17) c49_2 .skip
abbrev c49_4 : AC := .seq (.ops 0 [⟨(some 13), .mv (.t 0), none⟩, ⟨(some 14), .mv (.t 5), none⟩, ⟨(some 15), .ixs (.t 13) (.t 14), none⟩, ⟨(some 16), .mv (.t 1), none⟩, ⟨(some 17), .bin .eql (.t 15) (.t 16), none⟩] [0, 1, 5, 17]) c49_3
abbrev c49_5 : AC := .block 1 c49_4
abbrev c49_6 : AC := .seq c49_5 (.ops 0 [⟨(some 11), .mv (.t 5), none⟩, ⟨(some 12), .bin .sub (.t 11) (.k (.lf (.int .i64 1))), none⟩, ⟨(some 5), .as 0 0 (.t 12), none⟩] [0, 1, 5])
abbrev c49_7 : AC := .seq c49_1 c49_6
abbrev c49_8 : AC := .loop c49_7 [0, 1, 5]
abbrev c49_9 : AC := .block 0 c49_8
abbrev c49_10 : AC := .seq (.ops 0 [⟨(some 6), .mv (.t 0), none⟩, ⟨(some 7), .lns (.t 6), none⟩, ⟨(some 8), .bin .sub (.t 7) (.k (.lf (.int .i64 1))), none⟩, ⟨(some 5), .as 0 0 (.t 8), none⟩] [0, 1, 5]) c49_9
abbrev c49_11 : AC := .seq (.ops 0 [⟨(some 4), .as 0 0 (.k (.lf (.int .i64 (-1)))), none⟩] [4]) .ret
abbrev c49_12 : AC := .seq c49_10 c49_11
abbrev c49_13 : AC := .seq (.ops 0 [⟨(some 4), .as 0 0 (.k (.lf (.int .i64 0))), none⟩] [0, 1]) c49_12
abbrev c49 : AC := c49_13
theorem c49_ok : compileFn Try.prog 49 = some (19, AC.strip c49, [.t 4]) := by kernel_rfl
/-- harrow/harrowref02.tail -/
abbrev c50_0 : AC := .seq (.ops 0 [⟨(some 5), .mv (.t 1), none⟩, ⟨(some 6), .mv (.t 0), none⟩, ⟨(some 7), .lns (.t 6), none⟩, ⟨(some 8), .bin .lss (.t 5) (.t 7), none⟩, ⟨(some 9), .mv (.t 8), none⟩, ⟨(some 10), .mv (.t 0), (some (9, true))⟩, ⟨(some 11), .mv (.t 1), (some (9, true))⟩, ⟨(some 12), .ixs (.t 10) (.t 11), (some (9, true))⟩, ⟨(some 13), .bin .geq (.t 12) (.k (.lf (.int .u8 128))), (some (9, true))⟩, ⟨(some 14), .pk (.t 9) (.t 13) (.k (.lf (.bool false))), none⟩, ⟨(some 15), .mv (.t 14), none⟩, ⟨(some 16), .mv (.t 0), (some (15, true))⟩, ⟨(some 17), .mv (.t 1), (some (15, true))⟩, ⟨(some 18), .ixs (.t 16) (.t 17), (some (15, true))⟩, ⟨(some 19), .bin .lss (.t 18) (.k (.lf (.int .u8 192))), (some (15, true))⟩, ⟨(some 20), .pk (.t 15) (.t 19) (.k (.lf (.bool false))), none⟩, ⟨(some 4), .as 0 0 (.t 20), none⟩] [4]) .ret
abbrev c50_1 : AC := .seq (.ops 0 [⟨(some 4), .as 0 0 (.k (.lf (.bool false))), none⟩] [0, 1]) c50_0
abbrev c50 : AC := c50_1
theorem c50_ok : compileFn Try.prog 50 = some (21, AC.strip c50, [.t 4]) := by kernel_rfl
/-- internal/stringslite.IndexByte -/
abbrev c53_0 : AC := .seq (.ops 0 [⟨(some 5), .mv (.t 0), none⟩, ⟨(some 6), .mv (.t 1), none⟩, ⟨(some 7), .ex 2 [(.t 5), (.t 6)], none⟩, ⟨(some 4), .as 0 0 (.t 7), none⟩] [4]) .ret
abbrev c53_1 : AC := .seq (.ops 0 [⟨(some 4), .as 0 0 (.k (.lf (.int .i64 0))), none⟩] [0, 1]) c53_0
abbrev c53 : AC := c53_1
theorem c53_ok : compileFn Try.prog 53 = some (8, AC.strip c53, [.t 4]) := by kernel_rfl
end Go.Proofs.Ytomlkmnklonbpaa.Q
