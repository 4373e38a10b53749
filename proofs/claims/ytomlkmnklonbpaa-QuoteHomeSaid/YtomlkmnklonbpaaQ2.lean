/- Contracts, part Q2. -/
import Derived.Test.YtomlkmnklonbpaaProg
import Derived.Test.YtomlkmnklonbpaaAmLeaf2
set_option maxRecDepth 100000
namespace Go.Proofs.Ytomlkmnklonbpaa.Q
open Go Go.Proofs.Ytomlkmnklonbpaa.AM
/-- harrow/harrowlaw02.QuoteWrites -/
abbrev c5_0 : AC := .seq (.ops 0 [⟨(some 17), .call 15 [], none⟩, ⟨(some 18), .mv (.t 17), none⟩, ⟨(some 19), .mv (.t 3), (some (18, true))⟩, ⟨(some 20), .mv (.t 5), (some (18, true))⟩, ⟨(some 21), .bin .eql (.t 19) (.t 20), (some (18, true))⟩, ⟨(some 22), .pk (.t 18) (.t 21) (.k (.lf (.bool false))), none⟩, ⟨(some 23), .mv (.t 22), none⟩, ⟨(some 24), .mv (.t 4), (some (23, true))⟩, ⟨(some 25), .mv (.t 6), (some (23, true))⟩, ⟨(some 26), .bin .eql (.t 24) (.t 25), (some (23, true))⟩, ⟨(some 27), .pk (.t 23) (.t 26) (.k (.lf (.bool false))), none⟩, ⟨(some 2), .as 0 0 (.t 27), none⟩] [2]) .ret
abbrev c5_1 : AC := .seq (.ops 0 [⟨(some 13), .mv (.t 0), none⟩, ⟨(some 14), .call 17 [(.t 13)], none⟩, ⟨(some 12), .mv (.t 14), none⟩, ⟨(some 15), .ext (.t 12) 0, none⟩, ⟨(some 16), .ext (.t 12) 1, none⟩, ⟨(some 5), .as 0 0 (.t 15), none⟩, ⟨(some 6), .as 0 0 (.t 16), none⟩] [3, 4, 5, 6]) c5_0
abbrev c5_2 : AC := .seq (.ops 0 [⟨(some 8), .mv (.t 0), none⟩, ⟨(some 9), .call 16 [(.t 8)], none⟩, ⟨(some 7), .mv (.t 9), none⟩, ⟨(some 10), .ext (.t 7) 0, none⟩, ⟨(some 11), .ext (.t 7) 1, none⟩, ⟨(some 3), .as 0 0 (.t 10), none⟩, ⟨(some 4), .as 0 0 (.t 11), none⟩] [0, 3, 4]) c5_1
abbrev c5_3 : AC := .seq (.ops 0 [⟨(some 2), .as 0 0 (.k (.lf (.bool false))), none⟩] [0]) c5_2
abbrev c5 : AC := c5_3
theorem c5_ok : compileFn Try.prog 5 = some (28, AC.strip c5, [.t 2]) := by kernel_rfl
/-- harrow/harrowlaw02.QuoteBack -/
abbrev c6_0 : AC := .seq (.ops 0 [⟨(some 15), .call 15 [], none⟩, ⟨(some 16), .mv (.t 15), none⟩, ⟨(some 17), .mv (.t 4), (some (16, true))⟩, ⟨(some 18), .bin .eql (.t 17) (.k (.lf (.int .i64 2))), (some (16, true))⟩, ⟨(some 19), .pk (.t 16) (.t 18) (.k (.lf (.bool false))), none⟩, ⟨(some 20), .mv (.t 19), none⟩, ⟨(some 21), .mv (.t 3), (some (20, true))⟩, ⟨(some 22), .bin .eql (.t 21) (.k (.lf (.str ⟨#[]⟩))), (some (20, true))⟩, ⟨(some 23), .pk (.t 20) (.t 22) (.k (.lf (.bool false))), none⟩, ⟨(some 24), .mv (.t 23), none⟩, ⟨(some 25), .mv (.t 0), (some (24, true))⟩, ⟨(some 26), .lns (.t 25), (some (24, true))⟩, ⟨(some 27), .bin .gtr (.t 26) (.k (.lf (.int .i64 10000))), (some (24, true))⟩, ⟨(some 28), .pk (.t 24) (.t 27) (.k (.lf (.bool false))), none⟩, ⟨(some 2), .as 0 0 (.t 28), none⟩] [2]) .ret
abbrev c6_1 : AC := .cond (.t 14) c6_0 .skip
abbrev c6_2 : AC := .seq (.ops 0 [⟨(some 13), .mv (.t 4), none⟩, ⟨(some 14), .bin .neq (.t 13) (.k (.lf (.int .i64 0))), none⟩] [0, 3, 4, 14]) c6_1
abbrev c6_3 : AC := .cond (.t 32) .skip (.exit 0)
abbrev c6_4 : AC := .seq (.ops 0 [⟨(some 29), .mv (.t 5), none⟩, ⟨(some 30), .mv (.t 3), none⟩, ⟨(some 31), .lns (.t 30), none⟩, ⟨(some 32), .bin .lss (.t 29) (.t 31), none⟩] [0, 3, 5, 32]) c6_3
abbrev c6_5 : AC := .seq (.ops 0 [⟨(some 2), .as 0 0 (.k (.lf (.bool false))), none⟩] [2]) .ret
abbrev c6_6 : AC := .cond (.t 44) c6_5 .skip
abbrev c6_7 : AC := .seq (.ops 0 [⟨(some 35), .mv (.t 3), none⟩, ⟨(some 36), .mv (.t 5), none⟩, ⟨(some 37), .ixs (.t 35) (.t 36), none⟩, ⟨(some 38), .bin .lss (.t 37) (.k (.lf (.int .u8 32))), none⟩, ⟨(some 39), .mv (.t 38), none⟩, ⟨(some 40), .mv (.t 3), (some (39, false))⟩, ⟨(some 41), .mv (.t 5), (some (39, false))⟩, ⟨(some 42), .ixs (.t 40) (.t 41), (some (39, false))⟩, ⟨(some 43), .bin .gtr (.t 42) (.k (.lf (.int .u8 126))), (some (39, false))⟩, ⟨(some 44), .pk (.t 39) (.k (.lf (.bool true))) (.t 43), none⟩] [0, 3, 5, 44]) c6_6
abbrev c6_8 : AC := .block 1 c6_7
abbrev c6_9 : AC := .seq c6_8 (.ops 0 [⟨(some 33), .mv (.t 5), none⟩, ⟨(some 34), .bin .add (.t 33) (.k (.lf (.int .i64 1))), none⟩, ⟨(some 5), .as 0 0 (.t 34), none⟩] [0, 3, 5])
abbrev c6_10 : AC := .seq c6_4 c6_9
abbrev c6_11 : AC := .loop c6_10 [0, 3, 5]
abbrev c6_12 : AC := .block 0 c6_11
abbrev c6_13 : AC := .seq (.ops 0 [⟨(some 5), .as 0 0 (.k (.lf (.int .i64 0))), none⟩] [0, 3, 5]) c6_12
abbrev c6_14 : AC := .seq (.ops 0 [⟨(some 50), .call 15 [], none⟩, ⟨(some 51), .mv (.t 50), none⟩, ⟨(some 52), .mv (.t 6), (some (51, true))⟩, ⟨(some 53), .mv (.t 0), (some (51, true))⟩, ⟨(some 54), .bin .eql (.t 52) (.t 53), (some (51, true))⟩, ⟨(some 55), .pk (.t 51) (.t 54) (.k (.lf (.bool false))), none⟩, ⟨(some 56), .mv (.t 55), none⟩, ⟨(some 57), .ld (.t 7) 2 true, (some (56, true))⟩, ⟨(some 58), .bd [.int .i64 0, .int .i64 0] [], (some (56, true))⟩, ⟨(some 59), .beq false [2, 2] (.t 57) (.t 58), (some (56, true))⟩, ⟨(some 60), .pk (.t 56) (.t 59) (.k (.lf (.bool false))), none⟩, ⟨(some 2), .as 0 0 (.t 60), none⟩] [2]) .ret
abbrev c6_15 : AC := .seq (.ops 0 [⟨(some 46), .mv (.t 3), none⟩, ⟨(some 47), .call 13 [(.t 46)], none⟩, ⟨(some 45), .mv (.t 47), none⟩, ⟨(some 48), .ext (.t 45) 0, none⟩, ⟨(some 49), .ext (.t 45) 1, none⟩, ⟨(some 7), .al [.int .i64 0, .int .i64 0], none⟩, ⟨(some 6), .as 0 0 (.t 48), none⟩, ⟨none, .st (.t 7) (.t 49) 2, none⟩] [0, 6, 7]) c6_14
abbrev c6_16 : AC := .seq c6_13 c6_15
abbrev c6_17 : AC := .seq c6_2 c6_16
abbrev c6_18 : AC := .seq (.ops 0 [⟨(some 9), .mv (.t 0), none⟩, ⟨(some 10), .call 16 [(.t 9)], none⟩, ⟨(some 8), .mv (.t 10), none⟩, ⟨(some 11), .ext (.t 8) 0, none⟩, ⟨(some 12), .ext (.t 8) 1, none⟩, ⟨(some 3), .as 0 0 (.t 11), none⟩, ⟨(some 4), .as 0 0 (.t 12), none⟩] [0, 3, 4]) c6_17
abbrev c6_19 : AC := .seq (.ops 0 [⟨(some 2), .as 0 0 (.k (.lf (.bool false))), none⟩] [0]) c6_18
abbrev c6 : AC := c6_19
theorem c6_ok : compileFn Try.prog 6 = some (61, AC.strip c6, [.t 2]) := by kernel_rfl
/-- harrow/quote.Quote -/
abbrev c16_0 : AC := .seq (.ops 0 [⟨(some 2), .as 0 0 (.k (.lf (.str ⟨#[]⟩))), none⟩, ⟨(some 3), .as 0 0 (.k (.lf (.int .i64 2))), none⟩] [2, 3]) .ret
abbrev c16_1 : AC := .cond (.t 8) c16_0 .skip
abbrev c16_2 : AC := .seq (.ops 0 [⟨(some 6), .mv (.t 0), none⟩, ⟨(some 7), .lns (.t 6), none⟩, ⟨(some 8), .bin .gtr (.t 7) (.k (.lf (.int .i64 65536))), none⟩] [0, 8]) c16_1
abbrev c16_3 : AC := .cond (.t 13) .skip (.exit 0)
abbrev c16_4 : AC := .seq (.ops 0 [⟨(some 14), .mv (.t 12), none⟩, ⟨(some 5), .as 0 0 (.t 14), none⟩] [0, 4, 5, 11, 12]) (.ops 0 [⟨(some 15), .mv (.t 0), none⟩, ⟨(some 16), .mv (.t 5), none⟩, ⟨(some 17), .ixs (.t 15) (.t 16), none⟩, ⟨(some 18), .callp 29 0 [(.t 4), (.t 17)], none⟩] [0, 4, 11, 12])
abbrev c16_5 : AC := .block 1 c16_4
abbrev c16_6 : AC := .seq c16_5 (.ops 0 [⟨(some 19), .bin .add (.t 12) (.k (.lf (.int .i64 1))), none⟩, ⟨(some 12), .mv (.t 19), none⟩] [0, 4, 11, 12])
abbrev c16_7 : AC := .seq c16_3 c16_6
abbrev c16_8 : AC := .seq (.ops 0 [⟨(some 13), .bin .lss (.t 12) (.t 11), none⟩] [0, 4, 11, 12, 13]) c16_7
abbrev c16_9 : AC := .loop c16_8 [0, 4, 11, 12]
abbrev c16_10 : AC := .block 0 c16_9
abbrev c16_11 : AC := .seq (.ops 0 [⟨(some 10), .mv (.t 0), none⟩, ⟨(some 11), .lns (.t 10), none⟩, ⟨(some 12), .mv (.k (.lf (.int .i64 0))), none⟩] [0, 4, 11, 12]) c16_10
abbrev c16_12 : AC := .seq (.ops 0 [⟨(some 2), .as 0 0 (.k (.lf (.str ⟨#[]⟩))), none⟩, ⟨(some 3), .as 0 0 (.k (.lf (.int .i64 2))), none⟩] [2, 3]) .ret
abbrev c16_13 : AC := .cond (.t 22) c16_12 .skip
abbrev c16_14 : AC := .seq (.ops 0 [⟨(some 21), .callp 30 0 [(.t 4)], none⟩, ⟨(some 22), .bin .gtr (.t 21) (.k (.lf (.int .i64 65536))), none⟩] [4, 22]) c16_13
abbrev c16_15 : AC := .seq (.ops 0 [⟨(some 23), .callp 31 0 [(.t 4)], none⟩, ⟨(some 2), .as 0 0 (.t 23), none⟩, ⟨(some 3), .as 0 0 (.k (.lf (.int .i64 0))), none⟩] [2, 3]) .ret
abbrev c16_16 : AC := .seq c16_14 c16_15
abbrev c16_17 : AC := .seq (.ops 0 [⟨(some 20), .callp 28 0 [(.t 4), (.k (.lf (.int .u8 39)))], none⟩] [4]) c16_16
abbrev c16_18 : AC := .seq c16_11 c16_17
abbrev c16_19 : AC := .seq (.ops 0 [⟨(some 9), .callp 28 0 [(.t 4), (.k (.lf (.int .u8 39)))], none⟩] [0, 4]) c16_18
abbrev c16_20 : AC := .seq (.ops 0 [⟨(some 4), .alt 48 [.nilp, .lst (.own 515 5) 1 [] []], none⟩] [0, 4]) c16_19
abbrev c16_21 : AC := .seq c16_2 c16_20
abbrev c16_22 : AC := .seq (.ops 0 [⟨(some 2), .as 0 0 (.k (.lf (.str ⟨#[]⟩))), none⟩, ⟨(some 3), .as 0 0 (.k (.lf (.int .i64 0))), none⟩] [0]) c16_21
abbrev c16 : AC := c16_22
theorem c16_ok : compileFn Try.prog 16 = some (24, AC.strip c16, [.t 2, .t 3]) := by kernel_rfl
/-- harrow/harrowref02.Quote -/
abbrev c17_0 : AC := .seq (.ops 0 [⟨(some 2), .as 0 0 (.k (.lf (.str ⟨#[]⟩))), none⟩, ⟨(some 3), .as 0 0 (.k (.lf (.int .i64 2))), none⟩] [2, 3]) .ret
abbrev c17_1 : AC := .cond (.t 9) c17_0 .skip
abbrev c17_2 : AC := .seq (.ops 0 [⟨(some 7), .mv (.t 0), none⟩, ⟨(some 8), .lns (.t 7), none⟩, ⟨(some 9), .bin .gtr (.t 8) (.k (.lf (.int .i64 65536))), none⟩] [0, 9]) c17_1
abbrev c17_3 : AC := .cond (.t 19) .skip (.exit 0)
abbrev c17_4 : AC := .seq (.ops 0 [⟨(some 11), .mv (.t 5), none⟩, ⟨(some 12), .mv (.t 0), none⟩, ⟨(some 13), .lns (.t 12), none⟩, ⟨(some 14), .bin .lss (.t 11) (.t 13), none⟩, ⟨(some 15), .mv (.t 14), none⟩, ⟨(some 16), .mv (.t 4), (some (15, true))⟩, ⟨(some 17), .len (.t 16), (some (15, true))⟩, ⟨(some 18), .bin .leq (.t 17) (.k (.lf (.int .i64 65536))), (some (15, true))⟩, ⟨(some 19), .pk (.t 15) (.t 18) (.k (.lf (.bool false))), none⟩] [0, 4, 5, 19]) c17_3
abbrev c17_5 : AC := .cond (.t 65) (.ops 0 [⟨(some 72), .mv (.t 4), none⟩, ⟨(some 73), .mv (.t 6), none⟩, ⟨(some 74), .bs 5 1 1 [.int .u8 0] [(0, (.t 73))], none⟩, ⟨(some 75), .app 5 1 1 (.t 72) (.t 74), none⟩, ⟨(some 4), .as 5 1 (.t 75), none⟩] [0, 4, 5]) (.ops 0 [⟨(some 25), .mv (.t 4), none⟩, ⟨(some 26), .mv (.t 6), none⟩, ⟨(some 27), .cvi .i64 (.t 26), none⟩, ⟨(some 28), .bin .quo (.t 27) (.k (.lf (.int .i64 16))), none⟩, ⟨(some 29), .call 32 [(.t 28)], none⟩, ⟨(some 30), .mv (.t 6), none⟩, ⟨(some 31), .cvi .i64 (.t 30), none⟩, ⟨(some 32), .bin .rem (.t 31) (.k (.lf (.int .i64 16))), none⟩, ⟨(some 33), .call 32 [(.t 32)], none⟩, ⟨(some 34), .bs 5 1 4 [.int .u8 0] [(0, (.k (.lf (.int .u8 92)))), (1, (.k (.lf (.int .u8 120)))), (2, (.t 29)), (3, (.t 33))], none⟩, ⟨(some 35), .app 5 1 1 (.t 25) (.t 34), none⟩, ⟨(some 4), .as 5 1 (.t 35), none⟩] [0, 4, 5])
abbrev c17_6 : AC := .seq (.ops 0 [⟨(some 66), .mv (.t 6), none⟩, ⟨(some 67), .bin .geq (.t 66) (.k (.lf (.int .u8 32))), none⟩, ⟨(some 68), .mv (.t 67), none⟩, ⟨(some 69), .mv (.t 6), (some (68, true))⟩, ⟨(some 70), .bin .leq (.t 69) (.k (.lf (.int .u8 126))), (some (68, true))⟩, ⟨(some 71), .pk (.t 68) (.t 70) (.k (.lf (.bool false))), none⟩, ⟨(some 65), .as 0 0 (.t 71), none⟩] [0, 4, 5, 6, 65]) c17_5
abbrev c17_7 : AC := .cond (.t 54) (.ops 0 [⟨(some 61), .mv (.t 4), none⟩, ⟨(some 62), .mv (.t 6), none⟩, ⟨(some 63), .bs 5 1 2 [.int .u8 0] [(0, (.k (.lf (.int .u8 92)))), (1, (.t 62))], none⟩, ⟨(some 64), .app 5 1 1 (.t 61) (.t 63), none⟩, ⟨(some 4), .as 5 1 (.t 64), none⟩] [0, 4, 5]) c17_6
abbrev c17_8 : AC := .seq (.ops 0 [⟨(some 55), .mv (.t 6), none⟩, ⟨(some 56), .bin .eql (.t 55) (.k (.lf (.int .u8 39))), none⟩, ⟨(some 57), .mv (.t 56), none⟩, ⟨(some 58), .mv (.t 6), (some (57, false))⟩, ⟨(some 59), .bin .eql (.t 58) (.k (.lf (.int .u8 92))), (some (57, false))⟩, ⟨(some 60), .pk (.t 57) (.k (.lf (.bool true))) (.t 59), none⟩, ⟨(some 54), .as 0 0 (.t 60), none⟩] [0, 4, 5, 6, 54]) c17_7
abbrev c17_9 : AC := .cond (.t 48) (.ops 0 [⟨(some 51), .mv (.t 4), none⟩, ⟨(some 52), .bs 5 1 2 [.int .u8 0] [(0, (.k (.lf (.int .u8 92)))), (1, (.k (.lf (.int .u8 116))))], none⟩, ⟨(some 53), .app 5 1 1 (.t 51) (.t 52), none⟩, ⟨(some 4), .as 5 1 (.t 53), none⟩] [0, 4, 5]) c17_8
abbrev c17_10 : AC := .seq (.ops 0 [⟨(some 49), .mv (.t 6), none⟩, ⟨(some 50), .bin .eql (.t 49) (.k (.lf (.int .u8 9))), none⟩, ⟨(some 48), .as 0 0 (.t 50), none⟩] [0, 4, 5, 6, 48]) c17_9
abbrev c17_11 : AC := .cond (.t 42) (.ops 0 [⟨(some 45), .mv (.t 4), none⟩, ⟨(some 46), .bs 5 1 2 [.int .u8 0] [(0, (.k (.lf (.int .u8 92)))), (1, (.k (.lf (.int .u8 114))))], none⟩, ⟨(some 47), .app 5 1 1 (.t 45) (.t 46), none⟩, ⟨(some 4), .as 5 1 (.t 47), none⟩] [0, 4, 5]) c17_10
abbrev c17_12 : AC := .seq (.ops 0 [⟨(some 43), .mv (.t 6), none⟩, ⟨(some 44), .bin .eql (.t 43) (.k (.lf (.int .u8 13))), none⟩, ⟨(some 42), .as 0 0 (.t 44), none⟩] [0, 4, 5, 6, 42]) c17_11
abbrev c17_13 : AC := .cond (.t 36) (.ops 0 [⟨(some 39), .mv (.t 4), none⟩, ⟨(some 40), .bs 5 1 2 [.int .u8 0] [(0, (.k (.lf (.int .u8 92)))), (1, (.k (.lf (.int .u8 110))))], none⟩, ⟨(some 41), .app 5 1 1 (.t 39) (.t 40), none⟩, ⟨(some 4), .as 5 1 (.t 41), none⟩] [0, 4, 5]) c17_12
abbrev c17_14 : AC := .seq (.ops 0 [⟨(some 37), .mv (.t 6), none⟩, ⟨(some 38), .bin .eql (.t 37) (.k (.lf (.int .u8 10))), none⟩, ⟨(some 36), .as 0 0 (.t 38), none⟩] [0, 4, 5, 6, 36]) c17_13
abbrev c17_15 : AC := .block 2 c17_14
abbrev c17_16 : AC := .seq (.ops 0 [⟨(some 22), .mv (.t 0), none⟩, ⟨(some 23), .mv (.t 5), none⟩, ⟨(some 24), .ixs (.t 22) (.t 23), none⟩, ⟨(some 6), .as 0 0 (.t 24), none⟩] [0, 4, 5, 6]) c17_15
abbrev c17_17 : AC := .block 1 c17_16
abbrev c17_18 : AC := .seq c17_17 (.ops 0 [⟨(some 20), .mv (.t 5), none⟩, ⟨(some 21), .bin .add (.t 20) (.k (.lf (.int .i64 1))), none⟩, ⟨(some 5), .as 0 0 (.t 21), none⟩] [0, 4, 5])
abbrev c17_19 : AC := .seq c17_4 c17_18
abbrev c17_20 : AC := .loop c17_19 [0, 4, 5]
abbrev c17_21 : AC := .block 0 c17_20
abbrev c17_22 : AC := .seq (.ops 0 [⟨(some 5), .as 0 0 (.k (.lf (.int .i64 0))), none⟩] [0, 4, 5]) c17_21
abbrev c17_23 : AC := .seq (.ops 0 [⟨(some 2), .as 0 0 (.k (.lf (.str ⟨#[]⟩))), none⟩, ⟨(some 3), .as 0 0 (.k (.lf (.int .i64 2))), none⟩] [2, 3]) .ret
abbrev c17_24 : AC := .cond (.t 81) c17_23 .skip
abbrev c17_25 : AC := .seq (.ops 0 [⟨(some 79), .mv (.t 4), none⟩, ⟨(some 80), .len (.t 79), none⟩, ⟨(some 81), .bin .gtr (.t 80) (.k (.lf (.int .i64 65536))), none⟩] [4, 81]) c17_24
abbrev c17_26 : AC := .seq (.ops 0 [⟨(some 82), .mv (.t 4), none⟩, ⟨(some 83), .cbs (.t 82), none⟩, ⟨(some 2), .as 0 0 (.t 83), none⟩, ⟨(some 3), .as 0 0 (.k (.lf (.int .i64 0))), none⟩] [2, 3]) .ret
abbrev c17_27 : AC := .seq c17_25 c17_26
abbrev c17_28 : AC := .seq (.ops 0 [⟨(some 76), .mv (.t 4), none⟩, ⟨(some 77), .bs 5 1 1 [.int .u8 0] [(0, (.k (.lf (.int .u8 39))))], none⟩, ⟨(some 78), .app 5 1 1 (.t 76) (.t 77), none⟩, ⟨(some 4), .as 5 1 (.t 78), none⟩] [4]) c17_27
abbrev c17_29 : AC := .seq c17_22 c17_28
abbrev c17_30 : AC := .seq (.ops 0 [⟨(some 10), .bs 5 1 1 [.int .u8 0] [(0, (.k (.lf (.int .u8 39))))], none⟩, ⟨(some 4), .as 5 1 (.t 10), none⟩] [0, 4]) c17_29
abbrev c17_31 : AC := .seq c17_2 c17_30
abbrev c17_32 : AC := .seq (.ops 0 [⟨(some 2), .as 0 0 (.k (.lf (.str ⟨#[]⟩))), none⟩, ⟨(some 3), .as 0 0 (.k (.lf (.int .i64 0))), none⟩] [0]) c17_31
abbrev c17 : AC := c17_32
theorem c17_ok : compileFn Try.prog 17 = some (84, AC.strip c17, [.t 2, .t 3]) := by kernel_rfl
/-- (*strings.Builder).WriteByte -/
abbrev c28_0 : AC := .seq (.ops 0 [⟨(some 4), .as 0 0 (.k (.lf (.nili))), none⟩] [4]) .ret
abbrev c28_1 : AC := .seq (.ops 0 [⟨(some 7), .mv (.t 0), none⟩, ⟨(some 8), .mv (.t 0), none⟩, ⟨(some 9), .nc (.t 8), none⟩, ⟨(some 10), .fa (.t 9) 1, none⟩, ⟨(some 11), .ld (.t 10) 1 false, none⟩, ⟨(some 12), .mv (.t 1), none⟩, ⟨(some 13), .bs 5 1 1 [.int .u8 0] [(0, (.t 12))], none⟩, ⟨(some 14), .app 5 1 1 (.t 11) (.t 13), none⟩, ⟨(some 15), .nc (.t 7), none⟩, ⟨(some 16), .fa (.t 15) 1, none⟩, ⟨none, .st (.t 16) (.t 14) 1, none⟩] []) c28_0
abbrev c28_2 : AC := .seq (.ops 0 [⟨(some 5), .mv (.t 0), none⟩, ⟨(some 6), .callp 43 0 [(.t 5)], none⟩] [0, 1]) c28_1
abbrev c28_3 : AC := .seq (.ops 0 [⟨(some 4), .as 0 0 (.k (.lf (.nili))), none⟩] [0, 1]) c28_2
abbrev c28 : AC := c28_3
theorem c28_ok : compileFn Try.prog 28 = some (17, AC.strip c28, [.t 4]) := by kernel_rfl
/-- harrow/quote.writeByte -/
abbrev c29_0 : AC := .seq (.ops 0 [⟨(some 38), .mv (.t 0), none⟩, ⟨(some 39), .callp 28 0 [(.t 38), (.k (.lf (.int .u8 92)))], none⟩] [0, 1]) (.ops 0 [⟨(some 40), .mv (.t 0), none⟩, ⟨(some 41), .mv (.t 1), none⟩, ⟨(some 42), .callp 28 0 [(.t 40), (.t 41)], none⟩] [])
abbrev c29_1 : AC := .seq (.ops 0 [⟨(some 6), .mv (.t 0), none⟩, ⟨(some 7), .mv (.t 1), none⟩, ⟨(some 8), .bin .shr (.t 7) (.k (.lf (.int .u64 4))), none⟩, ⟨(some 9), .ixs (.k (.lf (.str ⟨#[48, 49, 50, 51, 52, 53, 54, 55, 56, 57, 97, 98, 99, 100, 101, 102]⟩))) (.t 8), none⟩, ⟨(some 10), .callp 28 0 [(.t 6), (.t 9)], none⟩] [0, 1]) (.ops 0 [⟨(some 11), .mv (.t 0), none⟩, ⟨(some 12), .mv (.t 1), none⟩, ⟨(some 13), .bin .and (.t 12) (.k (.lf (.int .u8 15))), none⟩, ⟨(some 14), .ixs (.k (.lf (.str ⟨#[48, 49, 50, 51, 52, 53, 54, 55, 56, 57, 97, 98, 99, 100, 101, 102]⟩))) (.t 13), none⟩, ⟨(some 15), .callp 28 0 [(.t 11), (.t 14)], none⟩] [])
abbrev c29_2 : AC := .seq (.ops 0 [⟨(some 4), .mv (.t 0), none⟩, ⟨(some 5), .callp 44 0 [(.t 4), (.k (.lf (.str ⟨#[92, 120]⟩)))], none⟩] [0, 1]) c29_1
abbrev c29_3 : AC := .cond (.t 43) (.ops 0 [⟨(some 50), .mv (.t 0), none⟩, ⟨(some 51), .mv (.t 1), none⟩, ⟨(some 52), .callp 28 0 [(.t 50), (.t 51)], none⟩] []) c29_2
abbrev c29_4 : AC := .seq (.ops 0 [⟨(some 44), .mv (.t 1), none⟩, ⟨(some 45), .bin .geq (.t 44) (.k (.lf (.int .u8 32))), none⟩, ⟨(some 46), .mv (.t 45), none⟩, ⟨(some 47), .mv (.t 1), (some (46, true))⟩, ⟨(some 48), .bin .leq (.t 47) (.k (.lf (.int .u8 126))), (some (46, true))⟩, ⟨(some 49), .pk (.t 46) (.t 48) (.k (.lf (.bool false))), none⟩, ⟨(some 43), .as 0 0 (.t 49), none⟩] [0, 1, 43]) c29_3
abbrev c29_5 : AC := .cond (.t 31) c29_0 c29_4
abbrev c29_6 : AC := .seq (.ops 0 [⟨(some 32), .mv (.t 1), none⟩, ⟨(some 33), .bin .eql (.t 32) (.k (.lf (.int .u8 39))), none⟩, ⟨(some 34), .mv (.t 33), none⟩, ⟨(some 35), .mv (.t 1), (some (34, false))⟩, ⟨(some 36), .bin .eql (.t 35) (.k (.lf (.int .u8 92))), (some (34, false))⟩, ⟨(some 37), .pk (.t 34) (.k (.lf (.bool true))) (.t 36), none⟩, ⟨(some 31), .as 0 0 (.t 37), none⟩] [0, 1, 31]) c29_5
abbrev c29_7 : AC := .cond (.t 26) (.ops 0 [⟨(some 29), .mv (.t 0), none⟩, ⟨(some 30), .callp 44 0 [(.t 29), (.k (.lf (.str ⟨#[92, 116]⟩)))], none⟩] []) c29_6
abbrev c29_8 : AC := .seq (.ops 0 [⟨(some 27), .mv (.t 1), none⟩, ⟨(some 28), .bin .eql (.t 27) (.k (.lf (.int .u8 9))), none⟩, ⟨(some 26), .as 0 0 (.t 28), none⟩] [0, 1, 26]) c29_7
abbrev c29_9 : AC := .cond (.t 21) (.ops 0 [⟨(some 24), .mv (.t 0), none⟩, ⟨(some 25), .callp 44 0 [(.t 24), (.k (.lf (.str ⟨#[92, 114]⟩)))], none⟩] []) c29_8
abbrev c29_10 : AC := .seq (.ops 0 [⟨(some 22), .mv (.t 1), none⟩, ⟨(some 23), .bin .eql (.t 22) (.k (.lf (.int .u8 13))), none⟩, ⟨(some 21), .as 0 0 (.t 23), none⟩] [0, 1, 21]) c29_9
abbrev c29_11 : AC := .cond (.t 16) (.ops 0 [⟨(some 19), .mv (.t 0), none⟩, ⟨(some 20), .callp 44 0 [(.t 19), (.k (.lf (.str ⟨#[92, 110]⟩)))], none⟩] []) c29_10
abbrev c29_12 : AC := .seq (.ops 0 [⟨(some 17), .mv (.t 1), none⟩, ⟨(some 18), .bin .eql (.t 17) (.k (.lf (.int .u8 10))), none⟩, ⟨(some 16), .as 0 0 (.t 18), none⟩] [0, 1, 16]) c29_11
abbrev c29_13 : AC := .block 0 c29_12
abbrev c29 : AC := c29_13
theorem c29_ok : compileFn Try.prog 29 = some (53, AC.strip c29, []) := by kernel_rfl
/-- (*strings.Builder).Len -/
abbrev c30_0 : AC := .seq (.ops 0 [⟨(some 3), .mv (.t 0), none⟩, ⟨(some 4), .nc (.t 3), none⟩, ⟨(some 5), .fa (.t 4) 1, none⟩, ⟨(some 6), .ld (.t 5) 1 false, none⟩, ⟨(some 7), .len (.t 6), none⟩, ⟨(some 2), .as 0 0 (.t 7), none⟩] [2]) .ret
abbrev c30_1 : AC := .seq (.ops 0 [⟨(some 2), .as 0 0 (.k (.lf (.int .i64 0))), none⟩] [0]) c30_0
abbrev c30 : AC := c30_1
theorem c30_ok : compileFn Try.prog 30 = some (8, AC.strip c30, [.t 2]) := by kernel_rfl
/-- (*strings.Builder).String -/
abbrev c31_0 : AC := .seq (.reg [⟨(some 3), .mv (.t 0), none⟩, ⟨(some 4), .nc (.t 3), none⟩, ⟨(some 5), .fa (.t 4) 1, none⟩, ⟨(some 6), .ld (.t 5) 1 false, none⟩, ⟨(some 7), .usd (.t 6), none⟩, ⟨(some 8), .mv (.t 0), none⟩, ⟨(some 9), .nc (.t 8), none⟩, ⟨(some 10), .fa (.t 9) 1, none⟩, ⟨(some 11), .ld (.t 10) 1 false, none⟩, ⟨(some 12), .len (.t 11), none⟩] [⟨(some 13), .ust 5 (.t 7) (.t 12), none⟩, ⟨(some 2), .as 0 0 (.t 13), none⟩] [2]) .ret
abbrev c31_1 : AC := .seq (.ops 0 [⟨(some 2), .as 0 0 (.k (.lf (.str ⟨#[]⟩))), none⟩] [0]) c31_0
abbrev c31 : AC := c31_1
theorem c31_ok : compileFn Try.prog 31 = some (14, AC.strip c31, [.t 2]) := by kernel_rfl
/-- harrow/harrowref02.digit -/
abbrev c32_0 : AC := .seq (.ops 0 [⟨(some 5), .mv (.t 0), none⟩, ⟨(some 6), .bin .add (.k (.lf (.int .i64 48))) (.t 5), none⟩, ⟨(some 7), .cvi .u8 (.t 6), none⟩, ⟨(some 2), .as 0 0 (.t 7), none⟩] [2]) .ret
abbrev c32_1 : AC := .cond (.t 4) c32_0 .skip
abbrev c32_2 : AC := .seq (.ops 0 [⟨(some 3), .mv (.t 0), none⟩, ⟨(some 4), .bin .lss (.t 3) (.k (.lf (.int .i64 10))), none⟩] [0, 4]) c32_1
abbrev c32_3 : AC := .seq (.ops 0 [⟨(some 8), .mv (.t 0), none⟩, ⟨(some 9), .bin .add (.k (.lf (.int .i64 97))) (.t 8), none⟩, ⟨(some 10), .bin .sub (.t 9) (.k (.lf (.int .i64 10))), none⟩, ⟨(some 11), .cvi .u8 (.t 10), none⟩, ⟨(some 2), .as 0 0 (.t 11), none⟩] [2]) .ret
abbrev c32_4 : AC := .seq c32_2 c32_3
abbrev c32_5 : AC := .seq (.ops 0 [⟨(some 2), .as 0 0 (.k (.lf (.int .u8 0))), none⟩] [0]) c32_4
abbrev c32 : AC := c32_5
theorem c32_ok : compileFn Try.prog 32 = some (12, AC.strip c32, [.t 2]) := by kernel_rfl
/-- (*strings.Builder).copyCheck -/
abbrev c43_0 : AC := .cond (.t 19) .bad .skip
abbrev c43_1 : AC := .seq (.ops 0 [⟨(some 14), .mv (.t 0), none⟩, ⟨(some 15), .nc (.t 14), none⟩, ⟨(some 16), .fa (.t 15) 0, none⟩, ⟨(some 17), .ld (.t 16) 1 false, none⟩, ⟨(some 18), .mv (.t 0), none⟩, ⟨(some 19), .peq true (.t 17) (.t 18), none⟩] [19]) c43_0
abbrev c43_2 : AC := .cond (.t 6) (.ops 0 [⟨(some 7), .mv (.t 0), none⟩, ⟨(some 8), .mv (.t 0), none⟩, ⟨(some 9), .p2u (.t 8), none⟩, ⟨(some 10), .ex 0 [(.t 9)], none⟩, ⟨(some 11), .u2p 48 (.t 10), none⟩, ⟨(some 12), .nc (.t 7), none⟩, ⟨(some 13), .fa (.t 12) 0, none⟩, ⟨none, .st (.t 13) (.t 11) 1, none⟩] []) c43_1
abbrev c43_3 : AC := .seq (.ops 0 [⟨(some 2), .mv (.t 0), none⟩, ⟨(some 3), .nc (.t 2), none⟩, ⟨(some 4), .fa (.t 3) 0, none⟩, ⟨(some 5), .ld (.t 4) 1 false, none⟩, ⟨(some 6), .peq false (.t 5) (.k (.lf (.nilp))), none⟩] [0, 6]) c43_2
abbrev c43 : AC := c43_3
theorem c43_ok : compileFn Try.prog 43 = some (20, AC.strip c43, []) := by kernel_rfl
/-- (*strings.Builder).WriteString -/
abbrev c44_0 : AC := .seq (.ops 0 [⟨(some 17), .mv (.t 1), none⟩, ⟨(some 18), .lns (.t 17), none⟩, ⟨(some 4), .as 0 0 (.t 18), none⟩, ⟨(some 5), .as 0 0 (.k (.lf (.nili))), none⟩] [4, 5]) .ret
abbrev c44_1 : AC := .seq (.ops 0 [⟨(some 8), .mv (.t 0), none⟩, ⟨(some 9), .mv (.t 0), none⟩, ⟨(some 10), .nc (.t 9), none⟩, ⟨(some 11), .fa (.t 10) 1, none⟩, ⟨(some 12), .ld (.t 11) 1 false, none⟩, ⟨(some 13), .mv (.t 1), none⟩, ⟨(some 14), .aps 5 (.t 12) (.t 13), none⟩, ⟨(some 15), .nc (.t 8), none⟩, ⟨(some 16), .fa (.t 15) 1, none⟩, ⟨none, .st (.t 16) (.t 14) 1, none⟩] [1]) c44_0
abbrev c44_2 : AC := .seq (.ops 0 [⟨(some 6), .mv (.t 0), none⟩, ⟨(some 7), .callp 43 0 [(.t 6)], none⟩] [0, 1]) c44_1
abbrev c44_3 : AC := .seq (.ops 0 [⟨(some 4), .as 0 0 (.k (.lf (.int .i64 0))), none⟩, ⟨(some 5), .as 0 0 (.k (.lf (.nili))), none⟩] [0, 1]) c44_2
abbrev c44 : AC := c44_3
theorem c44_ok : compileFn Try.prog 44 = some (19, AC.strip c44, [.t 4, .t 5]) := by kernel_rfl
end Go.Proofs.Ytomlkmnklonbpaa.Q
