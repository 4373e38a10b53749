/- Contracts, part Q1. -/
import Derived.Test.YtomlkmnklonbpaaProg
import Derived.Test.YtomlkmnklonbpaaAmLeaf2
set_option maxRecDepth 100000
namespace Go.Proofs.Ytomlkmnklonbpaa.Q
open Go Go.Proofs.Ytomlkmnklonbpaa.AM
/-- harrow/harrowlaw02.QuoteReads -/
abbrev c3_0 : AC := .seq (.ops 0 [⟨(some 39), .call 15 [], none⟩, ⟨(some 40), .mv (.t 39), none⟩, ⟨(some 41), .mv (.t 5), (some (40, true))⟩, ⟨(some 42), .mv (.t 8), (some (40, true))⟩, ⟨(some 43), .bin .eql (.t 41) (.t 42), (some (40, true))⟩, ⟨(some 44), .pk (.t 40) (.t 43) (.k (.lf (.bool false))), none⟩, ⟨(some 45), .mv (.t 44), none⟩, ⟨(some 46), .mv (.t 6), (some (45, true))⟩, ⟨(some 47), .mv (.t 9), (some (45, true))⟩, ⟨(some 48), .bin .eql (.t 46) (.t 47), (some (45, true))⟩, ⟨(some 49), .pk (.t 45) (.t 48) (.k (.lf (.bool false))), none⟩, ⟨(some 50), .mv (.t 49), none⟩, ⟨(some 51), .ld (.t 7) 2 true, (some (50, true))⟩, ⟨(some 52), .ld (.t 10) 2 true, (some (50, true))⟩, ⟨(some 53), .beq false [2, 2] (.t 51) (.t 52), (some (50, true))⟩, ⟨(some 54), .pk (.t 50) (.t 53) (.k (.lf (.bool false))), none⟩, ⟨(some 55), .mv (.t 54), none⟩, ⟨(some 56), .mv (.t 11), (some (55, true))⟩, ⟨(some 57), .mv (.t 13), (some (55, true))⟩, ⟨(some 58), .bin .eql (.t 56) (.t 57), (some (55, true))⟩, ⟨(some 59), .pk (.t 55) (.t 58) (.k (.lf (.bool false))), none⟩, ⟨(some 60), .mv (.t 59), none⟩, ⟨(some 61), .ld (.t 12) 2 true, (some (60, true))⟩, ⟨(some 62), .ld (.t 14) 2 true, (some (60, true))⟩, ⟨(some 63), .beq false [2, 2] (.t 61) (.t 62), (some (60, true))⟩, ⟨(some 64), .pk (.t 60) (.t 63) (.k (.lf (.bool false))), none⟩, ⟨(some 4), .as 0 0 (.t 64), none⟩] [4]) .ret
abbrev c3_1 : AC := .seq (.ops 0 [⟨(some 35), .mv (.t 0), none⟩, ⟨(some 36), .call 14 [(.t 35)], none⟩, ⟨(some 34), .mv (.t 36), none⟩, ⟨(some 37), .ext (.t 34) 0, none⟩, ⟨(some 38), .ext (.t 34) 1, none⟩, ⟨(some 14), .al [.int .i64 0, .int .i64 0], none⟩, ⟨(some 13), .as 0 0 (.t 37), none⟩, ⟨none, .st (.t 14) (.t 38) 2, none⟩] [5, 6, 7, 8, 9, 10, 11, 12, 13, 14]) c3_0
abbrev c3_2 : AC := .seq (.ops 0 [⟨(some 30), .mv (.t 0), none⟩, ⟨(some 31), .call 13 [(.t 30)], none⟩, ⟨(some 29), .mv (.t 31), none⟩, ⟨(some 32), .ext (.t 29) 0, none⟩, ⟨(some 33), .ext (.t 29) 1, none⟩, ⟨(some 12), .al [.int .i64 0, .int .i64 0], none⟩, ⟨(some 11), .as 0 0 (.t 32), none⟩, ⟨none, .st (.t 12) (.t 33) 2, none⟩] [0, 5, 6, 7, 8, 9, 10, 11, 12]) c3_1
abbrev c3_3 : AC := .seq (.ops 0 [⟨(some 23), .mv (.t 0), none⟩, ⟨(some 24), .mv (.t 1), none⟩, ⟨(some 25), .call 12 [(.t 23), (.t 24)], none⟩, ⟨(some 22), .mv (.t 25), none⟩, ⟨(some 26), .ext (.t 22) 0, none⟩, ⟨(some 27), .ext (.t 22) 1, none⟩, ⟨(some 28), .ext (.t 22) 2, none⟩, ⟨(some 10), .al [.int .i64 0, .int .i64 0], none⟩, ⟨(some 8), .as 0 0 (.t 26), none⟩, ⟨(some 9), .as 0 0 (.t 27), none⟩, ⟨none, .st (.t 10) (.t 28) 2, none⟩] [0, 5, 6, 7, 8, 9, 10]) c3_2
abbrev c3_4 : AC := .seq (.ops 0 [⟨(some 16), .mv (.t 0), none⟩, ⟨(some 17), .mv (.t 1), none⟩, ⟨(some 18), .call 11 [(.t 16), (.t 17)], none⟩, ⟨(some 15), .mv (.t 18), none⟩, ⟨(some 19), .ext (.t 15) 0, none⟩, ⟨(some 20), .ext (.t 15) 1, none⟩, ⟨(some 21), .ext (.t 15) 2, none⟩, ⟨(some 7), .al [.int .i64 0, .int .i64 0], none⟩, ⟨(some 5), .as 0 0 (.t 19), none⟩, ⟨(some 6), .as 0 0 (.t 20), none⟩, ⟨none, .st (.t 7) (.t 21) 2, none⟩] [0, 1, 5, 6, 7]) c3_3
abbrev c3_5 : AC := .seq (.ops 0 [⟨(some 4), .as 0 0 (.k (.lf (.bool false))), none⟩] [0, 1]) c3_4
abbrev c3 : AC := c3_5
theorem c3_ok : compileFn Try.prog 3 = some (65, AC.strip c3, [.t 4]) := by kernel_rfl
/-- harrow/harrowlaw02.QuoteCuts -/
abbrev c4_0 : AC := .seq (.ops 0 [⟨(some 23), .call 15 [], none⟩, ⟨(some 24), .mv (.t 23), none⟩, ⟨(some 25), .mv (.t 5), (some (24, true))⟩, ⟨(some 26), .bin .eql (.t 25) (.k (.lf (.str ⟨#[]⟩))), (some (24, true))⟩, ⟨(some 27), .pk (.t 24) (.t 26) (.k (.lf (.bool false))), none⟩, ⟨(some 28), .mv (.t 27), none⟩, ⟨(some 29), .mv (.t 6), (some (28, true))⟩, ⟨(some 30), .bin .eql (.t 29) (.k (.lf (.int .i64 0))), (some (28, true))⟩, ⟨(some 31), .pk (.t 28) (.t 30) (.k (.lf (.bool false))), none⟩, ⟨(some 4), .as 0 0 (.t 31), none⟩] [4]) .ret
abbrev c4_1 : AC := .cond (.t 22) c4_0 .skip
abbrev c4_2 : AC := .seq (.ops 0 [⟨(some 20), .fa (.t 7) 1, none⟩, ⟨(some 21), .ld (.t 20) 1 false, none⟩, ⟨(some 22), .bin .neq (.t 21) (.k (.lf (.int .i64 0))), none⟩] [0, 1, 5, 6, 22]) c4_1
abbrev c4_3 : AC := .seq (.ops 0 [⟨(some 4), .as 0 0 (.k (.lf (.bool false))), none⟩] [4]) .ret
abbrev c4_4 : AC := .cond (.t 45) c4_3 .skip
abbrev c4_5 : AC := .seq (.ops 0 [⟨(some 32), .mv (.t 1), none⟩, ⟨(some 33), .bin .lss (.t 32) (.k (.lf (.int .i64 0))), none⟩, ⟨(some 34), .mv (.t 33), none⟩, ⟨(some 35), .mv (.t 6), (some (34, false))⟩, ⟨(some 36), .mv (.t 1), (some (34, false))⟩, ⟨(some 37), .bin .add (.t 36) (.k (.lf (.int .i64 2))), (some (34, false))⟩, ⟨(some 38), .bin .lss (.t 35) (.t 37), (some (34, false))⟩, ⟨(some 39), .pk (.t 34) (.k (.lf (.bool true))) (.t 38), none⟩, ⟨(some 40), .mv (.t 39), none⟩, ⟨(some 41), .mv (.t 6), (some (40, false))⟩, ⟨(some 42), .mv (.t 0), (some (40, false))⟩, ⟨(some 43), .lns (.t 42), (some (40, false))⟩, ⟨(some 44), .bin .gtr (.t 41) (.t 43), (some (40, false))⟩, ⟨(some 45), .pk (.t 40) (.k (.lf (.bool true))) (.t 44), none⟩] [0, 1, 5, 6, 45]) c4_4
abbrev c4_6 : AC := .seq (.ops 0 [⟨(some 63), .call 15 [], none⟩, ⟨(some 64), .mv (.t 63), none⟩, ⟨(some 65), .mv (.t 8), (some (64, true))⟩, ⟨(some 66), .mv (.t 5), (some (64, true))⟩, ⟨(some 67), .bin .eql (.t 65) (.t 66), (some (64, true))⟩, ⟨(some 68), .pk (.t 64) (.t 67) (.k (.lf (.bool false))), none⟩, ⟨(some 69), .mv (.t 68), none⟩, ⟨(some 70), .ld (.t 9) 2 true, (some (69, true))⟩, ⟨(some 71), .bd [.int .i64 0, .int .i64 0] [], (some (69, true))⟩, ⟨(some 72), .beq false [2, 2] (.t 70) (.t 71), (some (69, true))⟩, ⟨(some 73), .pk (.t 69) (.t 72) (.k (.lf (.bool false))), none⟩, ⟨(some 74), .mv (.t 73), none⟩, ⟨(some 75), .mv (.t 10), (some (74, true))⟩, ⟨(some 76), .mv (.t 5), (some (74, true))⟩, ⟨(some 77), .bin .eql (.t 75) (.t 76), (some (74, true))⟩, ⟨(some 78), .pk (.t 74) (.t 77) (.k (.lf (.bool false))), none⟩, ⟨(some 79), .mv (.t 78), none⟩, ⟨(some 80), .mv (.t 11), (some (79, true))⟩, ⟨(some 81), .mv (.t 6), (some (79, true))⟩, ⟨(some 82), .bin .eql (.t 80) (.t 81), (some (79, true))⟩, ⟨(some 83), .pk (.t 79) (.t 82) (.k (.lf (.bool false))), none⟩, ⟨(some 84), .mv (.t 83), none⟩, ⟨(some 85), .ld (.t 12) 2 true, (some (84, true))⟩, ⟨(some 86), .bd [.int .i64 0, .int .i64 0] [], (some (84, true))⟩, ⟨(some 87), .beq false [2, 2] (.t 85) (.t 86), (some (84, true))⟩, ⟨(some 88), .pk (.t 84) (.t 87) (.k (.lf (.bool false))), none⟩, ⟨(some 4), .as 0 0 (.t 88), none⟩] [4]) .ret
abbrev c4_7 : AC := .seq (.ops 0 [⟨(some 55), .mv (.t 0), none⟩, ⟨(some 56), .mv (.t 6), none⟩, ⟨(some 57), .sls (.t 55) none (some (.t 56)), none⟩, ⟨(some 58), .mv (.t 1), none⟩, ⟨(some 59), .call 11 [(.t 57), (.t 58)], none⟩, ⟨(some 54), .mv (.t 59), none⟩, ⟨(some 60), .ext (.t 54) 0, none⟩, ⟨(some 61), .ext (.t 54) 1, none⟩, ⟨(some 62), .ext (.t 54) 2, none⟩, ⟨(some 12), .al [.int .i64 0, .int .i64 0], none⟩, ⟨(some 10), .as 0 0 (.t 60), none⟩, ⟨(some 11), .as 0 0 (.t 61), none⟩, ⟨none, .st (.t 12) (.t 62) 2, none⟩] [5, 6, 8, 9, 10, 11, 12]) c4_6
abbrev c4_8 : AC := .seq (.ops 0 [⟨(some 47), .mv (.t 0), none⟩, ⟨(some 48), .mv (.t 1), none⟩, ⟨(some 49), .mv (.t 6), none⟩, ⟨(some 50), .sls (.t 47) (some (.t 48)) (some (.t 49)), none⟩, ⟨(some 51), .call 13 [(.t 50)], none⟩, ⟨(some 46), .mv (.t 51), none⟩, ⟨(some 52), .ext (.t 46) 0, none⟩, ⟨(some 53), .ext (.t 46) 1, none⟩, ⟨(some 9), .al [.int .i64 0, .int .i64 0], none⟩, ⟨(some 8), .as 0 0 (.t 52), none⟩, ⟨none, .st (.t 9) (.t 53) 2, none⟩] [0, 1, 5, 6, 8, 9]) c4_7
abbrev c4_9 : AC := .seq c4_5 c4_8
abbrev c4_10 : AC := .seq c4_2 c4_9
abbrev c4_11 : AC := .seq (.ops 0 [⟨(some 14), .mv (.t 0), none⟩, ⟨(some 15), .mv (.t 1), none⟩, ⟨(some 16), .call 11 [(.t 14), (.t 15)], none⟩, ⟨(some 13), .mv (.t 16), none⟩, ⟨(some 17), .ext (.t 13) 0, none⟩, ⟨(some 18), .ext (.t 13) 1, none⟩, ⟨(some 19), .ext (.t 13) 2, none⟩, ⟨(some 7), .al [.int .i64 0, .int .i64 0], none⟩, ⟨(some 5), .as 0 0 (.t 17), none⟩, ⟨(some 6), .as 0 0 (.t 18), none⟩, ⟨none, .st (.t 7) (.t 19) 2, none⟩] [0, 1, 5, 6, 7]) c4_10
abbrev c4_12 : AC := .seq (.ops 0 [⟨(some 4), .as 0 0 (.k (.lf (.bool false))), none⟩] [0, 1]) c4_11
abbrev c4 : AC := c4_12
theorem c4_ok : compileFn Try.prog 4 = some (89, AC.strip c4, [.t 4]) := by kernel_rfl
/-- harrow/quote.Cut -/
abbrev c11_0 : AC := .seq (.ops 0 [⟨(some 16), .bd [.int .i64 0, .int .i64 0] [(1, 1, (.k (.lf (.int .i64 2))))], none⟩, ⟨(some 4), .as 0 0 (.k (.lf (.str ⟨#[]⟩))), none⟩, ⟨(some 5), .as 0 0 (.k (.lf (.int .i64 0))), none⟩, ⟨none, .st (.t 6) (.t 16) 2, none⟩] [4, 5, 6]) .ret
abbrev c11_1 : AC := .seq (.ops 0 [⟨(some 26), .bd [.int .i64 0, .int .i64 0] [(1, 1, (.k (.lf (.int .i64 1))))], none⟩, ⟨(some 4), .as 0 0 (.k (.lf (.str ⟨#[]⟩))), none⟩, ⟨(some 5), .as 0 0 (.k (.lf (.int .i64 0))), none⟩, ⟨none, .st (.t 6) (.t 26) 2, none⟩] [4, 5, 6]) .ret
abbrev c11_2 : AC := .seq (.ops 0 [⟨(some 44), .mv (.t 1), none⟩, ⟨(some 45), .bd [.int .i64 0, .int .i64 0] [(0, 1, (.t 44)), (1, 1, (.k (.lf (.int .i64 20))))], none⟩, ⟨(some 4), .as 0 0 (.k (.lf (.str ⟨#[]⟩))), none⟩, ⟨(some 5), .as 0 0 (.k (.lf (.int .i64 0))), none⟩, ⟨none, .st (.t 6) (.t 45) 2, none⟩] [4, 5, 6]) .ret
abbrev c11_3 : AC := .cond (.t 27) c11_2 .skip
abbrev c11_4 : AC := .seq (.ops 0 [⟨(some 28), .mv (.t 1), none⟩, ⟨(some 29), .mv (.t 0), none⟩, ⟨(some 30), .lns (.t 29), none⟩, ⟨(some 31), .bin .eql (.t 28) (.t 30), none⟩, ⟨(some 32), .mv (.t 31), none⟩, ⟨(some 33), .mv (.t 0), (some (32, false))⟩, ⟨(some 34), .mv (.t 1), (some (32, false))⟩, ⟨(some 35), .ixs (.t 33) (.t 34), (some (32, false))⟩, ⟨(some 36), .bin .neq (.t 35) (.k (.lf (.int .u8 39))), (some (32, false))⟩, ⟨(some 37), .mv (.t 36), (some (32, false))⟩, ⟨(some 38), .mv (.t 0), (some (37, true))⟩, ⟨(some 39), .mv (.t 1), (some (37, true))⟩, ⟨(some 40), .ixs (.t 38) (.t 39), (some (37, true))⟩, ⟨(some 41), .bin .neq (.t 40) (.k (.lf (.int .u8 34))), (some (37, true))⟩, ⟨(some 42), .pk (.t 37) (.t 41) (.k (.lf (.bool false))), (some (32, false))⟩, ⟨(some 43), .pk (.t 32) (.k (.lf (.bool true))) (.t 42), none⟩, ⟨(some 27), .as 0 0 (.t 43), none⟩] [0, 1, 6, 27]) c11_3
abbrev c11_5 : AC := .cond (.t 17) c11_1 c11_4
abbrev c11_6 : AC := .seq (.ops 0 [⟨(some 18), .mv (.t 1), none⟩, ⟨(some 19), .bin .lss (.t 18) (.k (.lf (.int .i64 0))), none⟩, ⟨(some 20), .mv (.t 19), none⟩, ⟨(some 21), .mv (.t 1), (some (20, false))⟩, ⟨(some 22), .mv (.t 0), (some (20, false))⟩, ⟨(some 23), .lns (.t 22), (some (20, false))⟩, ⟨(some 24), .bin .gtr (.t 21) (.t 23), (some (20, false))⟩, ⟨(some 25), .pk (.t 20) (.k (.lf (.bool true))) (.t 24), none⟩, ⟨(some 17), .as 0 0 (.t 25), none⟩] [0, 1, 6, 17]) c11_5
abbrev c11_7 : AC := .cond (.t 12) c11_0 c11_6
abbrev c11_8 : AC := .seq (.ops 0 [⟨(some 13), .mv (.t 0), none⟩, ⟨(some 14), .lns (.t 13), none⟩, ⟨(some 15), .bin .gtr (.t 14) (.k (.lf (.int .i64 65536))), none⟩, ⟨(some 12), .as 0 0 (.t 15), none⟩] [0, 1, 6, 12]) c11_7
abbrev c11_9 : AC := .block 0 c11_8
abbrev c11_10 : AC := .cond (.t 51) .skip (.exit 1)
abbrev c11_11 : AC := .seq (.ops 0 [⟨(some 48), .mv (.t 8), none⟩, ⟨(some 49), .mv (.t 0), none⟩, ⟨(some 50), .lns (.t 49), none⟩, ⟨(some 51), .bin .lss (.t 48) (.t 50), none⟩] [0, 1, 6, 7, 8, 51]) c11_10
abbrev c11_12 : AC := .seq (.ops 0 [⟨(some 67), .mv (.t 7), none⟩, ⟨(some 68), .cbs (.t 67), none⟩, ⟨(some 69), .mv (.t 8), none⟩, ⟨(some 70), .bin .add (.t 69) (.k (.lf (.int .i64 1))), none⟩, ⟨(some 71), .bd [.int .i64 0, .int .i64 0] [], none⟩, ⟨(some 4), .as 0 0 (.t 68), none⟩, ⟨(some 5), .as 0 0 (.t 70), none⟩, ⟨none, .st (.t 6) (.t 71) 2, none⟩] [4, 5, 6]) .ret
abbrev c11_13 : AC := .seq (.ops 0 [⟨(some 79), .mv (.t 8), none⟩, ⟨(some 80), .bd [.int .i64 0, .int .i64 0] [(0, 1, (.t 79)), (1, 1, (.k (.lf (.int .i64 22))))], none⟩, ⟨(some 4), .as 0 0 (.k (.lf (.str ⟨#[]⟩))), none⟩, ⟨(some 5), .as 0 0 (.k (.lf (.int .i64 0))), none⟩, ⟨none, .st (.t 6) (.t 80) 2, none⟩] [4, 5, 6]) .ret
abbrev c11_14 : AC := .seq (.ops 0 [⟨(some 92), .mv (.t 8), none⟩, ⟨(some 93), .bd [.int .i64 0, .int .i64 0] [(0, 1, (.t 92)), (1, 1, (.k (.lf (.int .i64 21))))], none⟩, ⟨(some 4), .as 0 0 (.k (.lf (.str ⟨#[]⟩))), none⟩, ⟨(some 5), .as 0 0 (.k (.lf (.int .i64 0))), none⟩, ⟨none, .st (.t 6) (.t 93) 2, none⟩] [4, 5, 6]) .ret
abbrev c11_15 : AC := .cond (.t 91) c11_14 .skip
abbrev c11_16 : AC := .seq (.ops 0 [⟨(some 90), .mv (.t 11), none⟩, ⟨(some 91), .bin .eql (.t 90) (.k (.lf (.int .i64 0))), none⟩] [0, 1, 6, 7, 8, 10, 11, 91]) c11_15
abbrev c11_17 : AC := .seq (.ops 0 [⟨(some 94), .mv (.t 7), none⟩, ⟨(some 95), .mv (.t 10), none⟩, ⟨(some 96), .bs 5 1 1 [.int .u8 0] [(0, (.t 95))], none⟩, ⟨(some 97), .app 5 1 1 (.t 94) (.t 96), none⟩, ⟨(some 7), .as 5 1 (.t 97), none⟩] [0, 1, 6, 7, 8, 11]) (.ops 0 [⟨(some 98), .mv (.t 8), none⟩, ⟨(some 99), .mv (.t 11), none⟩, ⟨(some 100), .bin .add (.t 98) (.t 99), none⟩, ⟨(some 8), .as 0 0 (.t 100), none⟩] [0, 1, 6, 7, 8])
abbrev c11_18 : AC := .seq c11_16 c11_17
abbrev c11_19 : AC := .seq (.ops 0 [⟨(some 85), .mv (.t 0), none⟩, ⟨(some 86), .mv (.t 8), none⟩, ⟨(some 87), .call 26 [(.t 85), (.t 86)], none⟩, ⟨(some 84), .mv (.t 87), none⟩, ⟨(some 88), .ext (.t 84) 0, none⟩, ⟨(some 89), .ext (.t 84) 1, none⟩, ⟨(some 10), .as 0 0 (.t 88), none⟩, ⟨(some 11), .as 0 0 (.t 89), none⟩] [0, 1, 6, 7, 8, 10, 11]) c11_18
abbrev c11_20 : AC := .seq (.ops 0 [⟨(some 55), .mv (.t 7), none⟩, ⟨(some 56), .mv (.t 9), none⟩, ⟨(some 57), .bs 5 1 1 [.int .u8 0] [(0, (.t 56))], none⟩, ⟨(some 58), .app 5 1 1 (.t 55) (.t 57), none⟩, ⟨(some 7), .as 5 1 (.t 58), none⟩] [0, 1, 6, 7, 8]) (.ops 0 [⟨(some 59), .mv (.t 8), none⟩, ⟨(some 60), .bin .add (.t 59) (.k (.lf (.int .i64 1))), none⟩, ⟨(some 8), .as 0 0 (.t 60), none⟩] [0, 1, 6, 7, 8])
abbrev c11_21 : AC := .cond (.t 81) c11_19 c11_20
abbrev c11_22 : AC := .seq (.ops 0 [⟨(some 82), .mv (.t 9), none⟩, ⟨(some 83), .bin .eql (.t 82) (.k (.lf (.int .u8 92))), none⟩, ⟨(some 81), .as 0 0 (.t 83), none⟩] [0, 1, 6, 7, 8, 9, 81]) c11_21
abbrev c11_23 : AC := .cond (.t 72) c11_13 c11_22
abbrev c11_24 : AC := .seq (.ops 0 [⟨(some 73), .mv (.t 9), none⟩, ⟨(some 74), .bin .lss (.t 73) (.k (.lf (.int .u8 32))), none⟩, ⟨(some 75), .mv (.t 74), none⟩, ⟨(some 76), .mv (.t 9), (some (75, false))⟩, ⟨(some 77), .bin .eql (.t 76) (.k (.lf (.int .u8 127))), (some (75, false))⟩, ⟨(some 78), .pk (.t 75) (.k (.lf (.bool true))) (.t 77), none⟩, ⟨(some 72), .as 0 0 (.t 78), none⟩] [0, 1, 6, 7, 8, 9, 72]) c11_23
abbrev c11_25 : AC := .cond (.t 61) c11_12 c11_24
abbrev c11_26 : AC := .seq (.ops 0 [⟨(some 62), .mv (.t 9), none⟩, ⟨(some 63), .mv (.t 0), none⟩, ⟨(some 64), .mv (.t 1), none⟩, ⟨(some 65), .ixs (.t 63) (.t 64), none⟩, ⟨(some 66), .bin .eql (.t 62) (.t 65), none⟩, ⟨(some 61), .as 0 0 (.t 66), none⟩] [0, 1, 6, 7, 8, 9, 61]) c11_25
abbrev c11_27 : AC := .block 3 c11_26
abbrev c11_28 : AC := .seq (.ops 0 [⟨(some 52), .mv (.t 0), none⟩, ⟨(some 53), .mv (.t 8), none⟩, ⟨(some 54), .ixs (.t 52) (.t 53), none⟩, ⟨(some 9), .as 0 0 (.t 54), none⟩] [0, 1, 6, 7, 8, 9]) c11_27
abbrev c11_29 : AC := .block 2 c11_28
abbrev c11_30 : AC := .seq c11_11 c11_29
abbrev c11_31 : AC := .loop c11_30 [0, 1, 6, 7, 8]
abbrev c11_32 : AC := .block 1 c11_31
abbrev c11_33 : AC := .seq (.ops 0 [⟨(some 46), .mv (.t 1), none⟩, ⟨(some 47), .bin .add (.t 46) (.k (.lf (.int .i64 1))), none⟩, ⟨(some 8), .as 0 0 (.t 47), none⟩] [0, 1, 6, 7, 8]) c11_32
abbrev c11_34 : AC := .seq (.ops 0 [⟨(some 101), .mv (.t 0), none⟩, ⟨(some 102), .lns (.t 101), none⟩, ⟨(some 103), .bd [.int .i64 0, .int .i64 0] [(0, 1, (.t 102)), (1, 1, (.k (.lf (.int .i64 22))))], none⟩, ⟨(some 4), .as 0 0 (.k (.lf (.str ⟨#[]⟩))), none⟩, ⟨(some 5), .as 0 0 (.k (.lf (.int .i64 0))), none⟩, ⟨none, .st (.t 6) (.t 103) 2, none⟩] [4, 5, 6]) .ret
abbrev c11_35 : AC := .seq c11_33 c11_34
abbrev c11_36 : AC := .seq (.ops 0 [⟨(some 7), .as 5 1 (.k (.lf (.lst .nl 1 [] []))), none⟩] [0, 1, 6, 7]) c11_35
abbrev c11_37 : AC := .seq c11_9 c11_36
abbrev c11_38 : AC := .seq (.ops 0 [⟨(some 4), .as 0 0 (.k (.lf (.str ⟨#[]⟩))), none⟩, ⟨(some 5), .as 0 0 (.k (.lf (.int .i64 0))), none⟩, ⟨(some 6), .al [.int .i64 0, .int .i64 0], none⟩] [0, 1, 6]) c11_37
abbrev c11 : AC := c11_38
theorem c11_ok : compileFn Try.prog 11 = some (104, AC.strip c11, [.t 4, .t 5, .c 6 2 true]) := by kernel_rfl
/-- harrow/harrowref02.Cut -/
abbrev c12_0 : AC := .seq (.ops 0 [⟨(some 15), .bd [.int .i64 0, .int .i64 0] [(1, 1, (.k (.lf (.int .i64 2))))], none⟩, ⟨(some 4), .as 0 0 (.k (.lf (.str ⟨#[]⟩))), none⟩, ⟨(some 5), .as 0 0 (.k (.lf (.int .i64 0))), none⟩, ⟨none, .st (.t 6) (.t 15) 2, none⟩] [4, 5, 6]) .ret
abbrev c12_1 : AC := .cond (.t 14) c12_0 .skip
abbrev c12_2 : AC := .seq (.ops 0 [⟨(some 12), .mv (.t 0), none⟩, ⟨(some 13), .lns (.t 12), none⟩, ⟨(some 14), .bin .gtr (.t 13) (.k (.lf (.int .i64 65536))), none⟩] [0, 1, 6, 14]) c12_1
abbrev c12_3 : AC := .seq (.ops 0 [⟨(some 24), .bd [.int .i64 0, .int .i64 0] [(1, 1, (.k (.lf (.int .i64 1))))], none⟩, ⟨(some 4), .as 0 0 (.k (.lf (.str ⟨#[]⟩))), none⟩, ⟨(some 5), .as 0 0 (.k (.lf (.int .i64 0))), none⟩, ⟨none, .st (.t 6) (.t 24) 2, none⟩] [4, 5, 6]) .ret
abbrev c12_4 : AC := .cond (.t 23) c12_3 .skip
abbrev c12_5 : AC := .seq (.ops 0 [⟨(some 16), .mv (.t 1), none⟩, ⟨(some 17), .bin .lss (.t 16) (.k (.lf (.int .i64 0))), none⟩, ⟨(some 18), .mv (.t 17), none⟩, ⟨(some 19), .mv (.t 1), (some (18, false))⟩, ⟨(some 20), .mv (.t 0), (some (18, false))⟩, ⟨(some 21), .lns (.t 20), (some (18, false))⟩, ⟨(some 22), .bin .gtr (.t 19) (.t 21), (some (18, false))⟩, ⟨(some 23), .pk (.t 18) (.k (.lf (.bool true))) (.t 22), none⟩] [0, 1, 6, 23]) c12_4
abbrev c12_6 : AC := .seq (.ops 0 [⟨(some 41), .mv (.t 1), none⟩, ⟨(some 42), .bd [.int .i64 0, .int .i64 0] [(0, 1, (.t 41)), (1, 1, (.k (.lf (.int .i64 20))))], none⟩, ⟨(some 4), .as 0 0 (.k (.lf (.str ⟨#[]⟩))), none⟩, ⟨(some 5), .as 0 0 (.k (.lf (.int .i64 0))), none⟩, ⟨none, .st (.t 6) (.t 42) 2, none⟩] [4, 5, 6]) .ret
abbrev c12_7 : AC := .cond (.t 40) c12_6 .skip
abbrev c12_8 : AC := .seq (.ops 0 [⟨(some 25), .mv (.t 1), none⟩, ⟨(some 26), .mv (.t 0), none⟩, ⟨(some 27), .lns (.t 26), none⟩, ⟨(some 28), .bin .eql (.t 25) (.t 27), none⟩, ⟨(some 29), .mv (.t 28), none⟩, ⟨(some 30), .mv (.t 0), (some (29, false))⟩, ⟨(some 31), .mv (.t 1), (some (29, false))⟩, ⟨(some 32), .ixs (.t 30) (.t 31), (some (29, false))⟩, ⟨(some 33), .bin .neq (.t 32) (.k (.lf (.int .u8 39))), (some (29, false))⟩, ⟨(some 34), .mv (.t 33), (some (29, false))⟩, ⟨(some 35), .mv (.t 0), (some (34, true))⟩, ⟨(some 36), .mv (.t 1), (some (34, true))⟩, ⟨(some 37), .ixs (.t 35) (.t 36), (some (34, true))⟩, ⟨(some 38), .bin .neq (.t 37) (.k (.lf (.int .u8 34))), (some (34, true))⟩, ⟨(some 39), .pk (.t 34) (.t 38) (.k (.lf (.bool false))), (some (29, false))⟩, ⟨(some 40), .pk (.t 29) (.k (.lf (.bool true))) (.t 39), none⟩] [0, 1, 6, 40]) c12_7
abbrev c12_9 : AC := .cond (.t 49) .skip (.exit 0)
abbrev c12_10 : AC := .seq (.ops 0 [⟨(some 46), .mv (.t 8), none⟩, ⟨(some 47), .mv (.t 0), none⟩, ⟨(some 48), .lns (.t 47), none⟩, ⟨(some 49), .bin .lss (.t 46) (.t 48), none⟩] [0, 1, 6, 7, 8, 49]) c12_9
abbrev c12_11 : AC := .seq (.ops 0 [⟨(some 65), .mv (.t 7), none⟩, ⟨(some 66), .cbs (.t 65), none⟩, ⟨(some 67), .mv (.t 8), none⟩, ⟨(some 68), .bin .add (.t 67) (.k (.lf (.int .i64 1))), none⟩, ⟨(some 69), .bd [.int .i64 0, .int .i64 0] [], none⟩, ⟨(some 4), .as 0 0 (.t 66), none⟩, ⟨(some 5), .as 0 0 (.t 68), none⟩, ⟨none, .st (.t 6) (.t 69) 2, none⟩] [4, 5, 6]) .ret
abbrev c12_12 : AC := .seq (.ops 0 [⟨(some 81), .mv (.t 8), none⟩, ⟨(some 82), .bd [.int .i64 0, .int .i64 0] [(0, 1, (.t 81)), (1, 1, (.k (.lf (.int .i64 21))))], none⟩, ⟨(some 4), .as 0 0 (.k (.lf (.str ⟨#[]⟩))), none⟩, ⟨(some 5), .as 0 0 (.k (.lf (.int .i64 0))), none⟩, ⟨none, .st (.t 6) (.t 82) 2, none⟩] [4, 5, 6]) .ret
abbrev c12_13 : AC := .cond (.t 80) c12_12 .skip
abbrev c12_14 : AC := .seq (.ops 0 [⟨(some 79), .mv (.t 11), none⟩, ⟨(some 80), .bin .eql (.t 79) (.k (.lf (.int .i64 0))), none⟩] [0, 1, 6, 7, 8, 10, 11, 80]) c12_13
abbrev c12_15 : AC := .seq (.ops 0 [⟨(some 83), .mv (.t 7), none⟩, ⟨(some 84), .mv (.t 10), none⟩, ⟨(some 85), .bs 5 1 1 [.int .u8 0] [(0, (.t 84))], none⟩, ⟨(some 86), .app 5 1 1 (.t 83) (.t 85), none⟩, ⟨(some 7), .as 5 1 (.t 86), none⟩] [0, 1, 6, 7, 8, 11]) (.ops 0 [⟨(some 87), .mv (.t 8), none⟩, ⟨(some 88), .mv (.t 11), none⟩, ⟨(some 89), .bin .add (.t 87) (.t 88), none⟩, ⟨(some 8), .as 0 0 (.t 89), none⟩] [0, 1, 6, 7, 8])
abbrev c12_16 : AC := .seq c12_14 c12_15
abbrev c12_17 : AC := .seq (.ops 0 [⟨(some 74), .mv (.t 0), none⟩, ⟨(some 75), .mv (.t 8), none⟩, ⟨(some 76), .call 27 [(.t 74), (.t 75)], none⟩, ⟨(some 73), .mv (.t 76), none⟩, ⟨(some 77), .ext (.t 73) 0, none⟩, ⟨(some 78), .ext (.t 73) 1, none⟩, ⟨(some 10), .as 0 0 (.t 77), none⟩, ⟨(some 11), .as 0 0 (.t 78), none⟩] [0, 1, 6, 7, 8, 10, 11]) c12_16
abbrev c12_18 : AC := .seq (.ops 0 [⟨(some 97), .mv (.t 8), none⟩, ⟨(some 98), .bd [.int .i64 0, .int .i64 0] [(0, 1, (.t 97)), (1, 1, (.k (.lf (.int .i64 22))))], none⟩, ⟨(some 4), .as 0 0 (.k (.lf (.str ⟨#[]⟩))), none⟩, ⟨(some 5), .as 0 0 (.k (.lf (.int .i64 0))), none⟩, ⟨none, .st (.t 6) (.t 98) 2, none⟩] [4, 5, 6]) .ret
abbrev c12_19 : AC := .seq (.ops 0 [⟨(some 53), .mv (.t 7), none⟩, ⟨(some 54), .mv (.t 9), none⟩, ⟨(some 55), .bs 5 1 1 [.int .u8 0] [(0, (.t 54))], none⟩, ⟨(some 56), .app 5 1 1 (.t 53) (.t 55), none⟩, ⟨(some 7), .as 5 1 (.t 56), none⟩] [0, 1, 6, 7, 8]) (.ops 0 [⟨(some 57), .mv (.t 8), none⟩, ⟨(some 58), .bin .add (.t 57) (.k (.lf (.int .i64 1))), none⟩, ⟨(some 8), .as 0 0 (.t 58), none⟩] [0, 1, 6, 7, 8])
abbrev c12_20 : AC := .cond (.t 90) c12_18 c12_19
abbrev c12_21 : AC := .seq (.ops 0 [⟨(some 91), .mv (.t 9), none⟩, ⟨(some 92), .bin .lss (.t 91) (.k (.lf (.int .u8 32))), none⟩, ⟨(some 93), .mv (.t 92), none⟩, ⟨(some 94), .mv (.t 9), (some (93, false))⟩, ⟨(some 95), .bin .eql (.t 94) (.k (.lf (.int .u8 127))), (some (93, false))⟩, ⟨(some 96), .pk (.t 93) (.k (.lf (.bool true))) (.t 95), none⟩, ⟨(some 90), .as 0 0 (.t 96), none⟩] [0, 1, 6, 7, 8, 9, 90]) c12_20
abbrev c12_22 : AC := .cond (.t 70) c12_17 c12_21
abbrev c12_23 : AC := .seq (.ops 0 [⟨(some 71), .mv (.t 9), none⟩, ⟨(some 72), .bin .eql (.t 71) (.k (.lf (.int .u8 92))), none⟩, ⟨(some 70), .as 0 0 (.t 72), none⟩] [0, 1, 6, 7, 8, 9, 70]) c12_22
abbrev c12_24 : AC := .cond (.t 59) c12_11 c12_23
abbrev c12_25 : AC := .seq (.ops 0 [⟨(some 60), .mv (.t 9), none⟩, ⟨(some 61), .mv (.t 0), none⟩, ⟨(some 62), .mv (.t 1), none⟩, ⟨(some 63), .ixs (.t 61) (.t 62), none⟩, ⟨(some 64), .bin .eql (.t 60) (.t 63), none⟩, ⟨(some 59), .as 0 0 (.t 64), none⟩] [0, 1, 6, 7, 8, 9, 59]) c12_24
abbrev c12_26 : AC := .block 2 c12_25
abbrev c12_27 : AC := .seq (.ops 0 [⟨(some 50), .mv (.t 0), none⟩, ⟨(some 51), .mv (.t 8), none⟩, ⟨(some 52), .ixs (.t 50) (.t 51), none⟩, ⟨(some 9), .as 0 0 (.t 52), none⟩] [0, 1, 6, 7, 8, 9]) c12_26
abbrev c12_28 : AC := .block 1 c12_27
abbrev c12_29 : AC := .seq c12_10 c12_28
abbrev c12_30 : AC := .loop c12_29 [0, 1, 6, 7, 8]
abbrev c12_31 : AC := .block 0 c12_30
abbrev c12_32 : AC := .seq (.ops 0 [⟨(some 44), .mv (.t 1), none⟩, ⟨(some 45), .bin .add (.t 44) (.k (.lf (.int .i64 1))), none⟩, ⟨(some 8), .as 0 0 (.t 45), none⟩] [0, 1, 6, 7, 8]) c12_31
abbrev c12_33 : AC := .seq (.ops 0 [⟨(some 99), .mv (.t 0), none⟩, ⟨(some 100), .lns (.t 99), none⟩, ⟨(some 101), .bd [.int .i64 0, .int .i64 0] [(0, 1, (.t 100)), (1, 1, (.k (.lf (.int .i64 22))))], none⟩, ⟨(some 4), .as 0 0 (.k (.lf (.str ⟨#[]⟩))), none⟩, ⟨(some 5), .as 0 0 (.k (.lf (.int .i64 0))), none⟩, ⟨none, .st (.t 6) (.t 101) 2, none⟩] [4, 5, 6]) .ret
abbrev c12_34 : AC := .seq c12_32 c12_33
abbrev c12_35 : AC := .seq (.ops 0 [⟨(some 43), .bs 5 1 0 [.int .u8 0] [], none⟩, ⟨(some 7), .as 5 1 (.t 43), none⟩] [0, 1, 6, 7]) c12_34
abbrev c12_36 : AC := .seq c12_8 c12_35
abbrev c12_37 : AC := .seq c12_5 c12_36
abbrev c12_38 : AC := .seq c12_2 c12_37
abbrev c12_39 : AC := .seq (.ops 0 [⟨(some 4), .as 0 0 (.k (.lf (.str ⟨#[]⟩))), none⟩, ⟨(some 5), .as 0 0 (.k (.lf (.int .i64 0))), none⟩, ⟨(some 6), .al [.int .i64 0, .int .i64 0], none⟩] [0, 1, 6]) c12_38
abbrev c12 : AC := c12_39
theorem c12_ok : compileFn Try.prog 12 = some (102, AC.strip c12, [.t 4, .t 5, .c 6 2 true]) := by kernel_rfl
/-- harrow/quote.Unquote -/
abbrev c13_0 : AC := .seq (.ops 0 [⟨(some 22), .mv (.t 5), none⟩, ⟨(some 23), .bd [.int .i64 0, .int .i64 0] [(0, 1, (.t 22)), (1, 1, (.k (.lf (.int .i64 20))))], none⟩, ⟨(some 2), .as 0 0 (.k (.lf (.str ⟨#[]⟩))), none⟩, ⟨none, .st (.t 3) (.t 23) 2, none⟩] [2, 3]) .ret
abbrev c13_1 : AC := .cond (.t 21) c13_0 .skip
abbrev c13_2 : AC := .seq (.ops 0 [⟨(some 13), .ld (.t 6) 2 true, none⟩, ⟨(some 14), .bd [.int .i64 0, .int .i64 0] [], none⟩, ⟨(some 15), .beq false [2, 2] (.t 13) (.t 14), none⟩, ⟨(some 16), .mv (.t 15), none⟩, ⟨(some 17), .mv (.t 5), (some (16, true))⟩, ⟨(some 18), .mv (.t 0), (some (16, true))⟩, ⟨(some 19), .lns (.t 18), (some (16, true))⟩, ⟨(some 20), .bin .lss (.t 17) (.t 19), (some (16, true))⟩, ⟨(some 21), .pk (.t 16) (.t 20) (.k (.lf (.bool false))), none⟩] [3, 4, 5, 6, 21]) c13_1
abbrev c13_3 : AC := .seq (.ops 1 [⟨(some 24), .mv (.t 4), none⟩, ⟨(some 25), .ld (.t 6) 2 true, none⟩, ⟨(some 2), .as 0 0 (.t 24), none⟩, ⟨none, .st (.t 3) (.t 25) 2, none⟩] [2, 3]) .ret
abbrev c13_4 : AC := .seq c13_2 c13_3
abbrev c13_5 : AC := .seq (.ops 0 [⟨(some 8), .mv (.t 0), none⟩, ⟨(some 9), .call 11 [(.t 8), (.k (.lf (.int .i64 0)))], none⟩, ⟨(some 7), .mv (.t 9), none⟩, ⟨(some 10), .ext (.t 7) 0, none⟩, ⟨(some 11), .ext (.t 7) 1, none⟩, ⟨(some 12), .ext (.t 7) 2, none⟩, ⟨(some 6), .al [.int .i64 0, .int .i64 0], none⟩, ⟨(some 4), .as 0 0 (.t 10), none⟩, ⟨(some 5), .as 0 0 (.t 11), none⟩, ⟨none, .st (.t 6) (.t 12) 2, none⟩] [0, 3, 4, 5, 6]) c13_4
abbrev c13_6 : AC := .seq (.ops 0 [⟨(some 2), .as 0 0 (.k (.lf (.str ⟨#[]⟩))), none⟩, ⟨(some 3), .al [.int .i64 0, .int .i64 0], none⟩] [0, 3]) c13_5
abbrev c13 : AC := c13_6
theorem c13_ok : compileFn Try.prog 13 = some (26, AC.strip c13, [.t 2, .c 3 2 true]) := by kernel_rfl
/-- harrow/harrowref02.Unquote -/
abbrev c14_0 : AC := .seq (.ops 1 [⟨(some 16), .ld (.t 6) 2 true, none⟩, ⟨(some 2), .as 0 0 (.k (.lf (.str ⟨#[]⟩))), none⟩, ⟨none, .st (.t 3) (.t 16) 2, none⟩] [2, 3]) .ret
abbrev c14_1 : AC := .cond (.t 15) c14_0 .skip
abbrev c14_2 : AC := .seq (.ops 0 [⟨(some 13), .fa (.t 6) 1, none⟩, ⟨(some 14), .ld (.t 13) 1 false, none⟩, ⟨(some 15), .bin .neq (.t 14) (.k (.lf (.int .i64 0))), none⟩] [0, 3, 4, 5, 6, 15]) c14_1
abbrev c14_3 : AC := .seq (.ops 0 [⟨(some 21), .mv (.t 5), none⟩, ⟨(some 22), .bd [.int .i64 0, .int .i64 0] [(0, 1, (.t 21)), (1, 1, (.k (.lf (.int .i64 20))))], none⟩, ⟨(some 2), .as 0 0 (.k (.lf (.str ⟨#[]⟩))), none⟩, ⟨none, .st (.t 3) (.t 22) 2, none⟩] [2, 3]) .ret
abbrev c14_4 : AC := .cond (.t 20) c14_3 .skip
abbrev c14_5 : AC := .seq (.ops 0 [⟨(some 17), .mv (.t 5), none⟩, ⟨(some 18), .mv (.t 0), none⟩, ⟨(some 19), .lns (.t 18), none⟩, ⟨(some 20), .bin .lss (.t 17) (.t 19), none⟩] [3, 4, 5, 20]) c14_4
abbrev c14_6 : AC := .seq (.ops 0 [⟨(some 23), .mv (.t 4), none⟩, ⟨(some 24), .bd [.int .i64 0, .int .i64 0] [], none⟩, ⟨(some 2), .as 0 0 (.t 23), none⟩, ⟨none, .st (.t 3) (.t 24) 2, none⟩] [2, 3]) .ret
abbrev c14_7 : AC := .seq c14_5 c14_6
abbrev c14_8 : AC := .seq c14_2 c14_7
abbrev c14_9 : AC := .seq (.ops 0 [⟨(some 8), .mv (.t 0), none⟩, ⟨(some 9), .call 12 [(.t 8), (.k (.lf (.int .i64 0)))], none⟩, ⟨(some 7), .mv (.t 9), none⟩, ⟨(some 10), .ext (.t 7) 0, none⟩, ⟨(some 11), .ext (.t 7) 1, none⟩, ⟨(some 12), .ext (.t 7) 2, none⟩, ⟨(some 6), .al [.int .i64 0, .int .i64 0], none⟩, ⟨(some 4), .as 0 0 (.t 10), none⟩, ⟨(some 5), .as 0 0 (.t 11), none⟩, ⟨none, .st (.t 6) (.t 12) 2, none⟩] [0, 3, 4, 5, 6]) c14_8
abbrev c14_10 : AC := .seq (.ops 0 [⟨(some 2), .as 0 0 (.k (.lf (.str ⟨#[]⟩))), none⟩, ⟨(some 3), .al [.int .i64 0, .int .i64 0], none⟩] [0, 3]) c14_9
abbrev c14 : AC := c14_10
theorem c14_ok : compileFn Try.prog 14 = some (25, AC.strip c14, [.t 2, .c 3 2 true]) := by kernel_rfl
/-- harrow/harrowlaw02.lives -/
abbrev c15_0 : AC := .seq (.ops 0 [⟨(some 7), .mv (.t 1), none⟩, ⟨(some 8), .bin .eql (.t 7) (.k (.lf (.str ⟨#[97]⟩))), none⟩, ⟨(some 9), .mv (.t 8), none⟩, ⟨(some 10), .ld (.t 2) 2 true, (some (9, true))⟩, ⟨(some 11), .bd [.int .i64 0, .int .i64 0] [], (some (9, true))⟩, ⟨(some 12), .beq false [2, 2] (.t 10) (.t 11), (some (9, true))⟩, ⟨(some 13), .pk (.t 9) (.t 12) (.k (.lf (.bool false))), none⟩, ⟨(some 0), .as 0 0 (.t 13), none⟩] [0]) .ret
abbrev c15_1 : AC := .seq (.ops 0 [⟨(some 4), .call 13 [(.k (.lf (.str ⟨#[39, 97, 39]⟩)))], none⟩, ⟨(some 3), .mv (.t 4), none⟩, ⟨(some 5), .ext (.t 3) 0, none⟩, ⟨(some 6), .ext (.t 3) 1, none⟩, ⟨(some 2), .al [.int .i64 0, .int .i64 0], none⟩, ⟨(some 1), .as 0 0 (.t 5), none⟩, ⟨none, .st (.t 2) (.t 6) 2, none⟩] [1, 2]) c15_0
abbrev c15_2 : AC := .seq (.ops 0 [⟨(some 0), .as 0 0 (.k (.lf (.bool false))), none⟩] []) c15_1
abbrev c15 : AC := c15_2
theorem c15_ok : compileFn Try.prog 15 = some (14, AC.strip c15, [.t 0]) := by kernel_rfl
/-- harrow/quote.escape -/
abbrev c26_0 : AC := .seq (.ops 0 [⟨(some 4), .as 0 0 (.k (.lf (.int .u8 0))), none⟩, ⟨(some 5), .as 0 0 (.k (.lf (.int .i64 0))), none⟩] [4, 5]) .ret
abbrev c26_1 : AC := .cond (.t 15) c26_0 .skip
abbrev c26_2 : AC := .seq (.ops 0 [⟨(some 11), .mv (.t 1), none⟩, ⟨(some 12), .bin .add (.t 11) (.k (.lf (.int .i64 1))), none⟩, ⟨(some 13), .mv (.t 0), none⟩, ⟨(some 14), .lns (.t 13), none⟩, ⟨(some 15), .bin .geq (.t 12) (.t 14), none⟩] [0, 1, 15]) c26_1
abbrev c26_3 : AC := .seq (.ops 0 [⟨(some 4), .as 0 0 (.k (.lf (.int .u8 10))), none⟩, ⟨(some 5), .as 0 0 (.k (.lf (.int .i64 2))), none⟩] [4, 5]) .ret
abbrev c26_4 : AC := .seq (.ops 0 [⟨(some 4), .as 0 0 (.k (.lf (.int .u8 13))), none⟩, ⟨(some 5), .as 0 0 (.k (.lf (.int .i64 2))), none⟩] [4, 5]) .ret
abbrev c26_5 : AC := .seq (.ops 0 [⟨(some 4), .as 0 0 (.k (.lf (.int .u8 9))), none⟩, ⟨(some 5), .as 0 0 (.k (.lf (.int .i64 2))), none⟩] [4, 5]) .ret
abbrev c26_6 : AC := .cond (.t 27) .skip (.ops 0 [⟨(some 30), .bin .eql (.t 20) (.k (.lf (.int .u8 34))), none⟩, ⟨(some 27), .as 0 0 (.t 30), none⟩] [0, 1, 6, 20, 27])
abbrev c26_7 : AC := .seq (.ops 0 [⟨(some 29), .bin .eql (.t 20) (.k (.lf (.int .u8 39))), none⟩, ⟨(some 27), .as 0 0 (.t 29), none⟩] [0, 1, 6, 20, 27]) c26_6
abbrev c26_8 : AC := .cond (.t 27) .skip c26_7
abbrev c26_9 : AC := .seq (.ops 0 [⟨(some 28), .bin .eql (.t 20) (.k (.lf (.int .u8 92))), none⟩, ⟨(some 27), .as 0 0 (.t 28), none⟩] [0, 1, 6, 20, 27]) c26_8
abbrev c26_10 : AC := .seq (.ops 0 [⟨(some 31), .mv (.t 6), none⟩, ⟨(some 4), .as 0 0 (.t 31), none⟩, ⟨(some 5), .as 0 0 (.k (.lf (.int .i64 2))), none⟩] [4, 5]) .ret
abbrev c26_11 : AC := .seq (.ops 0 [⟨(some 59), .mv (.t 7), none⟩, ⟨(some 60), .bin .shl (.t 59) (.k (.lf (.int .u64 4))), none⟩, ⟨(some 61), .mv (.t 9), none⟩, ⟨(some 62), .bin .or (.t 60) (.t 61), none⟩, ⟨(some 4), .as 0 0 (.t 62), none⟩, ⟨(some 5), .as 0 0 (.k (.lf (.int .i64 4))), none⟩] [4, 5]) .ret
abbrev c26_12 : AC := .cond (.t 58) c26_11 .skip
abbrev c26_13 : AC := .seq (.ops 0 [⟨(some 55), .mv (.t 8), none⟩, ⟨(some 56), .mv (.t 55), none⟩, ⟨(some 57), .mv (.t 10), (some (56, true))⟩, ⟨(some 58), .pk (.t 56) (.t 57) (.k (.lf (.bool false))), none⟩] [7, 9, 58]) c26_12
abbrev c26_14 : AC := .seq (.ops 0 [⟨(some 48), .mv (.t 0), none⟩, ⟨(some 49), .mv (.t 1), none⟩, ⟨(some 50), .bin .add (.t 49) (.k (.lf (.int .i64 3))), none⟩, ⟨(some 51), .ixs (.t 48) (.t 50), none⟩, ⟨(some 52), .call 41 [(.t 51)], none⟩, ⟨(some 47), .mv (.t 52), none⟩, ⟨(some 53), .ext (.t 47) 0, none⟩, ⟨(some 54), .ext (.t 47) 1, none⟩, ⟨(some 9), .as 0 0 (.t 53), none⟩, ⟨(some 10), .as 0 0 (.t 54), none⟩] [7, 8, 9, 10]) c26_13
abbrev c26_15 : AC := .seq (.ops 0 [⟨(some 40), .mv (.t 0), none⟩, ⟨(some 41), .mv (.t 1), none⟩, ⟨(some 42), .bin .add (.t 41) (.k (.lf (.int .i64 2))), none⟩, ⟨(some 43), .ixs (.t 40) (.t 42), none⟩, ⟨(some 44), .call 41 [(.t 43)], none⟩, ⟨(some 39), .mv (.t 44), none⟩, ⟨(some 45), .ext (.t 39) 0, none⟩, ⟨(some 46), .ext (.t 39) 1, none⟩, ⟨(some 7), .as 0 0 (.t 45), none⟩, ⟨(some 8), .as 0 0 (.t 46), none⟩] [0, 1, 7, 8]) c26_14
abbrev c26_16 : AC := .cond (.t 38) c26_15 .skip
abbrev c26_17 : AC := .seq (.ops 0 [⟨(some 34), .mv (.t 1), none⟩, ⟨(some 35), .bin .add (.t 34) (.k (.lf (.int .i64 3))), none⟩, ⟨(some 36), .mv (.t 0), none⟩, ⟨(some 37), .lns (.t 36), none⟩, ⟨(some 38), .bin .lss (.t 35) (.t 37), none⟩] [0, 1, 38]) c26_16
abbrev c26_18 : AC := .cond (.t 32) c26_17 .skip
abbrev c26_19 : AC := .seq (.ops 0 [⟨(some 33), .bin .eql (.t 20) (.k (.lf (.int .u8 120))), none⟩, ⟨(some 32), .as 0 0 (.t 33), none⟩] [0, 1, 32]) c26_18
abbrev c26_20 : AC := .cond (.t 27) c26_10 c26_19
abbrev c26_21 : AC := .seq c26_9 c26_20
abbrev c26_22 : AC := .cond (.t 25) c26_5 c26_21
abbrev c26_23 : AC := .seq (.ops 0 [⟨(some 26), .bin .eql (.t 20) (.k (.lf (.int .u8 116))), none⟩, ⟨(some 25), .as 0 0 (.t 26), none⟩] [0, 1, 6, 20, 25]) c26_22
abbrev c26_24 : AC := .cond (.t 23) c26_4 c26_23
abbrev c26_25 : AC := .seq (.ops 0 [⟨(some 24), .bin .eql (.t 20) (.k (.lf (.int .u8 114))), none⟩, ⟨(some 23), .as 0 0 (.t 24), none⟩] [0, 1, 6, 20, 23]) c26_24
abbrev c26_26 : AC := .cond (.t 21) c26_3 c26_25
abbrev c26_27 : AC := .seq (.ops 0 [⟨(some 22), .bin .eql (.t 20) (.k (.lf (.int .u8 110))), none⟩, ⟨(some 21), .as 0 0 (.t 22), none⟩] [0, 1, 6, 20, 21]) c26_26
abbrev c26_28 : AC := .block 0 c26_27
abbrev c26_29 : AC := .seq (.ops 0 [⟨(some 20), .mv (.t 6), none⟩] [0, 1, 6, 20]) c26_28
abbrev c26_30 : AC := .seq (.ops 0 [⟨(some 16), .mv (.t 0), none⟩, ⟨(some 17), .mv (.t 1), none⟩, ⟨(some 18), .bin .add (.t 17) (.k (.lf (.int .i64 1))), none⟩, ⟨(some 19), .ixs (.t 16) (.t 18), none⟩, ⟨(some 6), .as 0 0 (.t 19), none⟩] [0, 1, 6]) c26_29
abbrev c26_31 : AC := .seq (.ops 0 [⟨(some 4), .as 0 0 (.k (.lf (.int .u8 0))), none⟩, ⟨(some 5), .as 0 0 (.k (.lf (.int .i64 0))), none⟩] [4, 5]) .ret
abbrev c26_32 : AC := .seq c26_30 c26_31
abbrev c26_33 : AC := .seq c26_2 c26_32
abbrev c26_34 : AC := .seq (.ops 0 [⟨(some 4), .as 0 0 (.k (.lf (.int .u8 0))), none⟩, ⟨(some 5), .as 0 0 (.k (.lf (.int .i64 0))), none⟩] [0, 1]) c26_33
abbrev c26 : AC := c26_34
theorem c26_ok : compileFn Try.prog 26 = some (63, AC.strip c26, [.t 4, .t 5]) := by kernel_rfl
/-- harrow/harrowref02.escape -/
abbrev c27_0 : AC := .seq (.ops 0 [⟨(some 4), .as 0 0 (.k (.lf (.int .u8 0))), none⟩, ⟨(some 5), .as 0 0 (.k (.lf (.int .i64 0))), none⟩] [4, 5]) .ret
abbrev c27_1 : AC := .cond (.t 10) c27_0 .skip
abbrev c27_2 : AC := .seq (.ops 0 [⟨(some 6), .mv (.t 1), none⟩, ⟨(some 7), .bin .add (.t 6) (.k (.lf (.int .i64 1))), none⟩, ⟨(some 8), .mv (.t 0), none⟩, ⟨(some 9), .lns (.t 8), none⟩, ⟨(some 10), .bin .geq (.t 7) (.t 9), none⟩] [0, 1, 10]) c27_1
abbrev c27_3 : AC := .seq (.ops 0 [⟨(some 4), .as 0 0 (.k (.lf (.int .u8 10))), none⟩, ⟨(some 5), .as 0 0 (.k (.lf (.int .i64 2))), none⟩] [4, 5]) .ret
abbrev c27_4 : AC := .seq (.ops 0 [⟨(some 4), .as 0 0 (.k (.lf (.int .u8 13))), none⟩, ⟨(some 5), .as 0 0 (.k (.lf (.int .i64 2))), none⟩] [4, 5]) .ret
abbrev c27_5 : AC := .seq (.ops 0 [⟨(some 4), .as 0 0 (.k (.lf (.int .u8 9))), none⟩, ⟨(some 5), .as 0 0 (.k (.lf (.int .i64 2))), none⟩] [4, 5]) .ret
abbrev c27_6 : AC := .cond (.t 21) .skip (.ops 0 [⟨(some 24), .bin .eql (.t 14) (.k (.lf (.int .u8 34))), none⟩, ⟨(some 21), .as 0 0 (.t 24), none⟩] [0, 1, 14, 21])
abbrev c27_7 : AC := .seq (.ops 0 [⟨(some 23), .bin .eql (.t 14) (.k (.lf (.int .u8 39))), none⟩, ⟨(some 21), .as 0 0 (.t 23), none⟩] [0, 1, 14, 21]) c27_6
abbrev c27_8 : AC := .cond (.t 21) .skip c27_7
abbrev c27_9 : AC := .seq (.ops 0 [⟨(some 22), .bin .eql (.t 14) (.k (.lf (.int .u8 92))), none⟩, ⟨(some 21), .as 0 0 (.t 22), none⟩] [0, 1, 14, 21]) c27_8
abbrev c27_10 : AC := .seq (.ops 0 [⟨(some 25), .mv (.t 0), none⟩, ⟨(some 26), .mv (.t 1), none⟩, ⟨(some 27), .bin .add (.t 26) (.k (.lf (.int .i64 1))), none⟩, ⟨(some 28), .ixs (.t 25) (.t 27), none⟩, ⟨(some 4), .as 0 0 (.t 28), none⟩, ⟨(some 5), .as 0 0 (.k (.lf (.int .i64 2))), none⟩] [4, 5]) .ret
abbrev c27_11 : AC := .seq (.ops 1 [⟨(some 52), .mv (.t 0), none⟩, ⟨(some 53), .mv (.t 1), none⟩, ⟨(some 54), .bin .add (.t 53) (.k (.lf (.int .i64 2))), none⟩, ⟨(some 55), .ixs (.t 52) (.t 54), none⟩, ⟨(some 56), .call 42 [(.t 55)], none⟩, ⟨(some 57), .bin .mul (.t 56) (.k (.lf (.int .i64 16))), none⟩, ⟨(some 58), .mv (.t 0), none⟩, ⟨(some 59), .mv (.t 1), none⟩, ⟨(some 60), .bin .add (.t 59) (.k (.lf (.int .i64 3))), none⟩, ⟨(some 61), .ixs (.t 58) (.t 60), none⟩, ⟨(some 62), .call 42 [(.t 61)], none⟩, ⟨(some 63), .bin .add (.t 57) (.t 62), none⟩, ⟨(some 64), .cvi .u8 (.t 63), none⟩, ⟨(some 4), .as 0 0 (.t 64), none⟩, ⟨(some 5), .as 0 0 (.k (.lf (.int .i64 4))), none⟩] [4, 5]) .ret
abbrev c27_12 : AC := .cond (.t 51) c27_11 .skip
abbrev c27_13 : AC := .seq (.ops 0 [⟨(some 31), .mv (.t 1), none⟩, ⟨(some 32), .bin .add (.t 31) (.k (.lf (.int .i64 3))), none⟩, ⟨(some 33), .mv (.t 0), none⟩, ⟨(some 34), .lns (.t 33), none⟩, ⟨(some 35), .bin .lss (.t 32) (.t 34), none⟩, ⟨(some 36), .mv (.t 35), none⟩, ⟨(some 37), .mv (.t 0), (some (36, true))⟩, ⟨(some 38), .mv (.t 1), (some (36, true))⟩, ⟨(some 39), .bin .add (.t 38) (.k (.lf (.int .i64 2))), (some (36, true))⟩, ⟨(some 40), .ixs (.t 37) (.t 39), (some (36, true))⟩, ⟨(some 41), .call 42 [(.t 40)], (some (36, true))⟩, ⟨(some 42), .bin .geq (.t 41) (.k (.lf (.int .i64 0))), (some (36, true))⟩, ⟨(some 43), .pk (.t 36) (.t 42) (.k (.lf (.bool false))), none⟩, ⟨(some 44), .mv (.t 43), none⟩, ⟨(some 45), .mv (.t 0), (some (44, true))⟩, ⟨(some 46), .mv (.t 1), (some (44, true))⟩, ⟨(some 47), .bin .add (.t 46) (.k (.lf (.int .i64 3))), (some (44, true))⟩, ⟨(some 48), .ixs (.t 45) (.t 47), (some (44, true))⟩, ⟨(some 49), .call 42 [(.t 48)], (some (44, true))⟩, ⟨(some 50), .bin .geq (.t 49) (.k (.lf (.int .i64 0))), (some (44, true))⟩, ⟨(some 51), .pk (.t 44) (.t 50) (.k (.lf (.bool false))), none⟩] [0, 1, 51]) c27_12
abbrev c27_14 : AC := .cond (.t 29) c27_13 .skip
abbrev c27_15 : AC := .seq (.ops 0 [⟨(some 30), .bin .eql (.t 14) (.k (.lf (.int .u8 120))), none⟩, ⟨(some 29), .as 0 0 (.t 30), none⟩] [0, 1, 29]) c27_14
abbrev c27_16 : AC := .cond (.t 21) c27_10 c27_15
abbrev c27_17 : AC := .seq c27_9 c27_16
abbrev c27_18 : AC := .cond (.t 19) c27_5 c27_17
abbrev c27_19 : AC := .seq (.ops 0 [⟨(some 20), .bin .eql (.t 14) (.k (.lf (.int .u8 116))), none⟩, ⟨(some 19), .as 0 0 (.t 20), none⟩] [0, 1, 14, 19]) c27_18
abbrev c27_20 : AC := .cond (.t 17) c27_4 c27_19
abbrev c27_21 : AC := .seq (.ops 0 [⟨(some 18), .bin .eql (.t 14) (.k (.lf (.int .u8 114))), none⟩, ⟨(some 17), .as 0 0 (.t 18), none⟩] [0, 1, 14, 17]) c27_20
abbrev c27_22 : AC := .cond (.t 15) c27_3 c27_21
abbrev c27_23 : AC := .seq (.ops 0 [⟨(some 16), .bin .eql (.t 14) (.k (.lf (.int .u8 110))), none⟩, ⟨(some 15), .as 0 0 (.t 16), none⟩] [0, 1, 14, 15]) c27_22
abbrev c27_24 : AC := .block 0 c27_23
abbrev c27_25 : AC := .seq (.ops 0 [⟨(some 11), .mv (.t 0), none⟩, ⟨(some 12), .mv (.t 1), none⟩, ⟨(some 13), .bin .add (.t 12) (.k (.lf (.int .i64 1))), none⟩, ⟨(some 14), .ixs (.t 11) (.t 13), none⟩] [0, 1, 14]) c27_24
abbrev c27_26 : AC := .seq (.ops 0 [⟨(some 4), .as 0 0 (.k (.lf (.int .u8 0))), none⟩, ⟨(some 5), .as 0 0 (.k (.lf (.int .i64 0))), none⟩] [4, 5]) .ret
abbrev c27_27 : AC := .seq c27_25 c27_26
abbrev c27_28 : AC := .seq c27_2 c27_27
abbrev c27_29 : AC := .seq (.ops 0 [⟨(some 4), .as 0 0 (.k (.lf (.int .u8 0))), none⟩, ⟨(some 5), .as 0 0 (.k (.lf (.int .i64 0))), none⟩] [0, 1]) c27_28
abbrev c27 : AC := c27_29
theorem c27_ok : compileFn Try.prog 27 = some (65, AC.strip c27, [.t 4, .t 5]) := by kernel_rfl
/-- harrow/quote.hex -/
abbrev c41_0 : AC := .seq (.ops 0 [⟨(some 11), .mv (.t 0), none⟩, ⟨(some 12), .bin .sub (.t 11) (.k (.lf (.int .u8 48))), none⟩, ⟨(some 2), .as 0 0 (.t 12), none⟩, ⟨(some 3), .as 0 0 (.k (.lf (.bool true))), none⟩] [2, 3]) .ret
abbrev c41_1 : AC := .seq (.ops 0 [⟨(some 20), .mv (.t 0), none⟩, ⟨(some 21), .bin .sub (.t 20) (.k (.lf (.int .u8 97))), none⟩, ⟨(some 22), .bin .add (.t 21) (.k (.lf (.int .u8 10))), none⟩, ⟨(some 2), .as 0 0 (.t 22), none⟩, ⟨(some 3), .as 0 0 (.k (.lf (.bool true))), none⟩] [2, 3]) .ret
abbrev c41_2 : AC := .cond (.t 13) c41_1 .skip
abbrev c41_3 : AC := .seq (.ops 0 [⟨(some 14), .mv (.t 0), none⟩, ⟨(some 15), .bin .geq (.t 14) (.k (.lf (.int .u8 97))), none⟩, ⟨(some 16), .mv (.t 15), none⟩, ⟨(some 17), .mv (.t 0), (some (16, true))⟩, ⟨(some 18), .bin .leq (.t 17) (.k (.lf (.int .u8 102))), (some (16, true))⟩, ⟨(some 19), .pk (.t 16) (.t 18) (.k (.lf (.bool false))), none⟩, ⟨(some 13), .as 0 0 (.t 19), none⟩] [0, 13]) c41_2
abbrev c41_4 : AC := .cond (.t 4) c41_0 c41_3
abbrev c41_5 : AC := .seq (.ops 0 [⟨(some 5), .mv (.t 0), none⟩, ⟨(some 6), .bin .geq (.t 5) (.k (.lf (.int .u8 48))), none⟩, ⟨(some 7), .mv (.t 6), none⟩, ⟨(some 8), .mv (.t 0), (some (7, true))⟩, ⟨(some 9), .bin .leq (.t 8) (.k (.lf (.int .u8 57))), (some (7, true))⟩, ⟨(some 10), .pk (.t 7) (.t 9) (.k (.lf (.bool false))), none⟩, ⟨(some 4), .as 0 0 (.t 10), none⟩] [0, 4]) c41_4
abbrev c41_6 : AC := .block 0 c41_5
abbrev c41_7 : AC := .seq (.ops 0 [⟨(some 2), .as 0 0 (.k (.lf (.int .u8 0))), none⟩, ⟨(some 3), .as 0 0 (.k (.lf (.bool false))), none⟩] [2, 3]) .ret
abbrev c41_8 : AC := .seq c41_6 c41_7
abbrev c41_9 : AC := .seq (.ops 0 [⟨(some 2), .as 0 0 (.k (.lf (.int .u8 0))), none⟩, ⟨(some 3), .as 0 0 (.k (.lf (.bool false))), none⟩] [0]) c41_8
abbrev c41 : AC := c41_9
theorem c41_ok : compileFn Try.prog 41 = some (23, AC.strip c41, [.t 2, .t 3]) := by kernel_rfl
/-- harrow/harrowref02.hex -/
abbrev c42_0 : AC := .seq (.ops 0 [⟨(some 10), .mv (.t 0), none⟩, ⟨(some 11), .bin .sub (.t 10) (.k (.lf (.int .u8 48))), none⟩, ⟨(some 12), .cvi .i64 (.t 11), none⟩, ⟨(some 2), .as 0 0 (.t 12), none⟩] [2]) .ret
abbrev c42_1 : AC := .seq (.ops 0 [⟨(some 20), .mv (.t 0), none⟩, ⟨(some 21), .bin .sub (.t 20) (.k (.lf (.int .u8 97))), none⟩, ⟨(some 22), .cvi .i64 (.t 21), none⟩, ⟨(some 23), .bin .add (.t 22) (.k (.lf (.int .i64 10))), none⟩, ⟨(some 2), .as 0 0 (.t 23), none⟩] [2]) .ret
abbrev c42_2 : AC := .cond (.t 13) c42_1 .skip
abbrev c42_3 : AC := .seq (.ops 0 [⟨(some 14), .mv (.t 0), none⟩, ⟨(some 15), .bin .geq (.t 14) (.k (.lf (.int .u8 97))), none⟩, ⟨(some 16), .mv (.t 15), none⟩, ⟨(some 17), .mv (.t 0), (some (16, true))⟩, ⟨(some 18), .bin .leq (.t 17) (.k (.lf (.int .u8 102))), (some (16, true))⟩, ⟨(some 19), .pk (.t 16) (.t 18) (.k (.lf (.bool false))), none⟩, ⟨(some 13), .as 0 0 (.t 19), none⟩] [0, 13]) c42_2
abbrev c42_4 : AC := .cond (.t 3) c42_0 c42_3
abbrev c42_5 : AC := .seq (.ops 0 [⟨(some 4), .mv (.t 0), none⟩, ⟨(some 5), .bin .geq (.t 4) (.k (.lf (.int .u8 48))), none⟩, ⟨(some 6), .mv (.t 5), none⟩, ⟨(some 7), .mv (.t 0), (some (6, true))⟩, ⟨(some 8), .bin .leq (.t 7) (.k (.lf (.int .u8 57))), (some (6, true))⟩, ⟨(some 9), .pk (.t 6) (.t 8) (.k (.lf (.bool false))), none⟩, ⟨(some 3), .as 0 0 (.t 9), none⟩] [0, 3]) c42_4
abbrev c42_6 : AC := .block 0 c42_5
abbrev c42_7 : AC := .seq (.ops 0 [⟨(some 2), .as 0 0 (.k (.lf (.int .i64 (-1)))), none⟩] [2]) .ret
abbrev c42_8 : AC := .seq c42_6 c42_7
abbrev c42_9 : AC := .seq (.ops 0 [⟨(some 2), .as 0 0 (.k (.lf (.int .i64 0))), none⟩] [0]) c42_8
abbrev c42 : AC := c42_9
theorem c42_ok : compileFn Try.prog 42 = some (24, AC.strip c42, [.t 2]) := by kernel_rfl
end Go.Proofs.Ytomlkmnklonbpaa.Q
