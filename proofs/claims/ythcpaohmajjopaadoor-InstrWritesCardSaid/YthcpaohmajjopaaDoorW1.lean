/- Contracts, part W1. -/
import Derived.Test.YthcpaohmajjopaaDoorProg
import Derived.Test.YthcpaohmajjopaaDoorAmLeaf2
import Derived.Test.YthcpaohmajjopaaDoorAmOpen
set_option maxRecDepth 100000
namespace Go.Proofs.YthcpaohmajjopaaDoor.I
open Go Go.Proofs.YthcpaohmajjopaaDoor.AM
/-- harrow/harrowlaw16.InstrWrites -/
abbrev c7_0 : AC := .seq (.ops 0 [⟨(some 34), .call 9 [], none⟩, ⟨(some 35), .mv (.t 34), none⟩, ⟨(some 36), .mv (.t 4), (some (35, true))⟩, ⟨(some 37), .mv (.t 6), (some (35, true))⟩, ⟨(some 38), .bin .eql (.t 36) (.t 37), (some (35, true))⟩, ⟨(some 39), .pk (.t 35) (.t 38) (.k (.lf (.bool false))), none⟩, ⟨(some 40), .mv (.t 39), none⟩, ⟨(some 41), .mv (.t 5), (some (40, true))⟩, ⟨(some 42), .mv (.t 7), (some (40, true))⟩, ⟨(some 43), .bin .eql (.t 41) (.t 42), (some (40, true))⟩, ⟨(some 44), .pk (.t 40) (.t 43) (.k (.lf (.bool false))), none⟩, ⟨(some 45), .mv (.t 44), none⟩, ⟨(some 46), .mv (.t 8), (some (45, true))⟩, ⟨(some 47), .mv (.t 10), (some (45, true))⟩, ⟨(some 48), .bin .eql (.t 46) (.t 47), (some (45, true))⟩, ⟨(some 49), .pk (.t 45) (.t 48) (.k (.lf (.bool false))), none⟩, ⟨(some 50), .mv (.t 49), none⟩, ⟨(some 51), .mv (.t 9), (some (50, true))⟩, ⟨(some 52), .mv (.t 11), (some (50, true))⟩, ⟨(some 53), .bin .eql (.t 51) (.t 52), (some (50, true))⟩, ⟨(some 54), .pk (.t 50) (.t 53) (.k (.lf (.bool false))), none⟩, ⟨(some 55), .mv (.t 54), none⟩, ⟨(some 56), .mv (.t 3), (some (55, true))⟩, ⟨(some 57), .mv (.t 0), (some (55, true))⟩, ⟨(some 58), .call 21 [(.t 56), (.t 57)], (some (55, true))⟩, ⟨(some 59), .pk (.t 55) (.t 58) (.k (.lf (.bool false))), none⟩, ⟨(some 2), .as 0 0 (.t 59), none⟩] [2]) .ret
abbrev c7_1 : AC := .seq (.ops 0 [⟨(some 30), .mv (.t 0), none⟩, ⟨(some 31), .call 25 [(.t 30)], none⟩, ⟨(some 29), .mv (.t 31), none⟩, ⟨(some 32), .ext (.t 29) 0, none⟩, ⟨(some 33), .ext (.t 29) 1, none⟩, ⟨(some 10), .as 0 0 (.t 32), none⟩, ⟨(some 11), .as 0 0 (.t 33), none⟩] [0, 3, 4, 5, 6, 7, 8, 9, 10, 11]) c7_0
abbrev c7_2 : AC := .seq (.ops 0 [⟨(some 25), .mv (.t 3), none⟩, ⟨(some 26), .call 24 [(.t 25)], none⟩, ⟨(some 24), .mv (.t 26), none⟩, ⟨(some 27), .ext (.t 24) 0, none⟩, ⟨(some 28), .ext (.t 24) 1, none⟩, ⟨(some 8), .as 0 0 (.t 27), none⟩, ⟨(some 9), .as 0 0 (.t 28), none⟩] [0, 3, 4, 5, 6, 7, 8, 9]) c7_1
abbrev c7_3 : AC := .seq (.ops 0 [⟨(some 20), .mv (.t 0), none⟩, ⟨(some 21), .call 23 [(.t 20)], none⟩, ⟨(some 19), .mv (.t 21), none⟩, ⟨(some 22), .ext (.t 19) 0, none⟩, ⟨(some 23), .ext (.t 19) 1, none⟩, ⟨(some 6), .as 0 0 (.t 22), none⟩, ⟨(some 7), .as 0 0 (.t 23), none⟩] [0, 3, 4, 5, 6, 7]) c7_2
abbrev c7_4 : AC := .seq (.ops 0 [⟨(some 15), .mv (.t 3), none⟩, ⟨(some 16), .call 22 [(.t 15)], none⟩, ⟨(some 14), .mv (.t 16), none⟩, ⟨(some 17), .ext (.t 14) 0, none⟩, ⟨(some 18), .ext (.t 14) 1, none⟩, ⟨(some 4), .as 0 0 (.t 17), none⟩, ⟨(some 5), .as 0 0 (.t 18), none⟩] [0, 3, 4, 5]) c7_3
abbrev c7_5 : AC := .seq (.ops 0 [⟨(some 12), .mv (.t 0), none⟩, ⟨(some 13), .call 14 [(.t 12)], none⟩, ⟨(some 3), .as 52 9 (.t 13), none⟩] [0, 3]) c7_4
abbrev c7_6 : AC := .seq (.ops 0 [⟨(some 2), .as 0 0 (.k (.lf (.bool false))), none⟩] [0]) c7_5
abbrev c7 : AC := c7_6
theorem c7_ok : compileFn Tryd.prog 7 = some (60, AC.strip c7, [.t 2]) := by kernel_rfl
/-- harrow/instr.List -/
abbrev c24_0 : AC := .seq (.ops 0 [⟨(some 16), .mv (.t 5), none⟩, ⟨(some 2), .as 0 0 (.k (.lf (.str ⟨#[]⟩))), none⟩, ⟨(some 3), .as 0 0 (.t 16), none⟩] [2, 3]) .ret
abbrev c24_1 : AC := .cond (.t 15) c24_0 .skip
abbrev c24_2 : AC := .seq (.ops 0 [⟨(some 14), .mv (.t 5), none⟩, ⟨(some 15), .bin .neq (.t 14) (.k (.lf (.int .i64 0))), none⟩] [0, 5, 15]) c24_1
abbrev c24_3 : AC := .seq (.ops 0 [⟨(some 10), .mv (.t 0), none⟩, ⟨(some 11), .call 28 [(.t 10)], none⟩, ⟨(some 9), .mv (.t 11), none⟩, ⟨(some 12), .ext (.t 9) 0, none⟩, ⟨(some 13), .ext (.t 9) 1, none⟩, ⟨(some 4), .as 0 0 (.t 12), none⟩, ⟨(some 5), .as 0 0 (.t 13), none⟩] [0, 5]) c24_2
abbrev c24_4 : AC := .cond (.t 20) .skip (.exit 0)
abbrev c24_5 : AC := .seq (.ops 0 [⟨(some 2), .as 0 0 (.k (.lf (.str ⟨#[]⟩))), none⟩, ⟨(some 3), .as 0 0 (.k (.lf (.int .i64 2))), none⟩] [2, 3]) .ret
abbrev c24_6 : AC := .cond (.t 30) c24_5 .skip
abbrev c24_7 : AC := .seq (.ops 0 [⟨(some 29), .callp 46 0 [(.t 6)], none⟩, ⟨(some 30), .bin .gtr (.t 29) (.k (.lf (.int .i64 65536))), none⟩] [6, 17, 18, 19, 30]) c24_6
abbrev c24_8 : AC := .seq (.ops 0 [⟨(some 28), .callp 45 0 [(.t 6), (.k (.lf (.int .u8 10)))], none⟩] [6, 17, 18, 19]) c24_7
abbrev c24_9 : AC := .seq (.ops 0 [⟨(some 24), .ld (.t 8) 9 true, none⟩, ⟨(some 25), .mv (.t 7), none⟩, ⟨(some 26), .call 44 [(.t 24), (.t 25)], none⟩, ⟨(some 27), .callp 43 0 [(.t 6), (.t 26)], none⟩] [6, 17, 18, 19]) c24_8
abbrev c24_10 : AC := .seq (.ops 0 [⟨(some 21), .mv (.t 19), none⟩, ⟨(some 22), .ia (.t 17) (.t 19) 9, none⟩, ⟨(some 23), .ld (.t 22) 9 true, none⟩, ⟨(some 8), .al [.int .i64 0, .int .i64 0, .int .i64 0, .int .i64 0, .str ⟨#[]⟩, .int .u64 0, .int .u64 0, .int .u64 0, .int .u64 0], none⟩, ⟨(some 7), .as 0 0 (.t 21), none⟩, ⟨none, .st (.t 8) (.t 23) 9, none⟩] [6, 7, 8, 17, 18, 19]) c24_9
abbrev c24_11 : AC := .block 1 c24_10
abbrev c24_12 : AC := .seq c24_11 (.ops 0 [⟨(some 31), .bin .add (.t 19) (.k (.lf (.int .i64 1))), none⟩, ⟨(some 19), .mv (.t 31), none⟩] [6, 17, 18, 19])
abbrev c24_13 : AC := .seq c24_4 c24_12
abbrev c24_14 : AC := .seq (.ops 0 [⟨(some 20), .bin .lss (.t 19) (.t 18), none⟩] [6, 17, 18, 19, 20]) c24_13
abbrev c24_15 : AC := .loop c24_14 [6, 17, 18, 19]
abbrev c24_16 : AC := .block 0 c24_15
abbrev c24_17 : AC := .seq (.ops 0 [⟨(some 17), .mv (.t 0), none⟩, ⟨(some 18), .len (.t 17), none⟩, ⟨(some 19), .mv (.k (.lf (.int .i64 0))), none⟩] [6, 17, 18, 19]) c24_16
abbrev c24_18 : AC := .seq (.ops 0 [⟨(some 32), .callp 47 0 [(.t 6)], none⟩, ⟨(some 2), .as 0 0 (.t 32), none⟩, ⟨(some 3), .as 0 0 (.k (.lf (.int .i64 0))), none⟩] [2, 3]) .ret
abbrev c24_19 : AC := .seq c24_17 c24_18
abbrev c24_20 : AC := .seq (.ops 0 [⟨(some 6), .alt 73 [.nilp, .lst (.own 771 5) 1 [] []], none⟩] [0, 6]) c24_19
abbrev c24_21 : AC := .seq c24_3 c24_20
abbrev c24_22 : AC := .seq (.ops 0 [⟨(some 2), .as 0 0 (.k (.lf (.str ⟨#[]⟩))), none⟩, ⟨(some 3), .as 0 0 (.k (.lf (.int .i64 0))), none⟩] [0]) c24_21
abbrev c24 : AC := c24_22
theorem c24_ok : compileFn Tryd.prog 24 = some (33, AC.strip c24, [.t 2, .t 3]) := by kernel_rfl
/-- harrow/harrowref16.List -/
abbrev c25_0 : AC := .seq (.ops 0 [⟨(some 15), .mv (.t 5), none⟩, ⟨(some 2), .as 0 0 (.k (.lf (.str ⟨#[]⟩))), none⟩, ⟨(some 3), .as 0 0 (.t 15), none⟩] [2, 3]) .ret
abbrev c25_1 : AC := .cond (.t 14) c25_0 .skip
abbrev c25_2 : AC := .seq (.ops 0 [⟨(some 13), .mv (.t 5), none⟩, ⟨(some 14), .bin .neq (.t 13) (.k (.lf (.int .i64 0))), none⟩] [0, 5, 14]) c25_1
abbrev c25_3 : AC := .seq (.ops 0 [⟨(some 9), .mv (.t 0), none⟩, ⟨(some 10), .call 35 [(.t 9)], none⟩, ⟨(some 8), .mv (.t 10), none⟩, ⟨(some 11), .ext (.t 8) 0, none⟩, ⟨(some 12), .ext (.t 8) 1, none⟩, ⟨(some 4), .as 0 0 (.t 11), none⟩, ⟨(some 5), .as 0 0 (.t 12), none⟩] [0, 5]) c25_2
abbrev c25_4 : AC := .cond (.t 24) .skip (.exit 0)
abbrev c25_5 : AC := .seq (.ops 0 [⟨(some 16), .mv (.t 7), none⟩, ⟨(some 17), .mv (.t 0), none⟩, ⟨(some 18), .len (.t 17), none⟩, ⟨(some 19), .bin .lss (.t 16) (.t 18), none⟩, ⟨(some 20), .mv (.t 19), none⟩, ⟨(some 21), .mv (.t 6), (some (20, true))⟩, ⟨(some 22), .len (.t 21), (some (20, true))⟩, ⟨(some 23), .bin .leq (.t 22) (.k (.lf (.int .i64 65536))), (some (20, true))⟩, ⟨(some 24), .pk (.t 20) (.t 23) (.k (.lf (.bool false))), none⟩] [0, 6, 7, 24]) c25_4
abbrev c25_6 : AC := .block 1 (.ops 0 [⟨(some 27), .mv (.t 6), none⟩, ⟨(some 28), .mv (.t 0), none⟩, ⟨(some 29), .mv (.t 7), none⟩, ⟨(some 30), .ia (.t 28) (.t 29) 9, none⟩, ⟨(some 31), .ld (.t 30) 9 true, none⟩, ⟨(some 32), .mv (.t 7), none⟩, ⟨(some 33), .call 48 [(.t 31), (.t 32)], none⟩, ⟨(some 34), .aps 5 (.t 27) (.t 33), none⟩, ⟨(some 6), .as 5 1 (.t 34), none⟩] [0, 6, 7])
abbrev c25_7 : AC := .seq c25_6 (.ops 0 [⟨(some 25), .mv (.t 7), none⟩, ⟨(some 26), .bin .add (.t 25) (.k (.lf (.int .i64 1))), none⟩, ⟨(some 7), .as 0 0 (.t 26), none⟩] [0, 6, 7])
abbrev c25_8 : AC := .seq c25_5 c25_7
abbrev c25_9 : AC := .loop c25_8 [0, 6, 7]
abbrev c25_10 : AC := .block 0 c25_9
abbrev c25_11 : AC := .seq (.ops 0 [⟨(some 7), .as 0 0 (.k (.lf (.int .i64 0))), none⟩] [0, 6, 7]) c25_10
abbrev c25_12 : AC := .seq (.ops 0 [⟨(some 2), .as 0 0 (.k (.lf (.str ⟨#[]⟩))), none⟩, ⟨(some 3), .as 0 0 (.k (.lf (.int .i64 2))), none⟩] [2, 3]) .ret
abbrev c25_13 : AC := .cond (.t 37) c25_12 .skip
abbrev c25_14 : AC := .seq (.ops 0 [⟨(some 35), .mv (.t 6), none⟩, ⟨(some 36), .len (.t 35), none⟩, ⟨(some 37), .bin .gtr (.t 36) (.k (.lf (.int .i64 65536))), none⟩] [6, 37]) c25_13
abbrev c25_15 : AC := .seq (.ops 0 [⟨(some 38), .mv (.t 6), none⟩, ⟨(some 39), .cbs (.t 38), none⟩, ⟨(some 2), .as 0 0 (.t 39), none⟩, ⟨(some 3), .as 0 0 (.k (.lf (.int .i64 0))), none⟩] [2, 3]) .ret
abbrev c25_16 : AC := .seq c25_14 c25_15
abbrev c25_17 : AC := .seq c25_11 c25_16
abbrev c25_18 : AC := .seq (.ops 0 [⟨(some 6), .as 5 1 (.k (.lf (.lst .nl 1 [] []))), none⟩] [0, 6]) c25_17
abbrev c25_19 : AC := .seq c25_3 c25_18
abbrev c25_20 : AC := .seq (.ops 0 [⟨(some 2), .as 0 0 (.k (.lf (.str ⟨#[]⟩))), none⟩, ⟨(some 3), .as 0 0 (.k (.lf (.int .i64 0))), none⟩] [0]) c25_19
abbrev c25 : AC := c25_20
theorem c25_ok : compileFn Tryd.prog 25 = some (40, AC.strip c25, [.t 2, .t 3]) := by kernel_rfl
/-- harrow/instr.line -/
abbrev c44_0 : AC := .cond (.t 28) (.ops 0 [⟨(some 32), .mv (.t 5), none⟩, ⟨(some 33), .fa (.t 2) 1, none⟩, ⟨(some 34), .ld (.t 33) 1 false, none⟩, ⟨(some 35), .call 59 [(.t 34)], none⟩, ⟨(some 36), .bin .add (.k (.lf (.str ⟨#[32]⟩))) (.t 35), none⟩, ⟨(some 37), .bin .add (.t 32) (.t 36), none⟩, ⟨(some 5), .as 0 0 (.t 37), none⟩] [2, 5]) .skip
abbrev c44_1 : AC := .seq (.ops 0 [⟨(some 29), .fa (.t 2) 0, none⟩, ⟨(some 30), .ld (.t 29) 1 false, none⟩, ⟨(some 31), .call 50 [(.t 30), (.k (.lf (.int .i64 1)))], none⟩, ⟨(some 28), .as 0 0 (.t 31), none⟩] [2, 5, 28]) c44_0
abbrev c44_2 : AC := .cond (.t 16) (.ops 0 [⟨(some 20), .mv (.t 5), none⟩, ⟨(some 21), .mv (.t 1), none⟩, ⟨(some 22), .fa (.t 2) 1, none⟩, ⟨(some 23), .ld (.t 22) 1 false, none⟩, ⟨(some 24), .bin .add (.t 21) (.t 23), none⟩, ⟨(some 25), .call 59 [(.t 24)], none⟩, ⟨(some 26), .bin .add (.k (.lf (.str ⟨#[32, 62]⟩))) (.t 25), none⟩, ⟨(some 27), .bin .add (.t 20) (.t 26), none⟩, ⟨(some 5), .as 0 0 (.t 27), none⟩] [2, 5]) c44_1
abbrev c44_3 : AC := .seq (.ops 0 [⟨(some 17), .fa (.t 2) 0, none⟩, ⟨(some 18), .ld (.t 17) 1 false, none⟩, ⟨(some 19), .call 50 [(.t 18), (.k (.lf (.int .i64 32)))], none⟩, ⟨(some 16), .as 0 0 (.t 19), none⟩] [1, 2, 5, 16]) c44_2
abbrev c44_4 : AC := .block 0 c44_3
abbrev c44_5 : AC := .cond (.t 40) (.ops 0 [⟨(some 41), .mv (.t 5), none⟩, ⟨(some 42), .fa (.t 2) 2, none⟩, ⟨(some 43), .ld (.t 42) 1 false, none⟩, ⟨(some 44), .call 59 [(.t 43)], none⟩, ⟨(some 45), .bin .add (.k (.lf (.str ⟨#[32]⟩))) (.t 44), none⟩, ⟨(some 46), .bin .add (.t 41) (.t 45), none⟩, ⟨(some 5), .as 0 0 (.t 46), none⟩] [2, 5]) .skip
abbrev c44_6 : AC := .seq (.ops 0 [⟨(some 38), .fa (.t 2) 0, none⟩, ⟨(some 39), .ld (.t 38) 1 false, none⟩, ⟨(some 40), .call 50 [(.t 39), (.k (.lf (.int .i64 2)))], none⟩] [2, 5, 40]) c44_5
abbrev c44_7 : AC := .cond (.t 49) (.ops 0 [⟨(some 50), .mv (.t 5), none⟩, ⟨(some 51), .fa (.t 2) 3, none⟩, ⟨(some 52), .ld (.t 51) 1 false, none⟩, ⟨(some 53), .call 59 [(.t 52)], none⟩, ⟨(some 54), .bin .add (.k (.lf (.str ⟨#[32]⟩))) (.t 53), none⟩, ⟨(some 55), .bin .add (.t 50) (.t 54), none⟩, ⟨(some 5), .as 0 0 (.t 55), none⟩] [2, 5]) .skip
abbrev c44_8 : AC := .seq (.ops 0 [⟨(some 47), .fa (.t 2) 0, none⟩, ⟨(some 48), .ld (.t 47) 1 false, none⟩, ⟨(some 49), .call 50 [(.t 48), (.k (.lf (.int .i64 4)))], none⟩] [2, 5, 49]) c44_7
abbrev c44_9 : AC := .seq (.ops 0 [⟨(some 60), .fa (.t 2) 4, none⟩, ⟨(some 61), .ld (.t 60) 1 false, none⟩, ⟨(some 62), .call 60 [(.t 61)], none⟩, ⟨(some 59), .mv (.t 62), none⟩, ⟨(some 63), .ext (.t 59) 0, none⟩, ⟨(some 64), .ext (.t 59) 1, none⟩, ⟨(some 6), .as 0 0 (.t 63), none⟩, ⟨(some 7), .as 0 0 (.t 64), none⟩] [2, 5, 6]) (.ops 0 [⟨(some 65), .mv (.t 5), none⟩, ⟨(some 66), .mv (.t 6), none⟩, ⟨(some 67), .bin .add (.k (.lf (.str ⟨#[32]⟩))) (.t 66), none⟩, ⟨(some 68), .bin .add (.t 65) (.t 67), none⟩, ⟨(some 5), .as 0 0 (.t 68), none⟩] [2, 5])
abbrev c44_10 : AC := .cond (.t 58) c44_9 .skip
abbrev c44_11 : AC := .seq (.ops 0 [⟨(some 56), .fa (.t 2) 0, none⟩, ⟨(some 57), .ld (.t 56) 1 false, none⟩, ⟨(some 58), .call 50 [(.t 57), (.k (.lf (.int .i64 8)))], none⟩] [2, 5, 58]) c44_10
abbrev c44_12 : AC := .cond (.t 71) (.ops 0 [⟨(some 72), .mv (.t 5), none⟩, ⟨(some 73), .fa (.t 2) 5, none⟩, ⟨(some 74), .ld (.t 73) 4 true, none⟩, ⟨(some 75), .call 61 [(.t 74)], none⟩, ⟨(some 76), .bin .add (.k (.lf (.str ⟨#[32]⟩))) (.t 75), none⟩, ⟨(some 77), .bin .add (.t 72) (.t 76), none⟩, ⟨(some 5), .as 0 0 (.t 77), none⟩] [5]) .skip
abbrev c44_13 : AC := .seq (.ops 0 [⟨(some 69), .fa (.t 2) 0, none⟩, ⟨(some 70), .ld (.t 69) 1 false, none⟩, ⟨(some 71), .call 50 [(.t 70), (.k (.lf (.int .i64 16)))], none⟩] [2, 5, 71]) c44_12
abbrev c44_14 : AC := .seq (.ops 0 [⟨(some 78), .mv (.t 5), none⟩, ⟨(some 4), .as 0 0 (.t 78), none⟩] [4]) .ret
abbrev c44_15 : AC := .seq c44_13 c44_14
abbrev c44_16 : AC := .seq c44_11 c44_15
abbrev c44_17 : AC := .seq c44_8 c44_16
abbrev c44_18 : AC := .seq c44_6 c44_17
abbrev c44_19 : AC := .seq c44_4 c44_18
abbrev c44_20 : AC := .seq (.ops 1 [⟨(some 8), .mv (.t 1), none⟩, ⟨(some 9), .call 59 [(.t 8)], none⟩, ⟨(some 10), .bin .add (.t 9) (.k (.lf (.str ⟨#[32]⟩))), none⟩, ⟨(some 11), .fa (.t 2) 0, none⟩, ⟨(some 12), .ld (.t 11) 1 false, none⟩, ⟨(some 13), .iaa (.k (.lf (.gl 0 0))) (.t 12) 21 1, none⟩, ⟨(some 14), .ld (.t 13) 1 false, none⟩, ⟨(some 15), .bin .add (.t 10) (.t 14), none⟩, ⟨(some 5), .as 0 0 (.t 15), none⟩] [1, 2, 5]) c44_19
abbrev c44_21 : AC := .seq (.ops 0 [⟨(some 2), .bx (.t 0), none⟩, ⟨(some 4), .as 0 0 (.k (.lf (.str ⟨#[]⟩))), none⟩] [1, 2]) c44_20
abbrev c44 : AC := c44_21
theorem c44_ok : compileFn Tryd.prog 44 = some (79, AC.strip c44, [.t 4]) := by kernel_rfl
/-- harrow/harrowref16.line -/
abbrev c48_0 : AC := .cond (.t 24) (.ops 0 [⟨(some 25), .mv (.t 8), none⟩, ⟨(some 26), .bin .add (.t 25) (.k (.lf (.str ⟨#[32, 62]⟩))), none⟩, ⟨(some 27), .mv (.t 1), none⟩, ⟨(some 28), .fa (.t 2) 1, none⟩, ⟨(some 29), .ld (.t 28) 1 false, none⟩, ⟨(some 30), .bin .add (.t 27) (.t 29), none⟩, ⟨(some 31), .call 62 [(.t 30), (.k (.lf (.int .i64 10)))], none⟩, ⟨(some 32), .bin .add (.t 26) (.t 31), none⟩, ⟨(some 8), .as 0 0 (.t 32), none⟩] [2, 5, 8]) .skip
abbrev c48_1 : AC := .seq (.ops 0 [⟨(some 23), .mv (.t 5), none⟩, ⟨(some 24), .call 41 [(.t 23), (.k (.lf (.int .i64 1)))], none⟩] [1, 2, 5, 8, 24]) c48_0
abbrev c48_2 : AC := .cond (.t 34) (.ops 0 [⟨(some 35), .mv (.t 8), none⟩, ⟨(some 36), .bin .add (.t 35) (.k (.lf (.str ⟨#[32]⟩))), none⟩, ⟨(some 37), .fa (.t 2) 1, none⟩, ⟨(some 38), .ld (.t 37) 1 false, none⟩, ⟨(some 39), .call 62 [(.t 38), (.k (.lf (.int .i64 10)))], none⟩, ⟨(some 40), .bin .add (.t 36) (.t 39), none⟩, ⟨(some 8), .as 0 0 (.t 40), none⟩] [2, 5, 8]) .skip
abbrev c48_3 : AC := .seq (.ops 0 [⟨(some 33), .mv (.t 5), none⟩, ⟨(some 34), .call 41 [(.t 33), (.k (.lf (.int .i64 2)))], none⟩] [2, 5, 8, 34]) c48_2
abbrev c48_4 : AC := .cond (.t 42) (.ops 0 [⟨(some 43), .mv (.t 8), none⟩, ⟨(some 44), .bin .add (.t 43) (.k (.lf (.str ⟨#[32]⟩))), none⟩, ⟨(some 45), .fa (.t 2) 2, none⟩, ⟨(some 46), .ld (.t 45) 1 false, none⟩, ⟨(some 47), .call 62 [(.t 46), (.k (.lf (.int .i64 10)))], none⟩, ⟨(some 48), .bin .add (.t 44) (.t 47), none⟩, ⟨(some 8), .as 0 0 (.t 48), none⟩] [2, 5, 8]) .skip
abbrev c48_5 : AC := .seq (.ops 0 [⟨(some 41), .mv (.t 5), none⟩, ⟨(some 42), .call 41 [(.t 41), (.k (.lf (.int .i64 4)))], none⟩] [2, 5, 8, 42]) c48_4
abbrev c48_6 : AC := .seq (.ops 0 [⟨(some 52), .fa (.t 2) 4, none⟩, ⟨(some 53), .ld (.t 52) 1 false, none⟩, ⟨(some 54), .call 63 [(.t 53)], none⟩, ⟨(some 51), .mv (.t 54), none⟩, ⟨(some 55), .ext (.t 51) 0, none⟩, ⟨(some 56), .ext (.t 51) 1, none⟩, ⟨(some 9), .as 0 0 (.t 55), none⟩, ⟨(some 10), .as 0 0 (.t 56), none⟩] [2, 5, 8, 9]) (.ops 1 [⟨(some 57), .mv (.t 8), none⟩, ⟨(some 58), .bin .add (.t 57) (.k (.lf (.str ⟨#[32]⟩))), none⟩, ⟨(some 59), .fa (.t 2) 2, none⟩, ⟨(some 60), .ld (.t 59) 1 false, none⟩, ⟨(some 61), .call 62 [(.t 60), (.k (.lf (.int .i64 10)))], none⟩, ⟨(some 62), .bin .add (.t 58) (.t 61), none⟩, ⟨(some 63), .bin .add (.t 62) (.k (.lf (.str ⟨#[32]⟩))), none⟩, ⟨(some 64), .fa (.t 2) 3, none⟩, ⟨(some 65), .ld (.t 64) 1 false, none⟩, ⟨(some 66), .call 62 [(.t 65), (.k (.lf (.int .i64 10)))], none⟩, ⟨(some 67), .bin .add (.t 63) (.t 66), none⟩, ⟨(some 68), .bin .add (.t 67) (.k (.lf (.str ⟨#[32]⟩))), none⟩, ⟨(some 69), .mv (.t 9), none⟩, ⟨(some 70), .bin .add (.t 68) (.t 69), none⟩, ⟨(some 8), .as 0 0 (.t 70), none⟩] [2, 5, 8])
abbrev c48_7 : AC := .cond (.t 50) c48_6 .skip
abbrev c48_8 : AC := .seq (.ops 0 [⟨(some 49), .mv (.t 5), none⟩, ⟨(some 50), .call 41 [(.t 49), (.k (.lf (.int .i64 8)))], none⟩] [2, 5, 8, 50]) c48_7
abbrev c48_9 : AC := .cond (.t 72) (.ops 0 [⟨(some 73), .mv (.t 8), none⟩, ⟨(some 74), .bin .add (.t 73) (.k (.lf (.str ⟨#[32]⟩))), none⟩, ⟨(some 75), .fa (.t 2) 5, none⟩, ⟨(some 76), .ld (.t 75) 4 true, none⟩, ⟨(some 77), .call 64 [(.t 76)], none⟩, ⟨(some 78), .bin .add (.t 74) (.t 77), none⟩, ⟨(some 8), .as 0 0 (.t 78), none⟩] [8]) .skip
abbrev c48_10 : AC := .seq (.ops 0 [⟨(some 71), .mv (.t 5), none⟩, ⟨(some 72), .call 41 [(.t 71), (.k (.lf (.int .i64 16)))], none⟩] [2, 8, 72]) c48_9
abbrev c48_11 : AC := .seq (.ops 0 [⟨(some 79), .mv (.t 8), none⟩, ⟨(some 80), .bin .add (.t 79) (.k (.lf (.str ⟨#[10]⟩))), none⟩, ⟨(some 4), .as 0 0 (.t 80), none⟩] [4]) .ret
abbrev c48_12 : AC := .seq c48_10 c48_11
abbrev c48_13 : AC := .seq c48_8 c48_12
abbrev c48_14 : AC := .seq c48_5 c48_13
abbrev c48_15 : AC := .seq c48_3 c48_14
abbrev c48_16 : AC := .seq c48_1 c48_15
abbrev c48_17 : AC := .seq (.ops 0 [⟨(some 18), .mv (.t 1), none⟩, ⟨(some 19), .call 62 [(.t 18), (.k (.lf (.int .i64 10)))], none⟩, ⟨(some 20), .bin .add (.t 19) (.k (.lf (.str ⟨#[32]⟩))), none⟩, ⟨(some 21), .mv (.t 6), none⟩, ⟨(some 22), .bin .add (.t 20) (.t 21), none⟩, ⟨(some 8), .as 0 0 (.t 22), none⟩] [1, 2, 5, 8]) c48_16
abbrev c48_18 : AC := .seq (.ops 0 [⟨(some 12), .fa (.t 2) 0, none⟩, ⟨(some 13), .ld (.t 12) 1 false, none⟩, ⟨(some 14), .call 40 [(.t 13)], none⟩, ⟨(some 11), .mv (.t 14), none⟩, ⟨(some 15), .ext (.t 11) 0, none⟩, ⟨(some 16), .ext (.t 11) 1, none⟩, ⟨(some 17), .ext (.t 11) 2, none⟩, ⟨(some 5), .as 0 0 (.t 15), none⟩, ⟨(some 6), .as 0 0 (.t 16), none⟩, ⟨(some 7), .as 0 0 (.t 17), none⟩] [1, 2, 5, 6]) c48_17
abbrev c48_19 : AC := .seq (.ops 0 [⟨(some 2), .bx (.t 0), none⟩, ⟨(some 4), .as 0 0 (.k (.lf (.str ⟨#[]⟩))), none⟩] [1, 2]) c48_18
abbrev c48 : AC := c48_19
theorem c48_ok : compileFn Tryd.prog 48 = some (81, AC.strip c48, [.t 4]) := by kernel_rfl
/-- harrow/harrowref05.Whole -/
abbrev c62_0 : AC := .cond (.t 12) .skip (.exit 0)
abbrev c62_1 : AC := .seq (.ops 0 [⟨(some 7), .mv (.t 0), none⟩, ⟨(some 8), .bin .gtr (.t 7) (.k (.lf (.int .i64 0))), none⟩, ⟨(some 9), .mv (.t 8), none⟩, ⟨(some 10), .mv (.t 5), (some (9, false))⟩, ⟨(some 11), .bin .eql (.t 10) (.k (.lf (.str ⟨#[]⟩))), (some (9, false))⟩, ⟨(some 12), .pk (.t 9) (.k (.lf (.bool true))) (.t 11), none⟩] [0, 1, 5, 12]) c62_0
abbrev c62_2 : AC := .seq (.ops 0 [⟨(some 16), .mv (.t 0), none⟩, ⟨(some 17), .mv (.t 1), none⟩, ⟨(some 18), .bin .rem (.t 16) (.t 17), none⟩, ⟨(some 6), .as 0 0 (.t 18), none⟩] [0, 1, 5, 6]) (.ops 0 [⟨(some 19), .mv (.t 6), none⟩, ⟨(some 20), .mv (.t 6), none⟩, ⟨(some 21), .bin .add (.t 20) (.k (.lf (.int .i64 1))), none⟩, ⟨(some 22), .sls (.k (.lf (.str ⟨#[48, 49, 50, 51, 52, 53, 54, 55, 56, 57, 97, 98, 99, 100, 101, 102]⟩))) (some (.t 19)) (some (.t 21)), none⟩, ⟨(some 23), .mv (.t 5), none⟩, ⟨(some 24), .bin .add (.t 22) (.t 23), none⟩, ⟨(some 5), .as 0 0 (.t 24), none⟩] [0, 1, 5])
abbrev c62_3 : AC := .block 1 c62_2
abbrev c62_4 : AC := .seq c62_3 (.ops 0 [⟨(some 13), .mv (.t 0), none⟩, ⟨(some 14), .mv (.t 1), none⟩, ⟨(some 15), .bin .quo (.t 13) (.t 14), none⟩, ⟨(some 0), .as 0 0 (.t 15), none⟩] [0, 1, 5])
abbrev c62_5 : AC := .seq c62_1 c62_4
abbrev c62_6 : AC := .loop c62_5 [0, 1, 5]
abbrev c62_7 : AC := .block 0 c62_6
abbrev c62_8 : AC := .seq (.ops 0 [⟨(some 25), .mv (.t 5), none⟩, ⟨(some 4), .as 0 0 (.t 25), none⟩] [4]) .ret
abbrev c62_9 : AC := .seq c62_7 c62_8
abbrev c62_10 : AC := .seq (.ops 0 [⟨(some 5), .as 0 0 (.k (.lf (.str ⟨#[]⟩))), none⟩] [0, 1, 5]) c62_9
abbrev c62_11 : AC := .seq (.ops 0 [⟨(some 4), .as 0 0 (.k (.lf (.str ⟨#[]⟩))), none⟩] [0, 1]) c62_10
abbrev c62 : AC := c62_11
theorem c62_ok : compileFn Tryd.prog 62 = some (26, AC.strip c62, [.t 4]) := by kernel_rfl
end Go.Proofs.YthcpaohmajjopaaDoor.I
set_option maxRecDepth 100000
namespace Go.Proofs.YthcpaohmajjopaaDoor.I
open Go Go.Proofs.YthcpaohmajjopaaDoor.AM
/-- harrow/charset.Show -/
abbrev c61_0 : AC := .seq (.ops 0 [⟨(some 2), .as 0 0 (.k (.lf (.str ⟨#[91, 94, 93]⟩))), none⟩] [2]) .ret
abbrev c61_1 : AC := .cond (.t 7) c61_0 .skip
abbrev c61_2 : AC := .seq (.ops 0 [⟨(some 6), .ld (.t 1) 4 true, none⟩, ⟨(some 7), .call 73 [(.t 6)], none⟩] [1, 7]) c61_1
abbrev c61_3 : AC := .cond (.t 13) .skip (.exit 0)
abbrev c61_4 : AC := .cond (.t 25) (.ops 0 [⟨(some 26), .callp 43 0 [(.t 3), (.k (.lf (.str ⟨#[45]⟩)))], none⟩] [3, 5, 10, 11, 12]) .skip
abbrev c61_5 : AC := .seq (.ops 0 [⟨(some 20), .fa (.t 5) 1, none⟩, ⟨(some 21), .ld (.t 20) 1 false, none⟩, ⟨(some 22), .fa (.t 5) 0, none⟩, ⟨(some 23), .ld (.t 22) 1 false, none⟩, ⟨(some 24), .bin .add (.t 23) (.k (.lf (.int .i64 1))), none⟩, ⟨(some 25), .bin .gtr (.t 21) (.t 24), none⟩] [3, 5, 10, 11, 12, 25]) c61_4
abbrev c61_6 : AC := .cond (.t 31) (.ops 0 [⟨(some 32), .fa (.t 5) 1, none⟩, ⟨(some 33), .ld (.t 32) 1 false, none⟩, ⟨(some 34), .call 75 [(.t 33)], none⟩, ⟨(some 35), .callp 43 0 [(.t 3), (.t 34)], none⟩] [3, 10, 11, 12]) .skip
abbrev c61_7 : AC := .seq (.ops 0 [⟨(some 27), .fa (.t 5) 1, none⟩, ⟨(some 28), .ld (.t 27) 1 false, none⟩, ⟨(some 29), .fa (.t 5) 0, none⟩, ⟨(some 30), .ld (.t 29) 1 false, none⟩, ⟨(some 31), .bin .gtr (.t 28) (.t 30), none⟩] [3, 5, 10, 11, 12, 31]) c61_6
abbrev c61_8 : AC := .seq c61_5 c61_7
abbrev c61_9 : AC := .seq (.ops 0 [⟨(some 16), .fa (.t 5) 0, none⟩, ⟨(some 17), .ld (.t 16) 1 false, none⟩, ⟨(some 18), .call 75 [(.t 17)], none⟩, ⟨(some 19), .callp 43 0 [(.t 3), (.t 18)], none⟩] [3, 5, 10, 11, 12]) c61_8
abbrev c61_10 : AC := .seq (.ops 0 [⟨(some 14), .ia (.t 10) (.t 12) 2, none⟩, ⟨(some 15), .ld (.t 14) 2 true, none⟩, ⟨(some 5), .al [.int .i64 0, .int .i64 0], none⟩, ⟨none, .st (.t 5) (.t 15) 2, none⟩] [3, 5, 10, 11, 12]) c61_9
abbrev c61_11 : AC := .block 1 c61_10
abbrev c61_12 : AC := .seq c61_11 (.ops 0 [⟨(some 36), .bin .add (.t 12) (.k (.lf (.int .i64 1))), none⟩, ⟨(some 12), .mv (.t 36), none⟩] [3, 10, 11, 12])
abbrev c61_13 : AC := .seq c61_3 c61_12
abbrev c61_14 : AC := .seq (.ops 0 [⟨(some 13), .bin .lss (.t 12) (.t 11), none⟩] [3, 10, 11, 12, 13]) c61_13
abbrev c61_15 : AC := .loop c61_14 [3, 10, 11, 12]
abbrev c61_16 : AC := .block 0 c61_15
abbrev c61_17 : AC := .seq (.ops 0 [⟨(some 9), .ld (.t 1) 4 true, none⟩, ⟨(some 10), .call 74 [(.t 9)], none⟩, ⟨(some 11), .len (.t 10), none⟩, ⟨(some 12), .mv (.k (.lf (.int .i64 0))), none⟩] [3, 10, 11, 12]) c61_16
abbrev c61_18 : AC := .seq (.ops 0 [⟨(some 38), .callp 47 0 [(.t 3)], none⟩, ⟨(some 2), .as 0 0 (.t 38), none⟩] [2]) .ret
abbrev c61_19 : AC := .seq (.ops 0 [⟨(some 37), .callp 43 0 [(.t 3), (.k (.lf (.str ⟨#[93]⟩)))], none⟩] [3]) c61_18
abbrev c61_20 : AC := .seq c61_17 c61_19
abbrev c61_21 : AC := .seq (.ops 0 [⟨(some 8), .callp 43 0 [(.t 3), (.k (.lf (.str ⟨#[91]⟩)))], none⟩] [1, 3]) c61_20
abbrev c61_22 : AC := .seq (.ops 0 [⟨(some 3), .alt 73 [.nilp, .lst (.own 387 5) 1 [] []], none⟩] [1, 3]) c61_21
abbrev c61_23 : AC := .seq c61_2 c61_22
abbrev c61_24 : AC := .seq (.ops 0 [⟨(some 1), .bx (.t 0), none⟩, ⟨(some 2), .as 0 0 (.k (.lf (.str ⟨#[]⟩))), none⟩] [1]) c61_23
abbrev c61 : AC := c61_24
theorem c61_ok : compileFn Tryd.prog 61 = some (39, AC.strip c61, [.t 2]) := by kernel_rfl
/-- harrow/charset.Full -/
abbrev c73_0 : AC := .seq (.ops 0 [⟨(some 3), .ld (.t 1) 4 true, none⟩, ⟨(some 4), .call 95 [(.t 3)], none⟩, ⟨(some 5), .bd [.int .u64 0, .int .u64 0, .int .u64 0, .int .u64 0] [], none⟩, ⟨(some 6), .beq false [2, 2, 2, 2] (.t 4) (.t 5), none⟩, ⟨(some 2), .as 0 0 (.t 6), none⟩] [2]) .ret
abbrev c73_1 : AC := .seq (.ops 0 [⟨(some 1), .bx (.t 0), none⟩, ⟨(some 2), .as 0 0 (.k (.lf (.bool false))), none⟩] [1]) c73_0
abbrev c73 : AC := c73_1
theorem c73_ok : compileFn Tryd.prog 73 = some (7, AC.strip c73, [.t 2]) := by kernel_rfl
/-- harrow/charset.Not -/
abbrev c95_0 : AC := .cond (.t 5) .skip (.exit 0)
abbrev c95_1 : AC := .seq (.ops 0 [⟨(some 6), .mv (.t 4), none⟩, ⟨(some 3), .as 0 0 (.t 6), none⟩] [1, 2, 3, 4]) (.ops 0 [⟨(some 7), .mv (.t 3), none⟩, ⟨(some 8), .mv (.t 3), none⟩, ⟨(some 9), .iaa (.t 1) (.t 8) 4 1, none⟩, ⟨(some 10), .ld (.t 9) 1 false, none⟩, ⟨(some 11), .un .xor (.t 10), none⟩, ⟨(some 12), .iaa (.t 1) (.t 7) 4 1, none⟩, ⟨none, .st (.t 12) (.t 11) 1, none⟩] [1, 2, 4])
abbrev c95_2 : AC := .block 1 c95_1
abbrev c95_3 : AC := .seq c95_2 (.ops 0 [⟨(some 13), .bin .add (.t 4) (.k (.lf (.int .i64 1))), none⟩, ⟨(some 4), .mv (.t 13), none⟩] [1, 2, 4])
abbrev c95_4 : AC := .seq c95_0 c95_3
abbrev c95_5 : AC := .seq (.ops 0 [⟨(some 5), .bin .lss (.t 4) (.k (.lf (.int .i64 4))), none⟩] [1, 2, 4, 5]) c95_4
abbrev c95_6 : AC := .loop c95_5 [1, 2, 4]
abbrev c95_7 : AC := .block 0 c95_6
abbrev c95_8 : AC := .seq (.ops 0 [⟨(some 4), .mv (.k (.lf (.int .i64 0))), none⟩] [1, 2, 4]) c95_7
abbrev c95_9 : AC := .seq (.ops 0 [⟨(some 14), .ld (.t 1) 4 true, none⟩, ⟨none, .st (.t 2) (.t 14) 4, none⟩] [2]) .ret
abbrev c95_10 : AC := .seq c95_8 c95_9
abbrev c95_11 : AC := .seq (.ops 0 [⟨(some 1), .bx (.t 0), none⟩, ⟨(some 2), .al [.int .u64 0, .int .u64 0, .int .u64 0, .int .u64 0], none⟩] [1, 2]) c95_10
abbrev c95 : AC := c95_11
theorem c95_ok : compileFn Tryd.prog 95 = some (15, AC.strip c95, [.c 2 4 true]) := by kernel_rfl
/-- harrow/charset.item -/
abbrev c75_0 : AC := .seq (.ops 0 [⟨(some 2), .as 0 0 (.k (.lf (.str ⟨#[92, 110]⟩))), none⟩] [2]) .ret
abbrev c75_1 : AC := .seq (.ops 0 [⟨(some 2), .as 0 0 (.k (.lf (.str ⟨#[92, 114]⟩))), none⟩] [2]) .ret
abbrev c75_2 : AC := .seq (.ops 0 [⟨(some 2), .as 0 0 (.k (.lf (.str ⟨#[92, 116]⟩))), none⟩] [2]) .ret
abbrev c75_3 : AC := .cond (.t 10) .skip (.ops 0 [⟨(some 16), .bin .eql (.t 3) (.k (.lf (.int .i64 37))), none⟩, ⟨(some 10), .as 0 0 (.t 16), none⟩] [0, 10])
abbrev c75_4 : AC := .seq (.ops 0 [⟨(some 15), .bin .eql (.t 3) (.k (.lf (.int .i64 45))), none⟩, ⟨(some 10), .as 0 0 (.t 15), none⟩] [0, 3, 10]) c75_3
abbrev c75_5 : AC := .cond (.t 10) .skip c75_4
abbrev c75_6 : AC := .seq (.ops 0 [⟨(some 14), .bin .eql (.t 3) (.k (.lf (.int .i64 94))), none⟩, ⟨(some 10), .as 0 0 (.t 14), none⟩] [0, 3, 10]) c75_5
abbrev c75_7 : AC := .cond (.t 10) .skip c75_6
abbrev c75_8 : AC := .seq (.ops 0 [⟨(some 13), .bin .eql (.t 3) (.k (.lf (.int .i64 91))), none⟩, ⟨(some 10), .as 0 0 (.t 13), none⟩] [0, 3, 10]) c75_7
abbrev c75_9 : AC := .cond (.t 10) .skip c75_8
abbrev c75_10 : AC := .seq (.ops 0 [⟨(some 12), .bin .eql (.t 3) (.k (.lf (.int .i64 93))), none⟩, ⟨(some 10), .as 0 0 (.t 12), none⟩] [0, 3, 10]) c75_9
abbrev c75_11 : AC := .cond (.t 10) .skip c75_10
abbrev c75_12 : AC := .seq (.ops 0 [⟨(some 11), .bin .eql (.t 3) (.k (.lf (.int .i64 92))), none⟩, ⟨(some 10), .as 0 0 (.t 11), none⟩] [0, 3, 10]) c75_11
abbrev c75_13 : AC := .seq (.ops 0 [⟨(some 17), .mv (.t 0), none⟩, ⟨(some 18), .cvi .u8 (.t 17), none⟩, ⟨(some 19), .bs 5 1 1 [.int .u8 0] [(0, (.t 18))], none⟩, ⟨(some 20), .cbs (.t 19), none⟩, ⟨(some 21), .bin .add (.k (.lf (.str ⟨#[92]⟩))) (.t 20), none⟩, ⟨(some 2), .as 0 0 (.t 21), none⟩] [2]) .ret
abbrev c75_14 : AC := .cond (.t 10) c75_13 .skip
abbrev c75_15 : AC := .seq c75_12 c75_14
abbrev c75_16 : AC := .cond (.t 8) c75_2 c75_15
abbrev c75_17 : AC := .seq (.ops 0 [⟨(some 9), .bin .eql (.t 3) (.k (.lf (.int .i64 9))), none⟩, ⟨(some 8), .as 0 0 (.t 9), none⟩] [0, 3, 8]) c75_16
abbrev c75_18 : AC := .cond (.t 6) c75_1 c75_17
abbrev c75_19 : AC := .seq (.ops 0 [⟨(some 7), .bin .eql (.t 3) (.k (.lf (.int .i64 13))), none⟩, ⟨(some 6), .as 0 0 (.t 7), none⟩] [0, 3, 6]) c75_18
abbrev c75_20 : AC := .cond (.t 4) c75_0 c75_19
abbrev c75_21 : AC := .seq (.ops 0 [⟨(some 5), .bin .eql (.t 3) (.k (.lf (.int .i64 10))), none⟩, ⟨(some 4), .as 0 0 (.t 5), none⟩] [0, 3, 4]) c75_20
abbrev c75_22 : AC := .block 0 c75_21
abbrev c75_23 : AC := .seq (.ops 0 [⟨(some 3), .mv (.t 0), none⟩] [0, 3]) c75_22
abbrev c75_24 : AC := .seq (.ops 0 [⟨(some 28), .mv (.t 0), none⟩, ⟨(some 29), .cvi .u8 (.t 28), none⟩, ⟨(some 30), .bs 5 1 1 [.int .u8 0] [(0, (.t 29))], none⟩, ⟨(some 31), .cbs (.t 30), none⟩, ⟨(some 2), .as 0 0 (.t 31), none⟩] [2]) .ret
abbrev c75_25 : AC := .cond (.t 27) c75_24 .skip
abbrev c75_26 : AC := .seq (.ops 0 [⟨(some 22), .mv (.t 0), none⟩, ⟨(some 23), .bin .geq (.t 22) (.k (.lf (.int .i64 32))), none⟩, ⟨(some 24), .mv (.t 23), none⟩, ⟨(some 25), .mv (.t 0), (some (24, true))⟩, ⟨(some 26), .bin .leq (.t 25) (.k (.lf (.int .i64 126))), (some (24, true))⟩, ⟨(some 27), .pk (.t 24) (.t 26) (.k (.lf (.bool false))), none⟩] [0, 27]) c75_25
abbrev c75_27 : AC := .seq (.reg [⟨(some 32), .mv (.t 0), none⟩, ⟨(some 33), .bin .quo (.t 32) (.k (.lf (.int .i64 16))), none⟩, ⟨(some 34), .ixs (.k (.lf (.str ⟨#[48, 49, 50, 51, 52, 53, 54, 55, 56, 57, 97, 98, 99, 100, 101, 102]⟩))) (.t 33), none⟩, ⟨(some 35), .mv (.t 0), none⟩, ⟨(some 36), .bin .rem (.t 35) (.k (.lf (.int .i64 16))), none⟩, ⟨(some 37), .ixs (.k (.lf (.str ⟨#[48, 49, 50, 51, 52, 53, 54, 55, 56, 57, 97, 98, 99, 100, 101, 102]⟩))) (.t 36), none⟩] [⟨(some 38), .bs 5 1 2 [.int .u8 0] [(0, (.t 34)), (1, (.t 37))], none⟩, ⟨(some 39), .cbs (.t 38), none⟩, ⟨(some 40), .bin .add (.k (.lf (.str ⟨#[92, 120]⟩))) (.t 39), none⟩, ⟨(some 2), .as 0 0 (.t 40), none⟩] [2]) .ret
abbrev c75_28 : AC := .seq c75_26 c75_27
abbrev c75_29 : AC := .seq c75_23 c75_28
abbrev c75_30 : AC := .seq (.ops 0 [⟨(some 2), .as 0 0 (.k (.lf (.str ⟨#[]⟩))), none⟩] [0]) c75_29
abbrev c75 : AC := c75_30
theorem c75_ok : compileFn Tryd.prog 75 = some (41, AC.strip c75, [.t 2]) := by kernel_rfl
/-- harrow/harrowref01.Show -/
abbrev c64_0 : AC := .seq (.ops 0 [⟨(some 2), .as 0 0 (.k (.lf (.str ⟨#[91, 94, 93]⟩))), none⟩] [2]) .ret
abbrev c64_1 : AC := .cond (.t 8) c64_0 .skip
abbrev c64_2 : AC := .seq (.ops 0 [⟨(some 6), .ld (.t 1) 4 true, none⟩, ⟨(some 7), .call 77 [(.t 6)], none⟩, ⟨(some 8), .bin .eql (.t 7) (.k (.lf (.int .i64 256))), none⟩] [1, 8]) c64_1
abbrev c64_3 : AC := .cond (.t 14) .skip (.exit 0)
abbrev c64_4 : AC := .seq (.ops 0 [⟨(some 11), .mv (.t 5), none⟩, ⟨(some 12), .mv (.t 3), none⟩, ⟨(some 13), .len (.t 12), none⟩, ⟨(some 14), .bin .lss (.t 11) (.t 13), none⟩] [3, 4, 5, 14]) c64_3
abbrev c64_5 : AC := .cond (.t 36) (.ops 0 [⟨(some 37), .mv (.t 4), none⟩, ⟨(some 38), .bin .add (.t 37) (.k (.lf (.str ⟨#[45]⟩))), none⟩, ⟨(some 4), .as 0 0 (.t 38), none⟩] [3, 4, 5]) .skip
abbrev c64_6 : AC := .seq (.ops 2 [⟨(some 25), .mv (.t 3), none⟩, ⟨(some 26), .mv (.t 5), none⟩, ⟨(some 27), .ia (.t 25) (.t 26) 2, none⟩, ⟨(some 28), .fa (.t 27) 1, none⟩, ⟨(some 29), .ld (.t 28) 1 false, none⟩, ⟨(some 30), .mv (.t 3), none⟩, ⟨(some 31), .mv (.t 5), none⟩, ⟨(some 32), .ia (.t 30) (.t 31) 2, none⟩, ⟨(some 33), .fa (.t 32) 0, none⟩, ⟨(some 34), .ld (.t 33) 1 false, none⟩, ⟨(some 35), .bin .add (.t 34) (.k (.lf (.int .i64 1))), none⟩, ⟨(some 36), .bin .gtr (.t 29) (.t 35), none⟩] [3, 4, 5, 36]) c64_5
abbrev c64_7 : AC := .cond (.t 49) (.ops 0 [⟨(some 50), .mv (.t 4), none⟩, ⟨(some 51), .mv (.t 3), none⟩, ⟨(some 52), .mv (.t 5), none⟩, ⟨(some 53), .ia (.t 51) (.t 52) 2, none⟩, ⟨(some 54), .fa (.t 53) 1, none⟩, ⟨(some 55), .ld (.t 54) 1 false, none⟩, ⟨(some 56), .call 79 [(.t 55)], none⟩, ⟨(some 57), .bin .add (.t 50) (.t 56), none⟩, ⟨(some 4), .as 0 0 (.t 57), none⟩] [3, 4, 5]) .skip
abbrev c64_8 : AC := .seq (.ops 2 [⟨(some 39), .mv (.t 3), none⟩, ⟨(some 40), .mv (.t 5), none⟩, ⟨(some 41), .ia (.t 39) (.t 40) 2, none⟩, ⟨(some 42), .fa (.t 41) 1, none⟩, ⟨(some 43), .ld (.t 42) 1 false, none⟩, ⟨(some 44), .mv (.t 3), none⟩, ⟨(some 45), .mv (.t 5), none⟩, ⟨(some 46), .ia (.t 44) (.t 45) 2, none⟩, ⟨(some 47), .fa (.t 46) 0, none⟩, ⟨(some 48), .ld (.t 47) 1 false, none⟩, ⟨(some 49), .bin .gtr (.t 43) (.t 48), none⟩] [3, 4, 5, 49]) c64_7
abbrev c64_9 : AC := .seq c64_6 c64_8
abbrev c64_10 : AC := .seq (.ops 0 [⟨(some 17), .mv (.t 4), none⟩, ⟨(some 18), .mv (.t 3), none⟩, ⟨(some 19), .mv (.t 5), none⟩, ⟨(some 20), .ia (.t 18) (.t 19) 2, none⟩, ⟨(some 21), .fa (.t 20) 0, none⟩, ⟨(some 22), .ld (.t 21) 1 false, none⟩, ⟨(some 23), .call 79 [(.t 22)], none⟩, ⟨(some 24), .bin .add (.t 17) (.t 23), none⟩, ⟨(some 4), .as 0 0 (.t 24), none⟩] [3, 4, 5]) c64_9
abbrev c64_11 : AC := .block 1 c64_10
abbrev c64_12 : AC := .seq c64_11 (.ops 0 [⟨(some 15), .mv (.t 5), none⟩, ⟨(some 16), .bin .add (.t 15) (.k (.lf (.int .i64 1))), none⟩, ⟨(some 5), .as 0 0 (.t 16), none⟩] [3, 4, 5])
abbrev c64_13 : AC := .seq c64_4 c64_12
abbrev c64_14 : AC := .loop c64_13 [3, 4, 5]
abbrev c64_15 : AC := .block 0 c64_14
abbrev c64_16 : AC := .seq (.ops 0 [⟨(some 5), .as 0 0 (.k (.lf (.int .i64 0))), none⟩] [3, 4, 5]) c64_15
abbrev c64_17 : AC := .seq (.ops 0 [⟨(some 58), .mv (.t 4), none⟩, ⟨(some 59), .bin .add (.t 58) (.k (.lf (.str ⟨#[93]⟩))), none⟩, ⟨(some 2), .as 0 0 (.t 59), none⟩] [2]) .ret
abbrev c64_18 : AC := .seq c64_16 c64_17
abbrev c64_19 : AC := .seq (.ops 0 [⟨(some 4), .as 0 0 (.k (.lf (.str ⟨#[91]⟩))), none⟩] [3, 4]) c64_18
abbrev c64_20 : AC := .seq (.ops 0 [⟨(some 9), .ld (.t 1) 4 true, none⟩, ⟨(some 10), .call 78 [(.t 9)], none⟩, ⟨(some 3), .as 105 2 (.t 10), none⟩] [3]) c64_19
abbrev c64_21 : AC := .seq c64_2 c64_20
abbrev c64_22 : AC := .seq (.ops 0 [⟨(some 1), .bx (.t 0), none⟩, ⟨(some 2), .as 0 0 (.k (.lf (.str ⟨#[]⟩))), none⟩] [1]) c64_21
abbrev c64 : AC := c64_22
theorem c64_ok : compileFn Tryd.prog 64 = some (60, AC.strip c64, [.t 2]) := by kernel_rfl
/-- harrow/harrowref01.Count -/
abbrev c77_0 : AC := .seq (.ops 0 [⟨(some 3), .ld (.t 1) 4 true, none⟩, ⟨(some 4), .call 97 [(.t 3)], none⟩, ⟨(some 5), .lns (.t 4), none⟩, ⟨(some 2), .as 0 0 (.t 5), none⟩] [2]) .ret
abbrev c77_1 : AC := .seq (.ops 0 [⟨(some 1), .bx (.t 0), none⟩, ⟨(some 2), .as 0 0 (.k (.lf (.int .i64 0))), none⟩] [1]) c77_0
abbrev c77 : AC := c77_1
theorem c77_ok : compileFn Tryd.prog 77 = some (6, AC.strip c77, [.t 2]) := by kernel_rfl
/-- harrow/harrowref01.Spans -/
abbrev c78_0 : AC := .cond (.t 6) .skip (.exit 0)
abbrev c78_1 : AC := .seq (.ops 0 [⟨(some 5), .mv (.t 4), none⟩, ⟨(some 6), .bin .leq (.t 5) (.k (.lf (.int .i64 255))), none⟩] [1, 3, 4, 6]) c78_0
abbrev c78_2 : AC := .cond (.t 12) (.exit 1) .skip
abbrev c78_3 : AC := .seq (.ops 0 [⟨(some 9), .ld (.t 1) 4 true, none⟩, ⟨(some 10), .mv (.t 4), none⟩, ⟨(some 11), .call 57 [(.t 9), (.t 10)], none⟩, ⟨(some 12), .un .not (.t 11), none⟩] [1, 3, 4, 12]) c78_2
abbrev c78_4 : AC := .cond (.t 16) (.ops 0 [⟨(some 17), .mv (.t 3), none⟩, ⟨(some 18), .mv (.t 3), none⟩, ⟨(some 19), .len (.t 18), none⟩, ⟨(some 20), .bin .sub (.t 19) (.k (.lf (.int .i64 1))), none⟩, ⟨(some 21), .mv (.t 4), none⟩, ⟨(some 22), .ia (.t 17) (.t 20) 2, none⟩, ⟨(some 23), .fa (.t 22) 1, none⟩, ⟨none, .st (.t 23) (.t 21) 1, none⟩] [1, 3, 4]) (.ops 0 [⟨(some 24), .mv (.t 3), none⟩, ⟨(some 25), .mv (.t 4), none⟩, ⟨(some 26), .mv (.t 4), none⟩, ⟨(some 27), .bd [.int .i64 0, .int .i64 0] [(0, 1, (.t 25)), (1, 1, (.t 26))], none⟩, ⟨(some 28), .bs 105 2 1 [.int .i64 0, .int .i64 0] [(0, (.t 27))], none⟩, ⟨(some 29), .app 105 2 16 (.t 24) (.t 28), none⟩, ⟨(some 3), .as 105 2 (.t 29), none⟩] [1, 3, 4])
abbrev c78_5 : AC := .seq (.ops 0 [⟨(some 13), .ld (.t 1) 4 true, none⟩, ⟨(some 14), .mv (.t 4), none⟩, ⟨(some 15), .bin .sub (.t 14) (.k (.lf (.int .i64 1))), none⟩, ⟨(some 16), .call 57 [(.t 13), (.t 15)], none⟩] [1, 3, 4, 16]) c78_4
abbrev c78_6 : AC := .seq c78_3 c78_5
abbrev c78_7 : AC := .block 1 c78_6
abbrev c78_8 : AC := .seq c78_7 (.ops 0 [⟨(some 7), .mv (.t 4), none⟩, ⟨(some 8), .bin .add (.t 7) (.k (.lf (.int .i64 1))), none⟩, ⟨(some 4), .as 0 0 (.t 8), none⟩] [1, 3, 4])
abbrev c78_9 : AC := .seq c78_1 c78_8
abbrev c78_10 : AC := .loop c78_9 [1, 3, 4]
abbrev c78_11 : AC := .block 0 c78_10
abbrev c78_12 : AC := .seq (.ops 0 [⟨(some 4), .as 0 0 (.k (.lf (.int .i64 0))), none⟩] [1, 3, 4]) c78_11
abbrev c78_13 : AC := .seq (.ops 0 [⟨(some 30), .mv (.t 3), none⟩, ⟨(some 2), .as 105 2 (.t 30), none⟩] [2]) .ret
abbrev c78_14 : AC := .seq c78_12 c78_13
abbrev c78_15 : AC := .seq (.ops 0 [⟨(some 3), .as 105 2 (.k (.lf (.lst .nl 2 [] []))), none⟩] [1, 3]) c78_14
abbrev c78_16 : AC := .seq (.ops 0 [⟨(some 1), .bx (.t 0), none⟩, ⟨(some 2), .as 105 2 (.k (.lf (.lst .nl 2 [] []))), none⟩] [1]) c78_15
abbrev c78 : AC := c78_16
theorem c78_ok : compileFn Tryd.prog 78 = some (31, AC.strip c78, [.t 2]) := by kernel_rfl
/-- harrow/harrowref01.item -/
abbrev c79_0 : AC := .seq (.ops 0 [⟨(some 2), .as 0 0 (.k (.lf (.str ⟨#[92, 110]⟩))), none⟩] [2]) .ret
abbrev c79_1 : AC := .seq (.ops 0 [⟨(some 2), .as 0 0 (.k (.lf (.str ⟨#[92, 114]⟩))), none⟩] [2]) .ret
abbrev c79_2 : AC := .seq (.ops 0 [⟨(some 2), .as 0 0 (.k (.lf (.str ⟨#[92, 116]⟩))), none⟩] [2]) .ret
abbrev c79_3 : AC := .seq (.ops 0 [⟨(some 15), .mv (.t 0), none⟩, ⟨(some 16), .cvi .u8 (.t 15), none⟩, ⟨(some 17), .bs 5 1 1 [.int .u8 0] [(0, (.t 16))], none⟩, ⟨(some 18), .cbs (.t 17), none⟩, ⟨(some 19), .bin .add (.k (.lf (.str ⟨#[92]⟩))) (.t 18), none⟩, ⟨(some 2), .as 0 0 (.t 19), none⟩] [2]) .ret
abbrev c79_4 : AC := .seq (.ops 0 [⟨(some 27), .mv (.t 0), none⟩, ⟨(some 28), .cvi .u8 (.t 27), none⟩, ⟨(some 29), .bs 5 1 1 [.int .u8 0] [(0, (.t 28))], none⟩, ⟨(some 30), .cbs (.t 29), none⟩, ⟨(some 2), .as 0 0 (.t 30), none⟩] [2]) .ret
abbrev c79_5 : AC := .cond (.t 20) c79_4 .skip
abbrev c79_6 : AC := .seq (.ops 0 [⟨(some 21), .mv (.t 0), none⟩, ⟨(some 22), .bin .geq (.t 21) (.k (.lf (.int .i64 32))), none⟩, ⟨(some 23), .mv (.t 22), none⟩, ⟨(some 24), .mv (.t 0), (some (23, true))⟩, ⟨(some 25), .bin .leq (.t 24) (.k (.lf (.int .i64 126))), (some (23, true))⟩, ⟨(some 26), .pk (.t 23) (.t 25) (.k (.lf (.bool false))), none⟩, ⟨(some 20), .as 0 0 (.t 26), none⟩] [0, 20]) c79_5
abbrev c79_7 : AC := .cond (.t 12) c79_3 c79_6
abbrev c79_8 : AC := .seq (.ops 0 [⟨(some 13), .mv (.t 0), none⟩, ⟨(some 14), .call 98 [(.t 13)], none⟩, ⟨(some 12), .as 0 0 (.t 14), none⟩] [0, 12]) c79_7
abbrev c79_9 : AC := .cond (.t 9) c79_2 c79_8
abbrev c79_10 : AC := .seq (.ops 0 [⟨(some 10), .mv (.t 0), none⟩, ⟨(some 11), .bin .eql (.t 10) (.k (.lf (.int .i64 9))), none⟩, ⟨(some 9), .as 0 0 (.t 11), none⟩] [0, 9]) c79_9
abbrev c79_11 : AC := .cond (.t 6) c79_1 c79_10
abbrev c79_12 : AC := .seq (.ops 0 [⟨(some 7), .mv (.t 0), none⟩, ⟨(some 8), .bin .eql (.t 7) (.k (.lf (.int .i64 13))), none⟩, ⟨(some 6), .as 0 0 (.t 8), none⟩] [0, 6]) c79_11
abbrev c79_13 : AC := .cond (.t 3) c79_0 c79_12
abbrev c79_14 : AC := .seq (.ops 0 [⟨(some 4), .mv (.t 0), none⟩, ⟨(some 5), .bin .eql (.t 4) (.k (.lf (.int .i64 10))), none⟩, ⟨(some 3), .as 0 0 (.t 5), none⟩] [0, 3]) c79_13
abbrev c79_15 : AC := .block 0 c79_14
abbrev c79_16 : AC := .seq (.ops 0 [⟨(some 31), .mv (.t 0), none⟩, ⟨(some 32), .call 99 [(.t 31)], none⟩, ⟨(some 33), .bin .add (.k (.lf (.str ⟨#[92, 120]⟩))) (.t 32), none⟩, ⟨(some 2), .as 0 0 (.t 33), none⟩] [2]) .ret
abbrev c79_17 : AC := .seq c79_15 c79_16
abbrev c79_18 : AC := .seq (.ops 0 [⟨(some 2), .as 0 0 (.k (.lf (.str ⟨#[]⟩))), none⟩] [0]) c79_17
abbrev c79 : AC := c79_18
theorem c79_ok : compileFn Tryd.prog 79 = some (34, AC.strip c79, [.t 2]) := by kernel_rfl
/-- harrow/harrowref01.special -/
abbrev c98_0 : AC := .seq (.ops 0 [⟨(some 3), .mv (.t 0), none⟩, ⟨(some 4), .bin .eql (.t 3) (.k (.lf (.int .i64 92))), none⟩, ⟨(some 5), .mv (.t 4), none⟩, ⟨(some 6), .mv (.t 0), (some (5, false))⟩, ⟨(some 7), .bin .eql (.t 6) (.k (.lf (.int .i64 93))), (some (5, false))⟩, ⟨(some 8), .pk (.t 5) (.k (.lf (.bool true))) (.t 7), none⟩, ⟨(some 9), .mv (.t 8), none⟩, ⟨(some 10), .mv (.t 0), (some (9, false))⟩, ⟨(some 11), .bin .eql (.t 10) (.k (.lf (.int .i64 91))), (some (9, false))⟩, ⟨(some 12), .pk (.t 9) (.k (.lf (.bool true))) (.t 11), none⟩, ⟨(some 13), .mv (.t 12), none⟩, ⟨(some 14), .mv (.t 0), (some (13, false))⟩, ⟨(some 15), .bin .eql (.t 14) (.k (.lf (.int .i64 94))), (some (13, false))⟩, ⟨(some 16), .pk (.t 13) (.k (.lf (.bool true))) (.t 15), none⟩, ⟨(some 17), .mv (.t 16), none⟩, ⟨(some 18), .mv (.t 0), (some (17, false))⟩, ⟨(some 19), .bin .eql (.t 18) (.k (.lf (.int .i64 45))), (some (17, false))⟩, ⟨(some 20), .pk (.t 17) (.k (.lf (.bool true))) (.t 19), none⟩, ⟨(some 21), .mv (.t 20), none⟩, ⟨(some 22), .mv (.t 0), (some (21, false))⟩, ⟨(some 23), .bin .eql (.t 22) (.k (.lf (.int .i64 37))), (some (21, false))⟩, ⟨(some 24), .pk (.t 21) (.k (.lf (.bool true))) (.t 23), none⟩, ⟨(some 2), .as 0 0 (.t 24), none⟩] [2]) .ret
abbrev c98_1 : AC := .seq (.ops 0 [⟨(some 2), .as 0 0 (.k (.lf (.bool false))), none⟩] [0]) c98_0
abbrev c98 : AC := c98_1
theorem c98_ok : compileFn Tryd.prog 98 = some (25, AC.strip c98, [.t 2]) := by kernel_rfl
/-- harrow/harrowref01.Hex -/
abbrev c99_0 : AC := .seq (.ops 1 [⟨(some 3), .mv (.t 0), none⟩, ⟨(some 4), .bin .quo (.t 3) (.k (.lf (.int .i64 16))), none⟩, ⟨(some 5), .mv (.t 0), none⟩, ⟨(some 6), .bin .quo (.t 5) (.k (.lf (.int .i64 16))), none⟩, ⟨(some 7), .bin .add (.t 6) (.k (.lf (.int .i64 1))), none⟩, ⟨(some 8), .sls (.k (.lf (.str ⟨#[48, 49, 50, 51, 52, 53, 54, 55, 56, 57, 97, 98, 99, 100, 101, 102]⟩))) (some (.t 4)) (some (.t 7)), none⟩, ⟨(some 9), .mv (.t 0), none⟩, ⟨(some 10), .bin .rem (.t 9) (.k (.lf (.int .i64 16))), none⟩, ⟨(some 11), .mv (.t 0), none⟩, ⟨(some 12), .bin .rem (.t 11) (.k (.lf (.int .i64 16))), none⟩, ⟨(some 13), .bin .add (.t 12) (.k (.lf (.int .i64 1))), none⟩, ⟨(some 14), .sls (.k (.lf (.str ⟨#[48, 49, 50, 51, 52, 53, 54, 55, 56, 57, 97, 98, 99, 100, 101, 102]⟩))) (some (.t 10)) (some (.t 13)), none⟩, ⟨(some 15), .bin .add (.t 8) (.t 14), none⟩, ⟨(some 2), .as 0 0 (.t 15), none⟩] [2]) .ret
abbrev c99_1 : AC := .seq (.ops 0 [⟨(some 2), .as 0 0 (.k (.lf (.str ⟨#[]⟩))), none⟩] [0]) c99_0
abbrev c99 : AC := c99_1
theorem c99_ok : compileFn Tryd.prog 99 = some (16, AC.strip c99, [.t 2]) := by kernel_rfl
/-- harrow/harrowref01.Bytes -/
abbrev c97_0 : AC := .cond (.t 6) .skip (.exit 0)
abbrev c97_1 : AC := .seq (.ops 0 [⟨(some 5), .mv (.t 4), none⟩, ⟨(some 6), .bin .leq (.t 5) (.k (.lf (.int .i64 255))), none⟩] [1, 3, 4, 6]) c97_0
abbrev c97_2 : AC := .cond (.t 11) (.ops 0 [⟨(some 12), .mv (.t 3), none⟩, ⟨(some 13), .mv (.t 4), none⟩, ⟨(some 14), .cvi .u8 (.t 13), none⟩, ⟨(some 15), .bs 5 1 1 [.int .u8 0] [(0, (.t 14))], none⟩, ⟨(some 16), .app 5 1 1 (.t 12) (.t 15), none⟩, ⟨(some 3), .as 5 1 (.t 16), none⟩] [1, 3, 4]) .skip
abbrev c97_3 : AC := .seq (.ops 0 [⟨(some 9), .ld (.t 1) 4 true, none⟩, ⟨(some 10), .mv (.t 4), none⟩, ⟨(some 11), .call 57 [(.t 9), (.t 10)], none⟩] [1, 3, 4, 11]) c97_2
abbrev c97_4 : AC := .block 1 c97_3
abbrev c97_5 : AC := .seq c97_4 (.ops 0 [⟨(some 7), .mv (.t 4), none⟩, ⟨(some 8), .bin .add (.t 7) (.k (.lf (.int .i64 1))), none⟩, ⟨(some 4), .as 0 0 (.t 8), none⟩] [1, 3, 4])
abbrev c97_6 : AC := .seq c97_1 c97_5
abbrev c97_7 : AC := .loop c97_6 [1, 3, 4]
abbrev c97_8 : AC := .block 0 c97_7
abbrev c97_9 : AC := .seq (.ops 0 [⟨(some 4), .as 0 0 (.k (.lf (.int .i64 0))), none⟩] [1, 3, 4]) c97_8
abbrev c97_10 : AC := .seq (.ops 0 [⟨(some 17), .mv (.t 3), none⟩, ⟨(some 18), .cbs (.t 17), none⟩, ⟨(some 2), .as 0 0 (.t 18), none⟩] [2]) .ret
abbrev c97_11 : AC := .seq c97_9 c97_10
abbrev c97_12 : AC := .seq (.ops 0 [⟨(some 3), .as 5 1 (.k (.lf (.lst .nl 1 [] []))), none⟩] [1, 3]) c97_11
abbrev c97_13 : AC := .seq (.ops 0 [⟨(some 1), .bx (.t 0), none⟩, ⟨(some 2), .as 0 0 (.k (.lf (.str ⟨#[]⟩))), none⟩] [1]) c97_12
abbrev c97 : AC := c97_13
theorem c97_ok : compileFn Tryd.prog 97 = some (19, AC.strip c97, [.t 2]) := by kernel_rfl
end Go.Proofs.YthcpaohmajjopaaDoor.I
set_option maxRecDepth 100000
namespace Go.Proofs.YthcpaohmajjopaaDoor.I
open Go Go.Proofs.YthcpaohmajjopaaDoor.AM
/-- (*strings.Builder).copyCheck -/
abbrev c58_0 : AC := .cond (.t 19) .bad .skip
abbrev c58_1 : AC := .seq (.ops 0 [⟨(some 14), .mv (.t 0), none⟩, ⟨(some 15), .nc (.t 14), none⟩, ⟨(some 16), .fa (.t 15) 0, none⟩, ⟨(some 17), .ld (.t 16) 1 false, none⟩, ⟨(some 18), .mv (.t 0), none⟩, ⟨(some 19), .peq true (.t 17) (.t 18), none⟩] [19]) c58_0
abbrev c58_2 : AC := .cond (.t 6) (.ops 0 [⟨(some 7), .mv (.t 0), none⟩, ⟨(some 8), .mv (.t 0), none⟩, ⟨(some 9), .p2u (.t 8), none⟩, ⟨(some 10), .ex 0 [(.t 9)], none⟩, ⟨(some 11), .u2p 73 (.t 10), none⟩, ⟨(some 12), .nc (.t 7), none⟩, ⟨(some 13), .fa (.t 12) 0, none⟩, ⟨none, .st (.t 13) (.t 11) 1, none⟩] []) c58_1
abbrev c58_3 : AC := .seq (.ops 0 [⟨(some 2), .mv (.t 0), none⟩, ⟨(some 3), .nc (.t 2), none⟩, ⟨(some 4), .fa (.t 3) 0, none⟩, ⟨(some 5), .ld (.t 4) 1 false, none⟩, ⟨(some 6), .peq false (.t 5) (.k (.lf (.nilp))), none⟩] [0, 6]) c58_2
abbrev c58 : AC := c58_3
theorem c58_ok : compileFn Tryd.prog 58 = some (20, AC.strip c58, []) := by kernel_rfl
/-- (*strings.Builder).WriteString -/
abbrev c43_0 : AC := .seq (.ops 0 [⟨(some 17), .mv (.t 1), none⟩, ⟨(some 18), .lns (.t 17), none⟩, ⟨(some 4), .as 0 0 (.t 18), none⟩, ⟨(some 5), .as 0 0 (.k (.lf (.nili))), none⟩] [4, 5]) .ret
abbrev c43_1 : AC := .seq (.ops 0 [⟨(some 8), .mv (.t 0), none⟩, ⟨(some 9), .mv (.t 0), none⟩, ⟨(some 10), .nc (.t 9), none⟩, ⟨(some 11), .fa (.t 10) 1, none⟩, ⟨(some 12), .ld (.t 11) 1 false, none⟩, ⟨(some 13), .mv (.t 1), none⟩, ⟨(some 14), .aps 5 (.t 12) (.t 13), none⟩, ⟨(some 15), .nc (.t 8), none⟩, ⟨(some 16), .fa (.t 15) 1, none⟩, ⟨none, .st (.t 16) (.t 14) 1, none⟩] [1]) c43_0
abbrev c43_2 : AC := .seq (.ops 0 [⟨(some 6), .mv (.t 0), none⟩, ⟨(some 7), .callp 58 0 [(.t 6)], none⟩] [0, 1]) c43_1
abbrev c43_3 : AC := .seq (.ops 0 [⟨(some 4), .as 0 0 (.k (.lf (.int .i64 0))), none⟩, ⟨(some 5), .as 0 0 (.k (.lf (.nili))), none⟩] [0, 1]) c43_2
abbrev c43 : AC := c43_3
theorem c43_ok : compileFn Tryd.prog 43 = some (19, AC.strip c43, [.t 4, .t 5]) := by kernel_rfl
/-- (*strings.Builder).WriteByte -/
abbrev c45_0 : AC := .seq (.ops 0 [⟨(some 4), .as 0 0 (.k (.lf (.nili))), none⟩] [4]) .ret
abbrev c45_1 : AC := .seq (.ops 0 [⟨(some 7), .mv (.t 0), none⟩, ⟨(some 8), .mv (.t 0), none⟩, ⟨(some 9), .nc (.t 8), none⟩, ⟨(some 10), .fa (.t 9) 1, none⟩, ⟨(some 11), .ld (.t 10) 1 false, none⟩, ⟨(some 12), .mv (.t 1), none⟩, ⟨(some 13), .bs 5 1 1 [.int .u8 0] [(0, (.t 12))], none⟩, ⟨(some 14), .app 5 1 1 (.t 11) (.t 13), none⟩, ⟨(some 15), .nc (.t 7), none⟩, ⟨(some 16), .fa (.t 15) 1, none⟩, ⟨none, .st (.t 16) (.t 14) 1, none⟩] []) c45_0
abbrev c45_2 : AC := .seq (.ops 0 [⟨(some 5), .mv (.t 0), none⟩, ⟨(some 6), .callp 58 0 [(.t 5)], none⟩] [0, 1]) c45_1
abbrev c45_3 : AC := .seq (.ops 0 [⟨(some 4), .as 0 0 (.k (.lf (.nili))), none⟩] [0, 1]) c45_2
abbrev c45 : AC := c45_3
theorem c45_ok : compileFn Tryd.prog 45 = some (17, AC.strip c45, [.t 4]) := by kernel_rfl
/-- (*strings.Builder).Len -/
abbrev c46_0 : AC := .seq (.ops 0 [⟨(some 3), .mv (.t 0), none⟩, ⟨(some 4), .nc (.t 3), none⟩, ⟨(some 5), .fa (.t 4) 1, none⟩, ⟨(some 6), .ld (.t 5) 1 false, none⟩, ⟨(some 7), .len (.t 6), none⟩, ⟨(some 2), .as 0 0 (.t 7), none⟩] [2]) .ret
abbrev c46_1 : AC := .seq (.ops 0 [⟨(some 2), .as 0 0 (.k (.lf (.int .i64 0))), none⟩] [0]) c46_0
abbrev c46 : AC := c46_1
theorem c46_ok : compileFn Tryd.prog 46 = some (8, AC.strip c46, [.t 2]) := by kernel_rfl
/-- (*strings.Builder).String -/
abbrev c47_0 : AC := .seq (.reg [⟨(some 3), .mv (.t 0), none⟩, ⟨(some 4), .nc (.t 3), none⟩, ⟨(some 5), .fa (.t 4) 1, none⟩, ⟨(some 6), .ld (.t 5) 1 false, none⟩, ⟨(some 7), .usd (.t 6), none⟩, ⟨(some 8), .mv (.t 0), none⟩, ⟨(some 9), .nc (.t 8), none⟩, ⟨(some 10), .fa (.t 9) 1, none⟩, ⟨(some 11), .ld (.t 10) 1 false, none⟩, ⟨(some 12), .len (.t 11), none⟩] [⟨(some 13), .ust 5 (.t 7) (.t 12), none⟩, ⟨(some 2), .as 0 0 (.t 13), none⟩] [2]) .ret
abbrev c47_1 : AC := .seq (.ops 0 [⟨(some 2), .as 0 0 (.k (.lf (.str ⟨#[]⟩))), none⟩] [0]) c47_0
abbrev c47 : AC := c47_1
theorem c47_ok : compileFn Tryd.prog 47 = some (14, AC.strip c47, [.t 2]) := by kernel_rfl
/-- harrow/quote.writeByte -/
abbrev c72_0 : AC := .seq (.ops 0 [⟨(some 38), .mv (.t 0), none⟩, ⟨(some 39), .callp 45 0 [(.t 38), (.k (.lf (.int .u8 92)))], none⟩] [0, 1]) (.ops 0 [⟨(some 40), .mv (.t 0), none⟩, ⟨(some 41), .mv (.t 1), none⟩, ⟨(some 42), .callp 45 0 [(.t 40), (.t 41)], none⟩] [])
abbrev c72_1 : AC := .seq (.ops 0 [⟨(some 6), .mv (.t 0), none⟩, ⟨(some 7), .mv (.t 1), none⟩, ⟨(some 8), .bin .shr (.t 7) (.k (.lf (.int .u64 4))), none⟩, ⟨(some 9), .ixs (.k (.lf (.str ⟨#[48, 49, 50, 51, 52, 53, 54, 55, 56, 57, 97, 98, 99, 100, 101, 102]⟩))) (.t 8), none⟩, ⟨(some 10), .callp 45 0 [(.t 6), (.t 9)], none⟩] [0, 1]) (.ops 0 [⟨(some 11), .mv (.t 0), none⟩, ⟨(some 12), .mv (.t 1), none⟩, ⟨(some 13), .bin .and (.t 12) (.k (.lf (.int .u8 15))), none⟩, ⟨(some 14), .ixs (.k (.lf (.str ⟨#[48, 49, 50, 51, 52, 53, 54, 55, 56, 57, 97, 98, 99, 100, 101, 102]⟩))) (.t 13), none⟩, ⟨(some 15), .callp 45 0 [(.t 11), (.t 14)], none⟩] [])
abbrev c72_2 : AC := .seq (.ops 0 [⟨(some 4), .mv (.t 0), none⟩, ⟨(some 5), .callp 43 0 [(.t 4), (.k (.lf (.str ⟨#[92, 120]⟩)))], none⟩] [0, 1]) c72_1
abbrev c72_3 : AC := .cond (.t 43) (.ops 0 [⟨(some 50), .mv (.t 0), none⟩, ⟨(some 51), .mv (.t 1), none⟩, ⟨(some 52), .callp 45 0 [(.t 50), (.t 51)], none⟩] []) c72_2
abbrev c72_4 : AC := .seq (.ops 0 [⟨(some 44), .mv (.t 1), none⟩, ⟨(some 45), .bin .geq (.t 44) (.k (.lf (.int .u8 32))), none⟩, ⟨(some 46), .mv (.t 45), none⟩, ⟨(some 47), .mv (.t 1), (some (46, true))⟩, ⟨(some 48), .bin .leq (.t 47) (.k (.lf (.int .u8 126))), (some (46, true))⟩, ⟨(some 49), .pk (.t 46) (.t 48) (.k (.lf (.bool false))), none⟩, ⟨(some 43), .as 0 0 (.t 49), none⟩] [0, 1, 43]) c72_3
abbrev c72_5 : AC := .cond (.t 31) c72_0 c72_4
abbrev c72_6 : AC := .seq (.ops 0 [⟨(some 32), .mv (.t 1), none⟩, ⟨(some 33), .bin .eql (.t 32) (.k (.lf (.int .u8 39))), none⟩, ⟨(some 34), .mv (.t 33), none⟩, ⟨(some 35), .mv (.t 1), (some (34, false))⟩, ⟨(some 36), .bin .eql (.t 35) (.k (.lf (.int .u8 92))), (some (34, false))⟩, ⟨(some 37), .pk (.t 34) (.k (.lf (.bool true))) (.t 36), none⟩, ⟨(some 31), .as 0 0 (.t 37), none⟩] [0, 1, 31]) c72_5
abbrev c72_7 : AC := .cond (.t 26) (.ops 0 [⟨(some 29), .mv (.t 0), none⟩, ⟨(some 30), .callp 43 0 [(.t 29), (.k (.lf (.str ⟨#[92, 116]⟩)))], none⟩] []) c72_6
abbrev c72_8 : AC := .seq (.ops 0 [⟨(some 27), .mv (.t 1), none⟩, ⟨(some 28), .bin .eql (.t 27) (.k (.lf (.int .u8 9))), none⟩, ⟨(some 26), .as 0 0 (.t 28), none⟩] [0, 1, 26]) c72_7
abbrev c72_9 : AC := .cond (.t 21) (.ops 0 [⟨(some 24), .mv (.t 0), none⟩, ⟨(some 25), .callp 43 0 [(.t 24), (.k (.lf (.str ⟨#[92, 114]⟩)))], none⟩] []) c72_8
abbrev c72_10 : AC := .seq (.ops 0 [⟨(some 22), .mv (.t 1), none⟩, ⟨(some 23), .bin .eql (.t 22) (.k (.lf (.int .u8 13))), none⟩, ⟨(some 21), .as 0 0 (.t 23), none⟩] [0, 1, 21]) c72_9
abbrev c72_11 : AC := .cond (.t 16) (.ops 0 [⟨(some 19), .mv (.t 0), none⟩, ⟨(some 20), .callp 43 0 [(.t 19), (.k (.lf (.str ⟨#[92, 110]⟩)))], none⟩] []) c72_10
abbrev c72_12 : AC := .seq (.ops 0 [⟨(some 17), .mv (.t 1), none⟩, ⟨(some 18), .bin .eql (.t 17) (.k (.lf (.int .u8 10))), none⟩, ⟨(some 16), .as 0 0 (.t 18), none⟩] [0, 1, 16]) c72_11
abbrev c72_13 : AC := .block 0 c72_12
abbrev c72 : AC := c72_13
theorem c72_ok : compileFn Tryd.prog 72 = some (53, AC.strip c72, []) := by kernel_rfl
/-- harrow/quote.Quote -/
abbrev c60_0 : AC := .seq (.ops 0 [⟨(some 2), .as 0 0 (.k (.lf (.str ⟨#[]⟩))), none⟩, ⟨(some 3), .as 0 0 (.k (.lf (.int .i64 2))), none⟩] [2, 3]) .ret
abbrev c60_1 : AC := .cond (.t 8) c60_0 .skip
abbrev c60_2 : AC := .seq (.ops 0 [⟨(some 6), .mv (.t 0), none⟩, ⟨(some 7), .lns (.t 6), none⟩, ⟨(some 8), .bin .gtr (.t 7) (.k (.lf (.int .i64 65536))), none⟩] [0, 8]) c60_1
abbrev c60_3 : AC := .cond (.t 13) .skip (.exit 0)
abbrev c60_4 : AC := .seq (.ops 0 [⟨(some 14), .mv (.t 12), none⟩, ⟨(some 5), .as 0 0 (.t 14), none⟩] [0, 4, 5, 11, 12]) (.ops 0 [⟨(some 15), .mv (.t 0), none⟩, ⟨(some 16), .mv (.t 5), none⟩, ⟨(some 17), .ixs (.t 15) (.t 16), none⟩, ⟨(some 18), .callp 72 0 [(.t 4), (.t 17)], none⟩] [0, 4, 11, 12])
abbrev c60_5 : AC := .block 1 c60_4
abbrev c60_6 : AC := .seq c60_5 (.ops 0 [⟨(some 19), .bin .add (.t 12) (.k (.lf (.int .i64 1))), none⟩, ⟨(some 12), .mv (.t 19), none⟩] [0, 4, 11, 12])
abbrev c60_7 : AC := .seq c60_3 c60_6
abbrev c60_8 : AC := .seq (.ops 0 [⟨(some 13), .bin .lss (.t 12) (.t 11), none⟩] [0, 4, 11, 12, 13]) c60_7
abbrev c60_9 : AC := .loop c60_8 [0, 4, 11, 12]
abbrev c60_10 : AC := .block 0 c60_9
abbrev c60_11 : AC := .seq (.ops 0 [⟨(some 10), .mv (.t 0), none⟩, ⟨(some 11), .lns (.t 10), none⟩, ⟨(some 12), .mv (.k (.lf (.int .i64 0))), none⟩] [0, 4, 11, 12]) c60_10
abbrev c60_12 : AC := .seq (.ops 0 [⟨(some 2), .as 0 0 (.k (.lf (.str ⟨#[]⟩))), none⟩, ⟨(some 3), .as 0 0 (.k (.lf (.int .i64 2))), none⟩] [2, 3]) .ret
abbrev c60_13 : AC := .cond (.t 22) c60_12 .skip
abbrev c60_14 : AC := .seq (.ops 0 [⟨(some 21), .callp 46 0 [(.t 4)], none⟩, ⟨(some 22), .bin .gtr (.t 21) (.k (.lf (.int .i64 65536))), none⟩] [4, 22]) c60_13
abbrev c60_15 : AC := .seq (.ops 0 [⟨(some 23), .callp 47 0 [(.t 4)], none⟩, ⟨(some 2), .as 0 0 (.t 23), none⟩, ⟨(some 3), .as 0 0 (.k (.lf (.int .i64 0))), none⟩] [2, 3]) .ret
abbrev c60_16 : AC := .seq c60_14 c60_15
abbrev c60_17 : AC := .seq (.ops 0 [⟨(some 20), .callp 45 0 [(.t 4), (.k (.lf (.int .u8 39)))], none⟩] [4]) c60_16
abbrev c60_18 : AC := .seq c60_11 c60_17
abbrev c60_19 : AC := .seq (.ops 0 [⟨(some 9), .callp 45 0 [(.t 4), (.k (.lf (.int .u8 39)))], none⟩] [0, 4]) c60_18
abbrev c60_20 : AC := .seq (.ops 0 [⟨(some 4), .alt 73 [.nilp, .lst (.own 515 5) 1 [] []], none⟩] [0, 4]) c60_19
abbrev c60_21 : AC := .seq c60_2 c60_20
abbrev c60_22 : AC := .seq (.ops 0 [⟨(some 2), .as 0 0 (.k (.lf (.str ⟨#[]⟩))), none⟩, ⟨(some 3), .as 0 0 (.k (.lf (.int .i64 0))), none⟩] [0]) c60_21
abbrev c60 : AC := c60_22
theorem c60_ok : compileFn Tryd.prog 60 = some (24, AC.strip c60, [.t 2, .t 3]) := by kernel_rfl
/-- harrow/harrowref02.digit -/
abbrev c76_0 : AC := .seq (.ops 0 [⟨(some 5), .mv (.t 0), none⟩, ⟨(some 6), .bin .add (.k (.lf (.int .i64 48))) (.t 5), none⟩, ⟨(some 7), .cvi .u8 (.t 6), none⟩, ⟨(some 2), .as 0 0 (.t 7), none⟩] [2]) .ret
abbrev c76_1 : AC := .cond (.t 4) c76_0 .skip
abbrev c76_2 : AC := .seq (.ops 0 [⟨(some 3), .mv (.t 0), none⟩, ⟨(some 4), .bin .lss (.t 3) (.k (.lf (.int .i64 10))), none⟩] [0, 4]) c76_1
abbrev c76_3 : AC := .seq (.ops 0 [⟨(some 8), .mv (.t 0), none⟩, ⟨(some 9), .bin .add (.k (.lf (.int .i64 97))) (.t 8), none⟩, ⟨(some 10), .bin .sub (.t 9) (.k (.lf (.int .i64 10))), none⟩, ⟨(some 11), .cvi .u8 (.t 10), none⟩, ⟨(some 2), .as 0 0 (.t 11), none⟩] [2]) .ret
abbrev c76_4 : AC := .seq c76_2 c76_3
abbrev c76_5 : AC := .seq (.ops 0 [⟨(some 2), .as 0 0 (.k (.lf (.int .u8 0))), none⟩] [0]) c76_4
abbrev c76 : AC := c76_5
theorem c76_ok : compileFn Tryd.prog 76 = some (12, AC.strip c76, [.t 2]) := by kernel_rfl
/-- harrow/harrowref02.Quote -/
abbrev c63_0 : AC := .seq (.ops 0 [⟨(some 2), .as 0 0 (.k (.lf (.str ⟨#[]⟩))), none⟩, ⟨(some 3), .as 0 0 (.k (.lf (.int .i64 2))), none⟩] [2, 3]) .ret
abbrev c63_1 : AC := .cond (.t 9) c63_0 .skip
abbrev c63_2 : AC := .seq (.ops 0 [⟨(some 7), .mv (.t 0), none⟩, ⟨(some 8), .lns (.t 7), none⟩, ⟨(some 9), .bin .gtr (.t 8) (.k (.lf (.int .i64 65536))), none⟩] [0, 9]) c63_1
abbrev c63_3 : AC := .cond (.t 19) .skip (.exit 0)
abbrev c63_4 : AC := .seq (.ops 0 [⟨(some 11), .mv (.t 5), none⟩, ⟨(some 12), .mv (.t 0), none⟩, ⟨(some 13), .lns (.t 12), none⟩, ⟨(some 14), .bin .lss (.t 11) (.t 13), none⟩, ⟨(some 15), .mv (.t 14), none⟩, ⟨(some 16), .mv (.t 4), (some (15, true))⟩, ⟨(some 17), .len (.t 16), (some (15, true))⟩, ⟨(some 18), .bin .leq (.t 17) (.k (.lf (.int .i64 65536))), (some (15, true))⟩, ⟨(some 19), .pk (.t 15) (.t 18) (.k (.lf (.bool false))), none⟩] [0, 4, 5, 19]) c63_3
abbrev c63_5 : AC := .cond (.t 65) (.ops 0 [⟨(some 72), .mv (.t 4), none⟩, ⟨(some 73), .mv (.t 6), none⟩, ⟨(some 74), .bs 5 1 1 [.int .u8 0] [(0, (.t 73))], none⟩, ⟨(some 75), .app 5 1 1 (.t 72) (.t 74), none⟩, ⟨(some 4), .as 5 1 (.t 75), none⟩] [0, 4, 5]) (.ops 0 [⟨(some 25), .mv (.t 4), none⟩, ⟨(some 26), .mv (.t 6), none⟩, ⟨(some 27), .cvi .i64 (.t 26), none⟩, ⟨(some 28), .bin .quo (.t 27) (.k (.lf (.int .i64 16))), none⟩, ⟨(some 29), .call 76 [(.t 28)], none⟩, ⟨(some 30), .mv (.t 6), none⟩, ⟨(some 31), .cvi .i64 (.t 30), none⟩, ⟨(some 32), .bin .rem (.t 31) (.k (.lf (.int .i64 16))), none⟩, ⟨(some 33), .call 76 [(.t 32)], none⟩, ⟨(some 34), .bs 5 1 4 [.int .u8 0] [(0, (.k (.lf (.int .u8 92)))), (1, (.k (.lf (.int .u8 120)))), (2, (.t 29)), (3, (.t 33))], none⟩, ⟨(some 35), .app 5 1 1 (.t 25) (.t 34), none⟩, ⟨(some 4), .as 5 1 (.t 35), none⟩] [0, 4, 5])
abbrev c63_6 : AC := .seq (.ops 0 [⟨(some 66), .mv (.t 6), none⟩, ⟨(some 67), .bin .geq (.t 66) (.k (.lf (.int .u8 32))), none⟩, ⟨(some 68), .mv (.t 67), none⟩, ⟨(some 69), .mv (.t 6), (some (68, true))⟩, ⟨(some 70), .bin .leq (.t 69) (.k (.lf (.int .u8 126))), (some (68, true))⟩, ⟨(some 71), .pk (.t 68) (.t 70) (.k (.lf (.bool false))), none⟩, ⟨(some 65), .as 0 0 (.t 71), none⟩] [0, 4, 5, 6, 65]) c63_5
abbrev c63_7 : AC := .cond (.t 54) (.ops 0 [⟨(some 61), .mv (.t 4), none⟩, ⟨(some 62), .mv (.t 6), none⟩, ⟨(some 63), .bs 5 1 2 [.int .u8 0] [(0, (.k (.lf (.int .u8 92)))), (1, (.t 62))], none⟩, ⟨(some 64), .app 5 1 1 (.t 61) (.t 63), none⟩, ⟨(some 4), .as 5 1 (.t 64), none⟩] [0, 4, 5]) c63_6
abbrev c63_8 : AC := .seq (.ops 0 [⟨(some 55), .mv (.t 6), none⟩, ⟨(some 56), .bin .eql (.t 55) (.k (.lf (.int .u8 39))), none⟩, ⟨(some 57), .mv (.t 56), none⟩, ⟨(some 58), .mv (.t 6), (some (57, false))⟩, ⟨(some 59), .bin .eql (.t 58) (.k (.lf (.int .u8 92))), (some (57, false))⟩, ⟨(some 60), .pk (.t 57) (.k (.lf (.bool true))) (.t 59), none⟩, ⟨(some 54), .as 0 0 (.t 60), none⟩] [0, 4, 5, 6, 54]) c63_7
abbrev c63_9 : AC := .cond (.t 48) (.ops 0 [⟨(some 51), .mv (.t 4), none⟩, ⟨(some 52), .bs 5 1 2 [.int .u8 0] [(0, (.k (.lf (.int .u8 92)))), (1, (.k (.lf (.int .u8 116))))], none⟩, ⟨(some 53), .app 5 1 1 (.t 51) (.t 52), none⟩, ⟨(some 4), .as 5 1 (.t 53), none⟩] [0, 4, 5]) c63_8
abbrev c63_10 : AC := .seq (.ops 0 [⟨(some 49), .mv (.t 6), none⟩, ⟨(some 50), .bin .eql (.t 49) (.k (.lf (.int .u8 9))), none⟩, ⟨(some 48), .as 0 0 (.t 50), none⟩] [0, 4, 5, 6, 48]) c63_9
abbrev c63_11 : AC := .cond (.t 42) (.ops 0 [⟨(some 45), .mv (.t 4), none⟩, ⟨(some 46), .bs 5 1 2 [.int .u8 0] [(0, (.k (.lf (.int .u8 92)))), (1, (.k (.lf (.int .u8 114))))], none⟩, ⟨(some 47), .app 5 1 1 (.t 45) (.t 46), none⟩, ⟨(some 4), .as 5 1 (.t 47), none⟩] [0, 4, 5]) c63_10
abbrev c63_12 : AC := .seq (.ops 0 [⟨(some 43), .mv (.t 6), none⟩, ⟨(some 44), .bin .eql (.t 43) (.k (.lf (.int .u8 13))), none⟩, ⟨(some 42), .as 0 0 (.t 44), none⟩] [0, 4, 5, 6, 42]) c63_11
abbrev c63_13 : AC := .cond (.t 36) (.ops 0 [⟨(some 39), .mv (.t 4), none⟩, ⟨(some 40), .bs 5 1 2 [.int .u8 0] [(0, (.k (.lf (.int .u8 92)))), (1, (.k (.lf (.int .u8 110))))], none⟩, ⟨(some 41), .app 5 1 1 (.t 39) (.t 40), none⟩, ⟨(some 4), .as 5 1 (.t 41), none⟩] [0, 4, 5]) c63_12
abbrev c63_14 : AC := .seq (.ops 0 [⟨(some 37), .mv (.t 6), none⟩, ⟨(some 38), .bin .eql (.t 37) (.k (.lf (.int .u8 10))), none⟩, ⟨(some 36), .as 0 0 (.t 38), none⟩] [0, 4, 5, 6, 36]) c63_13
abbrev c63_15 : AC := .block 2 c63_14
abbrev c63_16 : AC := .seq (.ops 0 [⟨(some 22), .mv (.t 0), none⟩, ⟨(some 23), .mv (.t 5), none⟩, ⟨(some 24), .ixs (.t 22) (.t 23), none⟩, ⟨(some 6), .as 0 0 (.t 24), none⟩] [0, 4, 5, 6]) c63_15
abbrev c63_17 : AC := .block 1 c63_16
abbrev c63_18 : AC := .seq c63_17 (.ops 0 [⟨(some 20), .mv (.t 5), none⟩, ⟨(some 21), .bin .add (.t 20) (.k (.lf (.int .i64 1))), none⟩, ⟨(some 5), .as 0 0 (.t 21), none⟩] [0, 4, 5])
abbrev c63_19 : AC := .seq c63_4 c63_18
abbrev c63_20 : AC := .loop c63_19 [0, 4, 5]
abbrev c63_21 : AC := .block 0 c63_20
abbrev c63_22 : AC := .seq (.ops 0 [⟨(some 5), .as 0 0 (.k (.lf (.int .i64 0))), none⟩] [0, 4, 5]) c63_21
abbrev c63_23 : AC := .seq (.ops 0 [⟨(some 2), .as 0 0 (.k (.lf (.str ⟨#[]⟩))), none⟩, ⟨(some 3), .as 0 0 (.k (.lf (.int .i64 2))), none⟩] [2, 3]) .ret
abbrev c63_24 : AC := .cond (.t 81) c63_23 .skip
abbrev c63_25 : AC := .seq (.ops 0 [⟨(some 79), .mv (.t 4), none⟩, ⟨(some 80), .len (.t 79), none⟩, ⟨(some 81), .bin .gtr (.t 80) (.k (.lf (.int .i64 65536))), none⟩] [4, 81]) c63_24
abbrev c63_26 : AC := .seq (.ops 0 [⟨(some 82), .mv (.t 4), none⟩, ⟨(some 83), .cbs (.t 82), none⟩, ⟨(some 2), .as 0 0 (.t 83), none⟩, ⟨(some 3), .as 0 0 (.k (.lf (.int .i64 0))), none⟩] [2, 3]) .ret
abbrev c63_27 : AC := .seq c63_25 c63_26
abbrev c63_28 : AC := .seq (.ops 0 [⟨(some 76), .mv (.t 4), none⟩, ⟨(some 77), .bs 5 1 1 [.int .u8 0] [(0, (.k (.lf (.int .u8 39))))], none⟩, ⟨(some 78), .app 5 1 1 (.t 76) (.t 77), none⟩, ⟨(some 4), .as 5 1 (.t 78), none⟩] [4]) c63_27
abbrev c63_29 : AC := .seq c63_22 c63_28
abbrev c63_30 : AC := .seq (.ops 0 [⟨(some 10), .bs 5 1 1 [.int .u8 0] [(0, (.k (.lf (.int .u8 39))))], none⟩, ⟨(some 4), .as 5 1 (.t 10), none⟩] [0, 4]) c63_29
abbrev c63_31 : AC := .seq c63_2 c63_30
abbrev c63_32 : AC := .seq (.ops 0 [⟨(some 2), .as 0 0 (.k (.lf (.str ⟨#[]⟩))), none⟩, ⟨(some 3), .as 0 0 (.k (.lf (.int .i64 0))), none⟩] [0]) c63_31
abbrev c63 : AC := c63_32
theorem c63_ok : compileFn Tryd.prog 63 = some (84, AC.strip c63, [.t 2, .t 3]) := by kernel_rfl
end Go.Proofs.YthcpaohmajjopaaDoor.I
set_option maxRecDepth 100000
namespace Go.Proofs.YthcpaohmajjopaaDoor.I
open Go Go.Proofs.YthcpaohmajjopaaDoor.AM
/-- harrow/harrowref16.Bytes -/
abbrev c23_0 : AC := .seq (.ops 0 [⟨(some 19), .mv (.t 5), none⟩, ⟨(some 2), .as 0 0 (.k (.lf (.str ⟨#[]⟩))), none⟩, ⟨(some 3), .as 0 0 (.t 19), none⟩] [2, 3]) .ret
abbrev c23_1 : AC := .cond (.t 18) c23_0 .skip
abbrev c23_2 : AC := .seq (.ops 0 [⟨(some 17), .mv (.t 5), none⟩, ⟨(some 18), .bin .neq (.t 17) (.k (.lf (.int .i64 0))), none⟩] [0, 5, 18]) c23_1
abbrev c23_3 : AC := .seq (.ops 0 [⟨(some 13), .mv (.t 0), none⟩, ⟨(some 14), .call 35 [(.t 13)], none⟩, ⟨(some 12), .mv (.t 14), none⟩, ⟨(some 15), .ext (.t 12) 0, none⟩, ⟨(some 16), .ext (.t 12) 1, none⟩, ⟨(some 4), .as 0 0 (.t 15), none⟩, ⟨(some 5), .as 0 0 (.t 16), none⟩] [0, 5]) c23_2
abbrev c23_4 : AC := .cond (.t 31) .skip (.exit 0)
abbrev c23_5 : AC := .seq (.ops 0 [⟨(some 23), .mv (.t 7), none⟩, ⟨(some 24), .mv (.t 0), none⟩, ⟨(some 25), .len (.t 24), none⟩, ⟨(some 26), .bin .lss (.t 23) (.t 25), none⟩, ⟨(some 27), .mv (.t 26), none⟩, ⟨(some 28), .mv (.t 6), (some (27, true))⟩, ⟨(some 29), .len (.t 28), (some (27, true))⟩, ⟨(some 30), .bin .leq (.t 29) (.k (.lf (.int .i64 1048576))), (some (27, true))⟩, ⟨(some 31), .pk (.t 27) (.t 30) (.k (.lf (.bool false))), none⟩] [0, 6, 7, 31]) c23_4
abbrev c23_6 : AC := .cond (.t 56) (.ops 0 [⟨(some 57), .mv (.t 6), none⟩, ⟨(some 58), .fa (.t 8) 1, none⟩, ⟨(some 59), .ld (.t 58) 1 false, none⟩, ⟨(some 60), .call 39 [(.t 59)], none⟩, ⟨(some 61), .app 5 1 1 (.t 57) (.t 60), none⟩, ⟨(some 6), .as 5 1 (.t 61), none⟩] [0, 6, 7, 8, 9]) .skip
abbrev c23_7 : AC := .seq (.ops 0 [⟨(some 51), .mv (.t 9), none⟩, ⟨(some 52), .call 41 [(.t 51), (.k (.lf (.int .i64 1)))], none⟩, ⟨(some 53), .mv (.t 52), none⟩, ⟨(some 54), .mv (.t 9), (some (53, false))⟩, ⟨(some 55), .call 41 [(.t 54), (.k (.lf (.int .i64 2)))], (some (53, false))⟩, ⟨(some 56), .pk (.t 53) (.k (.lf (.bool true))) (.t 55), none⟩] [0, 6, 7, 8, 9, 56]) c23_6
abbrev c23_8 : AC := .cond (.t 63) (.ops 0 [⟨(some 64), .mv (.t 6), none⟩, ⟨(some 65), .fa (.t 8) 2, none⟩, ⟨(some 66), .ld (.t 65) 1 false, none⟩, ⟨(some 67), .cvi .u8 (.t 66), none⟩, ⟨(some 68), .bs 5 1 1 [.int .u8 0] [(0, (.t 67))], none⟩, ⟨(some 69), .app 5 1 1 (.t 64) (.t 68), none⟩, ⟨(some 6), .as 5 1 (.t 69), none⟩] [0, 6, 7, 8, 9]) .skip
abbrev c23_9 : AC := .seq (.ops 0 [⟨(some 62), .mv (.t 9), none⟩, ⟨(some 63), .call 41 [(.t 62), (.k (.lf (.int .i64 4)))], none⟩] [0, 6, 7, 8, 9, 63]) c23_8
abbrev c23_10 : AC := .seq (.ops 0 [⟨(some 72), .mv (.t 6), none⟩, ⟨(some 73), .fa (.t 8) 2, none⟩, ⟨(some 74), .ld (.t 73) 1 false, none⟩, ⟨(some 75), .cvi .u8 (.t 74), none⟩, ⟨(some 76), .fa (.t 8) 3, none⟩, ⟨(some 77), .ld (.t 76) 1 false, none⟩, ⟨(some 78), .cvi .u8 (.t 77), none⟩, ⟨(some 79), .fa (.t 8) 4, none⟩, ⟨(some 80), .ld (.t 79) 1 false, none⟩, ⟨(some 81), .lns (.t 80), none⟩, ⟨(some 82), .cvi .u8 (.t 81), none⟩, ⟨(some 83), .bs 5 1 3 [.int .u8 0] [(0, (.t 75)), (1, (.t 78)), (2, (.t 82))], none⟩, ⟨(some 84), .app 5 1 1 (.t 72) (.t 83), none⟩, ⟨(some 6), .as 5 1 (.t 84), none⟩] [0, 6, 7, 8, 9]) (.ops 0 [⟨(some 85), .mv (.t 6), none⟩, ⟨(some 86), .fa (.t 8) 4, none⟩, ⟨(some 87), .ld (.t 86) 1 false, none⟩, ⟨(some 88), .aps 5 (.t 85) (.t 87), none⟩, ⟨(some 6), .as 5 1 (.t 88), none⟩] [0, 6, 7, 8, 9])
abbrev c23_11 : AC := .cond (.t 71) c23_10 .skip
abbrev c23_12 : AC := .seq (.ops 0 [⟨(some 70), .mv (.t 9), none⟩, ⟨(some 71), .call 41 [(.t 70), (.k (.lf (.int .i64 8)))], none⟩] [0, 6, 7, 8, 9, 71]) c23_11
abbrev c23_13 : AC := .cond (.t 90) (.ops 0 [⟨(some 91), .mv (.t 6), none⟩, ⟨(some 92), .fa (.t 8) 5, none⟩, ⟨(some 93), .ld (.t 92) 4 true, none⟩, ⟨(some 94), .call 42 [(.t 93)], none⟩, ⟨(some 95), .app 5 1 1 (.t 91) (.t 94), none⟩, ⟨(some 6), .as 5 1 (.t 95), none⟩] [0, 6, 7]) .skip
abbrev c23_14 : AC := .seq (.ops 0 [⟨(some 89), .mv (.t 9), none⟩, ⟨(some 90), .call 41 [(.t 89), (.k (.lf (.int .i64 16)))], none⟩] [0, 6, 7, 8, 90]) c23_13
abbrev c23_15 : AC := .seq c23_12 c23_14
abbrev c23_16 : AC := .seq c23_9 c23_15
abbrev c23_17 : AC := .seq c23_7 c23_16
abbrev c23_18 : AC := .seq (.ops 0 [⟨(some 45), .mv (.t 6), none⟩, ⟨(some 46), .fa (.t 8) 0, none⟩, ⟨(some 47), .ld (.t 46) 1 false, none⟩, ⟨(some 48), .cvi .u8 (.t 47), none⟩, ⟨(some 49), .bs 5 1 1 [.int .u8 0] [(0, (.t 48))], none⟩, ⟨(some 50), .app 5 1 1 (.t 45) (.t 49), none⟩, ⟨(some 6), .as 5 1 (.t 50), none⟩] [0, 6, 7, 8, 9]) c23_17
abbrev c23_19 : AC := .seq (.ops 0 [⟨(some 39), .fa (.t 8) 0, none⟩, ⟨(some 40), .ld (.t 39) 1 false, none⟩, ⟨(some 41), .call 40 [(.t 40)], none⟩, ⟨(some 38), .mv (.t 41), none⟩, ⟨(some 42), .ext (.t 38) 0, none⟩, ⟨(some 43), .ext (.t 38) 1, none⟩, ⟨(some 44), .ext (.t 38) 2, none⟩, ⟨(some 9), .as 0 0 (.t 42), none⟩, ⟨(some 10), .as 0 0 (.t 43), none⟩, ⟨(some 11), .as 0 0 (.t 44), none⟩] [0, 6, 7, 8, 9]) c23_18
abbrev c23_20 : AC := .seq (.ops 0 [⟨(some 34), .mv (.t 0), none⟩, ⟨(some 35), .mv (.t 7), none⟩, ⟨(some 36), .ia (.t 34) (.t 35) 9, none⟩, ⟨(some 37), .ld (.t 36) 9 true, none⟩, ⟨(some 8), .al [.int .i64 0, .int .i64 0, .int .i64 0, .int .i64 0, .str ⟨#[]⟩, .int .u64 0, .int .u64 0, .int .u64 0, .int .u64 0], none⟩, ⟨none, .st (.t 8) (.t 37) 9, none⟩] [0, 6, 7, 8]) c23_19
abbrev c23_21 : AC := .block 1 c23_20
abbrev c23_22 : AC := .seq c23_21 (.ops 0 [⟨(some 32), .mv (.t 7), none⟩, ⟨(some 33), .bin .add (.t 32) (.k (.lf (.int .i64 1))), none⟩, ⟨(some 7), .as 0 0 (.t 33), none⟩] [0, 6, 7])
abbrev c23_23 : AC := .seq c23_5 c23_22
abbrev c23_24 : AC := .loop c23_23 [0, 6, 7]
abbrev c23_25 : AC := .block 0 c23_24
abbrev c23_26 : AC := .seq (.ops 0 [⟨(some 7), .as 0 0 (.k (.lf (.int .i64 0))), none⟩] [0, 6, 7]) c23_25
abbrev c23_27 : AC := .seq (.ops 0 [⟨(some 2), .as 0 0 (.k (.lf (.str ⟨#[]⟩))), none⟩, ⟨(some 3), .as 0 0 (.k (.lf (.int .i64 2))), none⟩] [2, 3]) .ret
abbrev c23_28 : AC := .cond (.t 98) c23_27 .skip
abbrev c23_29 : AC := .seq (.ops 0 [⟨(some 96), .mv (.t 6), none⟩, ⟨(some 97), .len (.t 96), none⟩, ⟨(some 98), .bin .gtr (.t 97) (.k (.lf (.int .i64 1048576))), none⟩] [6, 98]) c23_28
abbrev c23_30 : AC := .seq (.ops 0 [⟨(some 99), .mv (.t 6), none⟩, ⟨(some 100), .cbs (.t 99), none⟩, ⟨(some 2), .as 0 0 (.t 100), none⟩, ⟨(some 3), .as 0 0 (.k (.lf (.int .i64 0))), none⟩] [2, 3]) .ret
abbrev c23_31 : AC := .seq c23_29 c23_30
abbrev c23_32 : AC := .seq c23_26 c23_31
abbrev c23_33 : AC := .seq (.ops 0 [⟨(some 20), .mv (.t 0), none⟩, ⟨(some 21), .len (.t 20), none⟩, ⟨(some 22), .call 39 [(.t 21)], none⟩, ⟨(some 6), .as 5 1 (.t 22), none⟩] [0, 6]) c23_32
abbrev c23_34 : AC := .seq c23_3 c23_33
abbrev c23_35 : AC := .seq (.ops 0 [⟨(some 2), .as 0 0 (.k (.lf (.str ⟨#[]⟩))), none⟩, ⟨(some 3), .as 0 0 (.k (.lf (.int .i64 0))), none⟩] [0]) c23_34
abbrev c23 : AC := c23_35
theorem c23_ok : compileFn Tryd.prog 23 = some (101, AC.strip c23, [.t 2, .t 3]) := by kernel_rfl
/-- harrow/harrowref16.number -/
abbrev c39_0 : AC := .seq (.ops 0 [⟨(some 3), .mv (.t 0), none⟩, ⟨(some 4), .bin .shr (.t 3) (.k (.lf (.int .u64 8))), none⟩, ⟨(some 5), .cvi .u8 (.t 4), none⟩, ⟨(some 6), .mv (.t 0), none⟩, ⟨(some 7), .cvi .u8 (.t 6), none⟩, ⟨(some 8), .bs 5 1 2 [.int .u8 0] [(0, (.t 5)), (1, (.t 7))], none⟩, ⟨(some 2), .as 5 1 (.t 8), none⟩] [2]) .ret
abbrev c39_1 : AC := .seq (.ops 0 [⟨(some 2), .as 5 1 (.k (.lf (.lst .nl 1 [] []))), none⟩] [0]) c39_0
abbrev c39 : AC := c39_1
theorem c39_ok : compileFn Tryd.prog 39 = some (9, AC.strip c39, [.t 2]) := by kernel_rfl
/-- harrow/harrowref16.members -/
abbrev c42_0 : AC := .cond (.t 8) .skip (.exit 0)
abbrev c42_1 : AC := .seq (.ops 0 [⟨(some 7), .mv (.t 4), none⟩, ⟨(some 8), .bin .lss (.t 7) (.k (.lf (.int .i64 32))), none⟩] [1, 3, 4, 8]) c42_0
abbrev c42_2 : AC := .cond (.t 12) .skip (.exit 2)
abbrev c42_3 : AC := .seq (.ops 0 [⟨(some 11), .mv (.t 6), none⟩, ⟨(some 12), .bin .geq (.t 11) (.k (.lf (.int .i64 0))), none⟩] [1, 3, 4, 5, 6, 12]) c42_2
abbrev c42_4 : AC := .cond (.t 22) (.ops 0 [⟨(some 23), .mv (.t 5), none⟩, ⟨(some 24), .bin .add (.t 23) (.k (.lf (.int .i64 1))), none⟩, ⟨(some 5), .as 0 0 (.t 24), none⟩] [1, 3, 4, 5, 6]) .skip
abbrev c42_5 : AC := .seq (.ops 0 [⟨(some 17), .ld (.t 1) 4 true, none⟩, ⟨(some 18), .mv (.t 4), none⟩, ⟨(some 19), .bin .mul (.k (.lf (.int .i64 8))) (.t 18), none⟩, ⟨(some 20), .mv (.t 6), none⟩, ⟨(some 21), .bin .add (.t 19) (.t 20), none⟩, ⟨(some 22), .call 57 [(.t 17), (.t 21)], none⟩] [1, 3, 4, 5, 6, 22]) c42_4
abbrev c42_6 : AC := .seq (.ops 0 [⟨(some 15), .mv (.t 5), none⟩, ⟨(some 16), .bin .mul (.t 15) (.k (.lf (.int .i64 2))), none⟩, ⟨(some 5), .as 0 0 (.t 16), none⟩] [1, 3, 4, 5, 6]) c42_5
abbrev c42_7 : AC := .block 3 c42_6
abbrev c42_8 : AC := .seq c42_7 (.ops 0 [⟨(some 13), .mv (.t 6), none⟩, ⟨(some 14), .bin .sub (.t 13) (.k (.lf (.int .i64 1))), none⟩, ⟨(some 6), .as 0 0 (.t 14), none⟩] [1, 3, 4, 5, 6])
abbrev c42_9 : AC := .seq c42_3 c42_8
abbrev c42_10 : AC := .loop c42_9 [1, 3, 4, 5, 6]
abbrev c42_11 : AC := .block 2 c42_10
abbrev c42_12 : AC := .seq (.ops 0 [⟨(some 6), .as 0 0 (.k (.lf (.int .i64 7))), none⟩] [1, 3, 4, 5, 6]) c42_11
abbrev c42_13 : AC := .seq c42_12 (.ops 0 [⟨(some 25), .mv (.t 3), none⟩, ⟨(some 26), .mv (.t 5), none⟩, ⟨(some 27), .cvi .u8 (.t 26), none⟩, ⟨(some 28), .bs 5 1 1 [.int .u8 0] [(0, (.t 27))], none⟩, ⟨(some 29), .app 5 1 1 (.t 25) (.t 28), none⟩, ⟨(some 3), .as 5 1 (.t 29), none⟩] [1, 3, 4])
abbrev c42_14 : AC := .seq (.ops 0 [⟨(some 5), .as 0 0 (.k (.lf (.int .i64 0))), none⟩] [1, 3, 4, 5]) c42_13
abbrev c42_15 : AC := .block 1 c42_14
abbrev c42_16 : AC := .seq c42_15 (.ops 0 [⟨(some 9), .mv (.t 4), none⟩, ⟨(some 10), .bin .add (.t 9) (.k (.lf (.int .i64 1))), none⟩, ⟨(some 4), .as 0 0 (.t 10), none⟩] [1, 3, 4])
abbrev c42_17 : AC := .seq c42_1 c42_16
abbrev c42_18 : AC := .loop c42_17 [1, 3, 4]
abbrev c42_19 : AC := .block 0 c42_18
abbrev c42_20 : AC := .seq (.ops 0 [⟨(some 4), .as 0 0 (.k (.lf (.int .i64 0))), none⟩] [1, 3, 4]) c42_19
abbrev c42_21 : AC := .seq (.ops 0 [⟨(some 30), .mv (.t 3), none⟩, ⟨(some 2), .as 5 1 (.t 30), none⟩] [2]) .ret
abbrev c42_22 : AC := .seq c42_20 c42_21
abbrev c42_23 : AC := .seq (.ops 0 [⟨(some 3), .as 5 1 (.k (.lf (.lst .nl 1 [] []))), none⟩] [1, 3]) c42_22
abbrev c42_24 : AC := .seq (.ops 0 [⟨(some 1), .bx (.t 0), none⟩, ⟨(some 2), .as 5 1 (.k (.lf (.lst .nl 1 [] []))), none⟩] [1]) c42_23
abbrev c42 : AC := c42_24
theorem c42_ok : compileFn Tryd.prog 42 = some (31, AC.strip c42, [.t 2]) := by kernel_rfl
/-- harrow/harrowref01.Has -/
abbrev c57_0 : AC := .seq (.ops 0 [⟨(some 5), .mv (.t 1), none⟩, ⟨(some 6), .bin .geq (.t 5) (.k (.lf (.int .i64 0))), none⟩, ⟨(some 7), .mv (.t 6), none⟩, ⟨(some 8), .mv (.t 1), (some (7, true))⟩, ⟨(some 9), .bin .leq (.t 8) (.k (.lf (.int .i64 255))), (some (7, true))⟩, ⟨(some 10), .pk (.t 7) (.t 9) (.k (.lf (.bool false))), none⟩, ⟨(some 11), .mv (.t 10), none⟩, ⟨(some 12), .mv (.t 1), (some (11, true))⟩, ⟨(some 13), .bin .quo (.t 12) (.k (.lf (.int .i64 64))), (some (11, true))⟩, ⟨(some 14), .iaa (.t 2) (.t 13) 4 1, (some (11, true))⟩, ⟨(some 15), .ld (.t 14) 1 false, (some (11, true))⟩, ⟨(some 16), .mv (.t 1), (some (11, true))⟩, ⟨(some 17), .bin .rem (.t 16) (.k (.lf (.int .i64 64))), (some (11, true))⟩, ⟨(some 18), .bin .shr (.t 15) (.t 17), (some (11, true))⟩, ⟨(some 19), .bin .and (.t 18) (.k (.lf (.int .u64 1))), (some (11, true))⟩, ⟨(some 20), .bin .eql (.t 19) (.k (.lf (.int .u64 1))), (some (11, true))⟩, ⟨(some 21), .pk (.t 11) (.t 20) (.k (.lf (.bool false))), none⟩, ⟨(some 4), .as 0 0 (.t 21), none⟩] [4]) .ret
abbrev c57_1 : AC := .seq (.ops 0 [⟨(some 2), .bx (.t 0), none⟩, ⟨(some 4), .as 0 0 (.k (.lf (.bool false))), none⟩] [1, 2]) c57_0
abbrev c57 : AC := c57_1
theorem c57_ok : compileFn Tryd.prog 57 = some (22, AC.strip c57, [.t 4]) := by kernel_rfl
end Go.Proofs.YthcpaohmajjopaaDoor.I
set_option maxRecDepth 100000
namespace Go.Proofs.YthcpaohmajjopaaDoor.I
open Go Go.Proofs.YthcpaohmajjopaaDoor.AM
/-- harrow/instr.capture -/
abbrev c66_0 : AC := .seq (.ops 0 [⟨(some 18), .mv (.t 1), none⟩, ⟨(some 19), .bin .eql (.t 18) (.k (.lf (.int .i64 0))), none⟩, ⟨(some 20), .mv (.t 19), none⟩, ⟨(some 21), .mv (.t 2), (some (20, true))⟩, ⟨(some 22), .bin .eql (.t 21) (.k (.lf (.str ⟨#[]⟩))), (some (20, true))⟩, ⟨(some 23), .pk (.t 20) (.t 22) (.k (.lf (.bool false))), none⟩, ⟨(some 6), .as 0 0 (.t 23), none⟩] [6]) .ret
abbrev c66_1 : AC := .cond (.t 17) c66_0 .skip
abbrev c66_2 : AC := .seq (.ops 0 [⟨(some 16), .mv (.t 0), none⟩, ⟨(some 17), .bin .eql (.t 16) (.k (.lf (.int .i64 1))), none⟩] [1, 2, 7, 17]) c66_1
abbrev c66_3 : AC := .seq (.ops 0 [⟨(some 32), .mv (.t 9), none⟩, ⟨(some 33), .bin .eql (.t 32) (.k (.lf (.int .i64 0))), none⟩, ⟨(some 6), .as 0 0 (.t 33), none⟩] [6]) .ret
abbrev c66_4 : AC := .seq (.ops 0 [⟨(some 25), .ld (.t 7) 7 true, none⟩, ⟨(some 26), .bd [.int .i64 0, .int .i64 0, .str ⟨#[]⟩, .int .u64 0, .int .u64 0, .int .u64 0, .int .u64 0] [(0, 1, (.k (.lf (.int .i64 3))))], none⟩, ⟨(some 27), .bs 109 7 1 [.int .i64 0, .int .i64 0, .str ⟨#[]⟩, .int .u64 0, .int .u64 0, .int .u64 0, .int .u64 0] [(0, (.t 26))], none⟩, ⟨(some 28), .bs 111 1 1 [.lst .ro 7 [] []] [(0, (.t 27))], none⟩, ⟨(some 29), .call 80 [(.t 25), (.t 28)], none⟩, ⟨(some 24), .mv (.t 29), none⟩, ⟨(some 30), .ext (.t 24) 0, none⟩, ⟨(some 31), .ext (.t 24) 1, none⟩, ⟨(some 8), .as 109 7 (.t 30), none⟩, ⟨(some 9), .as 0 0 (.t 31), none⟩] [9]) c66_3
abbrev c66_5 : AC := .seq c66_2 c66_4
abbrev c66_6 : AC := .seq (.ops 0 [⟨(some 10), .mv (.t 0), none⟩, ⟨(some 11), .bin .sub (.t 10) (.k (.lf (.int .i64 2))), none⟩, ⟨(some 12), .bin .add (.t 11) (.k (.lf (.int .i64 18))), none⟩, ⟨(some 13), .mv (.t 1), none⟩, ⟨(some 14), .mv (.t 2), none⟩, ⟨(some 15), .bd [.int .i64 0, .int .i64 0, .str ⟨#[]⟩, .int .u64 0, .int .u64 0, .int .u64 0, .int .u64 0] [(0, 1, (.t 12)), (1, 1, (.t 13)), (2, 1, (.t 14))], none⟩, ⟨(some 7), .al [.int .i64 0, .int .i64 0, .str ⟨#[]⟩, .int .u64 0, .int .u64 0, .int .u64 0, .int .u64 0], none⟩, ⟨none, .st (.t 7) (.t 15) 7, none⟩] [0, 1, 2, 7]) c66_5
abbrev c66_7 : AC := .seq (.ops 0 [⟨(some 6), .as 0 0 (.k (.lf (.bool false))), none⟩] [0, 1, 2]) c66_6
abbrev c66 : AC := c66_7
theorem c66_ok : compileFn Tryd.prog 66 = some (34, AC.strip c66, [.t 6]) := by kernel_rfl
/-- harrow/tree.Join -/
abbrev c80_0 : AC := .seq (.ops 0 [⟨(some 4), .as 109 7 (.k (.lf (.lst .nl 7 [] []))), none⟩, ⟨(some 5), .as 0 0 (.k (.lf (.int .i64 40))), none⟩] [4, 5]) .ret
abbrev c80_1 : AC := .seq (.ops 0 [⟨(some 4), .as 109 7 (.k (.lf (.lst .nl 7 [] []))), none⟩, ⟨(some 5), .as 0 0 (.k (.lf (.int .i64 41))), none⟩] [4, 5]) .ret
abbrev c80_2 : AC := .seq (.ops 0 [⟨(some 4), .as 109 7 (.k (.lf (.lst .nl 7 [] []))), none⟩, ⟨(some 5), .as 0 0 (.k (.lf (.int .i64 42))), none⟩] [4, 5]) .ret
abbrev c80_3 : AC := .cond (.t 22) c80_2 .skip
abbrev c80_4 : AC := .seq (.ops 0 [⟨(some 23), .mv (.t 6), none⟩, ⟨(some 24), .mv (.t 1), none⟩, ⟨(some 25), .len (.t 24), none⟩, ⟨(some 26), .bin .neq (.t 23) (.t 25), none⟩, ⟨(some 22), .as 0 0 (.t 26), none⟩] [1, 2, 22]) c80_3
abbrev c80_5 : AC := .cond (.t 18) c80_1 c80_4
abbrev c80_6 : AC := .seq (.ops 0 [⟨(some 19), .ld (.t 2) 7 true, none⟩, ⟨(some 20), .call 101 [(.t 19)], none⟩, ⟨(some 21), .un .not (.t 20), none⟩, ⟨(some 18), .as 0 0 (.t 21), none⟩] [1, 2, 6, 18]) c80_5
abbrev c80_7 : AC := .cond (.t 15) c80_0 c80_6
abbrev c80_8 : AC := .seq (.ops 0 [⟨(some 16), .mv (.t 6), none⟩, ⟨(some 17), .bin .lss (.t 16) (.k (.lf (.int .i64 0))), none⟩, ⟨(some 15), .as 0 0 (.t 17), none⟩] [1, 2, 6, 15]) c80_7
abbrev c80_9 : AC := .block 0 c80_8
abbrev c80_10 : AC := .seq (.ops 0 [⟨(some 12), .fa (.t 2) 0, none⟩, ⟨(some 13), .ld (.t 12) 1 false, none⟩, ⟨(some 14), .call 100 [(.t 13)], none⟩, ⟨(some 6), .as 0 0 (.t 14), none⟩] [1, 2, 6]) c80_9
abbrev c80_11 : AC := .cond (.t 30) .skip (.exit 1)
abbrev c80_12 : AC := .seq (.ops 0 [⟨(some 40), .mv (.t 11), none⟩, ⟨(some 4), .as 109 7 (.k (.lf (.lst .nl 7 [] []))), none⟩, ⟨(some 5), .as 0 0 (.t 40), none⟩] [4, 5]) .ret
abbrev c80_13 : AC := .cond (.t 39) c80_12 .skip
abbrev c80_14 : AC := .seq (.ops 0 [⟨(some 38), .mv (.t 11), none⟩, ⟨(some 39), .bin .neq (.t 38) (.k (.lf (.int .i64 0))), none⟩] [2, 7, 9, 11, 27, 28, 29, 39]) c80_13
abbrev c80_15 : AC := .seq (.ops 0 [⟨(some 34), .mv (.t 9), none⟩, ⟨(some 35), .call 102 [(.t 34)], none⟩, ⟨(some 33), .mv (.t 35), none⟩, ⟨(some 36), .ext (.t 33) 0, none⟩, ⟨(some 37), .ext (.t 33) 1, none⟩, ⟨(some 10), .as 0 0 (.t 36), none⟩, ⟨(some 11), .as 0 0 (.t 37), none⟩] [2, 7, 9, 11, 27, 28, 29]) c80_14
abbrev c80_16 : AC := .seq c80_15 (.ops 0 [⟨(some 41), .mv (.t 7), none⟩, ⟨(some 42), .mv (.t 9), none⟩, ⟨(some 43), .app 109 7 64 (.t 41) (.t 42), none⟩, ⟨(some 7), .as 109 7 (.t 43), none⟩] [2, 7, 27, 28, 29])
abbrev c80_17 : AC := .seq (.ops 0 [⟨(some 31), .ia (.t 27) (.t 29) 1, none⟩, ⟨(some 32), .ld (.t 31) 1 false, none⟩, ⟨(some 9), .as 109 7 (.t 32), none⟩] [2, 7, 9, 27, 28, 29]) c80_16
abbrev c80_18 : AC := .block 2 c80_17
abbrev c80_19 : AC := .seq c80_18 (.ops 0 [⟨(some 44), .bin .add (.t 29) (.k (.lf (.int .i64 1))), none⟩, ⟨(some 29), .mv (.t 44), none⟩] [2, 7, 27, 28, 29])
abbrev c80_20 : AC := .seq c80_11 c80_19
abbrev c80_21 : AC := .seq (.ops 0 [⟨(some 30), .bin .lss (.t 29) (.t 28), none⟩] [2, 7, 27, 28, 29, 30]) c80_20
abbrev c80_22 : AC := .loop c80_21 [2, 7, 27, 28, 29]
abbrev c80_23 : AC := .block 1 c80_22
abbrev c80_24 : AC := .seq (.ops 0 [⟨(some 27), .mv (.t 1), none⟩, ⟨(some 28), .len (.t 27), none⟩, ⟨(some 29), .mv (.k (.lf (.int .i64 0))), none⟩] [2, 7, 27, 28, 29]) c80_23
abbrev c80_25 : AC := .seq (.ops 0 [⟨(some 45), .mv (.t 7), none⟩, ⟨(some 46), .ld (.t 2) 7 true, none⟩, ⟨(some 47), .bs 109 7 1 [.int .i64 0, .int .i64 0, .str ⟨#[]⟩, .int .u64 0, .int .u64 0, .int .u64 0, .int .u64 0] [(0, (.t 46))], none⟩, ⟨(some 48), .app 109 7 64 (.t 45) (.t 47), none⟩, ⟨(some 49), .call 103 [(.t 48)], none⟩, ⟨(some 50), .ext (.t 49) 0, none⟩, ⟨(some 51), .ext (.t 49) 1, none⟩, ⟨(some 4), .as 109 7 (.t 50), none⟩, ⟨(some 5), .as 0 0 (.t 51), none⟩] [4, 5]) .ret
abbrev c80_26 : AC := .seq c80_24 c80_25
abbrev c80_27 : AC := .seq (.ops 0 [⟨(some 7), .as 109 7 (.k (.lf (.lst .nl 7 [] []))), none⟩] [1, 2, 7]) c80_26
abbrev c80_28 : AC := .seq c80_10 c80_27
abbrev c80_29 : AC := .seq (.ops 0 [⟨(some 2), .bx (.t 0), none⟩, ⟨(some 4), .as 109 7 (.k (.lf (.lst .nl 7 [] []))), none⟩, ⟨(some 5), .as 0 0 (.k (.lf (.int .i64 0))), none⟩] [1, 2]) c80_28
abbrev c80 : AC := c80_29
theorem c80_ok : compileFn Tryd.prog 80 = some (52, AC.strip c80, [.t 4, .t 5]) := by kernel_rfl
/-- harrow/tree.Arity -/
abbrev c100_0 : AC := .seq (.ops 0 [⟨(some 2), .as 0 0 (.k (.lf (.int .i64 2))), none⟩] [2]) .ret
abbrev c100_1 : AC := .seq (.ops 0 [⟨(some 2), .as 0 0 (.k (.lf (.int .i64 0))), none⟩] [2]) .ret
abbrev c100_2 : AC := .seq (.ops 0 [⟨(some 2), .as 0 0 (.k (.lf (.int .i64 1))), none⟩] [2]) .ret
abbrev c100_3 : AC := .cond (.t 21) c100_2 .skip
abbrev c100_4 : AC := .seq (.ops 0 [⟨(some 22), .mv (.t 0), none⟩, ⟨(some 23), .bin .gtr (.t 22) (.k (.lf (.int .i64 8))), none⟩, ⟨(some 24), .mv (.t 23), none⟩, ⟨(some 25), .mv (.t 0), (some (24, true))⟩, ⟨(some 26), .bin .leq (.t 25) (.k (.lf (.int .i64 23))), (some (24, true))⟩, ⟨(some 27), .pk (.t 24) (.t 26) (.k (.lf (.bool false))), none⟩, ⟨(some 21), .as 0 0 (.t 27), none⟩] [21]) c100_3
abbrev c100_5 : AC := .cond (.t 10) c100_1 c100_4
abbrev c100_6 : AC := .seq (.ops 0 [⟨(some 11), .mv (.t 0), none⟩, ⟨(some 12), .bin .geq (.t 11) (.k (.lf (.int .i64 1))), none⟩, ⟨(some 13), .mv (.t 12), none⟩, ⟨(some 14), .mv (.t 0), (some (13, true))⟩, ⟨(some 15), .bin .leq (.t 14) (.k (.lf (.int .i64 6))), (some (13, true))⟩, ⟨(some 16), .pk (.t 13) (.t 15) (.k (.lf (.bool false))), none⟩, ⟨(some 17), .mv (.t 16), none⟩, ⟨(some 18), .mv (.t 0), (some (17, false))⟩, ⟨(some 19), .bin .eql (.t 18) (.k (.lf (.int .i64 17))), (some (17, false))⟩, ⟨(some 20), .pk (.t 17) (.k (.lf (.bool true))) (.t 19), none⟩, ⟨(some 10), .as 0 0 (.t 20), none⟩] [0, 10]) c100_5
abbrev c100_7 : AC := .cond (.t 3) c100_0 c100_6
abbrev c100_8 : AC := .seq (.ops 0 [⟨(some 4), .mv (.t 0), none⟩, ⟨(some 5), .bin .eql (.t 4) (.k (.lf (.int .i64 7))), none⟩, ⟨(some 6), .mv (.t 5), none⟩, ⟨(some 7), .mv (.t 0), (some (6, false))⟩, ⟨(some 8), .bin .eql (.t 7) (.k (.lf (.int .i64 8))), (some (6, false))⟩, ⟨(some 9), .pk (.t 6) (.k (.lf (.bool true))) (.t 8), none⟩, ⟨(some 3), .as 0 0 (.t 9), none⟩] [0, 3]) c100_7
abbrev c100_9 : AC := .block 0 c100_8
abbrev c100_10 : AC := .seq (.ops 0 [⟨(some 2), .as 0 0 (.k (.lf (.int .i64 (-1)))), none⟩] [2]) .ret
abbrev c100_11 : AC := .seq c100_9 c100_10
abbrev c100_12 : AC := .seq (.ops 0 [⟨(some 2), .as 0 0 (.k (.lf (.int .i64 0))), none⟩] [0]) c100_11
abbrev c100 : AC := c100_12
theorem c100_ok : compileFn Tryd.prog 100 = some (28, AC.strip c100, [.t 2]) := by kernel_rfl
/-- harrow/tree.fields -/
abbrev c101_0 : AC := .seq (.ops 0 [⟨(some 2), .as 0 0 (.k (.lf (.bool false))), none⟩] [2]) .ret
abbrev c101_1 : AC := .cond (.t 11) c101_0 .skip
abbrev c101_2 : AC := .seq (.ops 0 [⟨(some 3), .fa (.t 1) 0, none⟩, ⟨(some 4), .ld (.t 3) 1 false, none⟩, ⟨(some 5), .bin .neq (.t 4) (.k (.lf (.int .i64 5))), none⟩, ⟨(some 6), .mv (.t 5), none⟩, ⟨(some 7), .fa (.t 1) 3, (some (6, true))⟩, ⟨(some 8), .ld (.t 7) 4 true, (some (6, true))⟩, ⟨(some 9), .bd [.int .u64 0, .int .u64 0, .int .u64 0, .int .u64 0] [], (some (6, true))⟩, ⟨(some 10), .beq true [2, 2, 2, 2] (.t 8) (.t 9), (some (6, true))⟩, ⟨(some 11), .pk (.t 6) (.t 10) (.k (.lf (.bool false))), none⟩] [1, 11]) c101_1
abbrev c101_3 : AC := .seq (.ops 0 [⟨(some 2), .as 0 0 (.k (.lf (.bool false))), none⟩] [2]) .ret
abbrev c101_4 : AC := .cond (.t 30) c101_3 .skip
abbrev c101_5 : AC := .seq (.ops 0 [⟨(some 12), .fa (.t 1) 1, none⟩, ⟨(some 13), .ld (.t 12) 1 false, none⟩, ⟨(some 14), .bin .lss (.t 13) (.k (.lf (.int .i64 0))), none⟩, ⟨(some 15), .mv (.t 14), none⟩, ⟨(some 16), .fa (.t 1) 1, (some (15, false))⟩, ⟨(some 17), .ld (.t 16) 1 false, (some (15, false))⟩, ⟨(some 18), .bin .gtr (.t 17) (.k (.lf (.int .i64 50))), (some (15, false))⟩, ⟨(some 19), .pk (.t 15) (.k (.lf (.bool true))) (.t 18), none⟩, ⟨(some 20), .mv (.t 19), none⟩, ⟨(some 21), .fa (.t 1) 1, (some (20, false))⟩, ⟨(some 22), .ld (.t 21) 1 false, (some (20, false))⟩, ⟨(some 23), .bin .gtr (.t 22) (.k (.lf (.int .i64 0))), (some (20, false))⟩, ⟨(some 24), .mv (.t 23), (some (20, false))⟩, ⟨(some 25), .fa (.t 1) 0, (some (24, true))⟩, ⟨(some 26), .ld (.t 25) 1 false, (some (24, true))⟩, ⟨(some 27), .call 116 [(.t 26)], (some (24, true))⟩, ⟨(some 28), .un .not (.t 27), (some (24, true))⟩, ⟨(some 29), .pk (.t 24) (.t 28) (.k (.lf (.bool false))), (some (20, false))⟩, ⟨(some 30), .pk (.t 20) (.k (.lf (.bool true))) (.t 29), none⟩] [1, 30]) c101_4
abbrev c101_6 : AC := .seq (.ops 0 [⟨(some 35), .fa (.t 1) 2, none⟩, ⟨(some 36), .ld (.t 35) 1 false, none⟩, ⟨(some 37), .bin .neq (.t 36) (.k (.lf (.str ⟨#[]⟩))), none⟩, ⟨(some 38), .mv (.t 37), none⟩, ⟨(some 39), .fa (.t 1) 2, (some (38, true))⟩, ⟨(some 40), .ld (.t 39) 1 false, (some (38, true))⟩, ⟨(some 41), .lns (.t 40), (some (38, true))⟩, ⟨(some 42), .bin .leq (.t 41) (.k (.lf (.int .i64 255))), (some (38, true))⟩, ⟨(some 43), .pk (.t 38) (.t 42) (.k (.lf (.bool false))), none⟩, ⟨(some 2), .as 0 0 (.t 43), none⟩] [2]) .ret
abbrev c101_7 : AC := .seq (.ops 0 [⟨(some 46), .fa (.t 1) 2, none⟩, ⟨(some 47), .ld (.t 46) 1 false, none⟩, ⟨(some 48), .call 117 [(.t 47)], none⟩, ⟨(some 2), .as 0 0 (.t 48), none⟩] [2]) .ret
abbrev c101_8 : AC := .seq (.ops 0 [⟨(some 51), .fa (.t 1) 2, none⟩, ⟨(some 52), .ld (.t 51) 1 false, none⟩, ⟨(some 53), .bin .eql (.t 52) (.k (.lf (.str ⟨#[]⟩))), none⟩, ⟨(some 54), .mv (.t 53), none⟩, ⟨(some 55), .fa (.t 1) 2, (some (54, false))⟩, ⟨(some 56), .ld (.t 55) 1 false, (some (54, false))⟩, ⟨(some 57), .call 117 [(.t 56)], (some (54, false))⟩, ⟨(some 58), .pk (.t 54) (.k (.lf (.bool true))) (.t 57), none⟩, ⟨(some 2), .as 0 0 (.t 58), none⟩] [2]) .ret
abbrev c101_9 : AC := .seq (.ops 0 [⟨(some 61), .fa (.t 1) 2, none⟩, ⟨(some 62), .ld (.t 61) 1 false, none⟩, ⟨(some 63), .call 118 [(.t 62)], none⟩, ⟨(some 2), .as 0 0 (.t 63), none⟩] [2]) .ret
abbrev c101_10 : AC := .cond (.t 59) c101_9 .skip
abbrev c101_11 : AC := .seq (.ops 0 [⟨(some 60), .bin .eql (.t 32) (.k (.lf (.int .i64 22))), none⟩, ⟨(some 59), .as 0 0 (.t 60), none⟩] [1, 59]) c101_10
abbrev c101_12 : AC := .cond (.t 49) c101_8 c101_11
abbrev c101_13 : AC := .seq (.ops 0 [⟨(some 50), .bin .eql (.t 32) (.k (.lf (.int .i64 19))), none⟩, ⟨(some 49), .as 0 0 (.t 50), none⟩] [1, 32, 49]) c101_12
abbrev c101_14 : AC := .cond (.t 44) c101_7 c101_13
abbrev c101_15 : AC := .seq (.ops 0 [⟨(some 45), .bin .eql (.t 32) (.k (.lf (.int .i64 6))), none⟩, ⟨(some 44), .as 0 0 (.t 45), none⟩] [1, 32, 44]) c101_14
abbrev c101_16 : AC := .cond (.t 33) c101_6 c101_15
abbrev c101_17 : AC := .seq (.ops 0 [⟨(some 34), .bin .eql (.t 32) (.k (.lf (.int .i64 4))), none⟩, ⟨(some 33), .as 0 0 (.t 34), none⟩] [1, 32, 33]) c101_16
abbrev c101_18 : AC := .block 0 c101_17
abbrev c101_19 : AC := .seq (.ops 0 [⟨(some 31), .fa (.t 1) 0, none⟩, ⟨(some 32), .ld (.t 31) 1 false, none⟩] [1, 32]) c101_18
abbrev c101_20 : AC := .seq (.ops 0 [⟨(some 64), .fa (.t 1) 2, none⟩, ⟨(some 65), .ld (.t 64) 1 false, none⟩, ⟨(some 66), .bin .eql (.t 65) (.k (.lf (.str ⟨#[]⟩))), none⟩, ⟨(some 2), .as 0 0 (.t 66), none⟩] [2]) .ret
abbrev c101_21 : AC := .seq c101_19 c101_20
abbrev c101_22 : AC := .seq c101_5 c101_21
abbrev c101_23 : AC := .seq c101_2 c101_22
abbrev c101_24 : AC := .seq (.ops 0 [⟨(some 1), .bx (.t 0), none⟩, ⟨(some 2), .as 0 0 (.k (.lf (.bool false))), none⟩] [1]) c101_23
abbrev c101 : AC := c101_24
theorem c101_ok : compileFn Tryd.prog 101 = some (67, AC.strip c101, [.t 2]) := by kernel_rfl
/-- harrow/tree.Check -/
abbrev c102_0 : AC := .seq (.ops 0 [⟨(some 2), .as 0 0 (.k (.lf (.int .i64 0))), none⟩, ⟨(some 3), .as 0 0 (.k (.lf (.int .i64 2))), none⟩] [2, 3]) .ret
abbrev c102_1 : AC := .cond (.t 6) c102_0 .skip
abbrev c102_2 : AC := .seq (.ops 0 [⟨(some 4), .mv (.t 0), none⟩, ⟨(some 5), .len (.t 4), none⟩, ⟨(some 6), .bin .gtr (.t 5) (.k (.lf (.int .i64 2048))), none⟩] [0, 6]) c102_1
abbrev c102_3 : AC := .seq (.ops 0 [⟨(some 7), .mv (.t 0), none⟩, ⟨(some 8), .call 119 [(.t 7), (.k (.lf (.fn 120 [] [])))], none⟩, ⟨(some 9), .ext (.t 8) 0, none⟩, ⟨(some 10), .ext (.t 8) 1, none⟩, ⟨(some 2), .as 0 0 (.t 9), none⟩, ⟨(some 3), .as 0 0 (.t 10), none⟩] [2, 3]) .ret
abbrev c102_4 : AC := .seq c102_2 c102_3
abbrev c102_5 : AC := .seq (.ops 0 [⟨(some 2), .as 0 0 (.k (.lf (.int .i64 0))), none⟩, ⟨(some 3), .as 0 0 (.k (.lf (.int .i64 0))), none⟩] [0]) c102_4
abbrev c102 : AC := c102_5
theorem c102_ok : compileFn Tryd.prog 102 = some (11, AC.strip c102, [.t 2, .t 3]) := by kernel_rfl
/-- harrow/tree.checked -/
abbrev c103_0 : AC := .seq (.ops 0 [⟨(some 13), .mv (.t 5), none⟩, ⟨(some 2), .as 109 7 (.k (.lf (.lst .nl 7 [] []))), none⟩, ⟨(some 3), .as 0 0 (.t 13), none⟩] [2, 3]) .ret
abbrev c103_1 : AC := .cond (.t 12) c103_0 .skip
abbrev c103_2 : AC := .seq (.ops 0 [⟨(some 11), .mv (.t 5), none⟩, ⟨(some 12), .bin .neq (.t 11) (.k (.lf (.int .i64 0))), none⟩] [0, 5, 12]) c103_1
abbrev c103_3 : AC := .seq (.ops 0 [⟨(some 7), .mv (.t 0), none⟩, ⟨(some 8), .call 102 [(.t 7)], none⟩, ⟨(some 6), .mv (.t 8), none⟩, ⟨(some 9), .ext (.t 6) 0, none⟩, ⟨(some 10), .ext (.t 6) 1, none⟩, ⟨(some 4), .as 0 0 (.t 9), none⟩, ⟨(some 5), .as 0 0 (.t 10), none⟩] [0, 5]) c103_2
abbrev c103_4 : AC := .seq (.ops 0 [⟨(some 14), .mv (.t 0), none⟩, ⟨(some 2), .as 109 7 (.t 14), none⟩, ⟨(some 3), .as 0 0 (.k (.lf (.int .i64 0))), none⟩] [2, 3]) .ret
abbrev c103_5 : AC := .seq c103_3 c103_4
abbrev c103_6 : AC := .seq (.ops 0 [⟨(some 2), .as 109 7 (.k (.lf (.lst .nl 7 [] []))), none⟩, ⟨(some 3), .as 0 0 (.k (.lf (.int .i64 0))), none⟩] [0]) c103_5
abbrev c103 : AC := c103_6
theorem c103_ok : compileFn Tryd.prog 103 = some (15, AC.strip c103, [.t 2, .t 3]) := by kernel_rfl
/-- harrow/tree.counted -/
abbrev c116_0 : AC := .seq (.ops 0 [⟨(some 3), .mv (.t 0), none⟩, ⟨(some 4), .bin .geq (.t 3) (.k (.lf (.int .i64 14))), none⟩, ⟨(some 5), .mv (.t 4), none⟩, ⟨(some 6), .mv (.t 0), (some (5, true))⟩, ⟨(some 7), .bin .leq (.t 6) (.k (.lf (.int .i64 16))), (some (5, true))⟩, ⟨(some 8), .pk (.t 5) (.t 7) (.k (.lf (.bool false))), none⟩, ⟨(some 9), .mv (.t 8), none⟩, ⟨(some 10), .mv (.t 0), (some (9, false))⟩, ⟨(some 11), .bin .eql (.t 10) (.k (.lf (.int .i64 23))), (some (9, false))⟩, ⟨(some 12), .pk (.t 9) (.k (.lf (.bool true))) (.t 11), none⟩, ⟨(some 2), .as 0 0 (.t 12), none⟩] [2]) .ret
abbrev c116_1 : AC := .seq (.ops 0 [⟨(some 2), .as 0 0 (.k (.lf (.bool false))), none⟩] [0]) c116_0
abbrev c116 : AC := c116_1
theorem c116_ok : compileFn Tryd.prog 116 = some (13, AC.strip c116, [.t 2]) := by kernel_rfl
/-- harrow/tree.isName -/
abbrev c117_0 : AC := .seq (.ops 0 [⟨(some 2), .as 0 0 (.k (.lf (.bool false))), none⟩] [2]) .ret
abbrev c117_1 : AC := .cond (.t 16) c117_0 .skip
abbrev c117_2 : AC := .seq (.ops 0 [⟨(some 4), .mv (.t 0), none⟩, ⟨(some 5), .bin .eql (.t 4) (.k (.lf (.str ⟨#[]⟩))), none⟩, ⟨(some 6), .mv (.t 5), none⟩, ⟨(some 7), .mv (.t 0), (some (6, false))⟩, ⟨(some 8), .lns (.t 7), (some (6, false))⟩, ⟨(some 9), .bin .gtr (.t 8) (.k (.lf (.int .i64 32))), (some (6, false))⟩, ⟨(some 10), .pk (.t 6) (.k (.lf (.bool true))) (.t 9), none⟩, ⟨(some 11), .mv (.t 10), none⟩, ⟨(some 12), .mv (.t 0), (some (11, false))⟩, ⟨(some 13), .ixs (.t 12) (.k (.lf (.int .i64 0))), (some (11, false))⟩, ⟨(some 14), .call 126 [(.t 13)], (some (11, false))⟩, ⟨(some 15), .un .not (.t 14), (some (11, false))⟩, ⟨(some 16), .pk (.t 11) (.k (.lf (.bool true))) (.t 15), none⟩] [0, 16]) c117_1
abbrev c117_3 : AC := .cond (.t 20) .skip (.exit 0)
abbrev c117_4 : AC := .seq (.ops 0 [⟨(some 2), .as 0 0 (.k (.lf (.bool false))), none⟩] [2]) .ret
abbrev c117_5 : AC := .cond (.t 38) c117_4 .skip
abbrev c117_6 : AC := .seq (.ops 0 [⟨(some 22), .mv (.t 0), none⟩, ⟨(some 23), .mv (.t 3), none⟩, ⟨(some 24), .ixs (.t 22) (.t 23), none⟩, ⟨(some 25), .call 126 [(.t 24)], none⟩, ⟨(some 26), .un .not (.t 25), none⟩, ⟨(some 27), .mv (.t 26), none⟩, ⟨(some 28), .mv (.t 0), (some (27, true))⟩, ⟨(some 29), .mv (.t 3), (some (27, true))⟩, ⟨(some 30), .ixs (.t 28) (.t 29), (some (27, true))⟩, ⟨(some 31), .bin .lss (.t 30) (.k (.lf (.int .u8 48))), (some (27, true))⟩, ⟨(some 32), .mv (.t 31), (some (27, true))⟩, ⟨(some 33), .mv (.t 0), (some (32, false))⟩, ⟨(some 34), .mv (.t 3), (some (32, false))⟩, ⟨(some 35), .ixs (.t 33) (.t 34), (some (32, false))⟩, ⟨(some 36), .bin .gtr (.t 35) (.k (.lf (.int .u8 57))), (some (32, false))⟩, ⟨(some 37), .pk (.t 32) (.k (.lf (.bool true))) (.t 36), (some (27, true))⟩, ⟨(some 38), .pk (.t 27) (.t 37) (.k (.lf (.bool false))), none⟩] [0, 18, 19, 38]) c117_5
abbrev c117_7 : AC := .seq (.ops 0 [⟨(some 21), .mv (.t 19), none⟩, ⟨(some 3), .as 0 0 (.t 21), none⟩] [0, 3, 18, 19]) c117_6
abbrev c117_8 : AC := .block 1 c117_7
abbrev c117_9 : AC := .seq c117_8 (.ops 0 [⟨(some 39), .bin .add (.t 19) (.k (.lf (.int .i64 1))), none⟩, ⟨(some 19), .mv (.t 39), none⟩] [0, 18, 19])
abbrev c117_10 : AC := .seq c117_3 c117_9
abbrev c117_11 : AC := .seq (.ops 0 [⟨(some 20), .bin .lss (.t 19) (.t 18), none⟩] [0, 18, 19, 20]) c117_10
abbrev c117_12 : AC := .loop c117_11 [0, 18, 19]
abbrev c117_13 : AC := .block 0 c117_12
abbrev c117_14 : AC := .seq (.ops 0 [⟨(some 17), .mv (.t 0), none⟩, ⟨(some 18), .lns (.t 17), none⟩, ⟨(some 19), .mv (.k (.lf (.int .i64 0))), none⟩] [0, 18, 19]) c117_13
abbrev c117_15 : AC := .seq (.ops 0 [⟨(some 2), .as 0 0 (.k (.lf (.bool true))), none⟩] [2]) .ret
abbrev c117_16 : AC := .seq c117_14 c117_15
abbrev c117_17 : AC := .seq c117_2 c117_16
abbrev c117_18 : AC := .seq (.ops 0 [⟨(some 2), .as 0 0 (.k (.lf (.bool false))), none⟩] [0]) c117_17
abbrev c117 : AC := c117_18
theorem c117_ok : compileFn Tryd.prog 117 = some (40, AC.strip c117, [.t 2]) := by kernel_rfl
/-- harrow/tree.isTemplate -/
abbrev c118_0 : AC := .seq (.ops 0 [⟨(some 2), .as 0 0 (.k (.lf (.bool false))), none⟩] [2]) .ret
abbrev c118_1 : AC := .cond (.t 6) c118_0 .skip
abbrev c118_2 : AC := .seq (.ops 0 [⟨(some 4), .mv (.t 0), none⟩, ⟨(some 5), .lns (.t 4), none⟩, ⟨(some 6), .bin .gtr (.t 5) (.k (.lf (.int .i64 255))), none⟩] [0, 6]) c118_1
abbrev c118_3 : AC := .cond (.t 10) .skip (.exit 0)
abbrev c118_4 : AC := .seq (.ops 0 [⟨(some 7), .mv (.t 3), none⟩, ⟨(some 8), .mv (.t 0), none⟩, ⟨(some 9), .lns (.t 8), none⟩, ⟨(some 10), .bin .lss (.t 7) (.t 9), none⟩] [0, 3, 10]) c118_3
abbrev c118_5 : AC := .cond (.t 16) (.exit 1) .skip
abbrev c118_6 : AC := .seq (.ops 0 [⟨(some 13), .mv (.t 0), none⟩, ⟨(some 14), .mv (.t 3), none⟩, ⟨(some 15), .ixs (.t 13) (.t 14), none⟩, ⟨(some 16), .bin .neq (.t 15) (.k (.lf (.int .u8 37))), none⟩] [0, 3, 16]) c118_5
abbrev c118_7 : AC := .seq (.ops 0 [⟨(some 2), .as 0 0 (.k (.lf (.bool false))), none⟩] [2]) .ret
abbrev c118_8 : AC := .cond (.t 40) c118_7 .skip
abbrev c118_9 : AC := .seq (.ops 0 [⟨(some 19), .mv (.t 3), none⟩, ⟨(some 20), .mv (.t 0), none⟩, ⟨(some 21), .lns (.t 20), none⟩, ⟨(some 22), .bin .eql (.t 19) (.t 21), none⟩, ⟨(some 23), .mv (.t 22), none⟩, ⟨(some 24), .mv (.t 0), (some (23, false))⟩, ⟨(some 25), .mv (.t 3), (some (23, false))⟩, ⟨(some 26), .ixs (.t 24) (.t 25), (some (23, false))⟩, ⟨(some 27), .bin .neq (.t 26) (.k (.lf (.int .u8 37))), (some (23, false))⟩, ⟨(some 28), .mv (.t 27), (some (23, false))⟩, ⟨(some 29), .mv (.t 0), (some (28, true))⟩, ⟨(some 30), .mv (.t 3), (some (28, true))⟩, ⟨(some 31), .ixs (.t 29) (.t 30), (some (28, true))⟩, ⟨(some 32), .bin .lss (.t 31) (.k (.lf (.int .u8 48))), (some (28, true))⟩, ⟨(some 33), .mv (.t 32), (some (28, true))⟩, ⟨(some 34), .mv (.t 0), (some (33, false))⟩, ⟨(some 35), .mv (.t 3), (some (33, false))⟩, ⟨(some 36), .ixs (.t 34) (.t 35), (some (33, false))⟩, ⟨(some 37), .bin .gtr (.t 36) (.k (.lf (.int .u8 57))), (some (33, false))⟩, ⟨(some 38), .pk (.t 33) (.k (.lf (.bool true))) (.t 37), (some (28, true))⟩, ⟨(some 39), .pk (.t 28) (.t 38) (.k (.lf (.bool false))), (some (23, false))⟩, ⟨(some 40), .pk (.t 23) (.k (.lf (.bool true))) (.t 39), none⟩] [0, 3, 40]) c118_8
abbrev c118_10 : AC := .seq (.ops 0 [⟨(some 17), .mv (.t 3), none⟩, ⟨(some 18), .bin .add (.t 17) (.k (.lf (.int .i64 1))), none⟩, ⟨(some 3), .as 0 0 (.t 18), none⟩] [0, 3]) c118_9
abbrev c118_11 : AC := .seq c118_6 c118_10
abbrev c118_12 : AC := .block 1 c118_11
abbrev c118_13 : AC := .seq c118_12 (.ops 0 [⟨(some 11), .mv (.t 3), none⟩, ⟨(some 12), .bin .add (.t 11) (.k (.lf (.int .i64 1))), none⟩, ⟨(some 3), .as 0 0 (.t 12), none⟩] [0, 3])
abbrev c118_14 : AC := .seq c118_4 c118_13
abbrev c118_15 : AC := .loop c118_14 [0, 3]
abbrev c118_16 : AC := .block 0 c118_15
abbrev c118_17 : AC := .seq (.ops 0 [⟨(some 3), .as 0 0 (.k (.lf (.int .i64 0))), none⟩] [0, 3]) c118_16
abbrev c118_18 : AC := .seq (.ops 0 [⟨(some 2), .as 0 0 (.k (.lf (.bool true))), none⟩] [2]) .ret
abbrev c118_19 : AC := .seq c118_17 c118_18
abbrev c118_20 : AC := .seq c118_2 c118_19
abbrev c118_21 : AC := .seq (.ops 0 [⟨(some 2), .as 0 0 (.k (.lf (.bool false))), none⟩] [0]) c118_20
abbrev c118 : AC := c118_21
theorem c118_ok : compileFn Tryd.prog 118 = some (41, AC.strip c118, [.t 2]) := by kernel_rfl
/-- harrow/tree.each -/
abbrev c119_0 : AC := .cond (.t 19) .skip (.exit 0)
abbrev c119_1 : AC := .seq (.ops 0 [⟨(some 28), .mv (.t 7), none⟩, ⟨(some 4), .as 0 0 (.t 28), none⟩, ⟨(some 5), .as 0 0 (.k (.lf (.int .i64 40))), none⟩] [4, 5]) .ret
abbrev c119_2 : AC := .cond (.t 27) c119_1 .skip
abbrev c119_3 : AC := .seq (.ops 0 [⟨(some 26), .mv (.t 9), none⟩, ⟨(some 27), .bin .lss (.t 26) (.k (.lf (.int .i64 0))), none⟩] [0, 1, 6, 7, 8, 9, 16, 17, 18, 27]) c119_2
abbrev c119_4 : AC := .seq (.ops 0 [⟨(some 32), .mv (.t 7), none⟩, ⟨(some 4), .as 0 0 (.t 32), none⟩, ⟨(some 5), .as 0 0 (.k (.lf (.int .i64 41))), none⟩] [4, 5]) .ret
abbrev c119_5 : AC := .cond (.t 31) c119_4 .skip
abbrev c119_6 : AC := .seq (.ops 0 [⟨(some 29), .ld (.t 8) 7 true, none⟩, ⟨(some 30), .call 101 [(.t 29)], none⟩, ⟨(some 31), .un .not (.t 30), none⟩] [0, 1, 6, 7, 8, 9, 16, 17, 18, 31]) c119_5
abbrev c119_7 : AC := .cond (.t 37) .skip (.exit 2)
abbrev c119_8 : AC := .seq (.ops 0 [⟨(some 42), .mv (.t 7), none⟩, ⟨(some 4), .as 0 0 (.t 42), none⟩, ⟨(some 5), .as 0 0 (.k (.lf (.int .i64 42))), none⟩] [4, 5]) .ret
abbrev c119_9 : AC := .cond (.t 41) c119_8 .skip
abbrev c119_10 : AC := .seq (.ops 0 [⟨(some 39), .fa (.t 10) 0, none⟩, ⟨(some 40), .ld (.t 39) 1 false, none⟩, ⟨(some 41), .bin .eql (.t 40) (.k (.lf (.int .i64 0))), none⟩] [0, 1, 6, 7, 8, 10, 11, 16, 17, 18, 35, 36, 41]) c119_9
abbrev c119_11 : AC := .cond (.t 62) (.ops 0 [⟨(some 63), .fa (.t 12) 1, none⟩, ⟨(some 64), .ld (.t 63) 1 false, none⟩, ⟨(some 65), .bin .sub (.t 64) (.k (.lf (.int .i64 1))), none⟩, ⟨(some 66), .fa (.t 12) 1, none⟩, ⟨none, .st (.t 66) (.t 65) 1, none⟩] [0, 1, 6, 7, 8, 10, 12, 16, 17, 18, 35, 36]) .skip
abbrev c119_12 : AC := .seq (.ops 2 [⟨(some 49), .mv (.t 11), none⟩, ⟨(some 50), .bin .eql (.t 49) (.k (.lf (.int .i64 1))), none⟩, ⟨(some 51), .mv (.t 50), none⟩, ⟨(some 52), .mv (.t 0), (some (51, true))⟩, ⟨(some 53), .fa (.t 10) 0, (some (51, true))⟩, ⟨(some 54), .ld (.t 53) 1 false, (some (51, true))⟩, ⟨(some 55), .bin .sub (.t 54) (.k (.lf (.int .i64 1))), (some (51, true))⟩, ⟨(some 56), .ia (.t 52) (.t 55) 7, (some (51, true))⟩, ⟨(some 57), .fa (.t 56) 0, (some (51, true))⟩, ⟨(some 58), .ld (.t 57) 1 false, (some (51, true))⟩, ⟨(some 59), .fa (.t 8) 0, (some (51, true))⟩, ⟨(some 60), .ld (.t 59) 1 false, (some (51, true))⟩, ⟨(some 61), .bin .eql (.t 58) (.t 60), (some (51, true))⟩, ⟨(some 62), .pk (.t 51) (.t 61) (.k (.lf (.bool false))), none⟩] [0, 1, 6, 7, 8, 10, 12, 16, 17, 18, 35, 36, 62]) c119_11
abbrev c119_13 : AC := .seq c119_12 (.ops 0 [⟨(some 67), .fa (.t 12) 0, none⟩, ⟨(some 68), .ld (.t 67) 1 false, none⟩, ⟨(some 69), .fa (.t 10) 1, none⟩, ⟨(some 70), .ld (.t 69) 1 false, none⟩, ⟨(some 71), .fa (.t 12) 1, none⟩, ⟨(some 72), .ld (.t 71) 1 false, none⟩, ⟨(some 73), .mm true (.t 70) (.t 72), none⟩, ⟨(some 74), .bd [.int .i64 0, .int .i64 0] [(0, 1, (.t 68)), (1, 1, (.t 73))], none⟩, ⟨none, .st (.t 10) (.t 74) 2, none⟩] [0, 1, 6, 7, 8, 10, 16, 17, 18, 35, 36])
abbrev c119_14 : AC := .seq (.ops 0 [⟨(some 43), .mv (.t 6), none⟩, ⟨(some 44), .fa (.t 10) 0, none⟩, ⟨(some 45), .ld (.t 44) 1 false, none⟩, ⟨(some 46), .bin .sub (.t 45) (.k (.lf (.int .i64 1))), none⟩, ⟨(some 47), .ia (.t 43) (.t 46) 2, none⟩, ⟨(some 48), .ld (.t 47) 2 true, none⟩, ⟨(some 12), .al [.int .i64 0, .int .i64 0], none⟩, ⟨none, .st (.t 12) (.t 48) 2, none⟩] [0, 1, 6, 7, 8, 10, 11, 12, 16, 17, 18, 35, 36]) c119_13
abbrev c119_15 : AC := .seq c119_10 c119_14
abbrev c119_16 : AC := .seq (.ops 0 [⟨(some 38), .mv (.t 36), none⟩, ⟨(some 11), .as 0 0 (.t 38), none⟩] [0, 1, 6, 7, 8, 10, 11, 16, 17, 18, 35, 36]) c119_15
abbrev c119_17 : AC := .block 3 c119_16
abbrev c119_18 : AC := .seq c119_17 (.ops 0 [⟨(some 75), .bin .add (.t 36) (.k (.lf (.int .i64 1))), none⟩, ⟨(some 36), .mv (.t 75), none⟩] [0, 1, 6, 7, 8, 10, 16, 17, 18, 35, 36])
abbrev c119_19 : AC := .seq c119_7 c119_18
abbrev c119_20 : AC := .seq (.ops 0 [⟨(some 37), .bin .lss (.t 36) (.t 35), none⟩] [0, 1, 6, 7, 8, 10, 16, 17, 18, 35, 36, 37]) c119_19
abbrev c119_21 : AC := .loop c119_20 [0, 1, 6, 7, 8, 10, 16, 17, 18, 35, 36]
abbrev c119_22 : AC := .block 2 c119_21
abbrev c119_23 : AC := .seq (.ops 0 [⟨(some 35), .mv (.t 9), none⟩, ⟨(some 36), .mv (.k (.lf (.int .i64 0))), none⟩] [0, 1, 6, 7, 8, 10, 16, 17, 18, 35, 36]) c119_22
abbrev c119_24 : AC := .seq (.ops 0 [⟨(some 83), .mv (.t 7), none⟩, ⟨(some 4), .as 0 0 (.t 83), none⟩, ⟨(some 5), .as 0 0 (.k (.lf (.int .i64 4))), none⟩] [4, 5]) .ret
abbrev c119_25 : AC := .cond (.t 82) c119_24 .skip
abbrev c119_26 : AC := .seq (.ops 0 [⟨(some 80), .fa (.t 10) 1, none⟩, ⟨(some 81), .ld (.t 80) 1 false, none⟩, ⟨(some 82), .bin .gtr (.t 81) (.k (.lf (.int .i64 60))), none⟩] [0, 1, 6, 7, 10, 16, 17, 18, 82]) c119_25
abbrev c119_27 : AC := .seq (.ops 0 [⟨(some 84), .mv (.t 6), none⟩, ⟨(some 85), .ld (.t 10) 2 true, none⟩, ⟨(some 86), .bs 147 2 1 [.int .i64 0, .int .i64 0] [(0, (.t 85))], none⟩, ⟨(some 87), .app 147 2 16 (.t 84) (.t 86), none⟩, ⟨(some 6), .as 147 2 (.t 87), none⟩] [0, 1, 6, 7, 10, 16, 17, 18]) (.ops 0 [⟨(some 88), .mv (.t 1), none⟩, ⟨(some 89), .mv (.t 7), none⟩, ⟨(some 90), .ld (.t 10) 2 true, none⟩, ⟨(some 91), .cald (.t 88) [(.t 89), (.t 90)], none⟩] [0, 1, 6, 16, 17, 18])
abbrev c119_28 : AC := .seq c119_26 c119_27
abbrev c119_29 : AC := .seq (.ops 0 [⟨(some 76), .fa (.t 10) 1, none⟩, ⟨(some 77), .ld (.t 76) 1 false, none⟩, ⟨(some 78), .bin .add (.t 77) (.k (.lf (.int .i64 1))), none⟩, ⟨(some 79), .fa (.t 10) 1, none⟩, ⟨none, .st (.t 79) (.t 78) 1, none⟩] [0, 1, 6, 7, 10, 16, 17, 18]) c119_28
abbrev c119_30 : AC := .seq c119_23 c119_29
abbrev c119_31 : AC := .seq (.ops 0 [⟨(some 33), .mv (.t 7), none⟩, ⟨(some 34), .bd [.int .i64 0, .int .i64 0] [(0, 1, (.t 33))], none⟩, ⟨(some 10), .al [.int .i64 0, .int .i64 0], none⟩, ⟨none, .st (.t 10) (.t 34) 2, none⟩] [0, 1, 6, 7, 8, 9, 10, 16, 17, 18]) c119_30
abbrev c119_32 : AC := .seq c119_6 c119_31
abbrev c119_33 : AC := .seq c119_3 c119_32
abbrev c119_34 : AC := .seq (.ops 0 [⟨(some 23), .fa (.t 8) 0, none⟩, ⟨(some 24), .ld (.t 23) 1 false, none⟩, ⟨(some 25), .call 100 [(.t 24)], none⟩, ⟨(some 9), .as 0 0 (.t 25), none⟩] [0, 1, 6, 7, 8, 9, 16, 17, 18]) c119_33
abbrev c119_35 : AC := .seq (.ops 0 [⟨(some 20), .mv (.t 18), none⟩, ⟨(some 21), .ia (.t 16) (.t 18) 7, none⟩, ⟨(some 22), .ld (.t 21) 7 true, none⟩, ⟨(some 8), .al [.int .i64 0, .int .i64 0, .str ⟨#[]⟩, .int .u64 0, .int .u64 0, .int .u64 0, .int .u64 0], none⟩, ⟨(some 7), .as 0 0 (.t 20), none⟩, ⟨none, .st (.t 8) (.t 22) 7, none⟩] [0, 1, 6, 7, 8, 16, 17, 18]) c119_34
abbrev c119_36 : AC := .block 1 c119_35
abbrev c119_37 : AC := .seq c119_36 (.ops 0 [⟨(some 92), .bin .add (.t 18) (.k (.lf (.int .i64 1))), none⟩, ⟨(some 18), .mv (.t 92), none⟩] [0, 1, 6, 16, 17, 18])
abbrev c119_38 : AC := .seq c119_0 c119_37
abbrev c119_39 : AC := .seq (.ops 0 [⟨(some 19), .bin .lss (.t 18) (.t 17), none⟩] [0, 1, 6, 16, 17, 18, 19]) c119_38
abbrev c119_40 : AC := .loop c119_39 [0, 1, 6, 16, 17, 18]
abbrev c119_41 : AC := .block 0 c119_40
abbrev c119_42 : AC := .seq (.ops 0 [⟨(some 16), .mv (.t 0), none⟩, ⟨(some 17), .len (.t 16), none⟩, ⟨(some 18), .mv (.k (.lf (.int .i64 0))), none⟩] [0, 1, 6, 16, 17, 18]) c119_41
abbrev c119_43 : AC := .seq (.ops 0 [⟨(some 106), .mv (.t 0), none⟩, ⟨(some 107), .len (.t 106), none⟩, ⟨(some 4), .as 0 0 (.t 107), none⟩, ⟨(some 5), .as 0 0 (.k (.lf (.int .i64 42))), none⟩] [4, 5]) .ret
abbrev c119_44 : AC := .cond (.t 105) c119_43 .skip
abbrev c119_45 : AC := .seq (.ops 0 [⟨(some 93), .mv (.t 0), none⟩, ⟨(some 94), .len (.t 93), none⟩, ⟨(some 95), .bin .eql (.t 94) (.k (.lf (.int .i64 0))), none⟩, ⟨(some 96), .mv (.t 95), none⟩, ⟨(some 97), .mv (.t 6), (some (96, false))⟩, ⟨(some 98), .mv (.t 0), (some (96, false))⟩, ⟨(some 99), .len (.t 98), (some (96, false))⟩, ⟨(some 100), .bin .sub (.t 99) (.k (.lf (.int .i64 1))), (some (96, false))⟩, ⟨(some 101), .ia (.t 97) (.t 100) 2, (some (96, false))⟩, ⟨(some 102), .fa (.t 101) 0, (some (96, false))⟩, ⟨(some 103), .ld (.t 102) 1 false, (some (96, false))⟩, ⟨(some 104), .bin .neq (.t 103) (.k (.lf (.int .i64 0))), (some (96, false))⟩, ⟨(some 105), .pk (.t 96) (.k (.lf (.bool true))) (.t 104), none⟩] [0, 105]) c119_44
abbrev c119_46 : AC := .seq (.ops 0 [⟨(some 4), .as 0 0 (.k (.lf (.int .i64 0))), none⟩, ⟨(some 5), .as 0 0 (.k (.lf (.int .i64 0))), none⟩] [4, 5]) .ret
abbrev c119_47 : AC := .seq c119_45 c119_46
abbrev c119_48 : AC := .seq c119_42 c119_47
abbrev c119_49 : AC := .seq (.ops 0 [⟨(some 13), .mv (.t 0), none⟩, ⟨(some 14), .len (.t 13), none⟩, ⟨(some 15), .ms 147 2 16 [.int .i64 0, .int .i64 0] (.k (.lf (.int .i64 0))) (.t 14), none⟩, ⟨(some 6), .as 147 2 (.t 15), none⟩] [0, 1, 6]) c119_48
abbrev c119_50 : AC := .seq (.ops 0 [⟨(some 4), .as 0 0 (.k (.lf (.int .i64 0))), none⟩, ⟨(some 5), .as 0 0 (.k (.lf (.int .i64 0))), none⟩] [0, 1]) c119_49
abbrev c119 : AC := c119_50
theorem c119_ok : compileFn Tryd.prog 119 = some (108, AC.strip c119, [.t 4, .t 5]) := by kernel_rfl
/-- harrow/tree.Check$1 -/

abbrev c120 : AC := (.ops 0 [⟨(some 3), .bx (.t 1), none⟩] [])
theorem c120_ok : compileFn Tryd.prog 120 = some (4, AC.strip c120, []) := by kernel_rfl
/-- harrow/tree.isHead -/
abbrev c126_0 : AC := .seq (.ops 0 [⟨(some 3), .mv (.t 0), none⟩, ⟨(some 4), .bin .or (.t 3) (.k (.lf (.int .u8 32))), none⟩, ⟨(some 5), .bin .geq (.t 4) (.k (.lf (.int .u8 97))), none⟩, ⟨(some 6), .mv (.t 5), none⟩, ⟨(some 7), .mv (.t 0), (some (6, true))⟩, ⟨(some 8), .bin .or (.t 7) (.k (.lf (.int .u8 32))), (some (6, true))⟩, ⟨(some 9), .bin .leq (.t 8) (.k (.lf (.int .u8 122))), (some (6, true))⟩, ⟨(some 10), .pk (.t 6) (.t 9) (.k (.lf (.bool false))), none⟩, ⟨(some 11), .mv (.t 10), none⟩, ⟨(some 12), .mv (.t 0), (some (11, true))⟩, ⟨(some 13), .bin .lss (.t 12) (.k (.lf (.int .u8 128))), (some (11, true))⟩, ⟨(some 14), .pk (.t 11) (.t 13) (.k (.lf (.bool false))), none⟩, ⟨(some 15), .mv (.t 14), none⟩, ⟨(some 16), .mv (.t 0), (some (15, false))⟩, ⟨(some 17), .bin .eql (.t 16) (.k (.lf (.int .u8 95))), (some (15, false))⟩, ⟨(some 18), .pk (.t 15) (.k (.lf (.bool true))) (.t 17), none⟩, ⟨(some 2), .as 0 0 (.t 18), none⟩] [2]) .ret
abbrev c126_1 : AC := .seq (.ops 0 [⟨(some 2), .as 0 0 (.k (.lf (.bool false))), none⟩] [0]) c126_0
abbrev c126 : AC := c126_1
theorem c126_ok : compileFn Tryd.prog 126 = some (19, AC.strip c126, [.t 2]) := by kernel_rfl
/-- harrow/harrowref16.catches -/
abbrev c67_0 : AC := .cond (.t 6) (.ops 0 [⟨(some 3), .as 0 0 (.k (.lf (.int .i64 2))), none⟩] [1, 3]) .skip
abbrev c67_1 : AC := .seq (.ops 0 [⟨(some 4), .fa (.t 1) 0, none⟩, ⟨(some 5), .ld (.t 4) 1 false, none⟩, ⟨(some 6), .bin .eql (.t 5) (.k (.lf (.int .i64 18))), none⟩] [1, 3, 6]) c67_0
abbrev c67_2 : AC := .seq (.ops 0 [⟨(some 2), .as 0 0 (.k (.lf (.bool false))), none⟩] [2]) .ret
abbrev c67_3 : AC := .cond (.t 35) c67_2 .skip
abbrev c67_4 : AC := .seq (.ops 0 [⟨(some 7), .fa (.t 1) 2, none⟩, ⟨(some 8), .ld (.t 7) 1 false, none⟩, ⟨(some 9), .mv (.t 3), none⟩, ⟨(some 10), .bin .lss (.t 8) (.t 9), none⟩, ⟨(some 11), .mv (.t 10), none⟩, ⟨(some 12), .fa (.t 1) 2, (some (11, false))⟩, ⟨(some 13), .ld (.t 12) 1 false, (some (11, false))⟩, ⟨(some 14), .bin .gtr (.t 13) (.k (.lf (.int .i64 7))), (some (11, false))⟩, ⟨(some 15), .pk (.t 11) (.k (.lf (.bool true))) (.t 14), none⟩, ⟨(some 16), .mv (.t 15), none⟩, ⟨(some 17), .fa (.t 1) 3, (some (16, false))⟩, ⟨(some 18), .ld (.t 17) 1 false, (some (16, false))⟩, ⟨(some 19), .bin .lss (.t 18) (.k (.lf (.int .i64 0))), (some (16, false))⟩, ⟨(some 20), .pk (.t 16) (.k (.lf (.bool true))) (.t 19), none⟩, ⟨(some 21), .mv (.t 20), none⟩, ⟨(some 22), .fa (.t 1) 3, (some (21, false))⟩, ⟨(some 23), .ld (.t 22) 1 false, (some (21, false))⟩, ⟨(some 24), .bin .gtr (.t 23) (.k (.lf (.int .i64 50))), (some (21, false))⟩, ⟨(some 25), .pk (.t 21) (.k (.lf (.bool true))) (.t 24), none⟩, ⟨(some 26), .mv (.t 25), none⟩, ⟨(some 27), .fa (.t 1) 2, (some (26, false))⟩, ⟨(some 28), .ld (.t 27) 1 false, (some (26, false))⟩, ⟨(some 29), .bin .neq (.t 28) (.k (.lf (.int .i64 7))), (some (26, false))⟩, ⟨(some 30), .mv (.t 29), (some (26, false))⟩, ⟨(some 31), .fa (.t 1) 3, (some (30, true))⟩, ⟨(some 32), .ld (.t 31) 1 false, (some (30, true))⟩, ⟨(some 33), .bin .neq (.t 32) (.k (.lf (.int .i64 0))), (some (30, true))⟩, ⟨(some 34), .pk (.t 30) (.t 33) (.k (.lf (.bool false))), (some (26, false))⟩, ⟨(some 35), .pk (.t 26) (.k (.lf (.bool true))) (.t 34), none⟩] [1, 35]) c67_3
abbrev c67_5 : AC := .seq (.ops 0 [⟨(some 40), .fa (.t 1) 4, none⟩, ⟨(some 41), .ld (.t 40) 1 false, none⟩, ⟨(some 42), .bin .eql (.t 41) (.k (.lf (.str ⟨#[]⟩))), none⟩, ⟨(some 43), .mv (.t 42), none⟩, ⟨(some 44), .fa (.t 1) 4, (some (43, false))⟩, ⟨(some 45), .ld (.t 44) 1 false, (some (43, false))⟩, ⟨(some 46), .call 81 [(.t 45)], (some (43, false))⟩, ⟨(some 47), .pk (.t 43) (.k (.lf (.bool true))) (.t 46), none⟩, ⟨(some 2), .as 0 0 (.t 47), none⟩] [2]) .ret
abbrev c67_6 : AC := .seq (.ops 0 [⟨(some 50), .fa (.t 1) 4, none⟩, ⟨(some 51), .ld (.t 50) 1 false, none⟩, ⟨(some 52), .call 82 [(.t 51)], none⟩, ⟨(some 2), .as 0 0 (.t 52), none⟩] [2]) .ret
abbrev c67_7 : AC := .cond (.t 48) c67_6 .skip
abbrev c67_8 : AC := .seq (.ops 0 [⟨(some 49), .bin .eql (.t 37) (.k (.lf (.int .i64 6))), none⟩, ⟨(some 48), .as 0 0 (.t 49), none⟩] [1, 48]) c67_7
abbrev c67_9 : AC := .cond (.t 38) c67_5 c67_8
abbrev c67_10 : AC := .seq (.ops 0 [⟨(some 39), .bin .eql (.t 37) (.k (.lf (.int .i64 3))), none⟩, ⟨(some 38), .as 0 0 (.t 39), none⟩] [1, 37, 38]) c67_9
abbrev c67_11 : AC := .block 0 c67_10
abbrev c67_12 : AC := .seq (.ops 0 [⟨(some 36), .fa (.t 1) 2, none⟩, ⟨(some 37), .ld (.t 36) 1 false, none⟩] [1, 37]) c67_11
abbrev c67_13 : AC := .seq (.ops 0 [⟨(some 53), .fa (.t 1) 4, none⟩, ⟨(some 54), .ld (.t 53) 1 false, none⟩, ⟨(some 55), .bin .eql (.t 54) (.k (.lf (.str ⟨#[]⟩))), none⟩, ⟨(some 2), .as 0 0 (.t 55), none⟩] [2]) .ret
abbrev c67_14 : AC := .seq c67_12 c67_13
abbrev c67_15 : AC := .seq c67_4 c67_14
abbrev c67_16 : AC := .seq c67_1 c67_15
abbrev c67_17 : AC := .seq (.ops 0 [⟨(some 3), .as 0 0 (.k (.lf (.int .i64 1))), none⟩] [1, 3]) c67_16
abbrev c67_18 : AC := .seq (.ops 0 [⟨(some 1), .bx (.t 0), none⟩, ⟨(some 2), .as 0 0 (.k (.lf (.bool false))), none⟩] [1]) c67_17
abbrev c67 : AC := c67_18
theorem c67_ok : compileFn Tryd.prog 67 = some (56, AC.strip c67, [.t 2]) := by kernel_rfl
/-- harrow/harrowref04.Name -/
abbrev c81_0 : AC := .seq (.ops 0 [⟨(some 2), .as 0 0 (.k (.lf (.bool false))), none⟩] [2]) .ret
abbrev c81_1 : AC := .cond (.t 22) c81_0 .skip
abbrev c81_2 : AC := .seq (.ops 0 [⟨(some 5), .mv (.t 0), none⟩, ⟨(some 6), .lns (.t 5), none⟩, ⟨(some 7), .bin .lss (.t 6) (.k (.lf (.int .i64 1))), none⟩, ⟨(some 8), .mv (.t 7), none⟩, ⟨(some 9), .mv (.t 0), (some (8, false))⟩, ⟨(some 10), .lns (.t 9), (some (8, false))⟩, ⟨(some 11), .bin .gtr (.t 10) (.k (.lf (.int .i64 32))), (some (8, false))⟩, ⟨(some 12), .pk (.t 8) (.k (.lf (.bool true))) (.t 11), none⟩, ⟨(some 13), .mv (.t 12), none⟩, ⟨(some 14), .mv (.t 0), (some (13, false))⟩, ⟨(some 15), .ixs (.t 14) (.k (.lf (.int .i64 0))), (some (13, false))⟩, ⟨(some 16), .bin .geq (.t 15) (.k (.lf (.int .u8 48))), (some (13, false))⟩, ⟨(some 17), .mv (.t 16), (some (13, false))⟩, ⟨(some 18), .mv (.t 0), (some (17, true))⟩, ⟨(some 19), .ixs (.t 18) (.k (.lf (.int .i64 0))), (some (17, true))⟩, ⟨(some 20), .bin .leq (.t 19) (.k (.lf (.int .u8 57))), (some (17, true))⟩, ⟨(some 21), .pk (.t 17) (.t 20) (.k (.lf (.bool false))), (some (13, false))⟩, ⟨(some 22), .pk (.t 13) (.k (.lf (.bool true))) (.t 21), none⟩] [0, 22]) c81_1
abbrev c81_3 : AC := .cond (.t 26) .skip (.exit 0)
abbrev c81_4 : AC := .seq (.ops 0 [⟨(some 23), .mv (.t 3), none⟩, ⟨(some 24), .mv (.t 0), none⟩, ⟨(some 25), .lns (.t 24), none⟩, ⟨(some 26), .bin .lss (.t 23) (.t 25), none⟩] [0, 3, 26]) c81_3
abbrev c81_5 : AC := .seq (.ops 0 [⟨(some 2), .as 0 0 (.k (.lf (.bool false))), none⟩] [2]) .ret
abbrev c81_6 : AC := .cond (.t 58) c81_5 .skip
abbrev c81_7 : AC := .seq (.ops 0 [⟨(some 32), .mv (.t 4), none⟩, ⟨(some 33), .bin .geq (.t 32) (.k (.lf (.int .u8 97))), none⟩, ⟨(some 34), .mv (.t 33), none⟩, ⟨(some 35), .mv (.t 4), (some (34, true))⟩, ⟨(some 36), .bin .leq (.t 35) (.k (.lf (.int .u8 122))), (some (34, true))⟩, ⟨(some 37), .pk (.t 34) (.t 36) (.k (.lf (.bool false))), none⟩, ⟨(some 38), .mv (.t 37), none⟩, ⟨(some 39), .mv (.t 4), (some (38, false))⟩, ⟨(some 40), .bin .geq (.t 39) (.k (.lf (.int .u8 65))), (some (38, false))⟩, ⟨(some 41), .mv (.t 40), (some (38, false))⟩, ⟨(some 42), .mv (.t 4), (some (41, true))⟩, ⟨(some 43), .bin .leq (.t 42) (.k (.lf (.int .u8 90))), (some (41, true))⟩, ⟨(some 44), .pk (.t 41) (.t 43) (.k (.lf (.bool false))), (some (38, false))⟩, ⟨(some 45), .pk (.t 38) (.k (.lf (.bool true))) (.t 44), none⟩, ⟨(some 46), .mv (.t 45), none⟩, ⟨(some 47), .mv (.t 4), (some (46, false))⟩, ⟨(some 48), .bin .geq (.t 47) (.k (.lf (.int .u8 48))), (some (46, false))⟩, ⟨(some 49), .mv (.t 48), (some (46, false))⟩, ⟨(some 50), .mv (.t 4), (some (49, true))⟩, ⟨(some 51), .bin .leq (.t 50) (.k (.lf (.int .u8 57))), (some (49, true))⟩, ⟨(some 52), .pk (.t 49) (.t 51) (.k (.lf (.bool false))), (some (46, false))⟩, ⟨(some 53), .pk (.t 46) (.k (.lf (.bool true))) (.t 52), none⟩, ⟨(some 54), .mv (.t 53), none⟩, ⟨(some 55), .mv (.t 4), (some (54, false))⟩, ⟨(some 56), .bin .eql (.t 55) (.k (.lf (.int .u8 95))), (some (54, false))⟩, ⟨(some 57), .pk (.t 54) (.k (.lf (.bool true))) (.t 56), none⟩, ⟨(some 58), .un .not (.t 57), none⟩] [0, 3, 58]) c81_6
abbrev c81_8 : AC := .seq (.ops 0 [⟨(some 29), .mv (.t 0), none⟩, ⟨(some 30), .mv (.t 3), none⟩, ⟨(some 31), .ixs (.t 29) (.t 30), none⟩, ⟨(some 4), .as 0 0 (.t 31), none⟩] [0, 3, 4]) c81_7
abbrev c81_9 : AC := .block 1 c81_8
abbrev c81_10 : AC := .seq c81_9 (.ops 0 [⟨(some 27), .mv (.t 3), none⟩, ⟨(some 28), .bin .add (.t 27) (.k (.lf (.int .i64 1))), none⟩, ⟨(some 3), .as 0 0 (.t 28), none⟩] [0, 3])
abbrev c81_11 : AC := .seq c81_4 c81_10
abbrev c81_12 : AC := .loop c81_11 [0, 3]
abbrev c81_13 : AC := .block 0 c81_12
abbrev c81_14 : AC := .seq (.ops 0 [⟨(some 3), .as 0 0 (.k (.lf (.int .i64 0))), none⟩] [0, 3]) c81_13
abbrev c81_15 : AC := .seq (.ops 0 [⟨(some 2), .as 0 0 (.k (.lf (.bool true))), none⟩] [2]) .ret
abbrev c81_16 : AC := .seq c81_14 c81_15
abbrev c81_17 : AC := .seq c81_2 c81_16
abbrev c81_18 : AC := .seq (.ops 0 [⟨(some 2), .as 0 0 (.k (.lf (.bool false))), none⟩] [0]) c81_17
abbrev c81 : AC := c81_18
theorem c81_ok : compileFn Tryd.prog 81 = some (59, AC.strip c81, [.t 2]) := by kernel_rfl
/-- harrow/harrowref04.Template -/
abbrev c82_0 : AC := .seq (.ops 0 [⟨(some 2), .as 0 0 (.k (.lf (.bool false))), none⟩] [2]) .ret
abbrev c82_1 : AC := .cond (.t 6) c82_0 .skip
abbrev c82_2 : AC := .seq (.ops 0 [⟨(some 4), .mv (.t 0), none⟩, ⟨(some 5), .lns (.t 4), none⟩, ⟨(some 6), .bin .gtr (.t 5) (.k (.lf (.int .i64 255))), none⟩] [0, 6]) c82_1
abbrev c82_3 : AC := .cond (.t 10) .skip (.exit 0)
abbrev c82_4 : AC := .seq (.ops 0 [⟨(some 7), .mv (.t 3), none⟩, ⟨(some 8), .mv (.t 0), none⟩, ⟨(some 9), .lns (.t 8), none⟩, ⟨(some 10), .bin .lss (.t 7) (.t 9), none⟩] [0, 3, 10]) c82_3
abbrev c82_5 : AC := .cond (.t 16) (.exit 1) .skip
abbrev c82_6 : AC := .seq (.ops 0 [⟨(some 13), .mv (.t 0), none⟩, ⟨(some 14), .mv (.t 3), none⟩, ⟨(some 15), .ixs (.t 13) (.t 14), none⟩, ⟨(some 16), .bin .neq (.t 15) (.k (.lf (.int .u8 37))), none⟩] [0, 3, 16]) c82_5
abbrev c82_7 : AC := .seq (.ops 0 [⟨(some 2), .as 0 0 (.k (.lf (.bool false))), none⟩] [2]) .ret
abbrev c82_8 : AC := .cond (.t 40) c82_7 .skip
abbrev c82_9 : AC := .seq (.ops 0 [⟨(some 19), .mv (.t 3), none⟩, ⟨(some 20), .mv (.t 0), none⟩, ⟨(some 21), .lns (.t 20), none⟩, ⟨(some 22), .bin .eql (.t 19) (.t 21), none⟩, ⟨(some 23), .mv (.t 22), none⟩, ⟨(some 24), .mv (.t 0), (some (23, false))⟩, ⟨(some 25), .mv (.t 3), (some (23, false))⟩, ⟨(some 26), .ixs (.t 24) (.t 25), (some (23, false))⟩, ⟨(some 27), .bin .neq (.t 26) (.k (.lf (.int .u8 37))), (some (23, false))⟩, ⟨(some 28), .mv (.t 27), (some (23, false))⟩, ⟨(some 29), .mv (.t 0), (some (28, true))⟩, ⟨(some 30), .mv (.t 3), (some (28, true))⟩, ⟨(some 31), .ixs (.t 29) (.t 30), (some (28, true))⟩, ⟨(some 32), .bin .lss (.t 31) (.k (.lf (.int .u8 48))), (some (28, true))⟩, ⟨(some 33), .mv (.t 32), (some (28, true))⟩, ⟨(some 34), .mv (.t 0), (some (33, false))⟩, ⟨(some 35), .mv (.t 3), (some (33, false))⟩, ⟨(some 36), .ixs (.t 34) (.t 35), (some (33, false))⟩, ⟨(some 37), .bin .gtr (.t 36) (.k (.lf (.int .u8 57))), (some (33, false))⟩, ⟨(some 38), .pk (.t 33) (.k (.lf (.bool true))) (.t 37), (some (28, true))⟩, ⟨(some 39), .pk (.t 28) (.t 38) (.k (.lf (.bool false))), (some (23, false))⟩, ⟨(some 40), .pk (.t 23) (.k (.lf (.bool true))) (.t 39), none⟩] [0, 3, 40]) c82_8
abbrev c82_10 : AC := .seq (.ops 0 [⟨(some 17), .mv (.t 3), none⟩, ⟨(some 18), .bin .add (.t 17) (.k (.lf (.int .i64 1))), none⟩, ⟨(some 3), .as 0 0 (.t 18), none⟩] [0, 3]) c82_9
abbrev c82_11 : AC := .seq c82_6 c82_10
abbrev c82_12 : AC := .block 1 c82_11
abbrev c82_13 : AC := .seq c82_12 (.ops 0 [⟨(some 11), .mv (.t 3), none⟩, ⟨(some 12), .bin .add (.t 11) (.k (.lf (.int .i64 1))), none⟩, ⟨(some 3), .as 0 0 (.t 12), none⟩] [0, 3])
abbrev c82_14 : AC := .seq c82_4 c82_13
abbrev c82_15 : AC := .loop c82_14 [0, 3]
abbrev c82_16 : AC := .block 0 c82_15
abbrev c82_17 : AC := .seq (.ops 0 [⟨(some 3), .as 0 0 (.k (.lf (.int .i64 0))), none⟩] [0, 3]) c82_16
abbrev c82_18 : AC := .seq (.ops 0 [⟨(some 2), .as 0 0 (.k (.lf (.bool true))), none⟩] [2]) .ret
abbrev c82_19 : AC := .seq c82_17 c82_18
abbrev c82_20 : AC := .seq c82_2 c82_19
abbrev c82_21 : AC := .seq (.ops 0 [⟨(some 2), .as 0 0 (.k (.lf (.bool false))), none⟩] [0]) c82_20
abbrev c82 : AC := c82_21
theorem c82_ok : compileFn Tryd.prog 82 = some (41, AC.strip c82, [.t 2]) := by kernel_rfl
end Go.Proofs.YthcpaohmajjopaaDoor.I
set_option maxRecDepth 100000
namespace Go.Proofs.YthcpaohmajjopaaDoor.I
open Go Go.Proofs.YthcpaohmajjopaaDoor.AM
/-- harrow/harrowlaw16.lives -/
abbrev c9_0 : AC := .seq (.ops 0 [⟨(some 17), .mv (.t 2), none⟩, ⟨(some 18), .bin .eql (.t 17) (.k (.lf (.int .i64 0))), none⟩, ⟨(some 19), .mv (.t 18), none⟩, ⟨(some 20), .mv (.t 4), (some (19, true))⟩, ⟨(some 21), .bin .eql (.t 20) (.k (.lf (.int .i64 163))), (some (19, true))⟩, ⟨(some 22), .pk (.t 19) (.t 21) (.k (.lf (.bool false))), none⟩, ⟨(some 0), .as 0 0 (.t 22), none⟩] [0]) .ret
abbrev c9_1 : AC := .seq (.ops 0 [⟨(some 12), .bd [.int .i64 0, .int .i64 0, .int .i64 0, .int .i64 0, .str ⟨#[]⟩, .int .u64 0, .int .u64 0, .int .u64 0, .int .u64 0] [(0, 1, (.k (.lf (.int .i64 1))))], none⟩, ⟨(some 13), .bs 52 9 1 [.int .i64 0, .int .i64 0, .int .i64 0, .int .i64 0, .str ⟨#[]⟩, .int .u64 0, .int .u64 0, .int .u64 0, .int .u64 0] [(0, (.t 12))], none⟩, ⟨(some 14), .call 28 [(.t 13)], none⟩, ⟨(some 11), .mv (.t 14), none⟩, ⟨(some 15), .ext (.t 11) 0, none⟩, ⟨(some 16), .ext (.t 11) 1, none⟩, ⟨(some 3), .as 0 0 (.t 15), none⟩, ⟨(some 4), .as 0 0 (.t 16), none⟩] [2, 4]) c9_0
abbrev c9_2 : AC := .seq (.ops 0 [⟨(some 6), .bd [.int .i64 0, .int .i64 0, .int .i64 0, .int .i64 0, .str ⟨#[]⟩, .int .u64 0, .int .u64 0, .int .u64 0, .int .u64 0] [(0, 1, (.k (.lf (.int .i64 17))))], none⟩, ⟨(some 7), .bs 52 9 1 [.int .i64 0, .int .i64 0, .int .i64 0, .int .i64 0, .str ⟨#[]⟩, .int .u64 0, .int .u64 0, .int .u64 0, .int .u64 0] [(0, (.t 6))], none⟩, ⟨(some 8), .call 28 [(.t 7)], none⟩, ⟨(some 5), .mv (.t 8), none⟩, ⟨(some 9), .ext (.t 5) 0, none⟩, ⟨(some 10), .ext (.t 5) 1, none⟩, ⟨(some 1), .as 0 0 (.t 9), none⟩, ⟨(some 2), .as 0 0 (.t 10), none⟩] [2]) c9_1
abbrev c9_3 : AC := .seq (.ops 0 [⟨(some 0), .as 0 0 (.k (.lf (.bool false))), none⟩] []) c9_2
abbrev c9 : AC := c9_3
theorem c9_ok : compileFn Tryd.prog 9 = some (23, AC.strip c9, [.t 0]) := by kernel_rfl
/-- harrow/harrowbook.SameCode -/
abbrev c11_0 : AC := .seq (.ops 0 [⟨(some 4), .as 0 0 (.k (.lf (.bool false))), none⟩] [4]) .ret
abbrev c11_1 : AC := .cond (.t 10) c11_0 .skip
abbrev c11_2 : AC := .seq (.ops 0 [⟨(some 6), .mv (.t 0), none⟩, ⟨(some 7), .len (.t 6), none⟩, ⟨(some 8), .mv (.t 1), none⟩, ⟨(some 9), .len (.t 8), none⟩, ⟨(some 10), .bin .neq (.t 7) (.t 9), none⟩] [0, 1, 10]) c11_1
abbrev c11_3 : AC := .cond (.t 14) .skip (.exit 0)
abbrev c11_4 : AC := .seq (.ops 0 [⟨(some 11), .mv (.t 5), none⟩, ⟨(some 12), .mv (.t 0), none⟩, ⟨(some 13), .len (.t 12), none⟩, ⟨(some 14), .bin .lss (.t 11) (.t 13), none⟩] [0, 1, 5, 14]) c11_3
abbrev c11_5 : AC := .seq (.ops 0 [⟨(some 4), .as 0 0 (.k (.lf (.bool false))), none⟩] [4]) .ret
abbrev c11_6 : AC := .cond (.t 25) c11_5 .skip
abbrev c11_7 : AC := .seq (.ops 2 [⟨(some 17), .mv (.t 0), none⟩, ⟨(some 18), .mv (.t 5), none⟩, ⟨(some 19), .ia (.t 17) (.t 18) 9, none⟩, ⟨(some 20), .ld (.t 19) 9 true, none⟩, ⟨(some 21), .mv (.t 1), none⟩, ⟨(some 22), .mv (.t 5), none⟩, ⟨(some 23), .ia (.t 21) (.t 22) 9, none⟩, ⟨(some 24), .ld (.t 23) 9 true, none⟩, ⟨(some 25), .beq true [2, 2, 2, 2, 3, 2, 2, 2, 2] (.t 20) (.t 24), none⟩] [0, 1, 5, 25]) c11_6
abbrev c11_8 : AC := .block 1 c11_7
abbrev c11_9 : AC := .seq c11_8 (.ops 0 [⟨(some 15), .mv (.t 5), none⟩, ⟨(some 16), .bin .add (.t 15) (.k (.lf (.int .i64 1))), none⟩, ⟨(some 5), .as 0 0 (.t 16), none⟩] [0, 1, 5])
abbrev c11_10 : AC := .seq c11_4 c11_9
abbrev c11_11 : AC := .loop c11_10 [0, 1, 5]
abbrev c11_12 : AC := .block 0 c11_11
abbrev c11_13 : AC := .seq (.ops 0 [⟨(some 5), .as 0 0 (.k (.lf (.int .i64 0))), none⟩] [0, 1, 5]) c11_12
abbrev c11_14 : AC := .seq (.ops 0 [⟨(some 4), .as 0 0 (.k (.lf (.bool true))), none⟩] [4]) .ret
abbrev c11_15 : AC := .seq c11_13 c11_14
abbrev c11_16 : AC := .seq c11_2 c11_15
abbrev c11_17 : AC := .seq (.ops 0 [⟨(some 4), .as 0 0 (.k (.lf (.bool false))), none⟩] [0, 1]) c11_16
abbrev c11 : AC := c11_17
theorem c11_ok : compileFn Tryd.prog 11 = some (26, AC.strip c11, [.t 4]) := by kernel_rfl
/-- harrow/instr.Check -/
abbrev c28_0 : AC := .seq (.ops 0 [⟨(some 2), .as 0 0 (.k (.lf (.int .i64 0))), none⟩, ⟨(some 3), .as 0 0 (.k (.lf (.int .i64 2))), none⟩] [2, 3]) .ret
abbrev c28_1 : AC := .cond (.t 9) c28_0 .skip
abbrev c28_2 : AC := .seq (.ops 0 [⟨(some 7), .mv (.t 0), none⟩, ⟨(some 8), .len (.t 7), none⟩, ⟨(some 9), .bin .gtr (.t 8) (.k (.lf (.int .i64 8192))), none⟩] [0, 9]) c28_1
abbrev c28_3 : AC := .seq (.ops 0 [⟨(some 2), .as 0 0 (.k (.lf (.int .i64 0))), none⟩, ⟨(some 3), .as 0 0 (.k (.lf (.int .i64 3))), none⟩] [2, 3]) .ret
abbrev c28_4 : AC := .cond (.t 12) c28_3 .skip
abbrev c28_5 : AC := .seq (.ops 0 [⟨(some 10), .mv (.t 0), none⟩, ⟨(some 11), .len (.t 10), none⟩, ⟨(some 12), .bin .eql (.t 11) (.k (.lf (.int .i64 0))), none⟩] [0, 12]) c28_4
abbrev c28_6 : AC := .cond (.t 16) .skip (.exit 0)
abbrev c28_7 : AC := .seq (.ops 0 [⟨(some 25), .mv (.t 4), none⟩, ⟨(some 2), .as 0 0 (.t 25), none⟩, ⟨(some 3), .as 0 0 (.k (.lf (.int .i64 160))), none⟩] [2, 3]) .ret
abbrev c28_8 : AC := .seq (.ops 0 [⟨(some 30), .mv (.t 4), none⟩, ⟨(some 2), .as 0 0 (.t 30), none⟩, ⟨(some 3), .as 0 0 (.k (.lf (.int .i64 161))), none⟩] [2, 3]) .ret
abbrev c28_9 : AC := .seq (.ops 0 [⟨(some 51), .mv (.t 4), none⟩, ⟨(some 2), .as 0 0 (.t 51), none⟩, ⟨(some 3), .as 0 0 (.k (.lf (.int .i64 162))), none⟩] [2, 3]) .ret
abbrev c28_10 : AC := .cond (.t 31) c28_9 .skip
abbrev c28_11 : AC := .seq (.ops 0 [⟨(some 32), .fa (.t 5) 0, none⟩, ⟨(some 33), .ld (.t 32) 1 false, none⟩, ⟨(some 34), .call 50 [(.t 33), (.k (.lf (.int .i64 32)))], none⟩, ⟨(some 35), .mv (.t 34), none⟩, ⟨(some 36), .fa (.t 5) 1, (some (35, true))⟩, ⟨(some 37), .ld (.t 36) 1 false, (some (35, true))⟩, ⟨(some 38), .mv (.t 4), (some (35, true))⟩, ⟨(some 39), .un .neg (.t 38), (some (35, true))⟩, ⟨(some 40), .bin .lss (.t 37) (.t 39), (some (35, true))⟩, ⟨(some 41), .mv (.t 40), (some (35, true))⟩, ⟨(some 42), .fa (.t 5) 1, (some (41, false))⟩, ⟨(some 43), .ld (.t 42) 1 false, (some (41, false))⟩, ⟨(some 44), .mv (.t 0), (some (41, false))⟩, ⟨(some 45), .len (.t 44), (some (41, false))⟩, ⟨(some 46), .mv (.t 4), (some (41, false))⟩, ⟨(some 47), .bin .sub (.t 45) (.t 46), (some (41, false))⟩, ⟨(some 48), .bin .geq (.t 43) (.t 47), (some (41, false))⟩, ⟨(some 49), .pk (.t 41) (.k (.lf (.bool true))) (.t 48), (some (35, true))⟩, ⟨(some 50), .pk (.t 35) (.t 49) (.k (.lf (.bool false))), none⟩, ⟨(some 31), .as 0 0 (.t 50), none⟩] [0, 4, 13, 14, 15, 31]) c28_10
abbrev c28_12 : AC := .cond (.t 26) c28_8 c28_11
abbrev c28_13 : AC := .seq (.ops 0 [⟨(some 27), .ld (.t 5) 9 true, none⟩, ⟨(some 28), .call 49 [(.t 27)], none⟩, ⟨(some 29), .un .not (.t 28), none⟩, ⟨(some 26), .as 0 0 (.t 29), none⟩] [0, 4, 5, 13, 14, 15, 26]) c28_12
abbrev c28_14 : AC := .cond (.t 20) c28_7 c28_13
abbrev c28_15 : AC := .seq (.ops 0 [⟨(some 21), .fa (.t 5) 0, none⟩, ⟨(some 22), .ld (.t 21) 1 false, none⟩, ⟨(some 23), .call 31 [(.t 22)], none⟩, ⟨(some 24), .un .not (.t 23), none⟩, ⟨(some 20), .as 0 0 (.t 24), none⟩] [0, 4, 5, 13, 14, 15, 20]) c28_14
abbrev c28_16 : AC := .block 2 c28_15
abbrev c28_17 : AC := .seq (.ops 0 [⟨(some 17), .mv (.t 15), none⟩, ⟨(some 18), .ia (.t 13) (.t 15) 9, none⟩, ⟨(some 19), .ld (.t 18) 9 true, none⟩, ⟨(some 5), .al [.int .i64 0, .int .i64 0, .int .i64 0, .int .i64 0, .str ⟨#[]⟩, .int .u64 0, .int .u64 0, .int .u64 0, .int .u64 0], none⟩, ⟨(some 4), .as 0 0 (.t 17), none⟩, ⟨none, .st (.t 5) (.t 19) 9, none⟩] [0, 4, 5, 13, 14, 15]) c28_16
abbrev c28_18 : AC := .block 1 c28_17
abbrev c28_19 : AC := .seq c28_18 (.ops 0 [⟨(some 52), .bin .add (.t 15) (.k (.lf (.int .i64 1))), none⟩, ⟨(some 15), .mv (.t 52), none⟩] [0, 13, 14, 15])
abbrev c28_20 : AC := .seq c28_6 c28_19
abbrev c28_21 : AC := .seq (.ops 0 [⟨(some 16), .bin .lss (.t 15) (.t 14), none⟩] [0, 13, 14, 15, 16]) c28_20
abbrev c28_22 : AC := .loop c28_21 [0, 13, 14, 15]
abbrev c28_23 : AC := .block 0 c28_22
abbrev c28_24 : AC := .seq (.ops 0 [⟨(some 13), .mv (.t 0), none⟩, ⟨(some 14), .len (.t 13), none⟩, ⟨(some 15), .mv (.k (.lf (.int .i64 0))), none⟩] [0, 13, 14, 15]) c28_23
abbrev c28_25 : AC := .seq (.ops 0 [⟨(some 62), .mv (.t 6), none⟩, ⟨(some 2), .as 0 0 (.t 62), none⟩, ⟨(some 3), .as 0 0 (.k (.lf (.int .i64 163))), none⟩] [2, 3]) .ret
abbrev c28_26 : AC := .cond (.t 61) c28_25 .skip
abbrev c28_27 : AC := .seq (.ops 0 [⟨(some 56), .mv (.t 0), none⟩, ⟨(some 57), .mv (.t 6), none⟩, ⟨(some 58), .ia (.t 56) (.t 57) 9, none⟩, ⟨(some 59), .fa (.t 58) 0, none⟩, ⟨(some 60), .ld (.t 59) 1 false, none⟩, ⟨(some 61), .call 50 [(.t 60), (.k (.lf (.int .i64 64)))], none⟩] [6, 61]) c28_26
abbrev c28_28 : AC := .seq (.ops 0 [⟨(some 53), .mv (.t 0), none⟩, ⟨(some 54), .len (.t 53), none⟩, ⟨(some 55), .bin .sub (.t 54) (.k (.lf (.int .i64 1))), none⟩, ⟨(some 6), .as 0 0 (.t 55), none⟩] [0, 6]) c28_27
abbrev c28_29 : AC := .seq (.ops 0 [⟨(some 2), .as 0 0 (.k (.lf (.int .i64 0))), none⟩, ⟨(some 3), .as 0 0 (.k (.lf (.int .i64 0))), none⟩] [2, 3]) .ret
abbrev c28_30 : AC := .seq c28_28 c28_29
abbrev c28_31 : AC := .seq c28_24 c28_30
abbrev c28_32 : AC := .seq c28_5 c28_31
abbrev c28_33 : AC := .seq c28_2 c28_32
abbrev c28_34 : AC := .seq (.ops 0 [⟨(some 2), .as 0 0 (.k (.lf (.int .i64 0))), none⟩, ⟨(some 3), .as 0 0 (.k (.lf (.int .i64 0))), none⟩] [0]) c28_33
abbrev c28 : AC := c28_34
theorem c28_ok : compileFn Tryd.prog 28 = some (63, AC.strip c28, [.t 2, .t 3]) := by kernel_rfl
/-- harrow/instr.is -/
abbrev c31_0 : AC := .seq (.ops 0 [⟨(some 3), .mv (.t 0), none⟩, ⟨(some 4), .bin .geq (.t 3) (.k (.lf (.int .i64 1))), none⟩, ⟨(some 5), .mv (.t 4), none⟩, ⟨(some 6), .mv (.t 0), (some (5, true))⟩, ⟨(some 7), .bin .leq (.t 6) (.k (.lf (.int .i64 20))), (some (5, true))⟩, ⟨(some 8), .pk (.t 5) (.t 7) (.k (.lf (.bool false))), none⟩, ⟨(some 2), .as 0 0 (.t 8), none⟩] [2]) .ret
abbrev c31_1 : AC := .seq (.ops 0 [⟨(some 2), .as 0 0 (.k (.lf (.bool false))), none⟩] [0]) c31_0
abbrev c31 : AC := c31_1
theorem c31_ok : compileFn Tryd.prog 31 = some (9, AC.strip c31, [.t 2]) := by kernel_rfl
/-- harrow/instr.fits -/
abbrev c49_0 : AC := .seq (.ops 0 [⟨(some 2), .as 0 0 (.k (.lf (.bool false))), none⟩] [2]) .ret
abbrev c49_1 : AC := .cond (.t 6) c49_0 .skip
abbrev c49_2 : AC := .seq (.ops 2 [⟨(some 3), .ld (.t 1) 9 true, none⟩, ⟨(some 4), .ld (.t 1) 9 true, none⟩, ⟨(some 5), .call 65 [(.t 4)], none⟩, ⟨(some 6), .beq true [2, 2, 2, 2, 3, 2, 2, 2, 2] (.t 3) (.t 5), none⟩] [1, 6]) c49_1
abbrev c49_3 : AC := .cond (.t 9) .skip (.ops 0 [⟨(some 11), .bin .eql (.t 8) (.k (.lf (.int .i64 5))), none⟩, ⟨(some 9), .as 0 0 (.t 11), none⟩] [1, 8, 9])
abbrev c49_4 : AC := .seq (.ops 0 [⟨(some 10), .bin .eql (.t 8) (.k (.lf (.int .i64 2))), none⟩, ⟨(some 9), .as 0 0 (.t 10), none⟩] [1, 8, 9]) c49_3
abbrev c49_5 : AC := .seq (.ops 0 [⟨(some 12), .fa (.t 1) 2, none⟩, ⟨(some 13), .ld (.t 12) 1 false, none⟩, ⟨(some 14), .bin .geq (.t 13) (.k (.lf (.int .i64 0))), none⟩, ⟨(some 15), .mv (.t 14), none⟩, ⟨(some 16), .fa (.t 1) 2, (some (15, true))⟩, ⟨(some 17), .ld (.t 16) 1 false, (some (15, true))⟩, ⟨(some 18), .bin .leq (.t 17) (.k (.lf (.int .i64 255))), (some (15, true))⟩, ⟨(some 19), .pk (.t 15) (.t 18) (.k (.lf (.bool false))), none⟩, ⟨(some 2), .as 0 0 (.t 19), none⟩] [2]) .ret
abbrev c49_6 : AC := .seq (.ops 0 [⟨(some 22), .fa (.t 1) 2, none⟩, ⟨(some 23), .ld (.t 22) 1 false, none⟩, ⟨(some 24), .bin .geq (.t 23) (.k (.lf (.int .i64 2))), none⟩, ⟨(some 25), .mv (.t 24), none⟩, ⟨(some 26), .fa (.t 1) 2, (some (25, true))⟩, ⟨(some 27), .ld (.t 26) 1 false, (some (25, true))⟩, ⟨(some 28), .bin .leq (.t 27) (.k (.lf (.int .i64 7))), (some (25, true))⟩, ⟨(some 29), .pk (.t 25) (.t 28) (.k (.lf (.bool false))), none⟩, ⟨(some 30), .mv (.t 29), none⟩, ⟨(some 31), .fa (.t 1) 2, (some (30, true))⟩, ⟨(some 32), .ld (.t 31) 1 false, (some (30, true))⟩, ⟨(some 33), .fa (.t 1) 3, (some (30, true))⟩, ⟨(some 34), .ld (.t 33) 1 false, (some (30, true))⟩, ⟨(some 35), .fa (.t 1) 4, (some (30, true))⟩, ⟨(some 36), .ld (.t 35) 1 false, (some (30, true))⟩, ⟨(some 37), .call 66 [(.t 32), (.t 34), (.t 36)], (some (30, true))⟩, ⟨(some 38), .pk (.t 30) (.t 37) (.k (.lf (.bool false))), none⟩, ⟨(some 2), .as 0 0 (.t 38), none⟩] [2]) .ret
abbrev c49_7 : AC := .seq (.ops 0 [⟨(some 2), .as 0 0 (.k (.lf (.bool false))), none⟩] [2]) .ret
abbrev c49_8 : AC := .cond (.t 68) c49_7 .skip
abbrev c49_9 : AC := .seq (.ops 0 [⟨(some 41), .fa (.t 1) 2, none⟩, ⟨(some 42), .ld (.t 41) 1 false, none⟩, ⟨(some 43), .bin .lss (.t 42) (.k (.lf (.int .i64 1))), none⟩, ⟨(some 44), .mv (.t 43), none⟩, ⟨(some 45), .fa (.t 1) 2, (some (44, false))⟩, ⟨(some 46), .ld (.t 45) 1 false, (some (44, false))⟩, ⟨(some 47), .bin .gtr (.t 46) (.k (.lf (.int .i64 7))), (some (44, false))⟩, ⟨(some 48), .pk (.t 44) (.k (.lf (.bool true))) (.t 47), none⟩, ⟨(some 49), .mv (.t 48), none⟩, ⟨(some 50), .fa (.t 1) 1, (some (49, false))⟩, ⟨(some 51), .ld (.t 50) 1 false, (some (49, false))⟩, ⟨(some 52), .bin .lss (.t 51) (.k (.lf (.int .i64 0))), (some (49, false))⟩, ⟨(some 53), .pk (.t 49) (.k (.lf (.bool true))) (.t 52), none⟩, ⟨(some 54), .mv (.t 53), none⟩, ⟨(some 55), .fa (.t 1) 1, (some (54, false))⟩, ⟨(some 56), .ld (.t 55) 1 false, (some (54, false))⟩, ⟨(some 57), .bin .gtr (.t 56) (.k (.lf (.int .i64 255))), (some (54, false))⟩, ⟨(some 58), .pk (.t 54) (.k (.lf (.bool true))) (.t 57), none⟩, ⟨(some 59), .mv (.t 58), none⟩, ⟨(some 60), .fa (.t 1) 2, (some (59, false))⟩, ⟨(some 61), .ld (.t 60) 1 false, (some (59, false))⟩, ⟨(some 62), .bin .eql (.t 61) (.k (.lf (.int .i64 1))), (some (59, false))⟩, ⟨(some 63), .mv (.t 62), (some (59, false))⟩, ⟨(some 64), .fa (.t 1) 1, (some (63, true))⟩, ⟨(some 65), .ld (.t 64) 1 false, (some (63, true))⟩, ⟨(some 66), .bin .gtr (.t 65) (.k (.lf (.int .i64 0))), (some (63, true))⟩, ⟨(some 67), .pk (.t 63) (.t 66) (.k (.lf (.bool false))), (some (59, false))⟩, ⟨(some 68), .pk (.t 59) (.k (.lf (.bool true))) (.t 67), none⟩] [1, 68]) c49_8
abbrev c49_10 : AC := .seq (.ops 0 [⟨(some 69), .fa (.t 1) 2, none⟩, ⟨(some 70), .ld (.t 69) 1 false, none⟩, ⟨(some 71), .fa (.t 1) 3, none⟩, ⟨(some 72), .ld (.t 71) 1 false, none⟩, ⟨(some 73), .fa (.t 1) 4, none⟩, ⟨(some 74), .ld (.t 73) 1 false, none⟩, ⟨(some 75), .call 66 [(.t 70), (.t 72), (.t 74)], none⟩, ⟨(some 2), .as 0 0 (.t 75), none⟩] [2]) .ret
abbrev c49_11 : AC := .seq c49_9 c49_10
abbrev c49_12 : AC := .cond (.t 39) c49_11 .skip
abbrev c49_13 : AC := .seq (.ops 0 [⟨(some 40), .bin .eql (.t 8) (.k (.lf (.int .i64 20))), none⟩, ⟨(some 39), .as 0 0 (.t 40), none⟩] [1, 39]) c49_12
abbrev c49_14 : AC := .cond (.t 20) c49_6 c49_13
abbrev c49_15 : AC := .seq (.ops 0 [⟨(some 21), .bin .eql (.t 8) (.k (.lf (.int .i64 18))), none⟩, ⟨(some 20), .as 0 0 (.t 21), none⟩] [1, 8, 20]) c49_14
abbrev c49_16 : AC := .cond (.t 9) c49_5 c49_15
abbrev c49_17 : AC := .seq c49_4 c49_16
abbrev c49_18 : AC := .block 0 c49_17
abbrev c49_19 : AC := .seq (.ops 0 [⟨(some 7), .fa (.t 1) 0, none⟩, ⟨(some 8), .ld (.t 7) 1 false, none⟩] [1, 8]) c49_18
abbrev c49_20 : AC := .seq (.ops 0 [⟨(some 2), .as 0 0 (.k (.lf (.bool true))), none⟩] [2]) .ret
abbrev c49_21 : AC := .seq c49_19 c49_20
abbrev c49_22 : AC := .seq c49_2 c49_21
abbrev c49_23 : AC := .seq (.ops 0 [⟨(some 1), .bx (.t 0), none⟩, ⟨(some 2), .as 0 0 (.k (.lf (.bool false))), none⟩] [1]) c49_22
abbrev c49 : AC := c49_23
theorem c49_ok : compileFn Tryd.prog 49 = some (76, AC.strip c49, [.t 2]) := by kernel_rfl
/-- harrow/instr.has -/
abbrev c50_0 : AC := .seq (.ops 0 [⟨(some 5), .mv (.t 0), none⟩, ⟨(some 6), .iaa (.k (.lf (.gl 1 0))) (.t 5) 21 1, none⟩, ⟨(some 7), .ld (.t 6) 1 false, none⟩, ⟨(some 8), .mv (.t 1), none⟩, ⟨(some 9), .bin .and (.t 7) (.t 8), none⟩, ⟨(some 10), .bin .neq (.t 9) (.k (.lf (.int .i64 0))), none⟩, ⟨(some 4), .as 0 0 (.t 10), none⟩] [4]) .ret
abbrev c50_1 : AC := .seq (.ops 0 [⟨(some 4), .as 0 0 (.k (.lf (.bool false))), none⟩] [0, 1]) c50_0
abbrev c50 : AC := c50_1
theorem c50_ok : compileFn Tryd.prog 50 = some (11, AC.strip c50, [.t 4]) := by kernel_rfl
/-- harrow/instr.plain -/
abbrev c65_0 : AC := .cond (.t 9) (.ops 0 [⟨(some 10), .fa (.t 1) 1, none⟩, ⟨(some 11), .ld (.t 10) 1 false, none⟩, ⟨(some 12), .fa (.t 3) 1, none⟩, ⟨none, .st (.t 12) (.t 11) 1, none⟩] [1, 2, 3]) .skip
abbrev c65_1 : AC := .seq (.ops 0 [⟨(some 7), .fa (.t 1) 0, none⟩, ⟨(some 8), .ld (.t 7) 1 false, none⟩, ⟨(some 9), .call 50 [(.t 8), (.k (.lf (.int .i64 1)))], none⟩] [1, 2, 3, 9]) c65_0
abbrev c65_2 : AC := .cond (.t 15) (.ops 0 [⟨(some 16), .fa (.t 1) 2, none⟩, ⟨(some 17), .ld (.t 16) 1 false, none⟩, ⟨(some 18), .fa (.t 3) 2, none⟩, ⟨none, .st (.t 18) (.t 17) 1, none⟩] [1, 2, 3]) .skip
abbrev c65_3 : AC := .seq (.ops 0 [⟨(some 13), .fa (.t 1) 0, none⟩, ⟨(some 14), .ld (.t 13) 1 false, none⟩, ⟨(some 15), .call 50 [(.t 14), (.k (.lf (.int .i64 2)))], none⟩] [1, 2, 3, 15]) c65_2
abbrev c65_4 : AC := .cond (.t 21) (.ops 0 [⟨(some 22), .fa (.t 1) 3, none⟩, ⟨(some 23), .ld (.t 22) 1 false, none⟩, ⟨(some 24), .fa (.t 3) 3, none⟩, ⟨none, .st (.t 24) (.t 23) 1, none⟩] [1, 2, 3]) .skip
abbrev c65_5 : AC := .seq (.ops 0 [⟨(some 19), .fa (.t 1) 0, none⟩, ⟨(some 20), .ld (.t 19) 1 false, none⟩, ⟨(some 21), .call 50 [(.t 20), (.k (.lf (.int .i64 4)))], none⟩] [1, 2, 3, 21]) c65_4
abbrev c65_6 : AC := .cond (.t 27) (.ops 0 [⟨(some 28), .fa (.t 1) 4, none⟩, ⟨(some 29), .ld (.t 28) 1 false, none⟩, ⟨(some 30), .fa (.t 3) 4, none⟩, ⟨none, .st (.t 30) (.t 29) 1, none⟩] [1, 2, 3]) .skip
abbrev c65_7 : AC := .seq (.ops 0 [⟨(some 25), .fa (.t 1) 0, none⟩, ⟨(some 26), .ld (.t 25) 1 false, none⟩, ⟨(some 27), .call 50 [(.t 26), (.k (.lf (.int .i64 8)))], none⟩] [1, 2, 3, 27]) c65_6
abbrev c65_8 : AC := .cond (.t 33) (.ops 0 [⟨(some 34), .fa (.t 1) 5, none⟩, ⟨(some 35), .ld (.t 34) 4 true, none⟩, ⟨(some 36), .fa (.t 3) 5, none⟩, ⟨none, .st (.t 36) (.t 35) 4, none⟩] [2, 3]) .skip
abbrev c65_9 : AC := .seq (.ops 0 [⟨(some 31), .fa (.t 1) 0, none⟩, ⟨(some 32), .ld (.t 31) 1 false, none⟩, ⟨(some 33), .call 50 [(.t 32), (.k (.lf (.int .i64 16)))], none⟩] [1, 2, 3, 33]) c65_8
abbrev c65_10 : AC := .seq (.ops 0 [⟨(some 37), .ld (.t 3) 9 true, none⟩, ⟨none, .st (.t 2) (.t 37) 9, none⟩] [2]) .ret
abbrev c65_11 : AC := .seq c65_9 c65_10
abbrev c65_12 : AC := .seq c65_7 c65_11
abbrev c65_13 : AC := .seq c65_5 c65_12
abbrev c65_14 : AC := .seq c65_3 c65_13
abbrev c65_15 : AC := .seq c65_1 c65_14
abbrev c65_16 : AC := .seq (.ops 0 [⟨(some 4), .fa (.t 1) 0, none⟩, ⟨(some 5), .ld (.t 4) 1 false, none⟩, ⟨(some 6), .bd [.int .i64 0, .int .i64 0, .int .i64 0, .int .i64 0, .str ⟨#[]⟩, .int .u64 0, .int .u64 0, .int .u64 0, .int .u64 0] [(0, 1, (.t 5))], none⟩, ⟨(some 3), .al [.int .i64 0, .int .i64 0, .int .i64 0, .int .i64 0, .str ⟨#[]⟩, .int .u64 0, .int .u64 0, .int .u64 0, .int .u64 0], none⟩, ⟨none, .st (.t 3) (.t 6) 9, none⟩] [1, 2, 3]) c65_15
abbrev c65_17 : AC := .seq (.ops 0 [⟨(some 1), .bx (.t 0), none⟩, ⟨(some 2), .al [.int .i64 0, .int .i64 0, .int .i64 0, .int .i64 0, .str ⟨#[]⟩, .int .u64 0, .int .u64 0, .int .u64 0, .int .u64 0], none⟩] [1, 2]) c65_16
abbrev c65 : AC := c65_17
theorem c65_ok : compileFn Tryd.prog 65 = some (38, AC.strip c65, [.c 2 9 true]) := by kernel_rfl
end Go.Proofs.YthcpaohmajjopaaDoor.I
set_option linter.unusedVariables false
set_option linter.unusedSimpArgs false
namespace Go.Proofs.YthcpaohmajjopaaDoor.I
open Go Go.Proofs.YthcpaohmajjopaaDoor.AM
variable {X : Cx}

theorem w64 {x : Int} (h0 : -9223372036854775808 ≤ x) (h1 : x ≤ 9223372036854775807) : IntKind.wrap .i64 x = x := by
  simp only [IntKind.wrap, IntKind.bits, IntKind.signed]; simp; omega
theorem ite_pr {p : Prop} [Decidable p] {A B : Prop} (h1 : p → A) (h2 : ¬ p → B) : if p then A else B := by split <;> simp_all

/-- An instruction. -/
structure Ins where
  op : Int
  a : Int
  b : Int
  n : Int
  t : ByteArray
  s0 : Int
  s1 : Int
  s2 : Int
  s3 : Int
def Ins.c (x : Ins) : List L := [.int .i64 x.op, .int .i64 x.a, .int .i64 x.b, .int .i64 x.n, .str x.t, .int .u64 x.s0, .int .u64 x.s1, .int .u64 x.s2, .int .u64 x.s3]
def Ins.same (x y : Ins) : Bool := decide (x.op = y.op) && (decide (x.a = y.a) && (decide (x.b = y.b) && (decide (x.n = y.n) && (decide (x.t = y.t) && (decide (x.s0 = y.s0) && (decide (x.s1 = y.s1) && (decide (x.s2 = y.s2) && (decide (x.s3 = y.s3) && true))))))))
theorem Ins.same_eq {x y : Ins} : (x.same y = true) ↔ x = y := by
  cases x; cases y
  simp [Ins.same]
theorem eq_ins (x y : Ins) : eqLs x.c y.c = some (x.same y) := by
  simp [eqLs, eqL, Ins.c, Ins.same]

/-- instr.uses -/
def usesN : List Int := [0, 64, 66, 80, 97, 99, 113, 80, 97, 33, 33, 33, 0, 0, 33, 97, 0, 0, 78, 64, 79]
def usesL : List L := usesN.map (.int .i64 ·)
def useOf (k : Nat) : Int := usesN[k]?.getD 0
theorem usesL_get {k : Nat} (h : k < 21) : usesL[k]? = some (.int .i64 (useOf k)) := by
  have : usesN[k]? = some (useOf k) := by
    unfold useOf
    rw [List.getElem?_eq_getElem (by simpa [usesN] using h)]; rfl
  simp [usesL, this]
def hasB (k : Nat) (bit : Int) : Bool := decide (¬ bits .and .i64 (useOf k) bit = 0)

theorem r31 (op : Int) : R X Tryd.prog 31 [.lf (.int .i64 op)] [] (.lf (.bool (decide (1 ≤ op ∧ op ≤ 20)))) [] := by
  refine R_i [] [] c31_ok rfl (by simp) ?_
  simp -implicitDefEqProofs (maxSteps := 2000000) only [c31, ↓reduceIte, s_ret, s_ops0, s_seq, s_opsK, s_seqK_n, s_nil, s_cons, s_guard, s_wopsK, s_putK, s_grd, q_mv, q_bin, o_mv, o_as, o_pk, v_pk, o_bin, v_leq, v_geq, e_t, e_k, e_put, e_get, e_res, e_keep_n, e_keep_c, e_keep1_s, e_asg_b, St.init, enum, List.length_nil, Option.getD_some, Nat.reduceEqDiff, reduceCtorEq, true_and, and_true, cond_false, Bool.not_true, Bool.false_eq_true, decide_eq_true_eq, s_ret_r, s_retX, s_cells_n, t_lf, t_b, r_n, r_t, r_cons, one_1, Bool.and_true, Bool.true_and]
  split <;> simp_all
  intro h; omega
theorem r50 (hX : X.G 1 = some usesL) (k : Nat) (hk : k < 21) (bit : Int) : R X Tryd.prog 50 [.lf (.int .i64 k), .lf (.int .i64 bit)] [] (.lf (.bool (hasB k bit))) [] := by
  refine R_i [] [] c50_ok rfl (by simp) ?_
  have h1 : usesL[(↑k : Int).toNat * 1]? = some (.int .i64 (useOf k)) := by simpa using usesL_get hk
  simp -implicitDefEqProofs (maxSteps := 2000000) only [c50, hX, h1, ↓reduceIte, s_ret, s_ops0, s_seq, s_opsK, s_seqK_n, s_nil, s_cons, s_wopsK, s_putK, o_mv, o_as, o_bin, v_and, v_neq, v_part_f, v_atK, o_iaa, o_ld, v_ldC, e_t, e_k, e_put, e_get, e_res, e_keep_n, e_keep_c, e_keep1_s, e_asg_b, St.init, enum, List.length_nil, Option.getD_some, Nat.reduceEqDiff, reduceCtorEq, true_and, and_true, s_ret_r, s_retX, s_cells_n, t_lf, t_b, r_n, r_t, r_cons, one_1, Bool.and_true, Bool.true_and, ne_eq, Nat.zero_add, v_iaa_g, v_ld_g]
  exact ⟨⟨by omega, by omega⟩, rfl⟩
/-- which fields a kind has -/
theorem pat {k : Nat} (hk : k < 21) : ∃ p ∈ [(false, false, false, false, false), (false, true, false, false, false), (false, false, false, false, true), (true, false, false, false, false), (true, true, false, false, false), (true, false, false, false, true), (false, true, true, true, false), (true, true, true, true, false)],
    hasB k 1 = p.1 ∧ hasB k 2 = p.2.1 ∧ hasB k 4 = p.2.2.1 ∧ hasB k 8 = p.2.2.2.1 ∧ hasB k 16 = p.2.2.2.2 := by
  have h : ∀ i : Fin 21, (hasB i.val 1, hasB i.val 2, hasB i.val 4, hasB i.val 8, hasB i.val 16) ∈ [(false, false, false, false, false), (false, true, false, false, false), (false, false, false, false, true), (true, false, false, false, false), (true, true, false, false, false), (true, false, false, false, true), (false, true, true, true, false), (true, true, true, true, false)] := by decide +kernel
  exact ⟨_, h ⟨k, hk⟩, rfl, rfl, rfl, rfl, rfl⟩
def Ins.plain (k : Nat) (x : Ins) : Ins := { op := x.op, a := if hasB k 1 = true then x.a else 0, b := if hasB k 2 = true then x.b else 0, n := if hasB k 4 = true then x.n else 0, t := if hasB k 8 = true then x.t else ⟨#[]⟩, s0 := if hasB k 16 = true then x.s0 else 0, s1 := if hasB k 16 = true then x.s1 else 0, s2 := if hasB k 16 = true then x.s2 else 0, s3 := if hasB k 16 = true then x.s3 else 0 }
theorem r65 (hX : X.G 1 = some usesL) (k : Nat) (hk : k < 21) (x : Ins) (hx : x.op = k) : R X Tryd.prog 65 [.ag x.c] [] (.ag (x.plain k).c) [] := by
  obtain ⟨op, a, b, n, t, s0, s1, s2, s3⟩ := x
  simp only at hx
  subst hx
  obtain ⟨p, hp, h1, h2, h3, h4, h5⟩ := pat hk
  simp only [Ins.plain, Ins.c, h1, h2, h3, h4, h5]
  refine R_i [] [] c65_ok rfl (by simp) ?_
  simp -implicitDefEqProofs (maxSteps := 2000000) only [c65, ↓reduceIte, s_ops0, s_seq, s_opsK, s_seqK_n, s_nil, s_cons, s_wopsK, s_putK, v_part_f, v_atK, o_al, o_bx, o_fa, v_fa_p, o_ld, v_ld_p, v_ldC, o_st, v_st_p, v_stCK, o_bd, v_agK, v_bd_n, v_bd_c, o_call, e_t, e_k, e_put, e_get, e_res, e_keep_n, e_keep_c, e_keep1_s, St.init, enum, List.length_nil, List.length_cons, Option.getD_some, Nat.reduceEqDiff, Nat.reduceAdd, reduceCtorEq, true_and, Bool.false_eq_true, List.map_cons, List.map_nil, PV.leaves, List.flatMap_cons, List.flatMap_nil, List.append_nil, List.cons_append, List.nil_append, List.all_cons, List.all_nil, Bool.true_and, Bool.and_self, PV.cells, cellL, fillL, Nat.reduceBEq, Nat.reduceLeDiff, Nat.zero_le, Nat.le_refl, List.take_zero, List.drop_zero, List.drop_succ_cons, List.drop_nil, List.getElem?_cons_zero, kc_i, kc_s, rl_i, kc_p, m_lf, m_ag, m_n, m_c, m_all, st_b, d_n, d_c, ne_eq, not_false_eq_true, Nat.zero_add, Nat.add_zero, v_bx_a]
  refine wcall_s (r50 hX k hk 1) rfl rfl ?_
  simp only [List.mem_cons, List.not_mem_nil, or_false] at hp
  rcases hp with rfl | rfl | rfl | rfl | rfl | rfl | rfl | rfl
  all_goals
    simp only at h1 h2 h3 h4 h5
    simp -implicitDefEqProofs (maxSteps := 2000000) only [c65, h1, h2, h3, h4, h5, ↓reduceIte, s_skip, s_ops0, s_seq, s_cond, s_opsK, s_seqK_n, s_cnd, s_nil, s_cons, s_wopsK, s_putK, v_part_f, v_atK, o_fa, v_fa_p, o_ld, v_ld_p, v_ldC, o_st, v_st_p, v_stCK, o_call, e_t, e_k, e_put, e_get, e_res, e_keep_n, e_keep_c, e_keep1_s, List.length_nil, List.length_cons, Option.getD_some, Nat.reduceEqDiff, Nat.reduceAdd, true_and, Bool.false_eq_true, St.clr, outV, ownsV, owns1, ownL, List.map_cons, List.map_nil, PV.leaves, List.flatMap_cons, List.flatMap_nil, List.append_nil, List.cons_append, List.nil_append, List.all_cons, List.all_nil, Bool.true_and, Bool.and_self, PV.cells, cellL, fillL, Nat.reduceLeDiff, List.take_zero, List.drop_zero, List.take_succ_cons, List.drop_succ_cons, List.getElem?_cons_zero, List.getElem?_cons_succ, rl_i, ol_b, m_lf, st_i1, d_n, d_c, Nat.zero_add, Nat.add_zero]
    refine wcall_s (r50 hX k hk 2) rfl rfl ?_
    simp -implicitDefEqProofs (maxSteps := 2000000) only [c65, h1, h2, h3, h4, h5, ↓reduceIte, s_skip, s_ops0, s_seq, s_cond, s_opsK, s_seqK_n, s_cnd, s_nil, s_cons, s_wopsK, s_putK, v_part_f, v_atK, o_fa, v_fa_p, o_ld, v_ld_p, v_ldC, o_st, v_st_p, v_stCK, o_call, e_t, e_k, e_put, e_get, e_res, e_keep_n, e_keep_c, e_keep1_s, List.length_nil, List.length_cons, Option.getD_some, Nat.reduceEqDiff, Nat.reduceAdd, true_and, Bool.false_eq_true, St.clr, outV, ownsV, owns1, ownL, List.map_cons, List.map_nil, PV.leaves, List.flatMap_cons, List.flatMap_nil, List.append_nil, List.cons_append, List.nil_append, List.all_cons, List.all_nil, Bool.true_and, Bool.and_self, PV.cells, cellL, fillL, Nat.reduceLeDiff, List.take_zero, List.drop_zero, List.take_succ_cons, List.drop_succ_cons, List.getElem?_cons_zero, List.getElem?_cons_succ, rl_i, ol_b, m_lf, st_i1, d_n, d_c, Nat.zero_add, Nat.add_zero]
    refine wcall_s (r50 hX k hk 4) rfl rfl ?_
    simp -implicitDefEqProofs (maxSteps := 2000000) only [c65, h1, h2, h3, h4, h5, ↓reduceIte, s_skip, s_ops0, s_seq, s_cond, s_opsK, s_seqK_n, s_cnd, s_nil, s_cons, s_wopsK, s_putK, v_part_f, v_atK, o_fa, v_fa_p, o_ld, v_ld_p, v_ldC, o_st, v_st_p, v_stCK, o_call, e_t, e_k, e_put, e_get, e_res, e_keep_n, e_keep_c, e_keep1_s, List.length_nil, List.length_cons, Option.getD_some, Nat.reduceEqDiff, Nat.reduceAdd, true_and, Bool.false_eq_true, St.clr, outV, ownsV, owns1, ownL, List.map_cons, List.map_nil, PV.leaves, List.flatMap_cons, List.flatMap_nil, List.append_nil, List.cons_append, List.nil_append, List.all_cons, List.all_nil, Bool.true_and, Bool.and_self, PV.cells, cellL, fillL, Nat.reduceLeDiff, List.take_zero, List.drop_zero, List.take_succ_cons, List.drop_succ_cons, List.getElem?_cons_zero, List.getElem?_cons_succ, rl_i, ol_b, m_lf, st_i1, d_n, d_c, Nat.zero_add, Nat.add_zero]
    refine wcall_s (r50 hX k hk 8) rfl rfl ?_
    simp -implicitDefEqProofs (maxSteps := 2000000) only [c65, h1, h2, h3, h4, h5, ↓reduceIte, s_skip, s_ops0, s_seq, s_cond, s_opsK, s_seqK_n, s_cnd, s_nil, s_cons, s_wopsK, s_putK, v_part_f, v_atK, o_fa, v_fa_p, o_ld, v_ld_p, v_ldC, o_st, v_st_p, v_stCK, o_call, e_t, e_k, e_put, e_get, e_res, e_keep_n, e_keep_c, e_keep1_s, List.length_nil, List.length_cons, Option.getD_some, Nat.reduceEqDiff, Nat.reduceAdd, true_and, Bool.false_eq_true, St.clr, outV, ownsV, owns1, ownL, List.map_cons, List.map_nil, PV.leaves, List.flatMap_cons, List.flatMap_nil, List.append_nil, List.cons_append, List.nil_append, List.all_cons, List.all_nil, Bool.true_and, Bool.and_self, PV.cells, cellL, fillL, Nat.reduceLeDiff, List.take_zero, List.drop_zero, List.take_succ_cons, List.drop_succ_cons, List.getElem?_cons_zero, List.getElem?_cons_succ, rl_i, ol_b, m_lf, st_s1, d_n, d_c, Nat.zero_add, Nat.add_zero]
    refine wcall_s (r50 hX k hk 16) rfl rfl ?_
    simp -implicitDefEqProofs (maxSteps := 2000000) only [c65, h1, h2, h3, h4, h5, ↓reduceIte, s_skip, s_ret, s_ops0, s_seq, s_cond, s_opsK, s_seqK_n, s_cnd, s_nil, s_cons, s_wopsK, s_putK, v_part_t, o_fa, v_fa_p, o_ld, v_ld_p, v_ldC, o_st, v_st_p, v_stCK, e_t, e_put, e_get, e_res, e_keep_n, e_keep_c, e_keep1_s, List.length_nil, List.length_cons, Option.getD_some, Nat.reduceEqDiff, Nat.reduceAdd, and_true, Bool.false_eq_true, s_ret_r, s_retX, s_cells_n, t_ag, t_ln, t_lc, t_i, t_s, r_n, r_c, r_cons, r_cell, r_part_t, one_1, St.clr, outV, ownsV, owns1, ownL, List.append_nil, List.cons_append, List.nil_append, List.all_cons, List.all_nil, Bool.and_true, Bool.and_self, PV.cells, cellL, fillL, Nat.le_refl, List.take_zero, List.drop_zero, List.take_succ_cons, List.drop_succ_cons, List.drop_nil, List.take_nil, Option.bind_some, ol_b, m_lf, st_b, d_n, d_c, Nat.zero_add]
end Go.Proofs.YthcpaohmajjopaaDoor.I
set_option linter.unusedVariables false
set_option linter.unusedSimpArgs false
namespace Go.Proofs.YthcpaohmajjopaaDoor.I
open Go Go.Proofs.YthcpaohmajjopaaDoor.AM
variable {X : Cx}
abbrev headP (c : Int) : Prop := (65 ≤ c ∧ c ≤ 90) ∨ (97 ≤ c ∧ c ≤ 122) ∨ c = 95
abbrev wordP (c : Int) : Prop := headP c ∨ (48 ≤ c ∧ c ≤ 57)
abbrev nameP (s : ByteArray) : Prop := 1 ≤ s.size ∧ s.size ≤ 32 ∧ headP (byteAt s 0) ∧ ∀ i, i < s.size → wordP (byteAt s (i : Int))
theorem or32 : ∀ n : Fin 256, (((97 ≤ bits .or .u8 (n.val : Int) 32 ∧ bits .or .u8 (n.val : Int) 32 ≤ 122 ∧ (n.val : Int) < 128) ∨ (n.val : Int) = 95) ↔ headP (n.val : Int)) := by decide +kernel
theorem or32' {c : Int} (h0 : 0 ≤ c) (h1 : c ≤ 255) : ((97 ≤ bits .or .u8 c 32 ∧ bits .or .u8 c 32 ≤ 122 ∧ c < 128) ∨ c = 95) ↔ headP c := by
  have h := or32 ⟨c.toNat, by omega⟩
  have e : ((c.toNat : Nat) : Int) = c := by omega
  simp only [e] at h
  exact h
theorem r126 (c : Int) (h0 : 0 ≤ c) (h1 : c ≤ 255) : R X Tryd.prog 126 [.lf (.int .u8 c)] [] (.lf (.bool (decide (headP c)))) [] := by
  refine R_i [] [] c126_ok rfl (by simp) ?_
  have h := or32' h0 h1
  simp -implicitDefEqProofs (maxSteps := 2000000) only [c126, ↓reduceIte, s_ret, s_ops0, s_seq, s_opsK, s_seqK_n, s_nil, s_cons, s_guard, s_wopsK, s_putK, s_grd, q_mv, q_bin, o_mv, o_as, o_pk, v_pk, o_bin, v_or, v_eql, v_lss, v_leq, v_geq, e_t, e_k, e_put, e_get, e_res, e_keep_n, e_keep_c, e_keep1_s, e_asg_b, St.init, enum, List.length_nil, Option.getD_some, Nat.reduceEqDiff, reduceCtorEq, true_and, and_true, cond_false, Bool.not_true, Bool.not_false, Bool.true_eq_false, Bool.false_eq_true, decide_eq_true_eq, decide_eq_false_iff_not, s_ret_r, s_retX, s_cells_n, t_lf, t_b, r_n, r_t, r_cons, one_1, Bool.and_true, Bool.true_and, ite_not]
  generalize bits BinOp.or IntKind.u8 c 32 = y at *
  generalize hp : decide (headP c) = r
  have e1 : ((97 ≤ y ∧ y ≤ 122 ∧ c < 128) ∨ c = 95) → true = r := fun q => by rw [← hp, decide_eq_true (h.1 q)]
  have e2 : ¬ ((97 ≤ y ∧ y ≤ 122 ∧ c < 128) ∨ c = 95) → false = r := fun q => by rw [← hp, decide_eq_false (fun z => q (h.2 z))]
  have e3 : ¬ (97 ≤ y ∧ y ≤ 122 ∧ c < 128) → decide (c = 95) = r := fun q => by
    by_cases hc : c = 95
    · rw [decide_eq_true hc]; exact e1 (.inr hc)
    · rw [decide_eq_false hc]; exact e2 (fun z => z.elim q hc)
  iterate 3 (all_goals try (with_reducible refine ite_pr (fun _ => ?_) (fun _ => ?_)))
  · exact e1 (by omega)
  all_goals exact e3 (by omega)
theorem r117 (s : ByteArray) : R X Tryd.prog 117 [.lf (.str s)] [] (.lf (.bool (decide (nameP s)))) [] := by
  refine R_i [] [] c117_ok rfl (by simp) ?_
  generalize hr : decide (nameP s) = r
  have no : ¬ nameP s → false = r := fun h => by rw [← hr, decide_eq_false h]
  have yes : nameP s → true = r := fun h => by rw [← hr, decide_eq_true h]
  have key : ∀ (n i : Nat), n + i = s.size → s.size ≤ 32 → (∀ j, j < i → wordP (byteAt s (j : Int))) → 1 ≤ s.size → headP (byteAt s 0) → LoopAt X Tryd.prog c117_11 [0, 18, 19] (blkK 0 (seqK X Tryd.prog c117_15 (retS [] [] 0 [RV.t 2] (PV.lf (L.bool r)) [])))
      { m := 0, tm := [(0, PV.lf (L.str s)), (18, PV.lf (L.int IntKind.i64 s.size)), (19, PV.lf (L.int IntKind.i64 i))], ce := [] } := by
    intro n
    induction n with
    | zero =>
      intro i hn h32 hall h1 hh Z hZ
      apply hZ
      simp -implicitDefEqProofs (maxSteps := 2000000) only [c117, ↓reduceIte, s_skip, s_exit, s_ret, s_ops0, s_seq, s_cond, s_block, s_opsK, s_seqK_n, s_seqK_e, s_blkK_e, s_loopK_e, s_cnd, s_nil, s_cons, s_wopsK, s_putK, o_mv, o_as, o_bin, v_lss, o_ixs, v_ixs, o_call, e_t, e_k, e_put, e_get, e_res, e_keep_n, e_keep_c, e_keep1_s, e_asg_b, e_asg_i, Option.getD_some, Nat.reduceEqDiff, reduceCtorEq, true_and, and_true, decide_eq_true_eq, s_ret_r, s_retX, s_cells_n, t_lf, t_b, r_n, r_t, r_cons, one_1, List.map_cons, List.map_nil, PV.leaves, List.flatMap_cons, List.flatMap_nil, List.append_nil, Bool.and_true, Bool.true_and, rl_i, m_lf]
      with_reducible refine ite_pr (fun _ => ?_) (fun _ => ?_)
      · omega
      · exact yes ⟨h1, h32, hh, fun j hj => hall j (by omega)⟩
    | succ n ih =>
      intro i hn h32 hall h1 hh Z hZ
      apply hZ
      have w3 : IntKind.i64.wrap ((i : Int) + 1) = ((i + 1 : Nat) : Int) := by rw [w64 (by omega) (by omega)]; omega
      simp -implicitDefEqProofs (maxSteps := 2000000) only [c117, w3, ↓reduceIte, s_skip, s_exit, s_ret, s_ops0, s_seq, s_cond, s_block, s_opsK, s_seqK_n, s_seqK_e, s_blkK_e, s_loopK_e, s_cnd, s_nil, s_cons, s_wopsK, s_putK, o_mv, o_as, o_bin, v_lss, o_ixs, v_ixs, o_call, e_t, e_k, e_put, e_get, e_res, e_keep_n, e_keep_c, e_keep1_s, e_asg_b, e_asg_i, Option.getD_some, Nat.reduceEqDiff, reduceCtorEq, true_and, and_true, decide_eq_true_eq, s_ret_r, s_retX, s_cells_n, t_lf, t_b, r_n, r_t, r_cons, one_1, List.map_cons, List.map_nil, PV.leaves, List.flatMap_cons, List.flatMap_nil, List.append_nil, Bool.and_true, Bool.true_and, rl_i, m_lf]
      with_reducible refine ite_pr (fun _ => ?_) (fun _ => ?_)
      rotate_left
      · omega
      refine ⟨⟨by omega, by omega⟩, ?_⟩
      refine wcall_s (r126 _ (byteAt_0 s i) (byteAt_1 s i)) rfl rfl ?_
      simp -implicitDefEqProofs (maxSteps := 2000000) only [c117, w3, ↓reduceIte, s_skip, s_ret, s_ops0, s_seq, s_cond, s_opsK, s_seqK_n, s_seqK_r, s_blkK_n, s_blkK_r, s_loopK_n, s_loopK_r, s_cnd, s_nil, s_cons, s_guard, s_wopsK, s_putK, s_grd, s_grd_no, q_mv, q_pk, q_bin, q_ixs, o_mv, o_as, o_pk, v_pk, o_bin, v_add, v_lss, v_gtr, o_un, v_not, o_ixs, v_ixs, e_t, e_k, e_put, e_get, e_res, e_keep_n, e_keep_c, e_keep1_s, e_asg_b, Option.getD_some, Nat.reduceEqDiff, reduceCtorEq, true_and, and_true, cond_false, Bool.not_true, Bool.not_false, Bool.true_eq_false, Bool.false_eq_true, decide_eq_true_eq, decide_eq_false_iff_not, s_ret_r, s_retX, s_cells_n, t_lf, t_b, r_n, r_t, r_cons, one_1, St.clr, outV, ownsV, owns1, ownL, List.append_nil, Bool.and_true, Bool.true_and, ol_b, m_lf, e_head, e_headK, kC_n, pO_n, pO_i, pO_s, List.range_zero, ite_not, Bool.not_eq_eq_eq_not]
      have bad : ¬ wordP (byteAt s (i : Int)) → false = r := fun h => no (fun q => h (q.2.2.2 i (by omega)))
      have nx := fun h : wordP (byteAt s (i : Int)) => ih (i + 1) (by omega) h32 (fun j hj => by
        rcases Nat.lt_succ_iff_lt_or_eq.1 hj with h | rfl
        · exact hall j h
        · assumption) h1 hh Z hZ
      generalize byteAt s (i : Int) = y at *
      with_reducible refine ite_pr (fun h => ?_) (fun h => ?_)
      · exact nx (.inl h)
      refine ⟨⟨by omega, by omega⟩, ?_⟩
      with_reducible refine ite_pr (fun h2 => ?_) (fun h2 => ?_)
      · exact bad (by omega)
      refine ⟨⟨by omega, by omega⟩, ?_⟩
      with_reducible refine ite_pr (fun h2 => ?_) (fun h2 => ?_)
      · exact bad (by omega)
      · exact nx (by omega)
  simp -implicitDefEqProofs (maxSteps := 2000000) only [c117, ↓reduceIte, s_ret, s_ops0, s_seq, s_cond, s_opsK, s_seqK_n, s_seqK_r, s_cnd, s_nil, s_cons, s_guard, s_wopsK, s_putK, s_grd, q_call, q_mv, q_bin, q_ixs, q_lns, o_mv, o_as, o_pk, v_pk, o_bin, v_gtr, v_seql, o_ixs, v_ixs, o_lns, v_lns, o_call, e_t, e_k, e_put, e_get, e_res, e_keep_n, e_keep_c, e_keep1_s, e_asg_b, St.init, enum, List.length_nil, Option.getD_some, Nat.reduceEqDiff, reduceCtorEq, true_and, and_true, cond_false, Bool.not_false, Bool.true_eq_false, Bool.false_eq_true, decide_eq_false_iff_not, s_ret_r, s_retX, s_cells_n, t_lf, t_b, r_n, r_t, r_cons, one_1, List.map_cons, List.map_nil, PV.leaves, List.flatMap_cons, List.flatMap_nil, List.append_nil, Bool.and_true, Bool.true_and, rl_i, m_lf, ite_not]
  with_reducible refine ite_pr (fun h => ?_) (fun h => ?_)
  · exact no (fun q => absurd q.1 (by rw [h]; decide))
  have hz : 1 ≤ s.size := by
    rcases Nat.eq_zero_or_pos s.size with h0 | h0
    · refine absurd ?_ h
      have : s.data = #[] := Array.eq_empty_of_size_eq_zero h0
      cases s; simp_all
    · exact h0
  with_reducible refine ite_pr (fun h2 => ?_) (fun h2 => ?_)
  · exact no (fun q => by have := q.2.1; omega)
  refine ⟨⟨by omega, by omega⟩, ?_⟩
  refine wcall_s (r126 _ (byteAt_0 s 0) (byteAt_1 s 0)) rfl rfl ?_
  simp -implicitDefEqProofs (maxSteps := 2000000) only [c117, ↓reduceIte, s_skip, s_ret, s_ops0, s_seq, s_cond, s_block, s_loop, s_opsK, s_seqK_n, s_seqK_r, s_cnd, s_nil, s_cons, s_guard, s_wopsK, s_putK, s_grd, q_un, o_mv, o_as, o_pk, v_pk, o_un, v_not, o_lns, v_lns, e_t, e_k, e_put, e_get, e_res, e_keep_n, e_keep_c, e_keep1_s, e_asg_b, Option.getD_some, Nat.reduceEqDiff, reduceCtorEq, true_and, and_true, cond_false, Bool.not_true, Bool.false_eq_true, decide_eq_false_iff_not, s_ret_r, s_retX, s_cells_n, t_lf, t_b, r_n, r_t, r_cons, one_1, St.clr, outV, ownsV, owns1, ownL, List.append_nil, Bool.and_true, Bool.true_and, ol_b, m_lf, e_head, e_headK, kC_n, pO_n, pO_i, pO_s, List.range_zero, ite_not, Bool.not_eq_eq_eq_not]
  with_reducible refine ite_pr (fun h3 => ?_) (fun h3 => ?_)
  · exact key s.size 0 rfl (by omega) (fun j hj => by omega) (by omega) h3
  · exact no (fun q => h3 q.2.2.1)
theorem r81 (s : ByteArray) : R X Tryd.prog 81 [.lf (.str s)] [] (.lf (.bool (decide (nameP s)))) [] := by
  refine R_i [] [] c81_ok rfl (by simp) ?_
  generalize hr : decide (nameP s) = r
  have no : ¬ nameP s → false = r := fun h => by rw [← hr, decide_eq_false h]
  have yes : nameP s → true = r := fun h => by rw [← hr, decide_eq_true h]
  have key : ∀ (n i : Nat), n + i = s.size → s.size ≤ 32 → (∀ j, j < i → wordP (byteAt s (j : Int))) → 1 ≤ s.size → ¬ (48 ≤ byteAt s 0 ∧ byteAt s 0 ≤ 57) → LoopAt X Tryd.prog c81_11 [0, 3] (blkK 0 (seqK X Tryd.prog c81_15 (retS [] [] 0 [RV.t 2] (PV.lf (L.bool r)) [])))
      { m := 0, tm := [(0, PV.lf (L.str s)), (3, PV.lf (L.int IntKind.i64 i))], ce := [] } := by
    intro n
    induction n with
    | zero =>
      intro i hn h32 hall h1 hh Z hZ
      apply hZ
      simp -implicitDefEqProofs (maxSteps := 2000000) only [c81, ↓reduceIte, s_skip, s_exit, s_ret, s_ops0, s_seq, s_cond, s_block, s_opsK, s_seqK_n, s_seqK_e, s_seqK_r, s_blkK_n, s_blkK_e, s_blkK_r, s_loopK_n, s_loopK_e, s_loopK_r, s_cnd, s_nil, s_cons, s_guard, s_wopsK, s_putK, s_grd, s_grd_no, q_mv, q_pk, q_bin, o_mv, o_as, o_pk, v_pk, o_bin, v_add, v_eql, v_lss, v_leq, v_geq, o_un, v_not, o_ixs, v_ixs, o_lns, v_lns, e_t, e_k, e_put, e_get, e_res, e_keep_n, e_keep_c, e_keep1_s, e_asg_b, e_asg_i, Option.getD_some, Nat.reduceEqDiff, reduceCtorEq, true_and, and_true, cond_false, Bool.not_true, Bool.not_false, Bool.true_eq_false, Bool.false_eq_true, decide_eq_true_eq, decide_eq_false_iff_not, s_ret_r, s_retX, s_cells_n, t_lf, t_b, r_n, r_t, r_cons, one_1, List.append_nil, Bool.and_true, Bool.true_and, e_head, e_headK, kC_n, pO_n, pO_i, pO_s, List.range_zero, ite_not, Bool.not_eq_eq_eq_not]
      with_reducible refine ite_pr (fun _ => ?_) (fun _ => ?_)
      · omega
      · refine yes ⟨h1, h32, ?_, fun j hj => hall j (by omega)⟩
        have := hall 0 (by omega)
        simp only [Int.natCast_zero] at this
        rcases this with h | h
        · exact h
        · exact absurd h hh
    | succ n ih =>
      intro i hn h32 hall h1 hh Z hZ
      apply hZ
      have w3 : IntKind.i64.wrap ((i : Int) + 1) = ((i + 1 : Nat) : Int) := by rw [w64 (by omega) (by omega)]; omega
      have bad : ¬ wordP (byteAt s (i : Int)) → false = r := fun h => no (fun q => h (q.2.2.2 i (by omega)))
      have nx := fun h : wordP (byteAt s (i : Int)) => ih (i + 1) (by omega) h32 (fun j hj => by
        rcases Nat.lt_succ_iff_lt_or_eq.1 hj with h | rfl
        · exact hall j h
        · assumption) h1 hh Z hZ
      simp -implicitDefEqProofs (maxSteps := 2000000) only [c81, w3, ↓reduceIte, s_skip, s_exit, s_ret, s_ops0, s_seq, s_cond, s_block, s_opsK, s_seqK_n, s_seqK_e, s_seqK_r, s_blkK_n, s_blkK_e, s_blkK_r, s_loopK_n, s_loopK_e, s_loopK_r, s_cnd, s_nil, s_cons, s_guard, s_wopsK, s_putK, s_grd, s_grd_no, q_mv, q_pk, q_bin, o_mv, o_as, o_pk, v_pk, o_bin, v_add, v_eql, v_lss, v_leq, v_geq, o_un, v_not, o_ixs, v_ixs, o_lns, v_lns, e_t, e_k, e_put, e_get, e_res, e_keep_n, e_keep_c, e_keep1_s, e_asg_b, e_asg_i, Option.getD_some, Nat.reduceEqDiff, reduceCtorEq, true_and, and_true, cond_false, Bool.not_true, Bool.not_false, Bool.true_eq_false, Bool.false_eq_true, decide_eq_true_eq, decide_eq_false_iff_not, s_ret_r, s_retX, s_cells_n, t_lf, t_b, r_n, r_t, r_cons, one_1, List.append_nil, Bool.and_true, Bool.true_and, e_head, e_headK, kC_n, pO_n, pO_i, pO_s, List.range_zero, ite_not, Bool.not_eq_eq_eq_not]
      generalize byteAt s (i : Int) = y at *
      with_reducible refine ite_pr (fun h => ?_) (fun h => ?_)
      rotate_left
      · omega
      refine ⟨⟨by omega, by omega⟩, ?_⟩
      iterate 9
        all_goals try (with_reducible refine ite_pr (fun _ => ?_) (fun _ => ?_))
        all_goals try (with_reducible refine And.intro (And.intro (by omega) (by omega)) ?_)
      all_goals try omega
      all_goals first
        | exact nx (by omega)
        | exact bad (by omega)
        | trace_state
  simp -implicitDefEqProofs (maxSteps := 2000000) only [c81, ↓reduceIte, s_skip, s_ret, s_ops0, s_seq, s_cond, s_block, s_loop, s_opsK, s_seqK_n, s_seqK_r, s_cnd, s_nil, s_cons, s_guard, s_wopsK, s_putK, s_grd, s_grd_no, q_mv, q_pk, q_bin, q_ixs, q_lns, o_mv, o_as, o_pk, v_pk, o_bin, v_lss, v_leq, v_gtr, v_geq, o_ixs, v_ixs, o_lns, v_lns, e_t, e_k, e_put, e_get, e_res, e_keep_n, e_keep_c, e_keep1_s, e_asg_b, e_asg_i, St.init, enum, List.length_nil, Option.getD_some, Nat.reduceEqDiff, reduceCtorEq, true_and, and_true, cond_false, Bool.not_true, Bool.not_false, Bool.true_eq_false, Bool.false_eq_true, decide_eq_true_eq, decide_eq_false_iff_not, s_ret_r, s_retX, s_cells_n, t_lf, t_b, r_n, r_t, r_cons, one_1, List.append_nil, Bool.and_true, Bool.true_and, e_head, e_headK, kC_n, pO_n, pO_i, pO_s, List.range_zero, ite_not]
  with_reducible refine ite_pr (fun h => ?_) (fun h => ?_)
  · exact no (fun q => by have := q.1; omega)
  with_reducible refine ite_pr (fun h2 => ?_) (fun h2 => ?_)
  · exact no (fun q => by have := q.2.1; omega)
  refine ⟨⟨by omega, by omega⟩, ?_⟩
  with_reducible refine ite_pr (fun h3 => ?_) (fun h3 => ?_)
  · refine ⟨⟨by omega, by omega⟩, ?_⟩
    with_reducible refine ite_pr (fun h4 => ?_) (fun h4 => ?_)
    · exact no (fun q => by have := q.2.2.1; omega)
    · exact key s.size 0 rfl (by omega) (fun j hj => by omega) (by omega) (by omega)
  · exact key s.size 0 rfl (by omega) (fun j hj => by omega) (by omega) (by omega)
end Go.Proofs.YthcpaohmajjopaaDoor.I
set_option linter.unusedVariables false
set_option linter.unusedSimpArgs false
namespace Go.Proofs.YthcpaohmajjopaaDoor.I
open Go Go.Proofs.YthcpaohmajjopaaDoor.AM
variable {X : Cx}
def tmB : List UInt8 → Bool
  | [] => true
  | c :: r => if c.toNat = 37 then match r with
      | [] => false
      | d :: r' => if d.toNat = 37 ∨ (48 ≤ d.toNat ∧ d.toNat ≤ 57) then tmB r' else false
    else tmB r
theorem drop_byte {s : ByteArray} {i : Nat} {c : UInt8} {r : List UInt8} (h : s.data.toList.drop i = c :: r) : i < s.size ∧ byteAt s (i : Int) = (c.toNat : Int) ∧ s.data.toList.drop (i + 1) = r := by
  have hl : s.data.toList.length = s.size := size_len s
  have h1 : i < s.data.toList.length := by
    have := congrArg List.length h
    simp at this; simp; omega
  refine ⟨by omega, ?_, ?_⟩
  · have := congrArg (fun l => l[0]?) h
    simp only [List.getElem?_drop, Nat.add_zero, List.getElem?_cons_zero] at this
    unfold byteAt
    rw [Int.toNat_natCast, List.getD_eq_getElem?_getD, this]; rfl
  · rw [← List.drop_drop, h]; rfl
def tempB (s : ByteArray) : Bool := decide (s.size ≤ 255) && tmB s.data.toList
theorem r118 (s : ByteArray) : R X Tryd.prog 118 [.lf (.str s)] [] (.lf (.bool (tempB s))) [] := by
  refine R_i [] [] c118_ok rfl (by simp) ?_
  generalize hr : tempB s = r
  have key : ∀ (n i : Nat) (q : List UInt8), s.data.toList.drop i = q → q.length ≤ n → s.size ≤ 255 → tmB q = r → LoopAt X Tryd.prog c118_14 [0, 3] (blkK 0 (seqK X Tryd.prog c118_18 (retS [] [] 0 [RV.t 2] (PV.lf (L.bool r)) [])))
      { m := 0, tm := [(0, PV.lf (L.str s)), (3, PV.lf (L.int IntKind.i64 i))], ce := [] } := by
    intro n
    induction n with
    | zero =>
      intro i q hq hn h255 hr Z hZ
      obtain rfl : q = [] := List.eq_nil_of_length_eq_zero (by omega)
      have hi : s.size ≤ i := by
        have := congrArg List.length hq
        simp at this; omega
      apply hZ
      simp -implicitDefEqProofs (maxSteps := 2000000) only [c118, ↓reduceIte, s_skip, s_exit, s_ret, s_ops0, s_seq, s_cond, s_block, s_opsK, s_seqK_n, s_seqK_e, s_seqK_r, s_blkK_n, s_blkK_e, s_blkK_r, s_loopK_n, s_loopK_e, s_loopK_r, s_cnd, s_nil, s_cons, s_guard, s_wopsK, s_putK, s_grd, s_grd_no, q_mv, q_pk, q_bin, q_ixs, o_mv, o_as, o_pk, v_pk, o_bin, v_add, v_eql, v_neq, v_lss, v_gtr, o_ixs, v_ixs, o_lns, v_lns, e_t, e_k, e_put, e_get, e_res, e_keep_n, e_keep_c, e_keep1_s, e_asg_b, e_asg_i, Option.getD_some, Nat.reduceEqDiff, reduceCtorEq, true_and, and_true, cond_false, Bool.not_true, Bool.not_false, Bool.true_eq_false, Bool.false_eq_true, decide_eq_true_eq, decide_eq_false_iff_not, s_ret_r, s_retX, s_cells_n, t_lf, t_b, r_n, r_t, r_cons, one_1, List.append_nil, Bool.and_true, Bool.true_and, e_head, e_headK, kC_n, pO_n, pO_i, pO_s, List.range_zero, ne_eq, ite_not]
      with_reducible refine ite_pr (fun _ => ?_) (fun _ => ?_)
      · omega
      · exact hr
    | succ n ih =>
      intro i q hq hn h255 hr Z hZ
      apply hZ
      cases q with
      | nil =>
        have hi : s.size ≤ i := by
          have := congrArg List.length hq
          simp at this; omega
        simp -implicitDefEqProofs (maxSteps := 2000000) only [c118, ↓reduceIte, s_skip, s_exit, s_ret, s_ops0, s_seq, s_cond, s_block, s_opsK, s_seqK_n, s_seqK_e, s_seqK_r, s_blkK_n, s_blkK_e, s_blkK_r, s_loopK_n, s_loopK_e, s_loopK_r, s_cnd, s_nil, s_cons, s_guard, s_wopsK, s_putK, s_grd, s_grd_no, q_mv, q_pk, q_bin, q_ixs, o_mv, o_as, o_pk, v_pk, o_bin, v_add, v_eql, v_neq, v_lss, v_gtr, o_ixs, v_ixs, o_lns, v_lns, e_t, e_k, e_put, e_get, e_res, e_keep_n, e_keep_c, e_keep1_s, e_asg_b, e_asg_i, Option.getD_some, Nat.reduceEqDiff, reduceCtorEq, true_and, and_true, cond_false, Bool.not_true, Bool.not_false, Bool.true_eq_false, Bool.false_eq_true, decide_eq_true_eq, decide_eq_false_iff_not, s_ret_r, s_retX, s_cells_n, t_lf, t_b, r_n, r_t, r_cons, one_1, List.append_nil, Bool.and_true, Bool.true_and, e_head, e_headK, kC_n, pO_n, pO_i, pO_s, List.range_zero, ne_eq, ite_not]
        with_reducible refine ite_pr (fun _ => ?_) (fun _ => ?_)
        · omega
        · exact hr
      | cons c q =>
        obtain ⟨hi, hb, hq⟩ := drop_byte hq
        simp only [List.length_cons] at hn
        have w1 : IntKind.i64.wrap ((i : Int) + 1) = ((i + 1 : Nat) : Int) := by rw [w64 (by omega) (by omega)]; omega
        have w2 : IntKind.i64.wrap (((i + 1 : Nat) : Int) + 1) = ((i + 2 : Nat) : Int) := by rw [w64 (by omega) (by omega)]; omega
        simp -implicitDefEqProofs (maxSteps := 2000000) only [c118, w1, w2, ↓reduceIte, s_skip, s_exit, s_ret, s_ops0, s_seq, s_cond, s_block, s_opsK, s_seqK_n, s_seqK_e, s_seqK_r, s_blkK_n, s_blkK_e, s_blkK_r, s_loopK_n, s_loopK_e, s_loopK_r, s_cnd, s_nil, s_cons, s_guard, s_wopsK, s_putK, s_grd, s_grd_no, q_mv, q_pk, q_bin, q_ixs, o_mv, o_as, o_pk, v_pk, o_bin, v_add, v_eql, v_neq, v_lss, v_gtr, o_ixs, v_ixs, o_lns, v_lns, e_t, e_k, e_put, e_get, e_res, e_keep_n, e_keep_c, e_keep1_s, e_asg_b, e_asg_i, Option.getD_some, Nat.reduceEqDiff, reduceCtorEq, true_and, and_true, cond_false, Bool.not_true, Bool.not_false, Bool.true_eq_false, Bool.false_eq_true, decide_eq_true_eq, decide_eq_false_iff_not, s_ret_r, s_retX, s_cells_n, t_lf, t_b, r_n, r_t, r_cons, one_1, List.append_nil, Bool.and_true, Bool.true_and, e_head, e_headK, kC_n, pO_n, pO_i, pO_s, List.range_zero, ne_eq, ite_not]
        with_reducible refine ite_pr (fun _ => ?_) (fun _ => ?_)
        rotate_left
        · omega
        refine ⟨⟨by omega, by omega⟩, ?_⟩
        have hsz : s.data.toList.length = s.size := size_len s
        with_reducible refine ite_pr (fun h37 => ?_) (fun h37 => ?_)
        · have hc : c.toNat = 37 := by omega
          cases q with
          | nil =>
            have he : s.size = i + 1 := by
              have := congrArg List.length hq
              rw [List.length_drop, hsz] at this
              simp at this; omega
            simp only [tmB, hc, if_true] at hr
            with_reducible refine ite_pr (fun _ => ?_) (fun _ => ?_)
            · exact hr
            · omega
          | cons d q =>
            obtain ⟨hi2, hb2, hq2⟩ := drop_byte hq
            simp only [tmB, hc, if_true] at hr
            simp only [List.length_cons] at hn
            have nx := fun h : d.toNat = 37 ∨ (48 ≤ d.toNat ∧ d.toNat ≤ 57) => ih (i + 2) q hq2 (by omega) h255 (by rw [if_pos h] at hr; exact hr) Z hZ
            have bad : ¬ (d.toNat = 37 ∨ (48 ≤ d.toNat ∧ d.toNat ≤ 57)) → false = r := fun h => by rw [if_neg h] at hr; exact hr
            rw [hb2]
            with_reducible refine ite_pr (fun _ => ?_) (fun _ => ?_)
            · omega
            refine ⟨⟨by omega, by omega⟩, ?_⟩
            with_reducible refine ite_pr (fun _ => ?_) (fun _ => ?_)
            · exact nx (by omega)
            refine ⟨⟨by omega, by omega⟩, ?_⟩
            with_reducible refine ite_pr (fun _ => ?_) (fun _ => ?_)
            · exact bad (by omega)
            refine ⟨⟨by omega, by omega⟩, ?_⟩
            with_reducible refine ite_pr (fun _ => ?_) (fun _ => ?_)
            · exact bad (by omega)
            · exact nx (by omega)
        · have hc : ¬ c.toNat = 37 := by omega
          refine ih (i + 1) q hq (by omega) h255 ?_ Z hZ
          rw [tmB.eq_def] at hr
          simp only [hc, if_false] at hr
          exact hr
  simp -implicitDefEqProofs (maxSteps := 2000000) only [c118, ↓reduceIte, s_skip, s_ret, s_ops0, s_seq, s_cond, s_block, s_loop, s_opsK, s_seqK_n, s_seqK_r, s_cnd, s_nil, s_cons, s_wopsK, s_putK, o_mv, o_as, o_bin, v_gtr, o_lns, v_lns, e_t, e_k, e_put, e_get, e_res, e_keep_n, e_keep_c, e_keep1_s, e_asg_b, e_asg_i, St.init, enum, List.length_nil, Option.getD_some, reduceCtorEq, true_and, and_true, decide_eq_true_eq, s_ret_r, s_retX, s_cells_n, t_lf, t_b, r_n, r_t, r_cons, one_1, List.append_nil, Bool.and_true, Bool.true_and, e_head, e_headK, kC_n, pO_n, pO_i, pO_s, List.range_zero]
  with_reducible refine ite_pr (fun h => ?_) (fun h => ?_)
  · rw [← hr, tempB, decide_eq_false (by omega)]; rfl
  · refine key s.data.toList.length 0 _ rfl (Nat.le_refl _) (by omega) ?_
    rw [← hr, tempB, decide_eq_true (by omega)]; rfl
theorem r82 (s : ByteArray) : R X Tryd.prog 82 [.lf (.str s)] [] (.lf (.bool (tempB s))) [] := by
  refine R_i [] [] c82_ok rfl (by simp) ?_
  generalize hr : tempB s = r
  have key : ∀ (n i : Nat) (q : List UInt8), s.data.toList.drop i = q → q.length ≤ n → s.size ≤ 255 → tmB q = r → LoopAt X Tryd.prog c82_14 [0, 3] (blkK 0 (seqK X Tryd.prog c82_18 (retS [] [] 0 [RV.t 2] (PV.lf (L.bool r)) [])))
      { m := 0, tm := [(0, PV.lf (L.str s)), (3, PV.lf (L.int IntKind.i64 i))], ce := [] } := by
    intro n
    induction n with
    | zero =>
      intro i q hq hn h255 hr Z hZ
      obtain rfl : q = [] := List.eq_nil_of_length_eq_zero (by omega)
      have hi : s.size ≤ i := by
        have := congrArg List.length hq
        simp at this; omega
      apply hZ
      simp -implicitDefEqProofs (maxSteps := 2000000) only [c82, ↓reduceIte, s_skip, s_exit, s_ret, s_ops0, s_seq, s_cond, s_block, s_opsK, s_seqK_n, s_seqK_e, s_seqK_r, s_blkK_n, s_blkK_e, s_blkK_r, s_loopK_n, s_loopK_e, s_loopK_r, s_cnd, s_nil, s_cons, s_guard, s_wopsK, s_putK, s_grd, s_grd_no, q_mv, q_pk, q_bin, q_ixs, o_mv, o_as, o_pk, v_pk, o_bin, v_add, v_eql, v_neq, v_lss, v_gtr, o_ixs, v_ixs, o_lns, v_lns, e_t, e_k, e_put, e_get, e_res, e_keep_n, e_keep_c, e_keep1_s, e_asg_b, e_asg_i, Option.getD_some, Nat.reduceEqDiff, reduceCtorEq, true_and, and_true, cond_false, Bool.not_true, Bool.not_false, Bool.true_eq_false, Bool.false_eq_true, decide_eq_true_eq, decide_eq_false_iff_not, s_ret_r, s_retX, s_cells_n, t_lf, t_b, r_n, r_t, r_cons, one_1, List.append_nil, Bool.and_true, Bool.true_and, e_head, e_headK, kC_n, pO_n, pO_i, pO_s, List.range_zero, ne_eq, ite_not]
      with_reducible refine ite_pr (fun _ => ?_) (fun _ => ?_)
      · omega
      · exact hr
    | succ n ih =>
      intro i q hq hn h255 hr Z hZ
      apply hZ
      cases q with
      | nil =>
        have hi : s.size ≤ i := by
          have := congrArg List.length hq
          simp at this; omega
        simp -implicitDefEqProofs (maxSteps := 2000000) only [c82, ↓reduceIte, s_skip, s_exit, s_ret, s_ops0, s_seq, s_cond, s_block, s_opsK, s_seqK_n, s_seqK_e, s_seqK_r, s_blkK_n, s_blkK_e, s_blkK_r, s_loopK_n, s_loopK_e, s_loopK_r, s_cnd, s_nil, s_cons, s_guard, s_wopsK, s_putK, s_grd, s_grd_no, q_mv, q_pk, q_bin, q_ixs, o_mv, o_as, o_pk, v_pk, o_bin, v_add, v_eql, v_neq, v_lss, v_gtr, o_ixs, v_ixs, o_lns, v_lns, e_t, e_k, e_put, e_get, e_res, e_keep_n, e_keep_c, e_keep1_s, e_asg_b, e_asg_i, Option.getD_some, Nat.reduceEqDiff, reduceCtorEq, true_and, and_true, cond_false, Bool.not_true, Bool.not_false, Bool.true_eq_false, Bool.false_eq_true, decide_eq_true_eq, decide_eq_false_iff_not, s_ret_r, s_retX, s_cells_n, t_lf, t_b, r_n, r_t, r_cons, one_1, List.append_nil, Bool.and_true, Bool.true_and, e_head, e_headK, kC_n, pO_n, pO_i, pO_s, List.range_zero, ne_eq, ite_not]
        with_reducible refine ite_pr (fun _ => ?_) (fun _ => ?_)
        · omega
        · exact hr
      | cons c q =>
        obtain ⟨hi, hb, hq⟩ := drop_byte hq
        simp only [List.length_cons] at hn
        have w1 : IntKind.i64.wrap ((i : Int) + 1) = ((i + 1 : Nat) : Int) := by rw [w64 (by omega) (by omega)]; omega
        have w2 : IntKind.i64.wrap (((i + 1 : Nat) : Int) + 1) = ((i + 2 : Nat) : Int) := by rw [w64 (by omega) (by omega)]; omega
        simp -implicitDefEqProofs (maxSteps := 2000000) only [c82, w1, w2, ↓reduceIte, s_skip, s_exit, s_ret, s_ops0, s_seq, s_cond, s_block, s_opsK, s_seqK_n, s_seqK_e, s_seqK_r, s_blkK_n, s_blkK_e, s_blkK_r, s_loopK_n, s_loopK_e, s_loopK_r, s_cnd, s_nil, s_cons, s_guard, s_wopsK, s_putK, s_grd, s_grd_no, q_mv, q_pk, q_bin, q_ixs, o_mv, o_as, o_pk, v_pk, o_bin, v_add, v_eql, v_neq, v_lss, v_gtr, o_ixs, v_ixs, o_lns, v_lns, e_t, e_k, e_put, e_get, e_res, e_keep_n, e_keep_c, e_keep1_s, e_asg_b, e_asg_i, Option.getD_some, Nat.reduceEqDiff, reduceCtorEq, true_and, and_true, cond_false, Bool.not_true, Bool.not_false, Bool.true_eq_false, Bool.false_eq_true, decide_eq_true_eq, decide_eq_false_iff_not, s_ret_r, s_retX, s_cells_n, t_lf, t_b, r_n, r_t, r_cons, one_1, List.append_nil, Bool.and_true, Bool.true_and, e_head, e_headK, kC_n, pO_n, pO_i, pO_s, List.range_zero, ne_eq, ite_not]
        with_reducible refine ite_pr (fun _ => ?_) (fun _ => ?_)
        rotate_left
        · omega
        refine ⟨⟨by omega, by omega⟩, ?_⟩
        have hsz : s.data.toList.length = s.size := size_len s
        with_reducible refine ite_pr (fun h37 => ?_) (fun h37 => ?_)
        · have hc : c.toNat = 37 := by omega
          cases q with
          | nil =>
            have he : s.size = i + 1 := by
              have := congrArg List.length hq
              rw [List.length_drop, hsz] at this
              simp at this; omega
            simp only [tmB, hc, if_true] at hr
            with_reducible refine ite_pr (fun _ => ?_) (fun _ => ?_)
            · exact hr
            · omega
          | cons d q =>
            obtain ⟨hi2, hb2, hq2⟩ := drop_byte hq
            simp only [tmB, hc, if_true] at hr
            simp only [List.length_cons] at hn
            have nx := fun h : d.toNat = 37 ∨ (48 ≤ d.toNat ∧ d.toNat ≤ 57) => ih (i + 2) q hq2 (by omega) h255 (by rw [if_pos h] at hr; exact hr) Z hZ
            have bad : ¬ (d.toNat = 37 ∨ (48 ≤ d.toNat ∧ d.toNat ≤ 57)) → false = r := fun h => by rw [if_neg h] at hr; exact hr
            rw [hb2]
            with_reducible refine ite_pr (fun _ => ?_) (fun _ => ?_)
            · omega
            refine ⟨⟨by omega, by omega⟩, ?_⟩
            with_reducible refine ite_pr (fun _ => ?_) (fun _ => ?_)
            · exact nx (by omega)
            refine ⟨⟨by omega, by omega⟩, ?_⟩
            with_reducible refine ite_pr (fun _ => ?_) (fun _ => ?_)
            · exact bad (by omega)
            refine ⟨⟨by omega, by omega⟩, ?_⟩
            with_reducible refine ite_pr (fun _ => ?_) (fun _ => ?_)
            · exact bad (by omega)
            · exact nx (by omega)
        · have hc : ¬ c.toNat = 37 := by omega
          refine ih (i + 1) q hq (by omega) h255 ?_ Z hZ
          rw [tmB.eq_def] at hr
          simp only [hc, if_false] at hr
          exact hr
  simp -implicitDefEqProofs (maxSteps := 2000000) only [c82, ↓reduceIte, s_skip, s_ret, s_ops0, s_seq, s_cond, s_block, s_loop, s_opsK, s_seqK_n, s_seqK_r, s_cnd, s_nil, s_cons, s_wopsK, s_putK, o_mv, o_as, o_bin, v_gtr, o_lns, v_lns, e_t, e_k, e_put, e_get, e_res, e_keep_n, e_keep_c, e_keep1_s, e_asg_b, e_asg_i, St.init, enum, List.length_nil, Option.getD_some, reduceCtorEq, true_and, and_true, decide_eq_true_eq, s_ret_r, s_retX, s_cells_n, t_lf, t_b, r_n, r_t, r_cons, one_1, List.append_nil, Bool.and_true, Bool.true_and, e_head, e_headK, kC_n, pO_n, pO_i, pO_s, List.range_zero]
  with_reducible refine ite_pr (fun h => ?_) (fun h => ?_)
  · rw [← hr, tempB, decide_eq_false (by omega)]; rfl
  · refine key s.data.toList.length 0 _ rfl (Nat.le_refl _) (by omega) ?_
    rw [← hr, tempB, decide_eq_true (by omega)]; rfl
end Go.Proofs.YthcpaohmajjopaaDoor.I
set_option linter.unusedVariables false
set_option linter.unusedSimpArgs false
namespace Go.Proofs.YthcpaohmajjopaaDoor.I
open Go Go.Proofs.YthcpaohmajjopaaDoor.AM
variable {X : Cx}
theorem r116 (op : Int) : R X Tryd.prog 116 [.lf (.int .i64 op)] [] (.lf (.bool (decide ((14 ≤ op ∧ op ≤ 16) ∨ op = 23)))) [] := by
  refine R_i [] [] c116_ok rfl (by simp) ?_
  simp -implicitDefEqProofs (maxSteps := 2000000) only [c116, ↓reduceIte, s_ret, s_ops0, s_seq, s_opsK, s_seqK_n, s_nil, s_cons, s_guard, s_wopsK, s_putK, s_grd, q_mv, q_bin, o_mv, o_as, o_pk, v_pk, o_bin, v_eql, v_leq, v_geq, e_t, e_k, e_put, e_get, e_res, e_keep_n, e_keep_c, e_keep1_s, e_asg_b, St.init, enum, List.length_nil, Option.getD_some, Nat.reduceEqDiff, reduceCtorEq, true_and, and_true, cond_false, Bool.not_true, Bool.not_false, Bool.true_eq_false, Bool.false_eq_true, decide_eq_true_eq, decide_eq_false_iff_not, s_ret_r, s_retX, s_cells_n, t_lf, t_b, r_n, r_t, r_cons, one_1, Bool.and_true, Bool.true_and, ite_not]
  iterate 2 (all_goals try (with_reducible refine ite_pr (fun _ => ?_) (fun _ => ?_)))
  all_goals first
    | (rw [decide_eq_decide]; omega)
    | (symm; rw [decide_eq_true_eq]; omega)
theorem r100 (op : Int) (h : 18 ≤ op ∧ op ≤ 23) : R X Tryd.prog 100 [.lf (.int .i64 op)] [] (.lf (.int .i64 1)) [] := by
  refine R_i [] [] c100_ok rfl (by simp) ?_
  simp -implicitDefEqProofs (maxSteps := 2000000) only [c100, ↓reduceIte, s_skip, s_ret, s_ops0, s_seq, s_cond, s_block, s_opsK, s_seqK_n, s_seqK_r, s_blkK_n, s_blkK_r, s_cnd, s_nil, s_cons, s_guard, s_wopsK, s_putK, s_grd, q_mv, q_bin, o_mv, o_as, o_pk, v_pk, o_bin, v_eql, v_leq, v_gtr, v_geq, e_t, e_k, e_put, e_get, e_res, e_keep_n, e_keep_c, e_keep1_s, e_asg_b, e_asg_i, St.init, enum, List.length_nil, Option.getD_some, Nat.reduceEqDiff, reduceCtorEq, true_and, and_true, cond_false, Bool.not_true, Bool.not_false, Bool.true_eq_false, Bool.false_eq_true, decide_eq_true_eq, decide_eq_false_iff_not, s_ret_r, s_retX, s_cells_n, t_lf, t_i, r_n, r_t, r_cons, one_1, Bool.and_true, Bool.true_and, Int.reduceNeg, ite_not]
  (repeat' split) <;> first | trivial | omega
theorem r100' : R X Tryd.prog 100 [.lf (.int .i64 3)] [] (.lf (.int .i64 0)) [] := by
  refine R_i [] [] c100_ok rfl (by simp) ?_
  simp -implicitDefEqProofs (maxSteps := 2000000) only [c100, ↓reduceIte, s_skip, s_ret, s_ops0, s_seq, s_cond, s_block, s_opsK, s_seqK_n, s_seqK_r, s_blkK_n, s_blkK_r, s_cnd, s_nil, s_cons, s_guard, s_wopsK, s_putK, s_grd, q_mv, q_bin, o_mv, o_as, o_pk, v_pk, o_bin, v_eql, v_leq, v_gtr, v_geq, e_t, e_k, e_put, e_get, e_res, e_keep_n, e_keep_c, e_keep1_s, e_asg_b, e_asg_i, St.init, enum, List.length_nil, Option.getD_some, Nat.reduceEqDiff, reduceCtorEq, true_and, and_true, cond_false, Bool.not_true, Bool.not_false, Bool.true_eq_false, Bool.false_eq_true, decide_eq_true_eq, decide_eq_false_iff_not, s_ret_r, s_retX, s_cells_n, t_lf, t_i, r_n, r_t, r_cons, one_1, Bool.and_true, Bool.true_and, Int.reduceNeg, ite_not]
  decide
def fldB (op n : Int) (t : ByteArray) : Bool := decide (0 ≤ n ∧ n ≤ 50 ∧ (n = 0 ∨ op = 23)) && (if op = 19 then decide (t = ⟨#[]⟩) || decide (nameP t) else if op = 22 then tempB t else decide (t = ⟨#[]⟩))
theorem r101 (op n : Int) (t : ByteArray) (ho : op = 3 ∨ (18 ≤ op ∧ op ≤ 23)) : R X Tryd.prog 101 [.ag [.int .i64 op, .int .i64 n, .str t, .int .u64 0, .int .u64 0, .int .u64 0, .int .u64 0]] [] (.lf (.bool (fldB op n t))) [] := by
  refine R_i [] [] c101_ok rfl (by simp) ?_
  have he : eqLs [.int .u64 0, .int .u64 0, .int .u64 0, .int .u64 0] [.int .u64 0, .int .u64 0, .int .u64 0, .int .u64 0] = some true := rfl
  have hb := fun neg ks K => v_beq (neg := neg) (ks := ks) (K := K) he
  generalize hr : fldB op n t = r
  have no : ¬ (0 ≤ n ∧ n ≤ 50 ∧ (n = 0 ∨ op = 23)) → false = r := fun h => by rw [← hr, fldB, decide_eq_false h]; rfl
  have yes : (0 ≤ n ∧ n ≤ 50 ∧ (n = 0 ∨ op = 23)) → (if op = 19 then decide (t = ⟨#[]⟩) || decide (nameP t) else if op = 22 then tempB t else decide (t = ⟨#[]⟩)) = r := fun h => by rw [← hr, fldB, decide_eq_true h]; rfl
  clear hr
  simp -implicitDefEqProofs (maxSteps := 2000000) only [c101, hb, ↓reduceIte, s_skip, s_ret, s_ops0, s_seq, s_cond, s_block, s_opsK, s_seqK_n, s_seqK_r, s_blkK_n, s_blkK_r, s_cnd, s_nil, s_cons, s_guard, s_wopsK, s_putK, s_grd, s_grd_no, q_call, q_mv, q_pk, q_bin, q_beq, q_fa, q_ld, q_bd, q_lns, o_mv, o_as, o_pk, v_pk, o_bin, v_eql, v_neq, v_lss, v_leq, v_gtr, v_seql, v_sneq, o_beq, v_part_t, v_part_f, v_atK, o_bx, o_fa, v_fa_p, o_ld, v_ld_p, v_ldC, o_bd, v_agK, v_bd_n, o_lns, v_lns, o_call, e_t, e_k, e_put, e_get, e_res, e_keep_n, e_keep_c, e_keep1_s, e_asg_b, St.init, enum, List.length_nil, List.length_cons, Option.getD_some, Nat.reduceEqDiff, Nat.reduceAdd, true_and, and_true, cond_false, Bool.not_true, Bool.not_false, Bool.true_eq_false, Bool.false_eq_true, decide_eq_true_eq, decide_eq_false_iff_not, s_ret_r, s_retX, s_cells_n, t_lf, t_b, r_n, r_t, r_cons, one_1, List.map_cons, List.map_nil, PV.leaves, List.flatMap_cons, List.flatMap_nil, List.append_nil, Bool.and_true, Bool.true_and, Nat.zero_le, Nat.le_refl, List.drop_zero, List.take_succ_cons, List.drop_succ_cons, List.take_nil, List.getElem?_cons_zero, List.getElem?_cons_succ, kc_i, kc_s, rl_i, rl_s, m_lf, m_ag, m_n, m_c, m_all, d_n, ne_eq, Nat.zero_add, Nat.add_zero, kd_i, ite_not, v_bx_a]
  clear hb he
  iterate 4 (all_goals try (with_reducible refine ite_pr (fun _ => ?_) (fun _ => ?_)); all_goals try omega)
  all_goals try exact no (by omega)
  all_goals try (refine wcall_s (r116 op) rfl rfl ?_; simp -implicitDefEqProofs (maxSteps := 2000000) only [c101, ↓reduceIte, s_skip, s_ret, s_ops0, s_seq, s_cond, s_block, s_opsK, s_seqK_n, s_seqK_r, s_blkK_n, s_blkK_r, s_cnd, s_nil, s_cons, s_guard, s_wopsK, s_putK, s_grd, q_call, q_pk, q_bin, q_un, q_fa, q_ld, q_lns, o_mv, o_as, o_pk, v_pk, o_bin, v_eql, v_leq, v_seql, v_sneq, o_un, v_not, v_part_f, v_atK, o_fa, v_fa_p, o_ld, v_ld_p, v_ldC, o_lns, v_lns, o_call, e_t, e_k, e_put, e_get, e_res, e_keep_n, e_keep_c, e_keep1_s, e_asg_b, Option.getD_some, Nat.reduceEqDiff, true_and, and_true, cond_false, Bool.not_true, Bool.not_false, Bool.true_eq_false, Bool.false_eq_true, decide_eq_true_eq, decide_eq_false_iff_not, s_ret_r, s_retX, s_cells_n, t_lf, t_b, r_n, r_t, r_cons, one_1, St.clr, outV, ownsV, owns1, ownL, List.map_cons, List.map_nil, PV.leaves, List.flatMap_cons, List.flatMap_nil, List.append_nil, Bool.and_true, Bool.true_and, List.getElem?_cons_zero, List.getElem?_cons_succ, rl_s, ol_b, m_lf, ne_eq, Nat.zero_add, Nat.add_zero, ite_not, Bool.not_eq_eq_eq_not])
  iterate 6 (all_goals try (with_reducible refine ite_pr (fun _ => ?_) (fun _ => ?_)); all_goals try omega)
  all_goals try exact no (by omega)
  all_goals (have y := yes (by omega); clear yes no ho)
  all_goals try (refine wcall_s (r117 t) rfl rfl ?_; simp -implicitDefEqProofs (maxSteps := 2000000) only [c101, ↓reduceIte, s_ret, s_opsK, s_seqK_n, s_seqK_r, s_blkK_r, s_nil, s_cons, s_wopsK, s_putK, o_as, o_pk, v_pk, e_t, e_k, e_put, e_get, e_res, e_keep_n, e_keep_c, e_keep1_s, e_asg_b, Option.getD_some, Nat.reduceEqDiff, true_and, and_true, Bool.false_eq_true, s_ret_r, s_retX, s_cells_n, t_lf, t_b, r_n, r_t, r_cons, one_1, St.clr, outV, ownsV, owns1, ownL, Bool.and_true, Bool.true_and, ol_b, m_lf])
  all_goals try (refine wcall_s (r118 t) rfl rfl ?_; simp -implicitDefEqProofs (maxSteps := 2000000) only [c101, ↓reduceIte, s_ret, s_opsK, s_seqK_n, s_seqK_r, s_blkK_r, s_nil, s_cons, s_wopsK, o_as, e_t, e_put, e_get, e_res, e_keep_n, e_keep_c, e_keep1_s, e_asg_b, Option.getD_some, true_and, and_true, Bool.false_eq_true, s_ret_r, s_retX, s_cells_n, t_lf, t_b, r_n, r_t, r_cons, one_1, St.clr, outV, ownsV, owns1, ownL, Bool.and_true, Bool.true_and, ol_b, m_lf])
  all_goals simp_all
end Go.Proofs.YthcpaohmajjopaaDoor.I
set_option linter.unusedVariables false
set_option linter.unusedSimpArgs false
namespace Go.Proofs.YthcpaohmajjopaaDoor.I
open Go Go.Proofs.YthcpaohmajjopaaDoor.AM
variable {X : Cx}
theorem v_ms {σ : St} {t e n bytes : Nat} {zero : List L} {k k' : IntKind} {l c : Int} {K : St → Prop} : msK σ t e n bytes zero (.lf (.int k l)) (.lf (.int k' c)) K =
    (zero.length = n ∧ (0 ≤ l ∧ l ≤ c ∧ c * bytes ≤ 140737488355328 ∧ c ≤ 9223372036854775807) ∧ K ((σ.mapAll (killP (plT t 0))).put (some t) (.lf (.lst (.own (plT t 0) e) n (List.replicate l.toNat zero) (List.replicate (c - l).toNat zero))))) := rfl
theorem rep0 {z : List L} : List.replicate (0 : Int).toNat z = [] := rfl
theorem rep1 {z : List L} : List.replicate (((1 : Nat) : Int) - 0).toNat z = [z] := rfl
theorem rep2 {z : List L} : List.replicate (((2 : Nat) : Int) - 0).toNat z = [z, z] := rfl
abbrev nodeL (op n : Int) (t : ByteArray) : List L := [.int .i64 op, .int .i64 n, .str t, .int .u64 0, .int .u64 0, .int .u64 0, .int .u64 0]
theorem f3 : fldB 3 0 ⟨#[]⟩ = true := by decide +kernel
theorem r120 (a b c : Int) : R X Tryd.prog 120 [.lf (.int .i64 a), .ag [.int .i64 b, .int .i64 c]] [] (.tp []) [] := by
  refine R_i [] [] c120_ok rfl (by simp) ?_
  simp -implicitDefEqProofs (maxSteps := 2000000) only [c120, ↓reduceIte, s_ops0, s_opsK, s_nil, s_cons, s_wopsK, o_bx, e_t, e_get, e_res, e_keep_n, St.init, enum, List.length_nil, Option.getD_some, reduceCtorEq, and_true, s_ret_n, s_retX, s_cells_n, t_tp, t_n, r_n, List.map_cons, List.map_nil, Bool.and_true, Nat.zero_le, kc_i, m_lf, m_ag, m_n, m_c, m_all, d_n, Nat.zero_add, one_0, v_bx_a]
  trace_state
theorem wr0 : IntKind.i64.wrap 0 = 0 := by decide
theorem wr1 : IntKind.i64.wrap 1 = 1 := by decide
theorem wr2 : IntKind.i64.wrap 2 = 2 := by decide
theorem r119a (sp : List (List L)) : R X Tryd.prog 119 [.lf (.lst .ro 7 [nodeL 3 0 ⟨#[]⟩] sp), .lf (.fn 120 [] [])] [] (.tp [.lf (.int .i64 0), .lf (.int .i64 0)]) [] := by
  refine R_i [] [] c119_ok rfl (by simp) ?_
  have c1 : ((1 : Nat) : Int) = 1 := rfl
  have c2 : ((2 : Nat) : Int) = 2 := rfl
  have h101 := r101 (X := X) 3 0 ⟨#[]⟩ (by omega)
  rw [f3] at h101
  simp only [nodeL]
  simp -implicitDefEqProofs (maxSteps := 2000000) only [c119, v_ms, rep0, rep1, rep2, c1, c2, wr0, wr1, wr2, v_ld_e, Int.reduceToNat, List.getD_cons_zero, List.getD_cons_succ, Int.reduceLT, Int.reduceLE, Int.reduceAdd, Int.reduceSub, Nat.reduceLT, Int.reduceEq, decide_true, decide_false, ↓reduceIte, s_ops0, s_seq, s_block, s_loop, s_opsK, s_seqK_n, s_nil, s_cons, s_wopsK, s_putK, o_mv, o_as, o_ms, o_len, v_len, e_t, e_k, e_put, e_get, e_res, e_keep_n, e_keep_c, e_keep1_s, e_asg_i, St.init, enum, List.length_nil, List.length_cons, Option.getD_some, Nat.reduceEqDiff, Nat.reduceAdd, reduceCtorEq, true_and, and_true, Bool.false_eq_true, List.append_nil, Bool.and_true, Bool.true_and, Nat.reduceMul, Nat.reduceBEq, Nat.reduceLeDiff, BEq.rfl, Nat.reduceSub, kp_i, rk_i, kp_lro, rk_lro, rk_lo, m_lf, m_n, m_c, m_all, e_asg_o, e_head, e_headK, kC_n, pO_n, pO_i, pO_l, List.range_zero, plT, List.reduceReplicate, Nat.zero_add, Nat.add_zero, forall_const, kp_fn, rk_fn, pO_fn]
  refine ⟨by omega, ?_⟩
  intro Z hZ
  apply hZ
  simp -implicitDefEqProofs (maxSteps := 2000000) only [c119, v_ms, rep0, rep1, rep2, c1, c2, wr0, wr1, wr2, v_ld_e, Int.reduceToNat, List.getD_cons_zero, List.getD_cons_succ, Int.reduceLT, Int.reduceLE, Int.reduceAdd, Int.reduceSub, Nat.reduceLT, Int.reduceEq, decide_true, decide_false, ↓reduceIte, s_skip, s_ops0, s_seq, s_cond, s_block, s_opsK, s_seqK_n, s_cnd, s_nil, s_cons, s_wopsK, s_putK, o_mv, o_as, o_bin, v_lss, v_part_t, v_part_f, v_atK, o_al, o_fa, v_fa_p, o_ia, v_ia, o_ld, v_ld_p, v_ldC, o_st, v_st_p, v_stCK, o_call, e_t, e_put, e_get, e_res, e_keep_n, e_keep_c, e_keep1_s, e_asg_i, List.length_nil, List.length_cons, Option.getD_some, Nat.reduceEqDiff, Nat.reduceAdd, reduceCtorEq, true_and, and_true, Bool.false_eq_true, List.map_cons, List.map_nil, List.any_nil, Bool.or_self, PV.leaves, List.flatMap_cons, List.flatMap_nil, List.append_nil, List.nil_append, List.all_cons, List.all_nil, Bool.and_true, Bool.true_and, Bool.and_self, PV.cells, cellL, fillL, Nat.zero_le, Nat.le_refl, List.take_zero, List.drop_zero, List.take_succ_cons, List.drop_succ_cons, List.drop_nil, List.take_nil, List.getElem?_cons_zero, kc_b, kc_i, kc_s, rl_i, kc_l, m_lf, m_ag, m_n, m_c, m_all, st_b, d_n, d_c, Nat.reduceLT, Nat.lt_add_one, Nat.zero_add, Nat.add_zero, kc_fn, kc_er]
  refine wcall_s r100' rfl rfl ?_
  simp -implicitDefEqProofs (maxSteps := 2000000) only [c119, v_ms, rep0, rep1, rep2, c1, c2, wr0, wr1, wr2, v_ld_e, Int.reduceToNat, List.getD_cons_zero, List.getD_cons_succ, Int.reduceLT, Int.reduceLE, Int.reduceAdd, Int.reduceSub, Nat.reduceLT, Int.reduceEq, decide_true, decide_false, ↓reduceIte, s_skip, s_ops0, s_seq, s_cond, s_opsK, s_seqK_n, s_cnd, s_nil, s_cons, s_wopsK, s_putK, o_mv, o_as, o_bin, v_lss, v_part_t, o_ld, v_ld_p, v_ldC, o_call, e_t, e_k, e_put, e_get, e_res, e_keep_n, e_keep_c, e_keep1_s, e_asg_i, List.length_nil, List.length_cons, Option.getD_some, Nat.reduceEqDiff, Nat.reduceAdd, reduceCtorEq, true_and, Bool.false_eq_true, St.clr, outV, ownsV, owns1, ownL, List.map_cons, List.map_nil, PV.leaves, List.flatMap_cons, List.flatMap_nil, List.append_nil, Bool.true_and, Nat.le_refl, List.drop_zero, List.take_succ_cons, List.take_nil, rl_i, rl_s, ol_i, m_lf, m_ag, Nat.reduceLT, Nat.zero_add]
  refine wcall_s h101 rfl rfl ?_
  simp -implicitDefEqProofs (maxSteps := 2000000) only [c119, v_ms, rep0, rep1, rep2, c1, c2, wr0, wr1, wr2, v_ld_e, Int.reduceToNat, List.getD_cons_zero, List.getD_cons_succ, Int.reduceLT, Int.reduceLE, Int.reduceAdd, Int.reduceSub, Nat.reduceLT, Int.reduceEq, decide_true, decide_false, ↓reduceIte, s_skip, s_ops0, s_seq, s_cond, s_block, s_loop, s_opsK, s_seqK_n, s_cnd, s_nil, s_cons, s_wopsK, s_putK, o_mv, o_un, v_not, o_al, o_st, v_st_p, v_stCK, o_bd, v_agK, v_bd_n, v_bd_c, e_t, e_k, e_put, e_get, e_res, e_keep_n, e_keep_c, e_keep1_s, List.length_nil, List.length_cons, Option.getD_some, Nat.reduceEqDiff, Nat.reduceAdd, reduceCtorEq, true_and, Bool.not_true, Bool.false_eq_true, St.clr, outV, ownsV, owns1, ownL, List.map_cons, List.map_nil, List.any_nil, Bool.or_self, List.append_nil, List.cons_append, List.nil_append, List.all_cons, List.all_nil, Bool.true_and, Bool.and_self, PV.cells, cellL, fillL, Nat.reduceBEq, Nat.reduceLeDiff, Nat.zero_le, Nat.le_refl, List.take_zero, List.drop_zero, List.drop_succ_cons, List.drop_nil, kc_b, kc_i, kc_s, ol_b, kc_p, kc_l, m_lf, m_ag, m_n, m_c, m_all, e_head, e_headK, kC_n, kC_c, pO_n, pO_p, pO_i, pO_l, st_b, d_n, d_c, List.range_zero, ne_eq, not_false_eq_true, Nat.zero_add, kc_fn, pO_fn]
  intro Z2 hZ2
  apply hZ2
  simp -implicitDefEqProofs (maxSteps := 2000000) only [c119, v_ms, rep0, rep1, rep2, c1, c2, wr0, wr1, wr2, v_ld_e, Int.reduceToNat, List.getD_cons_zero, List.getD_cons_succ, Int.reduceLT, Int.reduceLE, Int.reduceAdd, Int.reduceSub, Nat.reduceLT, Int.reduceEq, decide_true, decide_false, ↓reduceIte, s_skip, s_exit, s_ops0, s_seq, s_cond, s_opsK, s_seqK_n, s_seqK_e, s_blkK_e, s_loopK_e, s_cnd, s_nil, s_cons, s_wopsK, s_putK, o_mv, o_as, o_bin, v_add, v_lss, v_gtr, v_part_t, v_part_f, v_atK, o_fa, v_fa_p, o_ld, v_ld_p, v_ldC, o_st, v_st_p, v_stCK, o_bs, v_bsK, v_lit_n, v_lit_c, o_app, v_app_o, e_t, e_k, e_put, e_get, e_res, e_keep_n, e_keep_c, e_keep1_s, List.length_nil, List.length_cons, Option.getD_some, Nat.reduceEqDiff, Nat.reduceAdd, reduceCtorEq, true_and, Bool.false_eq_true, List.map_cons, List.map_nil, Bool.or_false, PV.leaves, List.flatMap_cons, List.flatMap_nil, List.append_nil, List.cons_append, List.nil_append, List.all_cons, List.all_nil, Bool.true_and, Bool.and_self, PV.cells, cellL, datL, fillL, Nat.reduceMul, Nat.reduceBEq, Nat.reduceLeDiff, Nat.le_refl, BEq.rfl, List.take_zero, List.drop_zero, List.take_succ_cons, List.drop_succ_cons, List.drop_nil, List.take_nil, List.getElem?_cons_zero, List.getElem?_cons_succ, kp_b, kp_i, kp_s, kp_u, rk_b, rk_i, rk_s, rk_u, rl_i, kp_p, kp_lro, rk_p, rk_lro, kp_lo, rk_lo, m_lf, m_ag, m_n, m_c, m_all, e_asg_o, st_i1, d_n, d_c, dw_n, dw_i, plT, lit_n, lit_c, List.reduceReplicate, List.set_cons_zero, Nat.reduceLT, Nat.lt_add_one, Nat.zero_add, Nat.add_zero, or_false, kp_fn, rk_fn, o_cald]
  refine wcald_i (by kernel_rfl) rfl (r120 0 0 1) rfl ?_
  simp -implicitDefEqProofs (maxSteps := 2000000) only [c119, v_ms, rep0, rep1, rep2, c1, c2, wr0, wr1, wr2, v_ld_e, Int.reduceToNat, List.getD_cons_zero, List.getD_cons_succ, Int.reduceLT, Int.reduceLE, Int.reduceAdd, Int.reduceSub, Nat.reduceLT, Int.reduceEq, decide_true, decide_false, ↓reduceIte, s_ops0, s_opsK, s_seqK_n, s_blkK_n, s_loopK_n, s_nil, s_cons, s_wopsK, s_putK, o_mv, o_bin, v_add, e_t, e_k, e_put, e_get, e_res, e_keep_n, e_keep_c, e_keep1_s, Option.getD_some, Nat.reduceEqDiff, Nat.reduceAdd, reduceCtorEq, Bool.false_eq_true, St.clr, outV, ownsV, List.map_nil, List.any_nil, List.append_nil, m_tp, e_head, e_headK, kC_n, pO_n, pO_i, pO_l, dw_n, dw_i, List.range_zero, pO_fn]
  apply hZ
  simp -implicitDefEqProofs (maxSteps := 2000000) only [c119, v_ms, rep0, rep1, rep2, c1, c2, wr0, wr1, wr2, v_ld_e, Int.reduceToNat, List.getD_cons_zero, List.getD_cons_succ, Int.reduceLT, Int.reduceLE, Int.reduceAdd, Int.reduceSub, Nat.reduceLT, Int.reduceEq, decide_true, decide_false, ↓reduceIte, s_skip, s_exit, s_ret, s_ops0, s_seq, s_cond, s_opsK, s_seqK_n, s_seqK_e, s_seqK_r, s_blkK_e, s_loopK_e, s_cnd, s_nil, s_cons, s_guard, s_wopsK, s_putK, s_grd, q_mv, q_bin, q_fa, q_ia, q_ld, q_len, o_mv, o_as, o_pk, v_pk, o_bin, v_sub, v_eql, v_neq, v_lss, v_part_f, v_atK, o_fa, v_fa_e, o_ia, v_ia, o_ld, o_len, v_len, e_t, e_k, e_put, e_get, e_res, e_keep_n, e_keep_c, e_keep1_s, e_asg_i, List.length_nil, List.length_cons, Option.getD_some, Nat.reduceEqDiff, reduceCtorEq, true_and, and_true, cond_false, Bool.false_eq_true, decide_eq_true_eq, s_ret_r, s_retX, s_cells_n, t_tp, t_n, t_c, t_1l, t_i, r_n, r_t, r_cons, one_2, Bool.and_true, Bool.true_and, Nat.reduceLeDiff, List.getElem?_cons_zero, Nat.reduceSub, ne_eq, Nat.reduceLT, Nat.lt_add_one, Nat.zero_add, Nat.add_zero, implies_true, forall_const, ite_not]
theorem mx : max (0 : Int) 1 = 1 := by decide
theorem fn120 : fnOK Tryd.prog 120 = true := by kernel_rfl
theorem r119b (op n : Int) (t : ByteArray) (ho : 18 ≤ op ∧ op ≤ 23) (hf : fldB op n t = true) (sp : List (List L)) : R X Tryd.prog 119 [.lf (.lst .ro 7 [nodeL 3 0 ⟨#[]⟩, nodeL op n t] sp), .lf (.fn 120 [] [])] [] (.tp [.lf (.int .i64 0), .lf (.int .i64 0)]) [] := by
  refine R_i [] [] c119_ok rfl (by simp) ?_
  have c1 : ((1 : Nat) : Int) = 1 := rfl
  have c2 : ((2 : Nat) : Int) = 2 := rfl
  have h101 := r101 (X := X) 3 0 ⟨#[]⟩ (by omega)
  rw [f3] at h101
  have h101' := r101 (X := X) op n t (by omega)
  rw [hf] at h101'
  simp only [nodeL]
  simp -implicitDefEqProofs (maxSteps := 2000000) only [c119, v_ms, rep0, rep1, rep2, c1, c2, wr0, wr1, wr2, v_ld_e, Int.reduceToNat, List.getD_cons_zero, List.getD_cons_succ, Int.reduceLT, Int.reduceLE, Int.reduceAdd, Int.reduceSub, Nat.reduceLT, Int.reduceEq, decide_true, decide_false, ↓reduceIte, s_ops0, s_seq, s_block, s_loop, s_opsK, s_seqK_n, s_nil, s_cons, s_wopsK, s_putK, o_mv, o_as, o_ms, o_len, v_len, e_t, e_k, e_put, e_get, e_res, e_keep_n, e_keep_c, e_keep1_s, e_asg_i, St.init, enum, List.length_nil, List.length_cons, Option.getD_some, Nat.reduceEqDiff, Nat.reduceAdd, reduceCtorEq, true_and, and_true, Bool.false_eq_true, List.append_nil, Bool.and_true, Bool.true_and, Nat.reduceMul, Nat.reduceBEq, Nat.reduceLeDiff, BEq.rfl, Nat.reduceSub, kp_i, rk_i, kp_lro, rk_lro, rk_lo, m_lf, m_n, m_c, m_all, e_asg_o, e_head, e_headK, kC_n, pO_n, pO_i, pO_l, List.range_zero, plT, List.reduceReplicate, Nat.zero_add, Nat.add_zero, forall_const, kp_fn, rk_fn, pO_fn]
  refine ⟨by omega, ?_⟩
  intro Z hZ
  apply hZ
  simp -implicitDefEqProofs (maxSteps := 2000000) only [c119, v_ms, rep0, rep1, rep2, c1, c2, wr0, wr1, wr2, v_ld_e, Int.reduceToNat, List.getD_cons_zero, List.getD_cons_succ, Int.reduceLT, Int.reduceLE, Int.reduceAdd, Int.reduceSub, Nat.reduceLT, Int.reduceEq, decide_true, decide_false, ↓reduceIte, s_skip, s_ops0, s_seq, s_cond, s_block, s_opsK, s_seqK_n, s_cnd, s_nil, s_cons, s_wopsK, s_putK, o_mv, o_as, o_bin, v_lss, v_part_t, v_part_f, v_atK, o_al, o_fa, v_fa_p, o_ia, v_ia, o_ld, v_ld_p, v_ldC, o_st, v_st_p, v_stCK, o_call, e_t, e_put, e_get, e_res, e_keep_n, e_keep_c, e_keep1_s, e_asg_i, List.length_nil, List.length_cons, Option.getD_some, Nat.reduceEqDiff, Nat.reduceAdd, reduceCtorEq, true_and, and_true, Bool.false_eq_true, List.map_cons, List.map_nil, List.any_nil, Bool.or_self, PV.leaves, List.flatMap_cons, List.flatMap_nil, List.append_nil, List.nil_append, List.all_cons, List.all_nil, Bool.and_true, Bool.true_and, Bool.and_self, PV.cells, cellL, fillL, Nat.zero_le, Nat.le_refl, List.take_zero, List.drop_zero, List.take_succ_cons, List.drop_succ_cons, List.drop_nil, List.take_nil, List.getElem?_cons_zero, kc_b, kc_i, kc_s, rl_i, kc_l, m_lf, m_ag, m_n, m_c, m_all, st_b, d_n, d_c, Nat.reduceLT, Nat.zero_add, Nat.add_zero, kc_fn, kc_er]
  refine wcall_s r100' rfl rfl ?_
  simp -implicitDefEqProofs (maxSteps := 2000000) only [c119, v_ms, rep0, rep1, rep2, c1, c2, wr0, wr1, wr2, v_ld_e, Int.reduceToNat, List.getD_cons_zero, List.getD_cons_succ, Int.reduceLT, Int.reduceLE, Int.reduceAdd, Int.reduceSub, Nat.reduceLT, Int.reduceEq, decide_true, decide_false, ↓reduceIte, s_skip, s_ops0, s_seq, s_cond, s_opsK, s_seqK_n, s_cnd, s_nil, s_cons, s_wopsK, s_putK, o_mv, o_as, o_bin, v_lss, v_part_t, o_ld, v_ld_p, v_ldC, o_call, e_t, e_k, e_put, e_get, e_res, e_keep_n, e_keep_c, e_keep1_s, e_asg_i, List.length_nil, List.length_cons, Option.getD_some, Nat.reduceEqDiff, Nat.reduceAdd, reduceCtorEq, true_and, Bool.false_eq_true, St.clr, outV, ownsV, owns1, ownL, List.map_cons, List.map_nil, PV.leaves, List.flatMap_cons, List.flatMap_nil, List.append_nil, Bool.true_and, Nat.le_refl, List.drop_zero, List.take_succ_cons, List.take_nil, rl_i, rl_s, ol_i, m_lf, m_ag, Nat.reduceLT, Nat.zero_add]
  refine wcall_s h101 rfl rfl ?_
  simp -implicitDefEqProofs (maxSteps := 2000000) only [c119, v_ms, rep0, rep1, rep2, c1, c2, wr0, wr1, wr2, v_ld_e, Int.reduceToNat, List.getD_cons_zero, List.getD_cons_succ, Int.reduceLT, Int.reduceLE, Int.reduceAdd, Int.reduceSub, Nat.reduceLT, Int.reduceEq, decide_true, decide_false, ↓reduceIte, s_skip, s_ops0, s_seq, s_cond, s_block, s_loop, s_opsK, s_seqK_n, s_cnd, s_nil, s_cons, s_wopsK, s_putK, o_mv, o_un, v_not, o_al, o_st, v_st_p, v_stCK, o_bd, v_agK, v_bd_n, v_bd_c, e_t, e_k, e_put, e_get, e_res, e_keep_n, e_keep_c, e_keep1_s, List.length_nil, List.length_cons, Option.getD_some, Nat.reduceEqDiff, Nat.reduceAdd, reduceCtorEq, true_and, Bool.not_true, Bool.false_eq_true, St.clr, outV, ownsV, owns1, ownL, List.map_cons, List.map_nil, List.any_nil, Bool.or_self, List.append_nil, List.cons_append, List.nil_append, List.all_cons, List.all_nil, Bool.true_and, Bool.and_self, PV.cells, cellL, fillL, Nat.reduceBEq, Nat.reduceLeDiff, Nat.zero_le, Nat.le_refl, List.take_zero, List.drop_zero, List.drop_succ_cons, List.drop_nil, kc_b, kc_i, kc_s, ol_b, kc_p, kc_l, m_lf, m_ag, m_n, m_c, m_all, e_head, e_headK, kC_n, kC_c, pO_n, pO_p, pO_i, pO_l, st_b, d_n, d_c, List.range_zero, ne_eq, not_false_eq_true, Nat.zero_add, kc_fn, pO_fn]
  intro Z2 hZ2
  apply hZ2
  simp -implicitDefEqProofs (maxSteps := 2000000) only [c119, v_ms, rep0, rep1, rep2, c1, c2, wr0, wr1, wr2, v_ld_e, Int.reduceToNat, List.getD_cons_zero, List.getD_cons_succ, Int.reduceLT, Int.reduceLE, Int.reduceAdd, Int.reduceSub, Nat.reduceLT, Int.reduceEq, decide_true, decide_false, ↓reduceIte, s_skip, s_exit, s_ops0, s_seq, s_cond, s_opsK, s_seqK_n, s_seqK_e, s_blkK_e, s_loopK_e, s_cnd, s_nil, s_cons, s_wopsK, s_putK, o_mv, o_as, o_bin, v_add, v_lss, v_gtr, v_part_t, v_part_f, v_atK, o_fa, v_fa_p, o_ld, v_ld_p, v_ldC, o_st, v_st_p, v_stCK, o_bs, v_bsK, v_lit_n, v_lit_c, o_app, v_app_o, e_t, e_k, e_put, e_get, e_res, e_keep_n, e_keep_c, e_keep1_s, List.length_nil, List.length_cons, Option.getD_some, Nat.reduceEqDiff, Nat.reduceAdd, reduceCtorEq, true_and, Bool.false_eq_true, List.map_cons, List.map_nil, Bool.or_false, PV.leaves, List.flatMap_cons, List.flatMap_nil, List.append_nil, List.cons_append, List.nil_append, List.all_cons, List.all_nil, Bool.true_and, Bool.and_self, PV.cells, cellL, datL, fillL, Nat.reduceMul, Nat.reduceBEq, Nat.reduceLeDiff, Nat.le_refl, BEq.rfl, List.take_zero, List.drop_zero, List.take_succ_cons, List.drop_succ_cons, List.drop_nil, List.take_nil, List.getElem?_cons_zero, List.getElem?_cons_succ, kp_b, kp_i, kp_s, kp_u, rk_b, rk_i, rk_s, rk_u, rl_i, kp_p, kp_lro, rk_p, rk_lro, kp_lo, rk_lo, m_lf, m_ag, m_n, m_c, m_all, e_asg_o, st_i1, d_n, d_c, dw_n, dw_i, plT, lit_n, lit_c, List.reduceReplicate, List.set_cons_zero, Nat.reduceLT, Nat.lt_add_one, Nat.zero_add, Nat.add_zero, or_false, kp_fn, rk_fn, o_cald]
  refine wcald_i fn120 rfl (r120 0 0 1) rfl ?_
  simp -implicitDefEqProofs (maxSteps := 2000000) only [c119, v_ms, rep0, rep1, rep2, c1, c2, wr0, wr1, wr2, v_ld_e, Int.reduceToNat, List.getD_cons_zero, List.getD_cons_succ, Int.reduceLT, Int.reduceLE, Int.reduceAdd, Int.reduceSub, Nat.reduceLT, Int.reduceEq, decide_true, decide_false, ↓reduceIte, s_ops0, s_opsK, s_seqK_n, s_blkK_n, s_loopK_n, s_nil, s_cons, s_wopsK, s_putK, o_mv, o_bin, v_add, e_t, e_k, e_put, e_get, e_res, e_keep_n, e_keep_c, e_keep1_s, Option.getD_some, Nat.reduceEqDiff, Nat.reduceAdd, reduceCtorEq, Bool.false_eq_true, St.clr, outV, ownsV, List.map_nil, List.any_nil, List.append_nil, m_tp, e_head, e_headK, kC_n, pO_n, pO_i, pO_l, dw_n, dw_i, List.range_zero, pO_fn]
  clear hZ2 Z2
  apply hZ
  simp -implicitDefEqProofs (maxSteps := 2000000) only [c119, v_ms, rep0, rep1, rep2, c1, c2, wr0, wr1, wr2, v_ld_e, Int.reduceToNat, List.getD_cons_zero, List.getD_cons_succ, Int.reduceLT, Int.reduceLE, Int.reduceAdd, Int.reduceSub, Nat.reduceLT, Int.reduceEq, decide_true, decide_false, ↓reduceIte, s_skip, s_ops0, s_seq, s_cond, s_block, s_opsK, s_seqK_n, s_cnd, s_nil, s_cons, s_wopsK, s_putK, o_mv, o_as, o_bin, v_lss, v_part_t, v_part_f, v_atK, o_al, o_fa, v_fa_p, o_ia, v_ia, o_ld, v_ld_p, v_ldC, o_st, v_st_p, v_stCK, o_call, e_t, e_put, e_get, e_res, e_keep_n, e_keep_c, e_keep1_s, e_asg_i, List.length_nil, List.length_cons, Option.getD_some, Nat.reduceEqDiff, Nat.reduceAdd, reduceCtorEq, true_and, and_true, Bool.false_eq_true, List.map_cons, List.map_nil, List.any_nil, Bool.or_self, PV.leaves, List.flatMap_cons, List.flatMap_nil, List.append_nil, List.nil_append, List.all_cons, List.all_nil, Bool.and_true, Bool.true_and, Bool.and_self, PV.cells, cellL, fillL, Nat.zero_le, Nat.le_refl, List.take_zero, List.drop_zero, List.take_succ_cons, List.drop_succ_cons, List.drop_nil, List.take_nil, List.getElem?_cons_zero, kc_b, kc_i, kc_s, rl_i, kc_l, m_lf, m_ag, m_n, m_c, m_all, st_b, d_n, d_c, Nat.reduceLT, Nat.lt_add_one, Nat.zero_add, Nat.add_zero, kc_fn, kc_er]
  refine wcall_s (r100 op ho) rfl rfl ?_
  simp -implicitDefEqProofs (maxSteps := 2000000) only [c119, v_ms, rep0, rep1, rep2, c1, c2, wr0, wr1, wr2, v_ld_e, Int.reduceToNat, List.getD_cons_zero, List.getD_cons_succ, Int.reduceLT, Int.reduceLE, Int.reduceAdd, Int.reduceSub, Nat.reduceLT, Int.reduceEq, decide_true, decide_false, ↓reduceIte, s_skip, s_ops0, s_seq, s_cond, s_opsK, s_seqK_n, s_cnd, s_nil, s_cons, s_wopsK, s_putK, o_mv, o_as, o_bin, v_lss, v_part_t, o_ld, v_ld_p, v_ldC, o_call, e_t, e_k, e_put, e_get, e_res, e_keep_n, e_keep_c, e_keep1_s, e_asg_i, List.length_nil, List.length_cons, Option.getD_some, Nat.reduceEqDiff, Nat.reduceAdd, reduceCtorEq, true_and, Bool.false_eq_true, St.clr, outV, ownsV, owns1, ownL, List.map_cons, List.map_nil, PV.leaves, List.flatMap_cons, List.flatMap_nil, List.append_nil, Bool.true_and, Nat.le_refl, List.drop_zero, List.take_succ_cons, List.take_nil, rl_i, rl_s, ol_i, m_lf, m_ag, Nat.reduceLT, Nat.zero_add]
  refine wcall_s h101' rfl rfl ?_
  simp -implicitDefEqProofs (maxSteps := 2000000) only [c119, v_ms, rep0, rep1, rep2, c1, c2, wr0, wr1, wr2, v_ld_e, Int.reduceToNat, List.getD_cons_zero, List.getD_cons_succ, Int.reduceLT, Int.reduceLE, Int.reduceAdd, Int.reduceSub, Nat.reduceLT, Int.reduceEq, decide_true, decide_false, ↓reduceIte, s_skip, s_ops0, s_seq, s_cond, s_block, s_loop, s_opsK, s_seqK_n, s_cnd, s_nil, s_cons, s_wopsK, s_putK, o_mv, o_un, v_not, o_al, o_st, v_st_p, v_stCK, o_bd, v_agK, v_bd_n, v_bd_c, e_t, e_k, e_put, e_get, e_res, e_keep_n, e_keep_c, e_keep1_s, List.length_nil, List.length_cons, Option.getD_some, Nat.reduceEqDiff, Nat.reduceAdd, reduceCtorEq, true_and, Bool.not_true, Bool.false_eq_true, St.clr, outV, ownsV, owns1, ownL, List.map_cons, List.map_nil, List.any_nil, Bool.or_self, List.append_nil, List.cons_append, List.nil_append, List.all_cons, List.all_nil, Bool.true_and, Bool.and_self, PV.cells, cellL, fillL, Nat.reduceBEq, Nat.reduceLeDiff, Nat.zero_le, Nat.le_refl, List.take_zero, List.drop_zero, List.drop_succ_cons, List.drop_nil, kc_b, kc_i, kc_s, ol_b, kc_p, kc_l, m_lf, m_ag, m_n, m_c, m_all, e_head, e_headK, kC_n, kC_c, pO_n, pO_p, pO_i, pO_l, st_b, d_n, d_c, List.range_zero, ne_eq, not_false_eq_true, Nat.zero_add, kc_fn, pO_fn]
  intro Z2 hZ2
  apply hZ2
  simp -implicitDefEqProofs (maxSteps := 2000000) only [c119, v_ms, rep0, rep1, rep2, c1, c2, wr0, wr1, wr2, mx, v_ld_e, Int.reduceToNat, List.getD_cons_zero, List.getD_cons_succ, Int.reduceLT, Int.reduceLE, Int.reduceAdd, Int.reduceSub, Nat.reduceLT, Int.reduceEq, decide_true, decide_false, ↓reduceIte, s_skip, s_ops0, s_ops2, s_seq, s_cond, s_block, s_opsK, s_seqK_n, s_blkK_n, s_loopK_n, s_cnd, s_nil, s_cons, s_wopsK, s_wopsqK, s_putK, s_grd, s_qnil, s_qcons, s_qguard, q_mv, q_pk, q_bin, o_mv, o_as, o_pk, v_pk, o_bin, v_add, v_sub, v_eql, v_lss, v_part_t, v_part_f, v_atK, o_al, o_fa, v_fa_p, o_ia, v_ia, o_ld, v_ld_p, v_ldC, o_st, v_st_p, v_stCK, o_bd, v_agK, v_bd_n, v_bd_c, e_t, e_k, e_put, e_get, e_res, e_keep_n, e_keep_c, e_keep1_s, e_asg_i, List.length_nil, List.length_cons, Option.getD_some, Nat.reduceEqDiff, Nat.reduceAdd, reduceCtorEq, true_and, and_true, Bool.not_true, Bool.false_eq_true, List.map_cons, List.map_nil, List.any_nil, Bool.or_self, List.append_nil, List.cons_append, List.nil_append, List.all_cons, List.all_nil, Bool.and_true, Bool.true_and, Bool.and_self, PV.cells, cellL, fillL, Nat.reduceBEq, Nat.reduceLeDiff, Nat.zero_le, Nat.le_refl, List.take_zero, List.drop_zero, List.take_succ_cons, List.drop_succ_cons, List.drop_nil, List.take_nil, List.getElem?_cons_zero, List.getElem?_cons_succ, Nat.reduceSub, kc_b, kc_i, kc_s, kc_p, kc_l, m_lf, m_ag, m_n, m_c, m_all, e_head, e_headK, kC_n, kC_c, pO_n, pO_p, pO_i, pO_l, st_b, d_n, d_c, List.range_zero, ne_eq, not_false_eq_true, Nat.reduceLT, Nat.lt_add_one, Nat.zero_add, Nat.add_zero, kc_fn, kc_eo, pO_fn, o_mm, v_mm]
  apply hZ2
  simp -implicitDefEqProofs (maxSteps := 2000000) only [c119, v_ms, rep0, rep1, rep2, c1, c2, wr0, wr1, wr2, mx, v_ld_e, Int.reduceToNat, List.getD_cons_zero, List.getD_cons_succ, Int.reduceLT, Int.reduceLE, Int.reduceAdd, Int.reduceSub, Nat.reduceLT, Int.reduceEq, decide_true, decide_false, ↓reduceIte, s_skip, s_exit, s_ops0, s_seq, s_cond, s_opsK, s_seqK_n, s_seqK_e, s_blkK_e, s_loopK_e, s_cnd, s_nil, s_cons, s_wopsK, s_putK, o_mv, o_as, o_bin, v_add, v_lss, v_gtr, v_part_t, v_part_f, v_atK, o_fa, v_fa_p, o_ld, v_ld_p, v_ldC, o_st, v_st_p, v_stCK, o_bs, v_bsK, v_lit_n, v_lit_c, o_app, v_app_o, e_t, e_k, e_put, e_get, e_res, e_keep_n, e_keep_c, e_keep1_s, List.length_nil, List.length_cons, Option.getD_some, Nat.reduceEqDiff, Nat.reduceAdd, reduceCtorEq, true_and, Bool.false_eq_true, List.map_cons, List.map_nil, Bool.or_false, PV.leaves, List.flatMap_cons, List.flatMap_nil, List.append_nil, List.cons_append, List.nil_append, List.all_cons, List.all_nil, Bool.true_and, Bool.and_self, PV.cells, cellL, datL, fillL, Nat.reduceMul, Nat.reduceBEq, Nat.reduceLeDiff, Nat.le_refl, BEq.rfl, List.take_zero, List.drop_zero, List.take_succ_cons, List.drop_succ_cons, List.drop_nil, List.take_nil, List.getElem?_cons_zero, List.getElem?_cons_succ, kp_b, kp_i, kp_s, kp_u, rk_b, rk_i, rk_s, rk_u, rl_i, kp_p, kp_lro, rk_p, rk_lro, kp_lo, rk_lo, m_lf, m_ag, m_n, m_c, m_all, e_asg_o, st_i1, d_n, d_c, dw_n, dw_i, plT, lit_n, lit_c, List.reduceReplicate, List.set_cons_zero, Nat.reduceLT, Nat.lt_add_one, Nat.zero_add, Nat.add_zero, or_false, kp_fn, rk_fn, o_cald]
  refine wcald_i fn120 rfl (r120 1 0 2) rfl ?_
  simp -implicitDefEqProofs (maxSteps := 2000000) only [c119, v_ms, rep0, rep1, rep2, c1, c2, wr0, wr1, wr2, mx, v_ld_e, Int.reduceToNat, List.getD_cons_zero, List.getD_cons_succ, Int.reduceLT, Int.reduceLE, Int.reduceAdd, Int.reduceSub, Nat.reduceLT, Int.reduceEq, decide_true, decide_false, ↓reduceIte, s_ops0, s_opsK, s_seqK_n, s_blkK_n, s_loopK_n, s_nil, s_cons, s_wopsK, s_putK, o_mv, o_bin, v_add, e_t, e_k, e_put, e_get, e_res, e_keep_n, e_keep_c, e_keep1_s, Option.getD_some, Nat.reduceEqDiff, Nat.reduceAdd, reduceCtorEq, Bool.false_eq_true, St.clr, outV, ownsV, List.map_nil, List.any_nil, List.append_nil, m_tp, e_head, e_headK, kC_n, pO_n, pO_i, pO_l, dw_n, dw_i, List.range_zero, pO_fn]
  apply hZ
  simp -implicitDefEqProofs (maxSteps := 2000000) only [c119, v_ms, rep0, rep1, rep2, c1, c2, wr0, wr1, wr2, mx, v_ld_e, Int.reduceToNat, List.getD_cons_zero, List.getD_cons_succ, Int.reduceLT, Int.reduceLE, Int.reduceAdd, Int.reduceSub, Nat.reduceLT, Int.reduceEq, decide_true, decide_false, ↓reduceIte, s_skip, s_exit, s_ret, s_ops0, s_seq, s_cond, s_opsK, s_seqK_n, s_seqK_e, s_seqK_r, s_blkK_e, s_loopK_e, s_cnd, s_nil, s_cons, s_guard, s_wopsK, s_putK, s_grd, q_mv, q_bin, q_fa, q_ia, q_ld, q_len, o_mv, o_as, o_pk, v_pk, o_bin, v_sub, v_eql, v_neq, v_lss, v_part_f, v_atK, o_fa, v_fa_e, o_ia, v_ia, o_ld, o_len, v_len, e_t, e_k, e_put, e_get, e_res, e_keep_n, e_keep_c, e_keep1_s, e_asg_i, List.length_nil, List.length_cons, Option.getD_some, Nat.reduceEqDiff, Nat.reduceAdd, reduceCtorEq, true_and, and_true, cond_false, Bool.false_eq_true, decide_eq_true_eq, s_ret_r, s_retX, s_cells_n, t_tp, t_n, t_c, t_1l, t_i, r_n, r_t, r_cons, one_2, Bool.and_true, Bool.true_and, Nat.reduceLeDiff, List.getElem?_cons_zero, Nat.reduceSub, ne_eq, Nat.reduceLT, Nat.lt_add_one, Nat.zero_add, Nat.add_zero, implies_true, forall_const, ite_not]
theorem r102a (sp : List (List L)) : R X Tryd.prog 102 [.lf (.lst .ro 7 [nodeL 3 0 ⟨#[]⟩] sp)] [] (.tp [.lf (.int .i64 0), .lf (.int .i64 0)]) [] := by
  have h := r119a (X := X) sp
  refine R_i [] [] c102_ok rfl (by simp) ?_
  have c1 : ((1 : Nat) : Int) = 1 := rfl
  simp only [nodeL] at h ⊢
  simp -implicitDefEqProofs (maxSteps := 2000000) only [c102, v_ms, rep0, rep1, rep2, c1, wr0, wr1, wr2, mx, v_ld_e, Int.reduceToNat, List.getD_cons_zero, List.getD_cons_succ, Int.reduceLT, Int.reduceLE, Int.reduceAdd, Int.reduceSub, Nat.reduceLT, Int.reduceEq, decide_true, decide_false, ↓reduceIte, s_skip, s_ops0, s_seq, s_cond, s_opsK, s_seqK_n, s_cnd, s_nil, s_cons, s_wopsK, s_putK, o_mv, o_as, o_bin, v_gtr, o_len, v_len, o_call, e_t, e_k, e_put, e_get, e_res, e_keep_n, e_keep_c, e_keep1_s, e_asg_i, St.init, enum, List.length_nil, List.length_cons, Option.getD_some, reduceCtorEq, Bool.false_eq_true, List.map_cons, List.map_nil, PV.leaves, List.flatMap_cons, List.flatMap_nil, List.append_nil, List.cons_append, List.nil_append, Nat.reduceLeDiff, rl_l, m_lf, Nat.reduceLT, Nat.zero_add, forall_const, rl_fn, pl_nn]
  refine wcall_s h rfl rfl ?_
  simp -implicitDefEqProofs (maxSteps := 2000000) only [c102, v_ms, rep0, rep1, rep2, c1, wr0, wr1, wr2, mx, v_ld_e, Int.reduceToNat, List.getD_cons_zero, List.getD_cons_succ, Int.reduceLT, Int.reduceLE, Int.reduceAdd, Int.reduceSub, Nat.reduceLT, Int.reduceEq, decide_true, decide_false, ↓reduceIte, s_ret, s_opsK, s_seqK_n, s_nil, s_cons, s_wopsK, s_putK, o_as, o_ext, v_ext0, v_ext1, e_t, e_put, e_get, e_res, e_keep_n, e_keep_c, e_keep1_s, e_asg_i, Option.getD_some, Nat.reduceEqDiff, and_true, Bool.false_eq_true, s_ret_r, s_retX, s_cells_n, t_tp, t_n, t_c, t_1l, t_i, r_n, r_t, r_cons, one_2, St.clr, outV, ownsV, owns1, ownL, List.map_cons, List.map_nil, List.any_cons, List.any_nil, Bool.or_self, Bool.and_true, ol_i, m_tp, m_1l]
theorem r102b (op n : Int) (t : ByteArray) (ho : 18 ≤ op ∧ op ≤ 23) (hf : fldB op n t = true) (sp : List (List L)) : R X Tryd.prog 102 [.lf (.lst .ro 7 [nodeL 3 0 ⟨#[]⟩, nodeL op n t] sp)] [] (.tp [.lf (.int .i64 0), .lf (.int .i64 0)]) [] := by
  have h := r119b (X := X) op n t ho hf sp
  refine R_i [] [] c102_ok rfl (by simp) ?_
  have c2 : ((2 : Nat) : Int) = 2 := rfl
  simp only [nodeL] at h ⊢
  simp -implicitDefEqProofs (maxSteps := 2000000) only [c102, v_ms, rep0, rep1, rep2, c2, wr0, wr1, wr2, mx, v_ld_e, Int.reduceToNat, List.getD_cons_zero, List.getD_cons_succ, Int.reduceLT, Int.reduceLE, Int.reduceAdd, Int.reduceSub, Nat.reduceLT, Int.reduceEq, decide_true, decide_false, ↓reduceIte, s_skip, s_ops0, s_seq, s_cond, s_opsK, s_seqK_n, s_cnd, s_nil, s_cons, s_wopsK, s_putK, o_mv, o_as, o_bin, v_gtr, o_len, v_len, o_call, e_t, e_k, e_put, e_get, e_res, e_keep_n, e_keep_c, e_keep1_s, e_asg_i, St.init, enum, List.length_nil, List.length_cons, Option.getD_some, Nat.reduceAdd, reduceCtorEq, Bool.false_eq_true, List.map_cons, List.map_nil, PV.leaves, List.flatMap_cons, List.flatMap_nil, List.append_nil, List.cons_append, List.nil_append, Nat.reduceLeDiff, rl_l, m_lf, Nat.reduceLT, Nat.zero_add, forall_const, rl_fn, pl_nn]
  refine wcall_s h rfl rfl ?_
  simp -implicitDefEqProofs (maxSteps := 2000000) only [c102, v_ms, rep0, rep1, rep2, c2, wr0, wr1, wr2, mx, v_ld_e, Int.reduceToNat, List.getD_cons_zero, List.getD_cons_succ, Int.reduceLT, Int.reduceLE, Int.reduceAdd, Int.reduceSub, Nat.reduceLT, Int.reduceEq, decide_true, decide_false, ↓reduceIte, s_ret, s_opsK, s_seqK_n, s_nil, s_cons, s_wopsK, s_putK, o_as, o_ext, v_ext0, v_ext1, e_t, e_put, e_get, e_res, e_keep_n, e_keep_c, e_keep1_s, e_asg_i, Option.getD_some, Nat.reduceEqDiff, and_true, Bool.false_eq_true, s_ret_r, s_retX, s_cells_n, t_tp, t_n, t_c, t_1l, t_i, r_n, r_t, r_cons, one_2, St.clr, outV, ownsV, owns1, ownL, List.map_cons, List.map_nil, List.any_cons, List.any_nil, Bool.or_self, Bool.and_true, ol_i, m_tp, m_1l]
theorem r103 (op n : Int) (t : ByteArray) (ho : 18 ≤ op ∧ op ≤ 23) (hf : fldB op n t = true) (sp : List (List L)) : R X Tryd.prog 103 [.lf (.lst .ro 7 [nodeL 3 0 ⟨#[]⟩, nodeL op n t] sp)] [] (.tp [.lf (.lst .ro 7 [nodeL 3 0 ⟨#[]⟩, nodeL op n t] sp), .lf (.int .i64 0)]) [] := by
  have h := r102b (X := X) op n t ho hf sp
  refine R_i [] [] c103_ok rfl (by simp) ?_
  simp only [nodeL] at h ⊢
  simp -implicitDefEqProofs (maxSteps := 2000000) only [c103, v_ms, rep0, rep1, rep2, wr0, wr1, wr2, mx, v_ld_e, Int.reduceToNat, List.getD_cons_zero, List.getD_cons_succ, Int.reduceLT, Int.reduceLE, Int.reduceAdd, Int.reduceSub, Nat.reduceLT, Int.reduceEq, decide_true, decide_false, ↓reduceIte, s_ops0, s_seq, s_opsK, s_seqK_n, s_nil, s_cons, s_wopsK, o_mv, o_as, o_call, e_t, e_k, e_put, e_get, e_res, e_keep_n, e_keep_c, e_keep1_s, e_asg_i, St.init, enum, List.length_nil, Option.getD_some, reduceCtorEq, List.map_cons, List.map_nil, PV.leaves, List.flatMap_cons, List.flatMap_nil, List.append_nil, Nat.reduceMul, kp_lro, rl_l, m_lf, m_n, m_c, m_all, e_asg_n, plT, Nat.add_zero]
  refine wcall_s h rfl rfl ?_
  simp -implicitDefEqProofs (maxSteps := 2000000) only [c103, v_ms, rep0, rep1, rep2, wr0, wr1, wr2, mx, v_ld_e, Int.reduceToNat, List.getD_cons_zero, List.getD_cons_succ, Int.reduceLT, Int.reduceLE, Int.reduceAdd, Int.reduceSub, Nat.reduceLT, Int.reduceEq, decide_true, decide_false, ↓reduceIte, List.contains_nil, s_skip, s_ret, s_ops0, s_seq, s_cond, s_opsK, s_seqK_n, s_seqK_r, s_cnd, s_nil, s_cons, s_wopsK, s_putK, o_mv, o_as, o_bin, v_neq, o_ext, v_ext0, v_ext1, e_t, e_k, e_put, e_get, e_res, e_keep_n, e_keep_c, e_keep1_s, e_asg_i, e_asg_r, Option.getD_some, Nat.reduceEqDiff, reduceCtorEq, true_and, and_true, Bool.false_eq_true, decide_eq_true_eq, s_ret_r, s_retX, s_cells_n, t_tp, t_n, t_c, t_1l, t_i, t_l, t_rr, t_or, r_n, r_t, r_cons, one_2, St.clr, outV, ownsV, owns1, ownL, List.map_cons, List.map_nil, List.any_cons, List.any_nil, Bool.or_self, Bool.and_true, Bool.true_and, Nat.reduceMul, kp_b, kp_i, ol_i, kp_lro, m_lf, m_tp, m_1l, m_n, m_c, m_all, e_asg_n, plT, ne_eq, Nat.add_zero, true_or, or_true, ite_not]
end Go.Proofs.YthcpaohmajjopaaDoor.I
set_option linter.unusedVariables false
set_option linter.unusedSimpArgs false
namespace Go.Proofs.YthcpaohmajjopaaDoor.I
open Go Go.Proofs.YthcpaohmajjopaaDoor.AM
variable {X : Cx}
theorem r80a (op n : Int) (t : ByteArray) (ho : 18 ≤ op ∧ op ≤ 23) (hf : fldB op n t = true) (sp sp' : List (List L)) : R X Tryd.prog 80 [.ag (nodeL op n t), .lf (.lst .ro 1 [[.lst .ro 7 [nodeL 3 0 ⟨#[]⟩] sp]] sp')] [] (.tp [.lf (.lst .ro 7 [nodeL 3 0 ⟨#[]⟩, nodeL op n t] []), .lf (.int .i64 0)]) [] := by
  have h102 := r102a (X := X) sp
  have h103 := r103 (X := X) op n t ho hf []
  have h101 := r101 (X := X) op n t (by omega)
  rw [hf] at h101
  have c1 : ((1 : Nat) : Int) = 1 := rfl
  simp only [nodeL] at h102 h103 h101 ⊢
  refine R_i [] [] c80_ok rfl (by simp) ?_
  simp -implicitDefEqProofs (maxSteps := 2000000) only [c80, c1, wr0, wr1, v_ld_e, Int.reduceToNat, List.getD_cons_zero, Int.reduceLT, Int.reduceLE, Int.reduceAdd, Int.reduceSub, Nat.reduceLT, Int.reduceEq, decide_true, decide_false, ↓reduceIte, s_ops0, s_seq, s_opsK, s_seqK_n, s_nil, s_cons, s_wopsK, s_putK, o_as, v_part_f, v_atK, o_bx, o_fa, v_fa_p, o_ld, v_ld_p, v_ldC, o_call, e_t, e_k, e_put, e_get, e_res, e_keep_n, e_keep_c, e_keep1_s, e_asg_i, St.init, enum, List.length_nil, Option.getD_some, Nat.reduceEqDiff, reduceCtorEq, true_and, List.map_cons, List.map_nil, PV.leaves, List.flatMap_cons, List.flatMap_nil, List.append_nil, Bool.true_and, Nat.reduceMul, Nat.zero_le, List.getElem?_cons_zero, kp_i, kp_s, kc_i, kc_s, rl_i, kp_p, kp_lro, kc_l, m_lf, m_ag, m_n, m_c, m_all, e_asg_n, d_n, plT, Nat.zero_add, Nat.add_zero, v_bx_a]
  refine wcall_s (r100 op ho) rfl rfl ?_
  simp -implicitDefEqProofs (maxSteps := 2000000) only [c80, c1, wr0, wr1, v_ld_e, Int.reduceToNat, List.getD_cons_zero, Int.reduceLT, Int.reduceLE, Int.reduceAdd, Int.reduceSub, Nat.reduceLT, Int.reduceEq, decide_true, decide_false, ↓reduceIte, s_ops0, s_seq, s_cond, s_block, s_opsK, s_seqK_n, s_cnd, s_nil, s_cons, s_wopsK, s_putK, o_mv, o_as, o_bin, v_lss, v_part_t, o_ld, v_ld_p, v_ldC, o_call, e_t, e_k, e_put, e_get, e_res, e_keep_n, e_keep_c, e_keep1_s, e_asg_b, e_asg_i, List.length_nil, List.length_cons, Option.getD_some, Nat.reduceEqDiff, Nat.reduceAdd, true_and, Bool.false_eq_true, St.clr, outV, ownsV, owns1, ownL, List.map_cons, List.map_nil, PV.leaves, List.flatMap_cons, List.flatMap_nil, List.append_nil, Bool.true_and, Nat.le_refl, List.drop_zero, List.take_succ_cons, List.take_nil, rl_i, rl_s, ol_i, m_lf, m_ag, Nat.reduceLT, Nat.zero_add]
  refine wcall_s h101 rfl rfl ?_
  simp -implicitDefEqProofs (maxSteps := 2000000) only [c80, c1, wr0, wr1, v_ld_e, Int.reduceToNat, List.getD_cons_zero, Int.reduceLT, Int.reduceLE, Int.reduceAdd, Int.reduceSub, Nat.reduceLT, Int.reduceEq, decide_true, decide_false, ↓reduceIte, s_skip, s_ret, s_ops0, s_seq, s_cond, s_block, s_loop, s_opsK, s_seqK_n, s_seqK_r, s_blkK_n, s_blkK_r, s_cnd, s_nil, s_cons, s_wopsK, s_putK, o_mv, o_as, o_bin, v_neq, o_un, v_not, o_len, v_len, e_t, e_k, e_put, e_get, e_res, e_keep_n, e_keep_c, e_keep1_s, e_asg_b, e_asg_i, List.length_nil, List.length_cons, Option.getD_some, Nat.reduceEqDiff, reduceCtorEq, true_and, and_true, Bool.not_true, Bool.false_eq_true, decide_eq_true_eq, s_ret_r, s_retX, s_cells_n, t_tp, t_n, t_c, t_1l, t_i, t_l, t_or, r_n, r_t, r_cons, one_2, St.clr, outV, ownsV, owns1, ownL, List.map_cons, List.map_nil, List.nil_append, Bool.and_true, Bool.true_and, Nat.reduceMul, Nat.reduceLeDiff, kp_b, kp_i, kp_s, ol_b, kp_p, kp_lro, m_lf, m_n, m_c, m_all, e_asg_n, e_head, e_headK, kC_n, kC_c, pO_n, pO_p, pO_i, pO_l, List.range_zero, plT, ne_eq, Nat.zero_add, Nat.add_zero, true_or, or_true, forall_const, ite_not]
  intro Z hZ
  apply hZ
  simp -implicitDefEqProofs (maxSteps := 2000000) only [c80, c1, wr0, wr1, v_ld_e, Int.reduceToNat, List.getD_cons_zero, Int.reduceLT, Int.reduceLE, Int.reduceAdd, Int.reduceSub, Nat.reduceLT, Int.reduceEq, decide_true, decide_false, ↓reduceIte, s_skip, s_ops0, s_seq, s_cond, s_block, s_opsK, s_seqK_n, s_cnd, s_nil, s_cons, s_wopsK, s_putK, o_mv, o_as, o_bin, v_lss, v_part_f, v_atK, o_ia, v_ia, o_ld, o_call, e_t, e_put, e_get, e_res, e_keep_n, e_keep_c, e_keep1_s, e_asg_r, List.length_nil, List.length_cons, Option.getD_some, Nat.reduceEqDiff, true_and, and_true, List.map_cons, List.map_nil, PV.leaves, List.flatMap_cons, List.flatMap_nil, List.append_nil, Bool.and_true, Bool.true_and, List.getElem?_cons_zero, rl_l, m_lf, Nat.reduceLT, Nat.lt_add_one, Nat.zero_add]
  refine wcall_s h102 rfl rfl ?_
  simp -implicitDefEqProofs (maxSteps := 2000000) only [c80, c1, wr0, wr1, v_ld_e, Int.reduceToNat, List.getD_cons_zero, Int.reduceLT, Int.reduceLE, Int.reduceAdd, Int.reduceSub, Nat.reduceLT, Int.reduceEq, decide_true, decide_false, ↓reduceIte, s_skip, s_ret, s_ops0, s_seq, s_cond, s_opsK, s_seqK_n, s_seqK_r, s_blkK_n, s_blkK_r, s_loopK_n, s_loopK_r, s_cnd, s_nil, s_cons, s_wopsK, s_putK, o_mv, o_as, o_bin, v_add, v_neq, o_ext, v_ext0, v_ext1, o_app, v_app_o, e_t, e_k, e_put, e_get, e_res, e_keep_n, e_keep_c, e_keep1_s, e_asg_i, List.length_nil, List.length_cons, Option.getD_some, Nat.reduceEqDiff, Nat.reduceAdd, reduceCtorEq, true_and, and_true, Bool.false_eq_true, decide_eq_true_eq, s_ret_r, s_retX, s_cells_n, t_tp, t_n, t_c, t_1l, t_i, t_l, t_or, r_n, r_t, r_cons, one_2, St.clr, outV, ownsV, owns1, ownL, List.map_cons, List.map_nil, List.any_cons, List.any_nil, Bool.or_false, Bool.or_self, List.nil_append, Bool.and_true, Bool.true_and, Nat.reduceMul, Nat.reduceBEq, Nat.reduceLeDiff, BEq.rfl, kp_b, kp_i, kp_s, kp_u, rk_b, rk_i, rk_s, rk_u, ol_i, kp_p, kp_lro, rk_p, rk_lro, kp_lo, rk_lo, m_lf, m_tp, m_1l, m_n, m_c, m_all, e_asg_n, e_asg_o, e_head, e_headK, kC_n, kC_c, pO_n, pO_p, pO_i, pO_l, List.range_zero, plT, ne_eq, Nat.zero_add, Nat.add_zero, true_or, or_true, or_false, ite_not]
  apply hZ
  simp -implicitDefEqProofs (maxSteps := 2000000) only [c80, c1, wr0, wr1, v_ld_e, Int.reduceToNat, List.getD_cons_zero, Int.reduceLT, Int.reduceLE, Int.reduceAdd, Int.reduceSub, Nat.reduceLT, Int.reduceEq, decide_true, decide_false, ↓reduceIte, s_exit, s_ops0, s_seq, s_cond, s_opsK, s_seqK_n, s_seqK_e, s_blkK_e, s_loopK_e, s_cnd, s_nil, s_cons, s_wopsK, s_putK, o_mv, o_bin, v_lss, v_part_t, o_ld, v_ld_p, v_ldC, o_bs, v_bsK, v_lit_n, v_lit_c, o_app, v_app_o, o_call, e_t, e_put, e_get, e_res, e_keep_n, e_keep_c, e_keep1_s, List.length_nil, List.length_cons, Option.getD_some, Nat.reduceEqDiff, Nat.reduceAdd, reduceCtorEq, true_and, Bool.false_eq_true, List.map_cons, List.map_nil, Bool.or_false, PV.leaves, List.flatMap_cons, List.flatMap_nil, List.append_nil, List.cons_append, List.nil_append, List.all_cons, List.all_nil, Bool.true_and, Bool.and_self, PV.cells, datL, Nat.reduceMul, Nat.reduceBEq, Nat.reduceLeDiff, Nat.le_refl, BEq.rfl, List.drop_zero, List.take_succ_cons, List.take_nil, kp_b, kp_i, kp_s, kp_u, rl_i, rl_s, kp_p, kp_lro, kp_lo, rl_l, m_lf, m_ag, m_n, m_c, m_all, dw_n, dw_i, dw_s, plT, lit_n, lit_c, List.reduceReplicate, List.set_cons_zero, Nat.reduceLT, Nat.lt_add_one, Nat.zero_add, Nat.add_zero, or_false]
  refine wcall_down h103 rfl ?_
  simp -implicitDefEqProofs (maxSteps := 2000000) only [c80, c1, wr0, wr1, v_ld_e, Int.reduceToNat, List.getD_cons_zero, Int.reduceLT, Int.reduceLE, Int.reduceAdd, Int.reduceSub, Nat.reduceLT, Int.reduceEq, decide_true, decide_false, ↓reduceIte, s_ret, s_opsK, s_seqK_n, s_nil, s_cons, s_wopsK, s_putK, o_as, o_ext, v_ext0, v_ext1, e_t, e_put, e_get, e_res, e_keep_n, e_keep_c, e_keep1_s, e_asg_i, e_asg_r, Option.getD_some, Nat.reduceEqDiff, reduceCtorEq, true_and, and_true, Bool.false_eq_true, s_ret_r, s_retX, s_cells_n, t_tp, t_n, t_c, t_1l, t_i, t_l, t_rr, r_n, r_t, r_cons, one_2, St.clr, outV, ownsV, owns1, ownL, List.map_cons, List.map_nil, List.any_cons, List.any_nil, Bool.or_self, Bool.and_true, Bool.true_and, Nat.reduceBEq, BEq.rfl, ro_b, ro_i, ro_s, ro_u, ol_i, ro_p, ro_lro, ro_lo, ol_lr, m_lf, m_ag, m_tp, m_1l, m_n, m_c, m_all, dw_n, dw_lo, true_or, or_true]
theorem r80b (op n : Int) (t : ByteArray) (ho : 18 ≤ op ∧ op ≤ 23) (hf : fldB op n t = false) (sp sp' : List (List L)) : R X Tryd.prog 80 [.ag (nodeL op n t), .lf (.lst .ro 1 [[.lst .ro 7 [nodeL 3 0 ⟨#[]⟩] sp]] sp')] [] (.tp [.lf (.lst .ro 7 [] []), .lf (.int .i64 41)]) [] := by
  have h101 := r101 (X := X) op n t (by omega)
  rw [hf] at h101
  simp only [nodeL] at h101 ⊢
  refine R_i [] [512] c80_ok rfl (by simp) ?_
  simp -implicitDefEqProofs (maxSteps := 2000000) only [c80, ↓reduceIte, s_ops0, s_seq, s_opsK, s_seqK_n, s_nil, s_cons, s_wopsK, s_putK, o_as, v_part_f, v_atK, o_bx, o_fa, v_fa_p, o_ld, v_ld_p, v_ldC, o_call, e_t, e_k, e_put, e_get, e_res, e_keep_n, e_keep_c, e_keep1_s, e_asg_i, St.init, enum, List.length_nil, Option.getD_some, Nat.reduceEqDiff, reduceCtorEq, true_and, List.map_cons, List.map_nil, PV.leaves, List.flatMap_cons, List.flatMap_nil, List.append_nil, Bool.true_and, Nat.reduceMul, Nat.zero_le, List.getElem?_cons_zero, kp_i, kp_s, kc_i, kc_s, rl_i, kp_p, kp_lro, kc_l, m_lf, m_ag, m_n, m_c, m_all, e_asg_n, d_n, plT, Nat.zero_add, Nat.add_zero, v_bx_a]
  refine wcall_s (r100 op ho) rfl rfl ?_
  simp -implicitDefEqProofs (maxSteps := 2000000) only [c80, wr0, wr1, Int.reduceLT, Int.reduceLE, Int.reduceEq, decide_true, decide_false, ↓reduceIte, s_ops0, s_seq, s_cond, s_block, s_opsK, s_seqK_n, s_cnd, s_nil, s_cons, s_wopsK, s_putK, o_mv, o_as, o_bin, v_lss, v_part_t, o_ld, v_ld_p, v_ldC, o_call, e_t, e_k, e_put, e_get, e_res, e_keep_n, e_keep_c, e_keep1_s, e_asg_b, e_asg_i, List.length_nil, List.length_cons, Option.getD_some, Nat.reduceEqDiff, Nat.reduceAdd, true_and, Bool.false_eq_true, St.clr, outV, ownsV, owns1, ownL, List.map_cons, List.map_nil, PV.leaves, List.flatMap_cons, List.flatMap_nil, List.append_nil, Bool.true_and, Nat.le_refl, List.drop_zero, List.take_succ_cons, List.take_nil, rl_i, rl_s, ol_i, m_lf, m_ag, Nat.reduceLT, Nat.zero_add]
  refine wcall_s h101 rfl rfl ?_
  simp -implicitDefEqProofs (maxSteps := 2000000) only [c80, wr0, wr1, Int.reduceLT, Int.reduceLE, Int.reduceEq, decide_true, decide_false, ↓reduceIte, s_ret, s_ops0, s_seq, s_cond, s_opsK, s_seqK_n, s_seqK_r, s_blkK_r, s_cnd, s_nil, s_cons, s_wopsK, s_putK, o_as, o_un, v_not, e_t, e_k, e_put, e_get, e_res, e_keep_n, e_keep_c, e_keep1_s, e_asg_b, e_asg_i, Option.getD_some, Nat.reduceEqDiff, true_and, and_true, Bool.not_false, Bool.false_eq_true, s_ret_r, s_retX, s_cells_n, t_tp, t_n, t_c, t_1l, t_i, t_l, t_or, r_n, r_t, r_cons, one_2, St.clr, outV, ownsV, owns1, ownL, List.map_cons, List.map_nil, Bool.and_true, Bool.true_and, Nat.reduceMul, kp_b, kp_i, kp_s, ol_b, kp_p, kp_lro, m_lf, m_n, m_c, m_all, e_asg_n, plT, Nat.add_zero, true_or, or_true]
  rfl
def capB (b n : Int) (t : ByteArray) : Bool := if b = 1 then decide (n = 0) && decide (t = ⟨#[]⟩) else fldB (b + 16) n t
theorem r66 (b n : Int) (t : ByteArray) (hb : 1 ≤ b) (hb2 : b ≤ 7) : R X Tryd.prog 66 [.lf (.int .i64 b), .lf (.int .i64 n), .lf (.str t)] [] (.lf (.bool (capB b n t))) [] := by
  have w1 : IntKind.i64.wrap (b - 2) = b - 2 := w64 (by omega) (by omega)
  have w2 : IntKind.i64.wrap (b - 2 + 18) = b + 16 := by rw [w64 (by omega) (by omega)]; omega
  refine R_i [] [] c66_ok rfl (by simp) ?_
  generalize hr : capB b n t = r
  unfold capB at hr
  simp -implicitDefEqProofs (maxSteps := 2000000) only [c66, w1, w2, ↓reduceIte, s_skip, s_ret, s_ops0, s_seq, s_cond, s_opsK, s_seqK_n, s_seqK_r, s_cnd, s_nil, s_cons, s_guard, s_wopsK, s_putK, s_grd, q_mv, q_bin, o_mv, o_as, o_pk, v_pk, o_bin, v_add, v_sub, v_eql, v_seql, v_part_t, o_al, o_ld, v_ld_p, v_ldC, o_st, v_st_p, v_stCK, o_bd, v_agK, v_bd_n, v_bd_c, o_bs, v_bsK, v_lit_n, v_lit_c, o_call, e_t, e_k, e_put, e_get, e_res, e_keep_n, e_keep_c, e_keep1_s, e_asg_b, St.init, enum, List.length_nil, List.length_cons, Option.getD_some, Nat.reduceEqDiff, Nat.reduceAdd, reduceCtorEq, true_and, and_true, cond_false, Bool.not_true, Bool.false_eq_true, decide_eq_true_eq, s_ret_r, s_retX, s_cells_n, t_lf, t_b, r_n, r_t, r_cons, one_1, List.map_cons, List.map_nil, PV.leaves, List.flatMap_cons, List.flatMap_nil, List.append_nil, List.cons_append, List.nil_append, List.all_cons, List.all_nil, Bool.and_true, Bool.true_and, Bool.and_self, PV.cells, cellL, datL, fillL, Nat.reduceMul, Nat.reduceLeDiff, Nat.zero_le, Nat.le_refl, BEq.rfl, List.take_zero, List.drop_zero, List.take_succ_cons, List.drop_succ_cons, List.drop_nil, List.take_nil, kp_b, kp_i, kp_s, kc_i, kc_s, ro_b, ro_i, ro_s, rl_i, rl_s, kp_p, kp_lro, ro_p, ro_lo, rl_l, m_lf, m_ag, m_n, m_c, m_all, st_b, d_n, d_c, dw_n, dw_i, dw_s, dw_lo, plT, ne_eq, not_false_eq_true, lit_n, lit_c, List.reduceReplicate, List.set_cons_zero, Nat.lt_add_one, Nat.zero_add, Nat.add_zero]
  with_reducible refine ite_pr (fun h => ?_) (fun h => ?_)
  · rw [if_pos h] at hr
    with_reducible refine ite_pr (fun h2 => ?_) (fun h2 => ?_)
    · rw [decide_eq_true h2] at hr
      simpa using hr
    · rw [decide_eq_false h2] at hr
      simpa using hr
  · rw [if_neg h] at hr
    cases hf : fldB (b + 16) n t
    · have h80 := r80b (X := X) (b + 16) n t (by omega) hf [] []
      rw [hf] at hr
      simp only [nodeL] at h80
      refine wcall_down h80 rfl ?_
      simp -implicitDefEqProofs (maxSteps := 2000000) only [c66, Int.reduceEq, decide_true, decide_false, ↓reduceIte, s_ret, s_ops0, s_seq, s_opsK, s_seqK_n, s_nil, s_cons, s_wopsK, s_putK, o_mv, o_as, o_bin, v_eql, o_ext, v_ext0, v_ext1, e_t, e_k, e_put, e_get, e_res, e_keep_n, e_keep_c, e_keep1_s, e_asg_b, e_asg_i, e_asg_r, Option.getD_some, Nat.reduceEqDiff, true_and, and_true, Bool.false_eq_true, s_ret_r, s_retX, s_cells_n, t_lf, t_b, r_n, r_t, r_cons, one_1, St.clr, outV, ownsV, owns1, ownL, List.map_cons, List.map_nil, List.any_cons, List.any_nil, Bool.or_self, Bool.and_true, Bool.true_and, BEq.rfl, ro_b, ro_i, ro_s, ol_i, ro_p, ro_lro, ro_lo, ol_lr, m_lf, m_ag, m_tp, m_1l, m_n, m_c, m_all, dw_n, dw_i, dw_s, dw_lo]
      exact hr
    · have h80 := r80a (X := X) (b + 16) n t (by omega) hf [] []
      rw [hf] at hr
      simp only [nodeL] at h80
      refine wcall_down h80 rfl ?_
      simp -implicitDefEqProofs (maxSteps := 2000000) only [c66, Int.reduceEq, decide_true, decide_false, ↓reduceIte, s_ret, s_ops0, s_seq, s_opsK, s_seqK_n, s_nil, s_cons, s_wopsK, s_putK, o_mv, o_as, o_bin, v_eql, o_ext, v_ext0, v_ext1, e_t, e_k, e_put, e_get, e_res, e_keep_n, e_keep_c, e_keep1_s, e_asg_b, e_asg_i, e_asg_r, Option.getD_some, Nat.reduceEqDiff, true_and, and_true, Bool.false_eq_true, s_ret_r, s_retX, s_cells_n, t_lf, t_b, r_n, r_t, r_cons, one_1, St.clr, outV, ownsV, owns1, ownL, List.map_cons, List.map_nil, List.any_cons, List.any_nil, Bool.or_self, Bool.and_true, Bool.true_and, BEq.rfl, ro_b, ro_i, ro_s, ol_i, ro_p, ro_lro, ro_lo, ol_lr, m_lf, m_ag, m_tp, m_1l, m_n, m_c, m_all, dw_n, dw_i, dw_s, dw_lo]
      exact hr
end Go.Proofs.YthcpaohmajjopaaDoor.I
