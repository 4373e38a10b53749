/- Contracts, part IX7. -/
import Derived.Test.YthcpaohmajjopaaDoorProg
import Derived.Test.YthcpaohmajjopaaDoorAmLeaf2
import Derived.Test.YthcpaohmajjopaaDoorIX6
import Derived.Test.YthcpaohmajjopaaDoorIX3
import Derived.Test.YthcpaohmajjopaaDoorIX1
set_option maxRecDepth 100000
namespace Go.Proofs.YthcpaohmajjopaaDoor.I
open Go Go.Proofs.YthcpaohmajjopaaDoor.AM
/-- harrow/harrowlaw16.InstrGoes -/
abbrev c5_0 : AC := .seq (.ops 0 [⟨(some 38), .call 9 [], none⟩, ⟨(some 39), .mv (.t 38), none⟩, ⟨(some 40), .mv (.t 6), (some (39, true))⟩, ⟨(some 41), .mv (.t 8), (some (39, true))⟩, ⟨(some 42), .call 19 [(.t 40), (.t 41)], (some (39, true))⟩, ⟨(some 43), .pk (.t 39) (.t 42) (.k (.lf (.bool false))), none⟩, ⟨(some 44), .mv (.t 43), none⟩, ⟨(some 45), .mv (.t 7), (some (44, true))⟩, ⟨(some 46), .mv (.t 9), (some (44, true))⟩, ⟨(some 47), .bin .eql (.t 45) (.t 46), (some (44, true))⟩, ⟨(some 48), .pk (.t 44) (.t 47) (.k (.lf (.bool false))), none⟩, ⟨(some 49), .mv (.t 48), none⟩, ⟨(some 50), .mv (.t 10), (some (49, true))⟩, ⟨(some 51), .mv (.t 12), (some (49, true))⟩, ⟨(some 52), .call 20 [(.t 50), (.t 51)], (some (49, true))⟩, ⟨(some 53), .pk (.t 49) (.t 52) (.k (.lf (.bool false))), none⟩, ⟨(some 54), .mv (.t 53), none⟩, ⟨(some 55), .mv (.t 11), (some (54, true))⟩, ⟨(some 56), .mv (.t 13), (some (54, true))⟩, ⟨(some 57), .bin .eql (.t 55) (.t 56), (some (54, true))⟩, ⟨(some 58), .pk (.t 54) (.t 57) (.k (.lf (.bool false))), none⟩, ⟨(some 59), .mv (.t 58), none⟩, ⟨(some 60), .mv (.t 5), (some (59, true))⟩, ⟨(some 61), .mv (.t 0), (some (59, true))⟩, ⟨(some 62), .call 21 [(.t 60), (.t 61)], (some (59, true))⟩, ⟨(some 63), .pk (.t 59) (.t 62) (.k (.lf (.bool false))), none⟩, ⟨(some 4), .as 0 0 (.t 63), none⟩] [4]) .ret
abbrev c5_1 : AC := .seq (.ops 0 [⟨(some 34), .mv (.t 0), none⟩, ⟨(some 35), .call 18 [(.t 34)], none⟩, ⟨(some 33), .mv (.t 35), none⟩, ⟨(some 36), .ext (.t 33) 0, none⟩, ⟨(some 37), .ext (.t 33) 1, none⟩, ⟨(some 12), .as 4 1 (.t 36), none⟩, ⟨(some 13), .as 0 0 (.t 37), none⟩] [0, 5, 6, 7, 8, 9, 10, 11, 12, 13]) c5_0
abbrev c5_2 : AC := .seq (.ops 0 [⟨(some 29), .mv (.t 5), none⟩, ⟨(some 30), .call 17 [(.t 29)], none⟩, ⟨(some 28), .mv (.t 30), none⟩, ⟨(some 31), .ext (.t 28) 0, none⟩, ⟨(some 32), .ext (.t 28) 1, none⟩, ⟨(some 10), .as 4 1 (.t 31), none⟩, ⟨(some 11), .as 0 0 (.t 32), none⟩] [0, 5, 6, 7, 8, 9, 10, 11]) c5_1
abbrev c5_3 : AC := .seq (.ops 0 [⟨(some 23), .mv (.t 0), none⟩, ⟨(some 24), .mv (.t 1), none⟩, ⟨(some 25), .call 16 [(.t 23), (.t 24)], none⟩, ⟨(some 22), .mv (.t 25), none⟩, ⟨(some 26), .ext (.t 22) 0, none⟩, ⟨(some 27), .ext (.t 22) 1, none⟩, ⟨(some 8), .as 3 1 (.t 26), none⟩, ⟨(some 9), .as 0 0 (.t 27), none⟩] [0, 5, 6, 7, 8, 9]) c5_2
abbrev c5_4 : AC := .seq (.ops 0 [⟨(some 17), .mv (.t 5), none⟩, ⟨(some 18), .mv (.t 1), none⟩, ⟨(some 19), .call 15 [(.t 17), (.t 18)], none⟩, ⟨(some 16), .mv (.t 19), none⟩, ⟨(some 20), .ext (.t 16) 0, none⟩, ⟨(some 21), .ext (.t 16) 1, none⟩, ⟨(some 6), .as 3 1 (.t 20), none⟩, ⟨(some 7), .as 0 0 (.t 21), none⟩] [0, 1, 5, 6, 7]) c5_3
abbrev c5_5 : AC := .seq (.ops 0 [⟨(some 14), .mv (.t 0), none⟩, ⟨(some 15), .call 14 [(.t 14)], none⟩, ⟨(some 5), .as 52 9 (.t 15), none⟩] [0, 1, 5]) c5_4
abbrev c5_6 : AC := .seq (.ops 0 [⟨(some 4), .as 0 0 (.k (.lf (.bool false))), none⟩] [0, 1]) c5_5
abbrev c5 : AC := c5_6
theorem c5_ok : compileFn Tryd.prog 5 = some (64, AC.strip c5, [.t 4]) := by kernel_rfl
/-- harrow/harrowref16.Goes -/
abbrev c16_0 : AC := .seq (.ops 0 [⟨(some 15), .mv (.t 7), none⟩, ⟨(some 4), .as 3 1 (.k (.lf (.lst .nl 1 [] []))), none⟩, ⟨(some 5), .as 0 0 (.t 15), none⟩] [4, 5]) .ret
abbrev c16_1 : AC := .cond (.t 14) c16_0 .skip
abbrev c16_2 : AC := .seq (.ops 0 [⟨(some 13), .mv (.t 7), none⟩, ⟨(some 14), .bin .neq (.t 13) (.k (.lf (.int .i64 0))), none⟩] [0, 1, 7, 14]) c16_1
abbrev c16_3 : AC := .seq (.ops 0 [⟨(some 9), .mv (.t 0), none⟩, ⟨(some 10), .call 35 [(.t 9)], none⟩, ⟨(some 8), .mv (.t 10), none⟩, ⟨(some 11), .ext (.t 8) 0, none⟩, ⟨(some 12), .ext (.t 8) 1, none⟩, ⟨(some 6), .as 0 0 (.t 11), none⟩, ⟨(some 7), .as 0 0 (.t 12), none⟩] [0, 1, 7]) c16_2
abbrev c16_4 : AC := .seq (.ops 0 [⟨(some 4), .as 3 1 (.k (.lf (.lst .nl 1 [] []))), none⟩, ⟨(some 5), .as 0 0 (.k (.lf (.int .i64 1))), none⟩] [4, 5]) .ret
abbrev c16_5 : AC := .cond (.t 23) c16_4 .skip
abbrev c16_6 : AC := .seq (.ops 0 [⟨(some 16), .mv (.t 1), none⟩, ⟨(some 17), .bin .lss (.t 16) (.k (.lf (.int .i64 0))), none⟩, ⟨(some 18), .mv (.t 17), none⟩, ⟨(some 19), .mv (.t 1), (some (18, false))⟩, ⟨(some 20), .mv (.t 0), (some (18, false))⟩, ⟨(some 21), .len (.t 20), (some (18, false))⟩, ⟨(some 22), .bin .geq (.t 19) (.t 21), (some (18, false))⟩, ⟨(some 23), .pk (.t 18) (.k (.lf (.bool true))) (.t 22), none⟩] [0, 1, 23]) c16_5
abbrev c16_7 : AC := .seq (.ops 0 [⟨(some 24), .mv (.t 0), none⟩, ⟨(some 25), .mv (.t 1), none⟩, ⟨(some 26), .call 37 [(.t 24), (.t 25)], none⟩, ⟨(some 4), .as 3 1 (.t 26), none⟩, ⟨(some 5), .as 0 0 (.k (.lf (.int .i64 0))), none⟩] [4, 5]) .ret
abbrev c16_8 : AC := .seq c16_6 c16_7
abbrev c16_9 : AC := .seq c16_3 c16_8
abbrev c16_10 : AC := .seq (.ops 0 [⟨(some 4), .as 3 1 (.k (.lf (.lst .nl 1 [] []))), none⟩, ⟨(some 5), .as 0 0 (.k (.lf (.int .i64 0))), none⟩] [0, 1]) c16_9
abbrev c16 : AC := c16_10
theorem c16_ok : compileFn Tryd.prog 16 = some (27, AC.strip c16, [.t 4, .t 5]) := by kernel_rfl
/-- harrow/harrowref16.Live -/
abbrev c18_0 : AC := .seq (.ops 0 [⟨(some 17), .mv (.t 5), none⟩, ⟨(some 2), .as 4 1 (.k (.lf (.lst .nl 1 [] []))), none⟩, ⟨(some 3), .as 0 0 (.t 17), none⟩] [2, 3]) .ret
abbrev c18_1 : AC := .cond (.t 16) c18_0 .skip
abbrev c18_2 : AC := .seq (.ops 0 [⟨(some 15), .mv (.t 5), none⟩, ⟨(some 16), .bin .neq (.t 15) (.k (.lf (.int .i64 0))), none⟩] [0, 5, 16]) c18_1
abbrev c18_3 : AC := .seq (.ops 0 [⟨(some 11), .mv (.t 0), none⟩, ⟨(some 12), .call 35 [(.t 11)], none⟩, ⟨(some 10), .mv (.t 12), none⟩, ⟨(some 13), .ext (.t 10) 0, none⟩, ⟨(some 14), .ext (.t 10) 1, none⟩, ⟨(some 4), .as 0 0 (.t 13), none⟩, ⟨(some 5), .as 0 0 (.t 14), none⟩] [0, 5]) c18_2
abbrev c18_4 : AC := .cond (.t 26) .skip (.exit 0)
abbrev c18_5 : AC := .seq (.ops 0 [⟨(some 24), .mv (.t 7), none⟩, ⟨(some 25), .len (.t 24), none⟩, ⟨(some 26), .bin .gtr (.t 25) (.k (.lf (.int .i64 0))), none⟩] [0, 6, 7, 26]) c18_4
abbrev c18_6 : AC := .cond (.t 37) .skip (.exit 2)
abbrev c18_7 : AC := .seq (.ops 0 [⟨(some 34), .mv (.t 9), none⟩, ⟨(some 35), .mv (.t 8), none⟩, ⟨(some 36), .len (.t 35), none⟩, ⟨(some 37), .bin .lss (.t 34) (.t 36), none⟩] [0, 6, 7, 8, 9, 37]) c18_6
abbrev c18_8 : AC := .seq (.ops 0 [⟨(some 48), .mv (.t 6), none⟩, ⟨(some 49), .mv (.t 8), none⟩, ⟨(some 50), .mv (.t 9), none⟩, ⟨(some 51), .ia (.t 49) (.t 50) 1, none⟩, ⟨(some 52), .ld (.t 51) 1 false, none⟩, ⟨(some 53), .ia (.t 48) (.t 52) 1, none⟩, ⟨none, .st (.t 53) (.k (.lf (.bool true))) 1, none⟩] [0, 6, 7, 8, 9]) (.ops 0 [⟨(some 54), .mv (.t 7), none⟩, ⟨(some 55), .mv (.t 8), none⟩, ⟨(some 56), .mv (.t 9), none⟩, ⟨(some 57), .ia (.t 55) (.t 56) 1, none⟩, ⟨(some 58), .ld (.t 57) 1 false, none⟩, ⟨(some 59), .bs 3 1 1 [.int .i64 0] [(0, (.t 58))], none⟩, ⟨(some 60), .app 3 1 8 (.t 54) (.t 59), none⟩, ⟨(some 7), .as 3 1 (.t 60), none⟩] [0, 6, 7, 8, 9])
abbrev c18_9 : AC := .cond (.t 47) c18_8 .skip
abbrev c18_10 : AC := .seq (.ops 0 [⟨(some 40), .mv (.t 6), none⟩, ⟨(some 41), .mv (.t 8), none⟩, ⟨(some 42), .mv (.t 9), none⟩, ⟨(some 43), .ia (.t 41) (.t 42) 1, none⟩, ⟨(some 44), .ld (.t 43) 1 false, none⟩, ⟨(some 45), .ia (.t 40) (.t 44) 1, none⟩, ⟨(some 46), .ld (.t 45) 1 false, none⟩, ⟨(some 47), .un .not (.t 46), none⟩] [0, 6, 7, 8, 9, 47]) c18_9
abbrev c18_11 : AC := .block 3 c18_10
abbrev c18_12 : AC := .seq c18_11 (.ops 0 [⟨(some 38), .mv (.t 9), none⟩, ⟨(some 39), .bin .add (.t 38) (.k (.lf (.int .i64 1))), none⟩, ⟨(some 9), .as 0 0 (.t 39), none⟩] [0, 6, 7, 8, 9])
abbrev c18_13 : AC := .seq c18_7 c18_12
abbrev c18_14 : AC := .loop c18_13 [0, 6, 7, 8, 9]
abbrev c18_15 : AC := .block 2 c18_14
abbrev c18_16 : AC := .seq (.ops 0 [⟨(some 9), .as 0 0 (.k (.lf (.int .i64 0))), none⟩] [0, 6, 7, 8, 9]) c18_15
abbrev c18_17 : AC := .seq (.ops 0 [⟨(some 32), .mv (.t 7), none⟩, ⟨(some 33), .sll 1 (.t 32) (some (.k (.lf (.int .i64 1)))) none, none⟩, ⟨(some 7), .as 3 1 (.t 33), none⟩] [0, 6, 7, 8]) c18_16
abbrev c18_18 : AC := .seq (.ops 0 [⟨(some 27), .mv (.t 0), none⟩, ⟨(some 28), .mv (.t 7), none⟩, ⟨(some 29), .ia (.t 28) (.k (.lf (.int .i64 0))) 1, none⟩, ⟨(some 30), .ld (.t 29) 1 false, none⟩, ⟨(some 31), .call 37 [(.t 27), (.t 30)], none⟩, ⟨(some 8), .as 3 1 (.t 31), none⟩] [0, 6, 7, 8]) c18_17
abbrev c18_19 : AC := .block 1 c18_18
abbrev c18_20 : AC := .seq c18_5 c18_19
abbrev c18_21 : AC := .loop c18_20 [0, 6, 7]
abbrev c18_22 : AC := .block 0 c18_21
abbrev c18_23 : AC := .seq (.ops 0 [⟨(some 61), .mv (.t 6), none⟩, ⟨(some 2), .as 4 1 (.t 61), none⟩, ⟨(some 3), .as 0 0 (.k (.lf (.int .i64 0))), none⟩] [2, 3]) .ret
abbrev c18_24 : AC := .seq c18_22 c18_23
abbrev c18_25 : AC := .seq (.ops 0 [⟨(some 23), .bs 3 1 1 [.int .i64 0] [(0, (.k (.lf (.int .i64 0))))], none⟩, ⟨(some 7), .as 3 1 (.t 23), none⟩] [0, 6, 7]) c18_24
abbrev c18_26 : AC := .seq (.ops 0 [⟨(some 21), .mv (.t 6), none⟩, ⟨(some 22), .ia (.t 21) (.k (.lf (.int .i64 0))) 1, none⟩, ⟨none, .st (.t 22) (.k (.lf (.bool true))) 1, none⟩] [0, 6]) c18_25
abbrev c18_27 : AC := .seq (.ops 0 [⟨(some 18), .mv (.t 0), none⟩, ⟨(some 19), .len (.t 18), none⟩, ⟨(some 20), .ms 4 1 1 [.bool false] (.t 19) (.t 19), none⟩, ⟨(some 6), .as 4 1 (.t 20), none⟩] [0, 6]) c18_26
abbrev c18_28 : AC := .seq c18_3 c18_27
abbrev c18_29 : AC := .seq (.ops 0 [⟨(some 2), .as 4 1 (.k (.lf (.lst .nl 1 [] []))), none⟩, ⟨(some 3), .as 0 0 (.k (.lf (.int .i64 0))), none⟩] [0]) c18_28
abbrev c18 : AC := c18_29
theorem c18_ok : compileFn Tryd.prog 18 = some (62, AC.strip c18, [.t 2, .t 3]) := by kernel_rfl
/-- harrow/harrowbook.SameInts -/
abbrev c19_0 : AC := .seq (.ops 0 [⟨(some 4), .as 0 0 (.k (.lf (.bool false))), none⟩] [4]) .ret
abbrev c19_1 : AC := .cond (.t 10) c19_0 .skip
abbrev c19_2 : AC := .seq (.ops 0 [⟨(some 6), .mv (.t 0), none⟩, ⟨(some 7), .len (.t 6), none⟩, ⟨(some 8), .mv (.t 1), none⟩, ⟨(some 9), .len (.t 8), none⟩, ⟨(some 10), .bin .neq (.t 7) (.t 9), none⟩] [0, 1, 10]) c19_1
abbrev c19_3 : AC := .cond (.t 14) .skip (.exit 0)
abbrev c19_4 : AC := .seq (.ops 0 [⟨(some 11), .mv (.t 5), none⟩, ⟨(some 12), .mv (.t 0), none⟩, ⟨(some 13), .len (.t 12), none⟩, ⟨(some 14), .bin .lss (.t 11) (.t 13), none⟩] [0, 1, 5, 14]) c19_3
abbrev c19_5 : AC := .seq (.ops 0 [⟨(some 4), .as 0 0 (.k (.lf (.bool false))), none⟩] [4]) .ret
abbrev c19_6 : AC := .cond (.t 25) c19_5 .skip
abbrev c19_7 : AC := .seq (.ops 2 [⟨(some 17), .mv (.t 0), none⟩, ⟨(some 18), .mv (.t 5), none⟩, ⟨(some 19), .ia (.t 17) (.t 18) 1, none⟩, ⟨(some 20), .ld (.t 19) 1 false, none⟩, ⟨(some 21), .mv (.t 1), none⟩, ⟨(some 22), .mv (.t 5), none⟩, ⟨(some 23), .ia (.t 21) (.t 22) 1, none⟩, ⟨(some 24), .ld (.t 23) 1 false, none⟩, ⟨(some 25), .bin .neq (.t 20) (.t 24), none⟩] [0, 1, 5, 25]) c19_6
abbrev c19_8 : AC := .block 1 c19_7
abbrev c19_9 : AC := .seq c19_8 (.ops 0 [⟨(some 15), .mv (.t 5), none⟩, ⟨(some 16), .bin .add (.t 15) (.k (.lf (.int .i64 1))), none⟩, ⟨(some 5), .as 0 0 (.t 16), none⟩] [0, 1, 5])
abbrev c19_10 : AC := .seq c19_4 c19_9
abbrev c19_11 : AC := .loop c19_10 [0, 1, 5]
abbrev c19_12 : AC := .block 0 c19_11
abbrev c19_13 : AC := .seq (.ops 0 [⟨(some 5), .as 0 0 (.k (.lf (.int .i64 0))), none⟩] [0, 1, 5]) c19_12
abbrev c19_14 : AC := .seq (.ops 0 [⟨(some 4), .as 0 0 (.k (.lf (.bool true))), none⟩] [4]) .ret
abbrev c19_15 : AC := .seq c19_13 c19_14
abbrev c19_16 : AC := .seq c19_2 c19_15
abbrev c19_17 : AC := .seq (.ops 0 [⟨(some 4), .as 0 0 (.k (.lf (.bool false))), none⟩] [0, 1]) c19_16
abbrev c19 : AC := c19_17
theorem c19_ok : compileFn Tryd.prog 19 = some (26, AC.strip c19, [.t 4]) := by kernel_rfl
/-- harrow/harrowbook.SameBools -/
abbrev c20_0 : AC := .seq (.ops 0 [⟨(some 4), .as 0 0 (.k (.lf (.bool false))), none⟩] [4]) .ret
abbrev c20_1 : AC := .cond (.t 10) c20_0 .skip
abbrev c20_2 : AC := .seq (.ops 0 [⟨(some 6), .mv (.t 0), none⟩, ⟨(some 7), .len (.t 6), none⟩, ⟨(some 8), .mv (.t 1), none⟩, ⟨(some 9), .len (.t 8), none⟩, ⟨(some 10), .bin .neq (.t 7) (.t 9), none⟩] [0, 1, 10]) c20_1
abbrev c20_3 : AC := .cond (.t 14) .skip (.exit 0)
abbrev c20_4 : AC := .seq (.ops 0 [⟨(some 11), .mv (.t 5), none⟩, ⟨(some 12), .mv (.t 0), none⟩, ⟨(some 13), .len (.t 12), none⟩, ⟨(some 14), .bin .lss (.t 11) (.t 13), none⟩] [0, 1, 5, 14]) c20_3
abbrev c20_5 : AC := .seq (.ops 0 [⟨(some 4), .as 0 0 (.k (.lf (.bool false))), none⟩] [4]) .ret
abbrev c20_6 : AC := .cond (.t 25) c20_5 .skip
abbrev c20_7 : AC := .seq (.ops 2 [⟨(some 17), .mv (.t 0), none⟩, ⟨(some 18), .mv (.t 5), none⟩, ⟨(some 19), .ia (.t 17) (.t 18) 1, none⟩, ⟨(some 20), .ld (.t 19) 1 false, none⟩, ⟨(some 21), .mv (.t 1), none⟩, ⟨(some 22), .mv (.t 5), none⟩, ⟨(some 23), .ia (.t 21) (.t 22) 1, none⟩, ⟨(some 24), .ld (.t 23) 1 false, none⟩, ⟨(some 25), .bqb true (.t 20) (.t 24), none⟩] [0, 1, 5, 25]) c20_6
abbrev c20_8 : AC := .block 1 c20_7
abbrev c20_9 : AC := .seq c20_8 (.ops 0 [⟨(some 15), .mv (.t 5), none⟩, ⟨(some 16), .bin .add (.t 15) (.k (.lf (.int .i64 1))), none⟩, ⟨(some 5), .as 0 0 (.t 16), none⟩] [0, 1, 5])
abbrev c20_10 : AC := .seq c20_4 c20_9
abbrev c20_11 : AC := .loop c20_10 [0, 1, 5]
abbrev c20_12 : AC := .block 0 c20_11
abbrev c20_13 : AC := .seq (.ops 0 [⟨(some 5), .as 0 0 (.k (.lf (.int .i64 0))), none⟩] [0, 1, 5]) c20_12
abbrev c20_14 : AC := .seq (.ops 0 [⟨(some 4), .as 0 0 (.k (.lf (.bool true))), none⟩] [4]) .ret
abbrev c20_15 : AC := .seq c20_13 c20_14
abbrev c20_16 : AC := .seq c20_2 c20_15
abbrev c20_17 : AC := .seq (.ops 0 [⟨(some 4), .as 0 0 (.k (.lf (.bool false))), none⟩] [0, 1]) c20_16
abbrev c20 : AC := c20_17
theorem c20_ok : compileFn Tryd.prog 20 = some (26, AC.strip c20, [.t 4]) := by kernel_rfl
/-- harrow/harrowbook.KeptCode -/
abbrev c21_0 : AC := .seq (.ops 0 [⟨(some 5), .mv (.t 0), none⟩, ⟨(some 6), .mv (.t 1), none⟩, ⟨(some 7), .call 11 [(.t 5), (.t 6)], none⟩, ⟨(some 8), .mv (.t 7), none⟩, ⟨(some 9), .mv (.t 0), (some (8, true))⟩, ⟨(some 10), .mv (.t 1), (some (8, true))⟩, ⟨(some 11), .len (.t 10), (some (8, true))⟩, ⟨(some 12), .bin .add (.t 11) (.k (.lf (.int .i64 1))), (some (8, true))⟩, ⟨(some 13), .sll 9 (.t 9) none (some (.t 12)), (some (8, true))⟩, ⟨(some 14), .mv (.t 1), (some (8, true))⟩, ⟨(some 15), .len (.t 14), (some (8, true))⟩, ⟨(some 16), .ia (.t 13) (.t 15) 9, (some (8, true))⟩, ⟨(some 17), .ld (.t 16) 9 true, (some (8, true))⟩, ⟨(some 18), .bd [.int .i64 0, .int .i64 0, .int .i64 0, .int .i64 0, .str ⟨#[]⟩, .int .u64 0, .int .u64 0, .int .u64 0, .int .u64 0] [(0, 1, (.k (.lf (.int .i64 (-77)))))], (some (8, true))⟩, ⟨(some 19), .beq false [2, 2, 2, 2, 3, 2, 2, 2, 2] (.t 17) (.t 18), (some (8, true))⟩, ⟨(some 20), .pk (.t 8) (.t 19) (.k (.lf (.bool false))), none⟩, ⟨(some 4), .as 0 0 (.t 20), none⟩] [4]) .ret
abbrev c21_1 : AC := .seq (.ops 0 [⟨(some 4), .as 0 0 (.k (.lf (.bool false))), none⟩] [0, 1]) c21_0
abbrev c21 : AC := c21_1
theorem c21_ok : compileFn Tryd.prog 21 = some (21, AC.strip c21, [.t 4]) := by kernel_rfl
/-- harrow/harrowref16.ways -/
abbrev c37_0 : AC := .cond (.t 32) (.ops 0 [⟨(some 33), .mv (.t 6), none⟩, ⟨(some 34), .mv (.t 1), none⟩, ⟨(some 35), .fa (.t 5) 1, none⟩, ⟨(some 36), .ld (.t 35) 1 false, none⟩, ⟨(some 37), .bin .add (.t 34) (.t 36), none⟩, ⟨(some 38), .bs 3 1 1 [.int .i64 0] [(0, (.t 37))], none⟩, ⟨(some 39), .app 3 1 8 (.t 33) (.t 38), none⟩, ⟨(some 6), .as 3 1 (.t 39), none⟩] [1, 5, 6, 9]) .skip
abbrev c37_1 : AC := .seq (.ops 0 [⟨(some 21), .fa (.t 5) 0, none⟩, ⟨(some 22), .ld (.t 21) 1 false, none⟩, ⟨(some 23), .call 55 [(.t 22)], none⟩, ⟨(some 24), .mv (.t 23), none⟩, ⟨(some 25), .mv (.t 1), (some (24, true))⟩, ⟨(some 26), .fa (.t 5) 1, (some (24, true))⟩, ⟨(some 27), .ld (.t 26) 1 false, (some (24, true))⟩, ⟨(some 28), .bin .add (.t 25) (.t 27), (some (24, true))⟩, ⟨(some 29), .mv (.t 1), (some (24, true))⟩, ⟨(some 30), .bin .add (.t 29) (.k (.lf (.int .i64 1))), (some (24, true))⟩, ⟨(some 31), .bin .lss (.t 28) (.t 30), (some (24, true))⟩, ⟨(some 32), .pk (.t 24) (.t 31) (.k (.lf (.bool false))), none⟩] [1, 5, 6, 9, 32]) c37_0
abbrev c37_2 : AC := .cond (.t 40) (.ops 0 [⟨(some 41), .mv (.t 6), none⟩, ⟨(some 42), .mv (.t 1), none⟩, ⟨(some 43), .bin .add (.t 42) (.k (.lf (.int .i64 1))), none⟩, ⟨(some 44), .bs 3 1 1 [.int .i64 0] [(0, (.t 43))], none⟩, ⟨(some 45), .app 3 1 8 (.t 41) (.t 44), none⟩, ⟨(some 6), .as 3 1 (.t 45), none⟩] [1, 5, 6, 9]) .skip
abbrev c37_3 : AC := .seq (.ops 0 [⟨(some 40), .mv (.t 9), none⟩] [1, 5, 6, 9, 40]) c37_2
abbrev c37_4 : AC := .cond (.t 70) (.ops 0 [⟨(some 71), .mv (.t 6), none⟩, ⟨(some 72), .mv (.t 1), none⟩, ⟨(some 73), .fa (.t 5) 1, none⟩, ⟨(some 74), .ld (.t 73) 1 false, none⟩, ⟨(some 75), .bin .add (.t 72) (.t 74), none⟩, ⟨(some 76), .bs 3 1 1 [.int .i64 0] [(0, (.t 75))], none⟩, ⟨(some 77), .app 3 1 8 (.t 71) (.t 76), none⟩, ⟨(some 6), .as 3 1 (.t 77), none⟩] [6]) .skip
abbrev c37_5 : AC := .seq (.ops 0 [⟨(some 46), .fa (.t 5) 0, none⟩, ⟨(some 47), .ld (.t 46) 1 false, none⟩, ⟨(some 48), .call 55 [(.t 47)], none⟩, ⟨(some 49), .mv (.t 48), none⟩, ⟨(some 50), .mv (.t 1), (some (49, true))⟩, ⟨(some 51), .fa (.t 5) 1, (some (49, true))⟩, ⟨(some 52), .ld (.t 51) 1 false, (some (49, true))⟩, ⟨(some 53), .bin .add (.t 50) (.t 52), (some (49, true))⟩, ⟨(some 54), .mv (.t 1), (some (49, true))⟩, ⟨(some 55), .bin .add (.t 54) (.k (.lf (.int .i64 1))), (some (49, true))⟩, ⟨(some 56), .bin .gtr (.t 53) (.t 55), (some (49, true))⟩, ⟨(some 57), .mv (.t 56), (some (49, true))⟩, ⟨(some 58), .mv (.t 1), (some (57, false))⟩, ⟨(some 59), .fa (.t 5) 1, (some (57, false))⟩, ⟨(some 60), .ld (.t 59) 1 false, (some (57, false))⟩, ⟨(some 61), .bin .add (.t 58) (.t 60), (some (57, false))⟩, ⟨(some 62), .mv (.t 1), (some (57, false))⟩, ⟨(some 63), .bin .add (.t 62) (.k (.lf (.int .i64 1))), (some (57, false))⟩, ⟨(some 64), .bin .eql (.t 61) (.t 63), (some (57, false))⟩, ⟨(some 65), .mv (.t 64), (some (57, false))⟩, ⟨(some 66), .mv (.t 9), (some (65, true))⟩, ⟨(some 67), .un .not (.t 66), (some (65, true))⟩, ⟨(some 68), .pk (.t 65) (.t 67) (.k (.lf (.bool false))), (some (57, false))⟩, ⟨(some 69), .pk (.t 57) (.k (.lf (.bool true))) (.t 68), (some (49, true))⟩, ⟨(some 70), .pk (.t 49) (.t 69) (.k (.lf (.bool false))), none⟩] [1, 5, 6, 70]) c37_4
abbrev c37_6 : AC := .seq (.ops 0 [⟨(some 78), .mv (.t 6), none⟩, ⟨(some 4), .as 3 1 (.t 78), none⟩] [4]) .ret
abbrev c37_7 : AC := .seq c37_5 c37_6
abbrev c37_8 : AC := .seq c37_3 c37_7
abbrev c37_9 : AC := .seq c37_1 c37_8
abbrev c37_10 : AC := .seq (.ops 0 [⟨(some 15), .fa (.t 5) 0, none⟩, ⟨(some 16), .ld (.t 15) 1 false, none⟩, ⟨(some 17), .call 40 [(.t 16)], none⟩, ⟨(some 14), .mv (.t 17), none⟩, ⟨(some 18), .ext (.t 14) 0, none⟩, ⟨(some 19), .ext (.t 14) 1, none⟩, ⟨(some 20), .ext (.t 14) 2, none⟩, ⟨(some 7), .as 0 0 (.t 18), none⟩, ⟨(some 8), .as 0 0 (.t 19), none⟩, ⟨(some 9), .as 0 0 (.t 20), none⟩] [1, 5, 6, 9]) c37_9
abbrev c37_11 : AC := .seq (.ops 0 [⟨(some 6), .as 3 1 (.k (.lf (.lst .nl 1 [] []))), none⟩] [1, 5, 6]) c37_10
abbrev c37_12 : AC := .seq (.ops 0 [⟨(some 10), .mv (.t 0), none⟩, ⟨(some 11), .mv (.t 1), none⟩, ⟨(some 12), .ia (.t 10) (.t 11) 9, none⟩, ⟨(some 13), .ld (.t 12) 9 true, none⟩, ⟨(some 5), .al [.int .i64 0, .int .i64 0, .int .i64 0, .int .i64 0, .str ⟨#[]⟩, .int .u64 0, .int .u64 0, .int .u64 0, .int .u64 0], none⟩, ⟨none, .st (.t 5) (.t 13) 9, none⟩] [1, 5]) c37_11
abbrev c37_13 : AC := .seq (.ops 0 [⟨(some 4), .as 3 1 (.k (.lf (.lst .nl 1 [] []))), none⟩] [0, 1]) c37_12
abbrev c37 : AC := c37_13
theorem c37_ok : compileFn Tryd.prog 37 = some (79, AC.strip c37, [.t 4]) := by kernel_rfl
/-- harrow/harrowlaw16.InstrOwn -/
abbrev c8_0 : AC := .cond (.t 24) .skip (.exit 0)
abbrev c8_1 : AC := .seq (.ops 0 [⟨(some 23), .mv (.t 8), none⟩, ⟨(some 24), .bin .lss (.t 23) (.k (.lf (.int .i64 2))), none⟩] [0, 1, 5, 6, 7, 8, 24]) c8_0
abbrev c8_2 : AC := .cond (.t 43) .skip (.exit 2)
abbrev c8_3 : AC := .seq (.ops 0 [⟨(some 40), .mv (.t 13), none⟩, ⟨(some 41), .mv (.t 11), none⟩, ⟨(some 42), .len (.t 41), none⟩, ⟨(some 43), .bin .lss (.t 40) (.t 42), none⟩] [0, 1, 5, 6, 7, 8, 11, 13, 43]) c8_2
abbrev c8_4 : AC := .block 3 (.ops 0 [⟨(some 46), .mv (.t 11), none⟩, ⟨(some 47), .mv (.t 13), none⟩, ⟨(some 48), .mv (.t 11), none⟩, ⟨(some 49), .mv (.t 13), none⟩, ⟨(some 50), .ia (.t 48) (.t 49) 1, none⟩, ⟨(some 51), .ld (.t 50) 1 false, none⟩, ⟨(some 52), .un .not (.t 51), none⟩, ⟨(some 53), .ia (.t 46) (.t 47) 1, none⟩, ⟨none, .st (.t 53) (.t 52) 1, none⟩] [0, 1, 5, 6, 7, 8, 11, 13])
abbrev c8_5 : AC := .seq c8_4 (.ops 0 [⟨(some 44), .mv (.t 13), none⟩, ⟨(some 45), .bin .add (.t 44) (.k (.lf (.int .i64 1))), none⟩, ⟨(some 13), .as 0 0 (.t 45), none⟩] [0, 1, 5, 6, 7, 8, 11, 13])
abbrev c8_6 : AC := .seq c8_3 c8_5
abbrev c8_7 : AC := .loop c8_6 [0, 1, 5, 6, 7, 8, 11, 13]
abbrev c8_8 : AC := .block 2 c8_7
abbrev c8_9 : AC := .seq (.ops 0 [⟨(some 13), .as 0 0 (.k (.lf (.int .i64 0))), none⟩] [0, 1, 5, 6, 7, 8, 11, 13]) c8_8
abbrev c8_10 : AC := .seq (.ops 0 [⟨(some 4), .as 0 0 (.k (.lf (.bool false))), none⟩] [4]) .ret
abbrev c8_11 : AC := .cond (.t 69) c8_10 .skip
abbrev c8_12 : AC := .seq (.ops 0 [⟨(some 61), .fa (.t 15) 1, none⟩, ⟨(some 62), .ld (.t 61) 1 false, none⟩, ⟨(some 63), .bin .neq (.t 62) (.k (.lf (.int .i64 0))), none⟩, ⟨(some 64), .mv (.t 63), none⟩, ⟨(some 65), .mv (.t 14), (some (64, false))⟩, ⟨(some 66), .mv (.t 0), (some (64, false))⟩, ⟨(some 67), .call 11 [(.t 65), (.t 66)], (some (64, false))⟩, ⟨(some 68), .un .not (.t 67), (some (64, false))⟩, ⟨(some 69), .pk (.t 64) (.k (.lf (.bool true))) (.t 68), none⟩] [0, 1, 5, 6, 7, 8, 14, 69]) c8_11
abbrev c8_13 : AC := .seq c8_12 (.ops 0 [⟨(some 70), .mv (.t 14), none⟩, ⟨(some 71), .call 27 [(.t 70), (.k (.lf (.int .i64 (-5))))], none⟩] [0, 1, 5, 6, 7, 8])
abbrev c8_14 : AC := .seq (.ops 0 [⟨(some 57), .mv (.t 6), none⟩, ⟨(some 58), .call 12 [(.t 57)], none⟩, ⟨(some 56), .mv (.t 58), none⟩, ⟨(some 59), .ext (.t 56) 0, none⟩, ⟨(some 60), .ext (.t 56) 1, none⟩, ⟨(some 15), .al [.int .i64 0, .int .i64 0], none⟩, ⟨(some 14), .as 52 9 (.t 59), none⟩, ⟨none, .st (.t 15) (.t 60) 2, none⟩] [0, 1, 5, 6, 7, 8, 14, 15]) c8_13
abbrev c8_15 : AC := .cond (.t 55) c8_14 .skip
abbrev c8_16 : AC := .seq (.ops 0 [⟨(some 54), .mv (.t 7), none⟩, ⟨(some 55), .bin .eql (.t 54) (.k (.lf (.int .i64 0))), none⟩] [0, 1, 5, 6, 7, 8, 55]) c8_15
abbrev c8_17 : AC := .seq c8_9 c8_16
abbrev c8_18 : AC := .seq (.ops 0 [⟨(some 36), .mv (.t 5), none⟩, ⟨(some 37), .call 17 [(.t 36)], none⟩, ⟨(some 35), .mv (.t 37), none⟩, ⟨(some 38), .ext (.t 35) 0, none⟩, ⟨(some 39), .ext (.t 35) 1, none⟩, ⟨(some 11), .as 4 1 (.t 38), none⟩, ⟨(some 12), .as 0 0 (.t 39), none⟩] [0, 1, 5, 6, 7, 8, 11]) c8_17
abbrev c8_19 : AC := .seq (.ops 0 [⟨(some 33), .mv (.t 9), none⟩, ⟨(some 34), .call 26 [(.t 33), (.k (.lf (.int .i64 (-4))))], none⟩] [0, 1, 5, 6, 7, 8]) c8_18
abbrev c8_20 : AC := .seq (.ops 0 [⟨(some 28), .mv (.t 5), none⟩, ⟨(some 29), .mv (.t 1), none⟩, ⟨(some 30), .call 15 [(.t 28), (.t 29)], none⟩, ⟨(some 27), .mv (.t 30), none⟩, ⟨(some 31), .ext (.t 27) 0, none⟩, ⟨(some 32), .ext (.t 27) 1, none⟩, ⟨(some 9), .as 3 1 (.t 31), none⟩, ⟨(some 10), .as 0 0 (.t 32), none⟩] [0, 1, 5, 6, 7, 8, 9]) c8_19
abbrev c8_21 : AC := .block 1 c8_20
abbrev c8_22 : AC := .seq c8_21 (.ops 0 [⟨(some 25), .mv (.t 8), none⟩, ⟨(some 26), .bin .add (.t 25) (.k (.lf (.int .i64 1))), none⟩, ⟨(some 8), .as 0 0 (.t 26), none⟩] [0, 1, 5, 6, 7, 8])
abbrev c8_23 : AC := .seq c8_1 c8_22
abbrev c8_24 : AC := .loop c8_23 [0, 1, 5, 6, 7, 8]
abbrev c8_25 : AC := .block 0 c8_24
abbrev c8_26 : AC := .seq (.ops 0 [⟨(some 8), .as 0 0 (.k (.lf (.int .i64 0))), none⟩] [0, 1, 5, 6, 7, 8]) c8_25
abbrev c8_27 : AC := .seq (.ops 0 [⟨(some 72), .mv (.t 0), none⟩, ⟨(some 73), .mv (.t 1), none⟩, ⟨(some 74), .call 5 [(.t 72), (.t 73)], none⟩, ⟨(some 75), .mv (.t 74), none⟩, ⟨(some 76), .mv (.t 5), (some (75, true))⟩, ⟨(some 77), .mv (.t 0), (some (75, true))⟩, ⟨(some 78), .call 21 [(.t 76), (.t 77)], (some (75, true))⟩, ⟨(some 79), .pk (.t 75) (.t 78) (.k (.lf (.bool false))), none⟩, ⟨(some 4), .as 0 0 (.t 79), none⟩] [4]) .ret
abbrev c8_28 : AC := .seq c8_26 c8_27
abbrev c8_29 : AC := .seq (.ops 0 [⟨(some 19), .mv (.t 0), none⟩, ⟨(some 20), .call 23 [(.t 19)], none⟩, ⟨(some 18), .mv (.t 20), none⟩, ⟨(some 21), .ext (.t 18) 0, none⟩, ⟨(some 22), .ext (.t 18) 1, none⟩, ⟨(some 6), .as 0 0 (.t 21), none⟩, ⟨(some 7), .as 0 0 (.t 22), none⟩] [0, 1, 5, 6, 7]) c8_28
abbrev c8_30 : AC := .seq (.ops 0 [⟨(some 16), .mv (.t 0), none⟩, ⟨(some 17), .call 14 [(.t 16)], none⟩, ⟨(some 5), .as 52 9 (.t 17), none⟩] [0, 1, 5]) c8_29
abbrev c8_31 : AC := .seq (.ops 0 [⟨(some 4), .as 0 0 (.k (.lf (.bool false))), none⟩] [0, 1]) c8_30
abbrev c8 : AC := c8_31
theorem c8_ok : compileFn Tryd.prog 8 = some (80, AC.strip c8, [.t 4]) := by kernel_rfl
/-- harrow/harrowbook.SpoilInts -/
abbrev c26_0 : AC := .cond (.t 8) .skip (.exit 0)
abbrev c26_1 : AC := .seq (.ops 0 [⟨(some 5), .mv (.t 4), none⟩, ⟨(some 6), .mv (.t 0), none⟩, ⟨(some 7), .len (.t 6), none⟩, ⟨(some 8), .bin .lss (.t 5) (.t 7), none⟩] [0, 1, 4, 8]) c26_0
abbrev c26_2 : AC := .block 1 (.ops 0 [⟨(some 11), .mv (.t 0), none⟩, ⟨(some 12), .mv (.t 4), none⟩, ⟨(some 13), .mv (.t 1), none⟩, ⟨(some 14), .ia (.t 11) (.t 12) 1, none⟩, ⟨none, .st (.t 14) (.t 13) 1, none⟩] [0, 1, 4])
abbrev c26_3 : AC := .seq c26_2 (.ops 0 [⟨(some 9), .mv (.t 4), none⟩, ⟨(some 10), .bin .add (.t 9) (.k (.lf (.int .i64 1))), none⟩, ⟨(some 4), .as 0 0 (.t 10), none⟩] [0, 1, 4])
abbrev c26_4 : AC := .seq c26_1 c26_3
abbrev c26_5 : AC := .loop c26_4 [0, 1, 4]
abbrev c26_6 : AC := .block 0 c26_5
abbrev c26_7 : AC := .seq (.ops 0 [⟨(some 4), .as 0 0 (.k (.lf (.int .i64 0))), none⟩] [0, 1, 4]) c26_6
abbrev c26_8 : AC := .seq c26_7 (.ops 0 [⟨(some 15), .mv (.t 0), none⟩, ⟨(some 16), .mv (.t 1), none⟩, ⟨(some 17), .bs 3 1 1 [.int .i64 0] [(0, (.t 16))], none⟩, ⟨(some 18), .app 3 1 8 (.t 15) (.t 17), none⟩] [])
abbrev c26 : AC := c26_8
theorem c26_ok : compileFn Tryd.prog 26 = some (19, AC.strip c26, []) := by kernel_rfl
/-- harrow/harrowbook.SpoilCode -/
abbrev c27_0 : AC := .cond (.t 8) .skip (.exit 0)
abbrev c27_1 : AC := .seq (.ops 0 [⟨(some 5), .mv (.t 4), none⟩, ⟨(some 6), .mv (.t 0), none⟩, ⟨(some 7), .len (.t 6), none⟩, ⟨(some 8), .bin .lss (.t 5) (.t 7), none⟩] [0, 1, 4, 8]) c27_0
abbrev c27_2 : AC := .block 1 (.ops 0 [⟨(some 11), .mv (.t 0), none⟩, ⟨(some 12), .mv (.t 4), none⟩, ⟨(some 13), .mv (.t 1), none⟩, ⟨(some 14), .bd [.int .i64 0, .int .i64 0, .int .i64 0, .int .i64 0, .str ⟨#[]⟩, .int .u64 0, .int .u64 0, .int .u64 0, .int .u64 0] [(0, 1, (.t 13))], none⟩, ⟨(some 15), .ia (.t 11) (.t 12) 9, none⟩, ⟨none, .st (.t 15) (.t 14) 9, none⟩] [0, 1, 4])
abbrev c27_3 : AC := .seq c27_2 (.ops 0 [⟨(some 9), .mv (.t 4), none⟩, ⟨(some 10), .bin .add (.t 9) (.k (.lf (.int .i64 1))), none⟩, ⟨(some 4), .as 0 0 (.t 10), none⟩] [0, 1, 4])
abbrev c27_4 : AC := .seq c27_1 c27_3
abbrev c27_5 : AC := .loop c27_4 [0, 1, 4]
abbrev c27_6 : AC := .block 0 c27_5
abbrev c27_7 : AC := .seq (.ops 0 [⟨(some 4), .as 0 0 (.k (.lf (.int .i64 0))), none⟩] [0, 1, 4]) c27_6
abbrev c27_8 : AC := .seq c27_7 (.ops 0 [⟨(some 16), .mv (.t 0), none⟩, ⟨(some 17), .mv (.t 1), none⟩, ⟨(some 18), .bd [.int .i64 0, .int .i64 0, .int .i64 0, .int .i64 0, .str ⟨#[]⟩, .int .u64 0, .int .u64 0, .int .u64 0, .int .u64 0] [(0, 1, (.t 17))], none⟩, ⟨(some 19), .bs 52 9 1 [.int .i64 0, .int .i64 0, .int .i64 0, .int .i64 0, .str ⟨#[]⟩, .int .u64 0, .int .u64 0, .int .u64 0, .int .u64 0] [(0, (.t 18))], none⟩, ⟨(some 20), .app 52 9 80 (.t 16) (.t 19), none⟩] [])
abbrev c27 : AC := c27_8
theorem c27_ok : compileFn Tryd.prog 27 = some (21, AC.strip c27, []) := by kernel_rfl
end Go.Proofs.YthcpaohmajjopaaDoor.I
set_option linter.unusedVariables false
set_option linter.unusedSimpArgs false
namespace Go.Proofs.YthcpaohmajjopaaDoor.I
open Go Go.Proofs.YthcpaohmajjopaaDoor.AM
variable {X : Cx}
theorem way_tab : ∀ k : Fin 21, 1 ≤ k.val → hasB k.val 64 = nextF k.val ∧ hasB k.val 32 = refB (refF k.val) 1 := by decide +kernel
def waysF (nx tg : Bool) (at' a : Int) : List Int := (if tg && decide (at' + a < at' + 1) then [at' + a] else []) ++ (if nx then [at' + 1] else []) ++ (if tg && (decide (at' + 1 < at' + a) || (decide (at' + a = at' + 1) && !nx)) then [at' + a] else [])
theorem ways_eq (nx tg : Bool) (at' a : Int) : waysF nx tg at' a = goesF nx tg at' a := by
  unfold waysF goesF
  cases nx <;> cases tg
  · rfl
  · rcases Int.lt_trichotomy a 1 with h | h | h
    · simp [show at' + a < at' + 1 by omega, show ¬ at' + 1 < at' + a by omega, show ¬ at' + a = at' + 1 by omega, srt]
    · simp [h, srt]
    · simp [show ¬ at' + a < at' + 1 by omega, show at' + 1 < at' + a by omega, srt]
  · simp [srt]
  · rcases Int.lt_trichotomy a 1 with h | h | h
    · simp [show at' + a < at' + 1 by omega, show ¬ at' + 1 < at' + a by omega, show ¬ a = 1 by omega, srt]
    · simp [h, srt]
    · simp [show ¬ at' + a < at' + 1 by omega, show at' + 1 < at' + a by omega, show ¬ a = 1 by omega, srt]
theorem r37 {code : List Ins} (hc : CodeOK code) (sp : List (List L)) (i : Nat) (hi : i < code.length) :
    R X Tryd.prog 37 [.lf (.lst .ro 9 (code.map Ins.c) sp), .lf (.int .i64 i)] [] (.lf (.lst (.own 0 3) 1 ((gAt code i).map fun x => [L.int .i64 x]) [])) [] := by
  have hx : code[i]? = some code[i] := List.getElem?_eq_getElem hi
  have hop := hc.op i _ hx
  have hlen := hc.len
  have ha := hc.tg i _ hx
  have htab := way_tab ⟨code[i].op.toNat, by omega⟩ (by show 1 ≤ code[i].op.toNat; omega)
  simp only at htab
  have hg : gAt code i = waysF (nextF code[i].op.toNat) (refB (refF code[i].op.toNat) 1) i code[i].a := by unfold gAt; rw [hx]; simp only; rw [htab.1, htab.2, ways_eq]
  rw [htab.2] at ha
  rw [hg]
  have h40 := r40 (X := X) code[i].op
  have h55 := r55 (X := X) code[i].op
  have w1 : IntKind.i64.wrap ((i : Int) + 1) = (i : Int) + 1 := w64 (by omega) (by omega)
  have w2 : refB (refF code[i].op.toNat) 1 = true → IntKind.i64.wrap ((i : Int) + code[i].a) = (i : Int) + code[i].a := fun h => w64 (by have := ha h; omega) (by have := ha h; omega)
  generalize hrr : waysF (nextF code[i].op.toNat) (refB (refF code[i].op.toNat) 1) i code[i].a = r
  unfold waysF at hrr
  generalize hxx : code[i] = x at *
  obtain ⟨xop, xa, xb, xn, xt, s0, s1, s2, s3⟩ := x
  simp only at *
  have hg2 : (code.map Ins.c).getD (i : Int).toNat [] = [.int .i64 xop, .int .i64 xa, .int .i64 xb, .int .i64 xn, .str xt, .int .u64 s0, .int .u64 s1, .int .u64 s2, .int .u64 s3] := by
    rw [Int.toNat_natCast, List.getD_eq_getElem?_getD, List.getElem?_map, hx]; rfl
  clear hg htab
  generalize refF xop.toNat = v at *
  generalize nameF xop.toNat = nm at *
  generalize nextF xop.toNat = nx at *
  generalize refB v 1 = tg at *
  refine R_i [(0, 512)] [] c37_ok rfl (by simp) ?_
  simp -implicitDefEqProofs (maxSteps := 2000000) only [c37, hg2, v_ld_e, w1, ↓reduceIte, s_ops0, s_seq, s_opsK, s_seqK_n, s_nil, s_cons, s_wopsK, s_putK, o_mv, o_as, v_part_t, v_part_f, v_atK, o_al, o_fa, v_fa_p, o_ia, v_ia, o_ld, v_ld_p, v_ldC, o_st, v_st_p, v_stCK, o_call, e_t, e_k, e_put, e_get, e_res, e_keep_n, e_keep_c, e_keep1_s, St.init, enum, List.length_nil, List.length_cons, Option.getD_some, Nat.reduceEqDiff, Nat.reduceAdd, reduceCtorEq, true_and, List.map_cons, List.map_nil, PV.leaves, List.flatMap_cons, List.flatMap_nil, List.append_nil, List.nil_append, List.all_cons, List.all_nil, Bool.true_and, Bool.and_self, PV.cells, cellL, fillL, Nat.reduceMul, Nat.zero_le, Nat.le_refl, List.take_zero, List.drop_zero, List.take_succ_cons, List.drop_succ_cons, List.drop_nil, List.take_nil, List.getElem?_cons_zero, kp_i, kp_s, kc_i, kc_s, rl_i, kp_p, kp_lro, kc_l, m_lf, m_ag, m_n, m_c, m_all, e_asg_n, st_b, d_n, d_c, plT, Nat.zero_add, Nat.add_zero, kc_er]
  refine ⟨⟨by omega, by simp; omega⟩, by simp; omega, ?_⟩
  refine wcall_s h40 rfl rfl ?_
  simp -implicitDefEqProofs (maxSteps := 2000000) only [c37, ↓reduceIte, s_ops0, s_seq, s_opsK, s_seqK_n, s_nil, s_cons, s_wopsK, s_putK, o_mv, o_as, o_ext, v_ext0, v_ext1, v_ext2, v_part_f, v_atK, o_fa, v_fa_p, o_ld, v_ld_p, v_ldC, o_call, e_t, e_put, e_get, e_res, e_keep_n, e_keep_c, e_keep1_s, e_asg_b, e_asg_i, e_asg_s, Option.getD_some, Nat.reduceEqDiff, Bool.false_eq_true, St.clr, outV, ownsV, owns1, ownL, List.map_cons, List.map_nil, List.any_cons, List.any_nil, Bool.or_self, PV.leaves, List.flatMap_cons, List.flatMap_nil, List.append_nil, List.getElem?_cons_zero, rl_i, ol_b, ol_i, ol_s, m_lf, m_tp, m_1l, Nat.add_zero]
  refine wcall_s h55 rfl rfl ?_
  cases tg
  · cases nx
    · simp -implicitDefEqProofs (maxSteps := 2000000) only [c37, w1, ↓reduceIte, s_skip, s_ops0, s_seq, s_cond, s_opsK, s_seqK_n, s_cnd, s_nil, s_cons, s_guard, s_wopsK, s_putK, s_grd, o_mv, o_pk, v_pk, v_part_f, v_atK, o_fa, v_fa_p, o_ld, v_ld_p, v_ldC, o_call, e_t, e_k, e_put, e_get, e_res, e_keep_n, e_keep_c, e_keep1_s, Option.getD_some, Nat.reduceEqDiff, Bool.not_true, Bool.false_eq_true, St.clr, outV, ownsV, owns1, ownL, List.map_cons, List.map_nil, PV.leaves, List.flatMap_cons, List.flatMap_nil, List.append_nil, List.getElem?_cons_zero, rl_i, ol_b, m_lf, Nat.add_zero]
      refine wcall_s h55 rfl rfl ?_
      simp at hrr
      subst hrr
      simp -implicitDefEqProofs (maxSteps := 2000000) only [c37, List.map_nil, ↓reduceIte, s_skip, s_ret, s_ops0, s_seq, s_cond, s_opsK, s_seqK_n, s_cnd, s_nil, s_cons, s_guard, s_wopsK, s_putK, s_grd, s_grd_no, o_mv, o_as, o_pk, v_pk, e_t, e_k, e_put, e_get, e_res, e_keep_n, e_keep_c, e_keep1_s, Option.getD_some, Nat.reduceEqDiff, true_and, and_true, Bool.not_true, Bool.false_eq_true, s_ret_r, s_retX, s_cells_n, t_lf, t_l, t_oo, r_n, r_t, r_cons, one_1, St.clr, outV, ownsV, owns1, ownL, List.map_cons, List.map_nil, Bool.and_true, Bool.true_and, Nat.reduceMul, Nat.reduceBEq, BEq.rfl, rk_b, rk_i, rk_s, ol_b, rk_p, rk_lo, m_lf, m_n, m_c, m_all, e_asg_o, plT, Nat.add_zero, true_or, or_true]
      done
    · simp -implicitDefEqProofs (maxSteps := 2000000) only [c37, w1, ↓reduceIte, s_skip, s_ops0, s_seq, s_cond, s_opsK, s_seqK_n, s_cnd, s_nil, s_cons, s_guard, s_wopsK, s_putK, s_grd, o_mv, o_as, o_pk, v_pk, o_bin, v_add, v_part_f, v_atK, o_fa, v_fa_p, o_ld, v_ld_p, v_ldC, o_bs, v_bsK, v_lit_n, v_lit_c, o_app, v_app_o, o_call, e_t, e_k, e_put, e_get, e_res, e_keep_n, e_keep_c, e_keep1_s, List.length_nil, List.length_cons, Option.getD_some, Nat.reduceEqDiff, reduceCtorEq, true_and, Bool.not_true, Bool.false_eq_true, St.clr, outV, ownsV, owns1, ownL, List.map_cons, List.map_nil, Bool.or_false, PV.leaves, List.flatMap_cons, List.flatMap_nil, List.append_nil, List.nil_append, List.all_cons, List.all_nil, Bool.true_and, Bool.and_self, PV.cells, datL, Nat.reduceMul, Nat.reduceBEq, Nat.reduceLeDiff, BEq.rfl, List.getElem?_cons_zero, kp_b, kp_i, kp_s, kp_u, rk_b, rk_i, rk_s, rk_u, rl_i, ol_b, kp_p, rk_p, kp_lo, rk_lo, m_lf, m_n, m_c, m_all, e_asg_o, dw_n, dw_i, plT, lit_n, lit_c, List.reduceReplicate, List.set_cons_zero, Nat.lt_add_one, Nat.zero_add, Nat.add_zero, or_false]
      refine wcall_s h55 rfl rfl ?_
      simp at hrr
      subst hrr
      simp -implicitDefEqProofs (maxSteps := 2000000) only [c37, List.map_cons, List.map_nil, ↓reduceIte, s_skip, s_ret, s_ops0, s_seq, s_cond, s_opsK, s_seqK_n, s_cnd, s_nil, s_cons, s_guard, s_wopsK, s_putK, s_grd, s_grd_no, o_mv, o_as, o_pk, v_pk, e_t, e_k, e_put, e_get, e_res, e_keep_n, e_keep_c, e_keep1_s, Option.getD_some, Nat.reduceEqDiff, reduceCtorEq, true_and, and_true, Bool.not_true, Bool.false_eq_true, s_ret_r, s_retX, s_cells_n, t_lf, t_l, t_oo, r_n, r_t, r_cons, one_1, St.clr, outV, ownsV, owns1, ownL, List.map_cons, List.map_nil, Bool.and_true, Bool.true_and, Nat.reduceMul, Nat.reduceBEq, BEq.rfl, rk_b, rk_i, rk_s, ol_b, rk_p, rk_lo, m_lf, m_n, m_c, m_all, e_asg_o, plT, Nat.add_zero, true_or, or_true]
      done
  · have w3 := w2 rfl
    rcases Int.lt_trichotomy xa 1 with h | h | h
    · have p1 : (i : Int) + xa < (i : Int) + 1 := by omega
      have p2 : ¬ (i : Int) + 1 < (i : Int) + xa := by omega
      have p3 : ¬ (i : Int) + xa = (i : Int) + 1 := by omega
      simp only [p1, p2, p3, decide_true, decide_false, Bool.and_true, Bool.true_and, Bool.false_and, Bool.or_false, if_true, Bool.false_eq_true, if_false, List.append_nil] at hrr
      cases nx
      · simp only [Bool.false_eq_true, if_false, List.append_nil] at hrr
        subst hrr
        simp -implicitDefEqProofs (maxSteps := 2000000) only [c37, w1, w3, p1, p2, p3, ↓reduceIte, s_skip, s_ops0, s_seq, s_cond, s_opsK, s_seqK_n, s_cnd, s_nil, s_cons, s_guard, s_wopsK, s_putK, s_grd, q_mv, q_bin, q_fa, q_ld, o_mv, o_as, o_pk, v_pk, o_bin, v_add, v_lss, v_part_f, v_atK, o_fa, v_fa_p, o_ld, v_ld_p, v_ldC, o_bs, v_bsK, v_lit_n, v_lit_c, o_app, v_app_o, o_call, e_t, e_k, e_put, e_get, e_res, e_keep_n, e_keep_c, e_keep1_s, List.length_nil, List.length_cons, Option.getD_some, Nat.reduceEqDiff, reduceCtorEq, true_and, cond_false, Bool.false_eq_true, decide_eq_true_eq, St.clr, outV, ownsV, owns1, ownL, List.map_cons, List.map_nil, Bool.or_false, PV.leaves, List.flatMap_cons, List.flatMap_nil, List.append_nil, List.nil_append, List.all_cons, List.all_nil, Bool.true_and, Bool.and_self, PV.cells, datL, Nat.reduceMul, Nat.reduceBEq, Nat.reduceLeDiff, BEq.rfl, List.getElem?_cons_zero, List.getElem?_cons_succ, kp_b, kp_i, kp_s, kp_u, rk_b, rk_i, rk_s, rk_u, rl_i, ol_b, kp_p, rk_p, kp_lo, rk_lo, m_lf, m_n, m_c, m_all, e_asg_o, dw_n, dw_i, plT, lit_n, lit_c, List.reduceReplicate, List.set_cons_zero, Nat.lt_add_one, Nat.zero_add, Nat.add_zero, or_false]
        refine wcall_s h55 rfl rfl ?_
        simp -implicitDefEqProofs (maxSteps := 2000000) only [c37, w1, w3, p1, p2, p3, List.map_cons, List.map_nil, ↓reduceIte, s_skip, s_ret, s_ops0, s_seq, s_cond, s_opsK, s_seqK_n, s_cnd, s_nil, s_cons, s_guard, s_wopsK, s_putK, s_grd, q_mv, q_pk, q_bin, q_fa, q_ld, o_mv, o_as, o_pk, v_pk, o_bin, v_add, v_eql, v_gtr, v_part_f, v_atK, o_fa, v_fa_p, o_ld, v_ld_p, v_ldC, e_t, e_k, e_put, e_get, e_res, e_keep_n, e_keep_c, e_keep1_s, Option.getD_some, Nat.reduceEqDiff, reduceCtorEq, true_and, and_true, cond_false, Bool.not_true, Bool.false_eq_true, decide_eq_true_eq, decide_eq_false_iff_not, s_ret_r, s_retX, s_cells_n, t_lf, t_l, t_oo, r_n, r_t, r_cons, one_1, St.clr, outV, ownsV, owns1, ownL, List.map_cons, List.map_nil, Bool.and_true, Bool.true_and, Nat.reduceMul, Nat.reduceBEq, BEq.rfl, List.getElem?_cons_zero, List.getElem?_cons_succ, rk_b, rk_i, rk_s, ol_b, rk_p, rk_lo, m_lf, m_n, m_c, m_all, e_asg_o, plT, not_false_eq_true, Nat.zero_add, Nat.add_zero, true_or, or_true]
        done
      · simp only [if_true, List.cons_append, List.nil_append] at hrr
        subst hrr
        simp -implicitDefEqProofs (maxSteps := 2000000) only [c37, w1, w3, p1, p2, p3, ↓reduceIte, s_ops0, s_seq, s_cond, s_opsK, s_seqK_n, s_cnd, s_nil, s_cons, s_guard, s_wopsK, s_putK, s_grd, q_mv, q_bin, q_fa, q_ld, o_mv, o_as, o_pk, v_pk, o_bin, v_add, v_lss, v_part_f, v_atK, o_fa, v_fa_p, o_ld, v_ld_p, v_ldC, o_bs, v_bsK, v_lit_n, v_lit_c, o_app, v_app_o, o_call, e_t, e_k, e_put, e_get, e_res, e_keep_n, e_keep_c, e_keep1_s, List.length_nil, List.length_cons, Option.getD_some, Nat.reduceEqDiff, Nat.reduceAdd, reduceCtorEq, true_and, cond_false, Bool.false_eq_true, decide_eq_true_eq, St.clr, outV, ownsV, owns1, ownL, List.map_cons, List.map_nil, Bool.or_false, PV.leaves, List.flatMap_cons, List.flatMap_nil, List.append_nil, List.cons_append, List.nil_append, List.all_cons, List.all_nil, Bool.true_and, Bool.and_self, PV.cells, datL, Nat.reduceMul, Nat.reduceBEq, Nat.reduceLeDiff, BEq.rfl, List.getElem?_cons_zero, List.getElem?_cons_succ, kp_b, kp_i, kp_s, kp_u, rk_b, rk_i, rk_s, rk_u, rl_i, ol_b, kp_p, rk_p, kp_lo, rk_lo, m_lf, m_n, m_c, m_all, e_asg_o, dw_n, dw_i, plT, lit_n, lit_c, List.reduceReplicate, List.set_cons_zero, Nat.lt_add_one, Nat.zero_add, Nat.add_zero, or_false]
        refine wcall_s h55 rfl rfl ?_
        simp -implicitDefEqProofs (maxSteps := 2000000) only [c37, w1, w3, p1, p2, p3, List.map_cons, List.map_nil, ↓reduceIte, s_skip, s_ret, s_ops0, s_seq, s_cond, s_opsK, s_seqK_n, s_cnd, s_nil, s_cons, s_guard, s_wopsK, s_putK, s_grd, q_mv, q_pk, q_bin, q_fa, q_ld, o_mv, o_as, o_pk, v_pk, o_bin, v_add, v_eql, v_gtr, v_part_f, v_atK, o_fa, v_fa_p, o_ld, v_ld_p, v_ldC, e_t, e_k, e_put, e_get, e_res, e_keep_n, e_keep_c, e_keep1_s, Option.getD_some, Nat.reduceEqDiff, reduceCtorEq, true_and, and_true, cond_false, Bool.not_true, Bool.false_eq_true, decide_eq_true_eq, decide_eq_false_iff_not, s_ret_r, s_retX, s_cells_n, t_lf, t_l, t_oo, r_n, r_t, r_cons, one_1, St.clr, outV, ownsV, owns1, ownL, List.map_cons, List.map_nil, Bool.and_true, Bool.true_and, Nat.reduceMul, Nat.reduceBEq, BEq.rfl, List.getElem?_cons_zero, List.getElem?_cons_succ, rk_b, rk_i, rk_s, ol_b, rk_p, rk_lo, m_lf, m_n, m_c, m_all, e_asg_o, plT, not_false_eq_true, Nat.zero_add, Nat.add_zero, true_or, or_true]
        done
    · have p1 : ¬ (i : Int) + xa < (i : Int) + 1 := by omega
      have p2 : ¬ (i : Int) + 1 < (i : Int) + xa := by omega
      have p3 : (i : Int) + xa = (i : Int) + 1 := by omega
      simp only [p1, p2, decide_false, Bool.and_false, Bool.true_and, Bool.false_or, Bool.false_eq_true, if_false, List.nil_append] at hrr
      simp only [p3, decide_true, Bool.true_and] at hrr
      cases nx
      · simp only [Bool.false_eq_true, if_false, List.nil_append, Bool.not_false, if_true] at hrr
        subst hrr
        simp -implicitDefEqProofs (maxSteps := 2000000) only [c37, w1, w3, p1, p2, ↓reduceIte, s_skip, s_ops0, s_seq, s_cond, s_opsK, s_seqK_n, s_cnd, s_nil, s_cons, s_guard, s_wopsK, s_putK, s_grd, q_mv, q_bin, q_fa, q_ld, o_mv, o_pk, v_pk, o_bin, v_add, v_lss, v_part_f, v_atK, o_fa, v_fa_p, o_ld, v_ld_p, v_ldC, o_call, e_t, e_k, e_put, e_get, e_res, e_keep_n, e_keep_c, e_keep1_s, Option.getD_some, Nat.reduceEqDiff, cond_false, Bool.false_eq_true, decide_eq_true_eq, St.clr, outV, ownsV, owns1, ownL, List.map_cons, List.map_nil, PV.leaves, List.flatMap_cons, List.flatMap_nil, List.append_nil, List.getElem?_cons_zero, List.getElem?_cons_succ, rl_i, ol_b, m_lf, Nat.zero_add, Nat.add_zero]
        refine wcall_s h55 rfl rfl ?_
        simp -implicitDefEqProofs (maxSteps := 2000000) only [c37, w1, w3, p1, p2, p3, Int.lt_irrefl, List.map_cons, List.map_nil, ↓reduceIte, s_ret, s_ops0, s_seq, s_cond, s_opsK, s_seqK_n, s_cnd, s_nil, s_cons, s_guard, s_wopsK, s_putK, s_grd, q_mv, q_pk, q_bin, q_un, q_fa, q_ld, o_mv, o_as, o_pk, v_pk, o_bin, v_add, v_eql, v_gtr, o_un, v_not, v_part_f, v_atK, o_fa, v_fa_p, o_ld, v_ld_p, v_ldC, o_bs, v_bsK, v_lit_n, v_lit_c, o_app, v_app_o, e_t, e_k, e_put, e_get, e_res, e_keep_n, e_keep_c, e_keep1_s, List.length_nil, List.length_cons, Option.getD_some, Nat.reduceEqDiff, reduceCtorEq, true_and, and_true, cond_false, Bool.not_false, Bool.false_eq_true, decide_eq_true_eq, decide_eq_false_iff_not, s_ret_r, s_retX, s_cells_n, t_lf, t_l, t_oo, r_n, r_t, r_cons, one_1, St.clr, outV, ownsV, owns1, ownL, List.map_cons, List.map_nil, Bool.or_false, List.append_nil, List.nil_append, List.all_cons, List.all_nil, Bool.and_true, Bool.true_and, Bool.and_self, PV.cells, datL, Nat.reduceMul, Nat.reduceBEq, Nat.reduceLeDiff, BEq.rfl, List.getElem?_cons_zero, List.getElem?_cons_succ, kp_b, kp_i, kp_s, kp_u, rk_b, rk_i, rk_s, rk_u, rl_i, ol_b, kp_p, rk_p, kp_lo, rk_lo, m_lf, m_n, m_c, m_all, e_asg_o, dw_n, dw_i, plT, not_false_eq_true, lit_n, lit_c, List.reduceReplicate, List.set_cons_zero, Nat.lt_add_one, Nat.zero_add, Nat.add_zero, true_or, or_true, or_false]
        done
      · simp only [if_true, Bool.not_true, Bool.false_eq_true, if_false, List.append_nil] at hrr
        subst hrr
        simp -implicitDefEqProofs (maxSteps := 2000000) only [c37, w1, w3, p1, p2, ↓reduceIte, s_skip, s_ops0, s_seq, s_cond, s_opsK, s_seqK_n, s_cnd, s_nil, s_cons, s_guard, s_wopsK, s_putK, s_grd, q_mv, q_bin, q_fa, q_ld, o_mv, o_as, o_pk, v_pk, o_bin, v_add, v_lss, v_part_f, v_atK, o_fa, v_fa_p, o_ld, v_ld_p, v_ldC, o_bs, v_bsK, v_lit_n, v_lit_c, o_app, v_app_o, o_call, e_t, e_k, e_put, e_get, e_res, e_keep_n, e_keep_c, e_keep1_s, List.length_nil, List.length_cons, Option.getD_some, Nat.reduceEqDiff, reduceCtorEq, true_and, cond_false, Bool.false_eq_true, decide_eq_true_eq, St.clr, outV, ownsV, owns1, ownL, List.map_cons, List.map_nil, Bool.or_false, PV.leaves, List.flatMap_cons, List.flatMap_nil, List.append_nil, List.nil_append, List.all_cons, List.all_nil, Bool.true_and, Bool.and_self, PV.cells, datL, Nat.reduceMul, Nat.reduceBEq, Nat.reduceLeDiff, BEq.rfl, List.getElem?_cons_zero, List.getElem?_cons_succ, kp_b, kp_i, kp_s, kp_u, rk_b, rk_i, rk_s, rk_u, rl_i, ol_b, kp_p, rk_p, kp_lo, rk_lo, m_lf, m_n, m_c, m_all, e_asg_o, dw_n, dw_i, plT, lit_n, lit_c, List.reduceReplicate, List.set_cons_zero, Nat.lt_add_one, Nat.zero_add, Nat.add_zero, or_false]
        refine wcall_s h55 rfl rfl ?_
        simp -implicitDefEqProofs (maxSteps := 2000000) only [c37, w1, w3, p1, p2, p3, Int.lt_irrefl, List.map_cons, List.map_nil, ↓reduceIte, s_skip, s_ret, s_ops0, s_seq, s_cond, s_opsK, s_seqK_n, s_cnd, s_nil, s_cons, s_guard, s_wopsK, s_putK, s_grd, q_mv, q_pk, q_bin, q_un, q_fa, q_ld, o_mv, o_as, o_pk, v_pk, o_bin, v_add, v_eql, v_gtr, o_un, v_not, v_part_f, v_atK, o_fa, v_fa_p, o_ld, v_ld_p, v_ldC, e_t, e_k, e_put, e_get, e_res, e_keep_n, e_keep_c, e_keep1_s, Option.getD_some, Nat.reduceEqDiff, reduceCtorEq, true_and, and_true, cond_false, Bool.not_true, Bool.false_eq_true, decide_eq_true_eq, decide_eq_false_iff_not, s_ret_r, s_retX, s_cells_n, t_lf, t_l, t_oo, r_n, r_t, r_cons, one_1, St.clr, outV, ownsV, owns1, ownL, List.map_cons, List.map_nil, Bool.and_true, Bool.true_and, Nat.reduceMul, Nat.reduceBEq, BEq.rfl, List.getElem?_cons_zero, List.getElem?_cons_succ, rk_b, rk_i, rk_s, ol_b, rk_p, rk_lo, m_lf, m_n, m_c, m_all, e_asg_o, plT, not_false_eq_true, Nat.zero_add, Nat.add_zero, true_or, or_true]
        done
    · have p1 : ¬ (i : Int) + xa < (i : Int) + 1 := by omega
      have p2 : (i : Int) + 1 < (i : Int) + xa := by omega
      have p3 : ¬ (i : Int) + xa = (i : Int) + 1 := by omega
      simp only [p1, p2, p3, decide_true, decide_false, Bool.and_false, Bool.and_true, Bool.true_and, Bool.false_and, Bool.or_false, if_true, Bool.false_eq_true, if_false, List.nil_append] at hrr
      cases nx
      · simp only [Bool.false_eq_true, if_false, List.nil_append] at hrr
        subst hrr
        simp -implicitDefEqProofs (maxSteps := 2000000) only [c37, w1, w3, p1, p2, p3, ↓reduceIte, s_skip, s_ops0, s_seq, s_cond, s_opsK, s_seqK_n, s_cnd, s_nil, s_cons, s_guard, s_wopsK, s_putK, s_grd, q_mv, q_bin, q_fa, q_ld, o_mv, o_pk, v_pk, o_bin, v_add, v_lss, v_part_f, v_atK, o_fa, v_fa_p, o_ld, v_ld_p, v_ldC, o_call, e_t, e_k, e_put, e_get, e_res, e_keep_n, e_keep_c, e_keep1_s, Option.getD_some, Nat.reduceEqDiff, cond_false, Bool.false_eq_true, decide_eq_true_eq, St.clr, outV, ownsV, owns1, ownL, List.map_cons, List.map_nil, PV.leaves, List.flatMap_cons, List.flatMap_nil, List.append_nil, List.getElem?_cons_zero, List.getElem?_cons_succ, rl_i, ol_b, m_lf, Nat.zero_add, Nat.add_zero]
        refine wcall_s h55 rfl rfl ?_
        simp -implicitDefEqProofs (maxSteps := 2000000) only [c37, w1, w3, p1, p2, p3, List.map_cons, List.map_nil, ↓reduceIte, s_skip, s_ret, s_ops0, s_seq, s_cond, s_opsK, s_seqK_n, s_cnd, s_nil, s_cons, s_guard, s_wopsK, s_putK, s_grd, s_grd_no, q_mv, q_pk, q_bin, q_fa, q_ld, o_mv, o_as, o_pk, v_pk, o_bin, v_add, v_eql, v_gtr, v_part_f, v_atK, o_fa, v_fa_p, o_ld, v_ld_p, v_ldC, o_bs, v_bsK, v_lit_n, v_lit_c, o_app, v_app_o, e_t, e_k, e_put, e_get, e_res, e_keep_n, e_keep_c, e_keep1_s, List.length_nil, List.length_cons, Option.getD_some, Nat.reduceEqDiff, reduceCtorEq, true_and, and_true, cond_false, Bool.not_true, Bool.not_false, Bool.true_eq_false, Bool.false_eq_true, decide_eq_true_eq, decide_eq_false_iff_not, s_ret_r, s_retX, s_cells_n, t_lf, t_l, t_oo, r_n, r_t, r_cons, one_1, St.clr, outV, ownsV, owns1, ownL, List.map_cons, List.map_nil, Bool.or_false, List.append_nil, List.nil_append, List.all_cons, List.all_nil, Bool.and_true, Bool.true_and, Bool.and_self, PV.cells, datL, Nat.reduceMul, Nat.reduceBEq, Nat.reduceLeDiff, BEq.rfl, List.getElem?_cons_zero, List.getElem?_cons_succ, kp_b, kp_i, kp_s, kp_u, rk_b, rk_i, rk_s, rk_u, rl_i, ol_b, kp_p, rk_p, kp_lo, rk_lo, m_lf, m_n, m_c, m_all, e_asg_o, dw_n, dw_i, plT, lit_n, lit_c, List.reduceReplicate, List.set_cons_zero, Nat.lt_add_one, Nat.zero_add, Nat.add_zero, true_or, or_true, or_false, ite_not]
        done
      · simp only [if_true, List.cons_append, List.nil_append] at hrr
        subst hrr
        simp -implicitDefEqProofs (maxSteps := 2000000) only [c37, w1, w3, p1, p2, p3, ↓reduceIte, s_skip, s_ops0, s_seq, s_cond, s_opsK, s_seqK_n, s_cnd, s_nil, s_cons, s_guard, s_wopsK, s_putK, s_grd, q_mv, q_bin, q_fa, q_ld, o_mv, o_as, o_pk, v_pk, o_bin, v_add, v_lss, v_part_f, v_atK, o_fa, v_fa_p, o_ld, v_ld_p, v_ldC, o_bs, v_bsK, v_lit_n, v_lit_c, o_app, v_app_o, o_call, e_t, e_k, e_put, e_get, e_res, e_keep_n, e_keep_c, e_keep1_s, List.length_nil, List.length_cons, Option.getD_some, Nat.reduceEqDiff, reduceCtorEq, true_and, cond_false, Bool.false_eq_true, decide_eq_true_eq, St.clr, outV, ownsV, owns1, ownL, List.map_cons, List.map_nil, Bool.or_false, PV.leaves, List.flatMap_cons, List.flatMap_nil, List.append_nil, List.nil_append, List.all_cons, List.all_nil, Bool.true_and, Bool.and_self, PV.cells, datL, Nat.reduceMul, Nat.reduceBEq, Nat.reduceLeDiff, BEq.rfl, List.getElem?_cons_zero, List.getElem?_cons_succ, kp_b, kp_i, kp_s, kp_u, rk_b, rk_i, rk_s, rk_u, rl_i, ol_b, kp_p, rk_p, kp_lo, rk_lo, m_lf, m_n, m_c, m_all, e_asg_o, dw_n, dw_i, plT, lit_n, lit_c, List.reduceReplicate, List.set_cons_zero, Nat.lt_add_one, Nat.zero_add, Nat.add_zero, or_false]
        refine wcall_s h55 rfl rfl ?_
        simp -implicitDefEqProofs (maxSteps := 2000000) only [c37, w1, w3, p1, p2, p3, List.map_cons, List.map_nil, ↓reduceIte, s_skip, s_ret, s_ops0, s_seq, s_cond, s_opsK, s_seqK_n, s_cnd, s_nil, s_cons, s_guard, s_wopsK, s_putK, s_grd, s_grd_no, q_mv, q_pk, q_bin, q_fa, q_ld, o_mv, o_as, o_pk, v_pk, o_bin, v_add, v_eql, v_gtr, v_part_f, v_atK, o_fa, v_fa_p, o_ld, v_ld_p, v_ldC, o_bs, v_bsK, v_lit_n, v_lit_c, o_app, v_app_o, e_t, e_k, e_put, e_get, e_res, e_keep_n, e_keep_c, e_keep1_s, List.length_nil, List.length_cons, Option.getD_some, Nat.reduceEqDiff, Nat.reduceAdd, reduceCtorEq, true_and, and_true, cond_false, Bool.not_true, Bool.not_false, Bool.true_eq_false, Bool.false_eq_true, decide_eq_true_eq, decide_eq_false_iff_not, s_ret_r, s_retX, s_cells_n, t_lf, t_l, t_oo, r_n, r_t, r_cons, one_1, St.clr, outV, ownsV, owns1, ownL, List.map_cons, List.map_nil, Bool.or_false, List.append_nil, List.cons_append, List.nil_append, List.all_cons, List.all_nil, Bool.and_true, Bool.true_and, Bool.and_self, PV.cells, datL, Nat.reduceMul, Nat.reduceBEq, Nat.reduceLeDiff, BEq.rfl, List.getElem?_cons_zero, List.getElem?_cons_succ, kp_b, kp_i, kp_s, kp_u, rk_b, rk_i, rk_s, rk_u, rl_i, ol_b, kp_p, rk_p, kp_lo, rk_lo, m_lf, m_n, m_c, m_all, e_asg_o, dw_n, dw_i, plT, lit_n, lit_c, List.reduceReplicate, List.set_cons_zero, Nat.lt_add_one, Nat.zero_add, Nat.add_zero, true_or, or_true, or_false, ite_not]
        done
end Go.Proofs.YthcpaohmajjopaaDoor.I
set_option linter.unusedVariables false
set_option linter.unusedSimpArgs false
namespace Go.Proofs.YthcpaohmajjopaaDoor.I
open Go Go.Proofs.YthcpaohmajjopaaDoor.AM
variable {X : Cx}
theorem r16 (code : List Ins) (sp : List (List L)) (at' : Int) (r : List Int × Int) (hr : goesA code at' = r) :
    R X Tryd.prog 16 [.lf (.lst .ro 9 (code.map Ins.c) sp), .lf (.int .i64 at')] [] (.tp [.lf (.lst (.own 0 3) 1 (r.1.map fun x => [L.int .i64 x]) []), .lf (.int .i64 r.2)]) [] := by
  have h28 := r35 (X := X) code sp
  have hok := fun h => chk_ok (code := code) h
  unfold goesA at hr
  refine R_i [(0, 512)] [] c16_ok rfl (by simp) ?_
  generalize chk capX code = e at *
  simp -implicitDefEqProofs (maxSteps := 2000000) only [c16, ↓reduceIte, s_ops0, s_seq, s_opsK, s_seqK_n, s_nil, s_cons, s_wopsK, o_mv, o_as, o_call, e_t, e_k, e_put, e_get, e_res, e_keep_n, e_keep_c, e_keep1_s, e_asg_i, St.init, enum, List.length_nil, Option.getD_some, Nat.reduceEqDiff, reduceCtorEq, List.map_cons, List.map_nil, PV.leaves, List.flatMap_cons, List.flatMap_nil, List.append_nil, Nat.reduceMul, kp_i, kp_lro, rl_l, m_lf, m_n, m_c, m_all, e_asg_n, plT, Nat.zero_add, Nat.add_zero]
  refine wcall_s h28 rfl rfl ?_
  have hl : (code.map Ins.c).length = code.length := List.length_map _
  by_cases h : e.2 = 0
  · rw [if_neg (by omega)] at hr
    have hc := hok h
    have hlen := hc.len
    simp -implicitDefEqProofs (maxSteps := 2000000) only [c16, h, hl, ↓reduceIte, s_skip, s_ret, s_ops0, s_seq, s_cond, s_opsK, s_seqK_n, s_seqK_r, s_cnd, s_nil, s_cons, s_guard, s_wopsK, s_putK, s_grd, q_mv, q_bin, q_len, o_mv, o_as, o_pk, v_pk, o_bin, v_neq, v_lss, v_geq, o_ext, v_ext0, v_ext1, o_len, v_len, o_call, e_t, e_k, e_put, e_get, e_res, e_keep_n, e_keep_c, e_keep1_s, e_asg_i, Option.getD_some, Nat.reduceEqDiff, reduceCtorEq, true_and, and_true, cond_false, Bool.not_false, Bool.true_eq_false, Bool.false_eq_true, decide_eq_true_eq, decide_eq_false_iff_not, s_ret_r, s_retX, s_cells_n, t_tp, t_n, t_c, t_1l, t_i, t_l, t_oo, r_n, r_t, r_cons, one_2, St.clr, outV, ownsV, owns1, ownL, List.map_cons, List.map_nil, List.any_cons, List.any_nil, Bool.or_self, PV.leaves, List.flatMap_cons, List.flatMap_nil, List.append_nil, List.cons_append, List.nil_append, Bool.and_true, Bool.true_and, Nat.reduceMul, kp_b, kp_i, rl_i, ol_i, kp_lro, rl_l, m_lf, m_tp, m_1l, m_n, m_c, m_all, e_asg_n, plT, ne_eq, Nat.add_zero, true_or, or_true, ite_not]
    with_reducible refine ite_pr (fun h1 => ?_) (fun h1 => ?_)
    · rw [if_pos (by omega)] at hr
      subst hr
      simp -implicitDefEqProofs (maxSteps := 2000000) only [List.map_nil, ↓reduceIte, and_true, List.map_nil, Bool.and_true]
    intro _
    with_reducible refine ite_pr (fun h2 => ?_) (fun h2 => ?_)
    · rw [if_pos (by omega)] at hr
      subst hr
      simp -implicitDefEqProofs (maxSteps := 2000000) only [List.map_nil, ↓reduceIte, and_true, List.map_nil, Bool.and_true]
    rw [if_neg (by omega)] at hr
    subst hr
    obtain ⟨i, rfl⟩ : ∃ i : Nat, at' = i := ⟨at'.toNat, by omega⟩
    refine wcall_flat (r37 hc sp i (by omega)) rfl (flat_int1 _) ?_
    rw [Int.toNat_natCast]
    simp -implicitDefEqProofs (maxSteps := 2000000) only [c16, ↓reduceIte, s_ret, s_opsK, s_seqK_n, s_nil, s_cons, s_wopsK, o_as, e_t, e_k, e_put, e_get, e_res, e_keep_n, e_keep_c, e_keep1_s, e_asg_i, Option.getD_some, Nat.reduceEqDiff, Nat.reduceAdd, true_and, and_true, Bool.false_eq_true, s_ret_r, s_retX, s_cells_n, t_tp, t_n, t_c, t_1l, t_i, t_l, t_oo, r_n, r_t, r_cons, one_2, St.clr, outV, ownsV, owns1, ownL, Bool.and_true, Bool.true_and, Nat.reduceMul, Nat.reduceBEq, BEq.rfl, kps_b, kps_i, rk_b, rk_i, kps_lro, rk_lro, rk_lo, ol_lo, m_lf, m_n, m_c, m_all, e_asg_o, plT, Nat.add_zero, true_or, or_true]
    done
  · rw [if_pos h] at hr
    subst hr
    simp -implicitDefEqProofs (maxSteps := 2000000) only [c16, h, List.map_nil, ↓reduceIte, s_ret, s_ops0, s_seq, s_cond, s_opsK, s_seqK_n, s_seqK_r, s_cnd, s_nil, s_cons, s_wopsK, s_putK, o_mv, o_as, o_bin, v_neq, o_ext, v_ext0, v_ext1, e_t, e_k, e_put, e_get, e_res, e_keep_n, e_keep_c, e_keep1_s, e_asg_i, Option.getD_some, Nat.reduceEqDiff, reduceCtorEq, true_and, and_true, Bool.false_eq_true, decide_eq_true_eq, s_ret_r, s_retX, s_cells_n, t_tp, t_n, t_c, t_1l, t_i, t_l, t_oo, r_n, r_t, r_cons, one_2, St.clr, outV, ownsV, owns1, ownL, List.map_cons, List.map_nil, List.any_cons, List.any_nil, Bool.or_self, Bool.and_true, Bool.true_and, Nat.reduceMul, kp_b, kp_i, ol_i, kp_lro, m_lf, m_tp, m_1l, m_n, m_c, m_all, e_asg_n, plT, ne_eq, not_false_eq_true, Nat.add_zero, true_or, or_true]
    done
theorem r19 (a : List Int) (sp sp' : List (List L)) :
    R X Tryd.prog 19 [.lf (.lst .ro 1 (a.map fun x => [L.int .i64 x]) sp), .lf (.lst .ro 1 (a.map fun x => [L.int .i64 x]) sp')] [] (.lf (.bool true)) [] := by
  refine R_i [] [] c19_ok rfl (by simp) ?_
  generalize hls : (a.map fun x => [L.int .i64 x]) = ls
  have hl : ls.length = a.length := by rw [← hls, List.length_map]
  have key : ∀ (n i : Nat), a.length ≤ 9223372036854775807 → i + n = a.length → LoopAt X Tryd.prog c19_10 [0, 1, 5] (blkK 0 (seqK X Tryd.prog c19_14 (retS [] [] 0 [RV.t 4] (PV.lf (L.bool true)) [])))
      { m := 0, tm := [(0, PV.lf (L.lst Tag.ro 1 ls sp)), (1, PV.lf (L.lst Tag.ro 1 ls sp')), (5, PV.lf (L.int IntKind.i64 i))], ce := [] } := by
    intro n
    induction n with
    | zero =>
      intro i hm hi
      intro Z hZ; apply hZ
      have h1 : ¬ (i : Int) < (a.length : Int) := by omega
      simp -implicitDefEqProofs (maxSteps := 2000000) only [c19, hl, h1, ↓reduceIte, s_exit, s_ret, s_ops0, s_seq, s_cond, s_opsK, s_seqK_n, s_seqK_e, s_blkK_e, s_loopK_e, s_cnd, s_nil, s_cons, s_wopsK, s_putK, o_mv, o_as, o_bin, v_lss, o_len, v_len, e_t, e_k, e_put, e_get, e_res, e_keep_n, e_keep_c, e_keep1_s, e_asg_b, Option.getD_some, Nat.reduceEqDiff, reduceCtorEq, and_true, decide_eq_true_eq, s_ret_r, s_retX, s_cells_n, t_lf, t_b, r_n, r_t, r_cons, one_1, Bool.and_true, implies_true]
      done
    | succ n ih =>
      intro i hm hi
      intro Z hZ; apply hZ
      have h1 : (i : Int) < (a.length : Int) := by omega
      have hg : ls.getD i [] = [L.int .i64 (a[i]'(by omega))] := by rw [← hls]; simp [List.getD_eq_getElem?_getD, show i < a.length by omega]
      have w1 : IntKind.i64.wrap ((i : Int) + 1) = ((i + 1 : Nat) : Int) := by rw [w64 (by omega) (by omega)]; omega
      simp -implicitDefEqProofs (maxSteps := 2000000) only [c19, hl, h1, Int.toNat_natCast, v_ld_e, hg, w1, ↓reduceIte, s_skip, s_ret, s_ops0, s_ops2, s_seq, s_cond, s_block, s_opsK, s_seqK_n, s_seqK_r, s_blkK_n, s_blkK_r, s_loopK_n, s_loopK_r, s_cnd, s_nil, s_cons, s_wopsK, s_wopsqK, s_putK, s_qnil, s_qcons, q_mv, q_bin, q_ia, q_ld, o_mv, o_as, o_bin, v_add, v_neq, v_lss, v_part_f, v_atK, o_ia, v_ia, o_ld, o_len, v_len, e_t, e_k, e_put, e_get, e_res, e_keep_n, e_keep_c, e_keep1_s, e_asg_b, e_asg_i, Option.getD_some, Nat.reduceEqDiff, reduceCtorEq, true_and, and_true, Bool.false_eq_true, decide_eq_true_eq, s_ret_r, s_retX, s_cells_n, t_lf, t_b, r_n, r_t, r_cons, one_1, List.append_nil, Bool.and_true, Bool.true_and, List.getElem?_cons_zero, e_head, e_headK, kC_n, pO_n, pO_i, pO_l, List.range_zero, ne_eq, ite_not]
      intro _
      refine ⟨⟨by omega, by omega⟩, by omega, ⟨by omega, by omega⟩, by omega, ?_⟩
      exact ih (i + 1) hm (by omega) Z hZ
  simp -implicitDefEqProofs (maxSteps := 2000000) only [c19, hl, ↓reduceIte, s_skip, s_ret, s_ops0, s_seq, s_cond, s_block, s_loop, s_opsK, s_seqK_n, s_seqK_r, s_cnd, s_nil, s_cons, s_wopsK, s_putK, o_mv, o_as, o_bin, v_neq, o_len, v_len, e_t, e_k, e_put, e_get, e_res, e_keep_n, e_keep_c, e_keep1_s, e_asg_b, e_asg_i, St.init, enum, List.length_nil, Option.getD_some, Nat.reduceEqDiff, reduceCtorEq, true_and, and_true, Bool.false_eq_true, decide_eq_true_eq, s_ret_r, s_retX, s_cells_n, t_lf, t_b, r_n, r_t, r_cons, one_1, List.append_nil, Bool.and_true, Bool.true_and, e_head, e_headK, kC_n, pO_n, pO_i, pO_l, List.range_zero, ne_eq, Nat.zero_add, ite_not]
  intro hm _
  exact key a.length 0 (by omega) (by omega)
theorem r20 (a : List Bool) (sp sp' : List (List L)) :
    R X Tryd.prog 20 [.lf (.lst .ro 1 (a.map fun x => [L.bool x]) sp), .lf (.lst .ro 1 (a.map fun x => [L.bool x]) sp')] [] (.lf (.bool true)) [] := by
  refine R_i [] [] c20_ok rfl (by simp) ?_
  generalize hls : (a.map fun x => [L.bool x]) = ls
  have hl : ls.length = a.length := by rw [← hls, List.length_map]
  have key : ∀ (n i : Nat), a.length ≤ 9223372036854775807 → i + n = a.length → LoopAt X Tryd.prog c20_10 [0, 1, 5] (blkK 0 (seqK X Tryd.prog c20_14 (retS [] [] 0 [RV.t 4] (PV.lf (L.bool true)) [])))
      { m := 0, tm := [(0, PV.lf (L.lst Tag.ro 1 ls sp)), (1, PV.lf (L.lst Tag.ro 1 ls sp')), (5, PV.lf (L.int IntKind.i64 i))], ce := [] } := by
    intro n
    induction n with
    | zero =>
      intro i hm hi
      intro Z hZ; apply hZ
      have h1 : ¬ (i : Int) < (a.length : Int) := by omega
      simp -implicitDefEqProofs (maxSteps := 2000000) only [c20, hl, h1, ↓reduceIte, s_exit, s_ret, s_ops0, s_seq, s_cond, s_opsK, s_seqK_n, s_seqK_e, s_blkK_e, s_loopK_e, s_cnd, s_nil, s_cons, s_wopsK, s_putK, o_mv, o_as, o_bin, v_lss, o_len, v_len, e_t, e_k, e_put, e_get, e_res, e_keep_n, e_keep_c, e_keep1_s, e_asg_b, Option.getD_some, Nat.reduceEqDiff, reduceCtorEq, and_true, decide_eq_true_eq, s_ret_r, s_retX, s_cells_n, t_lf, t_b, r_n, r_t, r_cons, one_1, Bool.and_true, implies_true]
      done
    | succ n ih =>
      intro i hm hi
      intro Z hZ; apply hZ
      have h1 : (i : Int) < (a.length : Int) := by omega
      have hg : ls.getD i [] = [L.bool (a[i]'(by omega))] := by rw [← hls]; simp [List.getD_eq_getElem?_getD, show i < a.length by omega]
      have w1 : IntKind.i64.wrap ((i : Int) + 1) = ((i + 1 : Nat) : Int) := by rw [w64 (by omega) (by omega)]; omega
      simp -implicitDefEqProofs (maxSteps := 2000000) only [c20, hl, h1, Int.toNat_natCast, v_ld_e, hg, w1, ↓reduceIte, s_skip, s_ops0, s_ops2, s_seq, s_cond, s_block, s_opsK, s_seqK_n, s_blkK_n, s_loopK_n, s_cnd, s_nil, s_cons, s_wopsK, s_wopsqK, s_putK, s_qnil, s_qcons, q_mv, q_bqb, q_ia, q_ld, o_mv, o_as, o_bin, v_add, v_lss, o_bqb, v_bqb, v_part_f, v_atK, o_ia, v_ia, o_ld, o_len, v_len, e_t, e_k, e_put, e_get, e_res, e_keep_n, e_keep_c, e_keep1_s, e_asg_i, Option.getD_some, Nat.reduceEqDiff, reduceCtorEq, true_and, Bool.not_true, Bool.false_eq_true, decide_eq_true_eq, List.append_nil, Bool.true_and, BEq.rfl, List.getElem?_cons_zero, e_head, e_headK, kC_n, pO_n, pO_i, pO_l, List.range_zero]
      intro _
      refine ⟨⟨by omega, by omega⟩, by omega, ⟨by omega, by omega⟩, by omega, ?_⟩
      exact ih (i + 1) hm (by omega) Z hZ
  simp -implicitDefEqProofs (maxSteps := 2000000) only [c20, hl, ↓reduceIte, s_skip, s_ret, s_ops0, s_seq, s_cond, s_block, s_loop, s_opsK, s_seqK_n, s_seqK_r, s_cnd, s_nil, s_cons, s_wopsK, s_putK, o_mv, o_as, o_bin, v_neq, o_len, v_len, e_t, e_k, e_put, e_get, e_res, e_keep_n, e_keep_c, e_keep1_s, e_asg_b, e_asg_i, St.init, enum, List.length_nil, Option.getD_some, Nat.reduceEqDiff, reduceCtorEq, true_and, and_true, Bool.false_eq_true, decide_eq_true_eq, s_ret_r, s_retX, s_cells_n, t_lf, t_b, r_n, r_t, r_cons, one_1, List.append_nil, Bool.and_true, Bool.true_and, e_head, e_headK, kC_n, pO_n, pO_i, pO_l, List.range_zero, ne_eq, Nat.zero_add, ite_not]
  intro hm _
  exact key a.length 0 (by omega) (by omega)
end Go.Proofs.YthcpaohmajjopaaDoor.I
set_option linter.unusedVariables false
set_option linter.unusedSimpArgs false
namespace Go.Proofs.YthcpaohmajjopaaDoor.I
open Go Go.Proofs.YthcpaohmajjopaaDoor.AM
variable {X : Cx}
/-- the spare instruction behind a lent code -/
def spI : List L := [.int .i64 (-77), .int .i64 0, .int .i64 0, .int .i64 0, .str ⟨#[]⟩, .int .u64 0, .int .u64 0, .int .u64 0, .int .u64 0]
theorem r14 (code : List Ins) (sp : List (List L)) (hl80 : code.length * 80 ≤ 140737488351232) :
    R X Tryd.prog 14 [.lf (.lst .ro 9 (code.map Ins.c) sp)] [] (.lf (.lst (.own 0 52) 9 (code.map Ins.c) [spI])) [] := by
  refine R_i [(0, 256)] [] c14_ok rfl (by simp) ?_
  have hl : (code.map Ins.c).length = code.length := List.length_map _
  have e1 : ((code.map Ins.c) ++ [spI]).take code.length = code.map Ins.c := List.take_left' hl
  have e2 : ((code.map Ins.c) ++ [spI]).drop code.length = [spI] := List.drop_left' hl
  simp -implicitDefEqProofs (maxSteps := 2000000) only [c14, hl, ↓reduceIte, s_ret, s_ops0, s_seq, s_opsK, s_seqK_n, s_nil, s_cons, s_wopsK, s_putK, o_mv, o_as, o_bd, v_agK, v_bd_n, v_bd_c, o_bs, v_bsK, v_lit_n, v_lit_c, o_len, v_len, o_app, v_app_o, o_sll, v_sll_b, e_t, e_k, e_put, e_get, e_res, e_keep_n, e_keep_c, e_keep1_s, St.init, enum, List.length_nil, List.length_cons, Option.getD_some, Option.map_some, Option.map_none, Nat.reduceEqDiff, Nat.reduceAdd, reduceCtorEq, true_and, and_true, Bool.false_eq_true, s_ret_r, s_retX, s_cells_n, t_lf, t_l, t_oo, r_n, r_t, r_cons, one_1, List.map_cons, List.map_nil, Bool.or_false, Bool.false_or, List.append_nil, List.cons_append, List.nil_append, List.all_cons, List.all_nil, Bool.and_true, Bool.true_and, Bool.and_self, PV.cells, cellL, datL, fillL, Nat.reduceMul, Nat.reduceBEq, Nat.reduceLeDiff, Nat.zero_le, BEq.rfl, List.take_zero, List.drop_zero, List.drop_succ_cons, kp_i, kp_s, kp_u, rk_i, rk_s, rk_u, rl_i, rl_s, kp_lro, rk_lro, kp_lo, rk_lo, m_lf, m_ag, m_n, m_c, m_all, e_asg_n, e_asg_o, dw_n, dw_i, dw_s, plT, ne_eq, not_false_eq_true, Int.reduceNeg, lit_n, lit_c, List.reduceReplicate, List.set_cons_zero, List.length_append, Nat.lt_add_one, Nat.zero_add, Nat.add_zero, true_or, or_false, false_or]
  rw [Int.toNat_natCast]
  exact ⟨by omega, by omega, fun _ => ⟨⟨by omega, by omega⟩, e1, e2.symm⟩⟩
theorem r21 (code : List Ins) (sp sp' : List (List L)) (hl80 : code.length * 80 ≤ 140737488351232) :
    R X Tryd.prog 21 [.lf (.lst .ro 9 (code.map Ins.c) (spI :: sp)), .lf (.lst .ro 9 (code.map Ins.c) sp')] [] (.lf (.bool true)) [] := by
  refine R_i [] [] c21_ok rfl (by simp) ?_
  have hl : (code.map Ins.c).length = code.length := List.length_map _
  have h11 := r11 (X := X) code code (spI :: sp) sp'
  rw [sameL_self] at h11
  have w1 : IntKind.i64.wrap ((code.length : Int) + 1) = ((code.length + 1 : Nat) : Int) := by rw [w64 (by omega) (by omega)]; omega
  have e0 : code.map Ins.c ++ spI :: sp = (code.map Ins.c ++ [spI]) ++ sp := by simp
  have e1 : (code.map Ins.c ++ spI :: sp).take (code.length + 1) = code.map Ins.c ++ [spI] := by rw [e0]; exact List.take_left' (by simp)
  have e2 : (code.map Ins.c ++ spI :: sp).drop (code.length + 1) = sp := by rw [e0]; exact List.drop_left' (by simp)
  have e3 : (code.map Ins.c ++ [spI]).getD code.length [] = [.int .i64 (-77), .int .i64 0, .int .i64 0, .int .i64 0, .str ⟨#[]⟩, .int .u64 0, .int .u64 0, .int .u64 0, .int .u64 0] := by
    rw [List.getD_eq_getElem?_getD, List.getElem?_append_right (by rw [hl]; exact Nat.le_refl _), hl]; simp; rfl
  have e4 : (code.map Ins.c ++ [spI]).length = code.length + 1 := by rw [List.length_append, hl]; rfl
  simp -implicitDefEqProofs (maxSteps := 2000000) only [c21, hl, ↓reduceIte, s_ops0, s_seq, s_opsK, s_seqK_n, s_nil, s_cons, s_wopsK, o_mv, o_as, o_call, e_t, e_k, e_put, e_get, e_res, e_keep_n, e_keep_c, e_keep1_s, e_asg_b, St.init, enum, List.length_nil, Option.getD_some, Nat.reduceEqDiff, reduceCtorEq, List.map_cons, List.map_nil, PV.leaves, List.flatMap_cons, List.flatMap_nil, List.append_nil, List.cons_append, List.nil_append, rl_l, m_lf, Int.reduceNeg, Nat.zero_add]
  refine wcall_s h11 rfl rfl ?_
  simp -implicitDefEqProofs (maxSteps := 2000000) only [c21, hl, w1, Int.toNat_natCast, e1, e2, e3, e4, v_ld_e, ↓reduceIte, s_ret, s_opsK, s_seqK_n, s_nil, s_cons, s_guard, s_wopsK, s_putK, s_grd, q_mv, q_bin, q_beq, q_ia, q_ld, q_bd, q_len, q_sll, o_mv, o_as, o_pk, v_pk, o_bin, v_add, o_beq, v_part_t, o_ia, v_ia, o_ld, o_bd, v_agK, v_bd_n, v_bd_c, o_len, v_len, o_sll, v_sll_b, e_t, e_k, e_put, e_get, e_res, e_keep_n, e_keep_c, e_keep1_s, e_asg_b, List.length_nil, List.length_cons, Option.getD_some, Option.map_some, Option.map_none, Nat.reduceEqDiff, Nat.reduceAdd, reduceCtorEq, true_and, and_true, cond_false, Bool.false_eq_true, decide_eq_true_eq, s_ret_r, s_retX, s_cells_n, t_lf, t_b, r_n, r_t, r_cons, one_1, St.clr, outV, ownsV, owns1, ownL, List.map_cons, List.map_nil, List.cons_append, List.nil_append, List.all_cons, List.all_nil, Bool.and_true, Bool.true_and, Bool.and_self, PV.cells, cellL, fillL, Nat.reduceLeDiff, Nat.le_refl, List.take_zero, List.drop_zero, List.take_succ_cons, List.drop_succ_cons, List.take_nil, ol_b, m_lf, ne_eq, not_false_eq_true, Int.reduceNeg, Nat.lt_add_one, Nat.zero_add, v_beqK, v_andO, v_beqA, q_i, q_s, q_1, q_c, kd_i, kd_s]
  intro _
  refine ⟨⟨by omega, by omega⟩, ?_⟩
  intro _
  omega
end Go.Proofs.YthcpaohmajjopaaDoor.I
set_option linter.unusedVariables false
set_option linter.unusedSimpArgs false
namespace Go.Proofs.YthcpaohmajjopaaDoor.I
open Go Go.Proofs.YthcpaohmajjopaaDoor.AM
variable {X : Cx}
/-- what holds while the reference searches: ws is still to be gone from; of i0's ways td are still to be looked at -/
structure BI (code : List Ins) (bs : List Bool) (ws : List Int) (i0 : Nat) (td : List Int) : Prop where
  len : bs.length = code.length
  mks : ∀ i, bs[i]? = some true → Reach code i
  wk : ∀ z ∈ ws, ∃ i : Nat, z = i ∧ bs[i]? = some true
  zr : bs[0]? = some true
  cl : ∀ i : Nat, bs[i]? = some true → (i : Int) ∈ ws ∨ ∀ z ∈ gAt code i, bs[z.toNat]? = some true ∨ (i = i0 ∧ z ∈ td)
  td : ∀ z ∈ td, ∃ i : Nat, z = i ∧ i < code.length ∧ Reach code i
theorem BI.pop {code : List Ins} {bs : List Bool} {ws : List Int} {i0 i : Nat} (hc : CodeOK code) (h : BI code bs ((i : Int) :: ws) i0 []) : BI code bs ws i (gAt code i) := by
  refine ⟨h.len, h.mks, fun z hz => h.wk z (by simp [hz]), h.zr, fun j hj => ?_, fun z hz => ?_⟩
  · rcases h.cl j hj with h1 | h1
    · rcases List.mem_cons.1 h1 with h2 | h2
      · have : j = i := by omega
        subst this
        exact .inr fun z hz => .inr ⟨rfl, hz⟩
      · exact .inl h2
    · exact .inr fun z hz => (h1 z hz).imp id (fun h => by simp at h)
  · have h1 := gAt_range hc hz
    obtain ⟨j, hj, hb⟩ := h.wk i (by simp)
    have : j = i := by omega
    subst this
    exact ⟨z.toNat, by omega, by omega, .step (h.mks j hb) (by rw [Int.toNat_of_nonneg h1.1]; exact hz)⟩
theorem BI.skip {code : List Ins} {bs : List Bool} {ws td : List Int} {i0 j : Nat} (h : BI code bs ws i0 ((j : Int) :: td)) (hb : bs[j]? = some true) : BI code bs ws i0 td := by
  refine ⟨h.len, h.mks, h.wk, h.zr, fun i hi => ?_, fun z hz => h.td z (by simp [hz])⟩
  rcases h.cl i hi with h1 | h1
  · exact .inl h1
  · refine .inr fun z hz => ?_
    rcases h1 z hz with h2 | ⟨h2, h3⟩
    · exact .inl h2
    · rcases List.mem_cons.1 h3 with h4 | h4
      · subst h4; exact .inl (by simpa using hb)
      · exact .inr ⟨h2, h4⟩
theorem BI.mark {code : List Ins} {bs : List Bool} {ws td : List Int} {i0 j : Nat} (h : BI code bs ws i0 ((j : Int) :: td)) : BI code (bs.set j true) (ws ++ [(j : Int)]) i0 td := by
  obtain ⟨j', e, hj, hr⟩ := h.td j (by simp)
  have : j' = j := by omega
  subst this
  have hjl : j' < bs.length := by rw [h.len]; exact hj
  have old : ∀ i : Nat, bs[i]? = some true → (bs.set j' true)[i]? = some true := by
    intro i hi
    rw [List.getElem?_set]
    split
    · rename_i e; subst e; simp [hjl]
    · exact hi
  have new : (bs.set j' true)[j']? = some true := by rw [List.getElem?_set]; simp [hjl]
  refine ⟨by rw [List.length_set]; exact h.len, fun i hi => ?_, fun z hz => ?_, old 0 h.zr, fun i hi => ?_, fun z hz => h.td z (by simp [hz])⟩
  · rw [List.getElem?_set] at hi
    split at hi
    · rename_i e; subst e; exact hr
    · exact h.mks i hi
  · rcases List.mem_append.1 hz with h1 | h1
    · obtain ⟨i, h2, h3⟩ := h.wk z h1
      exact ⟨i, h2, old i h3⟩
    · simp at h1; subst h1; exact ⟨j', rfl, new⟩
  · by_cases e : j' = i
    · subst e; exact .inl (by simp)
    · rw [List.getElem?_set, if_neg e] at hi
      rcases h.cl i hi with h1 | h1
      · exact .inl (by simp [h1])
      · refine .inr fun z hz => ?_
        rcases h1 z hz with h2 | ⟨h2, h3⟩
        · exact .inl (old _ h2)
        · rcases List.mem_cons.1 h3 with h4 | h4
          · subst h4; exact .inl (by simpa using new)
          · exact .inr ⟨h2, h4⟩
theorem BI.fin {code : List Ins} {bs : List Bool} {i0 : Nat} (h : BI code bs [] i0 []) : bs = liveL code := by
  have all : ∀ i, Reach code i → bs[i]? = some true := by
    intro i hi
    induction hi with
    | zero => exact h.zr
    | step _ h2 ih =>
      rcases h.cl _ ih with h1 | h1
      · simp at h1
      · have := (h1 _ h2).resolve_right (by simp)
        simpa using this
  apply List.ext_getElem?
  intro i
  rw [live_get]
  split
  · rename_i hi
    have h1 : i < bs.length := by rw [h.len]; exact hi
    by_cases hr : Reach code i
    · rw [all i hr, @decide_eq_true _ (Classical.propDecidable _) hr]
    · rw [@decide_eq_false _ (Classical.propDecidable _) hr, List.getElem?_eq_getElem h1]
      cases hb : bs[i] with
      | false => rfl
      | true => exact absurd (h.mks i (by rw [List.getElem?_eq_getElem h1, hb])) hr
  · rename_i hi
    rw [List.getElem?_eq_none_iff, h.len]
    omega
theorem r18 (code : List Ins) (sp : List (List L)) (r : List Bool × Int) (hr : (if (chk capX code).2 = 0 then (liveL code, 0) else ([], (chk capX code).2)) = r) :
    R X Tryd.prog 18 [.lf (.lst .ro 9 (code.map Ins.c) sp)] [] (.tp [.lf (.lst (.own 0 4) 1 (r.1.map fun b => [L.bool b]) []), .lf (.int .i64 r.2)]) [] := by
  have h28 := r35 (X := X) code sp
  by_cases h : (chk capX code).2 = 0
  · rw [if_pos h] at hr
    have hc := chk_ok h
    have hlen := hc.len
    have hl : (code.map Ins.c).length = code.length := List.length_map _
    have key : ∀ (N : Nat) (bs : List Bool) (ws : List Int) (os ls : List (List L)) (tg : Tag) (i0 : Nat), (tg = .own 896 3 ∨ tg = .vw 896 ∨ tg = .vw 7680) → os = (bs.map fun b => [L.bool b]) → ls = (ws.map fun x => [L.int .i64 x]) → 2 * cf bs + ws.length = N → N ≤ 2 * code.length + 1 → BI code bs ws i0 [] →
        LoopAt X Tryd.prog c18_20 [0, 6, 7] (blkK 0 (seqK X Tryd.prog c18_23 (retS [(0, 256)] [] 0 [RV.t 2, RV.t 3] (PV.tp [PV.lf (L.lst (Tag.own 0 4) 1 (List.map (fun b => [L.bool b]) r.1) []), PV.lf (L.int IntKind.i64 r.2)]) [])))
          { m := 0, tm := [(0, PV.lf (L.lst Tag.ro 9 (List.map Ins.c code) sp)), (6, PV.lf (L.lst (Tag.own 768 4) 1 os [])), (7, PV.lf (L.lst tg 1 ls []))], ce := [] } := by
      intro N
      induction N using Nat.strongRecOn with
      | _ N ih =>
        intro bs ws os ls tg i0 htg hos hls hN hNle hinv
        intro Z hZ; apply hZ
        have hll : ls.length = ws.length := by rw [hls, List.length_map]
        have hcf := cf_le bs
        have hbl := hinv.len
        cases ws with
        | nil =>
          have hls0 : ls = [] := by rw [hls]; rfl
          subst hls0
          have hfin := hinv.fin
          subst hos hr
          rcases htg with rfl | rfl | rfl
          all_goals
            simp -implicitDefEqProofs (maxSteps := 2000000) only [c18, ↓reduceIte, s_skip, s_exit, s_ret, s_ops0, s_seq, s_cond, s_block, s_opsK, s_seqK_n, s_seqK_e, s_blkK_e, s_loopK_e, s_cnd, s_nil, s_cons, s_wopsK, s_putK, o_mv, o_as, o_bin, v_gtr, o_ia, v_ia, o_ld, o_len, v_len, e_t, e_k, e_put, e_get, e_res, e_keep_n, e_keep_c, e_keep1_s, e_asg_i, List.length_nil, Option.getD_some, Nat.reduceEqDiff, reduceCtorEq, true_and, and_true, Bool.false_eq_true, decide_eq_true_eq, s_ret_r, s_retX, s_cells_n, t_tp, t_n, t_c, t_1l, t_i, t_l, t_oo, r_n, r_t, r_cons, one_2, Bool.and_true, Bool.true_and, Nat.reduceMul, Nat.reduceBEq, Nat.zero_le, BEq.rfl, rk_b, rk_lro, rk_lo, rk_lv, m_lf, m_n, m_c, m_all, e_asg_o, plT, Nat.add_zero, true_or, or_true, forall_const]
            rw [hfin]
            rfl
        | cons z ws =>
          obtain ⟨i, rfl, hbi⟩ := hinv.wk z (by simp)
          have hi : i < code.length := by have := (List.getElem?_eq_some_iff.1 hbi).1; omega
          have hpop := hinv.pop hc
          generalize hls' : (ws.map fun x => [L.int .i64 x]) = ls'
          have hlse : ls = [L.int .i64 i] :: ls' := by rw [hls, ← hls']; rfl
          subst hlse
          clear hls
          have hll' : ls'.length = ws.length := by rw [← hls', List.length_map]
          have hlt : (0 : Int) < ((ls'.length + 1 : Nat) : Int) := by omega
          have inn : ∀ (td pre : List Int) (kk : Nat) (gs : List (List L)) (bs : List Bool) (ws : List Int) (os ls : List (List L)) (q : Nat), kk = pre.length → gs = ((gAt code i).map fun x => [L.int .i64 x]) → gAt code i = pre ++ td → (q = 896 ∨ q = 7680) → os = (bs.map fun b => [L.bool b]) → ls = (ws.map fun x => [L.int .i64 x]) → 2 * cf bs + ws.length < N → BI code bs ws i td →
              LoopAt X Tryd.prog c18_13 [0, 6, 7, 8, 9] (blkK 2 (blkK 1 (loopK [0, 6, 7] (blkK 0 (seqK X Tryd.prog c18_23 (retS [(0, 256)] [] 0 [RV.t 2, RV.t 3] (PV.tp [PV.lf (L.lst (Tag.own 0 4) 1 (List.map (fun b => [L.bool b]) r.1) []), PV.lf (L.int IntKind.i64 r.2)]) []))) Z)))
                { m := 0, tm := [(0, PV.lf (L.lst Tag.ro 9 (List.map Ins.c code) sp)), (6, PV.lf (L.lst (Tag.own 768 4) 1 os [])), (7, PV.lf (L.lst (.vw q) 1 ls [])), (8, PV.lf (L.lst (Tag.own 1024 3) 1 gs [])), (9, PV.lf (L.int IntKind.i64 kk))], ce := [] } := by
            intro td
            induction td with
            | nil =>
              intro pre kk gs bs ws os ls q hkk hgs hg hq hos hls hN hinv
              intro Z2 hZ2; apply hZ2
              have hlg : gs.length = pre.length := by rw [hgs, List.length_map, hg, List.append_nil]
              have hll : ls.length = ws.length := by rw [hls, List.length_map]
              subst hkk
              have hn : ¬ (pre.length : Int) < (pre.length : Int) := by omega
              simp -implicitDefEqProofs (maxSteps := 2000000) only [c18, hlg, hn, hll, ↓reduceIte, s_exit, s_ops0, s_seq, s_cond, s_opsK, s_seqK_n, s_seqK_e, s_blkK_n, s_blkK_e, s_loopK_n, s_loopK_e, s_cnd, s_nil, s_cons, s_wopsK, s_putK, o_mv, o_bin, v_lss, o_len, v_len, e_t, e_put, e_get, e_res, e_keep_n, e_keep_c, e_keep1_s, Option.getD_some, Nat.reduceEqDiff, reduceCtorEq, decide_eq_true_eq, List.append_nil, e_head, e_headK, kC_n, pO_n, pO_l, List.range_zero]
              intro _
              exact ih _ hN bs ws os ls (.vw q) i (.inr (hq.imp (fun h => by rw [h]) (fun h => by rw [h]))) hos hls rfl (by omega) hinv Z hZ
            | cons z td ihk =>
              intro pre kk gs bs ws os ls q hkk hgs hg hq hos hls hN hinv
              intro Z2 hZ2; apply hZ2
              obtain ⟨j, rfl, hj, hrj⟩ := hinv.td z (by simp)
              have hbl := hinv.len
              have hcf := cf_le bs
              have hgl := gAt_len code i
              have hgl2 : (gAt code i).length = pre.length + (td.length + 1) := by rw [hg, List.length_append, List.length_cons]
              have hlg : gs.length = pre.length + (td.length + 1) := by rw [hgs, List.length_map, hgl2]
              have hll : ls.length = ws.length := by rw [hls, List.length_map]
              have hol : os.length = code.length := by rw [hos, List.length_map, hbl]
              have hlt2 : (pre.length : Int) < ((pre.length + (td.length + 1) : Nat) : Int) := by omega
              subst hkk
              have hgd : gs.getD pre.length [] = [L.int .i64 j] := by rw [hgs, hg]; simp [List.getD_eq_getElem?_getD]
              have hjb : j < bs.length := by omega
              have hob : os.getD j [] = [L.bool (bs[j]'(by omega))] := by rw [hos]; simp [List.getD_eq_getElem?_getD, show j < bs.length by omega]
              have hbj : bs[j]? = some bs[j] := List.getElem?_eq_getElem hjb
              have w1 : IntKind.i64.wrap ((pre.length : Int) + 1) = ((pre.length + 1 : Nat) : Int) := by rw [w64 (by omega) (by omega)]; omega
              have hws : wrS j 0 [L.bool true] code.length [] = [] := by unfold wrS; rw [if_pos hj]
              have hwx : wrX j 0 [L.bool true] os = (bs.set j true).map fun b => [L.bool b] := by rw [hos, wrX_bools]
              have hg' : gAt code i = (pre ++ [(j : Int)]) ++ td := by rw [hg]; simp
              rcases hq with rfl | rfl
              all_goals
                simp -implicitDefEqProofs (maxSteps := 2000000) only [c18, hlg, hll, hol, hlt2, Int.toNat_natCast, v_ld_e, hgd, hob, decide_true, hws, hwx, w1, ↓reduceIte, s_skip, s_ops0, s_seq, s_cond, s_block, s_opsK, s_seqK_n, s_blkK_n, s_loopK_n, s_cnd, s_nil, s_cons, s_wopsK, s_putK, o_mv, o_as, o_bin, v_add, v_lss, o_un, v_not, v_part_f, v_atK, o_ia, v_ia, o_ld, o_st, v_st_e, o_bs, v_bsK, v_lit_n, v_lit_c, o_len, v_len, o_app, e_t, e_k, e_put, e_get, e_res, e_keep_n, e_keep_c, e_keep1_s, e_asg_i, List.length_nil, List.length_cons, Option.getD_some, Nat.reduceEqDiff, reduceCtorEq, true_and, Bool.not_true, Bool.false_eq_true, List.map_cons, List.map_nil, List.append_nil, List.all_cons, List.all_nil, Bool.true_and, Bool.and_self, PV.cells, cellL, datL, placeOf, Nat.reduceMul, Nat.reduceBEq, Nat.reduceLeDiff, Nat.le_refl, BEq.rfl, List.getElem?_cons_zero, kp_i, kp_u, wr_b, wr_i, rl_b, rl_i, kp_lro, wr_lro, kp_lo, kp_lv, wr_lo, wr_lv, m_lf, m_n, m_c, m_all, e_asg_v, e_head, e_headK, kC_n, pO_n, pO_i, pO_l, dw_n, dw_b, dw_i, List.range_zero, plT, ne_eq, lit_n, lit_c, List.reduceReplicate, List.set_cons_zero, Nat.lt_add_one, Nat.zero_add, Nat.add_zero, Bool.not_eq_eq_eq_not, kp_eo, v_app_v]
                intro _
                refine ⟨⟨by omega, by omega⟩, by omega, ⟨by omega, by omega⟩, by omega, ?_⟩
                with_reducible refine ite_pr (fun hb => ?_) (fun hb => ?_)
                · have hbf : bs[j]? = some false := by rw [hbj, hb]
                  have hset := cf_set bs j hbf
                  refine ⟨⟨by omega, by omega⟩, by omega, ⟨by omega, by omega⟩, (by intro x hx; simp at hx; subst hx; simp), ⟨by omega, by omega⟩, by omega, by omega, ?_⟩
                  exact ihk (pre ++ [(j : Int)]) (pre.length + 1) gs (bs.set j true) (ws ++ [(j : Int)]) _ (ls ++ [[L.int .i64 j]]) 7680 (by simp) hgs hg' (.inr rfl) rfl (by rw [hls, List.map_append]; rfl) (by rw [List.length_append]; simp only [List.length_cons, List.length_nil]; omega) hinv.mark Z2 hZ2
                · have hbt : bs[j]? = some true := by rw [hbj]; simpa using hb
                  first
                    | exact ihk (pre ++ [(j : Int)]) (pre.length + 1) gs bs ws os ls 896 (by simp) hgs hg' (.inl rfl) hos hls hN (hinv.skip hbt) Z2 hZ2
                    | exact ihk (pre ++ [(j : Int)]) (pre.length + 1) gs bs ws os ls 7680 (by simp) hgs hg' (.inr rfl) hos hls hN (hinv.skip hbt) Z2 hZ2
          have k1 : [3968, 3970, 3972].contains 896 = false := by decide
          have k2 : [3968, 3970, 3972].contains 768 = false := by decide
          have k3 : [3968, 3970, 3972].contains 7680 = false := by decide
          rcases htg with rfl | rfl | rfl
          all_goals
            simp -implicitDefEqProofs (maxSteps := 2000000) only [c18, hlt, v_ld_e, Int.toNat_zero, List.getD_cons_zero, decide_true, ↓reduceIte, s_skip, s_ops0, s_seq, s_cond, s_block, s_opsK, s_seqK_n, s_cnd, s_nil, s_cons, s_wopsK, s_putK, o_mv, o_bin, v_gtr, v_part_f, v_atK, o_ia, v_ia, o_ld, o_len, v_len, o_call, e_t, e_k, e_put, e_get, e_res, e_keep_n, e_keep_c, e_keep1_s, List.length_cons, Option.getD_some, Nat.reduceEqDiff, reduceCtorEq, true_and, List.map_cons, List.map_nil, PV.leaves, List.flatMap_cons, List.flatMap_nil, List.append_nil, List.cons_append, List.nil_append, Bool.true_and, Nat.reduceLeDiff, List.getElem?_cons_zero, rl_i, rl_l, m_lf]
            intro _
            refine ⟨⟨by omega, by omega⟩, by omega, ?_⟩
            refine wcall_flat (r37 hc sp i hi) rfl (flat_int1 _) ?_
            simp -implicitDefEqProofs (maxSteps := 2000000) only [c18, k1, k2, k3, Int.toNat_one, List.drop_succ_cons, List.drop_zero, ↓reduceIte, s_ops0, s_seq, s_block, s_loop, s_opsK, s_seqK_n, s_nil, s_cons, s_wopsK, s_putK, o_mv, o_as, o_sll, v_sll_c, e_t, e_k, e_put, e_get, e_res, e_keep_n, e_keep_c, e_keep1_s, List.length_cons, Option.getD_some, Option.map_some, Option.map_none, Nat.reduceEqDiff, Nat.reduceAdd, reduceCtorEq, true_and, and_true, Bool.false_eq_true, St.clr, outV, ownsV, owns1, ownL, Bool.and_true, Bool.true_and, Nat.reduceMul, Nat.reduceBEq, Nat.reduceLeDiff, BEq.rfl, List.drop_zero, List.drop_succ_cons, kps_b, kps_i, rk_b, rk_i, kps_lro, rk_lro, kps_lo, kps_lv, rk_lo, rk_lv, ol_lo, m_lf, m_n, m_c, m_all, e_asg_o, plT, Nat.add_zero, kps_eo, kps_ev]
            refine ⟨by omega, ?_⟩
          · exact inn (gAt code i) [] 0 _ bs ws os ls' 896 rfl rfl rfl (.inl rfl) hos hls'.symm (by simp only [List.length_cons] at hN; omega) hpop
          · exact inn (gAt code i) [] 0 _ bs ws os ls' 896 rfl rfl rfl (.inl rfl) hos hls'.symm (by simp only [List.length_cons] at hN; omega) hpop
          · exact inn (gAt code i) [] 0 _ bs ws os ls' 7680 rfl rfl rfl (.inr rfl) hos hls'.symm (by simp only [List.length_cons] at hN; omega) hpop
    refine R_i [(0, 256)] [] c18_ok rfl (by simp) ?_
    simp -implicitDefEqProofs (maxSteps := 2000000) only [c18, ↓reduceIte, s_ops0, s_seq, s_opsK, s_seqK_n, s_nil, s_cons, s_wopsK, o_mv, o_as, o_call, e_t, e_k, e_put, e_get, e_res, e_keep_n, e_keep_c, e_keep1_s, e_asg_i, St.init, enum, List.length_nil, Option.getD_some, reduceCtorEq, List.map_cons, List.map_nil, PV.leaves, List.flatMap_cons, List.flatMap_nil, List.append_nil, Nat.reduceMul, kp_lro, rl_l, m_lf, m_n, m_c, m_all, e_asg_n, plT, Nat.add_zero]
    refine wcall_s h28 rfl rfl ?_
    simp -implicitDefEqProofs (maxSteps := 2000000) only [c18, h, hl, v_msK, ↓reduceIte, s_skip, s_ret, s_ops0, s_seq, s_cond, s_block, s_loop, s_opsK, s_seqK_n, s_seqK_r, s_cnd, s_nil, s_cons, s_wopsK, s_putK, o_mv, o_as, o_bin, v_neq, o_ext, v_ext0, v_ext1, o_ia, v_ia, o_st, v_st_e, o_bs, v_bsK, v_lit_n, v_lit_c, o_ms, o_len, v_len, e_t, e_k, e_put, e_get, e_res, e_keep_n, e_keep_c, e_keep1_s, e_asg_i, List.length_nil, List.length_cons, Option.getD_some, Nat.reduceEqDiff, reduceCtorEq, true_and, and_true, Bool.false_eq_true, decide_eq_true_eq, s_ret_r, s_retX, s_cells_n, t_tp, t_n, t_c, t_1l, t_i, t_l, t_oo, r_n, r_t, r_cons, one_2, St.clr, outV, ownsV, owns1, ownL, List.map_cons, List.map_nil, List.any_cons, List.any_nil, Bool.or_self, List.append_nil, List.all_cons, List.all_nil, Bool.and_true, Bool.true_and, Bool.and_self, PV.cells, cellL, datL, placeOf, Nat.reduceMul, Nat.reduceBEq, Nat.reduceLeDiff, Nat.le_refl, BEq.rfl, kp_b, kp_i, rk_b, rk_i, rl_b, rl_i, ol_i, kp_lro, rk_lro, wr_lro, kp_lo, rk_lo, wr_lo, m_lf, m_tp, m_1l, m_n, m_c, m_all, e_asg_n, e_asg_o, e_head, e_headK, kC_n, pO_n, pO_l, dw_n, dw_b, dw_i, List.range_zero, plT, ne_eq, lit_n, lit_c, List.reduceReplicate, List.set_cons_zero, List.length_replicate, Nat.lt_add_one, Nat.zero_add, Nat.add_zero, true_or, or_true, ite_not]
    intro _
    refine ⟨⟨by omega, by omega, by omega, by omega⟩, ?_⟩
    have hpos := hc.pos
    have hrep : List.replicate code.length [L.bool false] = (List.replicate code.length false).map fun b => [L.bool b] := by rw [List.map_replicate]
    rw [Int.toNat_natCast, Int.sub_self, Int.toNat_zero]
    refine ⟨⟨by omega, by omega⟩, (by intro x hx; simp at hx; subst hx; simp), ?_⟩
    have hcf := cf_le ((List.replicate code.length false).set 0 true)
    rw [List.length_set, List.length_replicate] at hcf
    have hws : wrS 0 0 [L.bool true] code.length (List.replicate 0 [L.bool false]) = [] := by unfold wrS; rw [if_pos hpos]; rfl
    rw [hws]
    have hone : ∀ i, ((List.replicate code.length false).set 0 true)[i]? = some true → i = 0 := by
      intro i hi
      rw [List.getElem?_set] at hi
      split at hi
      · omega
      · rw [List.getElem?_replicate] at hi; split at hi <;> simp at hi
    have hzr : ((List.replicate code.length false).set 0 true)[0]? = some true := by rw [List.getElem?_set]; simp [hpos]
    exact key _ ((List.replicate code.length false).set 0 true) [0] _ _ _ 0 (.inl rfl) (by rw [hrep, wrX_bools]) rfl rfl (by simp only [List.length_cons, List.length_nil]; omega) ⟨by simp, fun i h => (by rw [hone i h]; exact .zero), fun z hz => ⟨0, by simpa using hz, hzr⟩, hzr, fun i h => .inl (by rw [hone i h]; simp), fun z hz => by simp at hz⟩
  · rw [if_neg h] at hr
    subst hr
    refine R_i [(0, 256)] [] c18_ok rfl (by simp) ?_
    simp -implicitDefEqProofs (maxSteps := 2000000) only [c18, ↓reduceIte, s_ops0, s_seq, s_opsK, s_seqK_n, s_nil, s_cons, s_wopsK, o_mv, o_as, o_call, e_t, e_k, e_put, e_get, e_res, e_keep_n, e_keep_c, e_keep1_s, e_asg_i, St.init, enum, List.length_nil, Option.getD_some, reduceCtorEq, List.map_cons, List.map_nil, PV.leaves, List.flatMap_cons, List.flatMap_nil, List.append_nil, Nat.reduceMul, kp_lro, rl_l, m_lf, m_n, m_c, m_all, e_asg_n, plT, Nat.add_zero]
    refine wcall_s h28 rfl rfl ?_
    simp -implicitDefEqProofs (maxSteps := 2000000) only [c18, h, List.map_nil, ↓reduceIte, s_ret, s_ops0, s_seq, s_cond, s_opsK, s_seqK_n, s_seqK_r, s_cnd, s_nil, s_cons, s_wopsK, s_putK, o_mv, o_as, o_bin, v_neq, o_ext, v_ext0, v_ext1, e_t, e_k, e_put, e_get, e_res, e_keep_n, e_keep_c, e_keep1_s, e_asg_i, Option.getD_some, Nat.reduceEqDiff, reduceCtorEq, true_and, and_true, Bool.false_eq_true, decide_eq_true_eq, s_ret_r, s_retX, s_cells_n, t_tp, t_n, t_c, t_1l, t_i, t_l, t_oo, r_n, r_t, r_cons, one_2, St.clr, outV, ownsV, owns1, ownL, List.map_cons, List.map_nil, List.any_cons, List.any_nil, Bool.or_self, Bool.and_true, Bool.true_and, Nat.reduceMul, kp_b, kp_i, ol_i, kp_lro, m_lf, m_tp, m_1l, m_n, m_c, m_all, e_asg_n, plT, ne_eq, not_false_eq_true, Nat.add_zero, true_or, or_true]
    done
end Go.Proofs.YthcpaohmajjopaaDoor.I
set_option linter.unusedVariables false
set_option linter.unusedSimpArgs false
namespace Go.Proofs.YthcpaohmajjopaaDoor.I
open Go Go.Proofs.YthcpaohmajjopaaDoor.AM
variable {X : Cx}
theorem r5 (hX : X.G 1 = some usesL) (code : List Ins) (sp : List (List L)) (at' : Int) (hl80 : code.length * 80 ≤ 140737488351232) :
    R X Tryd.prog 5 [.lf (.lst .ro 9 (code.map Ins.c) sp), .lf (.int .i64 at')] [] (.lf (.bool true)) [] := by
  have h9 := r9 hX
  have h14 := r14 (X := X) code sp hl80
  have h15 := r15 hX code [spI] at' _ rfl
  have h16 := r16 (X := X) code sp at' _ rfl
  have h17 := r17 hX code [spI] _ rfl
  have h18 := r18 (X := X) code sp _ rfl
  have h21 := r21 (X := X) code [] sp hl80
  generalize goesA code at' = g at h15 h16
  generalize (if (chk capX code).2 = 0 then (liveL code, 0) else ([], (chk capX code).2)) = l at h17 h18
  have h19 := fun s s' => r19 (X := X) g.1 s s'
  have h20 := fun s s' => r20 (X := X) l.1 s s'
  refine R_i [] [] c5_ok rfl (by simp) ?_
  simp -implicitDefEqProofs (maxSteps := 2000000) only [c5, ↓reduceIte, s_ops0, s_seq, s_opsK, s_seqK_n, s_nil, s_cons, s_wopsK, o_mv, o_as, o_call, e_t, e_k, e_put, e_get, e_res, e_keep_n, e_keep_c, e_keep1_s, e_asg_b, St.init, enum, List.length_nil, Option.getD_some, Nat.reduceEqDiff, reduceCtorEq, List.map_cons, List.map_nil, PV.leaves, List.flatMap_cons, List.flatMap_nil, List.append_nil, rl_l, m_lf, Nat.zero_add]
  refine wcall_down h14 rfl ?_
  simp -implicitDefEqProofs (maxSteps := 2000000) only [c5, ↓reduceIte, s_ops0, s_seq, s_opsK, s_seqK_n, s_nil, s_cons, s_wopsK, o_mv, o_as, o_call, e_t, e_put, e_get, e_res, e_keep_n, e_keep_c, e_keep1_s, Option.getD_some, Nat.reduceEqDiff, Nat.reduceAdd, reduceCtorEq, Bool.false_eq_true, St.clr, outV, ownsV, owns1, ownL, List.map_cons, List.map_nil, PV.leaves, List.flatMap_cons, List.flatMap_nil, List.append_nil, List.cons_append, List.nil_append, Nat.reduceMul, Nat.reduceBEq, BEq.rfl, kps_i, rk_i, rl_i, kps_lro, rk_lro, rk_lo, rl_l, ol_lo, m_lf, m_n, m_c, m_all, e_asg_o, dw_n, dw_lr, plT, Nat.add_zero]
  refine wcall_flat h15 rfl (flat_ints _ _) ?_
  simp -implicitDefEqProofs (maxSteps := 2000000) only [c5, ↓reduceIte, s_ops0, s_seq, s_opsK, s_seqK_n, s_nil, s_cons, s_wopsK, s_putK, o_mv, o_as, o_ext, v_ext0, v_ext1, o_call, e_t, e_put, e_get, e_res, e_keep_n, e_keep_c, e_keep1_s, e_asg_i, Option.getD_some, Nat.reduceEqDiff, Nat.reduceAdd, reduceCtorEq, Bool.false_eq_true, St.clr, outV, ownsV, owns1, ownL, List.map_cons, List.map_nil, List.any_cons, List.any_nil, Bool.or_false, Bool.or_self, PV.leaves, List.flatMap_cons, List.flatMap_nil, List.append_nil, List.cons_append, List.nil_append, Nat.reduceMul, Nat.reduceBEq, BEq.rfl, kps_i, rk_i, rl_i, ol_i, kps_lro, rk_lro, kps_lo, rk_lo, rl_l, ol_lo, m_lf, m_tp, m_1l, m_n, m_c, m_all, e_asg_o, plT, Nat.add_zero, or_false]
  refine wcall_flat h16 rfl (flat_ints _ _) ?_
  simp -implicitDefEqProofs (maxSteps := 2000000) only [c5, ↓reduceIte, s_ops0, s_seq, s_opsK, s_seqK_n, s_nil, s_cons, s_wopsK, s_putK, o_mv, o_as, o_ext, v_ext0, v_ext1, o_call, e_t, e_put, e_get, e_res, e_keep_n, e_keep_c, e_keep1_s, e_asg_i, Option.getD_some, Nat.reduceEqDiff, Nat.reduceAdd, reduceCtorEq, Bool.false_eq_true, St.clr, outV, ownsV, owns1, ownL, List.map_cons, List.map_nil, List.any_cons, List.any_nil, Bool.or_false, Bool.or_self, PV.leaves, List.flatMap_cons, List.flatMap_nil, List.append_nil, Nat.reduceMul, Nat.reduceBEq, BEq.rfl, kps_i, rk_i, ol_i, kps_lro, rk_lro, kps_lo, rk_lo, ol_lo, m_lf, m_tp, m_1l, m_n, m_c, m_all, e_asg_o, plT, Nat.add_zero, or_false]
  refine wcall_flat h17 rfl (flat_bools _ _) ?_
  simp -implicitDefEqProofs (maxSteps := 2000000) only [c5, ↓reduceIte, s_ops0, s_seq, s_opsK, s_seqK_n, s_nil, s_cons, s_wopsK, s_putK, o_mv, o_as, o_ext, v_ext0, v_ext1, o_call, e_t, e_put, e_get, e_res, e_keep_n, e_keep_c, e_keep1_s, e_asg_i, Option.getD_some, Nat.reduceEqDiff, Nat.reduceAdd, reduceCtorEq, Bool.false_eq_true, St.clr, outV, ownsV, owns1, ownL, List.map_cons, List.map_nil, List.any_cons, List.any_nil, Bool.or_false, Bool.or_self, PV.leaves, List.flatMap_cons, List.flatMap_nil, List.append_nil, Nat.reduceMul, Nat.reduceBEq, BEq.rfl, kps_i, rk_i, ol_i, kps_lro, rk_lro, kps_lo, rk_lo, rl_l, ol_lo, m_lf, m_tp, m_1l, m_n, m_c, m_all, e_asg_o, plT, Nat.add_zero, or_false]
  refine wcall_flat h18 rfl (flat_bools _ _) ?_
  simp -implicitDefEqProofs (maxSteps := 2000000) only [c5, ↓reduceIte, s_ops0, s_seq, s_opsK, s_seqK_n, s_nil, s_cons, s_wopsK, s_putK, o_mv, o_as, o_ext, v_ext0, v_ext1, o_call, e_t, e_put, e_get, e_res, e_keep_n, e_keep_c, e_keep1_s, e_asg_i, Option.getD_some, Nat.reduceEqDiff, Nat.reduceAdd, reduceCtorEq, Bool.false_eq_true, St.clr, outV, ownsV, owns1, ownL, List.map_cons, List.map_nil, List.any_cons, List.any_nil, Bool.or_false, Bool.or_self, PV.leaves, List.flatMap_nil, Nat.reduceMul, Nat.reduceBEq, BEq.rfl, kps_i, rk_i, ol_i, kps_lro, rk_lro, kps_lo, rk_lo, ol_lo, m_lf, m_tp, m_1l, m_n, m_c, m_all, e_asg_o, plT, Nat.add_zero, or_false]
  refine wcall_s h9 rfl rfl ?_
  simp -implicitDefEqProofs (maxSteps := 2000000) only [c5, ↓reduceIte, s_cons, s_guard, s_wopsK, s_grd, q_call, q_mv, o_mv, o_call, e_t, e_put, e_get, Option.getD_some, Nat.reduceEqDiff, reduceCtorEq, cond_false, Bool.false_eq_true, St.clr, outV, ownsV, owns1, ownL, List.map_cons, List.map_nil, PV.leaves, List.flatMap_cons, List.flatMap_nil, List.append_nil, List.cons_append, List.nil_append, ol_b, m_lf]
  refine wcall_s (h19 _ _) rfl rfl ?_
  simp -implicitDefEqProofs (maxSteps := 2000000) only [c5, ↓reduceIte, s_cons, s_guard, s_wopsK, s_putK, s_grd, q_call, q_mv, q_bin, o_mv, o_pk, v_pk, o_bin, v_eql, o_call, e_t, e_k, e_put, e_get, Option.getD_some, Nat.reduceEqDiff, reduceCtorEq, cond_false, Bool.false_eq_true, decide_eq_true_eq, St.clr, outV, ownsV, owns1, ownL, List.map_cons, List.map_nil, PV.leaves, List.flatMap_cons, List.flatMap_nil, List.append_nil, List.cons_append, List.nil_append, ol_b, rl_l, m_lf]
  refine wcall_s (h20 _ _) rfl rfl ?_
  simp -implicitDefEqProofs (maxSteps := 2000000) only [c5, ↓reduceIte, s_cons, s_guard, s_wopsK, s_putK, s_grd, q_call, q_mv, q_bin, o_mv, o_pk, v_pk, o_bin, v_eql, o_call, e_t, e_k, e_put, e_get, Option.getD_some, Nat.reduceEqDiff, reduceCtorEq, cond_false, Bool.false_eq_true, decide_eq_true_eq, St.clr, outV, ownsV, owns1, ownL, List.map_cons, List.map_nil, PV.leaves, List.flatMap_cons, List.flatMap_nil, List.append_nil, List.cons_append, List.nil_append, ol_b, rl_l, m_lf]
  refine wcall_s h21 rfl rfl ?_
  simp -implicitDefEqProofs (maxSteps := 2000000) only [c5, ↓reduceIte, s_ret, s_opsK, s_seqK_n, s_nil, s_cons, s_wopsK, s_putK, o_as, o_pk, v_pk, e_t, e_k, e_put, e_get, e_res, e_keep_n, e_keep_c, e_keep1_s, e_asg_b, Option.getD_some, Nat.reduceEqDiff, and_true, Bool.false_eq_true, s_ret_r, s_retX, s_cells_n, t_lf, t_b, r_n, r_t, r_cons, one_1, St.clr, outV, ownsV, owns1, ownL, Bool.and_true, ol_b, m_lf]
  done
end Go.Proofs.YthcpaohmajjopaaDoor.I
set_option linter.unusedVariables false
namespace Go.Proofs.YthcpaohmajjopaaDoor.I
open Go Go.Proofs.YthcpaohmajjopaaDoor.AM
theorem code_of80 {ls : List L} (h : WT Tryd.prog 22 ls) : ∃ (code : List Ins) (sp : List (List L)), ls = [.lst .ro 9 (code.map Ins.c) sp] ∧ (∀ x ∈ code, x.ok) ∧ code.length * 80 ≤ 140737488351232 := by
  obtain ⟨xs, sp, rfl, hb, hm, hx⟩ := h.inv_lst Tryd.underlying22
  obtain ⟨code, rfl, hc⟩ := code_list xs (fun x h => by
    obtain ⟨i, hi⟩ := List.getElem?_of_mem h
    exact ins_of (hx i x (by
      rw [List.getElem?_append_left]
      · exact hi
      · exact (List.getElem?_eq_some_iff.1 hi).1)))
  have h9 : Tryd.prog.cellsOf 52 = 9 := by kernel_rfl
  have hbb : Tryd.prog.bytesOf 52 = 80 := by kernel_rfl
  rw [hbb] at hb
  refine ⟨code, sp, by rw [h9], hc, ?_⟩
  simp only [List.length_map] at hb
  omega
end Go.Proofs.YthcpaohmajjopaaDoor.I
