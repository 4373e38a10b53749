/- Contracts, part W2. -/
import Derived.Test.YthcpaohmajjopaaDoorProg
import Derived.Test.YthcpaohmajjopaaDoorAmLeaf2
import Derived.Test.YthcpaohmajjopaaDoorW1
set_option maxRecDepth 100000
namespace Go.Proofs.YthcpaohmajjopaaDoor.I
open Go Go.Proofs.YthcpaohmajjopaaDoor.AM
/-- harrow/harrowref16.Check -/
abbrev c35_0 : AC := .seq (.ops 0 [⟨(some 2), .as 0 0 (.k (.lf (.int .i64 0))), none⟩, ⟨(some 3), .as 0 0 (.k (.lf (.int .i64 2))), none⟩] [2, 3]) .ret
abbrev c35_1 : AC := .cond (.t 13) c35_0 .skip
abbrev c35_2 : AC := .seq (.ops 0 [⟨(some 11), .mv (.t 0), none⟩, ⟨(some 12), .len (.t 11), none⟩, ⟨(some 13), .bin .gtr (.t 12) (.k (.lf (.int .i64 8192))), none⟩] [0, 13]) c35_1
abbrev c35_3 : AC := .seq (.ops 0 [⟨(some 2), .as 0 0 (.k (.lf (.int .i64 0))), none⟩, ⟨(some 3), .as 0 0 (.k (.lf (.int .i64 3))), none⟩] [2, 3]) .ret
abbrev c35_4 : AC := .cond (.t 16) c35_3 .skip
abbrev c35_5 : AC := .seq (.ops 0 [⟨(some 14), .mv (.t 0), none⟩, ⟨(some 15), .len (.t 14), none⟩, ⟨(some 16), .bin .eql (.t 15) (.k (.lf (.int .i64 0))), none⟩] [0, 16]) c35_4
abbrev c35_6 : AC := .cond (.t 20) .skip (.exit 0)
abbrev c35_7 : AC := .seq (.ops 0 [⟨(some 17), .mv (.t 4), none⟩, ⟨(some 18), .mv (.t 0), none⟩, ⟨(some 19), .len (.t 18), none⟩, ⟨(some 20), .bin .lss (.t 17) (.t 19), none⟩] [0, 4, 20]) c35_6
abbrev c35_8 : AC := .seq (.ops 0 [⟨(some 35), .mv (.t 4), none⟩, ⟨(some 2), .as 0 0 (.t 35), none⟩, ⟨(some 3), .as 0 0 (.k (.lf (.int .i64 160))), none⟩] [2, 3]) .ret
abbrev c35_9 : AC := .cond (.t 34) c35_8 .skip
abbrev c35_10 : AC := .seq (.ops 0 [⟨(some 33), .mv (.t 6), none⟩, ⟨(some 34), .bin .eql (.t 33) (.k (.lf (.str ⟨#[]⟩))), none⟩] [0, 4, 34]) c35_9
abbrev c35_11 : AC := .seq (.ops 0 [⟨(some 42), .mv (.t 4), none⟩, ⟨(some 2), .as 0 0 (.t 42), none⟩, ⟨(some 3), .as 0 0 (.k (.lf (.int .i64 161))), none⟩] [2, 3]) .ret
abbrev c35_12 : AC := .cond (.t 41) c35_11 .skip
abbrev c35_13 : AC := .seq (.ops 0 [⟨(some 36), .mv (.t 0), none⟩, ⟨(some 37), .mv (.t 4), none⟩, ⟨(some 38), .ia (.t 36) (.t 37) 9, none⟩, ⟨(some 39), .ld (.t 38) 9 true, none⟩, ⟨(some 40), .call 54 [(.t 39)], none⟩, ⟨(some 41), .un .not (.t 40), none⟩] [0, 4, 41]) c35_12
abbrev c35_14 : AC := .seq (.ops 0 [⟨(some 71), .mv (.t 4), none⟩, ⟨(some 2), .as 0 0 (.t 71), none⟩, ⟨(some 3), .as 0 0 (.k (.lf (.int .i64 162))), none⟩] [2, 3]) .ret
abbrev c35_15 : AC := .cond (.t 70) c35_14 .skip
abbrev c35_16 : AC := .seq (.ops 0 [⟨(some 43), .mv (.t 0), none⟩, ⟨(some 44), .mv (.t 4), none⟩, ⟨(some 45), .ia (.t 43) (.t 44) 9, none⟩, ⟨(some 46), .fa (.t 45) 0, none⟩, ⟨(some 47), .ld (.t 46) 1 false, none⟩, ⟨(some 48), .call 55 [(.t 47)], none⟩, ⟨(some 49), .mv (.t 48), none⟩, ⟨(some 50), .mv (.t 0), (some (49, true))⟩, ⟨(some 51), .mv (.t 4), (some (49, true))⟩, ⟨(some 52), .ia (.t 50) (.t 51) 9, (some (49, true))⟩, ⟨(some 53), .fa (.t 52) 1, (some (49, true))⟩, ⟨(some 54), .ld (.t 53) 1 false, (some (49, true))⟩, ⟨(some 55), .mv (.t 4), (some (49, true))⟩, ⟨(some 56), .un .neg (.t 55), (some (49, true))⟩, ⟨(some 57), .bin .lss (.t 54) (.t 56), (some (49, true))⟩, ⟨(some 58), .mv (.t 57), (some (49, true))⟩, ⟨(some 59), .mv (.t 0), (some (58, false))⟩, ⟨(some 60), .mv (.t 4), (some (58, false))⟩, ⟨(some 61), .ia (.t 59) (.t 60) 9, (some (58, false))⟩, ⟨(some 62), .fa (.t 61) 1, (some (58, false))⟩, ⟨(some 63), .ld (.t 62) 1 false, (some (58, false))⟩, ⟨(some 64), .mv (.t 0), (some (58, false))⟩, ⟨(some 65), .len (.t 64), (some (58, false))⟩, ⟨(some 66), .mv (.t 4), (some (58, false))⟩, ⟨(some 67), .bin .sub (.t 65) (.t 66), (some (58, false))⟩, ⟨(some 68), .bin .geq (.t 63) (.t 67), (some (58, false))⟩, ⟨(some 69), .pk (.t 58) (.k (.lf (.bool true))) (.t 68), (some (49, true))⟩, ⟨(some 70), .pk (.t 49) (.t 69) (.k (.lf (.bool false))), none⟩] [0, 4, 70]) c35_15
abbrev c35_17 : AC := .seq c35_13 c35_16
abbrev c35_18 : AC := .seq c35_10 c35_17
abbrev c35_19 : AC := .seq (.ops 0 [⟨(some 24), .mv (.t 0), none⟩, ⟨(some 25), .mv (.t 4), none⟩, ⟨(some 26), .ia (.t 24) (.t 25) 9, none⟩, ⟨(some 27), .fa (.t 26) 0, none⟩, ⟨(some 28), .ld (.t 27) 1 false, none⟩, ⟨(some 29), .call 40 [(.t 28)], none⟩, ⟨(some 23), .mv (.t 29), none⟩, ⟨(some 30), .ext (.t 23) 0, none⟩, ⟨(some 31), .ext (.t 23) 1, none⟩, ⟨(some 32), .ext (.t 23) 2, none⟩, ⟨(some 5), .as 0 0 (.t 30), none⟩, ⟨(some 6), .as 0 0 (.t 31), none⟩, ⟨(some 7), .as 0 0 (.t 32), none⟩] [0, 4, 6]) c35_18
abbrev c35_20 : AC := .block 1 c35_19
abbrev c35_21 : AC := .seq c35_20 (.ops 0 [⟨(some 21), .mv (.t 4), none⟩, ⟨(some 22), .bin .add (.t 21) (.k (.lf (.int .i64 1))), none⟩, ⟨(some 4), .as 0 0 (.t 22), none⟩] [0, 4])
abbrev c35_22 : AC := .seq c35_7 c35_21
abbrev c35_23 : AC := .loop c35_22 [0, 4]
abbrev c35_24 : AC := .block 0 c35_23
abbrev c35_25 : AC := .seq (.ops 0 [⟨(some 4), .as 0 0 (.k (.lf (.int .i64 0))), none⟩] [0, 4]) c35_24
abbrev c35_26 : AC := .seq (.ops 0 [⟨(some 85), .mv (.t 0), none⟩, ⟨(some 86), .len (.t 85), none⟩, ⟨(some 87), .bin .sub (.t 86) (.k (.lf (.int .i64 1))), none⟩, ⟨(some 2), .as 0 0 (.t 87), none⟩, ⟨(some 3), .as 0 0 (.k (.lf (.int .i64 163))), none⟩] [2, 3]) .ret
abbrev c35_27 : AC := .cond (.t 84) c35_26 .skip
abbrev c35_28 : AC := .seq (.ops 0 [⟨(some 84), .mv (.t 10), none⟩] [0, 84]) c35_27
abbrev c35_29 : AC := .seq (.ops 0 [⟨(some 73), .mv (.t 0), none⟩, ⟨(some 74), .mv (.t 0), none⟩, ⟨(some 75), .len (.t 74), none⟩, ⟨(some 76), .bin .sub (.t 75) (.k (.lf (.int .i64 1))), none⟩, ⟨(some 77), .ia (.t 73) (.t 76) 9, none⟩, ⟨(some 78), .fa (.t 77) 0, none⟩, ⟨(some 79), .ld (.t 78) 1 false, none⟩, ⟨(some 80), .call 40 [(.t 79)], none⟩, ⟨(some 72), .mv (.t 80), none⟩, ⟨(some 81), .ext (.t 72) 0, none⟩, ⟨(some 82), .ext (.t 72) 1, none⟩, ⟨(some 83), .ext (.t 72) 2, none⟩, ⟨(some 8), .as 0 0 (.t 81), none⟩, ⟨(some 9), .as 0 0 (.t 82), none⟩, ⟨(some 10), .as 0 0 (.t 83), none⟩] [0, 10]) c35_28
abbrev c35_30 : AC := .seq (.ops 0 [⟨(some 2), .as 0 0 (.k (.lf (.int .i64 0))), none⟩, ⟨(some 3), .as 0 0 (.k (.lf (.int .i64 0))), none⟩] [2, 3]) .ret
abbrev c35_31 : AC := .seq c35_29 c35_30
abbrev c35_32 : AC := .seq c35_25 c35_31
abbrev c35_33 : AC := .seq c35_5 c35_32
abbrev c35_34 : AC := .seq c35_2 c35_33
abbrev c35_35 : AC := .seq (.ops 0 [⟨(some 2), .as 0 0 (.k (.lf (.int .i64 0))), none⟩, ⟨(some 3), .as 0 0 (.k (.lf (.int .i64 0))), none⟩] [0]) c35_34
abbrev c35 : AC := c35_35
theorem c35_ok : compileFn Tryd.prog 35 = some (88, AC.strip c35, [.t 2, .t 3]) := by kernel_rfl
/-- harrow/harrowref16.Uses -/
abbrev c40_0 : AC := .seq (.ops 0 [⟨(some 2), .as 0 0 (.k (.lf (.int .i64 0))), none⟩, ⟨(some 3), .as 0 0 (.k (.lf (.str ⟨#[97, 110, 121]⟩))), none⟩, ⟨(some 4), .as 0 0 (.k (.lf (.bool true))), none⟩] [2, 3, 4]) .ret
abbrev c40_1 : AC := .seq (.ops 0 [⟨(some 2), .as 0 0 (.k (.lf (.int .i64 4))), none⟩, ⟨(some 3), .as 0 0 (.k (.lf (.str ⟨#[99, 104, 97, 114]⟩))), none⟩, ⟨(some 4), .as 0 0 (.k (.lf (.bool true))), none⟩] [2, 3, 4]) .ret
abbrev c40_2 : AC := .seq (.ops 0 [⟨(some 2), .as 0 0 (.k (.lf (.int .i64 16))), none⟩, ⟨(some 3), .as 0 0 (.k (.lf (.str ⟨#[115, 101, 116]⟩))), none⟩, ⟨(some 4), .as 0 0 (.k (.lf (.bool true))), none⟩] [2, 3, 4]) .ret
abbrev c40_3 : AC := .seq (.ops 0 [⟨(some 2), .as 0 0 (.k (.lf (.int .i64 1))), none⟩, ⟨(some 3), .as 0 0 (.k (.lf (.str ⟨#[116, 101, 115, 116, 97, 110, 121]⟩))), none⟩, ⟨(some 4), .as 0 0 (.k (.lf (.bool true))), none⟩] [2, 3, 4]) .ret
abbrev c40_4 : AC := .seq (.ops 0 [⟨(some 2), .as 0 0 (.k (.lf (.int .i64 5))), none⟩, ⟨(some 3), .as 0 0 (.k (.lf (.str ⟨#[116, 101, 115, 116, 99, 104, 97, 114]⟩))), none⟩, ⟨(some 4), .as 0 0 (.k (.lf (.bool true))), none⟩] [2, 3, 4]) .ret
abbrev c40_5 : AC := .seq (.ops 0 [⟨(some 2), .as 0 0 (.k (.lf (.int .i64 17))), none⟩, ⟨(some 3), .as 0 0 (.k (.lf (.str ⟨#[116, 101, 115, 116, 115, 101, 116]⟩))), none⟩, ⟨(some 4), .as 0 0 (.k (.lf (.bool true))), none⟩] [2, 3, 4]) .ret
abbrev c40_6 : AC := .seq (.ops 0 [⟨(some 2), .as 0 0 (.k (.lf (.int .i64 16))), none⟩, ⟨(some 3), .as 0 0 (.k (.lf (.str ⟨#[115, 112, 97, 110]⟩))), none⟩, ⟨(some 4), .as 0 0 (.k (.lf (.bool true))), none⟩] [2, 3, 4]) .ret
abbrev c40_7 : AC := .seq (.ops 0 [⟨(some 2), .as 0 0 (.k (.lf (.int .i64 1))), none⟩, ⟨(some 3), .as 0 0 (.k (.lf (.str ⟨#[99, 104, 111, 105, 99, 101]⟩))), none⟩, ⟨(some 4), .as 0 0 (.k (.lf (.bool true))), none⟩] [2, 3, 4]) .ret
abbrev c40_8 : AC := .seq (.ops 0 [⟨(some 2), .as 0 0 (.k (.lf (.int .i64 1))), none⟩, ⟨(some 3), .as 0 0 (.k (.lf (.str ⟨#[99, 111, 109, 109, 105, 116]⟩))), none⟩, ⟨(some 4), .as 0 0 (.k (.lf (.bool false))), none⟩] [2, 3, 4]) .ret
abbrev c40_9 : AC := .seq (.ops 0 [⟨(some 2), .as 0 0 (.k (.lf (.int .i64 1))), none⟩, ⟨(some 3), .as 0 0 (.k (.lf (.str ⟨#[112, 97, 114, 116, 105, 97, 108]⟩))), none⟩, ⟨(some 4), .as 0 0 (.k (.lf (.bool false))), none⟩] [2, 3, 4]) .ret
abbrev c40_10 : AC := .seq (.ops 0 [⟨(some 2), .as 0 0 (.k (.lf (.int .i64 1))), none⟩, ⟨(some 3), .as 0 0 (.k (.lf (.str ⟨#[98, 97, 99, 107]⟩))), none⟩, ⟨(some 4), .as 0 0 (.k (.lf (.bool false))), none⟩] [2, 3, 4]) .ret
abbrev c40_11 : AC := .seq (.ops 0 [⟨(some 2), .as 0 0 (.k (.lf (.int .i64 0))), none⟩, ⟨(some 3), .as 0 0 (.k (.lf (.str ⟨#[116, 119, 105, 99, 101]⟩))), none⟩, ⟨(some 4), .as 0 0 (.k (.lf (.bool false))), none⟩] [2, 3, 4]) .ret
abbrev c40_12 : AC := .seq (.ops 0 [⟨(some 2), .as 0 0 (.k (.lf (.int .i64 0))), none⟩, ⟨(some 3), .as 0 0 (.k (.lf (.str ⟨#[102, 97, 105, 108]⟩))), none⟩, ⟨(some 4), .as 0 0 (.k (.lf (.bool false))), none⟩] [2, 3, 4]) .ret
abbrev c40_13 : AC := .seq (.ops 0 [⟨(some 2), .as 0 0 (.k (.lf (.int .i64 1))), none⟩, ⟨(some 3), .as 0 0 (.k (.lf (.str ⟨#[106, 117, 109, 112]⟩))), none⟩, ⟨(some 4), .as 0 0 (.k (.lf (.bool false))), none⟩] [2, 3, 4]) .ret
abbrev c40_14 : AC := .seq (.ops 0 [⟨(some 2), .as 0 0 (.k (.lf (.int .i64 1))), none⟩, ⟨(some 3), .as 0 0 (.k (.lf (.str ⟨#[99, 97, 108, 108]⟩))), none⟩, ⟨(some 4), .as 0 0 (.k (.lf (.bool true))), none⟩] [2, 3, 4]) .ret
abbrev c40_15 : AC := .seq (.ops 0 [⟨(some 2), .as 0 0 (.k (.lf (.int .i64 0))), none⟩, ⟨(some 3), .as 0 0 (.k (.lf (.str ⟨#[114, 101, 116]⟩))), none⟩, ⟨(some 4), .as 0 0 (.k (.lf (.bool false))), none⟩] [2, 3, 4]) .ret
abbrev c40_16 : AC := .seq (.ops 0 [⟨(some 2), .as 0 0 (.k (.lf (.int .i64 0))), none⟩, ⟨(some 3), .as 0 0 (.k (.lf (.str ⟨#[101, 110, 100]⟩))), none⟩, ⟨(some 4), .as 0 0 (.k (.lf (.bool false))), none⟩] [2, 3, 4]) .ret
abbrev c40_17 : AC := .seq (.ops 0 [⟨(some 2), .as 0 0 (.k (.lf (.int .i64 8))), none⟩, ⟨(some 3), .as 0 0 (.k (.lf (.str ⟨#[111, 112, 101, 110]⟩))), none⟩, ⟨(some 4), .as 0 0 (.k (.lf (.bool true))), none⟩] [2, 3, 4]) .ret
abbrev c40_18 : AC := .seq (.ops 0 [⟨(some 2), .as 0 0 (.k (.lf (.int .i64 0))), none⟩, ⟨(some 3), .as 0 0 (.k (.lf (.str ⟨#[99, 108, 111, 115, 101]⟩))), none⟩, ⟨(some 4), .as 0 0 (.k (.lf (.bool true))), none⟩] [2, 3, 4]) .ret
abbrev c40_19 : AC := .seq (.ops 0 [⟨(some 2), .as 0 0 (.k (.lf (.int .i64 10))), none⟩, ⟨(some 3), .as 0 0 (.k (.lf (.str ⟨#[102, 117, 108, 108]⟩))), none⟩, ⟨(some 4), .as 0 0 (.k (.lf (.bool true))), none⟩] [2, 3, 4]) .ret
abbrev c40_20 : AC := .cond (.t 44) c40_19 .skip
abbrev c40_21 : AC := .seq (.ops 0 [⟨(some 45), .bin .eql (.t 5) (.k (.lf (.int .i64 20))), none⟩, ⟨(some 44), .as 0 0 (.t 45), none⟩] [44]) c40_20
abbrev c40_22 : AC := .cond (.t 42) c40_18 c40_21
abbrev c40_23 : AC := .seq (.ops 0 [⟨(some 43), .bin .eql (.t 5) (.k (.lf (.int .i64 19))), none⟩, ⟨(some 42), .as 0 0 (.t 43), none⟩] [5, 42]) c40_22
abbrev c40_24 : AC := .cond (.t 40) c40_17 c40_23
abbrev c40_25 : AC := .seq (.ops 0 [⟨(some 41), .bin .eql (.t 5) (.k (.lf (.int .i64 18))), none⟩, ⟨(some 40), .as 0 0 (.t 41), none⟩] [5, 40]) c40_24
abbrev c40_26 : AC := .cond (.t 38) c40_16 c40_25
abbrev c40_27 : AC := .seq (.ops 0 [⟨(some 39), .bin .eql (.t 5) (.k (.lf (.int .i64 17))), none⟩, ⟨(some 38), .as 0 0 (.t 39), none⟩] [5, 38]) c40_26
abbrev c40_28 : AC := .cond (.t 36) c40_15 c40_27
abbrev c40_29 : AC := .seq (.ops 0 [⟨(some 37), .bin .eql (.t 5) (.k (.lf (.int .i64 16))), none⟩, ⟨(some 36), .as 0 0 (.t 37), none⟩] [5, 36]) c40_28
abbrev c40_30 : AC := .cond (.t 34) c40_14 c40_29
abbrev c40_31 : AC := .seq (.ops 0 [⟨(some 35), .bin .eql (.t 5) (.k (.lf (.int .i64 15))), none⟩, ⟨(some 34), .as 0 0 (.t 35), none⟩] [5, 34]) c40_30
abbrev c40_32 : AC := .cond (.t 32) c40_13 c40_31
abbrev c40_33 : AC := .seq (.ops 0 [⟨(some 33), .bin .eql (.t 5) (.k (.lf (.int .i64 14))), none⟩, ⟨(some 32), .as 0 0 (.t 33), none⟩] [5, 32]) c40_32
abbrev c40_34 : AC := .cond (.t 30) c40_12 c40_33
abbrev c40_35 : AC := .seq (.ops 0 [⟨(some 31), .bin .eql (.t 5) (.k (.lf (.int .i64 13))), none⟩, ⟨(some 30), .as 0 0 (.t 31), none⟩] [5, 30]) c40_34
abbrev c40_36 : AC := .cond (.t 28) c40_11 c40_35
abbrev c40_37 : AC := .seq (.ops 0 [⟨(some 29), .bin .eql (.t 5) (.k (.lf (.int .i64 12))), none⟩, ⟨(some 28), .as 0 0 (.t 29), none⟩] [5, 28]) c40_36
abbrev c40_38 : AC := .cond (.t 26) c40_10 c40_37
abbrev c40_39 : AC := .seq (.ops 0 [⟨(some 27), .bin .eql (.t 5) (.k (.lf (.int .i64 11))), none⟩, ⟨(some 26), .as 0 0 (.t 27), none⟩] [5, 26]) c40_38
abbrev c40_40 : AC := .cond (.t 24) c40_9 c40_39
abbrev c40_41 : AC := .seq (.ops 0 [⟨(some 25), .bin .eql (.t 5) (.k (.lf (.int .i64 10))), none⟩, ⟨(some 24), .as 0 0 (.t 25), none⟩] [5, 24]) c40_40
abbrev c40_42 : AC := .cond (.t 22) c40_8 c40_41
abbrev c40_43 : AC := .seq (.ops 0 [⟨(some 23), .bin .eql (.t 5) (.k (.lf (.int .i64 9))), none⟩, ⟨(some 22), .as 0 0 (.t 23), none⟩] [5, 22]) c40_42
abbrev c40_44 : AC := .cond (.t 20) c40_7 c40_43
abbrev c40_45 : AC := .seq (.ops 0 [⟨(some 21), .bin .eql (.t 5) (.k (.lf (.int .i64 8))), none⟩, ⟨(some 20), .as 0 0 (.t 21), none⟩] [5, 20]) c40_44
abbrev c40_46 : AC := .cond (.t 18) c40_6 c40_45
abbrev c40_47 : AC := .seq (.ops 0 [⟨(some 19), .bin .eql (.t 5) (.k (.lf (.int .i64 7))), none⟩, ⟨(some 18), .as 0 0 (.t 19), none⟩] [5, 18]) c40_46
abbrev c40_48 : AC := .cond (.t 16) c40_5 c40_47
abbrev c40_49 : AC := .seq (.ops 0 [⟨(some 17), .bin .eql (.t 5) (.k (.lf (.int .i64 6))), none⟩, ⟨(some 16), .as 0 0 (.t 17), none⟩] [5, 16]) c40_48
abbrev c40_50 : AC := .cond (.t 14) c40_4 c40_49
abbrev c40_51 : AC := .seq (.ops 0 [⟨(some 15), .bin .eql (.t 5) (.k (.lf (.int .i64 5))), none⟩, ⟨(some 14), .as 0 0 (.t 15), none⟩] [5, 14]) c40_50
abbrev c40_52 : AC := .cond (.t 12) c40_3 c40_51
abbrev c40_53 : AC := .seq (.ops 0 [⟨(some 13), .bin .eql (.t 5) (.k (.lf (.int .i64 4))), none⟩, ⟨(some 12), .as 0 0 (.t 13), none⟩] [5, 12]) c40_52
abbrev c40_54 : AC := .cond (.t 10) c40_2 c40_53
abbrev c40_55 : AC := .seq (.ops 0 [⟨(some 11), .bin .eql (.t 5) (.k (.lf (.int .i64 3))), none⟩, ⟨(some 10), .as 0 0 (.t 11), none⟩] [5, 10]) c40_54
abbrev c40_56 : AC := .cond (.t 8) c40_1 c40_55
abbrev c40_57 : AC := .seq (.ops 0 [⟨(some 9), .bin .eql (.t 5) (.k (.lf (.int .i64 2))), none⟩, ⟨(some 8), .as 0 0 (.t 9), none⟩] [5, 8]) c40_56
abbrev c40_58 : AC := .cond (.t 6) c40_0 c40_57
abbrev c40_59 : AC := .seq (.ops 0 [⟨(some 7), .bin .eql (.t 5) (.k (.lf (.int .i64 1))), none⟩, ⟨(some 6), .as 0 0 (.t 7), none⟩] [5, 6]) c40_58
abbrev c40_60 : AC := .block 0 c40_59
abbrev c40_61 : AC := .seq (.ops 0 [⟨(some 5), .mv (.t 0), none⟩] [5]) c40_60
abbrev c40_62 : AC := .seq (.ops 0 [⟨(some 2), .as 0 0 (.k (.lf (.int .i64 0))), none⟩, ⟨(some 3), .as 0 0 (.k (.lf (.str ⟨#[]⟩))), none⟩, ⟨(some 4), .as 0 0 (.k (.lf (.bool false))), none⟩] [2, 3, 4]) .ret
abbrev c40_63 : AC := .seq c40_61 c40_62
abbrev c40_64 : AC := .seq (.ops 0 [⟨(some 2), .as 0 0 (.k (.lf (.int .i64 0))), none⟩, ⟨(some 3), .as 0 0 (.k (.lf (.str ⟨#[]⟩))), none⟩, ⟨(some 4), .as 0 0 (.k (.lf (.bool false))), none⟩] [0]) c40_63
abbrev c40 : AC := c40_64
theorem c40_ok : compileFn Tryd.prog 40 = some (46, AC.strip c40, [.t 2, .t 3, .t 4]) := by kernel_rfl
/-- harrow/harrowref16.has -/
abbrev c41_0 : AC := .seq (.ops 0 [⟨(some 5), .mv (.t 0), none⟩, ⟨(some 6), .mv (.t 1), none⟩, ⟨(some 7), .bin .quo (.t 5) (.t 6), none⟩, ⟨(some 8), .bin .rem (.t 7) (.k (.lf (.int .i64 2))), none⟩, ⟨(some 9), .bin .eql (.t 8) (.k (.lf (.int .i64 1))), none⟩, ⟨(some 4), .as 0 0 (.t 9), none⟩] [4]) .ret
abbrev c41_1 : AC := .seq (.ops 0 [⟨(some 4), .as 0 0 (.k (.lf (.bool false))), none⟩] [0, 1]) c41_0
abbrev c41 : AC := c41_1
theorem c41_ok : compileFn Tryd.prog 41 = some (10, AC.strip c41, [.t 4]) := by kernel_rfl
/-- harrow/harrowref16.Args -/
abbrev c54_0 : AC := .seq (.ops 0 [⟨(some 2), .as 0 0 (.k (.lf (.bool false))), none⟩] [2]) .ret
abbrev c54_1 : AC := .cond (.t 38) c54_0 .skip
abbrev c54_2 : AC := .seq (.ops 0 [⟨(some 15), .mv (.t 3), none⟩, ⟨(some 16), .call 41 [(.t 15), (.k (.lf (.int .i64 16)))], none⟩, ⟨(some 17), .un .not (.t 16), none⟩, ⟨(some 18), .mv (.t 17), none⟩, ⟨(some 19), .fa (.t 1) 5, (some (18, true))⟩, ⟨(some 20), .ld (.t 19) 4 true, (some (18, true))⟩, ⟨(some 21), .ld (.t 6) 4 true, (some (18, true))⟩, ⟨(some 22), .beq true [2, 2, 2, 2] (.t 20) (.t 21), (some (18, true))⟩, ⟨(some 23), .pk (.t 18) (.t 22) (.k (.lf (.bool false))), none⟩, ⟨(some 24), .mv (.t 23), none⟩, ⟨(some 25), .mv (.t 3), (some (24, false))⟩, ⟨(some 26), .call 41 [(.t 25), (.k (.lf (.int .i64 1)))], (some (24, false))⟩, ⟨(some 27), .un .not (.t 26), (some (24, false))⟩, ⟨(some 28), .mv (.t 27), (some (24, false))⟩, ⟨(some 29), .mv (.t 3), (some (28, true))⟩, ⟨(some 30), .call 41 [(.t 29), (.k (.lf (.int .i64 2)))], (some (28, true))⟩, ⟨(some 31), .un .not (.t 30), (some (28, true))⟩, ⟨(some 32), .pk (.t 28) (.t 31) (.k (.lf (.bool false))), (some (24, false))⟩, ⟨(some 33), .mv (.t 32), (some (24, false))⟩, ⟨(some 34), .fa (.t 1) 1, (some (33, true))⟩, ⟨(some 35), .ld (.t 34) 1 false, (some (33, true))⟩, ⟨(some 36), .bin .neq (.t 35) (.k (.lf (.int .i64 0))), (some (33, true))⟩, ⟨(some 37), .pk (.t 33) (.t 36) (.k (.lf (.bool false))), (some (24, false))⟩, ⟨(some 38), .pk (.t 24) (.k (.lf (.bool true))) (.t 37), none⟩] [1, 3, 38]) c54_1
abbrev c54_3 : AC := .seq (.ops 0 [⟨(some 2), .as 0 0 (.k (.lf (.bool false))), none⟩] [2]) .ret
abbrev c54_4 : AC := .cond (.t 60) c54_3 .skip
abbrev c54_5 : AC := .seq (.ops 0 [⟨(some 39), .mv (.t 3), none⟩, ⟨(some 40), .call 41 [(.t 39), (.k (.lf (.int .i64 2)))], none⟩, ⟨(some 41), .mv (.t 40), none⟩, ⟨(some 42), .fa (.t 1) 1, (some (41, true))⟩, ⟨(some 43), .ld (.t 42) 1 false, (some (41, true))⟩, ⟨(some 44), .bin .lss (.t 43) (.k (.lf (.int .i64 0))), (some (41, true))⟩, ⟨(some 45), .mv (.t 44), (some (41, true))⟩, ⟨(some 46), .fa (.t 1) 1, (some (45, false))⟩, ⟨(some 47), .ld (.t 46) 1 false, (some (45, false))⟩, ⟨(some 48), .bin .gtr (.t 47) (.k (.lf (.int .i64 255))), (some (45, false))⟩, ⟨(some 49), .pk (.t 45) (.k (.lf (.bool true))) (.t 48), (some (41, true))⟩, ⟨(some 50), .mv (.t 49), (some (41, true))⟩, ⟨(some 51), .fa (.t 1) 2, (some (50, false))⟩, ⟨(some 52), .ld (.t 51) 1 false, (some (50, false))⟩, ⟨(some 53), .bin .eql (.t 52) (.k (.lf (.int .i64 1))), (some (50, false))⟩, ⟨(some 54), .mv (.t 53), (some (50, false))⟩, ⟨(some 55), .fa (.t 1) 1, (some (54, true))⟩, ⟨(some 56), .ld (.t 55) 1 false, (some (54, true))⟩, ⟨(some 57), .bin .neq (.t 56) (.k (.lf (.int .i64 0))), (some (54, true))⟩, ⟨(some 58), .pk (.t 54) (.t 57) (.k (.lf (.bool false))), (some (50, false))⟩, ⟨(some 59), .pk (.t 50) (.k (.lf (.bool true))) (.t 58), (some (41, true))⟩, ⟨(some 60), .pk (.t 41) (.t 59) (.k (.lf (.bool false))), none⟩] [1, 3, 60]) c54_4
abbrev c54_6 : AC := .seq (.ops 0 [⟨(some 63), .ld (.t 1) 9 true, none⟩, ⟨(some 64), .call 67 [(.t 63)], none⟩, ⟨(some 2), .as 0 0 (.t 64), none⟩] [2]) .ret
abbrev c54_7 : AC := .cond (.t 62) c54_6 .skip
abbrev c54_8 : AC := .seq (.ops 0 [⟨(some 61), .mv (.t 3), none⟩, ⟨(some 62), .call 41 [(.t 61), (.k (.lf (.int .i64 8)))], none⟩] [1, 3, 62]) c54_7
abbrev c54_9 : AC := .seq (.ops 0 [⟨(some 65), .fa (.t 1) 3, none⟩, ⟨(some 66), .ld (.t 65) 1 false, none⟩, ⟨(some 67), .bin .eql (.t 66) (.k (.lf (.int .i64 0))), none⟩, ⟨(some 68), .mv (.t 67), none⟩, ⟨(some 69), .fa (.t 1) 4, (some (68, true))⟩, ⟨(some 70), .ld (.t 69) 1 false, (some (68, true))⟩, ⟨(some 71), .bin .eql (.t 70) (.k (.lf (.str ⟨#[]⟩))), (some (68, true))⟩, ⟨(some 72), .pk (.t 68) (.t 71) (.k (.lf (.bool false))), none⟩, ⟨(some 73), .mv (.t 72), none⟩, ⟨(some 74), .mv (.t 3), (some (73, true))⟩, ⟨(some 75), .call 41 [(.t 74), (.k (.lf (.int .i64 4)))], (some (73, true))⟩, ⟨(some 76), .mv (.t 75), (some (73, true))⟩, ⟨(some 77), .fa (.t 1) 2, (some (76, true))⟩, ⟨(some 78), .ld (.t 77) 1 false, (some (76, true))⟩, ⟨(some 79), .bin .geq (.t 78) (.k (.lf (.int .i64 0))), (some (76, true))⟩, ⟨(some 80), .pk (.t 76) (.t 79) (.k (.lf (.bool false))), (some (73, true))⟩, ⟨(some 81), .mv (.t 80), (some (73, true))⟩, ⟨(some 82), .fa (.t 1) 2, (some (81, true))⟩, ⟨(some 83), .ld (.t 82) 1 false, (some (81, true))⟩, ⟨(some 84), .bin .leq (.t 83) (.k (.lf (.int .i64 255))), (some (81, true))⟩, ⟨(some 85), .pk (.t 81) (.t 84) (.k (.lf (.bool false))), (some (73, true))⟩, ⟨(some 86), .mv (.t 85), (some (73, true))⟩, ⟨(some 87), .fa (.t 1) 2, (some (86, false))⟩, ⟨(some 88), .ld (.t 87) 1 false, (some (86, false))⟩, ⟨(some 89), .bin .eql (.t 88) (.k (.lf (.int .i64 0))), (some (86, false))⟩, ⟨(some 90), .pk (.t 86) (.k (.lf (.bool true))) (.t 89), (some (73, true))⟩, ⟨(some 91), .pk (.t 73) (.t 90) (.k (.lf (.bool false))), none⟩, ⟨(some 2), .as 0 0 (.t 91), none⟩] [2]) .ret
abbrev c54_10 : AC := .seq c54_8 c54_9
abbrev c54_11 : AC := .seq c54_5 c54_10
abbrev c54_12 : AC := .seq c54_2 c54_11
abbrev c54_13 : AC := .seq (.ops 0 [⟨(some 14), .bd [.int .u64 0, .int .u64 0, .int .u64 0, .int .u64 0] [], none⟩, ⟨(some 6), .al [.int .u64 0, .int .u64 0, .int .u64 0, .int .u64 0], none⟩, ⟨none, .st (.t 6) (.t 14) 4, none⟩] [1, 3, 6]) c54_12
abbrev c54_14 : AC := .seq (.ops 0 [⟨(some 8), .fa (.t 1) 0, none⟩, ⟨(some 9), .ld (.t 8) 1 false, none⟩, ⟨(some 10), .call 40 [(.t 9)], none⟩, ⟨(some 7), .mv (.t 10), none⟩, ⟨(some 11), .ext (.t 7) 0, none⟩, ⟨(some 12), .ext (.t 7) 1, none⟩, ⟨(some 13), .ext (.t 7) 2, none⟩, ⟨(some 3), .as 0 0 (.t 11), none⟩, ⟨(some 4), .as 0 0 (.t 12), none⟩, ⟨(some 5), .as 0 0 (.t 13), none⟩] [1, 3]) c54_13
abbrev c54_15 : AC := .seq (.ops 0 [⟨(some 1), .bx (.t 0), none⟩, ⟨(some 2), .as 0 0 (.k (.lf (.bool false))), none⟩] [1]) c54_14
abbrev c54 : AC := c54_15
theorem c54_ok : compileFn Tryd.prog 54 = some (92, AC.strip c54, [.t 2]) := by kernel_rfl
/-- harrow/harrowref16.Targets -/
abbrev c55_0 : AC := .seq (.ops 0 [⟨(some 12), .mv (.t 3), none⟩, ⟨(some 13), .call 41 [(.t 12), (.k (.lf (.int .i64 1)))], none⟩, ⟨(some 2), .as 0 0 (.t 13), none⟩] [2]) .ret
abbrev c55_1 : AC := .seq (.ops 0 [⟨(some 7), .mv (.t 0), none⟩, ⟨(some 8), .call 40 [(.t 7)], none⟩, ⟨(some 6), .mv (.t 8), none⟩, ⟨(some 9), .ext (.t 6) 0, none⟩, ⟨(some 10), .ext (.t 6) 1, none⟩, ⟨(some 11), .ext (.t 6) 2, none⟩, ⟨(some 3), .as 0 0 (.t 9), none⟩, ⟨(some 4), .as 0 0 (.t 10), none⟩, ⟨(some 5), .as 0 0 (.t 11), none⟩] [3]) c55_0
abbrev c55_2 : AC := .seq (.ops 0 [⟨(some 2), .as 0 0 (.k (.lf (.bool false))), none⟩] [0]) c55_1
abbrev c55 : AC := c55_2
theorem c55_ok : compileFn Tryd.prog 55 = some (14, AC.strip c55, [.t 2]) := by kernel_rfl
end Go.Proofs.YthcpaohmajjopaaDoor.I
set_option linter.unusedVariables false
set_option linter.unusedSimpArgs false
namespace Go.Proofs.YthcpaohmajjopaaDoor.I
open Go Go.Proofs.YthcpaohmajjopaaDoor.AM
variable {X : Cx}
def refT : List Int := [0, 0, 4, 16, 1, 5, 17, 16, 1, 1, 1, 1, 0, 0, 1, 1, 0, 0, 8, 0, 10]
def nameT : List (List UInt8) := [[], [97, 110, 121], [99, 104, 97, 114], [115, 101, 116], [116, 101, 115, 116, 97, 110, 121], [116, 101, 115, 116, 99, 104, 97, 114], [116, 101, 115, 116, 115, 101, 116], [115, 112, 97, 110], [99, 104, 111, 105, 99, 101], [99, 111, 109, 109, 105, 116], [112, 97, 114, 116, 105, 97, 108], [98, 97, 99, 107], [116, 119, 105, 99, 101], [102, 97, 105, 108], [106, 117, 109, 112], [99, 97, 108, 108], [114, 101, 116], [101, 110, 100], [111, 112, 101, 110], [99, 108, 111, 115, 101], [102, 117, 108, 108]]
def nextT : List Bool := [false, true, true, true, true, true, true, true, true, false, false, false, false, false, false, true, false, false, true, true, true]
def refF (k : Nat) : Int := refT[k]?.getD 0
def nameF (k : Nat) : ByteArray := ⟨(nameT[k]?.getD []).toArray⟩
def nextF (k : Nat) : Bool := nextT[k]?.getD false
theorem tab_out {k : Nat} (h : k = 0 ∨ 20 < k) : refF k = 0 ∧ nameF k = ⟨#[]⟩ ∧ nextF k = false := by
  rcases h with rfl | h
  · exact ⟨rfl, rfl, rfl⟩
  · have h1 : refT[k]? = none := List.getElem?_eq_none (by simp [refT]; omega)
    have h2 : nameT[k]? = none := List.getElem?_eq_none (by simp [nameT]; omega)
    have h3 : nextT[k]? = none := List.getElem?_eq_none (by simp [nextT]; omega)
    simp [refF, nameF, nextF, h1, h2, h3]
theorem r40 (op : Int) : R X Tryd.prog 40 [.lf (.int .i64 op)] [] (.tp [.lf (.int .i64 (refF op.toNat)), .lf (.str (nameF op.toNat)), .lf (.bool (nextF op.toNat))]) [] := by
  refine R_i [] [] c40_ok rfl (by simp) ?_
  have hout : ¬ (1 ≤ op ∧ op ≤ 20) → refF op.toNat = 0 ∧ nameF op.toNat = ⟨#[]⟩ ∧ nextF op.toNat = false := fun h => tab_out (by omega)
  simp -implicitDefEqProofs (maxSteps := 2000000) only [c40, ↓reduceIte, s_skip, s_ret, s_ops0, s_seq, s_cond, s_block, s_opsK, s_seqK_n, s_seqK_r, s_blkK_n, s_blkK_r, s_cnd, s_nil, s_cons, s_wopsK, s_putK, o_mv, o_as, o_bin, v_eql, e_t, e_k, e_put, e_get, e_res, e_keep_n, e_keep_c, e_keep1_s, e_asg_b, e_asg_i, e_asg_s, St.init, enum, List.length_nil, Option.getD_some, Nat.reduceEqDiff, reduceCtorEq, true_and, and_true, decide_eq_true_eq, s_ret_r, s_retX, s_cells_n, t_tp, t_n, t_c, t_1l, t_b, t_i, t_s, r_n, r_t, r_cons, one_2, Bool.and_true, Bool.true_and]
  iterate 20
    all_goals try (with_reducible refine ite_pr (fun h => ?_) (fun h => ?_))
  all_goals try (subst op; exact ⟨rfl, rfl, rfl⟩)
  all_goals
    obtain ⟨h1, h2, h3⟩ := hout (by omega)
    rw [h1, h2, h3]
    try exact ⟨rfl, rfl, rfl⟩
def refB (a f : Int) : Bool := decide ((IntKind.i64.wrap (a.tdiv f)).tmod 2 = 1)
theorem r41 (a f : Int) (hf : f ≠ 0) : R X Tryd.prog 41 [.lf (.int .i64 a), .lf (.int .i64 f)] [] (.lf (.bool (refB a f))) [] := by
  refine R_i [] [] c41_ok rfl (by simp) ?_
  simp -implicitDefEqProofs (maxSteps := 2000000) only [c41, ↓reduceIte, s_ret, s_ops0, s_seq, s_opsK, s_seqK_n, s_nil, s_cons, s_wopsK, s_putK, o_mv, o_as, o_bin, v_quo, v_rem, v_eql, e_t, e_k, e_put, e_get, e_res, e_keep_n, e_keep_c, e_keep1_s, e_asg_b, St.init, enum, List.length_nil, Option.getD_some, Nat.reduceEqDiff, reduceCtorEq, true_and, and_true, s_ret_r, s_retX, s_cells_n, t_lf, t_b, r_n, r_t, r_cons, one_1, Bool.and_true, Bool.true_and, ne_eq, Nat.zero_add]
  exact ⟨hf, by decide, rfl⟩
def catB (x : Ins) : Bool := decide (1 ≤ x.b ∧ x.b ≤ 7 ∧ (x.op = 18 → 2 ≤ x.b)) && capB x.b x.n x.t
theorem r67 (x : Ins) (hx : x.op = 18 ∨ x.op = 20) : R X Tryd.prog 67 [.ag x.c] [] (.lf (.bool (catB x))) [] := by
  refine R_i [] [] c67_ok rfl (by simp) ?_
  have e1 : ¬ (1 ≤ x.b ∧ x.b ≤ 7 ∧ (x.op = 18 → 2 ≤ x.b)) → catB x = false := fun h => by rw [catB, decide_eq_false h]; rfl
  have e2 : (1 ≤ x.b ∧ x.b ≤ 7 ∧ (x.op = 18 → 2 ≤ x.b)) → catB x = capB x.b x.n x.t := fun h => by rw [catB, decide_eq_true h]; rfl
  have e3 : x.b = 1 → capB x.b x.n x.t = (decide (x.n = 0) && decide (x.t = ⟨#[]⟩)) := fun h => by rw [capB, if_pos h]
  have e4 : ¬ x.b = 1 → (¬ (0 ≤ x.n ∧ x.n ≤ 50 ∧ (x.n = 0 ∨ x.b = 7))) → capB x.b x.n x.t = false := fun h h2 => by
    rw [capB, if_neg h, fldB, decide_eq_false (by omega)]; rfl
  have e5 : ¬ x.b = 1 → (0 ≤ x.n ∧ x.n ≤ 50 ∧ (x.n = 0 ∨ x.b = 7)) → capB x.b x.n x.t = (if x.b = 3 then decide (x.t = ⟨#[]⟩) || decide (nameP x.t) else if x.b = 6 then tempB x.t else decide (x.t = ⟨#[]⟩)) := fun h h2 => by
    rw [capB, if_neg h, fldB, decide_eq_true (show 0 ≤ x.n ∧ x.n ≤ 50 ∧ (x.n = 0 ∨ x.b + 16 = 23) by omega), Bool.true_and]
    have q1 : (x.b + 16 = 19) = (x.b = 3) := propext (by omega)
    have q2 : (x.b + 16 = 22) = (x.b = 6) := propext (by omega)
    simp only [q1, q2]
  generalize catB x = r at *
  generalize capB x.b x.n x.t = cb at *
  simp only [Ins.c]
  simp -implicitDefEqProofs (maxSteps := 2000000) only [c67, ↓reduceIte, s_skip, s_ret, s_ops0, s_seq, s_cond, s_block, s_opsK, s_seqK_n, s_seqK_r, s_blkK_n, s_blkK_r, s_cnd, s_nil, s_cons, s_guard, s_wopsK, s_putK, s_grd, s_grd_no, q_call, q_mv, q_pk, q_bin, q_fa, q_ld, o_mv, o_as, o_pk, v_pk, o_bin, v_eql, v_neq, v_lss, v_gtr, v_seql, v_part_f, v_atK, o_bx, o_fa, v_fa_p, o_ld, v_ld_p, v_ldC, o_call, e_t, e_k, e_put, e_get, e_res, e_keep_n, e_keep_c, e_keep1_s, e_asg_b, e_asg_i, St.init, enum, List.length_nil, Option.getD_some, Nat.reduceEqDiff, true_and, and_true, cond_false, Bool.not_true, Bool.not_false, Bool.true_eq_false, Bool.false_eq_true, decide_eq_true_eq, decide_eq_false_iff_not, s_ret_r, s_retX, s_cells_n, t_lf, t_b, r_n, r_t, r_cons, one_1, List.map_cons, List.map_nil, PV.leaves, List.flatMap_cons, List.flatMap_nil, List.append_nil, Bool.and_true, Bool.true_and, Nat.zero_le, List.getElem?_cons_zero, List.getElem?_cons_succ, kc_i, kc_s, rl_s, m_lf, m_ag, m_n, m_c, m_all, d_n, ne_eq, Nat.zero_add, Nat.add_zero, ite_not, v_bx_a]
  iterate 9
    all_goals try (with_reducible refine ite_pr (fun h => ?_) (fun h => ?_))
    all_goals try omega
  all_goals try (refine wcall_s (r81 x.t) rfl rfl ?_; simp -implicitDefEqProofs (maxSteps := 2000000) only [c67, ↓reduceIte, s_ret, s_opsK, s_seqK_n, s_seqK_r, s_blkK_r, s_nil, s_cons, s_wopsK, s_putK, o_as, o_pk, v_pk, e_t, e_k, e_put, e_get, e_res, e_keep_n, e_keep_c, e_keep1_s, e_asg_b, Option.getD_some, Nat.reduceEqDiff, true_and, and_true, Bool.false_eq_true, s_ret_r, s_retX, s_cells_n, t_lf, t_b, r_n, r_t, r_cons, one_1, St.clr, outV, ownsV, owns1, ownL, Bool.and_true, Bool.true_and, ol_b, m_lf])
  all_goals try (refine wcall_s (r82 x.t) rfl rfl ?_; simp -implicitDefEqProofs (maxSteps := 2000000) only [c67, ↓reduceIte, s_ret, s_opsK, s_seqK_n, s_seqK_r, s_blkK_r, s_nil, s_cons, s_wopsK, o_as, e_t, e_put, e_get, e_res, e_keep_n, e_keep_c, e_keep1_s, e_asg_b, Option.getD_some, true_and, and_true, Bool.false_eq_true, s_ret_r, s_retX, s_cells_n, t_lf, t_b, r_n, r_t, r_cons, one_1, St.clr, outV, ownsV, owns1, ownL, Bool.and_true, Bool.true_and, ol_b, m_lf])
  all_goals by_cases hb1 : x.b = 1
  all_goals first
    | exact (e1 (by omega)).symm
    | (rw [e2 (by omega), e4 (by omega) (by omega)]; done)
    | (rw [e2 (by omega), e5 (by omega) (by omega)]; simp_all; done)
    | (rw [e2 (by omega), e3 (by omega), decide_eq_false (show ¬ x.n = 0 by omega)]; rfl)
    | (rw [e2 (by omega), e3 (by omega), decide_eq_true (show x.n = 0 by omega), Bool.true_and]; done)
    | (rw [e2 (by omega), e3 (by omega), decide_eq_true (show x.n = 0 by omega), Bool.true_and]; simp_all; done)
    | trace_state
end Go.Proofs.YthcpaohmajjopaaDoor.I
set_option linter.unusedVariables false
set_option linter.unusedSimpArgs false
namespace Go.Proofs.YthcpaohmajjopaaDoor.I
open Go Go.Proofs.YthcpaohmajjopaaDoor.AM
variable {X : Cx}
def argB (capF : Bool) (k : Nat) (x : Ins) : Bool :=
  if k = 2 ∨ k = 5 then decide (0 ≤ x.b ∧ x.b ≤ 255) else if k = 18 then decide (2 ≤ x.b ∧ x.b ≤ 7) && capF
  else if k = 20 then decide (1 ≤ x.b ∧ x.b ≤ 7 ∧ 0 ≤ x.a ∧ x.a ≤ 255 ∧ ¬ (x.b = 1 ∧ 0 < x.a)) && capF else true
def fitB (capF : Bool) (k : Nat) (x : Ins) : Bool := x.same (x.plain k) && argB capF k x
theorem r49 (hX : X.G 1 = some usesL) (k : Nat) (hk : k < 21) (x : Ins) (hx : x.op = k) (capF : Bool) (hcap : k = 18 ∨ k = 20 → 1 ≤ x.b → x.b ≤ 7 → R X Tryd.prog 66 [.lf (.int .i64 x.b), .lf (.int .i64 x.n), .lf (.str x.t)] [] (.lf (.bool capF)) []) :
    R X Tryd.prog 49 [.ag x.c] [] (.lf (.bool (fitB capF k x))) [] := by
  refine R_i [] [] c49_ok rfl (by simp) ?_
  unfold fitB
  have h65 := r65 hX k hk x hx
  have he := eq_ins x (x.plain k)
  have hc : x.c = [.int .i64 x.op, .int .i64 x.a, .int .i64 x.b, .int .i64 x.n, .str x.t, .int .u64 x.s0, .int .u64 x.s1, .int .u64 x.s2, .int .u64 x.s3] := rfl
  generalize x.plain k = y at *
  have hy : y.c = [.int .i64 y.op, .int .i64 y.a, .int .i64 y.b, .int .i64 y.n, .str y.t, .int .u64 y.s0, .int .u64 y.s1, .int .u64 y.s2, .int .u64 y.s3] := rfl
  rw [hc] at he h65 ⊢
  rw [hy] at he h65
  rw [hx] at he h65 ⊢
  generalize x.same y = bb at *
  generalize hr : argB capF k x = r
  simp -implicitDefEqProofs (maxSteps := 2000000) only [c49, ↓reduceIte, s_ops0, s_ops2, s_seq, s_opsK, s_seqK_n, s_nil, s_cons, s_wopsK, s_wopsqK, s_putK, s_qcons, q_call, q_ld, o_as, v_part_t, o_bx, o_ld, v_ld_p, v_ldC, e_t, e_k, e_put, e_get, e_res, e_keep_n, e_keep_c, e_keep1_s, e_asg_b, St.init, enum, List.length_nil, List.length_cons, Option.getD_some, Nat.reduceEqDiff, Nat.reduceAdd, true_and, List.map_cons, List.map_nil, Bool.true_and, Nat.zero_le, Nat.le_refl, List.drop_zero, List.take_succ_cons, List.take_nil, kc_i, kc_s, rl_i, rl_s, m_ag, m_n, m_c, m_all, d_n, Nat.zero_add, v_bx_a]
  refine wcallq_i h65 rfl ?_
  have hb := fun neg ks K => v_beq (neg := neg) (ks := ks) (K := K) he
  simp -implicitDefEqProofs (maxSteps := 2000000) only [c49, hb, ↓reduceIte, s_skip, s_ret, s_ops0, s_seq, s_cond, s_block, s_opsK, s_seqK_n, s_seqK_r, s_blkK_n, s_blkK_r, s_cnd, s_nil, s_cons, s_guard, s_wopsK, s_wopsqK, s_putK, s_grd, s_grd_no, s_qnil, s_qcons, q_call, q_mv, q_pk, q_bin, q_beq, q_fa, q_ld, o_mv, o_as, o_pk, v_pk, o_bin, v_eql, v_lss, v_leq, v_gtr, v_geq, o_beq, v_part_f, v_atK, o_fa, v_fa_p, o_ld, v_ld_p, v_ldC, o_call, e_t, e_k, e_put, e_get, e_res, e_keep_n, e_keep_c, e_keep1_s, e_asg_b, Option.getD_some, Nat.reduceEqDiff, true_and, and_true, cond_false, Bool.not_true, Bool.not_false, Bool.true_eq_false, Bool.false_eq_true, decide_eq_true_eq, decide_eq_false_iff_not, s_ret_r, s_retX, s_cells_n, t_lf, t_b, r_n, r_t, r_cons, one_1, List.map_cons, List.map_nil, PV.leaves, List.flatMap_cons, List.flatMap_nil, List.append_nil, List.cons_append, List.nil_append, Bool.and_true, Bool.true_and, List.getElem?_cons_zero, List.getElem?_cons_succ, rl_i, rl_s, m_lf, Nat.zero_add, Nat.add_zero, kd_i, kd_s, ite_not, Bool.not_eq_eq_eq_not]
  clear he hb h65 hc hy
  unfold argB at hr
  iterate 14 (all_goals try (with_reducible refine ite_pr (fun _ => ?_) (fun _ => ?_)))
  all_goals try omega
  all_goals try (refine wcall_s (hcap (by omega) (by omega) (by omega)) rfl rfl ?_; simp -implicitDefEqProofs (maxSteps := 2000000) only [c49, ↓reduceIte, s_ret, s_opsK, s_seqK_n, s_seqK_r, s_blkK_r, s_nil, s_cons, s_wopsK, s_putK, o_as, o_pk, v_pk, e_t, e_k, e_put, e_get, e_res, e_keep_n, e_keep_c, e_keep1_s, e_asg_b, Option.getD_some, Nat.reduceEqDiff, true_and, and_true, Bool.false_eq_true, s_ret_r, s_retX, s_cells_n, t_lf, t_b, r_n, r_t, r_cons, one_1, St.clr, outV, ownsV, owns1, ownL, Bool.and_true, Bool.true_and, ol_b, m_lf])
  all_goals (cases bb; · simp_all)
  all_goals (simp only [Bool.true_and]; subst hr)
  all_goals try contradiction
  all_goals repeat' split
  all_goals first
    | omega
    | rfl
    | (rw [decide_eq_decide]; omega)
    | (rw [decide_eq_false (by omega)]; rfl)
    | (rw [decide_eq_true (by omega)]; rfl)
    | (rw [decide_eq_true (by omega), Bool.true_and])
    | (exact (decide_eq_false (by omega)).symm)
    | trace_state
end Go.Proofs.YthcpaohmajjopaaDoor.I
set_option linter.unusedVariables false
set_option linter.unusedSimpArgs false
namespace Go.Proofs.YthcpaohmajjopaaDoor.I
open Go Go.Proofs.YthcpaohmajjopaaDoor.AM
variable {X : Cx}
theorem r55 (op : Int) : R X Tryd.prog 55 [.lf (.int .i64 op)] [] (.lf (.bool (refB (refF op.toNat) 1))) [] := by
  refine R_i [] [] c55_ok rfl (by simp) ?_
  simp -implicitDefEqProofs (maxSteps := 2000000) only [c55, ↓reduceIte, s_ops0, s_seq, s_opsK, s_seqK_n, s_nil, s_cons, s_wopsK, o_mv, o_as, o_call, e_t, e_k, e_put, e_get, e_res, e_keep_n, e_keep_c, e_keep1_s, e_asg_b, St.init, enum, List.length_nil, Option.getD_some, reduceCtorEq, List.map_cons, List.map_nil, PV.leaves, List.flatMap_cons, List.flatMap_nil, List.append_nil, rl_i, m_lf]
  refine wcall_s (r40 op) rfl rfl ?_
  simp -implicitDefEqProofs (maxSteps := 2000000) only [c55, ↓reduceIte, s_ops0, s_seq, s_opsK, s_seqK_n, s_nil, s_cons, s_wopsK, s_putK, o_mv, o_as, o_ext, v_ext0, v_ext1, v_ext2, o_call, e_t, e_k, e_put, e_get, e_res, e_keep_n, e_keep_c, e_keep1_s, e_asg_b, e_asg_i, e_asg_s, Option.getD_some, Nat.reduceEqDiff, Bool.false_eq_true, St.clr, outV, ownsV, owns1, ownL, List.map_cons, List.map_nil, List.any_cons, List.any_nil, Bool.or_self, PV.leaves, List.flatMap_cons, List.flatMap_nil, List.append_nil, List.cons_append, List.nil_append, rl_i, ol_b, ol_i, ol_s, m_lf, m_tp, m_1l]
  refine wcall_s (r41 _ 1 (by decide)) rfl rfl ?_
  simp -implicitDefEqProofs (maxSteps := 2000000) only [c55, ↓reduceIte, s_ret, s_opsK, s_seqK_n, s_nil, s_cons, s_wopsK, o_as, e_t, e_put, e_get, e_res, e_keep_n, e_keep_c, e_keep1_s, e_asg_b, Option.getD_some, and_true, Bool.false_eq_true, s_ret_r, s_retX, s_cells_n, t_lf, t_b, r_n, r_t, r_cons, one_1, St.clr, outV, ownsV, owns1, ownL, Bool.and_true, ol_b, m_lf]
abbrev rp (k : Nat) : List Bool := [refB (refF k) 1, refB (refF k) 2, refB (refF k) 4, refB (refF k) 8, refB (refF k) 16]
abbrev hp (k : Nat) : List Bool := [hasB k 1, hasB k 2, hasB k 4, hasB k 8, hasB k 16]
abbrev kp (k : Nat) : List Bool := [decide (k = 2 ∨ k = 5), decide (k = 18), decide (k = 20)]
theorem pat2 {k : Nat} (hk : k < 21) : (rp k, hp k, kp k) ∈ [
    ([false, false, false, false, false], [false, false, false, false, false], [false, false, false]),
    ([false, false, true, false, false], [false, true, false, false, false], [true, false, false]),
    ([false, false, false, false, true], [false, false, false, false, true], [false, false, false]),
    ([true, false, false, false, false], [true, false, false, false, false], [false, false, false]),
    ([true, false, true, false, false], [true, true, false, false, false], [true, false, false]),
    ([true, false, false, false, true], [true, false, false, false, true], [false, false, false]),
    ([false, false, false, true, false], [false, true, true, true, false], [false, true, false]),
    ([false, true, false, true, false], [true, true, true, true, false], [false, false, true])] := by
  have h : ∀ i : Fin 21, (rp i.val, hp i.val, kp i.val) ∈ [
    ([false, false, false, false, false], [false, false, false, false, false], [false, false, false]),
    ([false, false, true, false, false], [false, true, false, false, false], [true, false, false]),
    ([false, false, false, false, true], [false, false, false, false, true], [false, false, false]),
    ([true, false, false, false, false], [true, false, false, false, false], [false, false, false]),
    ([true, false, true, false, false], [true, true, false, false, false], [true, false, false]),
    ([true, false, false, false, true], [true, false, false, false, true], [false, false, false]),
    ([false, false, false, true, false], [false, true, true, true, false], [false, true, false]),
    ([false, true, false, true, false], [true, true, true, true, false], [false, false, true])] := by decide +kernel
  exact h ⟨k, hk⟩
theorem r54 (k : Nat) (hk : k < 21) (x : Ins) (hx : x.op = k) : R X Tryd.prog 54 [.ag x.c] [] (.lf (.bool (fitB (capB x.b x.n x.t) k x))) [] := by
  refine R_i [] [] c54_ok rfl (by simp) ?_
  have h40 := r40 (X := X) x.op
  have hkk : x.op.toNat = k := by omega
  rw [hkk] at h40
  have q1 := r41 (X := X) (refF k) 1 (by decide)
  have q2 := r41 (X := X) (refF k) 2 (by decide)
  have q4 := r41 (X := X) (refF k) 4 (by decide)
  have q8 := r41 (X := X) (refF k) 8 (by decide)
  have q16 := r41 (X := X) (refF k) 16 (by decide)
  have h67 := r67 (X := X) x
  have hm := pat2 hk
  simp only [rp, hp, kp, List.mem_cons, List.not_mem_nil, or_false, Prod.mk.injEq, List.cons.injEq, and_true] at hm
  have he : eqLs [.int .u64 x.s0, .int .u64 x.s1, .int .u64 x.s2, .int .u64 x.s3] [.int .u64 0, .int .u64 0, .int .u64 0, .int .u64 0] = some (decide (x.s0 = 0) && (decide (x.s1 = 0) && (decide (x.s2 = 0) && decide (x.s3 = 0)))) := by simp [eqLs, eqL]
  generalize hse : (decide (x.s0 = 0) && (decide (x.s1 = 0) && (decide (x.s2 = 0) && decide (x.s3 = 0)))) = se at he
  have hb := fun neg ks K => v_beq (neg := neg) (ks := ks) (K := K) he
  generalize hr : fitB (capB x.b x.n x.t) k x = r
  simp only [Ins.c] at h67 ⊢
  simp -implicitDefEqProofs (maxSteps := 2000000) only [c54, ↓reduceIte, s_ops0, s_seq, s_opsK, s_seqK_n, s_nil, s_cons, s_wopsK, s_putK, o_as, v_part_f, v_atK, o_bx, o_fa, v_fa_p, o_ld, v_ld_p, v_ldC, o_call, e_t, e_k, e_put, e_get, e_res, e_keep_n, e_keep_c, e_keep1_s, e_asg_b, St.init, enum, List.length_nil, Option.getD_some, Nat.reduceEqDiff, true_and, List.map_cons, List.map_nil, PV.leaves, List.flatMap_cons, List.flatMap_nil, List.append_nil, Bool.true_and, Nat.zero_le, List.getElem?_cons_zero, kc_i, kc_s, rl_i, m_lf, m_ag, m_n, m_c, m_all, d_n, Nat.add_zero, v_bx_a]
  refine wcall_s h40 rfl rfl ?_
  simp -implicitDefEqProofs (maxSteps := 2000000) only [c54, ↓reduceIte, s_ops0, s_seq, s_opsK, s_seqK_n, s_nil, s_cons, s_wopsK, s_putK, o_mv, o_as, o_ext, v_ext0, v_ext1, v_ext2, o_al, o_st, v_st_p, v_stCK, o_bd, v_agK, v_bd_n, o_call, e_t, e_k, e_put, e_get, e_res, e_keep_n, e_keep_c, e_keep1_s, e_asg_b, e_asg_i, e_asg_s, List.length_nil, List.length_cons, Option.getD_some, Nat.reduceEqDiff, Nat.reduceAdd, true_and, Bool.false_eq_true, St.clr, outV, ownsV, owns1, ownL, List.map_cons, List.map_nil, List.any_cons, List.any_nil, Bool.or_self, PV.leaves, List.flatMap_cons, List.flatMap_nil, List.append_nil, List.cons_append, List.nil_append, List.all_cons, List.all_nil, Bool.true_and, Bool.and_self, PV.cells, cellL, fillL, Nat.reduceBEq, Nat.zero_le, Nat.le_refl, List.take_zero, List.drop_succ_cons, List.drop_nil, kc_i, kc_s, rl_i, ol_b, ol_i, ol_s, kc_p, m_lf, m_ag, m_tp, m_1l, m_n, m_c, m_all, st_b, d_n, d_c, Nat.zero_add]
  generalize refF k = F at *
  rcases hm with hm | hm | hm | hm | hm | hm | hm | hm
  all_goals
    obtain ⟨⟨e1, e2, e4, e8, e16⟩, ⟨u1, u2, u4, u8, u16⟩, k1, k2, k3⟩ := hm
    rw [e1] at q1
    rw [e2] at q2
    rw [e4] at q4
    rw [e8] at q8
    rw [e16] at q16
    simp only [decide_eq_true_eq, decide_eq_false_iff_not] at k1 k2 k3
  iterate 12
    all_goals try (with_reducible refine ite_pr (fun _ => ?_) (fun _ => ?_))
    all_goals try ((first | refine wcall_s q1 rfl rfl ?_ | refine wcall_s q2 rfl rfl ?_ | refine wcall_s q4 rfl rfl ?_ | refine wcall_s q8 rfl rfl ?_ | refine wcall_s q16 rfl rfl ?_ | refine wcall_s (h67 (by omega)) rfl rfl ?_); simp -implicitDefEqProofs (maxSteps := 2000000) only [c54, hb, ↓reduceIte, s_skip, s_ret, s_ops0, s_seq, s_cond, s_opsK, s_seqK_n, s_seqK_r, s_cnd, s_nil, s_cons, s_guard, s_wopsK, s_putK, s_grd, s_grd_no, q_call, q_mv, q_pk, q_bin, q_beq, q_un, q_fa, q_ld, o_mv, o_as, o_pk, v_pk, o_bin, v_eql, v_neq, v_lss, v_leq, v_gtr, v_geq, v_seql, o_beq, o_un, v_not, v_part_t, v_part_f, v_atK, o_fa, v_fa_p, o_ld, v_ld_p, v_ldC, o_call, e_t, e_k, e_put, e_get, e_res, e_keep_n, e_keep_c, e_keep1_s, e_asg_b, List.length_nil, List.length_cons, Option.getD_some, Nat.reduceEqDiff, Nat.reduceAdd, true_and, and_true, cond_false, Bool.not_true, Bool.not_false, Bool.true_eq_false, Bool.false_eq_true, decide_eq_true_eq, decide_eq_false_iff_not, s_ret_r, s_retX, s_cells_n, t_lf, t_b, r_n, r_t, r_cons, one_1, St.clr, outV, ownsV, owns1, ownL, List.map_cons, List.map_nil, PV.leaves, List.flatMap_cons, List.flatMap_nil, List.append_nil, List.cons_append, List.nil_append, Bool.and_true, Bool.true_and, Nat.le_refl, List.drop_zero, List.take_succ_cons, List.drop_succ_cons, List.take_nil, List.getElem?_cons_zero, List.getElem?_cons_succ, rl_i, rl_s, ol_b, m_lf, m_ag, ne_eq, Nat.zero_add, kd_i, ite_not, Bool.not_eq_eq_eq_not])
  all_goals (rw [← hr]; clear hr)
  all_goals subst hse
  all_goals try simp only [decide_eq_true_eq, decide_eq_false_iff_not, Bool.and_eq_true, Bool.and_eq_false_iff] at *
  all_goals simp only [fitB]
  all_goals generalize hA : argB (capB x.b x.n x.t) k x = A
  all_goals unfold argB at hA
  all_goals first
    | rw [if_pos k1] at hA
    | rw [if_neg k1, if_pos k2] at hA
    | rw [if_neg k1, if_neg k2, if_pos k3] at hA
    | rw [if_neg k1, if_neg k2, if_neg k3] at hA
  all_goals simp only [Ins.same, Ins.plain, catB, u1, u2, u4, u8, u16, if_true, if_false, Bool.false_eq_true, decide_true, Bool.true_and, Bool.and_true]
  all_goals subst hA
  all_goals rw [Bool.eq_iff_iff]
  all_goals simp only [Bool.and_eq_true, decide_eq_true_eq, Bool.false_eq_true]
  all_goals clear q1 q2 q4 q8 q16 h67 hb he h40 u1 u2 u4 u8 u16
  all_goals first
    | grind
    | trace_state
end Go.Proofs.YthcpaohmajjopaaDoor.I
set_option linter.unusedVariables false
set_option linter.unusedSimpArgs false
namespace Go.Proofs.YthcpaohmajjopaaDoor.I
open Go Go.Proofs.YthcpaohmajjopaaDoor.AM
variable {X : Cx}
def errAt (capF : Ins → Bool) (len i : Nat) (x : Ins) : Int :=
  if ¬ (1 ≤ x.op ∧ x.op ≤ 20) then 160 else if fitB (capF x) x.op.toNat x = false then 161
  else if hasB x.op.toNat 32 = true ∧ (x.a < -(i : Int) ∨ (len : Int) - i ≤ x.a) then 162 else 0
def chkGo (capF : Ins → Bool) (len : Nat) : Nat → List Ins → Option (Int × Int)
  | _, [] => none
  | i, x :: r => if errAt capF len i x = 0 then chkGo capF len (i + 1) r else some ((i : Int), errAt capF len i x)
def lastOp : List Ins → Int
  | [] => 0
  | [x] => x.op
  | _ :: y :: r => lastOp (y :: r)
def chkEnd (code : List Ins) : Int × Int := if hasB (lastOp code).toNat 64 = true then ((code.length : Int) - 1, 163) else (0, 0)
def chk (capF : Ins → Bool) (code : List Ins) : Int × Int :=
  if 8192 < code.length then (0, 2) else if code.length = 0 then (0, 3) else (chkGo capF code.length 0 code).getD (chkEnd code)
def CapOK (X : Cx) (capF : Ins → Bool) (code : List Ins) : Prop := ∀ x ∈ code, x.op = 18 ∨ x.op = 20 → 1 ≤ x.b → x.b ≤ 7 → R X Tryd.prog 66 [.lf (.int .i64 x.b), .lf (.int .i64 x.n), .lf (.str x.t)] [] (.lf (.bool (capF x))) []
theorem last_get : ∀ {code : List Ins}, 0 < code.length → ∃ y, code[code.length - 1]? = some y ∧ lastOp code = y.op ∧ y ∈ code
  | [x], _ => ⟨x, rfl, rfl, by simp⟩
  | x :: y :: r, _ => by
    obtain ⟨z, h1, h2, h3⟩ := last_get (code := y :: r) (by simp)
    refine ⟨z, ?_, h2, by simp at h3 ⊢; right; exact h3⟩
    simpa using h1
theorem nat_of {z : Int} (h : 1 ≤ z ∧ z ≤ 20) : ∃ k : Nat, z = k ∧ k < 21 := ⟨z.toNat, by omega, by omega⟩
theorem r28 (hX : X.G 1 = some usesL) (capF : Ins → Bool) (code : List Ins) (hcap : CapOK X capF code) (sp : List (List L)) :
    R X Tryd.prog 28 [.lf (.lst .ro 9 (code.map Ins.c) sp)] [] (.tp [.lf (.int .i64 (chk capF code).1), .lf (.int .i64 (chk capF code).2)]) [] := by
  refine R_i [] [] c28_ok rfl (by simp) ?_
  generalize hr : chk capF code = r
  have hl : (code.map Ins.c).length = code.length := List.length_map _
  have key : ∀ (q : List Ins) (i : Nat), code.drop i = q → (∀ x ∈ code.take i, 1 ≤ x.op ∧ x.op ≤ 20) → code.length ≤ 8192 → 0 < code.length → (chkGo capF code.length i q).getD (chkEnd code) = r → LoopAt X Tryd.prog c28_21 [0, 13, 14, 15] (blkK 0 (seqK X Tryd.prog c28_30 (retS [] [] 0 [RV.t 2, RV.t 3] (PV.tp [PV.lf (L.int IntKind.i64 r.fst), PV.lf (L.int IntKind.i64 r.snd)]) [])))
      { m := 0, tm := [(0, PV.lf (L.lst Tag.ro 9 (List.map Ins.c code) sp)), (13, PV.lf (L.lst Tag.ro 9 (List.map Ins.c code) sp)), (14, PV.lf (L.int IntKind.i64 ↑code.length)), (15, PV.lf (L.int IntKind.i64 i))], ce := [] } := by
    intro q
    induction q with
    | nil =>
      intro i hq hal h1 h2 hr Z hZ
      apply hZ
      have hi : code.length ≤ i := by simpa using hq
      obtain ⟨y, g1, g2, g3⟩ := last_get h2
      rw [List.take_of_length_le hi] at hal
      obtain ⟨k, hk, hk2⟩ := nat_of (hal y g3)
      have e1 : IntKind.i64.wrap ((code.length : Int) - 1) = ((code.length - 1 : Nat) : Int) := by rw [w64 (by omega) (by omega)]; omega
      have hg : (code.map Ins.c).getD ((code.length - 1 : Nat) : Int).toNat [] = [.int .i64 y.op, .int .i64 y.a, .int .i64 y.b, .int .i64 y.n, .str y.t, .int .u64 y.s0, .int .u64 y.s1, .int .u64 y.s2, .int .u64 y.s3] := by
        rw [Int.toNat_natCast, List.getD_eq_getElem?_getD, List.getElem?_map, g1]; rfl
      rw [hk] at hg
      simp only [chkGo, Option.getD_none, chkEnd, g2, hk, Int.toNat_natCast] at hr
      simp -implicitDefEqProofs (maxSteps := 2000000) only [c28, hl, e1, hg, v_ld_e, ↓reduceIte, s_skip, s_exit, s_ops0, s_seq, s_cond, s_block, s_opsK, s_seqK_n, s_seqK_e, s_blkK_e, s_loopK_e, s_cnd, s_nil, s_cons, s_wopsK, s_putK, o_mv, o_as, o_bin, v_sub, v_lss, v_part_t, v_part_f, v_atK, o_al, o_fa, v_fa_p, v_fa_e, o_ia, v_ia, o_ld, v_ld_p, v_ldC, o_st, v_st_p, v_stCK, o_len, v_len, o_call, e_t, e_k, e_put, e_get, e_res, e_keep_n, e_keep_c, e_keep1_s, e_asg_i, List.length_nil, List.length_cons, Option.getD_some, Nat.reduceEqDiff, Nat.reduceAdd, reduceCtorEq, true_and, decide_eq_true_eq, List.map_cons, List.map_nil, PV.leaves, List.flatMap_cons, List.flatMap_nil, List.append_nil, List.cons_append, List.nil_append, Bool.true_and, PV.cells, fillL, Nat.zero_le, Nat.le_refl, List.take_zero, List.drop_zero, List.getElem?_cons_zero, kc_b, kc_i, rl_i, kc_l, m_lf, m_ag, m_n, m_c, m_all, st_b, d_n, d_c, Nat.zero_add, Nat.add_zero, kc_er]
      with_reducible refine ite_pr (fun _ => ?_) (fun _ => ?_)
      · omega
      refine fun _ => ⟨⟨by omega, by omega⟩, by omega, ?_⟩
      refine wcall_s (r50 hX k hk2 64) rfl rfl ?_
      simp -implicitDefEqProofs (maxSteps := 2000000) only [c28, ↓reduceIte, s_skip, s_ret, s_ops0, s_seq, s_cond, s_opsK, s_seqK_n, s_seqK_r, s_cnd, s_nil, s_cons, s_wopsK, o_mv, o_as, e_t, e_k, e_put, e_get, e_res, e_keep_n, e_keep_c, e_keep1_s, e_asg_i, Option.getD_some, Nat.reduceEqDiff, reduceCtorEq, true_and, and_true, Bool.false_eq_true, s_ret_r, s_retX, s_cells_n, t_tp, t_n, t_c, t_1l, t_i, r_n, r_t, r_cons, one_2, St.clr, outV, ownsV, owns1, ownL, Bool.and_true, Bool.true_and, ol_b, m_lf]
      rw [← hr]
      split
      · exact ⟨by simp only; omega, rfl⟩
      · exact ⟨rfl, rfl⟩
    | cons x q ih =>
      intro i hq hal h1 h2 hr Z hZ
      apply hZ
      have hi : i < code.length := by
        have := congrArg List.length hq
        simp at this; omega
      have hx : code[i]? = some x := by
        have := congrArg (fun l => l[0]?) hq
        simpa using this
      have hg : (code.map Ins.c).getD (i : Int).toNat [] = x.c := by
        rw [Int.toNat_natCast, List.getD_eq_getElem?_getD, List.getElem?_map, hx]; rfl
      have hq' : code.drop (i + 1) = q := by
        rw [← List.drop_drop, hq]; rfl
      have hc : x.c = [.int .i64 x.op, .int .i64 x.a, .int .i64 x.b, .int .i64 x.n, .str x.t, .int .u64 x.s0, .int .u64 x.s1, .int .u64 x.s2, .int .u64 x.s3] := rfl
      rw [hc] at hg
      simp -implicitDefEqProofs (maxSteps := 2000000) only [c28, hl, hg, v_ld_e, ↓reduceIte, s_skip, s_exit, s_ops0, s_seq, s_cond, s_block, s_opsK, s_seqK_n, s_seqK_e, s_blkK_e, s_loopK_e, s_cnd, s_nil, s_cons, s_wopsK, s_putK, o_mv, o_as, o_bin, v_sub, v_lss, v_part_t, v_part_f, v_atK, o_al, o_fa, v_fa_p, v_fa_e, o_ia, v_ia, o_ld, v_ld_p, v_ldC, o_st, v_st_p, v_stCK, o_len, v_len, o_call, e_t, e_k, e_put, e_get, e_res, e_keep_n, e_keep_c, e_keep1_s, e_asg_i, List.length_nil, List.length_cons, Option.getD_some, Nat.reduceEqDiff, Nat.reduceAdd, reduceCtorEq, true_and, decide_eq_true_eq, List.map_cons, List.map_nil, PV.leaves, List.flatMap_cons, List.flatMap_nil, List.append_nil, List.nil_append, List.all_cons, List.all_nil, Bool.true_and, Bool.and_self, PV.cells, cellL, fillL, Nat.zero_le, Nat.le_refl, List.take_zero, List.drop_zero, List.take_succ_cons, List.drop_succ_cons, List.drop_nil, List.take_nil, List.getElem?_cons_zero, kc_b, kc_i, kc_s, rl_i, kc_l, m_lf, m_ag, m_n, m_c, m_all, st_b, d_n, d_c, Nat.zero_add, Nat.add_zero, kc_er]
      with_reducible refine ite_pr (fun _ => ?_) (fun _ => ?_)
      rotate_left
      · omega
      refine ⟨⟨by omega, by omega⟩, by omega, ?_⟩
      refine wcall_s (r31 x.op) rfl rfl ?_
      simp -implicitDefEqProofs (maxSteps := 2000000) only [c28, hl, hg, v_ld_e, ↓reduceIte, s_ret, s_ops0, s_seq, s_cond, s_opsK, s_seqK_n, s_seqK_r, s_blkK_r, s_loopK_r, s_cnd, s_nil, s_cons, s_wopsK, s_putK, o_mv, o_as, o_un, v_not, v_part_t, o_ld, v_ld_p, v_ldC, o_call, e_t, e_k, e_put, e_get, e_res, e_keep_n, e_keep_c, e_keep1_s, e_asg_b, e_asg_i, List.length_nil, List.length_cons, Option.getD_some, Nat.reduceEqDiff, Nat.reduceAdd, reduceCtorEq, true_and, and_true, Bool.not_true, Bool.false_eq_true, decide_eq_false_iff_not, s_ret_r, s_retX, s_cells_n, t_tp, t_n, t_c, t_1l, t_i, r_n, r_t, r_cons, one_2, St.clr, outV, ownsV, owns1, ownL, List.map_cons, List.map_nil, PV.leaves, List.flatMap_cons, List.flatMap_nil, List.append_nil, Bool.and_true, Bool.true_and, Nat.le_refl, List.drop_zero, List.take_succ_cons, List.take_nil, rl_i, rl_s, ol_b, m_lf, m_ag, Nat.zero_add, ite_not, Bool.not_eq_eq_eq_not]
      have hxm : x ∈ code := List.mem_of_getElem? hx
      simp only [chkGo] at hr
      have he : errAt capF code.length i x = _ := rfl
      conv at he => rhs; unfold errAt
      generalize errAt capF code.length i x = e at hr he
      with_reducible refine ite_pr (fun ho => ?_) (fun ho => ?_)
      rotate_left
      · rw [if_pos ho] at he
        subst he
        rw [if_neg (by decide)] at hr
        rw [← hr]
        exact ⟨rfl, rfl⟩
      obtain ⟨k, hk, hk2⟩ := nat_of ho
      have h49 := r49 hX k hk2 x hk (capF x) (fun h => hcap x hxm (by omega))
      have h50 := r50 hX k hk2 32
      rw [← hk] at h50
      rw [hc] at h49
      have w1 : IntKind.i64.wrap (0 - (i : Int)) = -(i : Int) := by rw [w64 (by omega) (by omega)]; omega
      have w2 : IntKind.i64.wrap ((code.length : Int) - (i : Int)) = (code.length : Int) - (i : Int) := w64 (by omega) (by omega)
      have w3 : IntKind.i64.wrap ((i : Int) + 1) = ((i + 1 : Nat) : Int) := by rw [w64 (by omega) (by omega)]; omega
      rw [if_neg (by simpa using ho), show x.op.toNat = k by omega] at he
      refine wcall_s h49 rfl rfl ?_
      simp -implicitDefEqProofs (maxSteps := 2000000) only [c28, ↓reduceIte, s_ret, s_ops0, s_seq, s_cond, s_opsK, s_seqK_n, s_seqK_r, s_blkK_r, s_loopK_r, s_cnd, s_nil, s_cons, s_wopsK, s_putK, o_mv, o_as, o_un, v_not, v_part_f, v_atK, o_fa, v_fa_p, o_ld, v_ld_p, v_ldC, o_call, e_t, e_k, e_put, e_get, e_res, e_keep_n, e_keep_c, e_keep1_s, e_asg_b, e_asg_i, Option.getD_some, Nat.reduceEqDiff, reduceCtorEq, true_and, and_true, Bool.not_true, Bool.false_eq_true, s_ret_r, s_retX, s_cells_n, t_tp, t_n, t_c, t_1l, t_i, r_n, r_t, r_cons, one_2, St.clr, outV, ownsV, owns1, ownL, List.map_cons, List.map_nil, PV.leaves, List.flatMap_cons, List.flatMap_nil, List.append_nil, List.cons_append, List.nil_append, Bool.and_true, Bool.true_and, List.getElem?_cons_zero, rl_i, ol_b, m_lf, Nat.add_zero, Bool.not_eq_eq_eq_not]
      with_reducible refine ite_pr (fun hf => ?_) (fun hf => ?_)
      · rw [if_pos hf] at he
        subst he
        rw [if_neg (by decide)] at hr
        rw [← hr]
        exact ⟨rfl, rfl⟩
      rw [if_neg hf] at he
      refine wcall_s h50 rfl rfl ?_
      have hal' : ∀ y ∈ code.take (i + 1), 1 ≤ y.op ∧ y.op ≤ 20 := by
        intro y hy
        rw [List.take_add_one, hx] at hy
        simp only [List.mem_append, Option.toList_some, List.mem_singleton] at hy
        rcases hy with hy | rfl
        · exact hal y hy
        · exact ho
      have nx := fun h0 : e = 0 => ih (i + 1) hq' hal' h1 h2 (by rw [if_pos h0] at hr; exact hr) Z hZ
      have bad : e = 162 → (i : Int) = r.1 ∧ 162 = r.2 := by
        intro h0
        rw [h0, if_neg (by decide)] at hr
        rw [← hr]
        exact ⟨rfl, rfl⟩
      simp -implicitDefEqProofs (maxSteps := 2000000) only [c28, hl, w1, w2, w3, ↓reduceIte, s_skip, s_ret, s_ops0, s_seq, s_cond, s_opsK, s_seqK_n, s_seqK_r, s_blkK_n, s_blkK_r, s_loopK_n, s_loopK_r, s_cnd, s_nil, s_cons, s_guard, s_wopsK, s_putK, s_grd, s_grd_no, q_mv, q_pk, q_bin, q_un, q_fa, q_ld, q_len, o_mv, o_as, o_pk, v_pk, o_bin, v_add, v_sub, v_lss, v_geq, o_un, v_neg, v_part_f, v_atK, o_fa, v_fa_p, o_ld, v_ld_p, v_ldC, o_len, v_len, e_t, e_k, e_put, e_get, e_res, e_keep_n, e_keep_c, e_keep1_s, e_asg_b, e_asg_i, Option.getD_some, Nat.reduceEqDiff, reduceCtorEq, true_and, and_true, cond_false, Bool.not_true, Bool.not_false, Bool.true_eq_false, Bool.false_eq_true, decide_eq_true_eq, decide_eq_false_iff_not, s_ret_r, s_retX, s_cells_n, t_tp, t_n, t_c, t_1l, t_i, r_n, r_t, r_cons, one_2, St.clr, outV, ownsV, owns1, ownL, List.append_nil, Bool.and_true, Bool.true_and, List.getElem?_cons_zero, List.getElem?_cons_succ, ol_b, m_lf, e_head, e_headK, kC_n, pO_n, pO_i, pO_l, List.range_zero, Nat.zero_add, ite_not]
      with_reducible refine ite_pr (fun hj => ?_) (fun hj => ?_)
      · with_reducible refine ite_pr (fun ha => ?_) (fun ha => ?_)
        · exact bad (by rw [he, if_pos ⟨hj, by omega⟩])
        · refine fun _ => ?_
          with_reducible refine ite_pr (fun hb => ?_) (fun hb => ?_)
          · exact bad (by rw [he, if_pos ⟨hj, by omega⟩])
          · exact nx (by rw [he, if_neg (by omega)])
      · exact nx (by rw [he, if_neg (fun h => hj h.1)])
  unfold chk at hr
  simp -implicitDefEqProofs (maxSteps := 2000000) only [c28, hl, ↓reduceIte, s_skip, s_ret, s_ops0, s_seq, s_cond, s_block, s_loop, s_opsK, s_seqK_n, s_seqK_r, s_cnd, s_nil, s_cons, s_wopsK, s_putK, o_mv, o_as, o_bin, v_eql, v_gtr, o_len, v_len, e_t, e_k, e_put, e_get, e_res, e_keep_n, e_keep_c, e_keep1_s, e_asg_i, St.init, enum, List.length_nil, Option.getD_some, Nat.reduceEqDiff, reduceCtorEq, true_and, and_true, decide_eq_true_eq, s_ret_r, s_retX, s_cells_n, t_tp, t_n, t_c, t_1l, t_i, r_n, r_t, r_cons, one_2, List.append_nil, Bool.and_true, Bool.true_and, e_head, e_headK, kC_n, pO_n, pO_i, pO_l, List.range_zero]
  refine fun hl2 => ?_
  with_reducible refine ite_pr (fun h => ?_) (fun h => ?_)
  · rw [if_pos (by omega)] at hr
    rw [← hr]
    exact ⟨rfl, rfl⟩
  rw [if_neg (by omega)] at hr
  refine fun _ => ?_
  with_reducible refine ite_pr (fun h => ?_) (fun h => ?_)
  · rw [if_pos (by omega)] at hr
    rw [← hr]
    exact ⟨rfl, rfl⟩
  rw [if_neg (by omega)] at hr
  refine fun _ => key code 0 rfl (fun x hx => by simp at hx) (by omega) (by omega) hr
end Go.Proofs.YthcpaohmajjopaaDoor.I
set_option linter.unusedVariables false
set_option linter.unusedSimpArgs false
namespace Go.Proofs.YthcpaohmajjopaaDoor.I
open Go Go.Proofs.YthcpaohmajjopaaDoor.AM
variable {X : Cx}
def one (k : Int) : Ins := ⟨k, 0, 0, 0, ⟨#[]⟩, 0, 0, 0, 0⟩
theorem r9 (hX : X.G 1 = some usesL) : R X Tryd.prog 9 [] [] (.lf (.bool true)) [] := by
  refine R_i [] [] c9_ok rfl (by simp) ?_
  have h1 := r28 hX (fun _ => true) [one 17] (fun x hx h => by simp at hx; subst hx; simp [one] at h) []
  have h2 := r28 hX (fun _ => true) [one 1] (fun x hx h => by simp at hx; subst hx; simp [one] at h) []
  have e1 : chk (fun _ => true) [one 17] = (0, 0) := by decide +kernel
  have e2 : chk (fun _ => true) [one 1] = (0, 163) := by decide +kernel
  rw [e1] at h1
  rw [e2] at h2
  simp only [List.map_cons, List.map_nil, one, Ins.c] at h1 h2
  simp -implicitDefEqProofs (maxSteps := 2000000) only [c9, ↓reduceIte, s_ops0, s_seq, s_opsK, s_seqK_n, s_nil, s_cons, s_wopsK, o_as, o_bd, v_agK, v_bd_n, v_bd_c, o_bs, v_bsK, v_lit_n, v_lit_c, o_call, e_t, e_k, e_put, e_get, e_res, e_keep_n, e_asg_b, St.init, enum, List.length_nil, List.length_cons, Option.getD_some, Nat.reduceAdd, reduceCtorEq, true_and, List.map_cons, List.map_nil, PV.leaves, List.flatMap_cons, List.flatMap_nil, List.append_nil, List.cons_append, List.nil_append, List.all_cons, List.all_nil, Bool.true_and, Bool.and_self, PV.cells, cellL, datL, fillL, Nat.reduceMul, Nat.reduceLeDiff, List.take_zero, List.drop_zero, List.drop_succ_cons, kp_i, kp_s, rl_i, rl_s, rl_l, m_lf, m_ag, m_n, m_c, m_all, dw_n, dw_i, dw_s, plT, ne_eq, not_false_eq_true, lit_n, lit_c, List.reduceReplicate, List.set_cons_zero, Nat.lt_add_one, Nat.zero_add, Nat.add_zero]
  refine wcall_s h1 rfl rfl ?_
  simp -implicitDefEqProofs (maxSteps := 2000000) only [c9, ↓reduceIte, s_ops0, s_seq, s_opsK, s_seqK_n, s_nil, s_cons, s_wopsK, s_putK, o_mv, o_as, o_ext, v_ext0, v_ext1, o_bd, v_agK, v_bd_n, v_bd_c, o_bs, v_bsK, v_lit_n, v_lit_c, o_call, e_t, e_k, e_put, e_get, e_res, e_keep_n, e_keep_c, e_keep1_s, e_asg_i, List.length_nil, List.length_cons, Option.getD_some, Nat.reduceEqDiff, Nat.reduceAdd, reduceCtorEq, true_and, Bool.false_eq_true, St.clr, outV, ownsV, owns1, ownL, List.map_cons, List.map_nil, List.any_cons, List.any_nil, Bool.or_self, PV.leaves, List.flatMap_cons, List.flatMap_nil, List.append_nil, List.cons_append, List.nil_append, List.all_cons, List.all_nil, Bool.true_and, Bool.and_self, PV.cells, cellL, datL, fillL, Nat.reduceMul, Nat.reduceLeDiff, List.take_zero, List.drop_zero, List.drop_succ_cons, kp_i, kp_s, rl_i, rl_s, ol_i, rl_l, m_lf, m_ag, m_tp, m_1l, m_n, m_c, m_all, dw_n, dw_i, dw_s, plT, ne_eq, not_false_eq_true, lit_n, lit_c, List.reduceReplicate, List.set_cons_zero, Nat.lt_add_one, Nat.zero_add, Nat.add_zero]
  refine wcall_s h2 rfl rfl ?_
  simp -implicitDefEqProofs (maxSteps := 2000000) only [c9, ↓reduceIte, s_ret, s_ops0, s_seq, s_opsK, s_seqK_n, s_nil, s_cons, s_guard, s_wopsK, s_putK, s_grd, q_mv, q_bin, o_mv, o_as, o_pk, v_pk, o_bin, v_eql, o_ext, v_ext0, v_ext1, e_t, e_k, e_put, e_get, e_res, e_keep_n, e_keep_c, e_keep1_s, e_asg_b, e_asg_i, Option.getD_some, Nat.reduceEqDiff, and_true, cond_false, Bool.false_eq_true, decide_eq_true_eq, s_ret_r, s_retX, s_cells_n, t_lf, t_b, r_n, r_t, r_cons, one_1, St.clr, outV, ownsV, owns1, ownL, List.map_cons, List.map_nil, List.any_cons, List.any_nil, Bool.or_self, Bool.and_true, ol_i, m_tp, m_1l]

def sameL : List Ins → List Ins → Bool
  | [], [] => true
  | x :: a, y :: b => x.same y && sameL a b
  | _, _ => false
theorem same_self (x : Ins) : x.same x = true := Ins.same_eq.2 rfl
theorem sameL_self : ∀ (a : List Ins), sameL a a = true
  | [] => rfl
  | x :: a => by simp [sameL, same_self, sameL_self a]
theorem sameL_len : ∀ {a b : List Ins}, a.length ≠ b.length → sameL a b = false
  | [], [], h => by simp at h
  | [], _ :: _, _ => rfl
  | _ :: _, [], _ => rfl
  | x :: a, y :: b, h => by simp [sameL, sameL_len (a := a) (b := b) (by simpa using h)]
theorem drop_step {α : Type} {l q : List α} {x : α} {i : Nat} (h : l.drop i = x :: q) : i < l.length ∧ l[i]? = some x ∧ l.drop (i + 1) = q := by
  refine ⟨?_, ?_, ?_⟩
  · have := congrArg List.length h
    simp at this; omega
  · have := congrArg (fun l => l[0]?) h
    simpa using this
  · rw [← List.drop_drop, h]; rfl
theorem get_c {l : List Ins} {i : Nat} {x : Ins} (h : l[i]? = some x) : (l.map Ins.c).getD (i : Int).toNat [] = x.c := by
  rw [Int.toNat_natCast, List.getD_eq_getElem?_getD, List.getElem?_map, h]; rfl
theorem wp9 {x : Ins} {K : PV → Prop} : wpart x.c 0 9 true K = K (.ag x.c) := by
  simp [wpart, Ins.c]
theorem r11 (a b : List Ins) (sp sp' : List (List L)) : R X Tryd.prog 11 [.lf (.lst .ro 9 (a.map Ins.c) sp), .lf (.lst .ro 9 (b.map Ins.c) sp')] [] (.lf (.bool (sameL a b))) [] := by
  refine R_i [] [] c11_ok rfl (by simp) ?_
  generalize hr : sameL a b = r
  have hl : (a.map Ins.c).length = a.length := List.length_map _
  have hl' : (b.map Ins.c).length = b.length := List.length_map _
  have key : ∀ (q q' : List Ins) (i : Nat), a.length ≤ 9223372036854775807 → a.length = b.length → a.drop i = q → b.drop i = q' → sameL q q' = r → LoopAt X Tryd.prog c11_10 [0, 1, 5] (blkK 0 (seqK X Tryd.prog c11_14 (retS [] [] 0 [RV.t 4] (PV.lf (L.bool r)) [])))
      { m := 0, tm := [(0, PV.lf (L.lst Tag.ro 9 (List.map Ins.c a) sp)), (1, PV.lf (L.lst Tag.ro 9 (List.map Ins.c b) sp')), (5, PV.lf (L.int IntKind.i64 i))], ce := [] } := by
    intro q
    induction q with
    | nil =>
      intro q' i h0 hll hq hq' hr Z hZ
      apply hZ
      have hi : a.length ≤ i := by simpa using hq
      obtain rfl : q' = [] := by rw [← hq']; simp; omega
      simp -implicitDefEqProofs (maxSteps := 2000000) only [c11, hl, ↓reduceIte, s_skip, s_exit, s_ret, s_ops0, s_ops2, s_seq, s_cond, s_block, s_opsK, s_seqK_n, s_seqK_e, s_blkK_e, s_loopK_e, s_cnd, s_nil, s_cons, s_wopsK, s_wopsqK, s_putK, s_qcons, q_mv, q_ia, q_ld, o_mv, o_as, o_bin, v_lss, o_ia, v_ia, o_ld, o_len, v_len, e_t, e_k, e_put, e_get, e_res, e_keep_n, e_keep_c, e_keep1_s, e_asg_b, Option.getD_some, Nat.reduceEqDiff, reduceCtorEq, true_and, and_true, decide_eq_true_eq, s_ret_r, s_retX, s_cells_n, t_lf, t_b, r_n, r_t, r_cons, one_1, Bool.and_true, Bool.true_and]
      refine fun _ => ?_
      with_reducible refine ite_pr (fun _ => ?_) (fun _ => ?_)
      · omega
      · simpa [sameL] using hr
    | cons x q ih =>
      intro q' i h0 hll hq hq' hr Z hZ
      apply hZ
      obtain ⟨hi, hx, hq⟩ := drop_step hq
      obtain ⟨y, q', rfl⟩ : ∃ y p, q' = y :: p := by
        cases q' with
        | nil => simp at hq'; omega
        | cons y p => exact ⟨y, p, rfl⟩
      obtain ⟨hi', hy, hq'⟩ := drop_step hq'
      have g1 := get_c hx
      have g2 := get_c hy
      have he := eq_ins x y
      have hb := fun neg ks K => v_beq (neg := neg) (ks := ks) (K := K) he
      have kx : x.c.map kindL = [2, 2, 2, 2, 3, 2, 2, 2, 2] := rfl
      have ky : y.c.map kindL = [2, 2, 2, 2, 3, 2, 2, 2, 2] := rfl
      have wp := fun (z : Ins) (K : PV → Prop) => wp9 (x := z) (K := K)
      have w3 : IntKind.i64.wrap ((i : Int) + 1) = ((i + 1 : Nat) : Int) := by rw [w64 (by omega) (by omega)]; omega
      simp only [sameL] at hr
      simp -implicitDefEqProofs (maxSteps := 2000000) only [c11, hl, hl', g1, g2, v_ld_e, wp, hb, kx, ky, w3, ↓reduceIte, s_skip, s_exit, s_ret, s_ops0, s_ops2, s_seq, s_cond, s_block, s_opsK, s_seqK_n, s_seqK_e, s_seqK_r, s_blkK_n, s_blkK_e, s_blkK_r, s_loopK_n, s_loopK_e, s_loopK_r, s_cnd, s_nil, s_cons, s_wopsK, s_wopsqK, s_putK, s_qnil, s_qcons, q_mv, q_beq, q_ia, q_ld, o_mv, o_as, o_bin, v_add, v_lss, o_beq, o_ia, v_ia, o_ld, o_len, v_len, e_t, e_k, e_put, e_get, e_res, e_keep_n, e_keep_c, e_keep1_s, e_asg_b, e_asg_i, Option.getD_some, Nat.reduceEqDiff, reduceCtorEq, true_and, and_true, Bool.not_true, decide_eq_true_eq, s_ret_r, s_retX, s_cells_n, t_lf, t_b, r_n, r_t, r_cons, one_1, List.append_nil, Bool.and_true, Bool.true_and, e_head, e_headK, kC_n, pO_n, pO_i, pO_l, List.range_zero, Bool.not_eq_eq_eq_not]
      refine fun _ => ?_
      with_reducible refine ite_pr (fun _ => ?_) (fun _ => ?_)
      · refine ⟨⟨by omega, by omega⟩, by omega, ⟨by omega, by omega⟩, by omega, ?_⟩
        with_reducible refine ite_pr (fun hs => ?_) (fun hs => ?_)
        · rw [hs, Bool.false_and] at hr
          exact hr
        · refine ih q' (i + 1) h0 hll hq hq' ?_ Z hZ
          simpa [hs] using hr
      · omega
  simp -implicitDefEqProofs (maxSteps := 2000000) only [c11, hl, hl', ↓reduceIte, s_skip, s_ret, s_ops0, s_seq, s_cond, s_block, s_loop, s_opsK, s_seqK_n, s_seqK_r, s_cnd, s_nil, s_cons, s_wopsK, s_putK, o_mv, o_as, o_bin, v_neq, o_len, v_len, e_t, e_k, e_put, e_get, e_res, e_keep_n, e_keep_c, e_keep1_s, e_asg_b, e_asg_i, St.init, enum, List.length_nil, Option.getD_some, Nat.reduceEqDiff, reduceCtorEq, true_and, and_true, decide_eq_true_eq, s_ret_r, s_retX, s_cells_n, t_lf, t_b, r_n, r_t, r_cons, one_1, List.append_nil, Bool.and_true, Bool.true_and, e_head, e_headK, kC_n, pO_n, pO_i, pO_l, List.range_zero, ne_eq, Nat.zero_add, ite_not]
  refine fun h1 h2 => ?_
  with_reducible refine ite_pr (fun h => ?_) (fun h => ?_)
  · exact key a b 0 h1 (by omega) rfl rfl hr
  · rw [sameL_len (by omega)] at hr
    exact hr
end Go.Proofs.YthcpaohmajjopaaDoor.I
set_option linter.unusedVariables false
set_option linter.unusedSimpArgs false
namespace Go.Proofs.YthcpaohmajjopaaDoor.I
open Go Go.Proofs.YthcpaohmajjopaaDoor.AM
variable {X : Cx}
abbrev capX (x : Ins) : Bool := capB x.b x.n x.t
theorem capOK (code : List Ins) : CapOK X capX code := fun x _ _ h1 h2 => r66 x.b x.n x.t h1 h2
theorem name_no : ∀ k : Fin 21, 1 ≤ k.val → nameF k.val ≠ ⟨#[]⟩ := by
  intro k hk h
  have h2 : ∀ k : Fin 21, 1 ≤ k.val → (nameF k.val).size ≠ 0 := by decide +kernel
  exact h2 k hk (by rw [h]; rfl)
theorem tgt_eq : ∀ k : Fin 21, refB (refF k.val) 1 = hasB k.val 32 := by decide +kernel
theorem nxt_eq : ∀ k : Fin 21, nextF k.val = hasB k.val 64 := by decide +kernel
theorem r35 (code : List Ins) (sp : List (List L)) :
    R X Tryd.prog 35 [.lf (.lst .ro 9 (code.map Ins.c) sp)] [] (.tp [.lf (.int .i64 (chk capX code).1), .lf (.int .i64 (chk capX code).2)]) [] := by
  refine R_i [] [] c35_ok rfl (by simp) ?_
  generalize hr : chk capX code = r
  have hl : (code.map Ins.c).length = code.length := List.length_map _
  have key : ∀ (q : List Ins) (i : Nat), code.drop i = q → (∀ x ∈ code.take i, 1 ≤ x.op ∧ x.op ≤ 20) → code.length ≤ 8192 → 0 < code.length → (chkGo capX code.length i q).getD (chkEnd code) = r → LoopAt X Tryd.prog c35_22 [0, 4] (blkK 0 (seqK X Tryd.prog c35_31 (retS [] [] 0 [RV.t 2, RV.t 3] (PV.tp [PV.lf (L.int IntKind.i64 r.fst), PV.lf (L.int IntKind.i64 r.snd)]) [])))
      { m := 0, tm := [(0, PV.lf (L.lst Tag.ro 9 (List.map Ins.c code) sp)), (4, PV.lf (L.int IntKind.i64 i))], ce := [] } := by
    intro q
    induction q with
    | nil =>
      intro i hq hal h1 h2 hr Z hZ
      apply hZ
      have hi : code.length ≤ i := by simpa using hq
      obtain ⟨y, g1, g2, g3⟩ := last_get h2
      rw [List.take_of_length_le hi] at hal
      obtain ⟨k, hk, hk2⟩ := nat_of (hal y g3)
      have e1 : IntKind.i64.wrap ((code.length : Int) - 1) = ((code.length - 1 : Nat) : Int) := by rw [w64 (by omega) (by omega)]; omega
      have hg : (code.map Ins.c).getD ((code.length - 1 : Nat) : Int).toNat [] = [.int .i64 y.op, .int .i64 y.a, .int .i64 y.b, .int .i64 y.n, .str y.t, .int .u64 y.s0, .int .u64 y.s1, .int .u64 y.s2, .int .u64 y.s3] := by
        rw [Int.toNat_natCast, List.getD_eq_getElem?_getD, List.getElem?_map, g1]; rfl
      rw [hk] at hg
      simp only [chkGo, Option.getD_none, chkEnd, g2, hk, Int.toNat_natCast] at hr
      simp -implicitDefEqProofs (maxSteps := 2000000) only [c35, hl, e1, hg, v_ld_e, ↓reduceIte, s_skip, s_exit, s_ops0, s_seq, s_cond, s_block, s_opsK, s_seqK_n, s_seqK_e, s_blkK_e, s_loopK_e, s_cnd, s_nil, s_cons, s_wopsK, s_putK, o_mv, o_bin, v_sub, v_lss, v_part_f, v_atK, o_fa, v_fa_e, o_ia, v_ia, o_ld, o_len, v_len, o_call, e_t, e_k, e_put, e_get, e_res, e_keep_n, e_keep_c, e_keep1_s, Option.getD_some, Nat.reduceEqDiff, reduceCtorEq, true_and, decide_eq_true_eq, List.map_cons, List.map_nil, PV.leaves, List.flatMap_cons, List.flatMap_nil, List.append_nil, Bool.true_and, List.getElem?_cons_zero, rl_i, m_lf, Nat.add_zero]
      refine fun _ => ?_
      with_reducible refine ite_pr (fun _ => ?_) (fun _ => ?_)
      · omega
      refine fun _ => ⟨⟨by omega, by omega⟩, by omega, ?_⟩
      refine wcall_s (r40 k) rfl rfl ?_
      have hn := nxt_eq ⟨k, hk2⟩
      simp only at hn
      simp only [Int.toNat_natCast, hn]
      simp -implicitDefEqProofs (maxSteps := 2000000) only [c35, hl, e1, ↓reduceIte, s_skip, s_ret, s_ops0, s_seq, s_cond, s_opsK, s_seqK_n, s_seqK_r, s_cnd, s_nil, s_cons, s_wopsK, s_putK, o_mv, o_as, o_bin, v_sub, o_ext, v_ext0, v_ext1, v_ext2, o_len, v_len, e_t, e_k, e_put, e_get, e_res, e_keep_n, e_keep_c, e_keep1_s, e_asg_b, e_asg_i, e_asg_s, Option.getD_some, Nat.reduceEqDiff, reduceCtorEq, true_and, and_true, Bool.false_eq_true, s_ret_r, s_retX, s_cells_n, t_tp, t_n, t_c, t_1l, t_i, r_n, r_t, r_cons, one_2, St.clr, outV, ownsV, owns1, ownL, List.map_cons, List.map_nil, List.any_cons, List.any_nil, Bool.or_self, Bool.and_true, Bool.true_and, ol_b, ol_i, ol_s, m_tp, m_1l]
      rw [← hr]
      split
      · exact fun _ => ⟨by simp only; omega, rfl⟩
      · exact ⟨rfl, rfl⟩
    | cons x q ih =>
      intro i hq hal h1 h2 hr Z hZ
      apply hZ
      obtain ⟨hi, hx, hq'⟩ := drop_step hq
      have hg := get_c hx
      have hc : x.c = [.int .i64 x.op, .int .i64 x.a, .int .i64 x.b, .int .i64 x.n, .str x.t, .int .u64 x.s0, .int .u64 x.s1, .int .u64 x.s2, .int .u64 x.s3] := rfl
      rw [hc] at hg
      simp -implicitDefEqProofs (maxSteps := 2000000) only [c35, hl, hg, v_ld_e, ↓reduceIte, s_skip, s_exit, s_ops0, s_seq, s_cond, s_block, s_opsK, s_seqK_n, s_seqK_e, s_blkK_e, s_loopK_e, s_cnd, s_nil, s_cons, s_wopsK, s_putK, o_mv, o_bin, v_sub, v_lss, v_part_f, v_atK, o_fa, v_fa_e, o_ia, v_ia, o_ld, o_len, v_len, o_call, e_t, e_k, e_put, e_get, e_res, e_keep_n, e_keep_c, e_keep1_s, Option.getD_some, Nat.reduceEqDiff, reduceCtorEq, true_and, decide_eq_true_eq, List.map_cons, List.map_nil, PV.leaves, List.flatMap_cons, List.flatMap_nil, List.append_nil, Bool.true_and, List.getElem?_cons_zero, rl_i, m_lf, Nat.add_zero]
      refine fun _ => ?_
      with_reducible refine ite_pr (fun _ => ?_) (fun _ => ?_)
      rotate_left
      · omega
      refine ⟨⟨by omega, by omega⟩, by omega, ?_⟩
      refine wcall_s (r40 x.op) rfl rfl ?_
      simp -implicitDefEqProofs (maxSteps := 2000000) only [c35, hl, hg, v_ld_e, ↓reduceIte, s_skip, s_ret, s_ops0, s_seq, s_cond, s_opsK, s_seqK_n, s_seqK_r, s_blkK_r, s_loopK_r, s_cnd, s_nil, s_cons, s_wopsK, s_putK, o_mv, o_as, o_bin, v_seql, o_ext, v_ext0, v_ext1, v_ext2, v_part_t, o_ia, v_ia, o_ld, o_call, e_t, e_k, e_put, e_get, e_res, e_keep_n, e_keep_c, e_keep1_s, e_asg_b, e_asg_i, e_asg_s, List.length_nil, List.length_cons, Option.getD_some, Nat.reduceEqDiff, Nat.reduceAdd, reduceCtorEq, true_and, and_true, Bool.false_eq_true, decide_eq_true_eq, s_ret_r, s_retX, s_cells_n, t_tp, t_n, t_c, t_1l, t_i, r_n, r_t, r_cons, one_2, St.clr, outV, ownsV, owns1, ownL, List.map_cons, List.map_nil, List.any_cons, List.any_nil, Bool.or_self, PV.leaves, List.flatMap_cons, List.flatMap_nil, List.append_nil, Bool.and_true, Bool.true_and, Nat.le_refl, List.drop_zero, List.take_succ_cons, List.take_nil, rl_i, rl_s, ol_b, ol_i, ol_s, m_ag, m_tp, m_1l, Nat.zero_add]
      have hxm : x ∈ code := List.mem_of_getElem? hx
      simp only [chkGo] at hr
      have he : errAt capX code.length i x = _ := rfl
      conv at he => rhs; unfold errAt
      generalize errAt capX code.length i x = e at hr he
      with_reducible refine ite_pr (fun ho => ?_) (fun ho => ?_)
      · have ho2 : ¬ (1 ≤ x.op ∧ x.op ≤ 20) := fun h => name_no ⟨x.op.toNat, by omega⟩ (by simp only; omega) ho
        rw [if_pos ho2] at he
        subst he
        rw [if_neg (by decide)] at hr
        rw [← hr]
        exact ⟨rfl, rfl⟩
      have ho2 : 1 ≤ x.op ∧ x.op ≤ 20 := by
        refine Classical.byContradiction fun h => ho (tab_out (by omega)).2.1
      obtain ⟨k, hk, hk2⟩ := nat_of ho2
      have h54 := r54 (X := X) k hk2 x hk
      have h55 := r55 (X := X) x.op
      have ht := tgt_eq ⟨k, hk2⟩
      simp only at ht
      rw [show x.op.toNat = k by omega, ht] at h55
      rw [hc] at h54
      have w1 : IntKind.i64.wrap (0 - (i : Int)) = -(i : Int) := by rw [w64 (by omega) (by omega)]; omega
      have w2 : IntKind.i64.wrap ((code.length : Int) - (i : Int)) = (code.length : Int) - (i : Int) := w64 (by omega) (by omega)
      have w3 : IntKind.i64.wrap ((i : Int) + 1) = ((i + 1 : Nat) : Int) := by rw [w64 (by omega) (by omega)]; omega
      rw [if_neg (by simpa using ho2), show x.op.toNat = k by omega] at he
      refine ⟨⟨by omega, by omega⟩, by omega, ?_⟩
      refine wcall_s h54 rfl rfl ?_
      simp -implicitDefEqProofs (maxSteps := 2000000) only [c35, hl, hg, v_ld_e, ↓reduceIte, s_skip, s_ret, s_ops0, s_seq, s_cond, s_opsK, s_seqK_n, s_seqK_r, s_blkK_r, s_loopK_r, s_cnd, s_nil, s_cons, s_wopsK, s_putK, o_mv, o_as, o_un, v_not, v_part_f, v_atK, o_fa, v_fa_e, o_ia, v_ia, o_ld, o_call, e_t, e_k, e_put, e_get, e_res, e_keep_n, e_keep_c, e_keep1_s, e_asg_i, Option.getD_some, Nat.reduceEqDiff, reduceCtorEq, true_and, and_true, Bool.not_true, Bool.false_eq_true, s_ret_r, s_retX, s_cells_n, t_tp, t_n, t_c, t_1l, t_i, r_n, r_t, r_cons, one_2, St.clr, outV, ownsV, owns1, ownL, List.map_cons, List.map_nil, PV.leaves, List.flatMap_cons, List.flatMap_nil, List.append_nil, Bool.and_true, Bool.true_and, List.getElem?_cons_zero, rl_i, ol_b, m_lf, Nat.add_zero, Bool.not_eq_eq_eq_not]
      with_reducible refine ite_pr (fun hf => ?_) (fun hf => ?_)
      · rw [if_pos hf] at he
        subst he
        rw [if_neg (by decide)] at hr
        rw [← hr]
        exact ⟨rfl, rfl⟩
      rw [if_neg hf] at he
      refine ⟨⟨by omega, by omega⟩, by omega, ?_⟩
      refine wcall_s h55 rfl rfl ?_
      have hal' : ∀ y ∈ code.take (i + 1), 1 ≤ y.op ∧ y.op ≤ 20 := by
        intro y hy
        rw [List.take_add_one, hx] at hy
        simp only [List.mem_append, Option.toList_some, List.mem_singleton] at hy
        rcases hy with hy | rfl
        · exact hal y hy
        · exact ho2
      have nx := fun h0 : e = 0 => ih (i + 1) hq' hal' h1 h2 (by rw [if_pos h0] at hr; exact hr) Z hZ
      have bad : e = 162 → (i : Int) = r.1 ∧ 162 = r.2 := by
        intro h0
        rw [h0, if_neg (by decide)] at hr
        rw [← hr]
        exact ⟨rfl, rfl⟩
      simp -implicitDefEqProofs (maxSteps := 2000000) only [c35, hl, hg, v_ld_e, w1, w2, w3, ↓reduceIte, s_skip, s_ret, s_ops0, s_seq, s_cond, s_opsK, s_seqK_n, s_seqK_r, s_blkK_n, s_blkK_r, s_loopK_n, s_loopK_r, s_cnd, s_nil, s_cons, s_guard, s_wopsK, s_putK, s_grd, s_grd_no, q_mv, q_pk, q_bin, q_un, q_fa, q_ia, q_ld, q_len, o_mv, o_as, o_pk, v_pk, o_bin, v_add, v_sub, v_lss, v_geq, o_un, v_neg, v_part_f, v_atK, o_fa, v_fa_e, o_ia, v_ia, o_ld, o_len, v_len, e_t, e_k, e_put, e_get, e_res, e_keep_n, e_keep_c, e_keep1_s, e_asg_i, Option.getD_some, Nat.reduceEqDiff, reduceCtorEq, true_and, and_true, cond_false, Bool.not_true, Bool.not_false, Bool.true_eq_false, Bool.false_eq_true, decide_eq_true_eq, decide_eq_false_iff_not, s_ret_r, s_retX, s_cells_n, t_tp, t_n, t_c, t_1l, t_i, r_n, r_t, r_cons, one_2, St.clr, outV, ownsV, owns1, ownL, List.append_nil, Bool.and_true, Bool.true_and, List.getElem?_cons_zero, List.getElem?_cons_succ, ol_b, m_lf, e_head, e_headK, kC_n, pO_n, pO_i, pO_l, List.range_zero, Nat.zero_add, ite_not]
      with_reducible refine ite_pr (fun hj => ?_) (fun hj => ?_)
      · refine ⟨⟨by omega, by omega⟩, by omega, ?_⟩
        with_reducible refine ite_pr (fun ha => ?_) (fun ha => ?_)
        · exact bad (by rw [he, if_pos ⟨hj, by omega⟩])
        · refine ⟨⟨by omega, by omega⟩, by omega, fun _ => ?_⟩
          with_reducible refine ite_pr (fun hb => ?_) (fun hb => ?_)
          · exact bad (by rw [he, if_pos ⟨hj, by omega⟩])
          · exact nx (by rw [he, if_neg (by omega)])
      · exact nx (by rw [he, if_neg (fun h => hj h.1)])
  unfold chk at hr
  simp -implicitDefEqProofs (maxSteps := 2000000) only [c35, hl, ↓reduceIte, s_skip, s_ret, s_ops0, s_seq, s_cond, s_block, s_loop, s_opsK, s_seqK_n, s_seqK_r, s_cnd, s_nil, s_cons, s_wopsK, s_putK, o_mv, o_as, o_bin, v_eql, v_gtr, o_len, v_len, e_t, e_k, e_put, e_get, e_res, e_keep_n, e_keep_c, e_keep1_s, e_asg_i, St.init, enum, List.length_nil, Option.getD_some, Nat.reduceEqDiff, reduceCtorEq, true_and, and_true, decide_eq_true_eq, s_ret_r, s_retX, s_cells_n, t_tp, t_n, t_c, t_1l, t_i, r_n, r_t, r_cons, one_2, List.append_nil, Bool.and_true, Bool.true_and, e_head, e_headK, kC_n, pO_n, pO_i, pO_l, List.range_zero]
  refine fun hl2 => ?_
  with_reducible refine ite_pr (fun h => ?_) (fun h => ?_)
  · rw [if_pos (by omega)] at hr
    rw [← hr]
    exact ⟨rfl, rfl⟩
  rw [if_neg (by omega)] at hr
  refine fun _ => ?_
  with_reducible refine ite_pr (fun h => ?_) (fun h => ?_)
  · rw [if_pos (by omega)] at hr
    rw [← hr]
    exact ⟨rfl, rfl⟩
  rw [if_neg (by omega)] at hr
  exact key code 0 rfl (fun x hx => by simp at hx) (by omega) (by omega) hr
theorem r28x (hX : X.G 1 = some usesL) (code : List Ins) (sp : List (List L)) :
    R X Tryd.prog 28 [.lf (.lst .ro 9 (code.map Ins.c) sp)] [] (.tp [.lf (.int .i64 (chk capX code).1), .lf (.int .i64 (chk capX code).2)]) [] := r28 hX capX code (capOK code) sp
end Go.Proofs.YthcpaohmajjopaaDoor.I
set_option maxRecDepth 100000
namespace Go.Proofs.YthcpaohmajjopaaDoor.I
open Go Go.Proofs.YthcpaohmajjopaaDoor.AM
end Go.Proofs.YthcpaohmajjopaaDoor.I
