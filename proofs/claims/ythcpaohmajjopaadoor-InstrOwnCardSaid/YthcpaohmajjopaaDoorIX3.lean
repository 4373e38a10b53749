/- Contracts, part IX3. -/
import Derived.Test.YthcpaohmajjopaaDoorProg
import Derived.Test.YthcpaohmajjopaaDoorAmLeaf2
import Derived.Test.YthcpaohmajjopaaDoorIX2
import Derived.Test.YthcpaohmajjopaaDoorIX1
set_option maxRecDepth 100000
namespace Go.Proofs.YthcpaohmajjopaaDoor.I
open Go Go.Proofs.YthcpaohmajjopaaDoor.AM
/-- harrow/harrowref16.Check -/
abbrev c35_0 : AC := .seq (.ops 0 [⟨(some 2), .as 0 0 (.k (.lf (.int .i64 0))), none⟩, ⟨(some 3), .as 0 0 (.k (.lf (.int .i64 2))), none⟩] [2, 3]) .ret
abbrev c35_1 : AC := .cond (.t 13) c35_0 .skip
abbrev c35_2 : AC := .seq (.ops 0 [⟨(some 11), .mv (.t 0), none⟩, ⟨(some 12), .len (.t 11), none⟩, ⟨(some 13), .bin .gtr (.t 12) (.k (.lf (.int .i64 8192))), none⟩] [0, 13]) c35_1
abbrev c35_3 : AC := .seq (.ops 0 [⟨(some 2), .as 0 0 (.k (.lf (.int .i64 0))), none⟩, ⟨(some 3), .as 0 0 (.k (.lf (.int .i64 3))), none⟩] [2, 3]) .ret
abbrev c35_4 : AC := .cond (.t 16) c35_3 .skip
abbrev c35_5 : AC := .seq (.ops 0 [⟨(some 14), .mv (.t 0), none⟩, ⟨(some 15), .len (.t 14), none⟩, ⟨(some 16), .bin .eql (.t 15) (.k (.lf (.int .i64 0))), none⟩] [0, 16]) c35_4
abbrev c35_6 : AC := .cond (.t 20) .skip (.exit 0)
abbrev c35_7 : AC := .seq (.ops 0 [⟨(some 17), .mv (.t 4), none⟩, ⟨(some 18), .mv (.t 0), none⟩, ⟨(some 19), .len (.t 18), none⟩, ⟨(some 20), .bin .lss (.t 17) (.t 19), none⟩] [0, 4, 20]) c35_6
abbrev c35_8 : AC := .seq (.ops 0 [⟨(some 35), .mv (.t 4), none⟩, ⟨(some 2), .as 0 0 (.t 35), none⟩, ⟨(some 3), .as 0 0 (.k (.lf (.int .i64 160))), none⟩] [2, 3]) .ret
abbrev c35_9 : AC := .cond (.t 34) c35_8 .skip
abbrev c35_10 : AC := .seq (.ops 0 [⟨(some 33), .mv (.t 6), none⟩, ⟨(some 34), .bin .eql (.t 33) (.k (.lf (.str ⟨#[]⟩))), none⟩] [0, 4, 34]) c35_9
abbrev c35_11 : AC := .seq (.ops 0 [⟨(some 42), .mv (.t 4), none⟩, ⟨(some 2), .as 0 0 (.t 42), none⟩, ⟨(some 3), .as 0 0 (.k (.lf (.int .i64 161))), none⟩] [2, 3]) .ret
abbrev c35_12 : AC := .cond (.t 41) c35_11 .skip
abbrev c35_13 : AC := .seq (.ops 0 [⟨(some 36), .mv (.t 0), none⟩, ⟨(some 37), .mv (.t 4), none⟩, ⟨(some 38), .ia (.t 36) (.t 37) 9, none⟩, ⟨(some 39), .ld (.t 38) 9 true, none⟩, ⟨(some 40), .call 54 [(.t 39)], none⟩, ⟨(some 41), .un .not (.t 40), none⟩] [0, 4, 41]) c35_12
abbrev c35_14 : AC := .seq (.ops 0 [⟨(some 71), .mv (.t 4), none⟩, ⟨(some 2), .as 0 0 (.t 71), none⟩, ⟨(some 3), .as 0 0 (.k (.lf (.int .i64 162))), none⟩] [2, 3]) .ret
abbrev c35_15 : AC := .cond (.t 70) c35_14 .skip
abbrev c35_16 : AC := .seq (.ops 0 [⟨(some 43), .mv (.t 0), none⟩, ⟨(some 44), .mv (.t 4), none⟩, ⟨(some 45), .ia (.t 43) (.t 44) 9, none⟩, ⟨(some 46), .fa (.t 45) 0, none⟩, ⟨(some 47), .ld (.t 46) 1 false, none⟩, ⟨(some 48), .call 55 [(.t 47)], none⟩, ⟨(some 49), .mv (.t 48), none⟩, ⟨(some 50), .mv (.t 0), (some (49, true))⟩, ⟨(some 51), .mv (.t 4), (some (49, true))⟩, ⟨(some 52), .ia (.t 50) (.t 51) 9, (some (49, true))⟩, ⟨(some 53), .fa (.t 52) 1, (some (49, true))⟩, ⟨(some 54), .ld (.t 53) 1 false, (some (49, true))⟩, ⟨(some 55), .mv (.t 4), (some (49, true))⟩, ⟨(some 56), .un .neg (.t 55), (some (49, true))⟩, ⟨(some 57), .bin .lss (.t 54) (.t 56), (some (49, true))⟩, ⟨(some 58), .mv (.t 57), (some (49, true))⟩, ⟨(some 59), .mv (.t 0), (some (58, false))⟩, ⟨(some 60), .mv (.t 4), (some (58, false))⟩, ⟨(some 61), .ia (.t 59) (.t 60) 9, (some (58, false))⟩, ⟨(some 62), .fa (.t 61) 1, (some (58, false))⟩, ⟨(some 63), .ld (.t 62) 1 false, (some (58, false))⟩, ⟨(some 64), .mv (.t 0), (some (58, false))⟩, ⟨(some 65), .len (.t 64), (some (58, false))⟩, ⟨(some 66), .mv (.t 4), (some (58, false))⟩, ⟨(some 67), .bin .sub (.t 65) (.t 66), (some (58, false))⟩, ⟨(some 68), .bin .geq (.t 63) (.t 67), (some (58, false))⟩, ⟨(some 69), .pk (.t 58) (.k (.lf (.bool true))) (.t 68), (some (49, true))⟩, ⟨(some 70), .pk (.t 49) (.t 69) (.k (.lf (.bool false))), none⟩] [0, 4, 70]) c35_15
abbrev c35_17 : AC := .seq c35_13 c35_16
abbrev c35_18 : AC := .seq c35_10 c35_17
abbrev c35_19 : AC := .seq (.ops 0 [⟨(some 24), .mv (.t 0), none⟩, ⟨(some 25), .mv (.t 4), none⟩, ⟨(some 26), .ia (.t 24) (.t 25) 9, none⟩, ⟨(some 27), .fa (.t 26) 0, none⟩, ⟨(some 28), .ld (.t 27) 1 false, none⟩, ⟨(some 29), .call 40 [(.t 28)], none⟩, ⟨(some 23), .mv (.t 29), none⟩, ⟨(some 30), .ext (.t 23) 0, none⟩, ⟨(some 31), .ext (.t 23) 1, none⟩, ⟨(some 32), .ext (.t 23) 2, none⟩, ⟨(some 5), .as 0 0 (.t 30), none⟩, ⟨(some 6), .as 0 0 (.t 31), none⟩, ⟨(some 7), .as 0 0 (.t 32), none⟩] [0, 4, 6]) c35_18
abbrev c35_20 : AC := .block 1 c35_19
abbrev c35_21 : AC := .seq c35_20 (.ops 0 [⟨(some 21), .mv (.t 4), none⟩, ⟨(some 22), .bin .add (.t 21) (.k (.lf (.int .i64 1))), none⟩, ⟨(some 4), .as 0 0 (.t 22), none⟩] [0, 4])
abbrev c35_22 : AC := .seq c35_7 c35_21
abbrev c35_23 : AC := .loop c35_22 [0, 4]
abbrev c35_24 : AC := .block 0 c35_23
abbrev c35_25 : AC := .seq (.ops 0 [⟨(some 4), .as 0 0 (.k (.lf (.int .i64 0))), none⟩] [0, 4]) c35_24
abbrev c35_26 : AC := .seq (.ops 0 [⟨(some 85), .mv (.t 0), none⟩, ⟨(some 86), .len (.t 85), none⟩, ⟨(some 87), .bin .sub (.t 86) (.k (.lf (.int .i64 1))), none⟩, ⟨(some 2), .as 0 0 (.t 87), none⟩, ⟨(some 3), .as 0 0 (.k (.lf (.int .i64 163))), none⟩] [2, 3]) .ret
abbrev c35_27 : AC := .cond (.t 84) c35_26 .skip
abbrev c35_28 : AC := .seq (.ops 0 [⟨(some 84), .mv (.t 10), none⟩] [0, 84]) c35_27
abbrev c35_29 : AC := .seq (.ops 0 [⟨(some 73), .mv (.t 0), none⟩, ⟨(some 74), .mv (.t 0), none⟩, ⟨(some 75), .len (.t 74), none⟩, ⟨(some 76), .bin .sub (.t 75) (.k (.lf (.int .i64 1))), none⟩, ⟨(some 77), .ia (.t 73) (.t 76) 9, none⟩, ⟨(some 78), .fa (.t 77) 0, none⟩, ⟨(some 79), .ld (.t 78) 1 false, none⟩, ⟨(some 80), .call 40 [(.t 79)], none⟩, ⟨(some 72), .mv (.t 80), none⟩, ⟨(some 81), .ext (.t 72) 0, none⟩, ⟨(some 82), .ext (.t 72) 1, none⟩, ⟨(some 83), .ext (.t 72) 2, none⟩, ⟨(some 8), .as 0 0 (.t 81), none⟩, ⟨(some 9), .as 0 0 (.t 82), none⟩, ⟨(some 10), .as 0 0 (.t 83), none⟩] [0, 10]) c35_28
abbrev c35_30 : AC := .seq (.ops 0 [⟨(some 2), .as 0 0 (.k (.lf (.int .i64 0))), none⟩, ⟨(some 3), .as 0 0 (.k (.lf (.int .i64 0))), none⟩] [2, 3]) .ret
abbrev c35_31 : AC := .seq c35_29 c35_30
abbrev c35_32 : AC := .seq c35_25 c35_31
abbrev c35_33 : AC := .seq c35_5 c35_32
abbrev c35_34 : AC := .seq c35_2 c35_33
abbrev c35_35 : AC := .seq (.ops 0 [⟨(some 2), .as 0 0 (.k (.lf (.int .i64 0))), none⟩, ⟨(some 3), .as 0 0 (.k (.lf (.int .i64 0))), none⟩] [0]) c35_34
abbrev c35 : AC := c35_35
theorem c35_ok : compileFn Tryd.prog 35 = some (88, AC.strip c35, [.t 2, .t 3]) := by kernel_rfl
/-- harrow/harrowref16.Uses -/
abbrev c40_0 : AC := .seq (.ops 0 [⟨(some 2), .as 0 0 (.k (.lf (.int .i64 0))), none⟩, ⟨(some 3), .as 0 0 (.k (.lf (.str ⟨#[97, 110, 121]⟩))), none⟩, ⟨(some 4), .as 0 0 (.k (.lf (.bool true))), none⟩] [2, 3, 4]) .ret
abbrev c40_1 : AC := .seq (.ops 0 [⟨(some 2), .as 0 0 (.k (.lf (.int .i64 4))), none⟩, ⟨(some 3), .as 0 0 (.k (.lf (.str ⟨#[99, 104, 97, 114]⟩))), none⟩, ⟨(some 4), .as 0 0 (.k (.lf (.bool true))), none⟩] [2, 3, 4]) .ret
abbrev c40_2 : AC := .seq (.ops 0 [⟨(some 2), .as 0 0 (.k (.lf (.int .i64 16))), none⟩, ⟨(some 3), .as 0 0 (.k (.lf (.str ⟨#[115, 101, 116]⟩))), none⟩, ⟨(some 4), .as 0 0 (.k (.lf (.bool true))), none⟩] [2, 3, 4]) .ret
abbrev c40_3 : AC := .seq (.ops 0 [⟨(some 2), .as 0 0 (.k (.lf (.int .i64 1))), none⟩, ⟨(some 3), .as 0 0 (.k (.lf (.str ⟨#[116, 101, 115, 116, 97, 110, 121]⟩))), none⟩, ⟨(some 4), .as 0 0 (.k (.lf (.bool true))), none⟩] [2, 3, 4]) .ret
abbrev c40_4 : AC := .seq (.ops 0 [⟨(some 2), .as 0 0 (.k (.lf (.int .i64 5))), none⟩, ⟨(some 3), .as 0 0 (.k (.lf (.str ⟨#[116, 101, 115, 116, 99, 104, 97, 114]⟩))), none⟩, ⟨(some 4), .as 0 0 (.k (.lf (.bool true))), none⟩] [2, 3, 4]) .ret
abbrev c40_5 : AC := .seq (.ops 0 [⟨(some 2), .as 0 0 (.k (.lf (.int .i64 17))), none⟩, ⟨(some 3), .as 0 0 (.k (.lf (.str ⟨#[116, 101, 115, 116, 115, 101, 116]⟩))), none⟩, ⟨(some 4), .as 0 0 (.k (.lf (.bool true))), none⟩] [2, 3, 4]) .ret
abbrev c40_6 : AC := .seq (.ops 0 [⟨(some 2), .as 0 0 (.k (.lf (.int .i64 16))), none⟩, ⟨(some 3), .as 0 0 (.k (.lf (.str ⟨#[115, 112, 97, 110]⟩))), none⟩, ⟨(some 4), .as 0 0 (.k (.lf (.bool true))), none⟩] [2, 3, 4]) .ret
abbrev c40_7 : AC := .seq (.ops 0 [⟨(some 2), .as 0 0 (.k (.lf (.int .i64 1))), none⟩, ⟨(some 3), .as 0 0 (.k (.lf (.str ⟨#[99, 104, 111, 105, 99, 101]⟩))), none⟩, ⟨(some 4), .as 0 0 (.k (.lf (.bool true))), none⟩] [2, 3, 4]) .ret
abbrev c40_8 : AC := .seq (.ops 0 [⟨(some 2), .as 0 0 (.k (.lf (.int .i64 1))), none⟩, ⟨(some 3), .as 0 0 (.k (.lf (.str ⟨#[99, 111, 109, 109, 105, 116]⟩))), none⟩, ⟨(some 4), .as 0 0 (.k (.lf (.bool false))), none⟩] [2, 3, 4]) .ret
abbrev c40_9 : AC := .seq (.ops 0 [⟨(some 2), .as 0 0 (.k (.lf (.int .i64 1))), none⟩, ⟨(some 3), .as 0 0 (.k (.lf (.str ⟨#[112, 97, 114, 116, 105, 97, 108]⟩))), none⟩, ⟨(some 4), .as 0 0 (.k (.lf (.bool false))), none⟩] [2, 3, 4]) .ret
abbrev c40_10 : AC := .seq (.ops 0 [⟨(some 2), .as 0 0 (.k (.lf (.int .i64 1))), none⟩, ⟨(some 3), .as 0 0 (.k (.lf (.str ⟨#[98, 97, 99, 107]⟩))), none⟩, ⟨(some 4), .as 0 0 (.k (.lf (.bool false))), none⟩] [2, 3, 4]) .ret
abbrev c40_11 : AC := .seq (.ops 0 [⟨(some 2), .as 0 0 (.k (.lf (.int .i64 0))), none⟩, ⟨(some 3), .as 0 0 (.k (.lf (.str ⟨#[116, 119, 105, 99, 101]⟩))), none⟩, ⟨(some 4), .as 0 0 (.k (.lf (.bool false))), none⟩] [2, 3, 4]) .ret
abbrev c40_12 : AC := .seq (.ops 0 [⟨(some 2), .as 0 0 (.k (.lf (.int .i64 0))), none⟩, ⟨(some 3), .as 0 0 (.k (.lf (.str ⟨#[102, 97, 105, 108]⟩))), none⟩, ⟨(some 4), .as 0 0 (.k (.lf (.bool false))), none⟩] [2, 3, 4]) .ret
abbrev c40_13 : AC := .seq (.ops 0 [⟨(some 2), .as 0 0 (.k (.lf (.int .i64 1))), none⟩, ⟨(some 3), .as 0 0 (.k (.lf (.str ⟨#[106, 117, 109, 112]⟩))), none⟩, ⟨(some 4), .as 0 0 (.k (.lf (.bool false))), none⟩] [2, 3, 4]) .ret
abbrev c40_14 : AC := .seq (.ops 0 [⟨(some 2), .as 0 0 (.k (.lf (.int .i64 1))), none⟩, ⟨(some 3), .as 0 0 (.k (.lf (.str ⟨#[99, 97, 108, 108]⟩))), none⟩, ⟨(some 4), .as 0 0 (.k (.lf (.bool true))), none⟩] [2, 3, 4]) .ret
abbrev c40_15 : AC := .seq (.ops 0 [⟨(some 2), .as 0 0 (.k (.lf (.int .i64 0))), none⟩, ⟨(some 3), .as 0 0 (.k (.lf (.str ⟨#[114, 101, 116]⟩))), none⟩, ⟨(some 4), .as 0 0 (.k (.lf (.bool false))), none⟩] [2, 3, 4]) .ret
abbrev c40_16 : AC := .seq (.ops 0 [⟨(some 2), .as 0 0 (.k (.lf (.int .i64 0))), none⟩, ⟨(some 3), .as 0 0 (.k (.lf (.str ⟨#[101, 110, 100]⟩))), none⟩, ⟨(some 4), .as 0 0 (.k (.lf (.bool false))), none⟩] [2, 3, 4]) .ret
abbrev c40_17 : AC := .seq (.ops 0 [⟨(some 2), .as 0 0 (.k (.lf (.int .i64 8))), none⟩, ⟨(some 3), .as 0 0 (.k (.lf (.str ⟨#[111, 112, 101, 110]⟩))), none⟩, ⟨(some 4), .as 0 0 (.k (.lf (.bool true))), none⟩] [2, 3, 4]) .ret
abbrev c40_18 : AC := .seq (.ops 0 [⟨(some 2), .as 0 0 (.k (.lf (.int .i64 0))), none⟩, ⟨(some 3), .as 0 0 (.k (.lf (.str ⟨#[99, 108, 111, 115, 101]⟩))), none⟩, ⟨(some 4), .as 0 0 (.k (.lf (.bool true))), none⟩] [2, 3, 4]) .ret
abbrev c40_19 : AC := .seq (.ops 0 [⟨(some 2), .as 0 0 (.k (.lf (.int .i64 10))), none⟩, ⟨(some 3), .as 0 0 (.k (.lf (.str ⟨#[102, 117, 108, 108]⟩))), none⟩, ⟨(some 4), .as 0 0 (.k (.lf (.bool true))), none⟩] [2, 3, 4]) .ret
abbrev c40_20 : AC := .cond (.t 44) c40_19 .skip
abbrev c40_21 : AC := .seq (.ops 0 [⟨(some 45), .bin .eql (.t 5) (.k (.lf (.int .i64 20))), none⟩, ⟨(some 44), .as 0 0 (.t 45), none⟩] [44]) c40_20
abbrev c40_22 : AC := .cond (.t 42) c40_18 c40_21
abbrev c40_23 : AC := .seq (.ops 0 [⟨(some 43), .bin .eql (.t 5) (.k (.lf (.int .i64 19))), none⟩, ⟨(some 42), .as 0 0 (.t 43), none⟩] [5, 42]) c40_22
abbrev c40_24 : AC := .cond (.t 40) c40_17 c40_23
abbrev c40_25 : AC := .seq (.ops 0 [⟨(some 41), .bin .eql (.t 5) (.k (.lf (.int .i64 18))), none⟩, ⟨(some 40), .as 0 0 (.t 41), none⟩] [5, 40]) c40_24
abbrev c40_26 : AC := .cond (.t 38) c40_16 c40_25
abbrev c40_27 : AC := .seq (.ops 0 [⟨(some 39), .bin .eql (.t 5) (.k (.lf (.int .i64 17))), none⟩, ⟨(some 38), .as 0 0 (.t 39), none⟩] [5, 38]) c40_26
abbrev c40_28 : AC := .cond (.t 36) c40_15 c40_27
abbrev c40_29 : AC := .seq (.ops 0 [⟨(some 37), .bin .eql (.t 5) (.k (.lf (.int .i64 16))), none⟩, ⟨(some 36), .as 0 0 (.t 37), none⟩] [5, 36]) c40_28
abbrev c40_30 : AC := .cond (.t 34) c40_14 c40_29
abbrev c40_31 : AC := .seq (.ops 0 [⟨(some 35), .bin .eql (.t 5) (.k (.lf (.int .i64 15))), none⟩, ⟨(some 34), .as 0 0 (.t 35), none⟩] [5, 34]) c40_30
abbrev c40_32 : AC := .cond (.t 32) c40_13 c40_31
abbrev c40_33 : AC := .seq (.ops 0 [⟨(some 33), .bin .eql (.t 5) (.k (.lf (.int .i64 14))), none⟩, ⟨(some 32), .as 0 0 (.t 33), none⟩] [5, 32]) c40_32
abbrev c40_34 : AC := .cond (.t 30) c40_12 c40_33
abbrev c40_35 : AC := .seq (.ops 0 [⟨(some 31), .bin .eql (.t 5) (.k (.lf (.int .i64 13))), none⟩, ⟨(some 30), .as 0 0 (.t 31), none⟩] [5, 30]) c40_34
abbrev c40_36 : AC := .cond (.t 28) c40_11 c40_35
abbrev c40_37 : AC := .seq (.ops 0 [⟨(some 29), .bin .eql (.t 5) (.k (.lf (.int .i64 12))), none⟩, ⟨(some 28), .as 0 0 (.t 29), none⟩] [5, 28]) c40_36
abbrev c40_38 : AC := .cond (.t 26) c40_10 c40_37
abbrev c40_39 : AC := .seq (.ops 0 [⟨(some 27), .bin .eql (.t 5) (.k (.lf (.int .i64 11))), none⟩, ⟨(some 26), .as 0 0 (.t 27), none⟩] [5, 26]) c40_38
abbrev c40_40 : AC := .cond (.t 24) c40_9 c40_39
abbrev c40_41 : AC := .seq (.ops 0 [⟨(some 25), .bin .eql (.t 5) (.k (.lf (.int .i64 10))), none⟩, ⟨(some 24), .as 0 0 (.t 25), none⟩] [5, 24]) c40_40
abbrev c40_42 : AC := .cond (.t 22) c40_8 c40_41
abbrev c40_43 : AC := .seq (.ops 0 [⟨(some 23), .bin .eql (.t 5) (.k (.lf (.int .i64 9))), none⟩, ⟨(some 22), .as 0 0 (.t 23), none⟩] [5, 22]) c40_42
abbrev c40_44 : AC := .cond (.t 20) c40_7 c40_43
abbrev c40_45 : AC := .seq (.ops 0 [⟨(some 21), .bin .eql (.t 5) (.k (.lf (.int .i64 8))), none⟩, ⟨(some 20), .as 0 0 (.t 21), none⟩] [5, 20]) c40_44
abbrev c40_46 : AC := .cond (.t 18) c40_6 c40_45
abbrev c40_47 : AC := .seq (.ops 0 [⟨(some 19), .bin .eql (.t 5) (.k (.lf (.int .i64 7))), none⟩, ⟨(some 18), .as 0 0 (.t 19), none⟩] [5, 18]) c40_46
abbrev c40_48 : AC := .cond (.t 16) c40_5 c40_47
abbrev c40_49 : AC := .seq (.ops 0 [⟨(some 17), .bin .eql (.t 5) (.k (.lf (.int .i64 6))), none⟩, ⟨(some 16), .as 0 0 (.t 17), none⟩] [5, 16]) c40_48
abbrev c40_50 : AC := .cond (.t 14) c40_4 c40_49
abbrev c40_51 : AC := .seq (.ops 0 [⟨(some 15), .bin .eql (.t 5) (.k (.lf (.int .i64 5))), none⟩, ⟨(some 14), .as 0 0 (.t 15), none⟩] [5, 14]) c40_50
abbrev c40_52 : AC := .cond (.t 12) c40_3 c40_51
abbrev c40_53 : AC := .seq (.ops 0 [⟨(some 13), .bin .eql (.t 5) (.k (.lf (.int .i64 4))), none⟩, ⟨(some 12), .as 0 0 (.t 13), none⟩] [5, 12]) c40_52
abbrev c40_54 : AC := .cond (.t 10) c40_2 c40_53
abbrev c40_55 : AC := .seq (.ops 0 [⟨(some 11), .bin .eql (.t 5) (.k (.lf (.int .i64 3))), none⟩, ⟨(some 10), .as 0 0 (.t 11), none⟩] [5, 10]) c40_54
abbrev c40_56 : AC := .cond (.t 8) c40_1 c40_55
abbrev c40_57 : AC := .seq (.ops 0 [⟨(some 9), .bin .eql (.t 5) (.k (.lf (.int .i64 2))), none⟩, ⟨(some 8), .as 0 0 (.t 9), none⟩] [5, 8]) c40_56
abbrev c40_58 : AC := .cond (.t 6) c40_0 c40_57
abbrev c40_59 : AC := .seq (.ops 0 [⟨(some 7), .bin .eql (.t 5) (.k (.lf (.int .i64 1))), none⟩, ⟨(some 6), .as 0 0 (.t 7), none⟩] [5, 6]) c40_58
abbrev c40_60 : AC := .block 0 c40_59
abbrev c40_61 : AC := .seq (.ops 0 [⟨(some 5), .mv (.t 0), none⟩] [5]) c40_60
abbrev c40_62 : AC := .seq (.ops 0 [⟨(some 2), .as 0 0 (.k (.lf (.int .i64 0))), none⟩, ⟨(some 3), .as 0 0 (.k (.lf (.str ⟨#[]⟩))), none⟩, ⟨(some 4), .as 0 0 (.k (.lf (.bool false))), none⟩] [2, 3, 4]) .ret
abbrev c40_63 : AC := .seq c40_61 c40_62
abbrev c40_64 : AC := .seq (.ops 0 [⟨(some 2), .as 0 0 (.k (.lf (.int .i64 0))), none⟩, ⟨(some 3), .as 0 0 (.k (.lf (.str ⟨#[]⟩))), none⟩, ⟨(some 4), .as 0 0 (.k (.lf (.bool false))), none⟩] [0]) c40_63
abbrev c40 : AC := c40_64
theorem c40_ok : compileFn Tryd.prog 40 = some (46, AC.strip c40, [.t 2, .t 3, .t 4]) := by kernel_rfl
/-- harrow/harrowref16.has -/
abbrev c41_0 : AC := .seq (.ops 0 [⟨(some 5), .mv (.t 0), none⟩, ⟨(some 6), .mv (.t 1), none⟩, ⟨(some 7), .bin .quo (.t 5) (.t 6), none⟩, ⟨(some 8), .bin .rem (.t 7) (.k (.lf (.int .i64 2))), none⟩, ⟨(some 9), .bin .eql (.t 8) (.k (.lf (.int .i64 1))), none⟩, ⟨(some 4), .as 0 0 (.t 9), none⟩] [4]) .ret
abbrev c41_1 : AC := .seq (.ops 0 [⟨(some 4), .as 0 0 (.k (.lf (.bool false))), none⟩] [0, 1]) c41_0
abbrev c41 : AC := c41_1
theorem c41_ok : compileFn Tryd.prog 41 = some (10, AC.strip c41, [.t 4]) := by kernel_rfl
/-- harrow/harrowref16.Args -/
abbrev c54_0 : AC := .seq (.ops 0 [⟨(some 2), .as 0 0 (.k (.lf (.bool false))), none⟩] [2]) .ret
abbrev c54_1 : AC := .cond (.t 38) c54_0 .skip
abbrev c54_2 : AC := .seq (.ops 0 [⟨(some 15), .mv (.t 3), none⟩, ⟨(some 16), .call 41 [(.t 15), (.k (.lf (.int .i64 16)))], none⟩, ⟨(some 17), .un .not (.t 16), none⟩, ⟨(some 18), .mv (.t 17), none⟩, ⟨(some 19), .fa (.t 1) 5, (some (18, true))⟩, ⟨(some 20), .ld (.t 19) 4 true, (some (18, true))⟩, ⟨(some 21), .ld (.t 6) 4 true, (some (18, true))⟩, ⟨(some 22), .beq true [2, 2, 2, 2] (.t 20) (.t 21), (some (18, true))⟩, ⟨(some 23), .pk (.t 18) (.t 22) (.k (.lf (.bool false))), none⟩, ⟨(some 24), .mv (.t 23), none⟩, ⟨(some 25), .mv (.t 3), (some (24, false))⟩, ⟨(some 26), .call 41 [(.t 25), (.k (.lf (.int .i64 1)))], (some (24, false))⟩, ⟨(some 27), .un .not (.t 26), (some (24, false))⟩, ⟨(some 28), .mv (.t 27), (some (24, false))⟩, ⟨(some 29), .mv (.t 3), (some (28, true))⟩, ⟨(some 30), .call 41 [(.t 29), (.k (.lf (.int .i64 2)))], (some (28, true))⟩, ⟨(some 31), .un .not (.t 30), (some (28, true))⟩, ⟨(some 32), .pk (.t 28) (.t 31) (.k (.lf (.bool false))), (some (24, false))⟩, ⟨(some 33), .mv (.t 32), (some (24, false))⟩, ⟨(some 34), .fa (.t 1) 1, (some (33, true))⟩, ⟨(some 35), .ld (.t 34) 1 false, (some (33, true))⟩, ⟨(some 36), .bin .neq (.t 35) (.k (.lf (.int .i64 0))), (some (33, true))⟩, ⟨(some 37), .pk (.t 33) (.t 36) (.k (.lf (.bool false))), (some (24, false))⟩, ⟨(some 38), .pk (.t 24) (.k (.lf (.bool true))) (.t 37), none⟩] [1, 3, 38]) c54_1
abbrev c54_3 : AC := .seq (.ops 0 [⟨(some 2), .as 0 0 (.k (.lf (.bool false))), none⟩] [2]) .ret
abbrev c54_4 : AC := .cond (.t 60) c54_3 .skip
abbrev c54_5 : AC := .seq (.ops 0 [⟨(some 39), .mv (.t 3), none⟩, ⟨(some 40), .call 41 [(.t 39), (.k (.lf (.int .i64 2)))], none⟩, ⟨(some 41), .mv (.t 40), none⟩, ⟨(some 42), .fa (.t 1) 1, (some (41, true))⟩, ⟨(some 43), .ld (.t 42) 1 false, (some (41, true))⟩, ⟨(some 44), .bin .lss (.t 43) (.k (.lf (.int .i64 0))), (some (41, true))⟩, ⟨(some 45), .mv (.t 44), (some (41, true))⟩, ⟨(some 46), .fa (.t 1) 1, (some (45, false))⟩, ⟨(some 47), .ld (.t 46) 1 false, (some (45, false))⟩, ⟨(some 48), .bin .gtr (.t 47) (.k (.lf (.int .i64 255))), (some (45, false))⟩, ⟨(some 49), .pk (.t 45) (.k (.lf (.bool true))) (.t 48), (some (41, true))⟩, ⟨(some 50), .mv (.t 49), (some (41, true))⟩, ⟨(some 51), .fa (.t 1) 2, (some (50, false))⟩, ⟨(some 52), .ld (.t 51) 1 false, (some (50, false))⟩, ⟨(some 53), .bin .eql (.t 52) (.k (.lf (.int .i64 1))), (some (50, false))⟩, ⟨(some 54), .mv (.t 53), (some (50, false))⟩, ⟨(some 55), .fa (.t 1) 1, (some (54, true))⟩, ⟨(some 56), .ld (.t 55) 1 false, (some (54, true))⟩, ⟨(some 57), .bin .neq (.t 56) (.k (.lf (.int .i64 0))), (some (54, true))⟩, ⟨(some 58), .pk (.t 54) (.t 57) (.k (.lf (.bool false))), (some (50, false))⟩, ⟨(some 59), .pk (.t 50) (.k (.lf (.bool true))) (.t 58), (some (41, true))⟩, ⟨(some 60), .pk (.t 41) (.t 59) (.k (.lf (.bool false))), none⟩] [1, 3, 60]) c54_4
abbrev c54_6 : AC := .seq (.ops 0 [⟨(some 63), .ld (.t 1) 9 true, none⟩, ⟨(some 64), .call 67 [(.t 63)], none⟩, ⟨(some 2), .as 0 0 (.t 64), none⟩] [2]) .ret
abbrev c54_7 : AC := .cond (.t 62) c54_6 .skip
abbrev c54_8 : AC := .seq (.ops 0 [⟨(some 61), .mv (.t 3), none⟩, ⟨(some 62), .call 41 [(.t 61), (.k (.lf (.int .i64 8)))], none⟩] [1, 3, 62]) c54_7
abbrev c54_9 : AC := .seq (.ops 0 [⟨(some 65), .fa (.t 1) 3, none⟩, ⟨(some 66), .ld (.t 65) 1 false, none⟩, ⟨(some 67), .bin .eql (.t 66) (.k (.lf (.int .i64 0))), none⟩, ⟨(some 68), .mv (.t 67), none⟩, ⟨(some 69), .fa (.t 1) 4, (some (68, true))⟩, ⟨(some 70), .ld (.t 69) 1 false, (some (68, true))⟩, ⟨(some 71), .bin .eql (.t 70) (.k (.lf (.str ⟨#[]⟩))), (some (68, true))⟩, ⟨(some 72), .pk (.t 68) (.t 71) (.k (.lf (.bool false))), none⟩, ⟨(some 73), .mv (.t 72), none⟩, ⟨(some 74), .mv (.t 3), (some (73, true))⟩, ⟨(some 75), .call 41 [(.t 74), (.k (.lf (.int .i64 4)))], (some (73, true))⟩, ⟨(some 76), .mv (.t 75), (some (73, true))⟩, ⟨(some 77), .fa (.t 1) 2, (some (76, true))⟩, ⟨(some 78), .ld (.t 77) 1 false, (some (76, true))⟩, ⟨(some 79), .bin .geq (.t 78) (.k (.lf (.int .i64 0))), (some (76, true))⟩, ⟨(some 80), .pk (.t 76) (.t 79) (.k (.lf (.bool false))), (some (73, true))⟩, ⟨(some 81), .mv (.t 80), (some (73, true))⟩, ⟨(some 82), .fa (.t 1) 2, (some (81, true))⟩, ⟨(some 83), .ld (.t 82) 1 false, (some (81, true))⟩, ⟨(some 84), .bin .leq (.t 83) (.k (.lf (.int .i64 255))), (some (81, true))⟩, ⟨(some 85), .pk (.t 81) (.t 84) (.k (.lf (.bool false))), (some (73, true))⟩, ⟨(some 86), .mv (.t 85), (some (73, true))⟩, ⟨(some 87), .fa (.t 1) 2, (some (86, false))⟩, ⟨(some 88), .ld (.t 87) 1 false, (some (86, false))⟩, ⟨(some 89), .bin .eql (.t 88) (.k (.lf (.int .i64 0))), (some (86, false))⟩, ⟨(some 90), .pk (.t 86) (.k (.lf (.bool true))) (.t 89), (some (73, true))⟩, ⟨(some 91), .pk (.t 73) (.t 90) (.k (.lf (.bool false))), none⟩, ⟨(some 2), .as 0 0 (.t 91), none⟩] [2]) .ret
abbrev c54_10 : AC := .seq c54_8 c54_9
abbrev c54_11 : AC := .seq c54_5 c54_10
abbrev c54_12 : AC := .seq c54_2 c54_11
abbrev c54_13 : AC := .seq (.ops 0 [⟨(some 14), .bd [.int .u64 0, .int .u64 0, .int .u64 0, .int .u64 0] [], none⟩, ⟨(some 6), .al [.int .u64 0, .int .u64 0, .int .u64 0, .int .u64 0], none⟩, ⟨none, .st (.t 6) (.t 14) 4, none⟩] [1, 3, 6]) c54_12
abbrev c54_14 : AC := .seq (.ops 0 [⟨(some 8), .fa (.t 1) 0, none⟩, ⟨(some 9), .ld (.t 8) 1 false, none⟩, ⟨(some 10), .call 40 [(.t 9)], none⟩, ⟨(some 7), .mv (.t 10), none⟩, ⟨(some 11), .ext (.t 7) 0, none⟩, ⟨(some 12), .ext (.t 7) 1, none⟩, ⟨(some 13), .ext (.t 7) 2, none⟩, ⟨(some 3), .as 0 0 (.t 11), none⟩, ⟨(some 4), .as 0 0 (.t 12), none⟩, ⟨(some 5), .as 0 0 (.t 13), none⟩] [1, 3]) c54_13
abbrev c54_15 : AC := .seq (.ops 0 [⟨(some 1), .bx (.t 0), none⟩, ⟨(some 2), .as 0 0 (.k (.lf (.bool false))), none⟩] [1]) c54_14
abbrev c54 : AC := c54_15
theorem c54_ok : compileFn Tryd.prog 54 = some (92, AC.strip c54, [.t 2]) := by kernel_rfl
/-- harrow/harrowref16.Targets -/
abbrev c55_0 : AC := .seq (.ops 0 [⟨(some 12), .mv (.t 3), none⟩, ⟨(some 13), .call 41 [(.t 12), (.k (.lf (.int .i64 1)))], none⟩, ⟨(some 2), .as 0 0 (.t 13), none⟩] [2]) .ret
abbrev c55_1 : AC := .seq (.ops 0 [⟨(some 7), .mv (.t 0), none⟩, ⟨(some 8), .call 40 [(.t 7)], none⟩, ⟨(some 6), .mv (.t 8), none⟩, ⟨(some 9), .ext (.t 6) 0, none⟩, ⟨(some 10), .ext (.t 6) 1, none⟩, ⟨(some 11), .ext (.t 6) 2, none⟩, ⟨(some 3), .as 0 0 (.t 9), none⟩, ⟨(some 4), .as 0 0 (.t 10), none⟩, ⟨(some 5), .as 0 0 (.t 11), none⟩] [3]) c55_0
abbrev c55_2 : AC := .seq (.ops 0 [⟨(some 2), .as 0 0 (.k (.lf (.bool false))), none⟩] [0]) c55_1
abbrev c55 : AC := c55_2
theorem c55_ok : compileFn Tryd.prog 55 = some (14, AC.strip c55, [.t 2]) := by kernel_rfl
end Go.Proofs.YthcpaohmajjopaaDoor.I
set_option linter.unusedVariables false
set_option linter.unusedSimpArgs false
namespace Go.Proofs.YthcpaohmajjopaaDoor.I
open Go Go.Proofs.YthcpaohmajjopaaDoor.AM
variable {X : Cx}
def refT : List Int := [0, 0, 4, 16, 1, 5, 17, 16, 1, 1, 1, 1, 0, 0, 1, 1, 0, 0, 8, 0, 10]
def nameT : List (List UInt8) := [[], [97, 110, 121], [99, 104, 97, 114], [115, 101, 116], [116, 101, 115, 116, 97, 110, 121], [116, 101, 115, 116, 99, 104, 97, 114], [116, 101, 115, 116, 115, 101, 116], [115, 112, 97, 110], [99, 104, 111, 105, 99, 101], [99, 111, 109, 109, 105, 116], [112, 97, 114, 116, 105, 97, 108], [98, 97, 99, 107], [116, 119, 105, 99, 101], [102, 97, 105, 108], [106, 117, 109, 112], [99, 97, 108, 108], [114, 101, 116], [101, 110, 100], [111, 112, 101, 110], [99, 108, 111, 115, 101], [102, 117, 108, 108]]
def nextT : List Bool := [false, true, true, true, true, true, true, true, true, false, false, false, false, false, false, true, false, false, true, true, true]
def refF (k : Nat) : Int := refT[k]?.getD 0
def nameF (k : Nat) : ByteArray := ⟨(nameT[k]?.getD []).toArray⟩
def nextF (k : Nat) : Bool := nextT[k]?.getD false
theorem tab_out {k : Nat} (h : k = 0 ∨ 20 < k) : refF k = 0 ∧ nameF k = ⟨#[]⟩ ∧ nextF k = false := by
  rcases h with rfl | h
  · exact ⟨rfl, rfl, rfl⟩
  · have h1 : refT[k]? = none := List.getElem?_eq_none (by simp [refT]; omega)
    have h2 : nameT[k]? = none := List.getElem?_eq_none (by simp [nameT]; omega)
    have h3 : nextT[k]? = none := List.getElem?_eq_none (by simp [nextT]; omega)
    simp [refF, nameF, nextF, h1, h2, h3]
theorem r40 (op : Int) : R X Tryd.prog 40 [.lf (.int .i64 op)] [] (.tp [.lf (.int .i64 (refF op.toNat)), .lf (.str (nameF op.toNat)), .lf (.bool (nextF op.toNat))]) [] := by
  refine R_i [] [] c40_ok rfl (by simp) ?_
  have hout : ¬ (1 ≤ op ∧ op ≤ 20) → refF op.toNat = 0 ∧ nameF op.toNat = ⟨#[]⟩ ∧ nextF op.toNat = false := fun h => tab_out (by omega)
  simp -implicitDefEqProofs (maxSteps := 2000000) only [c40, ↓reduceIte, s_skip, s_ret, s_ops0, s_seq, s_cond, s_block, s_opsK, s_seqK_n, s_seqK_r, s_blkK_n, s_blkK_r, s_cnd, s_nil, s_cons, s_wopsK, s_putK, o_mv, o_as, o_bin, v_eql, e_t, e_k, e_put, e_get, e_res, e_keep_n, e_keep_c, e_keep1_s, e_asg_b, e_asg_i, e_asg_s, St.init, enum, List.length_nil, Option.getD_some, Nat.reduceEqDiff, reduceCtorEq, true_and, and_true, decide_eq_true_eq, s_ret_r, s_retX, s_cells_n, t_tp, t_n, t_c, t_1l, t_b, t_i, t_s, r_n, r_t, r_cons, one_2, Bool.and_true, Bool.true_and]
  iterate 20
    all_goals try (with_reducible refine ite_pr (fun h => ?_) (fun h => ?_))
  all_goals try (subst op; exact ⟨rfl, rfl, rfl⟩)
  all_goals
    obtain ⟨h1, h2, h3⟩ := hout (by omega)
    rw [h1, h2, h3]
    try exact ⟨rfl, rfl, rfl⟩
def refB (a f : Int) : Bool := decide ((IntKind.i64.wrap (a.tdiv f)).tmod 2 = 1)
theorem r41 (a f : Int) (hf : f ≠ 0) : R X Tryd.prog 41 [.lf (.int .i64 a), .lf (.int .i64 f)] [] (.lf (.bool (refB a f))) [] := by
  refine R_i [] [] c41_ok rfl (by simp) ?_
  simp -implicitDefEqProofs (maxSteps := 2000000) only [c41, ↓reduceIte, s_ret, s_ops0, s_seq, s_opsK, s_seqK_n, s_nil, s_cons, s_wopsK, s_putK, o_mv, o_as, o_bin, v_quo, v_rem, v_eql, e_t, e_k, e_put, e_get, e_res, e_keep_n, e_keep_c, e_keep1_s, e_asg_b, St.init, enum, List.length_nil, Option.getD_some, Nat.reduceEqDiff, reduceCtorEq, true_and, and_true, s_ret_r, s_retX, s_cells_n, t_lf, t_b, r_n, r_t, r_cons, one_1, Bool.and_true, Bool.true_and, ne_eq, Nat.zero_add]
  exact ⟨hf, by decide, rfl⟩
def catB (x : Ins) : Bool := decide (1 ≤ x.b ∧ x.b ≤ 7 ∧ (x.op = 18 → 2 ≤ x.b)) && capB x.b x.n x.t
theorem r67 (x : Ins) (hx : x.op = 18 ∨ x.op = 20) : R X Tryd.prog 67 [.ag x.c] [] (.lf (.bool (catB x))) [] := by
  refine R_i [] [] c67_ok rfl (by simp) ?_
  have e1 : ¬ (1 ≤ x.b ∧ x.b ≤ 7 ∧ (x.op = 18 → 2 ≤ x.b)) → catB x = false := fun h => by rw [catB, decide_eq_false h]; rfl
  have e2 : (1 ≤ x.b ∧ x.b ≤ 7 ∧ (x.op = 18 → 2 ≤ x.b)) → catB x = capB x.b x.n x.t := fun h => by rw [catB, decide_eq_true h]; rfl
  have e3 : x.b = 1 → capB x.b x.n x.t = (decide (x.n = 0) && decide (x.t = ⟨#[]⟩)) := fun h => by rw [capB, if_pos h]
  have e4 : ¬ x.b = 1 → (¬ (0 ≤ x.n ∧ x.n ≤ 50 ∧ (x.n = 0 ∨ x.b = 7))) → capB x.b x.n x.t = false := fun h h2 => by
    rw [capB, if_neg h, fldB, decide_eq_false (by omega)]; rfl
  have e5 : ¬ x.b = 1 → (0 ≤ x.n ∧ x.n ≤ 50 ∧ (x.n = 0 ∨ x.b = 7)) → capB x.b x.n x.t = (if x.b = 3 then decide (x.t = ⟨#[]⟩) || decide (nameP x.t) else if x.b = 6 then tempB x.t else decide (x.t = ⟨#[]⟩)) := fun h h2 => by
    rw [capB, if_neg h, fldB, decide_eq_true (show 0 ≤ x.n ∧ x.n ≤ 50 ∧ (x.n = 0 ∨ x.b + 16 = 23) by omega), Bool.true_and]
    have q1 : (x.b + 16 = 19) = (x.b = 3) := propext (by omega)
    have q2 : (x.b + 16 = 22) = (x.b = 6) := propext (by omega)
    simp only [q1, q2]
  generalize catB x = r at *
  generalize capB x.b x.n x.t = cb at *
  simp only [Ins.c]
  simp -implicitDefEqProofs (maxSteps := 2000000) only [c67, ↓reduceIte, s_skip, s_ret, s_ops0, s_seq, s_cond, s_block, s_opsK, s_seqK_n, s_seqK_r, s_blkK_n, s_blkK_r, s_cnd, s_nil, s_cons, s_guard, s_wopsK, s_putK, s_grd, s_grd_no, q_call, q_mv, q_pk, q_bin, q_fa, q_ld, o_mv, o_as, o_pk, v_pk, o_bin, v_eql, v_neq, v_lss, v_gtr, v_seql, v_part_f, v_atK, o_bx, o_fa, v_fa_p, o_ld, v_ld_p, v_ldC, o_call, e_t, e_k, e_put, e_get, e_res, e_keep_n, e_keep_c, e_keep1_s, e_asg_b, e_asg_i, St.init, enum, List.length_nil, Option.getD_some, Nat.reduceEqDiff, true_and, and_true, cond_false, Bool.not_true, Bool.not_false, Bool.true_eq_false, Bool.false_eq_true, decide_eq_true_eq, decide_eq_false_iff_not, s_ret_r, s_retX, s_cells_n, t_lf, t_b, r_n, r_t, r_cons, one_1, List.map_cons, List.map_nil, PV.leaves, List.flatMap_cons, List.flatMap_nil, List.append_nil, Bool.and_true, Bool.true_and, Nat.zero_le, List.getElem?_cons_zero, List.getElem?_cons_succ, kc_i, kc_s, rl_s, m_lf, m_ag, m_n, m_c, m_all, d_n, ne_eq, Nat.zero_add, Nat.add_zero, ite_not, v_bx_a]
  iterate 9
    all_goals try (with_reducible refine ite_pr (fun h => ?_) (fun h => ?_))
    all_goals try omega
  all_goals try (refine wcall_s (r81 x.t) rfl rfl ?_; simp -implicitDefEqProofs (maxSteps := 2000000) only [c67, ↓reduceIte, s_ret, s_opsK, s_seqK_n, s_seqK_r, s_blkK_r, s_nil, s_cons, s_wopsK, s_putK, o_as, o_pk, v_pk, e_t, e_k, e_put, e_get, e_res, e_keep_n, e_keep_c, e_keep1_s, e_asg_b, Option.getD_some, Nat.reduceEqDiff, true_and, and_true, Bool.false_eq_true, s_ret_r, s_retX, s_cells_n, t_lf, t_b, r_n, r_t, r_cons, one_1, St.clr, outV, ownsV, owns1, ownL, Bool.and_true, Bool.true_and, ol_b, m_lf])
  all_goals try (refine wcall_s (r82 x.t) rfl rfl ?_; simp -implicitDefEqProofs (maxSteps := 2000000) only [c67, ↓reduceIte, s_ret, s_opsK, s_seqK_n, s_seqK_r, s_blkK_r, s_nil, s_cons, s_wopsK, o_as, e_t, e_put, e_get, e_res, e_keep_n, e_keep_c, e_keep1_s, e_asg_b, Option.getD_some, true_and, and_true, Bool.false_eq_true, s_ret_r, s_retX, s_cells_n, t_lf, t_b, r_n, r_t, r_cons, one_1, St.clr, outV, ownsV, owns1, ownL, Bool.and_true, Bool.true_and, ol_b, m_lf])
  all_goals by_cases hb1 : x.b = 1
  all_goals first
    | exact (e1 (by omega)).symm
    | (rw [e2 (by omega), e4 (by omega) (by omega)]; done)
    | (rw [e2 (by omega), e5 (by omega) (by omega)]; simp_all; done)
    | (rw [e2 (by omega), e3 (by omega), decide_eq_false (show ¬ x.n = 0 by omega)]; rfl)
    | (rw [e2 (by omega), e3 (by omega), decide_eq_true (show x.n = 0 by omega), Bool.true_and]; done)
    | (rw [e2 (by omega), e3 (by omega), decide_eq_true (show x.n = 0 by omega), Bool.true_and]; simp_all; done)
    | trace_state
end Go.Proofs.YthcpaohmajjopaaDoor.I
set_option linter.unusedVariables false
set_option linter.unusedSimpArgs false
namespace Go.Proofs.YthcpaohmajjopaaDoor.I
open Go Go.Proofs.YthcpaohmajjopaaDoor.AM
variable {X : Cx}
theorem r55 (op : Int) : R X Tryd.prog 55 [.lf (.int .i64 op)] [] (.lf (.bool (refB (refF op.toNat) 1))) [] := by
  refine R_i [] [] c55_ok rfl (by simp) ?_
  simp -implicitDefEqProofs (maxSteps := 2000000) only [c55, ↓reduceIte, s_ops0, s_seq, s_opsK, s_seqK_n, s_nil, s_cons, s_wopsK, o_mv, o_as, o_call, e_t, e_k, e_put, e_get, e_res, e_keep_n, e_keep_c, e_keep1_s, e_asg_b, St.init, enum, List.length_nil, Option.getD_some, reduceCtorEq, List.map_cons, List.map_nil, PV.leaves, List.flatMap_cons, List.flatMap_nil, List.append_nil, rl_i, m_lf]
  refine wcall_s (r40 op) rfl rfl ?_
  simp -implicitDefEqProofs (maxSteps := 2000000) only [c55, ↓reduceIte, s_ops0, s_seq, s_opsK, s_seqK_n, s_nil, s_cons, s_wopsK, s_putK, o_mv, o_as, o_ext, v_ext0, v_ext1, v_ext2, o_call, e_t, e_k, e_put, e_get, e_res, e_keep_n, e_keep_c, e_keep1_s, e_asg_b, e_asg_i, e_asg_s, Option.getD_some, Nat.reduceEqDiff, Bool.false_eq_true, St.clr, outV, ownsV, owns1, ownL, List.map_cons, List.map_nil, List.any_cons, List.any_nil, Bool.or_self, PV.leaves, List.flatMap_cons, List.flatMap_nil, List.append_nil, List.cons_append, List.nil_append, rl_i, ol_b, ol_i, ol_s, m_lf, m_tp, m_1l]
  refine wcall_s (r41 _ 1 (by decide)) rfl rfl ?_
  simp -implicitDefEqProofs (maxSteps := 2000000) only [c55, ↓reduceIte, s_ret, s_opsK, s_seqK_n, s_nil, s_cons, s_wopsK, o_as, e_t, e_put, e_get, e_res, e_keep_n, e_keep_c, e_keep1_s, e_asg_b, Option.getD_some, and_true, Bool.false_eq_true, s_ret_r, s_retX, s_cells_n, t_lf, t_b, r_n, r_t, r_cons, one_1, St.clr, outV, ownsV, owns1, ownL, Bool.and_true, ol_b, m_lf]
abbrev rp (k : Nat) : List Bool := [refB (refF k) 1, refB (refF k) 2, refB (refF k) 4, refB (refF k) 8, refB (refF k) 16]
abbrev hp (k : Nat) : List Bool := [hasB k 1, hasB k 2, hasB k 4, hasB k 8, hasB k 16]
abbrev kp (k : Nat) : List Bool := [decide (k = 2 ∨ k = 5), decide (k = 18), decide (k = 20)]
theorem pat2 {k : Nat} (hk : k < 21) : (rp k, hp k, kp k) ∈ [
    ([false, false, false, false, false], [false, false, false, false, false], [false, false, false]),
    ([false, false, true, false, false], [false, true, false, false, false], [true, false, false]),
    ([false, false, false, false, true], [false, false, false, false, true], [false, false, false]),
    ([true, false, false, false, false], [true, false, false, false, false], [false, false, false]),
    ([true, false, true, false, false], [true, true, false, false, false], [true, false, false]),
    ([true, false, false, false, true], [true, false, false, false, true], [false, false, false]),
    ([false, false, false, true, false], [false, true, true, true, false], [false, true, false]),
    ([false, true, false, true, false], [true, true, true, true, false], [false, false, true])] := by
  have h : ∀ i : Fin 21, (rp i.val, hp i.val, kp i.val) ∈ [
    ([false, false, false, false, false], [false, false, false, false, false], [false, false, false]),
    ([false, false, true, false, false], [false, true, false, false, false], [true, false, false]),
    ([false, false, false, false, true], [false, false, false, false, true], [false, false, false]),
    ([true, false, false, false, false], [true, false, false, false, false], [false, false, false]),
    ([true, false, true, false, false], [true, true, false, false, false], [true, false, false]),
    ([true, false, false, false, true], [true, false, false, false, true], [false, false, false]),
    ([false, false, false, true, false], [false, true, true, true, false], [false, true, false]),
    ([false, true, false, true, false], [true, true, true, true, false], [false, false, true])] := by decide +kernel
  exact h ⟨k, hk⟩
theorem r54 (k : Nat) (hk : k < 21) (x : Ins) (hx : x.op = k) : R X Tryd.prog 54 [.ag x.c] [] (.lf (.bool (fitB (capB x.b x.n x.t) k x))) [] := by
  refine R_i [] [] c54_ok rfl (by simp) ?_
  have h40 := r40 (X := X) x.op
  have hkk : x.op.toNat = k := by omega
  rw [hkk] at h40
  have q1 := r41 (X := X) (refF k) 1 (by decide)
  have q2 := r41 (X := X) (refF k) 2 (by decide)
  have q4 := r41 (X := X) (refF k) 4 (by decide)
  have q8 := r41 (X := X) (refF k) 8 (by decide)
  have q16 := r41 (X := X) (refF k) 16 (by decide)
  have h67 := r67 (X := X) x
  have hm := pat2 hk
  simp only [rp, hp, kp, List.mem_cons, List.not_mem_nil, or_false, Prod.mk.injEq, List.cons.injEq, and_true] at hm
  have he : eqLs [.int .u64 x.s0, .int .u64 x.s1, .int .u64 x.s2, .int .u64 x.s3] [.int .u64 0, .int .u64 0, .int .u64 0, .int .u64 0] = some (decide (x.s0 = 0) && (decide (x.s1 = 0) && (decide (x.s2 = 0) && decide (x.s3 = 0)))) := by simp [eqLs, eqL]
  generalize hse : (decide (x.s0 = 0) && (decide (x.s1 = 0) && (decide (x.s2 = 0) && decide (x.s3 = 0)))) = se at he
  have hb := fun neg ks K => v_beq (neg := neg) (ks := ks) (K := K) he
  generalize hr : fitB (capB x.b x.n x.t) k x = r
  simp only [Ins.c] at h67 ⊢
  simp -implicitDefEqProofs (maxSteps := 2000000) only [c54, ↓reduceIte, s_ops0, s_seq, s_opsK, s_seqK_n, s_nil, s_cons, s_wopsK, s_putK, o_as, v_part_f, v_atK, o_bx, o_fa, v_fa_p, o_ld, v_ld_p, v_ldC, o_call, e_t, e_k, e_put, e_get, e_res, e_keep_n, e_keep_c, e_keep1_s, e_asg_b, St.init, enum, List.length_nil, Option.getD_some, Nat.reduceEqDiff, true_and, List.map_cons, List.map_nil, PV.leaves, List.flatMap_cons, List.flatMap_nil, List.append_nil, Bool.true_and, Nat.zero_le, List.getElem?_cons_zero, kc_i, kc_s, rl_i, m_lf, m_ag, m_n, m_c, m_all, d_n, Nat.add_zero, v_bx_a]
  refine wcall_s h40 rfl rfl ?_
  simp -implicitDefEqProofs (maxSteps := 2000000) only [c54, ↓reduceIte, s_ops0, s_seq, s_opsK, s_seqK_n, s_nil, s_cons, s_wopsK, s_putK, o_mv, o_as, o_ext, v_ext0, v_ext1, v_ext2, o_al, o_st, v_st_p, v_stCK, o_bd, v_agK, v_bd_n, o_call, e_t, e_k, e_put, e_get, e_res, e_keep_n, e_keep_c, e_keep1_s, e_asg_b, e_asg_i, e_asg_s, List.length_nil, List.length_cons, Option.getD_some, Nat.reduceEqDiff, Nat.reduceAdd, true_and, Bool.false_eq_true, St.clr, outV, ownsV, owns1, ownL, List.map_cons, List.map_nil, List.any_cons, List.any_nil, Bool.or_self, PV.leaves, List.flatMap_cons, List.flatMap_nil, List.append_nil, List.cons_append, List.nil_append, List.all_cons, List.all_nil, Bool.true_and, Bool.and_self, PV.cells, cellL, fillL, Nat.reduceBEq, Nat.zero_le, Nat.le_refl, List.take_zero, List.drop_succ_cons, List.drop_nil, kc_i, kc_s, rl_i, ol_b, ol_i, ol_s, kc_p, m_lf, m_ag, m_tp, m_1l, m_n, m_c, m_all, st_b, d_n, d_c, Nat.zero_add]
  generalize refF k = F at *
  rcases hm with hm | hm | hm | hm | hm | hm | hm | hm
  all_goals
    obtain ⟨⟨e1, e2, e4, e8, e16⟩, ⟨u1, u2, u4, u8, u16⟩, k1, k2, k3⟩ := hm
    rw [e1] at q1
    rw [e2] at q2
    rw [e4] at q4
    rw [e8] at q8
    rw [e16] at q16
    simp only [decide_eq_true_eq, decide_eq_false_iff_not] at k1 k2 k3
  iterate 12
    all_goals try (with_reducible refine ite_pr (fun _ => ?_) (fun _ => ?_))
    all_goals try ((first | refine wcall_s q1 rfl rfl ?_ | refine wcall_s q2 rfl rfl ?_ | refine wcall_s q4 rfl rfl ?_ | refine wcall_s q8 rfl rfl ?_ | refine wcall_s q16 rfl rfl ?_ | refine wcall_s (h67 (by omega)) rfl rfl ?_); simp -implicitDefEqProofs (maxSteps := 2000000) only [c54, hb, ↓reduceIte, s_skip, s_ret, s_ops0, s_seq, s_cond, s_opsK, s_seqK_n, s_seqK_r, s_cnd, s_nil, s_cons, s_guard, s_wopsK, s_putK, s_grd, s_grd_no, q_call, q_mv, q_pk, q_bin, q_beq, q_un, q_fa, q_ld, o_mv, o_as, o_pk, v_pk, o_bin, v_eql, v_neq, v_lss, v_leq, v_gtr, v_geq, v_seql, o_beq, o_un, v_not, v_part_t, v_part_f, v_atK, o_fa, v_fa_p, o_ld, v_ld_p, v_ldC, o_call, e_t, e_k, e_put, e_get, e_res, e_keep_n, e_keep_c, e_keep1_s, e_asg_b, List.length_nil, List.length_cons, Option.getD_some, Nat.reduceEqDiff, Nat.reduceAdd, true_and, and_true, cond_false, Bool.not_true, Bool.not_false, Bool.true_eq_false, Bool.false_eq_true, decide_eq_true_eq, decide_eq_false_iff_not, s_ret_r, s_retX, s_cells_n, t_lf, t_b, r_n, r_t, r_cons, one_1, St.clr, outV, ownsV, owns1, ownL, List.map_cons, List.map_nil, PV.leaves, List.flatMap_cons, List.flatMap_nil, List.append_nil, List.cons_append, List.nil_append, Bool.and_true, Bool.true_and, Nat.le_refl, List.drop_zero, List.take_succ_cons, List.drop_succ_cons, List.take_nil, List.getElem?_cons_zero, List.getElem?_cons_succ, rl_i, rl_s, ol_b, m_lf, m_ag, ne_eq, Nat.zero_add, kd_i, ite_not, Bool.not_eq_eq_eq_not])
  all_goals (rw [← hr]; clear hr)
  all_goals subst hse
  all_goals try simp only [decide_eq_true_eq, decide_eq_false_iff_not, Bool.and_eq_true, Bool.and_eq_false_iff] at *
  all_goals simp only [fitB]
  all_goals generalize hA : argB (capB x.b x.n x.t) k x = A
  all_goals unfold argB at hA
  all_goals first
    | rw [if_pos k1] at hA
    | rw [if_neg k1, if_pos k2] at hA
    | rw [if_neg k1, if_neg k2, if_pos k3] at hA
    | rw [if_neg k1, if_neg k2, if_neg k3] at hA
  all_goals simp only [Ins.same, Ins.plain, catB, u1, u2, u4, u8, u16, if_true, if_false, Bool.false_eq_true, decide_true, Bool.true_and, Bool.and_true]
  all_goals subst hA
  all_goals rw [Bool.eq_iff_iff]
  all_goals simp only [Bool.and_eq_true, decide_eq_true_eq, Bool.false_eq_true]
  all_goals clear q1 q2 q4 q8 q16 h67 hb he h40 u1 u2 u4 u8 u16
  all_goals first
    | grind
    | trace_state
end Go.Proofs.YthcpaohmajjopaaDoor.I
set_option linter.unusedVariables false
set_option linter.unusedSimpArgs false
namespace Go.Proofs.YthcpaohmajjopaaDoor.I
open Go Go.Proofs.YthcpaohmajjopaaDoor.AM
variable {X : Cx}
abbrev capX (x : Ins) : Bool := capB x.b x.n x.t
theorem capOK (code : List Ins) : CapOK X capX code := fun x _ _ h1 h2 => r66 x.b x.n x.t h1 h2
theorem name_no : ∀ k : Fin 21, 1 ≤ k.val → nameF k.val ≠ ⟨#[]⟩ := by
  intro k hk h
  have h2 : ∀ k : Fin 21, 1 ≤ k.val → (nameF k.val).size ≠ 0 := by decide +kernel
  exact h2 k hk (by rw [h]; rfl)
theorem tgt_eq : ∀ k : Fin 21, refB (refF k.val) 1 = hasB k.val 32 := by decide +kernel
theorem nxt_eq : ∀ k : Fin 21, nextF k.val = hasB k.val 64 := by decide +kernel
theorem r35 (code : List Ins) (sp : List (List L)) :
    R X Tryd.prog 35 [.lf (.lst .ro 9 (code.map Ins.c) sp)] [] (.tp [.lf (.int .i64 (chk capX code).1), .lf (.int .i64 (chk capX code).2)]) [] := by
  refine R_i [] [] c35_ok rfl (by simp) ?_
  generalize hr : chk capX code = r
  have hl : (code.map Ins.c).length = code.length := List.length_map _
  have key : ∀ (q : List Ins) (i : Nat), code.drop i = q → (∀ x ∈ code.take i, 1 ≤ x.op ∧ x.op ≤ 20) → code.length ≤ 8192 → 0 < code.length → (chkGo capX code.length i q).getD (chkEnd code) = r → LoopAt X Tryd.prog c35_22 [0, 4] (blkK 0 (seqK X Tryd.prog c35_31 (retS [] [] 0 [RV.t 2, RV.t 3] (PV.tp [PV.lf (L.int IntKind.i64 r.fst), PV.lf (L.int IntKind.i64 r.snd)]) [])))
      { m := 0, tm := [(0, PV.lf (L.lst Tag.ro 9 (List.map Ins.c code) sp)), (4, PV.lf (L.int IntKind.i64 i))], ce := [] } := by
    intro q
    induction q with
    | nil =>
      intro i hq hal h1 h2 hr Z hZ
      apply hZ
      have hi : code.length ≤ i := by simpa using hq
      obtain ⟨y, g1, g2, g3⟩ := last_get h2
      rw [List.take_of_length_le hi] at hal
      obtain ⟨k, hk, hk2⟩ := nat_of (hal y g3)
      have e1 : IntKind.i64.wrap ((code.length : Int) - 1) = ((code.length - 1 : Nat) : Int) := by rw [w64 (by omega) (by omega)]; omega
      have hg : (code.map Ins.c).getD ((code.length - 1 : Nat) : Int).toNat [] = [.int .i64 y.op, .int .i64 y.a, .int .i64 y.b, .int .i64 y.n, .str y.t, .int .u64 y.s0, .int .u64 y.s1, .int .u64 y.s2, .int .u64 y.s3] := by
        rw [Int.toNat_natCast, List.getD_eq_getElem?_getD, List.getElem?_map, g1]; rfl
      rw [hk] at hg
      simp only [chkGo, Option.getD_none, chkEnd, g2, hk, Int.toNat_natCast] at hr
      simp -implicitDefEqProofs (maxSteps := 2000000) only [c35, hl, e1, hg, v_ld_e, ↓reduceIte, s_skip, s_exit, s_ops0, s_seq, s_cond, s_block, s_opsK, s_seqK_n, s_seqK_e, s_blkK_e, s_loopK_e, s_cnd, s_nil, s_cons, s_wopsK, s_putK, o_mv, o_bin, v_sub, v_lss, v_part_f, v_atK, o_fa, v_fa_e, o_ia, v_ia, o_ld, o_len, v_len, o_call, e_t, e_k, e_put, e_get, e_res, e_keep_n, e_keep_c, e_keep1_s, Option.getD_some, Nat.reduceEqDiff, reduceCtorEq, true_and, decide_eq_true_eq, List.map_cons, List.map_nil, PV.leaves, List.flatMap_cons, List.flatMap_nil, List.append_nil, Bool.true_and, List.getElem?_cons_zero, rl_i, m_lf, Nat.add_zero]
      refine fun _ => ?_
      with_reducible refine ite_pr (fun _ => ?_) (fun _ => ?_)
      · omega
      refine fun _ => ⟨⟨by omega, by omega⟩, by omega, ?_⟩
      refine wcall_s (r40 k) rfl rfl ?_
      have hn := nxt_eq ⟨k, hk2⟩
      simp only at hn
      simp only [Int.toNat_natCast, hn]
      simp -implicitDefEqProofs (maxSteps := 2000000) only [c35, hl, e1, ↓reduceIte, s_skip, s_ret, s_ops0, s_seq, s_cond, s_opsK, s_seqK_n, s_seqK_r, s_cnd, s_nil, s_cons, s_wopsK, s_putK, o_mv, o_as, o_bin, v_sub, o_ext, v_ext0, v_ext1, v_ext2, o_len, v_len, e_t, e_k, e_put, e_get, e_res, e_keep_n, e_keep_c, e_keep1_s, e_asg_b, e_asg_i, e_asg_s, Option.getD_some, Nat.reduceEqDiff, reduceCtorEq, true_and, and_true, Bool.false_eq_true, s_ret_r, s_retX, s_cells_n, t_tp, t_n, t_c, t_1l, t_i, r_n, r_t, r_cons, one_2, St.clr, outV, ownsV, owns1, ownL, List.map_cons, List.map_nil, List.any_cons, List.any_nil, Bool.or_self, Bool.and_true, Bool.true_and, ol_b, ol_i, ol_s, m_tp, m_1l]
      rw [← hr]
      split
      · exact fun _ => ⟨by simp only; omega, rfl⟩
      · exact ⟨rfl, rfl⟩
    | cons x q ih =>
      intro i hq hal h1 h2 hr Z hZ
      apply hZ
      obtain ⟨hi, hx, hq'⟩ := drop_step hq
      have hg := get_c hx
      have hc : x.c = [.int .i64 x.op, .int .i64 x.a, .int .i64 x.b, .int .i64 x.n, .str x.t, .int .u64 x.s0, .int .u64 x.s1, .int .u64 x.s2, .int .u64 x.s3] := rfl
      rw [hc] at hg
      simp -implicitDefEqProofs (maxSteps := 2000000) only [c35, hl, hg, v_ld_e, ↓reduceIte, s_skip, s_exit, s_ops0, s_seq, s_cond, s_block, s_opsK, s_seqK_n, s_seqK_e, s_blkK_e, s_loopK_e, s_cnd, s_nil, s_cons, s_wopsK, s_putK, o_mv, o_bin, v_sub, v_lss, v_part_f, v_atK, o_fa, v_fa_e, o_ia, v_ia, o_ld, o_len, v_len, o_call, e_t, e_k, e_put, e_get, e_res, e_keep_n, e_keep_c, e_keep1_s, Option.getD_some, Nat.reduceEqDiff, reduceCtorEq, true_and, decide_eq_true_eq, List.map_cons, List.map_nil, PV.leaves, List.flatMap_cons, List.flatMap_nil, List.append_nil, Bool.true_and, List.getElem?_cons_zero, rl_i, m_lf, Nat.add_zero]
      refine fun _ => ?_
      with_reducible refine ite_pr (fun _ => ?_) (fun _ => ?_)
      rotate_left
      · omega
      refine ⟨⟨by omega, by omega⟩, by omega, ?_⟩
      refine wcall_s (r40 x.op) rfl rfl ?_
      simp -implicitDefEqProofs (maxSteps := 2000000) only [c35, hl, hg, v_ld_e, ↓reduceIte, s_skip, s_ret, s_ops0, s_seq, s_cond, s_opsK, s_seqK_n, s_seqK_r, s_blkK_r, s_loopK_r, s_cnd, s_nil, s_cons, s_wopsK, s_putK, o_mv, o_as, o_bin, v_seql, o_ext, v_ext0, v_ext1, v_ext2, v_part_t, o_ia, v_ia, o_ld, o_call, e_t, e_k, e_put, e_get, e_res, e_keep_n, e_keep_c, e_keep1_s, e_asg_b, e_asg_i, e_asg_s, List.length_nil, List.length_cons, Option.getD_some, Nat.reduceEqDiff, Nat.reduceAdd, reduceCtorEq, true_and, and_true, Bool.false_eq_true, decide_eq_true_eq, s_ret_r, s_retX, s_cells_n, t_tp, t_n, t_c, t_1l, t_i, r_n, r_t, r_cons, one_2, St.clr, outV, ownsV, owns1, ownL, List.map_cons, List.map_nil, List.any_cons, List.any_nil, Bool.or_self, PV.leaves, List.flatMap_cons, List.flatMap_nil, List.append_nil, Bool.and_true, Bool.true_and, Nat.le_refl, List.drop_zero, List.take_succ_cons, List.take_nil, rl_i, rl_s, ol_b, ol_i, ol_s, m_ag, m_tp, m_1l, Nat.zero_add]
      have hxm : x ∈ code := List.mem_of_getElem? hx
      simp only [chkGo] at hr
      have he : errAt capX code.length i x = _ := rfl
      conv at he => rhs; unfold errAt
      generalize errAt capX code.length i x = e at hr he
      with_reducible refine ite_pr (fun ho => ?_) (fun ho => ?_)
      · have ho2 : ¬ (1 ≤ x.op ∧ x.op ≤ 20) := fun h => name_no ⟨x.op.toNat, by omega⟩ (by simp only; omega) ho
        rw [if_pos ho2] at he
        subst he
        rw [if_neg (by decide)] at hr
        rw [← hr]
        exact ⟨rfl, rfl⟩
      have ho2 : 1 ≤ x.op ∧ x.op ≤ 20 := by
        refine Classical.byContradiction fun h => ho (tab_out (by omega)).2.1
      obtain ⟨k, hk, hk2⟩ := nat_of ho2
      have h54 := r54 (X := X) k hk2 x hk
      have h55 := r55 (X := X) x.op
      have ht := tgt_eq ⟨k, hk2⟩
      simp only at ht
      rw [show x.op.toNat = k by omega, ht] at h55
      rw [hc] at h54
      have w1 : IntKind.i64.wrap (0 - (i : Int)) = -(i : Int) := by rw [w64 (by omega) (by omega)]; omega
      have w2 : IntKind.i64.wrap ((code.length : Int) - (i : Int)) = (code.length : Int) - (i : Int) := w64 (by omega) (by omega)
      have w3 : IntKind.i64.wrap ((i : Int) + 1) = ((i + 1 : Nat) : Int) := by rw [w64 (by omega) (by omega)]; omega
      rw [if_neg (by simpa using ho2), show x.op.toNat = k by omega] at he
      refine ⟨⟨by omega, by omega⟩, by omega, ?_⟩
      refine wcall_s h54 rfl rfl ?_
      simp -implicitDefEqProofs (maxSteps := 2000000) only [c35, hl, hg, v_ld_e, ↓reduceIte, s_skip, s_ret, s_ops0, s_seq, s_cond, s_opsK, s_seqK_n, s_seqK_r, s_blkK_r, s_loopK_r, s_cnd, s_nil, s_cons, s_wopsK, s_putK, o_mv, o_as, o_un, v_not, v_part_f, v_atK, o_fa, v_fa_e, o_ia, v_ia, o_ld, o_call, e_t, e_k, e_put, e_get, e_res, e_keep_n, e_keep_c, e_keep1_s, e_asg_i, Option.getD_some, Nat.reduceEqDiff, reduceCtorEq, true_and, and_true, Bool.not_true, Bool.false_eq_true, s_ret_r, s_retX, s_cells_n, t_tp, t_n, t_c, t_1l, t_i, r_n, r_t, r_cons, one_2, St.clr, outV, ownsV, owns1, ownL, List.map_cons, List.map_nil, PV.leaves, List.flatMap_cons, List.flatMap_nil, List.append_nil, Bool.and_true, Bool.true_and, List.getElem?_cons_zero, rl_i, ol_b, m_lf, Nat.add_zero, Bool.not_eq_eq_eq_not]
      with_reducible refine ite_pr (fun hf => ?_) (fun hf => ?_)
      · rw [if_pos hf] at he
        subst he
        rw [if_neg (by decide)] at hr
        rw [← hr]
        exact ⟨rfl, rfl⟩
      rw [if_neg hf] at he
      refine ⟨⟨by omega, by omega⟩, by omega, ?_⟩
      refine wcall_s h55 rfl rfl ?_
      have hal' : ∀ y ∈ code.take (i + 1), 1 ≤ y.op ∧ y.op ≤ 20 := by
        intro y hy
        rw [List.take_add_one, hx] at hy
        simp only [List.mem_append, Option.toList_some, List.mem_singleton] at hy
        rcases hy with hy | rfl
        · exact hal y hy
        · exact ho2
      have nx := fun h0 : e = 0 => ih (i + 1) hq' hal' h1 h2 (by rw [if_pos h0] at hr; exact hr) Z hZ
      have bad : e = 162 → (i : Int) = r.1 ∧ 162 = r.2 := by
        intro h0
        rw [h0, if_neg (by decide)] at hr
        rw [← hr]
        exact ⟨rfl, rfl⟩
      simp -implicitDefEqProofs (maxSteps := 2000000) only [c35, hl, hg, v_ld_e, w1, w2, w3, ↓reduceIte, s_skip, s_ret, s_ops0, s_seq, s_cond, s_opsK, s_seqK_n, s_seqK_r, s_blkK_n, s_blkK_r, s_loopK_n, s_loopK_r, s_cnd, s_nil, s_cons, s_guard, s_wopsK, s_putK, s_grd, s_grd_no, q_mv, q_pk, q_bin, q_un, q_fa, q_ia, q_ld, q_len, o_mv, o_as, o_pk, v_pk, o_bin, v_add, v_sub, v_lss, v_geq, o_un, v_neg, v_part_f, v_atK, o_fa, v_fa_e, o_ia, v_ia, o_ld, o_len, v_len, e_t, e_k, e_put, e_get, e_res, e_keep_n, e_keep_c, e_keep1_s, e_asg_i, Option.getD_some, Nat.reduceEqDiff, reduceCtorEq, true_and, and_true, cond_false, Bool.not_true, Bool.not_false, Bool.true_eq_false, Bool.false_eq_true, decide_eq_true_eq, decide_eq_false_iff_not, s_ret_r, s_retX, s_cells_n, t_tp, t_n, t_c, t_1l, t_i, r_n, r_t, r_cons, one_2, St.clr, outV, ownsV, owns1, ownL, List.append_nil, Bool.and_true, Bool.true_and, List.getElem?_cons_zero, List.getElem?_cons_succ, ol_b, m_lf, e_head, e_headK, kC_n, pO_n, pO_i, pO_l, List.range_zero, Nat.zero_add, ite_not]
      with_reducible refine ite_pr (fun hj => ?_) (fun hj => ?_)
      · refine ⟨⟨by omega, by omega⟩, by omega, ?_⟩
        with_reducible refine ite_pr (fun ha => ?_) (fun ha => ?_)
        · exact bad (by rw [he, if_pos ⟨hj, by omega⟩])
        · refine ⟨⟨by omega, by omega⟩, by omega, fun _ => ?_⟩
          with_reducible refine ite_pr (fun hb => ?_) (fun hb => ?_)
          · exact bad (by rw [he, if_pos ⟨hj, by omega⟩])
          · exact nx (by rw [he, if_neg (by omega)])
      · exact nx (by rw [he, if_neg (fun h => hj h.1)])
  unfold chk at hr
  simp -implicitDefEqProofs (maxSteps := 2000000) only [c35, hl, ↓reduceIte, s_skip, s_ret, s_ops0, s_seq, s_cond, s_block, s_loop, s_opsK, s_seqK_n, s_seqK_r, s_cnd, s_nil, s_cons, s_wopsK, s_putK, o_mv, o_as, o_bin, v_eql, v_gtr, o_len, v_len, e_t, e_k, e_put, e_get, e_res, e_keep_n, e_keep_c, e_keep1_s, e_asg_i, St.init, enum, List.length_nil, Option.getD_some, Nat.reduceEqDiff, reduceCtorEq, true_and, and_true, decide_eq_true_eq, s_ret_r, s_retX, s_cells_n, t_tp, t_n, t_c, t_1l, t_i, r_n, r_t, r_cons, one_2, List.append_nil, Bool.and_true, Bool.true_and, e_head, e_headK, kC_n, pO_n, pO_i, pO_l, List.range_zero]
  refine fun hl2 => ?_
  with_reducible refine ite_pr (fun h => ?_) (fun h => ?_)
  · rw [if_pos (by omega)] at hr
    rw [← hr]
    exact ⟨rfl, rfl⟩
  rw [if_neg (by omega)] at hr
  refine fun _ => ?_
  with_reducible refine ite_pr (fun h => ?_) (fun h => ?_)
  · rw [if_pos (by omega)] at hr
    rw [← hr]
    exact ⟨rfl, rfl⟩
  rw [if_neg (by omega)] at hr
  exact key code 0 rfl (fun x hx => by simp at hx) (by omega) (by omega) hr
theorem r28x (hX : X.G 1 = some usesL) (code : List Ins) (sp : List (List L)) :
    R X Tryd.prog 28 [.lf (.lst .ro 9 (code.map Ins.c) sp)] [] (.tp [.lf (.int .i64 (chk capX code).1), .lf (.int .i64 (chk capX code).2)]) [] := r28 hX capX code (capOK code) sp
end Go.Proofs.YthcpaohmajjopaaDoor.I
set_option maxRecDepth 100000
namespace Go.Proofs.YthcpaohmajjopaaDoor.I
open Go Go.Proofs.YthcpaohmajjopaaDoor.AM
/-- harrow/harrowlaw16.InstrReads -/
abbrev c4_0 : AC := .seq (.ops 0 [⟨(some 17), .call 9 [], none⟩, ⟨(some 18), .mv (.t 17), none⟩, ⟨(some 19), .mv (.t 3), (some (18, true))⟩, ⟨(some 20), .mv (.t 5), (some (18, true))⟩, ⟨(some 21), .call 11 [(.t 19), (.t 20)], (some (18, true))⟩, ⟨(some 22), .pk (.t 18) (.t 21) (.k (.lf (.bool false))), none⟩, ⟨(some 23), .mv (.t 22), none⟩, ⟨(some 24), .ld (.t 4) 2 true, (some (23, true))⟩, ⟨(some 25), .ld (.t 6) 2 true, (some (23, true))⟩, ⟨(some 26), .beq false [2, 2] (.t 24) (.t 25), (some (23, true))⟩, ⟨(some 27), .pk (.t 23) (.t 26) (.k (.lf (.bool false))), none⟩, ⟨(some 2), .as 0 0 (.t 27), none⟩] [2]) .ret
abbrev c4_1 : AC := .seq (.ops 0 [⟨(some 13), .mv (.t 0), none⟩, ⟨(some 14), .call 13 [(.t 13)], none⟩, ⟨(some 12), .mv (.t 14), none⟩, ⟨(some 15), .ext (.t 12) 0, none⟩, ⟨(some 16), .ext (.t 12) 1, none⟩, ⟨(some 6), .al [.int .i64 0, .int .i64 0], none⟩, ⟨(some 5), .as 52 9 (.t 15), none⟩, ⟨none, .st (.t 6) (.t 16) 2, none⟩] [3, 4, 5, 6]) c4_0
abbrev c4_2 : AC := .seq (.ops 0 [⟨(some 8), .mv (.t 0), none⟩, ⟨(some 9), .call 12 [(.t 8)], none⟩, ⟨(some 7), .mv (.t 9), none⟩, ⟨(some 10), .ext (.t 7) 0, none⟩, ⟨(some 11), .ext (.t 7) 1, none⟩, ⟨(some 4), .al [.int .i64 0, .int .i64 0], none⟩, ⟨(some 3), .as 52 9 (.t 10), none⟩, ⟨none, .st (.t 4) (.t 11) 2, none⟩] [0, 3, 4]) c4_1
abbrev c4_3 : AC := .seq (.ops 0 [⟨(some 2), .as 0 0 (.k (.lf (.bool false))), none⟩] [0]) c4_2
abbrev c4 : AC := c4_3
/-- harrow/instr.Read -/
abbrev c12_0 : AC := .seq (.ops 0 [⟨(some 14), .bd [.int .i64 0, .int .i64 0] [(1, 1, (.k (.lf (.int .i64 2))))], none⟩, ⟨(some 2), .as 52 9 (.k (.lf (.lst .nl 9 [] []))), none⟩, ⟨none, .st (.t 3) (.t 14) 2, none⟩] [2, 3]) .ret
abbrev c12_1 : AC := .cond (.t 13) c12_0 .skip
abbrev c12_2 : AC := .seq (.ops 0 [⟨(some 11), .mv (.t 0), none⟩, ⟨(some 12), .lns (.t 11), none⟩, ⟨(some 13), .bin .gtr (.t 12) (.k (.lf (.int .i64 1048576))), none⟩] [0, 3, 13]) c12_1
abbrev c12_3 : AC := .cond (.t 27) .skip (.exit 0)
abbrev c12_4 : AC := .cond (.t 37) (.exit 0) .skip
abbrev c12_5 : AC := .seq (.ops 0 [⟨(some 34), .mv (.t 4), none⟩, ⟨(some 35), .nc (.t 34), none⟩, ⟨(some 36), .fa (.t 35) 2, none⟩, ⟨(some 37), .ld (.t 36) 1 false, none⟩] [0, 3, 4, 7, 8, 9, 10, 25, 26, 37]) c12_4
abbrev c12_6 : AC := .seq (.ops 0 [⟨(some 41), .mv (.t 9), none⟩, ⟨(some 42), .bd [.int .i64 0, .int .i64 0] [(0, 1, (.t 41)), (1, 1, (.k (.lf (.int .i64 164))))], none⟩, ⟨(some 2), .as 52 9 (.k (.lf (.lst .nl 9 [] []))), none⟩, ⟨none, .st (.t 3) (.t 42) 2, none⟩] [2, 3]) .ret
abbrev c12_7 : AC := .cond (.t 40) c12_6 .skip
abbrev c12_8 : AC := .seq (.ops 0 [⟨(some 38), .mv (.t 10), none⟩, ⟨(some 39), .call 31 [(.t 38)], none⟩, ⟨(some 40), .un .not (.t 39), none⟩] [0, 3, 4, 7, 8, 9, 10, 25, 26, 40]) c12_7
abbrev c12_9 : AC := .cond (.t 56) (.exit 0) .skip
abbrev c12_10 : AC := .seq (.ops 0 [⟨(some 53), .mv (.t 4), none⟩, ⟨(some 54), .nc (.t 53), none⟩, ⟨(some 55), .fa (.t 54) 2, none⟩, ⟨(some 56), .ld (.t 55) 1 false, none⟩] [0, 3, 4, 7, 8, 25, 26, 56]) c12_9
abbrev c12_11 : AC := .seq (.ops 0 [⟨(some 47), .mv (.t 7), none⟩, ⟨(some 48), .mv (.t 4), none⟩, ⟨(some 49), .mv (.t 10), none⟩, ⟨(some 50), .callp 32 0 [(.t 48), (.t 49)], none⟩, ⟨(some 51), .bs 52 9 1 [.int .i64 0, .int .i64 0, .int .i64 0, .int .i64 0, .str ⟨#[]⟩, .int .u64 0, .int .u64 0, .int .u64 0, .int .u64 0] [(0, (.t 50))], none⟩, ⟨(some 52), .app 52 9 80 (.t 47) (.t 51), none⟩, ⟨(some 7), .as 52 9 (.t 52), none⟩] [0, 3, 4, 7, 8, 25, 26]) c12_10
abbrev c12_12 : AC := .seq (.ops 0 [⟨(some 43), .mv (.t 8), none⟩, ⟨(some 44), .mv (.t 9), none⟩, ⟨(some 45), .bs 3 1 1 [.int .i64 0] [(0, (.t 44))], none⟩, ⟨(some 46), .app 3 1 8 (.t 43) (.t 45), none⟩, ⟨(some 8), .as 3 1 (.t 46), none⟩] [0, 3, 4, 7, 8, 10, 25, 26]) c12_11
abbrev c12_13 : AC := .seq c12_8 c12_12
abbrev c12_14 : AC := .seq c12_5 c12_13
abbrev c12_15 : AC := .seq (.ops 0 [⟨(some 32), .mv (.t 4), none⟩, ⟨(some 33), .callp 30 0 [(.t 32)], none⟩, ⟨(some 10), .as 0 0 (.t 33), none⟩] [0, 3, 4, 7, 8, 9, 10, 25, 26]) c12_14
abbrev c12_16 : AC := .seq (.ops 0 [⟨(some 28), .mv (.t 4), none⟩, ⟨(some 29), .nc (.t 28), none⟩, ⟨(some 30), .fa (.t 29) 1, none⟩, ⟨(some 31), .ld (.t 30) 1 false, none⟩, ⟨(some 9), .as 0 0 (.t 31), none⟩] [0, 3, 4, 7, 8, 9, 25, 26]) c12_15
abbrev c12_17 : AC := .block 1 c12_16
abbrev c12_18 : AC := .seq c12_17 (.ops 0 [⟨(some 57), .bin .add (.t 26) (.k (.lf (.int .i64 1))), none⟩, ⟨(some 26), .mv (.t 57), none⟩] [0, 3, 4, 7, 8, 25, 26])
abbrev c12_19 : AC := .seq c12_3 c12_18
abbrev c12_20 : AC := .seq (.ops 0 [⟨(some 27), .bin .lss (.t 26) (.t 25), none⟩] [0, 3, 4, 7, 8, 25, 26, 27]) c12_19
abbrev c12_21 : AC := .loop c12_20 [0, 3, 4, 7, 8, 25, 26]
abbrev c12_22 : AC := .block 0 c12_21
abbrev c12_23 : AC := .seq (.ops 0 [⟨(some 25), .mv (.t 6), none⟩, ⟨(some 26), .mv (.k (.lf (.int .i64 0))), none⟩] [0, 3, 4, 7, 8, 25, 26]) c12_22
abbrev c12_24 : AC := .seq (.ops 0 [⟨(some 62), .mv (.t 0), none⟩, ⟨(some 63), .lns (.t 62), none⟩, ⟨(some 64), .bd [.int .i64 0, .int .i64 0] [(0, 1, (.t 63)), (1, 1, (.k (.lf (.int .i64 164))))], none⟩, ⟨(some 2), .as 52 9 (.k (.lf (.lst .nl 9 [] []))), none⟩, ⟨none, .st (.t 3) (.t 64) 2, none⟩] [2, 3]) .ret
abbrev c12_25 : AC := .cond (.t 61) c12_24 .skip
abbrev c12_26 : AC := .seq (.ops 0 [⟨(some 58), .mv (.t 4), none⟩, ⟨(some 59), .nc (.t 58), none⟩, ⟨(some 60), .fa (.t 59) 2, none⟩, ⟨(some 61), .ld (.t 60) 1 false, none⟩] [0, 3, 4, 7, 8, 61]) c12_25
abbrev c12_27 : AC := .seq (.ops 1 [⟨(some 72), .mv (.t 4), none⟩, ⟨(some 73), .nc (.t 72), none⟩, ⟨(some 74), .fa (.t 73) 1, none⟩, ⟨(some 75), .ld (.t 74) 1 false, none⟩, ⟨(some 76), .bd [.int .i64 0, .int .i64 0] [(0, 1, (.t 75)), (1, 1, (.k (.lf (.int .i64 164))))], none⟩, ⟨(some 2), .as 52 9 (.k (.lf (.lst .nl 9 [] []))), none⟩, ⟨none, .st (.t 3) (.t 76) 2, none⟩] [2, 3]) .ret
abbrev c12_28 : AC := .cond (.t 71) c12_27 .skip
abbrev c12_29 : AC := .seq (.ops 0 [⟨(some 65), .mv (.t 4), none⟩, ⟨(some 66), .nc (.t 65), none⟩, ⟨(some 67), .fa (.t 66) 1, none⟩, ⟨(some 68), .ld (.t 67) 1 false, none⟩, ⟨(some 69), .mv (.t 0), none⟩, ⟨(some 70), .lns (.t 69), none⟩, ⟨(some 71), .bin .lss (.t 68) (.t 70), none⟩] [3, 4, 7, 8, 71]) c12_28
abbrev c12_30 : AC := .seq (.ops 0 [⟨(some 77), .mv (.t 7), none⟩, ⟨(some 78), .mv (.t 8), none⟩, ⟨(some 79), .call 33 [(.t 77), (.t 78)], none⟩, ⟨(some 80), .ext (.t 79) 0, none⟩, ⟨(some 81), .ext (.t 79) 1, none⟩, ⟨(some 2), .as 52 9 (.t 80), none⟩, ⟨none, .st (.t 3) (.t 81) 2, none⟩] [2, 3]) .ret
abbrev c12_31 : AC := .seq c12_29 c12_30
abbrev c12_32 : AC := .seq c12_26 c12_31
abbrev c12_33 : AC := .seq c12_23 c12_32
abbrev c12_34 : AC := .seq (.ops 0 [⟨(some 8), .as 3 1 (.k (.lf (.lst .nl 1 [] []))), none⟩] [0, 3, 4, 6, 7, 8]) c12_33
abbrev c12_35 : AC := .seq (.ops 0 [⟨(some 7), .as 52 9 (.k (.lf (.lst .nl 9 [] []))), none⟩] [0, 3, 4, 6, 7]) c12_34
abbrev c12_36 : AC := .seq (.ops 0 [⟨(some 20), .mv (.t 5), none⟩, ⟨(some 21), .bin .shl (.t 20) (.k (.lf (.int .u64 8))), none⟩, ⟨(some 22), .mv (.t 4), none⟩, ⟨(some 23), .callp 30 0 [(.t 22)], none⟩, ⟨(some 24), .bin .or (.t 21) (.t 23), none⟩, ⟨(some 6), .as 0 0 (.t 24), none⟩] [0, 3, 4, 6]) c12_35
abbrev c12_37 : AC := .seq (.ops 0 [⟨(some 18), .mv (.t 4), none⟩, ⟨(some 19), .callp 30 0 [(.t 18)], none⟩, ⟨(some 5), .as 0 0 (.t 19), none⟩] [0, 3, 4, 5]) c12_36
abbrev c12_38 : AC := .seq (.ops 0 [⟨(some 15), .mv (.t 0), none⟩, ⟨(some 16), .bd [.str ⟨#[]⟩, .int .i64 0, .bool false] [(0, 1, (.t 15))], none⟩, ⟨(some 17), .bx (.t 16), none⟩, ⟨(some 4), .as 0 0 (.t 17), none⟩] [0, 3, 4]) c12_37
abbrev c12_39 : AC := .seq c12_2 c12_38
abbrev c12_40 : AC := .seq (.ops 0 [⟨(some 2), .as 52 9 (.k (.lf (.lst .nl 9 [] []))), none⟩, ⟨(some 3), .al [.int .i64 0, .int .i64 0], none⟩] [0, 3]) c12_39
abbrev c12 : AC := c12_40
theorem c12_ok : compileFn Tryd.prog 12 = some (82, AC.strip c12, [.t 2, .c 3 2 true]) := by kernel_rfl
/-- (*harrow/instr.source).next -/
abbrev c30_0 : AC := .seq (.ops 0 [⟨(some 2), .as 0 0 (.k (.lf (.int .i64 0))), none⟩] [2]) .ret
abbrev c30_1 : AC := .seq (.ops 0 [⟨(some 13), .mv (.t 0), none⟩, ⟨(some 14), .nc (.t 13), none⟩, ⟨(some 15), .fa (.t 14) 2, none⟩, ⟨none, .st (.t 15) (.k (.lf (.bool true))) 1, none⟩] []) c30_0
abbrev c30_2 : AC := .cond (.t 12) c30_1 .skip
abbrev c30_3 : AC := .seq (.ops 2 [⟨(some 3), .mv (.t 0), none⟩, ⟨(some 4), .nc (.t 3), none⟩, ⟨(some 5), .fa (.t 4) 1, none⟩, ⟨(some 6), .ld (.t 5) 1 false, none⟩, ⟨(some 7), .mv (.t 0), none⟩, ⟨(some 8), .nc (.t 7), none⟩, ⟨(some 9), .fa (.t 8) 0, none⟩, ⟨(some 10), .ld (.t 9) 1 false, none⟩, ⟨(some 11), .lns (.t 10), none⟩, ⟨(some 12), .bin .geq (.t 6) (.t 11), none⟩] [0, 12]) c30_2
abbrev c30_4 : AC := .seq (.ops 1 [⟨(some 23), .mv (.t 0), none⟩, ⟨(some 24), .nc (.t 23), none⟩, ⟨(some 25), .fa (.t 24) 0, none⟩, ⟨(some 26), .ld (.t 25) 1 false, none⟩, ⟨(some 27), .mv (.t 0), none⟩, ⟨(some 28), .nc (.t 27), none⟩, ⟨(some 29), .fa (.t 28) 1, none⟩, ⟨(some 30), .ld (.t 29) 1 false, none⟩, ⟨(some 31), .bin .sub (.t 30) (.k (.lf (.int .i64 1))), none⟩, ⟨(some 32), .ixs (.t 26) (.t 31), none⟩, ⟨(some 33), .cvi .i64 (.t 32), none⟩, ⟨(some 2), .as 0 0 (.t 33), none⟩] [2]) .ret
abbrev c30_5 : AC := .seq (.ops 0 [⟨(some 16), .mv (.t 0), none⟩, ⟨(some 17), .nc (.t 16), none⟩, ⟨(some 18), .fa (.t 17) 1, none⟩, ⟨(some 19), .ld (.t 18) 1 false, none⟩, ⟨(some 20), .bin .add (.t 19) (.k (.lf (.int .i64 1))), none⟩, ⟨(some 21), .nc (.t 16), none⟩, ⟨(some 22), .fa (.t 21) 1, none⟩, ⟨none, .st (.t 22) (.t 20) 1, none⟩] [0]) c30_4
abbrev c30_6 : AC := .seq c30_3 c30_5
abbrev c30_7 : AC := .seq (.ops 0 [⟨(some 2), .as 0 0 (.k (.lf (.int .i64 0))), none⟩] [0]) c30_6
abbrev c30 : AC := c30_7
theorem c30_ok : compileFn Tryd.prog 30 = some (34, AC.strip c30, [.t 2]) := by kernel_rfl
/-- (*harrow/instr.source).instr -/
abbrev c32_0 : AC := .seq (.ops 0 [⟨(some 12), .mv (.t 0), none⟩, ⟨(some 13), .callp 30 0 [(.t 12)], none⟩, ⟨(some 6), .as 0 0 (.t 13), none⟩] [0, 1, 4, 5, 6]) (.ops 0 [⟨(some 14), .mv (.t 6), none⟩, ⟨(some 15), .bin .shl (.t 14) (.k (.lf (.int .u64 8))), none⟩, ⟨(some 16), .mv (.t 0), none⟩, ⟨(some 17), .callp 30 0 [(.t 16)], none⟩, ⟨(some 18), .bin .or (.t 15) (.t 17), none⟩, ⟨(some 19), .cvi .i16 (.t 18), none⟩, ⟨(some 20), .cvi .i64 (.t 19), none⟩, ⟨(some 21), .fa (.t 5) 1, none⟩, ⟨none, .st (.t 21) (.t 20) 1, none⟩] [0, 1, 4, 5])
abbrev c32_1 : AC := .cond (.t 11) c32_0 .skip
abbrev c32_2 : AC := .seq (.ops 0 [⟨(some 10), .mv (.t 1), none⟩, ⟨(some 11), .call 50 [(.t 10), (.k (.lf (.int .i64 1)))], none⟩] [0, 1, 4, 5, 11]) c32_1
abbrev c32_3 : AC := .cond (.t 23) (.ops 0 [⟨(some 24), .mv (.t 0), none⟩, ⟨(some 25), .callp 30 0 [(.t 24)], none⟩, ⟨(some 26), .fa (.t 5) 2, none⟩, ⟨none, .st (.t 26) (.t 25) 1, none⟩] [0, 1, 4, 5]) .skip
abbrev c32_4 : AC := .seq (.ops 0 [⟨(some 22), .mv (.t 1), none⟩, ⟨(some 23), .call 50 [(.t 22), (.k (.lf (.int .i64 2)))], none⟩] [0, 1, 4, 5, 23]) c32_3
abbrev c32_5 : AC := .cond (.t 28) (.ops 0 [⟨(some 29), .mv (.t 0), none⟩, ⟨(some 30), .callp 30 0 [(.t 29)], none⟩, ⟨(some 31), .fa (.t 5) 3, none⟩, ⟨none, .st (.t 31) (.t 30) 1, none⟩] [0, 1, 4, 5]) .skip
abbrev c32_6 : AC := .seq (.ops 0 [⟨(some 27), .mv (.t 1), none⟩, ⟨(some 28), .call 50 [(.t 27), (.k (.lf (.int .i64 4)))], none⟩] [0, 1, 4, 5, 28]) c32_5
abbrev c32_7 : AC := .cond (.t 33) (.ops 0 [⟨(some 34), .mv (.t 0), none⟩, ⟨(some 35), .mv (.t 0), none⟩, ⟨(some 36), .callp 30 0 [(.t 35)], none⟩, ⟨(some 37), .callp 51 0 [(.t 34), (.t 36)], none⟩, ⟨(some 38), .fa (.t 5) 4, none⟩, ⟨none, .st (.t 38) (.t 37) 1, none⟩] [0, 1, 4, 5]) .skip
abbrev c32_8 : AC := .seq (.ops 0 [⟨(some 32), .mv (.t 1), none⟩, ⟨(some 33), .call 50 [(.t 32), (.k (.lf (.int .i64 8)))], none⟩] [0, 1, 4, 5, 33]) c32_7
abbrev c32_9 : AC := .cond (.t 42) .skip (.exit 0)
abbrev c32_10 : AC := .seq (.ops 0 [⟨(some 43), .mv (.t 41), none⟩, ⟨(some 7), .as 0 0 (.t 43), none⟩] [0, 4, 5, 7, 41]) (.drw (.t 0) [⟨(some 44), .mv (.t 7), none⟩, ⟨(some 45), .bin .quo (.t 44) (.k (.lf (.int .i64 8))), none⟩, ⟨(some 46), .fa (.t 5) 5, none⟩, ⟨(some 47), .iaa (.t 46) (.t 45) 4 1, none⟩, ⟨(some 48), .ld (.t 47) 1 false, none⟩, ⟨(some 49), .mv (.t 0), none⟩, ⟨(some 52), .mv (.t 7), none⟩, ⟨(some 53), .bin .rem (.t 52) (.k (.lf (.int .i64 8))), none⟩, ⟨(some 54), .bin .mul (.t 53) (.k (.lf (.int .i64 8))), none⟩, ⟨(some 57), .fa (.t 5) 5, none⟩] [⟨(some 50), .callp 30 0 [(.t 49)], none⟩, ⟨(some 51), .cvi .u64 (.t 50), none⟩, ⟨(some 55), .bin .shl (.t 51) (.t 54), none⟩, ⟨(some 56), .bin .or (.t 48) (.t 55), none⟩, ⟨(some 58), .iaa (.t 57) (.t 45) 4 1, none⟩, ⟨none, .st (.t 58) (.t 56) 1, none⟩] [0, 4, 5, 41])
abbrev c32_11 : AC := .block 1 c32_10
abbrev c32_12 : AC := .seq c32_11 (.ops 0 [⟨(some 59), .bin .add (.t 41) (.k (.lf (.int .i64 1))), none⟩, ⟨(some 41), .mv (.t 59), none⟩] [0, 4, 5, 41])
abbrev c32_13 : AC := .seq c32_9 c32_12
abbrev c32_14 : AC := .seq (.ops 0 [⟨(some 42), .bin .lss (.t 41) (.k (.lf (.int .i64 32))), none⟩] [0, 4, 5, 41, 42]) c32_13
abbrev c32_15 : AC := .loop c32_14 [0, 4, 5, 41]
abbrev c32_16 : AC := .block 0 c32_15
abbrev c32_17 : AC := .seq (.ops 0 [⟨(some 41), .mv (.k (.lf (.int .i64 0))), none⟩] [0, 4, 5, 41]) c32_16
abbrev c32_18 : AC := .cond (.t 40) c32_17 .skip
abbrev c32_19 : AC := .seq (.ops 0 [⟨(some 39), .mv (.t 1), none⟩, ⟨(some 40), .call 50 [(.t 39), (.k (.lf (.int .i64 16)))], none⟩] [0, 4, 5, 40]) c32_18
abbrev c32_20 : AC := .seq (.ops 0 [⟨(some 60), .ld (.t 5) 9 true, none⟩, ⟨none, .st (.t 4) (.t 60) 9, none⟩] [4]) .ret
abbrev c32_21 : AC := .seq c32_19 c32_20
abbrev c32_22 : AC := .seq c32_8 c32_21
abbrev c32_23 : AC := .seq c32_6 c32_22
abbrev c32_24 : AC := .seq c32_4 c32_23
abbrev c32_25 : AC := .seq c32_2 c32_24
abbrev c32_26 : AC := .seq (.ops 0 [⟨(some 8), .mv (.t 1), none⟩, ⟨(some 9), .bd [.int .i64 0, .int .i64 0, .int .i64 0, .int .i64 0, .str ⟨#[]⟩, .int .u64 0, .int .u64 0, .int .u64 0, .int .u64 0] [(0, 1, (.t 8))], none⟩, ⟨(some 5), .al [.int .i64 0, .int .i64 0, .int .i64 0, .int .i64 0, .str ⟨#[]⟩, .int .u64 0, .int .u64 0, .int .u64 0, .int .u64 0], none⟩, ⟨none, .st (.t 5) (.t 9) 9, none⟩] [0, 1, 4, 5]) c32_25
abbrev c32_27 : AC := .seq (.ops 0 [⟨(some 4), .al [.int .i64 0, .int .i64 0, .int .i64 0, .int .i64 0, .str ⟨#[]⟩, .int .u64 0, .int .u64 0, .int .u64 0, .int .u64 0], none⟩] [0, 1, 4]) c32_26
abbrev c32 : AC := c32_27
theorem c32_ok : compileFn Tryd.prog 32 = some (61, AC.strip c32, [.c 4 9 true]) := by kernel_rfl
/-- harrow/instr.checked -/
abbrev c33_0 : AC := .seq (.ops 0 [⟨(some 16), .mv (.t 0), none⟩, ⟨(some 17), .bd [.int .i64 0, .int .i64 0] [], none⟩, ⟨(some 4), .as 52 9 (.t 16), none⟩, ⟨none, .st (.t 5) (.t 17) 2, none⟩] [4, 5]) .ret
abbrev c33_1 : AC := .cond (.t 18) .skip (.ops 0 [⟨(some 20), .bin .eql (.t 13) (.k (.lf (.int .i64 3))), none⟩, ⟨(some 18), .as 0 0 (.t 20), none⟩] [1, 5, 6, 7, 18])
abbrev c33_2 : AC := .seq (.ops 0 [⟨(some 19), .bin .eql (.t 13) (.k (.lf (.int .i64 2))), none⟩, ⟨(some 18), .as 0 0 (.t 19), none⟩] [1, 5, 6, 7, 13, 18]) c33_1
abbrev c33_3 : AC := .seq (.ops 0 [⟨(some 21), .mv (.t 7), none⟩, ⟨(some 22), .bd [.int .i64 0, .int .i64 0] [(1, 1, (.t 21))], none⟩, ⟨(some 4), .as 52 9 (.k (.lf (.lst .nl 9 [] []))), none⟩, ⟨none, .st (.t 5) (.t 22) 2, none⟩] [4, 5]) .ret
abbrev c33_4 : AC := .cond (.t 18) c33_3 .skip
abbrev c33_5 : AC := .seq c33_2 c33_4
abbrev c33_6 : AC := .cond (.t 14) c33_0 c33_5
abbrev c33_7 : AC := .seq (.ops 0 [⟨(some 15), .bin .eql (.t 13) (.k (.lf (.int .i64 0))), none⟩, ⟨(some 14), .as 0 0 (.t 15), none⟩] [0, 1, 5, 6, 7, 13, 14]) c33_6
abbrev c33_8 : AC := .block 0 c33_7
abbrev c33_9 : AC := .seq (.ops 0 [⟨(some 13), .mv (.t 7), none⟩] [0, 1, 5, 6, 7, 13]) c33_8
abbrev c33_10 : AC := .seq (.ops 1 [⟨(some 23), .mv (.t 1), none⟩, ⟨(some 24), .mv (.t 6), none⟩, ⟨(some 25), .ia (.t 23) (.t 24) 1, none⟩, ⟨(some 26), .ld (.t 25) 1 false, none⟩, ⟨(some 27), .mv (.t 7), none⟩, ⟨(some 28), .bd [.int .i64 0, .int .i64 0] [(0, 1, (.t 26)), (1, 1, (.t 27))], none⟩, ⟨(some 4), .as 52 9 (.k (.lf (.lst .nl 9 [] []))), none⟩, ⟨none, .st (.t 5) (.t 28) 2, none⟩] [4, 5]) .ret
abbrev c33_11 : AC := .seq c33_9 c33_10
abbrev c33_12 : AC := .seq (.ops 0 [⟨(some 9), .mv (.t 0), none⟩, ⟨(some 10), .call 28 [(.t 9)], none⟩, ⟨(some 8), .mv (.t 10), none⟩, ⟨(some 11), .ext (.t 8) 0, none⟩, ⟨(some 12), .ext (.t 8) 1, none⟩, ⟨(some 6), .as 0 0 (.t 11), none⟩, ⟨(some 7), .as 0 0 (.t 12), none⟩] [0, 1, 5, 6, 7]) c33_11
abbrev c33_13 : AC := .seq (.ops 0 [⟨(some 4), .as 52 9 (.k (.lf (.lst .nl 9 [] []))), none⟩, ⟨(some 5), .al [.int .i64 0, .int .i64 0], none⟩] [0, 1, 5]) c33_12
abbrev c33 : AC := c33_13
theorem c33_ok : compileFn Tryd.prog 33 = some (29, AC.strip c33, [.t 4, .c 5 2 true]) := by kernel_rfl
/-- (*harrow/instr.source).text -/
abbrev c51_0 : AC := .seq (.ops 0 [⟨(some 4), .as 0 0 (.k (.lf (.str ⟨#[]⟩))), none⟩] [4]) .ret
abbrev c51_1 : AC := .seq (.ops 0 [⟨(some 17), .mv (.t 0), none⟩, ⟨(some 18), .nc (.t 17), none⟩, ⟨(some 19), .fa (.t 18) 2, none⟩, ⟨none, .st (.t 19) (.k (.lf (.bool true))) 1, none⟩] []) c51_0
abbrev c51_2 : AC := .cond (.t 16) c51_1 .skip
abbrev c51_3 : AC := .seq (.ops 2 [⟨(some 5), .mv (.t 1), none⟩, ⟨(some 6), .mv (.t 0), none⟩, ⟨(some 7), .nc (.t 6), none⟩, ⟨(some 8), .fa (.t 7) 0, none⟩, ⟨(some 9), .ld (.t 8) 1 false, none⟩, ⟨(some 10), .lns (.t 9), none⟩, ⟨(some 11), .mv (.t 0), none⟩, ⟨(some 12), .nc (.t 11), none⟩, ⟨(some 13), .fa (.t 12) 1, none⟩, ⟨(some 14), .ld (.t 13) 1 false, none⟩, ⟨(some 15), .bin .sub (.t 10) (.t 14), none⟩, ⟨(some 16), .bin .gtr (.t 5) (.t 15), none⟩] [0, 1, 16]) c51_2
abbrev c51_4 : AC := .seq (.ops 1 [⟨(some 28), .mv (.t 0), none⟩, ⟨(some 29), .nc (.t 28), none⟩, ⟨(some 30), .fa (.t 29) 0, none⟩, ⟨(some 31), .ld (.t 30) 1 false, none⟩, ⟨(some 32), .mv (.t 0), none⟩, ⟨(some 33), .nc (.t 32), none⟩, ⟨(some 34), .fa (.t 33) 1, none⟩, ⟨(some 35), .ld (.t 34) 1 false, none⟩, ⟨(some 36), .mv (.t 1), none⟩, ⟨(some 37), .bin .sub (.t 35) (.t 36), none⟩, ⟨(some 38), .mv (.t 0), none⟩, ⟨(some 39), .nc (.t 38), none⟩, ⟨(some 40), .fa (.t 39) 1, none⟩, ⟨(some 41), .ld (.t 40) 1 false, none⟩, ⟨(some 42), .sls (.t 31) (some (.t 37)) (some (.t 41)), none⟩, ⟨(some 4), .as 0 0 (.t 42), none⟩] [4]) .ret
abbrev c51_5 : AC := .seq (.ops 0 [⟨(some 20), .mv (.t 0), none⟩, ⟨(some 21), .nc (.t 20), none⟩, ⟨(some 22), .fa (.t 21) 1, none⟩, ⟨(some 23), .ld (.t 22) 1 false, none⟩, ⟨(some 24), .mv (.t 1), none⟩, ⟨(some 25), .bin .add (.t 23) (.t 24), none⟩, ⟨(some 26), .nc (.t 20), none⟩, ⟨(some 27), .fa (.t 26) 1, none⟩, ⟨none, .st (.t 27) (.t 25) 1, none⟩] [0, 1]) c51_4
abbrev c51_6 : AC := .seq c51_3 c51_5
abbrev c51_7 : AC := .seq (.ops 0 [⟨(some 4), .as 0 0 (.k (.lf (.str ⟨#[]⟩))), none⟩] [0, 1]) c51_6
abbrev c51 : AC := c51_7
theorem c51_ok : compileFn Tryd.prog 51 = some (43, AC.strip c51, [.t 4]) := by kernel_rfl
end Go.Proofs.YthcpaohmajjopaaDoor.I
