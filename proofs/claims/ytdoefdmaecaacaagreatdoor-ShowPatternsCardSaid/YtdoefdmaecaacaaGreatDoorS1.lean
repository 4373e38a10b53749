/- Contracts, part S1. -/
import Derived.Test.YtdoefdmaecaacaaGreatDoorProg
import Derived.Test.YtdoefdmaecaacaaGreatDoorAmLeaf2
import Derived.Test.YtdoefdmaecaacaaGreatDoorAmOpen
set_option maxRecDepth 100000
namespace Go.Proofs.YtdoefdmaecaacaaGreatDoor.S
open Go Go.Proofs.YtdoefdmaecaacaaGreatDoor.AM
abbrev c32_0 : AC := .seq (.ops 0 [⟨some 18,.mv (.t 0),none⟩,⟨some 19,.nc (.t 18),none⟩,⟨some 20,.fa (.t 19) 2,none⟩,⟨none,.st (.t 20) (.k (.lf (.bool true))) 1,none⟩] []) .ret
abbrev c32_1 : AC := .cond (.t 17) c32_0 .skip
abbrev c32_2 : AC := .seq (.ops 0 [⟨some 4,.mv (.t 0),none⟩,⟨some 5,.nc (.t 4),none⟩,⟨some 6,.fa (.t 5) 2,none⟩,⟨some 7,.ld (.t 6) 1 false,none⟩,⟨some 8,.mv (.t 7),none⟩,⟨some 9,.mv (.t 0),some (8,false)⟩,⟨some 10,.nc (.t 9),some (8,false)⟩,⟨some 11,.fa (.t 10) 0,some (8,false)⟩,⟨some 12,.callp 57 0 [(.t 11)],some (8,false)⟩,⟨some 13,.mv (.t 1),some (8,false)⟩,⟨some 14,.lns (.t 13),some (8,false)⟩,⟨some 15,.bin .add (.t 12) (.t 14),some (8,false)⟩,⟨some 16,.bin .gtr (.t 15) (.k (.lf (.int .i64 65536))),some (8,false)⟩,⟨some 17,.pk (.t 8) (.k (.lf (.bool true))) (.t 16),none⟩] [0,1,17]) c32_1
abbrev c32_3 : AC := .seq c32_2 (.ops 0 [⟨some 21,.mv (.t 0),none⟩,⟨some 22,.nc (.t 21),none⟩,⟨some 23,.fa (.t 22) 0,none⟩,⟨some 24,.mv (.t 1),none⟩,⟨some 25,.callp 58 0 [(.t 23),(.t 24)],none⟩] [])
abbrev c32 : AC := c32_3
theorem c32_ok : compileFn Tryz.prog 32 = some (26, AC.strip c32, []) := by kernel_rfl
abbrev c22_0 : AC := .cond (.t 11) .ret .skip
abbrev c22_1 : AC := .seq (.ops 0 [⟨some 8,.mv (.t 0),none⟩,⟨some 9,.nc (.t 8),none⟩,⟨some 10,.fa (.t 9) 2,none⟩,⟨some 11,.ld (.t 10) 1 false,none⟩] [0,1,4,11]) c22_0
abbrev c22_2 : AC := .cond (.t 79) (.ops 0 [⟨some 80,.mv (.t 1),none⟩,⟨some 81,.nc (.t 80),none⟩,⟨some 82,.fa (.t 81) 0,none⟩,⟨some 83,.fa (.t 82) 2,none⟩,⟨some 84,.ld (.t 83) 1 false,none⟩,⟨some 85,.bin .add (.t 84) (.k (.lf (.str ⟨#[58]⟩))),none⟩,⟨some 5,.as 0 0 (.t 85),none⟩] [0,1,5]) .skip
abbrev c22_3 : AC := .seq (.ops 0 [⟨some 74,.mv (.t 1),none⟩,⟨some 75,.nc (.t 74),none⟩,⟨some 76,.fa (.t 75) 0,none⟩,⟨some 77,.fa (.t 76) 2,none⟩,⟨some 78,.ld (.t 77) 1 false,none⟩,⟨some 79,.bin .neq (.t 78) (.k (.lf (.str ⟨#[]⟩))),none⟩] [0,1,5,79]) c22_2
abbrev c22_4 : AC := .seq c22_3 (.ops 0 [⟨some 86,.mv (.t 0),none⟩,⟨some 87,.mv (.t 5),none⟩,⟨some 88,.bin .add (.k (.lf (.str ⟨#[123,58]⟩))) (.t 87),none⟩,⟨some 89,.bin .add (.t 88) (.k (.lf (.str ⟨#[32]⟩))),none⟩,⟨some 90,.mv (.t 1),none⟩,⟨some 91,.callp 37 0 [(.t 86),(.t 89),(.t 90),(.k (.lf (.int .i64 0))),(.k (.lf (.str ⟨#[32,58,125]⟩)))],none⟩] [])
abbrev c22_5 : AC := .seq (.ops 0 [⟨some 5,.as 0 0 (.k (.lf (.str ⟨#[]⟩))),none⟩] [0,1,5]) c22_4
abbrev c22_6 : AC := .cond (.t 117) (.ops 0 [⟨some 119,.mv (.t 0),none⟩,⟨some 120,.mv (.t 1),none⟩,⟨some 121,.callp 37 0 [(.t 119),(.k (.lf (.str ⟨#[33]⟩))),(.t 120),(.k (.lf (.int .i64 2))),(.k (.lf (.str ⟨#[]⟩)))],none⟩] []) (.ops 0 [⟨some 17,.mv (.t 0),none⟩,⟨some 18,.mv (.t 1),none⟩,⟨some 19,.mv (.t 1),none⟩,⟨some 20,.callp 39 0 [(.t 19)],none⟩,⟨some 21,.callp 37 0 [(.t 17),(.k (.lf (.str ⟨#[]⟩))),(.t 18),(.k (.lf (.int .i64 3))),(.t 20)],none⟩] [])
abbrev c22_7 : AC := .seq (.ops 0 [⟨some 118,.bin .eql (.t 16) (.k (.lf (.int .i64 13))),none⟩,⟨some 117,.as 0 0 (.t 118),none⟩] [0,1,117]) c22_6
abbrev c22_8 : AC := .cond (.t 112) (.ops 0 [⟨some 114,.mv (.t 0),none⟩,⟨some 115,.mv (.t 1),none⟩,⟨some 116,.callp 37 0 [(.t 114),(.k (.lf (.str ⟨#[38]⟩))),(.t 115),(.k (.lf (.int .i64 2))),(.k (.lf (.str ⟨#[]⟩)))],none⟩] []) c22_7
abbrev c22_9 : AC := .seq (.ops 0 [⟨some 113,.bin .eql (.t 16) (.k (.lf (.int .i64 12))),none⟩,⟨some 112,.as 0 0 (.t 113),none⟩] [0,1,16,112]) c22_8
abbrev c22_10 : AC := .cond (.t 107) (.ops 0 [⟨some 109,.mv (.t 0),none⟩,⟨some 110,.mv (.t 1),none⟩,⟨some 111,.callp 38 0 [(.t 109),(.t 110),(.k (.lf (.int .i64 0))),(.k (.lf (.str ⟨#[32,47,32]⟩)))],none⟩] []) c22_9
abbrev c22_11 : AC := .seq (.ops 0 [⟨some 108,.bin .eql (.t 16) (.k (.lf (.int .i64 8))),none⟩,⟨some 107,.as 0 0 (.t 108),none⟩] [0,1,16,107]) c22_10
abbrev c22_12 : AC := .cond (.t 102) (.ops 0 [⟨some 104,.mv (.t 0),none⟩,⟨some 105,.mv (.t 1),none⟩,⟨some 106,.callp 38 0 [(.t 104),(.t 105),(.k (.lf (.int .i64 1))),(.k (.lf (.str ⟨#[32]⟩)))],none⟩] []) c22_11
abbrev c22_13 : AC := .seq (.ops 0 [⟨some 103,.bin .eql (.t 16) (.k (.lf (.int .i64 7))),none⟩,⟨some 102,.as 0 0 (.t 103),none⟩] [0,1,16,102]) c22_12
abbrev c22_14 : AC := .cond (.t 97) (.ops 0 [⟨some 99,.mv (.t 0),none⟩,⟨some 100,.mv (.t 1),none⟩,⟨some 101,.callp 37 0 [(.t 99),(.k (.lf (.str ⟨#[123,126,32]⟩))),(.t 100),(.k (.lf (.int .i64 0))),(.k (.lf (.str ⟨#[32,126,125]⟩)))],none⟩] []) c22_13
abbrev c22_15 : AC := .seq (.ops 0 [⟨some 98,.bin .eql (.t 16) (.k (.lf (.int .i64 21))),none⟩,⟨some 97,.as 0 0 (.t 98),none⟩] [0,1,16,97]) c22_14
abbrev c22_16 : AC := .cond (.t 92) (.ops 0 [⟨some 94,.mv (.t 0),none⟩,⟨some 95,.mv (.t 1),none⟩,⟨some 96,.callp 37 0 [(.t 94),(.k (.lf (.str ⟨#[123,124,32]⟩))),(.t 95),(.k (.lf (.int .i64 0))),(.k (.lf (.str ⟨#[32,124,125]⟩)))],none⟩] []) c22_15
abbrev c22_17 : AC := .seq (.ops 0 [⟨some 93,.bin .eql (.t 16) (.k (.lf (.int .i64 20))),none⟩,⟨some 92,.as 0 0 (.t 93),none⟩] [0,1,16,92]) c22_16
abbrev c22_18 : AC := .cond (.t 72) c22_5 c22_17
abbrev c22_19 : AC := .seq (.ops 0 [⟨some 73,.bin .eql (.t 16) (.k (.lf (.int .i64 19))),none⟩,⟨some 72,.as 0 0 (.t 73),none⟩] [0,1,16,72]) c22_18
abbrev c22_20 : AC := .cond (.t 67) (.ops 0 [⟨some 69,.mv (.t 0),none⟩,⟨some 70,.mv (.t 1),none⟩,⟨some 71,.callp 37 0 [(.t 69),(.k (.lf (.str ⟨#[123]⟩))),(.t 70),(.k (.lf (.int .i64 0))),(.k (.lf (.str ⟨#[125]⟩)))],none⟩] []) c22_19
abbrev c22_21 : AC := .seq (.ops 0 [⟨some 68,.bin .eql (.t 16) (.k (.lf (.int .i64 18))),none⟩,⟨some 67,.as 0 0 (.t 68),none⟩] [0,1,16,67]) c22_20
abbrev c22_22 : AC := .cond (.t 58) (.ops 0 [⟨some 60,.mv (.t 4),none⟩,⟨some 61,.mv (.t 1),none⟩,⟨some 62,.nc (.t 61),none⟩,⟨some 63,.fa (.t 62) 0,none⟩,⟨some 64,.fa (.t 63) 2,none⟩,⟨some 65,.ld (.t 64) 1 false,none⟩,⟨some 66,.cald (.t 60) [(.t 65)],none⟩] []) c22_21
abbrev c22_23 : AC := .seq (.ops 0 [⟨some 59,.bin .eql (.t 16) (.k (.lf (.int .i64 6))),none⟩,⟨some 58,.as 0 0 (.t 59),none⟩] [0,1,4,16,58]) c22_22
abbrev c22_24 : AC := .cond (.t 48) (.ops 0 [⟨some 50,.mv (.t 4),none⟩,⟨some 51,.mv (.t 1),none⟩,⟨some 52,.nc (.t 51),none⟩,⟨some 53,.fa (.t 52) 0,none⟩,⟨some 54,.fa (.t 53) 3,none⟩,⟨some 55,.ld (.t 54) 4 true,none⟩,⟨some 56,.call 36 [(.t 55)],none⟩,⟨some 57,.cald (.t 50) [(.t 56)],none⟩] []) c22_23
abbrev c22_25 : AC := .seq (.ops 0 [⟨some 49,.bin .eql (.t 16) (.k (.lf (.int .i64 5))),none⟩,⟨some 48,.as 0 0 (.t 49),none⟩] [0,1,4,16,48]) c22_24
abbrev c22_26 : AC := .cond (.t 38) (.ops 0 [⟨some 40,.mv (.t 4),none⟩,⟨some 41,.mv (.t 1),none⟩,⟨some 42,.nc (.t 41),none⟩,⟨some 43,.fa (.t 42) 0,none⟩,⟨some 44,.fa (.t 43) 2,none⟩,⟨some 45,.ld (.t 44) 1 false,none⟩,⟨some 46,.call 35 [(.t 45)],none⟩,⟨some 47,.cald (.t 40) [(.t 46)],none⟩] []) c22_25
abbrev c22_27 : AC := .seq (.ops 0 [⟨some 39,.bin .eql (.t 16) (.k (.lf (.int .i64 4))),none⟩,⟨some 38,.as 0 0 (.t 39),none⟩] [0,1,4,16,38]) c22_26
abbrev c22_28 : AC := .cond (.t 34) (.ops 0 [⟨some 36,.mv (.t 4),none⟩,⟨some 37,.cald (.t 36) [(.k (.lf (.str ⟨#[123,125]⟩)))],none⟩] []) c22_27
abbrev c22_29 : AC := .seq (.ops 0 [⟨some 35,.bin .eql (.t 16) (.k (.lf (.int .i64 17))),none⟩,⟨some 34,.as 0 0 (.t 35),none⟩] [0,1,4,16,34]) c22_28
abbrev c22_30 : AC := .cond (.t 30) (.ops 0 [⟨some 32,.mv (.t 4),none⟩,⟨some 33,.cald (.t 32) [(.k (.lf (.str ⟨#[46]⟩)))],none⟩] []) c22_29
abbrev c22_31 : AC := .seq (.ops 0 [⟨some 31,.bin .eql (.t 16) (.k (.lf (.int .i64 3))),none⟩,⟨some 30,.as 0 0 (.t 31),none⟩] [0,1,4,16,30]) c22_30
abbrev c22_32 : AC := .cond (.t 26) (.ops 0 [⟨some 28,.mv (.t 4),none⟩,⟨some 29,.cald (.t 28) [(.k (.lf (.str ⟨#[37,102]⟩)))],none⟩] []) c22_31
abbrev c22_33 : AC := .seq (.ops 0 [⟨some 27,.bin .eql (.t 16) (.k (.lf (.int .i64 2))),none⟩,⟨some 26,.as 0 0 (.t 27),none⟩] [0,1,4,16,26]) c22_32
abbrev c22_34 : AC := .cond (.t 22) (.ops 0 [⟨some 24,.mv (.t 4),none⟩,⟨some 25,.cald (.t 24) [(.k (.lf (.str ⟨#[37,101]⟩)))],none⟩] []) c22_33
abbrev c22_35 : AC := .seq (.ops 0 [⟨some 23,.bin .eql (.t 16) (.k (.lf (.int .i64 1))),none⟩,⟨some 22,.as 0 0 (.t 23),none⟩] [0,1,4,16,22]) c22_34
abbrev c22_36 : AC := .block 0 c22_35
abbrev c22_37 : AC := .seq (.ops 0 [⟨some 12,.mv (.t 1),none⟩,⟨some 13,.nc (.t 12),none⟩,⟨some 14,.fa (.t 13) 0,none⟩,⟨some 15,.fa (.t 14) 0,none⟩,⟨some 16,.ld (.t 15) 1 false,none⟩] [0,1,4,16]) c22_36
abbrev c22_38 : AC := .seq c22_1 c22_37
abbrev c22_39 : AC := .seq (.ops 0 [⟨some 6,.mv (.t 0),none⟩,⟨some 7,.mkf 32 [(.t 6)] [],none⟩,⟨some 4,.as 0 0 (.t 7),none⟩] [0,1,4]) c22_38
abbrev c22 : AC := c22_39
theorem c22_ok : compileFn Tryz.prog 22 = some (122, AC.strip c22, []) := by kernel_rfl
abbrev c23_0 : AC := .cond (.t 11) .skip (.exit 0)
abbrev c23_1 : AC := .seq (.gdq [⟨some 23,.mv (.t 6),none⟩,⟨some 24,.mv (.t 6),none⟩,⟨some 25,.nc (.t 24),none⟩,⟨some 26,.fa (.t 25) 7,none⟩,⟨some 27,.ld (.t 26) 1 false,none⟩,⟨some 28,.mv (.t 3),none⟩,⟨some 29,.mv (.t 7),none⟩] [⟨some 30,.sll 1 (.t 28) (some (.t 29)) none,none⟩,⟨some 31,.app 60 1 8 (.t 27) (.t 30),none⟩,⟨some 32,.nc (.t 23),none⟩,⟨some 33,.fa (.t 32) 7,none⟩,⟨none,.st (.t 33) (.t 31) 1,none⟩] [3,6,7,8,9,10]) (.ops 0 [⟨some 34,.mv (.t 3),none⟩,⟨some 35,.mv (.t 7),none⟩,⟨some 36,.sll 1 (.t 34) none (some (.t 35)),none⟩,⟨some 37,.mv (.t 6),none⟩,⟨some 38,.bsf 60 1 1 [.nilp] [(0,(.t 37))],none⟩,⟨some 39,.app 60 1 8 (.t 36) (.t 38),none⟩,⟨some 3,.as 60 1 (.t 39),none⟩] [3,8,9,10])
abbrev c23_2 : AC := .seq (.ops 0 [⟨some 17,.mv (.t 3),none⟩,⟨some 18,.len (.t 17),none⟩,⟨some 19,.fa (.t 5) 0,none⟩,⟨some 20,.ld (.t 19) 1 false,none⟩,⟨some 21,.call 40 [(.t 20)],none⟩,⟨some 22,.bin .sub (.t 18) (.t 21),none⟩,⟨some 7,.as 0 0 (.t 22),none⟩] [3,6,7,8,9,10]) c23_1
abbrev c23_3 : AC := .seq (.ops 0 [⟨some 14,.ld (.t 5) 7 true,none⟩,⟨some 15,.bd [.int .i64 0,.int .i64 0,.str ⟨#[]⟩,.int .u64 0,.int .u64 0,.int .u64 0,.int .u64 0,.lst .nl 1 [] []] [(0,7,(.t 14))],none⟩,⟨some 16,.bx (.t 15),none⟩,⟨some 6,.as 0 0 (.t 16),none⟩] [3,5,6,8,9,10]) c23_2
abbrev c23_4 : AC := .seq (.ops 0 [⟨some 12,.ia (.t 8) (.t 10) 7,none⟩,⟨some 13,.ld (.t 12) 7 true,none⟩,⟨some 5,.al [.int .i64 0,.int .i64 0,.str ⟨#[]⟩,.int .u64 0,.int .u64 0,.int .u64 0,.int .u64 0],none⟩,⟨none,.st (.t 5) (.t 13) 7,none⟩] [3,5,8,9,10]) c23_3
abbrev c23_5 : AC := .block 1 c23_4
abbrev c23_6 : AC := .seq c23_5 (.ops 0 [⟨some 40,.bin .add (.t 10) (.k (.lf (.int .i64 1))),none⟩,⟨some 10,.mv (.t 40),none⟩] [3,8,9,10])
abbrev c23_7 : AC := .seq c23_0 c23_6
abbrev c23_8 : AC := .seq (.ops 0 [⟨some 11,.bin .lss (.t 10) (.t 9),none⟩] [3,8,9,10,11]) c23_7
abbrev c23_9 : AC := .loop c23_8 [3,8,9,10]
abbrev c23_10 : AC := .block 0 c23_9
abbrev c23_11 : AC := .seq (.ops 0 [⟨some 8,.mv (.t 0),none⟩,⟨some 9,.len (.t 8),none⟩,⟨some 10,.mv (.k (.lf (.int .i64 0))),none⟩] [3,8,9,10]) c23_10
abbrev c23_12 : AC := .seq (.ops 0 [⟨some 41,.mv (.t 3),none⟩,⟨some 42,.ia (.t 41) (.k (.lf (.int .i64 0))) 1,none⟩,⟨some 43,.ld (.t 42) 1 false,none⟩,⟨some 2,.as 0 0 (.t 43),none⟩] [2]) .ret
abbrev c23_13 : AC := .seq c23_11 c23_12
abbrev c23_14 : AC := .seq (.ops 0 [⟨some 3,.as 60 1 (.k (.lf (.lst .nl 1 [] []))),none⟩] [0,3]) c23_13
abbrev c23_15 : AC := .seq (.ops 0 [⟨some 2,.as 0 0 (.k (.lf (.nilp))),none⟩] [0]) c23_14
abbrev c23 : AC := c23_15
theorem c23_ok : compileFn Tryz.prog 23 = some (44, AC.strip c23, [.t 2]) := by kernel_rfl
abbrev c24_0 : AC := .seq (.ops 0 [⟨some 2,.as 0 0 (.k (.lf (.str ⟨#[]⟩))),none⟩,⟨some 3,.as 0 0 (.k (.lf (.int .i64 2))),none⟩] [2,3]) .ret
abbrev c24_1 : AC := .cond (.t 7) c24_0 .skip
abbrev c24_2 : AC := .seq (.ops 0 [⟨some 4,.mv (.t 0),none⟩,⟨some 5,.nc (.t 4),none⟩,⟨some 6,.fa (.t 5) 2,none⟩,⟨some 7,.ld (.t 6) 1 false,none⟩] [0,7]) c24_1
abbrev c24_3 : AC := .seq (.ops 0 [⟨some 8,.mv (.t 0),none⟩,⟨some 9,.nc (.t 8),none⟩,⟨some 10,.fa (.t 9) 0,none⟩,⟨some 11,.callp 41 0 [(.t 10)],none⟩,⟨some 2,.as 0 0 (.t 11),none⟩,⟨some 3,.as 0 0 (.k (.lf (.int .i64 0))),none⟩] [2,3]) .ret
abbrev c24_4 : AC := .seq c24_2 c24_3
abbrev c24_5 : AC := .seq (.ops 0 [⟨some 2,.as 0 0 (.k (.lf (.str ⟨#[]⟩))),none⟩,⟨some 3,.as 0 0 (.k (.lf (.int .i64 0))),none⟩] [0]) c24_4
abbrev c24 : AC := c24_5
theorem c24_ok : compileFn Tryz.prog 24 = some (12, AC.strip c24, [.t 2, .t 3]) := by kernel_rfl
abbrev c37_0 : AC := .seq (.ops 0 [⟨some 13,.mv (.t 0),none⟩,⟨some 14,.mv (.t 2),none⟩,⟨some 15,.nc (.t 14),none⟩,⟨some 16,.fa (.t 15) 7,none⟩,⟨some 17,.ld (.t 16) 1 false,none⟩,⟨some 18,.ia (.t 17) (.k (.lf (.int .i64 0))) 1,none⟩,⟨some 19,.ld (.t 18) 1 false,none⟩,⟨some 20,.mv (.t 3),none⟩,⟨some 21,.callp 64 0 [(.t 13),(.t 19),(.t 20)],none⟩] [0,4]) (.ops 0 [⟨some 22,.mv (.t 0),none⟩,⟨some 23,.mv (.t 4),none⟩,⟨some 24,.callp 32 0 [(.t 22),(.t 23)],none⟩] [])
abbrev c37_1 : AC := .seq (.ops 0 [⟨some 10,.mv (.t 0),none⟩,⟨some 11,.mv (.t 1),none⟩,⟨some 12,.callp 32 0 [(.t 10),(.t 11)],none⟩] [0,2,3,4]) c37_0
abbrev c37 : AC := c37_1
theorem c37_ok : compileFn Tryz.prog 37 = some (25, AC.strip c37, []) := by kernel_rfl
abbrev c38_0 : AC := .cond (.t 22) .skip (.exit 0)
abbrev c38_1 : AC := .seq (.ops 2 [⟨some 12,.mv (.t 9),none⟩,⟨some 13,.nc (.t 12),none⟩,⟨some 14,.fa (.t 13) 0,none⟩,⟨some 15,.fa (.t 14) 0,none⟩,⟨some 16,.ld (.t 15) 1 false,none⟩,⟨some 17,.mv (.t 1),none⟩,⟨some 18,.nc (.t 17),none⟩,⟨some 19,.fa (.t 18) 0,none⟩,⟨some 20,.fa (.t 19) 0,none⟩,⟨some 21,.ld (.t 20) 1 false,none⟩,⟨some 22,.bin .eql (.t 16) (.t 21),none⟩] [0,1,2,3,8,9,22]) c38_0
abbrev c38_2 : AC := .seq (.ops 0 [⟨some 23,.mv (.t 8),none⟩,⟨some 24,.mv (.t 9),none⟩,⟨some 25,.nc (.t 24),none⟩,⟨some 26,.fa (.t 25) 7,none⟩,⟨some 27,.ld (.t 26) 1 false,none⟩,⟨some 28,.ia (.t 27) (.k (.lf (.int .i64 1))) 1,none⟩,⟨some 29,.ld (.t 28) 1 false,none⟩,⟨some 30,.bsf 60 1 1 [.nilp] [(0,(.t 29))],none⟩,⟨some 31,.app 60 1 8 (.t 23) (.t 30),none⟩,⟨some 8,.as 60 1 (.t 31),none⟩] [0,1,2,3,8,9]) (.ops 0 [⟨some 32,.mv (.t 9),none⟩,⟨some 33,.nc (.t 32),none⟩,⟨some 34,.fa (.t 33) 7,none⟩,⟨some 35,.ld (.t 34) 1 false,none⟩,⟨some 36,.ia (.t 35) (.k (.lf (.int .i64 0))) 1,none⟩,⟨some 37,.ld (.t 36) 1 false,none⟩,⟨some 9,.as 0 0 (.t 37),none⟩] [0,1,2,3,8,9])
abbrev c38_3 : AC := .block 1 c38_2
abbrev c38_4 : AC := .seq c38_1 c38_3
abbrev c38_5 : AC := .loop c38_4 [0,1,2,3,8,9]
abbrev c38_6 : AC := .block 0 c38_5
abbrev c38_7 : AC := .cond (.t 46) .skip (.exit 2)
abbrev c38_8 : AC := .seq (.ops 0 [⟨some 45,.mv (.t 10),none⟩,⟨some 46,.bin .geq (.t 45) (.k (.lf (.int .i64 0))),none⟩] [0,2,3,8,10,46]) c38_7
abbrev c38_9 : AC := .seq (.ops 0 [⟨some 49,.mv (.t 0),none⟩,⟨some 50,.mv (.t 3),none⟩,⟨some 51,.callp 32 0 [(.t 49),(.t 50)],none⟩] [0,2,3,8,10]) (.ops 0 [⟨some 52,.mv (.t 0),none⟩,⟨some 53,.mv (.t 8),none⟩,⟨some 54,.mv (.t 10),none⟩,⟨some 55,.ia (.t 53) (.t 54) 1,none⟩,⟨some 56,.ld (.t 55) 1 false,none⟩,⟨some 57,.mv (.t 2),none⟩,⟨some 58,.bin .add (.t 57) (.k (.lf (.int .i64 1))),none⟩,⟨some 59,.callp 64 0 [(.t 52),(.t 56),(.t 58)],none⟩] [0,2,3,8,10])
abbrev c38_10 : AC := .block 3 c38_9
abbrev c38_11 : AC := .seq c38_10 (.ops 0 [⟨some 47,.mv (.t 10),none⟩,⟨some 48,.bin .sub (.t 47) (.k (.lf (.int .i64 1))),none⟩,⟨some 10,.as 0 0 (.t 48),none⟩] [0,2,3,8,10])
abbrev c38_12 : AC := .seq c38_8 c38_11
abbrev c38_13 : AC := .loop c38_12 [0,2,3,8,10]
abbrev c38_14 : AC := .block 2 c38_13
abbrev c38_15 : AC := .seq (.ops 0 [⟨some 42,.mv (.t 8),none⟩,⟨some 43,.len (.t 42),none⟩,⟨some 44,.bin .sub (.t 43) (.k (.lf (.int .i64 1))),none⟩,⟨some 10,.as 0 0 (.t 44),none⟩] [0,2,3,8,10]) c38_14
abbrev c38_16 : AC := .seq (.ops 0 [⟨some 38,.mv (.t 0),none⟩,⟨some 39,.mv (.t 9),none⟩,⟨some 40,.mv (.t 2),none⟩,⟨some 41,.callp 64 0 [(.t 38),(.t 39),(.t 40)],none⟩] [0,2,3,8]) c38_15
abbrev c38_17 : AC := .seq c38_6 c38_16
abbrev c38_18 : AC := .seq (.ops 0 [⟨some 11,.mv (.t 1),none⟩,⟨some 9,.as 0 0 (.t 11),none⟩] [0,1,2,3,8,9]) c38_17
abbrev c38_19 : AC := .seq (.ops 0 [⟨some 8,.as 60 1 (.k (.lf (.lst .nl 1 [] []))),none⟩] [0,1,2,3,8]) c38_18
abbrev c38 : AC := c38_19
theorem c38_ok : compileFn Tryz.prog 38 = some (60, AC.strip c38, []) := by kernel_rfl
abbrev c39_0 : AC := .seq (.ops 0 [⟨some 2,.as 0 0 (.k (.lf (.str ⟨#[42]⟩))),none⟩] [2]) .ret
abbrev c39_1 : AC := .seq (.ops 0 [⟨some 2,.as 0 0 (.k (.lf (.str ⟨#[43]⟩))),none⟩] [2]) .ret
abbrev c39_2 : AC := .seq (.ops 0 [⟨some 2,.as 0 0 (.k (.lf (.str ⟨#[63]⟩))),none⟩] [2]) .ret
abbrev c39_3 : AC := .seq (.ops 0 [⟨some 23,.mv (.t 3),none⟩,⟨some 24,.bin .add (.k (.lf (.str ⟨#[94]⟩))) (.t 23),none⟩,⟨some 2,.as 0 0 (.t 24),none⟩] [2]) .ret
abbrev c39_4 : AC := .seq (.ops 0 [⟨some 27,.mv (.t 3),none⟩,⟨some 28,.bin .add (.k (.lf (.str ⟨#[94,43]⟩))) (.t 27),none⟩,⟨some 2,.as 0 0 (.t 28),none⟩] [2]) .ret
abbrev c39_5 : AC := .seq (.ops 0 [⟨some 31,.mv (.t 3),none⟩,⟨some 32,.bin .add (.k (.lf (.str ⟨#[94,45]⟩))) (.t 31),none⟩,⟨some 2,.as 0 0 (.t 32),none⟩] [2]) .ret
abbrev c39_6 : AC := .seq (.ops 0 [⟨some 35,.mv (.t 0),none⟩,⟨some 36,.nc (.t 35),none⟩,⟨some 37,.fa (.t 36) 0,none⟩,⟨some 38,.fa (.t 37) 2,none⟩,⟨some 39,.ld (.t 38) 1 false,none⟩,⟨some 40,.call 35 [(.t 39)],none⟩,⟨some 41,.bin .add (.k (.lf (.str ⟨#[32,45,62,32]⟩))) (.t 40),none⟩,⟨some 2,.as 0 0 (.t 41),none⟩] [2]) .ret
abbrev c39_7 : AC := .cond (.t 33) c39_6 .skip
abbrev c39_8 : AC := .seq (.ops 0 [⟨some 34,.bin .eql (.t 14) (.k (.lf (.int .i64 22))),none⟩,⟨some 33,.as 0 0 (.t 34),none⟩] [0,3,33]) c39_7
abbrev c39_9 : AC := .cond (.t 29) c39_5 c39_8
abbrev c39_10 : AC := .seq (.ops 0 [⟨some 30,.bin .eql (.t 14) (.k (.lf (.int .i64 16))),none⟩,⟨some 29,.as 0 0 (.t 30),none⟩] [0,3,14,29]) c39_9
abbrev c39_11 : AC := .cond (.t 25) c39_4 c39_10
abbrev c39_12 : AC := .seq (.ops 0 [⟨some 26,.bin .eql (.t 14) (.k (.lf (.int .i64 15))),none⟩,⟨some 25,.as 0 0 (.t 26),none⟩] [0,3,14,25]) c39_11
abbrev c39_13 : AC := .cond (.t 21) c39_3 c39_12
abbrev c39_14 : AC := .seq (.ops 0 [⟨some 22,.bin .eql (.t 14) (.k (.lf (.int .i64 14))),none⟩,⟨some 21,.as 0 0 (.t 22),none⟩] [0,3,14,21]) c39_13
abbrev c39_15 : AC := .cond (.t 19) c39_2 c39_14
abbrev c39_16 : AC := .seq (.ops 0 [⟨some 20,.bin .eql (.t 14) (.k (.lf (.int .i64 11))),none⟩,⟨some 19,.as 0 0 (.t 20),none⟩] [0,3,14,19]) c39_15
abbrev c39_17 : AC := .cond (.t 17) c39_1 c39_16
abbrev c39_18 : AC := .seq (.ops 0 [⟨some 18,.bin .eql (.t 14) (.k (.lf (.int .i64 10))),none⟩,⟨some 17,.as 0 0 (.t 18),none⟩] [0,3,14,17]) c39_17
abbrev c39_19 : AC := .cond (.t 15) c39_0 c39_18
abbrev c39_20 : AC := .seq (.ops 0 [⟨some 16,.bin .eql (.t 14) (.k (.lf (.int .i64 9))),none⟩,⟨some 15,.as 0 0 (.t 16),none⟩] [0,3,14,15]) c39_19
abbrev c39_21 : AC := .block 0 c39_20
abbrev c39_22 : AC := .seq (.ops 0 [⟨some 10,.mv (.t 0),none⟩,⟨some 11,.nc (.t 10),none⟩,⟨some 12,.fa (.t 11) 0,none⟩,⟨some 13,.fa (.t 12) 0,none⟩,⟨some 14,.ld (.t 13) 1 false,none⟩] [0,3,14]) c39_21
abbrev c39_23 : AC := .seq (.ops 0 [⟨some 42,.mv (.t 3),none⟩,⟨some 43,.bin .add (.k (.lf (.str ⟨#[32,45,62,32]⟩))) (.t 42),none⟩,⟨some 2,.as 0 0 (.t 43),none⟩] [2]) .ret
abbrev c39_24 : AC := .seq c39_22 c39_23
abbrev c39_25 : AC := .seq (.ops 0 [⟨some 4,.mv (.t 0),none⟩,⟨some 5,.nc (.t 4),none⟩,⟨some 6,.fa (.t 5) 0,none⟩,⟨some 7,.fa (.t 6) 1,none⟩,⟨some 8,.ld (.t 7) 1 false,none⟩,⟨some 9,.call 46 [(.t 8)],none⟩,⟨some 3,.as 0 0 (.t 9),none⟩] [0,3]) c39_24
abbrev c39_26 : AC := .seq (.ops 0 [⟨some 2,.as 0 0 (.k (.lf (.str ⟨#[]⟩))),none⟩] [0]) c39_25
abbrev c39 : AC := c39_26
theorem c39_ok : compileFn Tryz.prog 39 = some (44, AC.strip c39, [.t 2]) := by kernel_rfl
abbrev c64_0 : AC := .seq (.ops 0 [⟨some 17,.mv (.t 0),none⟩,⟨some 18,.callp 32 0 [(.t 17),(.k (.lf (.str ⟨#[41]⟩)))],none⟩] []) .ret
abbrev c64_1 : AC := .seq (.ops 0 [⟨some 14,.mv (.t 0),none⟩,⟨some 15,.mv (.t 1),none⟩,⟨some 16,.callp 22 0 [(.t 14),(.t 15)],none⟩] [0]) c64_0
abbrev c64_2 : AC := .seq (.ops 0 [⟨some 12,.mv (.t 0),none⟩,⟨some 13,.callp 32 0 [(.t 12),(.k (.lf (.str ⟨#[40]⟩)))],none⟩] [0,1]) c64_1
abbrev c64_3 : AC := .cond (.t 11) c64_2 .skip
abbrev c64_4 : AC := .seq (.ops 0 [⟨some 7,.mv (.t 6),none⟩,⟨some 8,.mv (.t 1),none⟩,⟨some 9,.cald (.t 7) [(.t 8)],none⟩,⟨some 10,.mv (.t 2),none⟩,⟨some 11,.bin .lss (.t 9) (.t 10),none⟩] [0,1,11]) c64_3
abbrev c64_5 : AC := .seq c64_4 (.ops 0 [⟨some 19,.mv (.t 0),none⟩,⟨some 20,.mv (.t 1),none⟩,⟨some 21,.callp 22 0 [(.t 19),(.t 20)],none⟩] [])
abbrev c64_6 : AC := .seq (.ops 0 [⟨some 6,.as 0 0 (.k (.lf (.fn 91 [] []))),none⟩] [0,1,2,6]) c64_5
abbrev c64 : AC := c64_6
theorem c64_ok : compileFn Tryz.prog 64 = some (22, AC.strip c64, []) := by kernel_rfl
abbrev c91_0 : AC := .seq (.ops 0 [⟨some 2,.as 0 0 (.k (.lf (.int .i64 0))),none⟩] [2]) .ret
abbrev c91_1 : AC := .seq (.ops 0 [⟨some 2,.as 0 0 (.k (.lf (.int .i64 1))),none⟩] [2]) .ret
abbrev c91_2 : AC := .cond (.t 12) .skip (.ops 0 [⟨some 14,.bin .eql (.t 7) (.k (.lf (.int .i64 13))),none⟩,⟨some 12,.as 0 0 (.t 14),none⟩] [7,12])
abbrev c91_3 : AC := .seq (.ops 0 [⟨some 13,.bin .eql (.t 7) (.k (.lf (.int .i64 12))),none⟩,⟨some 12,.as 0 0 (.t 13),none⟩] [7,12]) c91_2
abbrev c91_4 : AC := .seq (.ops 0 [⟨some 2,.as 0 0 (.k (.lf (.int .i64 2))),none⟩] [2]) .ret
abbrev c91_5 : AC := .cond (.t 15) .skip (.ops 0 [⟨some 23,.bin .eql (.t 7) (.k (.lf (.int .i64 23))),none⟩,⟨some 15,.as 0 0 (.t 23),none⟩] [15])
abbrev c91_6 : AC := .seq (.ops 0 [⟨some 22,.bin .eql (.t 7) (.k (.lf (.int .i64 22))),none⟩,⟨some 15,.as 0 0 (.t 22),none⟩] [7,15]) c91_5
abbrev c91_7 : AC := .cond (.t 15) .skip c91_6
abbrev c91_8 : AC := .seq (.ops 0 [⟨some 21,.bin .eql (.t 7) (.k (.lf (.int .i64 16))),none⟩,⟨some 15,.as 0 0 (.t 21),none⟩] [7,15]) c91_7
abbrev c91_9 : AC := .cond (.t 15) .skip c91_8
abbrev c91_10 : AC := .seq (.ops 0 [⟨some 20,.bin .eql (.t 7) (.k (.lf (.int .i64 15))),none⟩,⟨some 15,.as 0 0 (.t 20),none⟩] [7,15]) c91_9
abbrev c91_11 : AC := .cond (.t 15) .skip c91_10
abbrev c91_12 : AC := .seq (.ops 0 [⟨some 19,.bin .eql (.t 7) (.k (.lf (.int .i64 14))),none⟩,⟨some 15,.as 0 0 (.t 19),none⟩] [7,15]) c91_11
abbrev c91_13 : AC := .cond (.t 15) .skip c91_12
abbrev c91_14 : AC := .seq (.ops 0 [⟨some 18,.bin .eql (.t 7) (.k (.lf (.int .i64 11))),none⟩,⟨some 15,.as 0 0 (.t 18),none⟩] [7,15]) c91_13
abbrev c91_15 : AC := .cond (.t 15) .skip c91_14
abbrev c91_16 : AC := .seq (.ops 0 [⟨some 17,.bin .eql (.t 7) (.k (.lf (.int .i64 10))),none⟩,⟨some 15,.as 0 0 (.t 17),none⟩] [7,15]) c91_15
abbrev c91_17 : AC := .cond (.t 15) .skip c91_16
abbrev c91_18 : AC := .seq (.ops 0 [⟨some 16,.bin .eql (.t 7) (.k (.lf (.int .i64 9))),none⟩,⟨some 15,.as 0 0 (.t 16),none⟩] [7,15]) c91_17
abbrev c91_19 : AC := .seq (.ops 0 [⟨some 2,.as 0 0 (.k (.lf (.int .i64 3))),none⟩] [2]) .ret
abbrev c91_20 : AC := .cond (.t 15) c91_19 .skip
abbrev c91_21 : AC := .seq c91_18 c91_20
abbrev c91_22 : AC := .cond (.t 12) c91_4 c91_21
abbrev c91_23 : AC := .seq c91_3 c91_22
abbrev c91_24 : AC := .cond (.t 10) c91_1 c91_23
abbrev c91_25 : AC := .seq (.ops 0 [⟨some 11,.bin .eql (.t 7) (.k (.lf (.int .i64 7))),none⟩,⟨some 10,.as 0 0 (.t 11),none⟩] [7,10]) c91_24
abbrev c91_26 : AC := .cond (.t 8) c91_0 c91_25
abbrev c91_27 : AC := .seq (.ops 0 [⟨some 9,.bin .eql (.t 7) (.k (.lf (.int .i64 8))),none⟩,⟨some 8,.as 0 0 (.t 9),none⟩] [7,8]) c91_26
abbrev c91_28 : AC := .block 0 c91_27
abbrev c91_29 : AC := .seq (.ops 0 [⟨some 3,.mv (.t 0),none⟩,⟨some 4,.nc (.t 3),none⟩,⟨some 5,.fa (.t 4) 0,none⟩,⟨some 6,.fa (.t 5) 0,none⟩,⟨some 7,.ld (.t 6) 1 false,none⟩] [7]) c91_28
abbrev c91_30 : AC := .seq (.ops 0 [⟨some 2,.as 0 0 (.k (.lf (.int .i64 4))),none⟩] [2]) .ret
abbrev c91_31 : AC := .seq c91_29 c91_30
abbrev c91_32 : AC := .seq (.ops 0 [⟨some 2,.as 0 0 (.k (.lf (.int .i64 0))),none⟩] [0]) c91_31
abbrev c91 : AC := c91_32
theorem c91_ok : compileFn Tryz.prog 91 = some (24, AC.strip c91, [.t 2]) := by kernel_rfl
abbrev c40_0 : AC := .seq (.ops 0 [⟨some 2,.as 0 0 (.k (.lf (.int .i64 2))),none⟩] [2]) .ret
abbrev c40_1 : AC := .seq (.ops 0 [⟨some 2,.as 0 0 (.k (.lf (.int .i64 0))),none⟩] [2]) .ret
abbrev c40_2 : AC := .seq (.ops 0 [⟨some 2,.as 0 0 (.k (.lf (.int .i64 1))),none⟩] [2]) .ret
abbrev c40_3 : AC := .cond (.t 21) c40_2 .skip
abbrev c40_4 : AC := .seq (.ops 0 [⟨some 22,.mv (.t 0),none⟩,⟨some 23,.bin .gtr (.t 22) (.k (.lf (.int .i64 8))),none⟩,⟨some 24,.mv (.t 23),none⟩,⟨some 25,.mv (.t 0),some (24,true)⟩,⟨some 26,.bin .leq (.t 25) (.k (.lf (.int .i64 23))),some (24,true)⟩,⟨some 27,.pk (.t 24) (.t 26) (.k (.lf (.bool false))),none⟩,⟨some 21,.as 0 0 (.t 27),none⟩] [21]) c40_3
abbrev c40_5 : AC := .cond (.t 10) c40_1 c40_4
abbrev c40_6 : AC := .seq (.ops 0 [⟨some 11,.mv (.t 0),none⟩,⟨some 12,.bin .geq (.t 11) (.k (.lf (.int .i64 1))),none⟩,⟨some 13,.mv (.t 12),none⟩,⟨some 14,.mv (.t 0),some (13,true)⟩,⟨some 15,.bin .leq (.t 14) (.k (.lf (.int .i64 6))),some (13,true)⟩,⟨some 16,.pk (.t 13) (.t 15) (.k (.lf (.bool false))),none⟩,⟨some 17,.mv (.t 16),none⟩,⟨some 18,.mv (.t 0),some (17,false)⟩,⟨some 19,.bin .eql (.t 18) (.k (.lf (.int .i64 17))),some (17,false)⟩,⟨some 20,.pk (.t 17) (.k (.lf (.bool true))) (.t 19),none⟩,⟨some 10,.as 0 0 (.t 20),none⟩] [0,10]) c40_5
abbrev c40_7 : AC := .cond (.t 3) c40_0 c40_6
abbrev c40_8 : AC := .seq (.ops 0 [⟨some 4,.mv (.t 0),none⟩,⟨some 5,.bin .eql (.t 4) (.k (.lf (.int .i64 7))),none⟩,⟨some 6,.mv (.t 5),none⟩,⟨some 7,.mv (.t 0),some (6,false)⟩,⟨some 8,.bin .eql (.t 7) (.k (.lf (.int .i64 8))),some (6,false)⟩,⟨some 9,.pk (.t 6) (.k (.lf (.bool true))) (.t 8),none⟩,⟨some 3,.as 0 0 (.t 9),none⟩] [0,3]) c40_7
abbrev c40_9 : AC := .block 0 c40_8
abbrev c40_10 : AC := .seq (.ops 0 [⟨some 2,.as 0 0 (.k (.lf (.int .i64 (-1)))),none⟩] [2]) .ret
abbrev c40_11 : AC := .seq c40_9 c40_10
abbrev c40_12 : AC := .seq (.ops 0 [⟨some 2,.as 0 0 (.k (.lf (.int .i64 0))),none⟩] [0]) c40_11
abbrev c40 : AC := c40_12
theorem c40_ok : compileFn Tryz.prog 40 = some (28, AC.strip c40, [.t 2]) := by kernel_rfl
abbrev c57_0 : AC := .seq (.ops 0 [⟨some 3,.mv (.t 0),none⟩,⟨some 4,.nc (.t 3),none⟩,⟨some 5,.fa (.t 4) 1,none⟩,⟨some 6,.ld (.t 5) 1 false,none⟩,⟨some 7,.len (.t 6),none⟩,⟨some 2,.as 0 0 (.t 7),none⟩] [2]) .ret
abbrev c57_1 : AC := .seq (.ops 0 [⟨some 2,.as 0 0 (.k (.lf (.int .i64 0))),none⟩] [0]) c57_0
abbrev c57 : AC := c57_1
theorem c57_ok : compileFn Tryz.prog 57 = some (8, AC.strip c57, [.t 2]) := by kernel_rfl
abbrev c58_0 : AC := .seq (.ops 0 [⟨some 17,.mv (.t 1),none⟩,⟨some 18,.lns (.t 17),none⟩,⟨some 4,.as 0 0 (.t 18),none⟩,⟨some 5,.as 0 0 (.k (.lf (.nili))),none⟩] [4,5]) .ret
abbrev c58_1 : AC := .seq (.ops 0 [⟨some 8,.mv (.t 0),none⟩,⟨some 9,.mv (.t 0),none⟩,⟨some 10,.nc (.t 9),none⟩,⟨some 11,.fa (.t 10) 1,none⟩,⟨some 12,.ld (.t 11) 1 false,none⟩,⟨some 13,.mv (.t 1),none⟩,⟨some 14,.aps 5 (.t 12) (.t 13),none⟩,⟨some 15,.nc (.t 8),none⟩,⟨some 16,.fa (.t 15) 1,none⟩,⟨none,.st (.t 16) (.t 14) 1,none⟩] [1]) c58_0
abbrev c58_2 : AC := .seq (.ops 0 [⟨some 6,.mv (.t 0),none⟩,⟨some 7,.callp 83 0 [(.t 6)],none⟩] [0,1]) c58_1
abbrev c58_3 : AC := .seq (.ops 0 [⟨some 4,.as 0 0 (.k (.lf (.int .i64 0))),none⟩,⟨some 5,.as 0 0 (.k (.lf (.nili))),none⟩] [0,1]) c58_2
abbrev c58 : AC := c58_3
theorem c58_ok : compileFn Tryz.prog 58 = some (19, AC.strip c58, [.t 4, .t 5]) := by kernel_rfl
abbrev c41_0 : AC := .seq (.reg [⟨some 3,.mv (.t 0),none⟩,⟨some 4,.nc (.t 3),none⟩,⟨some 5,.fa (.t 4) 1,none⟩,⟨some 6,.ld (.t 5) 1 false,none⟩,⟨some 7,.usd (.t 6),none⟩,⟨some 8,.mv (.t 0),none⟩,⟨some 9,.nc (.t 8),none⟩,⟨some 10,.fa (.t 9) 1,none⟩,⟨some 11,.ld (.t 10) 1 false,none⟩,⟨some 12,.len (.t 11),none⟩] [⟨some 13,.ust 5 (.t 7) (.t 12),none⟩,⟨some 2,.as 0 0 (.t 13),none⟩] [2]) .ret
abbrev c41_1 : AC := .seq (.ops 0 [⟨some 2,.as 0 0 (.k (.lf (.str ⟨#[]⟩))),none⟩] [0]) c41_0
abbrev c41 : AC := c41_1
theorem c41_ok : compileFn Tryz.prog 41 = some (14, AC.strip c41, [.t 2]) := by kernel_rfl
abbrev c83_0 : AC := .cond (.t 19) .bad .skip
abbrev c83_1 : AC := .seq (.ops 0 [⟨some 14,.mv (.t 0),none⟩,⟨some 15,.nc (.t 14),none⟩,⟨some 16,.fa (.t 15) 0,none⟩,⟨some 17,.ld (.t 16) 1 false,none⟩,⟨some 18,.mv (.t 0),none⟩,⟨some 19,.peq true (.t 17) (.t 18),none⟩] [19]) c83_0
abbrev c83_2 : AC := .cond (.t 6) (.ops 0 [⟨some 7,.mv (.t 0),none⟩,⟨some 8,.mv (.t 0),none⟩,⟨some 9,.p2u (.t 8),none⟩,⟨some 10,.ex 0 [(.t 9)],none⟩,⟨some 11,.u2p 56 (.t 10),none⟩,⟨some 12,.nc (.t 7),none⟩,⟨some 13,.fa (.t 12) 0,none⟩,⟨none,.st (.t 13) (.t 11) 1,none⟩] []) c83_1
abbrev c83_3 : AC := .seq (.ops 0 [⟨some 2,.mv (.t 0),none⟩,⟨some 3,.nc (.t 2),none⟩,⟨some 4,.fa (.t 3) 0,none⟩,⟨some 5,.ld (.t 4) 1 false,none⟩,⟨some 6,.peq false (.t 5) (.k (.lf (.nilp))),none⟩] [0,6]) c83_2
abbrev c83 : AC := c83_3
theorem c83_ok : compileFn Tryz.prog 83 = some (20, AC.strip c83, []) := by kernel_rfl
abbrev c87_0 : AC := .seq (.ops 0 [⟨some 4,.as 0 0 (.k (.lf (.nili))),none⟩] [4]) .ret
abbrev c87_1 : AC := .seq (.ops 0 [⟨some 7,.mv (.t 0),none⟩,⟨some 8,.mv (.t 0),none⟩,⟨some 9,.nc (.t 8),none⟩,⟨some 10,.fa (.t 9) 1,none⟩,⟨some 11,.ld (.t 10) 1 false,none⟩,⟨some 12,.mv (.t 1),none⟩,⟨some 13,.bs 5 1 1 [.int .u8 0] [(0,(.t 12))],none⟩,⟨some 14,.app 5 1 1 (.t 11) (.t 13),none⟩,⟨some 15,.nc (.t 7),none⟩,⟨some 16,.fa (.t 15) 1,none⟩,⟨none,.st (.t 16) (.t 14) 1,none⟩] []) c87_0
abbrev c87_2 : AC := .seq (.ops 0 [⟨some 5,.mv (.t 0),none⟩,⟨some 6,.callp 83 0 [(.t 5)],none⟩] [0,1]) c87_1
abbrev c87_3 : AC := .seq (.ops 0 [⟨some 4,.as 0 0 (.k (.lf (.nili))),none⟩] [0,1]) c87_2
abbrev c87 : AC := c87_3
theorem c87_ok : compileFn Tryz.prog 87 = some (17, AC.strip c87, [.t 4]) := by kernel_rfl
end Go.Proofs.YtdoefdmaecaacaaGreatDoor.S
set_option maxRecDepth 100000
namespace Go.Proofs.YtdoefdmaecaacaaGreatDoor.S
open Go Go.Proofs.YtdoefdmaecaacaaGreatDoor.AM
abbrev c31_0 : AC := .seq (.ops 0 [⟨some 2,.as 0 0 (.k (.lf (.int .i64 3))),none⟩] [2]) .ret
abbrev c31_1 : AC := .cond (.t 11) c31_0 .skip
abbrev c31_2 : AC := .seq (.ops 0 [⟨some 8,.fa (.t 1) 0,none⟩,⟨some 9,.ld (.t 8) 1 false,none⟩,⟨some 10,.len (.t 9),none⟩,⟨some 11,.bin .eql (.t 10) (.k (.lf (.int .i64 0))),none⟩] [1,11]) c31_1
abbrev c31_3 : AC := .seq (.ops 0 [⟨some 2,.as 0 0 (.k (.lf (.int .i64 2))),none⟩] [2]) .ret
abbrev c31_4 : AC := .cond (.t 15) c31_3 .skip
abbrev c31_5 : AC := .seq (.ops 0 [⟨some 12,.fa (.t 1) 0,none⟩,⟨some 13,.ld (.t 12) 1 false,none⟩,⟨some 14,.len (.t 13),none⟩,⟨some 15,.bin .gtr (.t 14) (.k (.lf (.int .i64 200))),none⟩] [1,15]) c31_4
abbrev c31_6 : AC := .cond (.t 20) .skip (.exit 0)
abbrev c31_7 : AC := .seq (.ops 0 [⟨some 2,.as 0 0 (.k (.lf (.int .i64 6))),none⟩] [2]) .ret
abbrev c31_8 : AC := .cond (.t 37) c31_7 .skip
abbrev c31_9 : AC := .seq (.ops 0 [⟨some 23,.fa (.t 5) 0,none⟩,⟨some 24,.ld (.t 23) 1 false,none⟩,⟨some 25,.call 56 [(.t 24)],none⟩,⟨some 26,.un .not (.t 25),none⟩,⟨some 27,.mv (.t 26),none⟩,⟨some 28,.fa (.t 5) 0,some (27,true)⟩,⟨some 29,.ld (.t 28) 1 false,some (27,true)⟩,⟨some 30,.bin .neq (.t 29) (.k (.lf (.str ⟨#[]⟩))),some (27,true)⟩,⟨some 31,.mv (.t 30),some (27,true)⟩,⟨some 32,.fa (.t 1) 0,some (31,false)⟩,⟨some 33,.ld (.t 32) 1 false,some (31,false)⟩,⟨some 34,.len (.t 33),some (31,false)⟩,⟨some 35,.bin .gtr (.t 34) (.k (.lf (.int .i64 1))),some (31,false)⟩,⟨some 36,.pk (.t 31) (.k (.lf (.bool true))) (.t 35),some (27,true)⟩,⟨some 37,.pk (.t 27) (.t 36) (.k (.lf (.bool false))),none⟩] [1,3,5,17,18,19,37]) c31_8
abbrev c31_10 : AC := .seq (.ops 0 [⟨some 46,.mv (.t 7),none⟩,⟨some 2,.as 0 0 (.t 46),none⟩] [2]) .ret
abbrev c31_11 : AC := .cond (.t 45) c31_10 .skip
abbrev c31_12 : AC := .seq (.ops 0 [⟨some 44,.mv (.t 7),none⟩,⟨some 45,.bin .neq (.t 44) (.k (.lf (.int .i64 0))),none⟩] [1,3,5,7,17,18,19,45]) c31_11
abbrev c31_13 : AC := .seq (.ops 0 [⟨some 39,.fa (.t 5) 1,none⟩,⟨some 40,.ld (.t 39) 1 false,none⟩,⟨some 41,.call 21 [(.t 40)],none⟩,⟨some 38,.mv (.t 41),none⟩,⟨some 42,.ext (.t 38) 0,none⟩,⟨some 43,.ext (.t 38) 1,none⟩,⟨some 6,.as 0 0 (.t 42),none⟩,⟨some 7,.as 0 0 (.t 43),none⟩] [1,3,5,7,17,18,19]) c31_12
abbrev c31_14 : AC := .seq (.ops 0 [⟨some 2,.as 0 0 (.k (.lf (.int .i64 2))),none⟩] [2]) .ret
abbrev c31_15 : AC := .cond (.t 53) c31_14 .skip
abbrev c31_16 : AC := .seq (.ops 0 [⟨some 52,.mv (.t 3),none⟩,⟨some 53,.bin .gtr (.t 52) (.k (.lf (.int .i64 2048))),none⟩] [1,3,17,18,19,53]) c31_15
abbrev c31_17 : AC := .seq (.ops 0 [⟨some 47,.mv (.t 3),none⟩,⟨some 48,.fa (.t 5) 1,none⟩,⟨some 49,.ld (.t 48) 1 false,none⟩,⟨some 50,.len (.t 49),none⟩,⟨some 51,.bin .add (.t 47) (.t 50),none⟩,⟨some 3,.as 0 0 (.t 51),none⟩] [1,3,17,18,19]) c31_16
abbrev c31_18 : AC := .seq c31_13 c31_17
abbrev c31_19 : AC := .seq c31_9 c31_18
abbrev c31_20 : AC := .seq (.ops 0 [⟨some 21,.ia (.t 17) (.t 19) 2,none⟩,⟨some 22,.ld (.t 21) 2 true,none⟩,⟨some 5,.al [.str ⟨#[]⟩,.lst (.own 643 49) 7 [] []],none⟩,⟨none,.st (.t 5) (.t 22) 2,none⟩] [1,3,5,17,18,19]) c31_19
abbrev c31_21 : AC := .block 1 c31_20
abbrev c31_22 : AC := .seq c31_21 (.ops 0 [⟨some 54,.bin .add (.t 19) (.k (.lf (.int .i64 1))),none⟩,⟨some 19,.mv (.t 54),none⟩] [1,3,17,18,19])
abbrev c31_23 : AC := .seq c31_6 c31_22
abbrev c31_24 : AC := .seq (.ops 0 [⟨some 20,.bin .lss (.t 19) (.t 18),none⟩] [1,3,17,18,19,20]) c31_23
abbrev c31_25 : AC := .loop c31_24 [1,3,17,18,19]
abbrev c31_26 : AC := .block 0 c31_25
abbrev c31_27 : AC := .seq (.ops 0 [⟨some 16,.fa (.t 1) 0,none⟩,⟨some 17,.ld (.t 16) 1 false,none⟩,⟨some 18,.len (.t 17),none⟩,⟨some 19,.mv (.k (.lf (.int .i64 0))),none⟩] [1,3,17,18,19]) c31_26
abbrev c31_28 : AC := .seq (.ops 0 [⟨some 2,.as 0 0 (.k (.lf (.int .i64 0))),none⟩] [2]) .ret
abbrev c31_29 : AC := .seq c31_27 c31_28
abbrev c31_30 : AC := .seq (.ops 0 [⟨some 3,.as 0 0 (.k (.lf (.int .i64 0))),none⟩] [1,3]) c31_29
abbrev c31_31 : AC := .seq c31_5 c31_30
abbrev c31_32 : AC := .seq c31_2 c31_31
abbrev c31_33 : AC := .seq (.ops 0 [⟨some 1,.bx (.t 0),none⟩,⟨some 2,.as 0 0 (.k (.lf (.int .i64 0))),none⟩] [1]) c31_32
abbrev c31 : AC := c31_33
theorem c31_ok : compileFn Tryz.prog 31 = some (55, AC.strip c31, [.t 2]) := by kernel_rfl
abbrev c21_0 : AC := .seq (.ops 0 [⟨some 2,.as 0 0 (.k (.lf (.int .i64 0))),none⟩,⟨some 3,.as 0 0 (.k (.lf (.int .i64 2))),none⟩] [2,3]) .ret
abbrev c21_1 : AC := .cond (.t 6) c21_0 .skip
abbrev c21_2 : AC := .seq (.ops 0 [⟨some 4,.mv (.t 0),none⟩,⟨some 5,.len (.t 4),none⟩,⟨some 6,.bin .gtr (.t 5) (.k (.lf (.int .i64 2048))),none⟩] [0,6]) c21_1
abbrev c21_3 : AC := .seq (.ops 0 [⟨some 7,.mv (.t 0),none⟩,⟨some 8,.call 33 [(.t 7),(.k (.lf (.fn 34 [] [])))],none⟩,⟨some 9,.ext (.t 8) 0,none⟩,⟨some 10,.ext (.t 8) 1,none⟩,⟨some 2,.as 0 0 (.t 9),none⟩,⟨some 3,.as 0 0 (.t 10),none⟩] [2,3]) .ret
abbrev c21_4 : AC := .seq c21_2 c21_3
abbrev c21_5 : AC := .seq (.ops 0 [⟨some 2,.as 0 0 (.k (.lf (.int .i64 0))),none⟩,⟨some 3,.as 0 0 (.k (.lf (.int .i64 0))),none⟩] [0]) c21_4
abbrev c21 : AC := c21_5
theorem c21_ok : compileFn Tryz.prog 21 = some (11, AC.strip c21, [.t 2, .t 3]) := by kernel_rfl
abbrev c56_0 : AC := .seq (.ops 0 [⟨some 12,.mv (.t 4),none⟩,⟨some 13,.bin .eql (.t 12) (.k (.lf (.int .i64 0))),none⟩,⟨some 2,.as 0 0 (.t 13),none⟩] [2]) .ret
abbrev c56_1 : AC := .seq (.ops 0 [⟨some 6,.mv (.t 0),none⟩,⟨some 7,.bd [.int .i64 0,.int .i64 0,.str ⟨#[]⟩,.int .u64 0,.int .u64 0,.int .u64 0,.int .u64 0] [(0,1,(.k (.lf (.int .i64 6)))),(2,1,(.t 6))],none⟩,⟨some 8,.bs 49 7 1 [.int .i64 0,.int .i64 0,.str ⟨#[]⟩,.int .u64 0,.int .u64 0,.int .u64 0,.int .u64 0] [(0,(.t 7))],none⟩,⟨some 9,.call 21 [(.t 8)],none⟩,⟨some 5,.mv (.t 9),none⟩,⟨some 10,.ext (.t 5) 0,none⟩,⟨some 11,.ext (.t 5) 1,none⟩,⟨some 3,.as 0 0 (.t 10),none⟩,⟨some 4,.as 0 0 (.t 11),none⟩] [4]) c56_0
abbrev c56_2 : AC := .seq (.ops 0 [⟨some 2,.as 0 0 (.k (.lf (.bool false))),none⟩] [0]) c56_1
abbrev c56 : AC := c56_2
theorem c56_ok : compileFn Tryz.prog 56 = some (14, AC.strip c56, [.t 2]) := by kernel_rfl
abbrev c33_0 : AC := .cond (.t 19) .skip (.exit 0)
abbrev c33_1 : AC := .seq (.ops 0 [⟨some 28,.mv (.t 7),none⟩,⟨some 4,.as 0 0 (.t 28),none⟩,⟨some 5,.as 0 0 (.k (.lf (.int .i64 40))),none⟩] [4,5]) .ret
abbrev c33_2 : AC := .cond (.t 27) c33_1 .skip
abbrev c33_3 : AC := .seq (.ops 0 [⟨some 26,.mv (.t 9),none⟩,⟨some 27,.bin .lss (.t 26) (.k (.lf (.int .i64 0))),none⟩] [0,1,6,7,8,9,16,17,18,27]) c33_2
abbrev c33_4 : AC := .seq (.ops 0 [⟨some 32,.mv (.t 7),none⟩,⟨some 4,.as 0 0 (.t 32),none⟩,⟨some 5,.as 0 0 (.k (.lf (.int .i64 41))),none⟩] [4,5]) .ret
abbrev c33_5 : AC := .cond (.t 31) c33_4 .skip
abbrev c33_6 : AC := .seq (.ops 0 [⟨some 29,.ld (.t 8) 7 true,none⟩,⟨some 30,.call 59 [(.t 29)],none⟩,⟨some 31,.un .not (.t 30),none⟩] [0,1,6,7,8,9,16,17,18,31]) c33_5
abbrev c33_7 : AC := .cond (.t 37) .skip (.exit 2)
abbrev c33_8 : AC := .seq (.ops 0 [⟨some 42,.mv (.t 7),none⟩,⟨some 4,.as 0 0 (.t 42),none⟩,⟨some 5,.as 0 0 (.k (.lf (.int .i64 42))),none⟩] [4,5]) .ret
abbrev c33_9 : AC := .cond (.t 41) c33_8 .skip
abbrev c33_10 : AC := .seq (.ops 0 [⟨some 39,.fa (.t 10) 0,none⟩,⟨some 40,.ld (.t 39) 1 false,none⟩,⟨some 41,.bin .eql (.t 40) (.k (.lf (.int .i64 0))),none⟩] [0,1,6,7,8,10,11,16,17,18,35,36,41]) c33_9
abbrev c33_11 : AC := .cond (.t 62) (.ops 0 [⟨some 63,.fa (.t 12) 1,none⟩,⟨some 64,.ld (.t 63) 1 false,none⟩,⟨some 65,.bin .sub (.t 64) (.k (.lf (.int .i64 1))),none⟩,⟨some 66,.fa (.t 12) 1,none⟩,⟨none,.st (.t 66) (.t 65) 1,none⟩] [0,1,6,7,8,10,12,16,17,18,35,36]) .skip
abbrev c33_12 : AC := .seq (.ops 2 [⟨some 49,.mv (.t 11),none⟩,⟨some 50,.bin .eql (.t 49) (.k (.lf (.int .i64 1))),none⟩,⟨some 51,.mv (.t 50),none⟩,⟨some 52,.mv (.t 0),some (51,true)⟩,⟨some 53,.fa (.t 10) 0,some (51,true)⟩,⟨some 54,.ld (.t 53) 1 false,some (51,true)⟩,⟨some 55,.bin .sub (.t 54) (.k (.lf (.int .i64 1))),some (51,true)⟩,⟨some 56,.ia (.t 52) (.t 55) 7,some (51,true)⟩,⟨some 57,.fa (.t 56) 0,some (51,true)⟩,⟨some 58,.ld (.t 57) 1 false,some (51,true)⟩,⟨some 59,.fa (.t 8) 0,some (51,true)⟩,⟨some 60,.ld (.t 59) 1 false,some (51,true)⟩,⟨some 61,.bin .eql (.t 58) (.t 60),some (51,true)⟩,⟨some 62,.pk (.t 51) (.t 61) (.k (.lf (.bool false))),none⟩] [0,1,6,7,8,10,12,16,17,18,35,36,62]) c33_11
abbrev c33_13 : AC := .seq c33_12 (.ops 0 [⟨some 67,.fa (.t 12) 0,none⟩,⟨some 68,.ld (.t 67) 1 false,none⟩,⟨some 69,.fa (.t 10) 1,none⟩,⟨some 70,.ld (.t 69) 1 false,none⟩,⟨some 71,.fa (.t 12) 1,none⟩,⟨some 72,.ld (.t 71) 1 false,none⟩,⟨some 73,.mm true (.t 70) (.t 72),none⟩,⟨some 74,.bd [.int .i64 0,.int .i64 0] [(0,1,(.t 68)),(1,1,(.t 73))],none⟩,⟨none,.st (.t 10) (.t 74) 2,none⟩] [0,1,6,7,8,10,16,17,18,35,36])
abbrev c33_14 : AC := .seq (.ops 0 [⟨some 43,.mv (.t 6),none⟩,⟨some 44,.fa (.t 10) 0,none⟩,⟨some 45,.ld (.t 44) 1 false,none⟩,⟨some 46,.bin .sub (.t 45) (.k (.lf (.int .i64 1))),none⟩,⟨some 47,.ia (.t 43) (.t 46) 2,none⟩,⟨some 48,.ld (.t 47) 2 true,none⟩,⟨some 12,.al [.int .i64 0,.int .i64 0],none⟩,⟨none,.st (.t 12) (.t 48) 2,none⟩] [0,1,6,7,8,10,11,12,16,17,18,35,36]) c33_13
abbrev c33_15 : AC := .seq c33_10 c33_14
abbrev c33_16 : AC := .seq (.ops 0 [⟨some 38,.mv (.t 36),none⟩,⟨some 11,.as 0 0 (.t 38),none⟩] [0,1,6,7,8,10,11,16,17,18,35,36]) c33_15
abbrev c33_17 : AC := .block 3 c33_16
abbrev c33_18 : AC := .seq c33_17 (.ops 0 [⟨some 75,.bin .add (.t 36) (.k (.lf (.int .i64 1))),none⟩,⟨some 36,.mv (.t 75),none⟩] [0,1,6,7,8,10,16,17,18,35,36])
abbrev c33_19 : AC := .seq c33_7 c33_18
abbrev c33_20 : AC := .seq (.ops 0 [⟨some 37,.bin .lss (.t 36) (.t 35),none⟩] [0,1,6,7,8,10,16,17,18,35,36,37]) c33_19
abbrev c33_21 : AC := .loop c33_20 [0,1,6,7,8,10,16,17,18,35,36]
abbrev c33_22 : AC := .block 2 c33_21
abbrev c33_23 : AC := .seq (.ops 0 [⟨some 35,.mv (.t 9),none⟩,⟨some 36,.mv (.k (.lf (.int .i64 0))),none⟩] [0,1,6,7,8,10,16,17,18,35,36]) c33_22
abbrev c33_24 : AC := .seq (.ops 0 [⟨some 83,.mv (.t 7),none⟩,⟨some 4,.as 0 0 (.t 83),none⟩,⟨some 5,.as 0 0 (.k (.lf (.int .i64 4))),none⟩] [4,5]) .ret
abbrev c33_25 : AC := .cond (.t 82) c33_24 .skip
abbrev c33_26 : AC := .seq (.ops 0 [⟨some 80,.fa (.t 10) 1,none⟩,⟨some 81,.ld (.t 80) 1 false,none⟩,⟨some 82,.bin .gtr (.t 81) (.k (.lf (.int .i64 60))),none⟩] [0,1,6,7,10,16,17,18,82]) c33_25
abbrev c33_27 : AC := .seq (.ops 0 [⟨some 84,.mv (.t 6),none⟩,⟨some 85,.ld (.t 10) 2 true,none⟩,⟨some 86,.bs 79 2 1 [.int .i64 0,.int .i64 0] [(0,(.t 85))],none⟩,⟨some 87,.app 79 2 16 (.t 84) (.t 86),none⟩,⟨some 6,.as 79 2 (.t 87),none⟩] [0,1,6,7,10,16,17,18]) (.ops 0 [⟨some 88,.mv (.t 1),none⟩,⟨some 89,.mv (.t 7),none⟩,⟨some 90,.ld (.t 10) 2 true,none⟩,⟨some 91,.cald (.t 88) [(.t 89),(.t 90)],none⟩] [0,1,6,16,17,18])
abbrev c33_28 : AC := .seq c33_26 c33_27
abbrev c33_29 : AC := .seq (.ops 0 [⟨some 76,.fa (.t 10) 1,none⟩,⟨some 77,.ld (.t 76) 1 false,none⟩,⟨some 78,.bin .add (.t 77) (.k (.lf (.int .i64 1))),none⟩,⟨some 79,.fa (.t 10) 1,none⟩,⟨none,.st (.t 79) (.t 78) 1,none⟩] [0,1,6,7,10,16,17,18]) c33_28
abbrev c33_30 : AC := .seq c33_23 c33_29
abbrev c33_31 : AC := .seq (.ops 0 [⟨some 33,.mv (.t 7),none⟩,⟨some 34,.bd [.int .i64 0,.int .i64 0] [(0,1,(.t 33))],none⟩,⟨some 10,.al [.int .i64 0,.int .i64 0],none⟩,⟨none,.st (.t 10) (.t 34) 2,none⟩] [0,1,6,7,8,9,10,16,17,18]) c33_30
abbrev c33_32 : AC := .seq c33_6 c33_31
abbrev c33_33 : AC := .seq c33_3 c33_32
abbrev c33_34 : AC := .seq (.ops 0 [⟨some 23,.fa (.t 8) 0,none⟩,⟨some 24,.ld (.t 23) 1 false,none⟩,⟨some 25,.call 40 [(.t 24)],none⟩,⟨some 9,.as 0 0 (.t 25),none⟩] [0,1,6,7,8,9,16,17,18]) c33_33
abbrev c33_35 : AC := .seq (.ops 0 [⟨some 20,.mv (.t 18),none⟩,⟨some 21,.ia (.t 16) (.t 18) 7,none⟩,⟨some 22,.ld (.t 21) 7 true,none⟩,⟨some 8,.al [.int .i64 0,.int .i64 0,.str ⟨#[]⟩,.int .u64 0,.int .u64 0,.int .u64 0,.int .u64 0],none⟩,⟨some 7,.as 0 0 (.t 20),none⟩,⟨none,.st (.t 8) (.t 22) 7,none⟩] [0,1,6,7,8,16,17,18]) c33_34
abbrev c33_36 : AC := .block 1 c33_35
abbrev c33_37 : AC := .seq c33_36 (.ops 0 [⟨some 92,.bin .add (.t 18) (.k (.lf (.int .i64 1))),none⟩,⟨some 18,.mv (.t 92),none⟩] [0,1,6,16,17,18])
abbrev c33_38 : AC := .seq c33_0 c33_37
abbrev c33_39 : AC := .seq (.ops 0 [⟨some 19,.bin .lss (.t 18) (.t 17),none⟩] [0,1,6,16,17,18,19]) c33_38
abbrev c33_40 : AC := .loop c33_39 [0,1,6,16,17,18]
abbrev c33_41 : AC := .block 0 c33_40
abbrev c33_42 : AC := .seq (.ops 0 [⟨some 16,.mv (.t 0),none⟩,⟨some 17,.len (.t 16),none⟩,⟨some 18,.mv (.k (.lf (.int .i64 0))),none⟩] [0,1,6,16,17,18]) c33_41
abbrev c33_43 : AC := .seq (.ops 0 [⟨some 106,.mv (.t 0),none⟩,⟨some 107,.len (.t 106),none⟩,⟨some 4,.as 0 0 (.t 107),none⟩,⟨some 5,.as 0 0 (.k (.lf (.int .i64 42))),none⟩] [4,5]) .ret
abbrev c33_44 : AC := .cond (.t 105) c33_43 .skip
abbrev c33_45 : AC := .seq (.ops 0 [⟨some 93,.mv (.t 0),none⟩,⟨some 94,.len (.t 93),none⟩,⟨some 95,.bin .eql (.t 94) (.k (.lf (.int .i64 0))),none⟩,⟨some 96,.mv (.t 95),none⟩,⟨some 97,.mv (.t 6),some (96,false)⟩,⟨some 98,.mv (.t 0),some (96,false)⟩,⟨some 99,.len (.t 98),some (96,false)⟩,⟨some 100,.bin .sub (.t 99) (.k (.lf (.int .i64 1))),some (96,false)⟩,⟨some 101,.ia (.t 97) (.t 100) 2,some (96,false)⟩,⟨some 102,.fa (.t 101) 0,some (96,false)⟩,⟨some 103,.ld (.t 102) 1 false,some (96,false)⟩,⟨some 104,.bin .neq (.t 103) (.k (.lf (.int .i64 0))),some (96,false)⟩,⟨some 105,.pk (.t 96) (.k (.lf (.bool true))) (.t 104),none⟩] [0,105]) c33_44
abbrev c33_46 : AC := .seq (.ops 0 [⟨some 4,.as 0 0 (.k (.lf (.int .i64 0))),none⟩,⟨some 5,.as 0 0 (.k (.lf (.int .i64 0))),none⟩] [4,5]) .ret
abbrev c33_47 : AC := .seq c33_45 c33_46
abbrev c33_48 : AC := .seq c33_42 c33_47
abbrev c33_49 : AC := .seq (.ops 0 [⟨some 13,.mv (.t 0),none⟩,⟨some 14,.len (.t 13),none⟩,⟨some 15,.ms 79 2 16 [.int .i64 0,.int .i64 0] (.k (.lf (.int .i64 0))) (.t 14),none⟩,⟨some 6,.as 79 2 (.t 15),none⟩] [0,1,6]) c33_48
abbrev c33_50 : AC := .seq (.ops 0 [⟨some 4,.as 0 0 (.k (.lf (.int .i64 0))),none⟩,⟨some 5,.as 0 0 (.k (.lf (.int .i64 0))),none⟩] [0,1]) c33_49
abbrev c33 : AC := c33_50
theorem c33_ok : compileFn Tryz.prog 33 = some (108, AC.strip c33, [.t 4, .t 5]) := by kernel_rfl
abbrev c34 : AC := (.ops 0 [⟨(some 3), .bx (.t 1), none⟩] [])
theorem c34_ok : compileFn Tryz.prog 34 = some (4, AC.strip c34, []) := by kernel_rfl
abbrev c59_0 : AC := .seq (.ops 0 [⟨some 2,.as 0 0 (.k (.lf (.bool false))),none⟩] [2]) .ret
abbrev c59_1 : AC := .cond (.t 11) c59_0 .skip
abbrev c59_2 : AC := .seq (.ops 0 [⟨some 3,.fa (.t 1) 0,none⟩,⟨some 4,.ld (.t 3) 1 false,none⟩,⟨some 5,.bin .neq (.t 4) (.k (.lf (.int .i64 5))),none⟩,⟨some 6,.mv (.t 5),none⟩,⟨some 7,.fa (.t 1) 3,some (6,true)⟩,⟨some 8,.ld (.t 7) 4 true,some (6,true)⟩,⟨some 9,.bd [.int .u64 0,.int .u64 0,.int .u64 0,.int .u64 0] [],some (6,true)⟩,⟨some 10,.beq true [2,2,2,2] (.t 8) (.t 9),some (6,true)⟩,⟨some 11,.pk (.t 6) (.t 10) (.k (.lf (.bool false))),none⟩] [1,11]) c59_1
abbrev c59_3 : AC := .seq (.ops 0 [⟨some 2,.as 0 0 (.k (.lf (.bool false))),none⟩] [2]) .ret
abbrev c59_4 : AC := .cond (.t 30) c59_3 .skip
abbrev c59_5 : AC := .seq (.ops 0 [⟨some 12,.fa (.t 1) 1,none⟩,⟨some 13,.ld (.t 12) 1 false,none⟩,⟨some 14,.bin .lss (.t 13) (.k (.lf (.int .i64 0))),none⟩,⟨some 15,.mv (.t 14),none⟩,⟨some 16,.fa (.t 1) 1,some (15,false)⟩,⟨some 17,.ld (.t 16) 1 false,some (15,false)⟩,⟨some 18,.bin .gtr (.t 17) (.k (.lf (.int .i64 50))),some (15,false)⟩,⟨some 19,.pk (.t 15) (.k (.lf (.bool true))) (.t 18),none⟩,⟨some 20,.mv (.t 19),none⟩,⟨some 21,.fa (.t 1) 1,some (20,false)⟩,⟨some 22,.ld (.t 21) 1 false,some (20,false)⟩,⟨some 23,.bin .gtr (.t 22) (.k (.lf (.int .i64 0))),some (20,false)⟩,⟨some 24,.mv (.t 23),some (20,false)⟩,⟨some 25,.fa (.t 1) 0,some (24,true)⟩,⟨some 26,.ld (.t 25) 1 false,some (24,true)⟩,⟨some 27,.call 84 [(.t 26)],some (24,true)⟩,⟨some 28,.un .not (.t 27),some (24,true)⟩,⟨some 29,.pk (.t 24) (.t 28) (.k (.lf (.bool false))),some (20,false)⟩,⟨some 30,.pk (.t 20) (.k (.lf (.bool true))) (.t 29),none⟩] [1,30]) c59_4
abbrev c59_6 : AC := .seq (.ops 0 [⟨some 35,.fa (.t 1) 2,none⟩,⟨some 36,.ld (.t 35) 1 false,none⟩,⟨some 37,.bin .neq (.t 36) (.k (.lf (.str ⟨#[]⟩))),none⟩,⟨some 38,.mv (.t 37),none⟩,⟨some 39,.fa (.t 1) 2,some (38,true)⟩,⟨some 40,.ld (.t 39) 1 false,some (38,true)⟩,⟨some 41,.lns (.t 40),some (38,true)⟩,⟨some 42,.bin .leq (.t 41) (.k (.lf (.int .i64 255))),some (38,true)⟩,⟨some 43,.pk (.t 38) (.t 42) (.k (.lf (.bool false))),none⟩,⟨some 2,.as 0 0 (.t 43),none⟩] [2]) .ret
abbrev c59_7 : AC := .seq (.ops 0 [⟨some 46,.fa (.t 1) 2,none⟩,⟨some 47,.ld (.t 46) 1 false,none⟩,⟨some 48,.call 85 [(.t 47)],none⟩,⟨some 2,.as 0 0 (.t 48),none⟩] [2]) .ret
abbrev c59_8 : AC := .seq (.ops 0 [⟨some 51,.fa (.t 1) 2,none⟩,⟨some 52,.ld (.t 51) 1 false,none⟩,⟨some 53,.bin .eql (.t 52) (.k (.lf (.str ⟨#[]⟩))),none⟩,⟨some 54,.mv (.t 53),none⟩,⟨some 55,.fa (.t 1) 2,some (54,false)⟩,⟨some 56,.ld (.t 55) 1 false,some (54,false)⟩,⟨some 57,.call 85 [(.t 56)],some (54,false)⟩,⟨some 58,.pk (.t 54) (.k (.lf (.bool true))) (.t 57),none⟩,⟨some 2,.as 0 0 (.t 58),none⟩] [2]) .ret
abbrev c59_9 : AC := .seq (.ops 0 [⟨some 61,.fa (.t 1) 2,none⟩,⟨some 62,.ld (.t 61) 1 false,none⟩,⟨some 63,.call 86 [(.t 62)],none⟩,⟨some 2,.as 0 0 (.t 63),none⟩] [2]) .ret
abbrev c59_10 : AC := .cond (.t 59) c59_9 .skip
abbrev c59_11 : AC := .seq (.ops 0 [⟨some 60,.bin .eql (.t 32) (.k (.lf (.int .i64 22))),none⟩,⟨some 59,.as 0 0 (.t 60),none⟩] [1,59]) c59_10
abbrev c59_12 : AC := .cond (.t 49) c59_8 c59_11
abbrev c59_13 : AC := .seq (.ops 0 [⟨some 50,.bin .eql (.t 32) (.k (.lf (.int .i64 19))),none⟩,⟨some 49,.as 0 0 (.t 50),none⟩] [1,32,49]) c59_12
abbrev c59_14 : AC := .cond (.t 44) c59_7 c59_13
abbrev c59_15 : AC := .seq (.ops 0 [⟨some 45,.bin .eql (.t 32) (.k (.lf (.int .i64 6))),none⟩,⟨some 44,.as 0 0 (.t 45),none⟩] [1,32,44]) c59_14
abbrev c59_16 : AC := .cond (.t 33) c59_6 c59_15
abbrev c59_17 : AC := .seq (.ops 0 [⟨some 34,.bin .eql (.t 32) (.k (.lf (.int .i64 4))),none⟩,⟨some 33,.as 0 0 (.t 34),none⟩] [1,32,33]) c59_16
abbrev c59_18 : AC := .block 0 c59_17
abbrev c59_19 : AC := .seq (.ops 0 [⟨some 31,.fa (.t 1) 0,none⟩,⟨some 32,.ld (.t 31) 1 false,none⟩] [1,32]) c59_18
abbrev c59_20 : AC := .seq (.ops 0 [⟨some 64,.fa (.t 1) 2,none⟩,⟨some 65,.ld (.t 64) 1 false,none⟩,⟨some 66,.bin .eql (.t 65) (.k (.lf (.str ⟨#[]⟩))),none⟩,⟨some 2,.as 0 0 (.t 66),none⟩] [2]) .ret
abbrev c59_21 : AC := .seq c59_19 c59_20
abbrev c59_22 : AC := .seq c59_5 c59_21
abbrev c59_23 : AC := .seq c59_2 c59_22
abbrev c59_24 : AC := .seq (.ops 0 [⟨some 1,.bx (.t 0),none⟩,⟨some 2,.as 0 0 (.k (.lf (.bool false))),none⟩] [1]) c59_23
abbrev c59 : AC := c59_24
theorem c59_ok : compileFn Tryz.prog 59 = some (67, AC.strip c59, [.t 2]) := by kernel_rfl
abbrev c84_0 : AC := .seq (.ops 0 [⟨some 3,.mv (.t 0),none⟩,⟨some 4,.bin .geq (.t 3) (.k (.lf (.int .i64 14))),none⟩,⟨some 5,.mv (.t 4),none⟩,⟨some 6,.mv (.t 0),some (5,true)⟩,⟨some 7,.bin .leq (.t 6) (.k (.lf (.int .i64 16))),some (5,true)⟩,⟨some 8,.pk (.t 5) (.t 7) (.k (.lf (.bool false))),none⟩,⟨some 9,.mv (.t 8),none⟩,⟨some 10,.mv (.t 0),some (9,false)⟩,⟨some 11,.bin .eql (.t 10) (.k (.lf (.int .i64 23))),some (9,false)⟩,⟨some 12,.pk (.t 9) (.k (.lf (.bool true))) (.t 11),none⟩,⟨some 2,.as 0 0 (.t 12),none⟩] [2]) .ret
abbrev c84_1 : AC := .seq (.ops 0 [⟨some 2,.as 0 0 (.k (.lf (.bool false))),none⟩] [0]) c84_0
abbrev c84 : AC := c84_1
theorem c84_ok : compileFn Tryz.prog 84 = some (13, AC.strip c84, [.t 2]) := by kernel_rfl
abbrev c85_0 : AC := .seq (.ops 0 [⟨some 2,.as 0 0 (.k (.lf (.bool false))),none⟩] [2]) .ret
abbrev c85_1 : AC := .cond (.t 16) c85_0 .skip
abbrev c85_2 : AC := .seq (.ops 0 [⟨some 4,.mv (.t 0),none⟩,⟨some 5,.bin .eql (.t 4) (.k (.lf (.str ⟨#[]⟩))),none⟩,⟨some 6,.mv (.t 5),none⟩,⟨some 7,.mv (.t 0),some (6,false)⟩,⟨some 8,.lns (.t 7),some (6,false)⟩,⟨some 9,.bin .gtr (.t 8) (.k (.lf (.int .i64 32))),some (6,false)⟩,⟨some 10,.pk (.t 6) (.k (.lf (.bool true))) (.t 9),none⟩,⟨some 11,.mv (.t 10),none⟩,⟨some 12,.mv (.t 0),some (11,false)⟩,⟨some 13,.ixs (.t 12) (.k (.lf (.int .i64 0))),some (11,false)⟩,⟨some 14,.call 119 [(.t 13)],some (11,false)⟩,⟨some 15,.un .not (.t 14),some (11,false)⟩,⟨some 16,.pk (.t 11) (.k (.lf (.bool true))) (.t 15),none⟩] [0,16]) c85_1
abbrev c85_3 : AC := .cond (.t 20) .skip (.exit 0)
abbrev c85_4 : AC := .seq (.ops 0 [⟨some 2,.as 0 0 (.k (.lf (.bool false))),none⟩] [2]) .ret
abbrev c85_5 : AC := .cond (.t 38) c85_4 .skip
abbrev c85_6 : AC := .seq (.ops 0 [⟨some 22,.mv (.t 0),none⟩,⟨some 23,.mv (.t 3),none⟩,⟨some 24,.ixs (.t 22) (.t 23),none⟩,⟨some 25,.call 119 [(.t 24)],none⟩,⟨some 26,.un .not (.t 25),none⟩,⟨some 27,.mv (.t 26),none⟩,⟨some 28,.mv (.t 0),some (27,true)⟩,⟨some 29,.mv (.t 3),some (27,true)⟩,⟨some 30,.ixs (.t 28) (.t 29),some (27,true)⟩,⟨some 31,.bin .lss (.t 30) (.k (.lf (.int .u8 48))),some (27,true)⟩,⟨some 32,.mv (.t 31),some (27,true)⟩,⟨some 33,.mv (.t 0),some (32,false)⟩,⟨some 34,.mv (.t 3),some (32,false)⟩,⟨some 35,.ixs (.t 33) (.t 34),some (32,false)⟩,⟨some 36,.bin .gtr (.t 35) (.k (.lf (.int .u8 57))),some (32,false)⟩,⟨some 37,.pk (.t 32) (.k (.lf (.bool true))) (.t 36),some (27,true)⟩,⟨some 38,.pk (.t 27) (.t 37) (.k (.lf (.bool false))),none⟩] [0,18,19,38]) c85_5
abbrev c85_7 : AC := .seq (.ops 0 [⟨some 21,.mv (.t 19),none⟩,⟨some 3,.as 0 0 (.t 21),none⟩] [0,3,18,19]) c85_6
abbrev c85_8 : AC := .block 1 c85_7
abbrev c85_9 : AC := .seq c85_8 (.ops 0 [⟨some 39,.bin .add (.t 19) (.k (.lf (.int .i64 1))),none⟩,⟨some 19,.mv (.t 39),none⟩] [0,18,19])
abbrev c85_10 : AC := .seq c85_3 c85_9
abbrev c85_11 : AC := .seq (.ops 0 [⟨some 20,.bin .lss (.t 19) (.t 18),none⟩] [0,18,19,20]) c85_10
abbrev c85_12 : AC := .loop c85_11 [0,18,19]
abbrev c85_13 : AC := .block 0 c85_12
abbrev c85_14 : AC := .seq (.ops 0 [⟨some 17,.mv (.t 0),none⟩,⟨some 18,.lns (.t 17),none⟩,⟨some 19,.mv (.k (.lf (.int .i64 0))),none⟩] [0,18,19]) c85_13
abbrev c85_15 : AC := .seq (.ops 0 [⟨some 2,.as 0 0 (.k (.lf (.bool true))),none⟩] [2]) .ret
abbrev c85_16 : AC := .seq c85_14 c85_15
abbrev c85_17 : AC := .seq c85_2 c85_16
abbrev c85_18 : AC := .seq (.ops 0 [⟨some 2,.as 0 0 (.k (.lf (.bool false))),none⟩] [0]) c85_17
abbrev c85 : AC := c85_18
theorem c85_ok : compileFn Tryz.prog 85 = some (40, AC.strip c85, [.t 2]) := by kernel_rfl
abbrev c86_0 : AC := .seq (.ops 0 [⟨some 2,.as 0 0 (.k (.lf (.bool false))),none⟩] [2]) .ret
abbrev c86_1 : AC := .cond (.t 6) c86_0 .skip
abbrev c86_2 : AC := .seq (.ops 0 [⟨some 4,.mv (.t 0),none⟩,⟨some 5,.lns (.t 4),none⟩,⟨some 6,.bin .gtr (.t 5) (.k (.lf (.int .i64 255))),none⟩] [0,6]) c86_1
abbrev c86_3 : AC := .cond (.t 10) .skip (.exit 0)
abbrev c86_4 : AC := .seq (.ops 0 [⟨some 7,.mv (.t 3),none⟩,⟨some 8,.mv (.t 0),none⟩,⟨some 9,.lns (.t 8),none⟩,⟨some 10,.bin .lss (.t 7) (.t 9),none⟩] [0,3,10]) c86_3
abbrev c86_5 : AC := .cond (.t 16) (.exit 1) .skip
abbrev c86_6 : AC := .seq (.ops 0 [⟨some 13,.mv (.t 0),none⟩,⟨some 14,.mv (.t 3),none⟩,⟨some 15,.ixs (.t 13) (.t 14),none⟩,⟨some 16,.bin .neq (.t 15) (.k (.lf (.int .u8 37))),none⟩] [0,3,16]) c86_5
abbrev c86_7 : AC := .seq (.ops 0 [⟨some 2,.as 0 0 (.k (.lf (.bool false))),none⟩] [2]) .ret
abbrev c86_8 : AC := .cond (.t 40) c86_7 .skip
abbrev c86_9 : AC := .seq (.ops 0 [⟨some 19,.mv (.t 3),none⟩,⟨some 20,.mv (.t 0),none⟩,⟨some 21,.lns (.t 20),none⟩,⟨some 22,.bin .eql (.t 19) (.t 21),none⟩,⟨some 23,.mv (.t 22),none⟩,⟨some 24,.mv (.t 0),some (23,false)⟩,⟨some 25,.mv (.t 3),some (23,false)⟩,⟨some 26,.ixs (.t 24) (.t 25),some (23,false)⟩,⟨some 27,.bin .neq (.t 26) (.k (.lf (.int .u8 37))),some (23,false)⟩,⟨some 28,.mv (.t 27),some (23,false)⟩,⟨some 29,.mv (.t 0),some (28,true)⟩,⟨some 30,.mv (.t 3),some (28,true)⟩,⟨some 31,.ixs (.t 29) (.t 30),some (28,true)⟩,⟨some 32,.bin .lss (.t 31) (.k (.lf (.int .u8 48))),some (28,true)⟩,⟨some 33,.mv (.t 32),some (28,true)⟩,⟨some 34,.mv (.t 0),some (33,false)⟩,⟨some 35,.mv (.t 3),some (33,false)⟩,⟨some 36,.ixs (.t 34) (.t 35),some (33,false)⟩,⟨some 37,.bin .gtr (.t 36) (.k (.lf (.int .u8 57))),some (33,false)⟩,⟨some 38,.pk (.t 33) (.k (.lf (.bool true))) (.t 37),some (28,true)⟩,⟨some 39,.pk (.t 28) (.t 38) (.k (.lf (.bool false))),some (23,false)⟩,⟨some 40,.pk (.t 23) (.k (.lf (.bool true))) (.t 39),none⟩] [0,3,40]) c86_8
abbrev c86_10 : AC := .seq (.ops 0 [⟨some 17,.mv (.t 3),none⟩,⟨some 18,.bin .add (.t 17) (.k (.lf (.int .i64 1))),none⟩,⟨some 3,.as 0 0 (.t 18),none⟩] [0,3]) c86_9
abbrev c86_11 : AC := .seq c86_6 c86_10
abbrev c86_12 : AC := .block 1 c86_11
abbrev c86_13 : AC := .seq c86_12 (.ops 0 [⟨some 11,.mv (.t 3),none⟩,⟨some 12,.bin .add (.t 11) (.k (.lf (.int .i64 1))),none⟩,⟨some 3,.as 0 0 (.t 12),none⟩] [0,3])
abbrev c86_14 : AC := .seq c86_4 c86_13
abbrev c86_15 : AC := .loop c86_14 [0,3]
abbrev c86_16 : AC := .block 0 c86_15
abbrev c86_17 : AC := .seq (.ops 0 [⟨some 3,.as 0 0 (.k (.lf (.int .i64 0))),none⟩] [0,3]) c86_16
abbrev c86_18 : AC := .seq (.ops 0 [⟨some 2,.as 0 0 (.k (.lf (.bool true))),none⟩] [2]) .ret
abbrev c86_19 : AC := .seq c86_17 c86_18
abbrev c86_20 : AC := .seq c86_2 c86_19
abbrev c86_21 : AC := .seq (.ops 0 [⟨some 2,.as 0 0 (.k (.lf (.bool false))),none⟩] [0]) c86_20
abbrev c86 : AC := c86_21
theorem c86_ok : compileFn Tryz.prog 86 = some (41, AC.strip c86, [.t 2]) := by kernel_rfl
abbrev c119_0 : AC := .seq (.ops 0 [⟨some 3,.mv (.t 0),none⟩,⟨some 4,.bin .or (.t 3) (.k (.lf (.int .u8 32))),none⟩,⟨some 5,.bin .geq (.t 4) (.k (.lf (.int .u8 97))),none⟩,⟨some 6,.mv (.t 5),none⟩,⟨some 7,.mv (.t 0),some (6,true)⟩,⟨some 8,.bin .or (.t 7) (.k (.lf (.int .u8 32))),some (6,true)⟩,⟨some 9,.bin .leq (.t 8) (.k (.lf (.int .u8 122))),some (6,true)⟩,⟨some 10,.pk (.t 6) (.t 9) (.k (.lf (.bool false))),none⟩,⟨some 11,.mv (.t 10),none⟩,⟨some 12,.mv (.t 0),some (11,true)⟩,⟨some 13,.bin .lss (.t 12) (.k (.lf (.int .u8 128))),some (11,true)⟩,⟨some 14,.pk (.t 11) (.t 13) (.k (.lf (.bool false))),none⟩,⟨some 15,.mv (.t 14),none⟩,⟨some 16,.mv (.t 0),some (15,false)⟩,⟨some 17,.bin .eql (.t 16) (.k (.lf (.int .u8 95))),some (15,false)⟩,⟨some 18,.pk (.t 15) (.k (.lf (.bool true))) (.t 17),none⟩,⟨some 2,.as 0 0 (.t 18),none⟩] [2]) .ret
abbrev c119_1 : AC := .seq (.ops 0 [⟨some 2,.as 0 0 (.k (.lf (.bool false))),none⟩] [0]) c119_0
abbrev c119 : AC := c119_1
theorem c119_ok : compileFn Tryz.prog 119 = some (19, AC.strip c119, [.t 2]) := by kernel_rfl
end Go.Proofs.YtdoefdmaecaacaaGreatDoor.S
set_option maxRecDepth 100000
namespace Go.Proofs.YtdoefdmaecaacaaGreatDoor.S
open Go Go.Proofs.YtdoefdmaecaacaaGreatDoor.AM
abbrev c26_0 : AC := .seq (.gdt (.one ⟨some 18,.mv (.t 0),none⟩ (.one ⟨some 19,.mv (.t 6),none⟩ (.one ⟨some 20,.nc (.t 19),none⟩ (.one ⟨some 21,.fa (.t 20) 2,none⟩ (.alt (.one ⟨some 22,.ld (.t 21) 1 false,none⟩ (.alt (.one ⟨some 23,.un .not (.t 22),none⟩ (.one ⟨some 4,.as 5 1 (.t 18),none⟩ (.one ⟨some 5,.as 0 0 (.t 23),none⟩ .nil))) (.one ⟨some 4,.as 5 1 (.t 18),none⟩ (.one ⟨some 23,.un .not (.t 22),none⟩ (.one ⟨some 5,.as 0 0 (.t 23),none⟩ .nil))))) (.one ⟨some 4,.as 5 1 (.t 18),none⟩ (.one ⟨some 22,.ld (.t 21) 1 false,none⟩ (.one ⟨some 23,.un .not (.t 22),none⟩ (.one ⟨some 5,.as 0 0 (.t 23),none⟩ .nil))))))))) [4,5]) .ret
abbrev c26_1 : AC := .seq (.ops 0 [⟨some 12,.mv (.t 6),none⟩,⟨some 13,.mv (.t 0),none⟩,⟨some 14,.mv (.t 1),none⟩,⟨some 15,.len (.t 14),none⟩,⟨some 16,.bin .sub (.t 15) (.k (.lf (.int .i64 1))),none⟩,⟨some 17,.callg 43 0 [(.t 12),(.t 13),(.t 16),(.k (.lf (.int .i64 0)))],none⟩,⟨some 0,.as 5 1 (.t 17),none⟩] [0,6]) c26_0
abbrev c26_2 : AC := .seq (.ops 0 [⟨some 7,.mv (.t 1),none⟩,⟨some 8,.mv (.t 1),none⟩,⟨some 9,.call 28 [(.t 8)],none⟩,⟨some 10,.bd [.lst .nl 7 [] [],.lst .nl 1 [] [],.bool false] [(0,1,(.t 7)),(1,1,(.t 9))],none⟩,⟨some 11,.bx (.t 10),none⟩,⟨some 6,.as 0 0 (.t 11),none⟩] [0,1,6]) c26_1
abbrev c26_3 : AC := .seq (.ops 0 [⟨some 4,.as 5 1 (.k (.lf (.lst .nl 1 [] []))),none⟩,⟨some 5,.as 0 0 (.k (.lf (.bool false))),none⟩] [0,1]) c26_2
abbrev c26 : AC := c26_3
theorem c26_ok : compileFn Tryz.prog 26 = some (24, AC.strip c26, [.t 4, .t 5]) := by kernel_rfl
abbrev c25_0 : AC := .seq (.ops 0 [⟨some 2,.as 0 0 (.k (.lf (.int .i64 0))),none⟩,⟨some 3,.as 0 0 (.k (.lf (.int .i64 2))),none⟩] [2,3]) .ret
abbrev c25_1 : AC := .cond (.t 10) c25_0 .skip
abbrev c25_2 : AC := .seq (.ops 0 [⟨some 8,.mv (.t 0),none⟩,⟨some 9,.len (.t 8),none⟩,⟨some 10,.bin .gtr (.t 9) (.k (.lf (.int .i64 2048))),none⟩] [0,10]) c25_1
abbrev c25_3 : AC := .seq (.ops 0 [⟨some 20,.mv (.t 6),none⟩,⟨some 21,.mv (.t 7),none⟩,⟨some 2,.as 0 0 (.t 20),none⟩,⟨some 3,.as 0 0 (.t 21),none⟩] [2,3]) .ret
abbrev c25_4 : AC := .cond (.t 19) c25_3 .skip
abbrev c25_5 : AC := .seq (.ops 0 [⟨some 18,.mv (.t 7),none⟩,⟨some 19,.bin .neq (.t 18) (.k (.lf (.int .i64 0))),none⟩] [0,4,6,7,19]) c25_4
abbrev c25_6 : AC := .seq (.ops 0 [⟨some 34,.mv (.t 0),none⟩,⟨some 35,.len (.t 34),none⟩,⟨some 2,.as 0 0 (.t 35),none⟩,⟨some 3,.as 0 0 (.k (.lf (.int .i64 42))),none⟩] [2,3]) .ret
abbrev c25_7 : AC := .cond (.t 33) c25_6 .skip
abbrev c25_8 : AC := .seq (.ops 0 [⟨some 22,.mv (.t 0),none⟩,⟨some 23,.len (.t 22),none⟩,⟨some 24,.bin .eql (.t 23) (.k (.lf (.int .i64 0))),none⟩,⟨some 25,.mv (.t 24),none⟩,⟨some 26,.mv (.t 4),some (25,false)⟩,⟨some 27,.mv (.t 0),some (25,false)⟩,⟨some 28,.len (.t 27),some (25,false)⟩,⟨some 29,.bin .sub (.t 28) (.k (.lf (.int .i64 1))),some (25,false)⟩,⟨some 30,.ia (.t 26) (.t 29) 1,some (25,false)⟩,⟨some 31,.ld (.t 30) 1 false,some (25,false)⟩,⟨some 32,.bin .neq (.t 31) (.k (.lf (.int .i64 0))),some (25,false)⟩,⟨some 33,.pk (.t 25) (.k (.lf (.bool true))) (.t 32),none⟩] [0,33]) c25_7
abbrev c25_9 : AC := .seq (.ops 0 [⟨some 2,.as 0 0 (.k (.lf (.int .i64 0))),none⟩,⟨some 3,.as 0 0 (.k (.lf (.int .i64 0))),none⟩] [2,3]) .ret
abbrev c25_10 : AC := .seq c25_8 c25_9
abbrev c25_11 : AC := .seq c25_5 c25_10
abbrev c25_12 : AC := .seq (.ops 0 [⟨some 12,.mv (.t 0),none⟩,⟨some 13,.call 42 [(.t 12)],none⟩,⟨some 11,.mv (.t 13),none⟩,⟨some 14,.ext (.t 11) 0,none⟩,⟨some 15,.ext (.t 11) 1,none⟩,⟨some 16,.ext (.t 11) 2,none⟩,⟨some 17,.ext (.t 11) 3,none⟩,⟨some 4,.as 3 1 (.t 14),none⟩,⟨some 5,.as 3 1 (.t 15),none⟩,⟨some 6,.as 0 0 (.t 16),none⟩,⟨some 7,.as 0 0 (.t 17),none⟩] [0,4,6,7]) c25_11
abbrev c25_13 : AC := .seq c25_2 c25_12
abbrev c25_14 : AC := .seq (.ops 0 [⟨some 2,.as 0 0 (.k (.lf (.int .i64 0))),none⟩,⟨some 3,.as 0 0 (.k (.lf (.int .i64 0))),none⟩] [0]) c25_13
abbrev c25 : AC := c25_14
theorem c25_ok : compileFn Tryz.prog 25 = some (36, AC.strip c25, [.t 2, .t 3]) := by kernel_rfl
abbrev c28_0 : AC := .seq (.ops 0 [⟨some 14,.mv (.t 3),none⟩,⟨some 2,.as 3 1 (.t 14),none⟩] [2]) .ret
abbrev c28_1 : AC := .seq (.ops 0 [⟨some 8,.mv (.t 0),none⟩,⟨some 9,.call 42 [(.t 8)],none⟩,⟨some 7,.mv (.t 9),none⟩,⟨some 10,.ext (.t 7) 0,none⟩,⟨some 11,.ext (.t 7) 1,none⟩,⟨some 12,.ext (.t 7) 2,none⟩,⟨some 13,.ext (.t 7) 3,none⟩,⟨some 3,.as 3 1 (.t 10),none⟩,⟨some 4,.as 3 1 (.t 11),none⟩,⟨some 5,.as 0 0 (.t 12),none⟩,⟨some 6,.as 0 0 (.t 13),none⟩] [3]) c28_0
abbrev c28_2 : AC := .seq (.ops 0 [⟨some 2,.as 3 1 (.k (.lf (.lst .nl 1 [] []))),none⟩] [0]) c28_1
abbrev c28 : AC := c28_2
theorem c28_ok : compileFn Tryz.prog 28 = some (15, AC.strip c28, [.t 2]) := by kernel_rfl
abbrev c43_0 : AC := .seq (.ops 0 [⟨some 14,.mv (.t 1),none⟩,⟨some 8,.as 5 1 (.t 14),none⟩] [8]) .ret
abbrev c43_1 : AC := .cond (.t 13) c43_0 .skip
abbrev c43_2 : AC := .seq (.ops 0 [⟨some 10,.mv (.t 0),none⟩,⟨some 11,.nc (.t 10),none⟩,⟨some 12,.fa (.t 11) 2,none⟩,⟨some 13,.ld (.t 12) 1 false,none⟩] [0,1,2,3,13]) c43_1
abbrev c43_3 : AC := .cond (.t 26) (.ops 0 [⟨some 27,.mv (.t 0),none⟩,⟨some 28,.mv (.t 1),none⟩,⟨some 29,.callg 47 0 [(.t 27),(.t 28),(.k (.lf (.str ⟨#[40]⟩)))],none⟩,⟨some 1,.as 5 1 (.t 29),none⟩] [0,1,2,9]) .skip
abbrev c43_4 : AC := .seq (.ops 0 [⟨some 26,.mv (.t 9),none⟩] [0,1,2,9,26]) c43_3
abbrev c43_5 : AC := .cond (.t 34) (.ops 0 [⟨some 35,.mv (.t 0),none⟩,⟨some 36,.mv (.t 1),none⟩,⟨some 37,.callg 47 0 [(.t 35),(.t 36),(.k (.lf (.str ⟨#[41]⟩)))],none⟩,⟨some 1,.as 5 1 (.t 37),none⟩] [1]) .skip
abbrev c43_6 : AC := .seq (.ops 0 [⟨some 34,.mv (.t 9),none⟩] [0,1,34]) c43_5
abbrev c43_7 : AC := .seq (.ops 0 [⟨some 38,.mv (.t 1),none⟩,⟨some 8,.as 5 1 (.t 38),none⟩] [8]) .ret
abbrev c43_8 : AC := .seq c43_6 c43_7
abbrev c43_9 : AC := .seq (.ops 0 [⟨some 30,.mv (.t 0),none⟩,⟨some 31,.mv (.t 1),none⟩,⟨some 32,.mv (.t 2),none⟩,⟨some 33,.callg 68 0 [(.t 30),(.t 31),(.t 32)],none⟩,⟨some 1,.as 5 1 (.t 33),none⟩] [0,1,9]) c43_8
abbrev c43_10 : AC := .seq c43_4 c43_9
abbrev c43_11 : AC := .seq (.ops 0 [⟨some 15,.mv (.t 0),none⟩,⟨some 16,.nc (.t 15),none⟩,⟨some 17,.fa (.t 16) 0,none⟩,⟨some 18,.ld (.t 17) 1 false,none⟩,⟨some 19,.mv (.t 2),none⟩,⟨some 20,.ia (.t 18) (.t 19) 7,none⟩,⟨some 21,.fa (.t 20) 0,none⟩,⟨some 22,.ld (.t 21) 1 false,none⟩,⟨some 23,.call 67 [(.t 22)],none⟩,⟨some 24,.mv (.t 3),none⟩,⟨some 25,.bin .lss (.t 23) (.t 24),none⟩,⟨some 9,.as 0 0 (.t 25),none⟩] [0,1,2,9]) c43_10
abbrev c43_12 : AC := .seq c43_2 c43_11
abbrev c43_13 : AC := .seq (.ops 0 [⟨some 8,.as 5 1 (.k (.lf (.lst .nl 1 [] []))),none⟩] [0,1,2,3]) c43_12
abbrev c43 : AC := c43_13
theorem c43_ok : compileFn Tryz.prog 43 = some (39, AC.strip c43, [.t 8]) := by kernel_rfl
abbrev c42_0 : AC := .cond (.t 18) .skip (.exit 0)
abbrev c42_1 : AC := .seq (.ops 0 [⟨some 15,.mv (.t 8),none⟩,⟨some 16,.mv (.t 0),none⟩,⟨some 17,.len (.t 16),none⟩,⟨some 18,.bin .lss (.t 15) (.t 17),none⟩] [0,6,7,8,18]) c42_0
abbrev c42_2 : AC := .seq (.ops 0 [⟨some 30,.mv (.t 8),none⟩,⟨some 2,.as 3 1 (.k (.lf (.lst .nl 1 [] []))),none⟩,⟨some 3,.as 3 1 (.k (.lf (.lst .nl 1 [] []))),none⟩,⟨some 4,.as 0 0 (.t 30),none⟩,⟨some 5,.as 0 0 (.k (.lf (.int .i64 40))),none⟩] [2,3,4,5]) .ret
abbrev c42_3 : AC := .cond (.t 29) c42_2 .skip
abbrev c42_4 : AC := .seq (.ops 0 [⟨some 28,.mv (.t 10),none⟩,⟨some 29,.bin .lss (.t 28) (.k (.lf (.int .i64 0))),none⟩] [0,6,7,8,9,10,29]) c42_3
abbrev c42_5 : AC := .seq (.ops 0 [⟨some 34,.mv (.t 8),none⟩,⟨some 2,.as 3 1 (.k (.lf (.lst .nl 1 [] []))),none⟩,⟨some 3,.as 3 1 (.k (.lf (.lst .nl 1 [] []))),none⟩,⟨some 4,.as 0 0 (.t 34),none⟩,⟨some 5,.as 0 0 (.k (.lf (.int .i64 41))),none⟩] [2,3,4,5]) .ret
abbrev c42_6 : AC := .cond (.t 33) c42_5 .skip
abbrev c42_7 : AC := .seq (.ops 0 [⟨some 31,.ld (.t 9) 7 true,none⟩,⟨some 32,.call 66 [(.t 31)],none⟩,⟨some 33,.un .not (.t 32),none⟩] [0,6,7,8,9,10,33]) c42_6
abbrev c42_8 : AC := .cond (.t 38) .skip (.exit 2)
abbrev c42_9 : AC := .seq (.ops 0 [⟨some 37,.mv (.t 13),none⟩,⟨some 38,.bin .gtr (.t 37) (.k (.lf (.int .i64 0))),none⟩] [0,6,7,8,9,10,11,12,13,38]) c42_8
abbrev c42_10 : AC := .seq (.ops 0 [⟨some 43,.mv (.t 8),none⟩,⟨some 2,.as 3 1 (.k (.lf (.lst .nl 1 [] []))),none⟩,⟨some 3,.as 3 1 (.k (.lf (.lst .nl 1 [] []))),none⟩,⟨some 4,.as 0 0 (.t 43),none⟩,⟨some 5,.as 0 0 (.k (.lf (.int .i64 42))),none⟩] [2,3,4,5]) .ret
abbrev c42_11 : AC := .cond (.t 42) c42_10 .skip
abbrev c42_12 : AC := .seq (.ops 0 [⟨some 41,.mv (.t 11),none⟩,⟨some 42,.bin .eql (.t 41) (.k (.lf (.int .i64 0))),none⟩] [0,6,7,8,9,10,11,12,13,42]) c42_11
abbrev c42_13 : AC := .cond (.t 65) (.ops 0 [⟨some 66,.mv (.t 14),none⟩,⟨some 67,.bin .sub (.t 66) (.k (.lf (.int .i64 1))),none⟩,⟨some 14,.as 0 0 (.t 67),none⟩] [0,6,7,8,9,10,11,12,13,14]) .skip
abbrev c42_14 : AC := .seq (.ops 2 [⟨some 49,.mv (.t 13),none⟩,⟨some 50,.bin .eql (.t 49) (.k (.lf (.int .i64 1))),none⟩,⟨some 51,.mv (.t 50),none⟩,⟨some 52,.mv (.t 10),some (51,true)⟩,⟨some 53,.bin .eql (.t 52) (.k (.lf (.int .i64 2))),some (51,true)⟩,⟨some 54,.pk (.t 51) (.t 53) (.k (.lf (.bool false))),none⟩,⟨some 55,.mv (.t 54),none⟩,⟨some 56,.mv (.t 0),some (55,true)⟩,⟨some 57,.mv (.t 11),some (55,true)⟩,⟨some 58,.bin .sub (.t 57) (.k (.lf (.int .i64 1))),some (55,true)⟩,⟨some 59,.ia (.t 56) (.t 58) 7,some (55,true)⟩,⟨some 60,.fa (.t 59) 0,some (55,true)⟩,⟨some 61,.ld (.t 60) 1 false,some (55,true)⟩,⟨some 62,.fa (.t 9) 0,some (55,true)⟩,⟨some 63,.ld (.t 62) 1 false,some (55,true)⟩,⟨some 64,.bin .eql (.t 61) (.t 63),some (55,true)⟩,⟨some 65,.pk (.t 55) (.t 64) (.k (.lf (.bool false))),none⟩] [0,6,7,8,9,10,11,12,13,14,65]) c42_13
abbrev c42_15 : AC := .seq (.ops 0 [⟨some 68,.mv (.t 12),none⟩,⟨some 69,.mv (.t 14),none⟩,⟨some 70,.mm true (.t 68) (.t 69),none⟩,⟨some 12,.as 0 0 (.t 70),none⟩] [0,6,7,8,9,10,11,12,13]) (.ops 0 [⟨some 71,.mv (.t 6),none⟩,⟨some 72,.mv (.t 11),none⟩,⟨some 73,.bin .sub (.t 72) (.k (.lf (.int .i64 1))),none⟩,⟨some 74,.ia (.t 71) (.t 73) 1,none⟩,⟨some 75,.ld (.t 74) 1 false,none⟩,⟨some 11,.as 0 0 (.t 75),none⟩] [0,6,7,8,9,10,11,12,13])
abbrev c42_16 : AC := .seq c42_14 c42_15
abbrev c42_17 : AC := .seq (.ops 0 [⟨some 44,.mv (.t 7),none⟩,⟨some 45,.mv (.t 11),none⟩,⟨some 46,.bin .sub (.t 45) (.k (.lf (.int .i64 1))),none⟩,⟨some 47,.ia (.t 44) (.t 46) 1,none⟩,⟨some 48,.ld (.t 47) 1 false,none⟩,⟨some 14,.as 0 0 (.t 48),none⟩] [0,6,7,8,9,10,11,12,13,14]) c42_16
abbrev c42_18 : AC := .seq c42_12 c42_17
abbrev c42_19 : AC := .block 3 c42_18
abbrev c42_20 : AC := .seq c42_19 (.ops 0 [⟨some 39,.mv (.t 13),none⟩,⟨some 40,.bin .sub (.t 39) (.k (.lf (.int .i64 1))),none⟩,⟨some 13,.as 0 0 (.t 40),none⟩] [0,6,7,8,9,10,11,12,13])
abbrev c42_21 : AC := .seq c42_9 c42_20
abbrev c42_22 : AC := .loop c42_21 [0,6,7,8,9,10,11,12,13]
abbrev c42_23 : AC := .block 2 c42_22
abbrev c42_24 : AC := .seq (.ops 0 [⟨some 36,.mv (.t 10),none⟩,⟨some 13,.as 0 0 (.t 36),none⟩] [0,6,7,8,9,10,11,12,13]) c42_23
abbrev c42_25 : AC := .seq (.ops 0 [⟨some 79,.mv (.t 8),none⟩,⟨some 2,.as 3 1 (.k (.lf (.lst .nl 1 [] []))),none⟩,⟨some 3,.as 3 1 (.k (.lf (.lst .nl 1 [] []))),none⟩,⟨some 4,.as 0 0 (.t 79),none⟩,⟨some 5,.as 0 0 (.k (.lf (.int .i64 4))),none⟩] [2,3,4,5]) .ret
abbrev c42_26 : AC := .cond (.t 78) c42_25 .skip
abbrev c42_27 : AC := .seq (.ops 0 [⟨some 76,.mv (.t 12),none⟩,⟨some 77,.bin .add (.t 76) (.k (.lf (.int .i64 1))),none⟩,⟨some 78,.bin .gtr (.t 77) (.k (.lf (.int .i64 60))),none⟩] [0,6,7,8,11,12,78]) c42_26
abbrev c42_28 : AC := .seq (.ops 0 [⟨some 80,.mv (.t 6),none⟩,⟨some 81,.mv (.t 11),none⟩,⟨some 82,.bs 3 1 1 [.int .i64 0] [(0,(.t 81))],none⟩,⟨some 83,.app 3 1 8 (.t 80) (.t 82),none⟩,⟨some 6,.as 3 1 (.t 83),none⟩] [0,6,7,8,12]) (.ops 0 [⟨some 84,.mv (.t 7),none⟩,⟨some 85,.mv (.t 12),none⟩,⟨some 86,.bin .add (.t 85) (.k (.lf (.int .i64 1))),none⟩,⟨some 87,.bs 3 1 1 [.int .i64 0] [(0,(.t 86))],none⟩,⟨some 88,.app 3 1 8 (.t 84) (.t 87),none⟩,⟨some 7,.as 3 1 (.t 88),none⟩] [0,6,7,8])
abbrev c42_29 : AC := .seq c42_27 c42_28
abbrev c42_30 : AC := .seq c42_24 c42_29
abbrev c42_31 : AC := .seq (.ops 0 [⟨some 35,.mv (.t 8),none⟩,⟨some 11,.as 0 0 (.t 35),none⟩,⟨some 12,.as 0 0 (.k (.lf (.int .i64 0))),none⟩] [0,6,7,8,9,10,11,12]) c42_30
abbrev c42_32 : AC := .seq c42_7 c42_31
abbrev c42_33 : AC := .seq c42_4 c42_32
abbrev c42_34 : AC := .seq (.ops 0 [⟨some 25,.fa (.t 9) 0,none⟩,⟨some 26,.ld (.t 25) 1 false,none⟩,⟨some 27,.call 65 [(.t 26)],none⟩,⟨some 10,.as 0 0 (.t 27),none⟩] [0,6,7,8,9,10]) c42_33
abbrev c42_35 : AC := .seq (.ops 0 [⟨some 21,.mv (.t 0),none⟩,⟨some 22,.mv (.t 8),none⟩,⟨some 23,.ia (.t 21) (.t 22) 7,none⟩,⟨some 24,.ld (.t 23) 7 true,none⟩,⟨some 9,.al [.int .i64 0,.int .i64 0,.str ⟨#[]⟩,.int .u64 0,.int .u64 0,.int .u64 0,.int .u64 0],none⟩,⟨none,.st (.t 9) (.t 24) 7,none⟩] [0,6,7,8,9]) c42_34
abbrev c42_36 : AC := .block 1 c42_35
abbrev c42_37 : AC := .seq c42_36 (.ops 0 [⟨some 19,.mv (.t 8),none⟩,⟨some 20,.bin .add (.t 19) (.k (.lf (.int .i64 1))),none⟩,⟨some 8,.as 0 0 (.t 20),none⟩] [0,6,7,8])
abbrev c42_38 : AC := .seq c42_1 c42_37
abbrev c42_39 : AC := .loop c42_38 [0,6,7,8]
abbrev c42_40 : AC := .block 0 c42_39
abbrev c42_41 : AC := .seq (.ops 0 [⟨some 8,.as 0 0 (.k (.lf (.int .i64 0))),none⟩] [0,6,7,8]) c42_40
abbrev c42_42 : AC := .seq (.ops 0 [⟨some 89,.mv (.t 6),none⟩,⟨some 90,.mv (.t 7),none⟩,⟨some 2,.as 3 1 (.t 89),none⟩,⟨some 3,.as 3 1 (.t 90),none⟩,⟨some 4,.as 0 0 (.k (.lf (.int .i64 0))),none⟩,⟨some 5,.as 0 0 (.k (.lf (.int .i64 0))),none⟩] [2,3,4,5]) .ret
abbrev c42_43 : AC := .seq c42_41 c42_42
abbrev c42_44 : AC := .seq (.ops 0 [⟨some 7,.as 3 1 (.k (.lf (.lst .nl 1 [] []))),none⟩] [0,6,7]) c42_43
abbrev c42_45 : AC := .seq (.ops 0 [⟨some 6,.as 3 1 (.k (.lf (.lst .nl 1 [] []))),none⟩] [0,6]) c42_44
abbrev c42_46 : AC := .seq (.ops 0 [⟨some 2,.as 3 1 (.k (.lf (.lst .nl 1 [] []))),none⟩,⟨some 3,.as 3 1 (.k (.lf (.lst .nl 1 [] []))),none⟩,⟨some 4,.as 0 0 (.k (.lf (.int .i64 0))),none⟩,⟨some 5,.as 0 0 (.k (.lf (.int .i64 0))),none⟩] [0]) c42_45
abbrev c42 : AC := c42_46
theorem c42_ok : compileFn Tryz.prog 42 = some (91, AC.strip c42, [.t 2, .t 3, .t 4, .t 5]) := by kernel_rfl
abbrev c67_0 : AC := .seq (.ops 0 [⟨some 2,.as 0 0 (.k (.lf (.int .i64 0))),none⟩] [2]) .ret
abbrev c67_1 : AC := .seq (.ops 0 [⟨some 2,.as 0 0 (.k (.lf (.int .i64 1))),none⟩] [2]) .ret
abbrev c67_2 : AC := .cond (.t 8) .skip (.ops 0 [⟨some 10,.bin .eql (.t 3) (.k (.lf (.int .i64 13))),none⟩,⟨some 8,.as 0 0 (.t 10),none⟩] [3,8])
abbrev c67_3 : AC := .seq (.ops 0 [⟨some 9,.bin .eql (.t 3) (.k (.lf (.int .i64 12))),none⟩,⟨some 8,.as 0 0 (.t 9),none⟩] [3,8]) c67_2
abbrev c67_4 : AC := .seq (.ops 0 [⟨some 2,.as 0 0 (.k (.lf (.int .i64 2))),none⟩] [2]) .ret
abbrev c67_5 : AC := .cond (.t 11) .skip (.ops 0 [⟨some 19,.bin .eql (.t 3) (.k (.lf (.int .i64 23))),none⟩,⟨some 11,.as 0 0 (.t 19),none⟩] [11])
abbrev c67_6 : AC := .seq (.ops 0 [⟨some 18,.bin .eql (.t 3) (.k (.lf (.int .i64 22))),none⟩,⟨some 11,.as 0 0 (.t 18),none⟩] [3,11]) c67_5
abbrev c67_7 : AC := .cond (.t 11) .skip c67_6
abbrev c67_8 : AC := .seq (.ops 0 [⟨some 17,.bin .eql (.t 3) (.k (.lf (.int .i64 16))),none⟩,⟨some 11,.as 0 0 (.t 17),none⟩] [3,11]) c67_7
abbrev c67_9 : AC := .cond (.t 11) .skip c67_8
abbrev c67_10 : AC := .seq (.ops 0 [⟨some 16,.bin .eql (.t 3) (.k (.lf (.int .i64 15))),none⟩,⟨some 11,.as 0 0 (.t 16),none⟩] [3,11]) c67_9
abbrev c67_11 : AC := .cond (.t 11) .skip c67_10
abbrev c67_12 : AC := .seq (.ops 0 [⟨some 15,.bin .eql (.t 3) (.k (.lf (.int .i64 14))),none⟩,⟨some 11,.as 0 0 (.t 15),none⟩] [3,11]) c67_11
abbrev c67_13 : AC := .cond (.t 11) .skip c67_12
abbrev c67_14 : AC := .seq (.ops 0 [⟨some 14,.bin .eql (.t 3) (.k (.lf (.int .i64 11))),none⟩,⟨some 11,.as 0 0 (.t 14),none⟩] [3,11]) c67_13
abbrev c67_15 : AC := .cond (.t 11) .skip c67_14
abbrev c67_16 : AC := .seq (.ops 0 [⟨some 13,.bin .eql (.t 3) (.k (.lf (.int .i64 10))),none⟩,⟨some 11,.as 0 0 (.t 13),none⟩] [3,11]) c67_15
abbrev c67_17 : AC := .cond (.t 11) .skip c67_16
abbrev c67_18 : AC := .seq (.ops 0 [⟨some 12,.bin .eql (.t 3) (.k (.lf (.int .i64 9))),none⟩,⟨some 11,.as 0 0 (.t 12),none⟩] [3,11]) c67_17
abbrev c67_19 : AC := .seq (.ops 0 [⟨some 2,.as 0 0 (.k (.lf (.int .i64 3))),none⟩] [2]) .ret
abbrev c67_20 : AC := .cond (.t 11) c67_19 .skip
abbrev c67_21 : AC := .seq c67_18 c67_20
abbrev c67_22 : AC := .cond (.t 8) c67_4 c67_21
abbrev c67_23 : AC := .seq c67_3 c67_22
abbrev c67_24 : AC := .cond (.t 6) c67_1 c67_23
abbrev c67_25 : AC := .seq (.ops 0 [⟨some 7,.bin .eql (.t 3) (.k (.lf (.int .i64 7))),none⟩,⟨some 6,.as 0 0 (.t 7),none⟩] [3,6]) c67_24
abbrev c67_26 : AC := .cond (.t 4) c67_0 c67_25
abbrev c67_27 : AC := .seq (.ops 0 [⟨some 5,.bin .eql (.t 3) (.k (.lf (.int .i64 8))),none⟩,⟨some 4,.as 0 0 (.t 5),none⟩] [3,4]) c67_26
abbrev c67_28 : AC := .block 0 c67_27
abbrev c67_29 : AC := .seq (.ops 0 [⟨some 3,.mv (.t 0),none⟩] [3]) c67_28
abbrev c67_30 : AC := .seq (.ops 0 [⟨some 2,.as 0 0 (.k (.lf (.int .i64 4))),none⟩] [2]) .ret
abbrev c67_31 : AC := .seq c67_29 c67_30
abbrev c67_32 : AC := .seq (.ops 0 [⟨some 2,.as 0 0 (.k (.lf (.int .i64 0))),none⟩] [0]) c67_31
abbrev c67 : AC := c67_32
theorem c67_ok : compileFn Tryz.prog 67 = some (20, AC.strip c67, [.t 2]) := by kernel_rfl
abbrev c47_0 : AC := .cond (.t 12) (.ops 0 [⟨some 13,.mv (.t 0),none⟩,⟨some 14,.nc (.t 13),none⟩,⟨some 15,.fa (.t 14) 2,none⟩,⟨none,.st (.t 15) (.k (.lf (.bool true))) 1,none⟩] [0,1,2]) .skip
abbrev c47_1 : AC := .seq (.ops 0 [⟨some 7,.mv (.t 1),none⟩,⟨some 8,.len (.t 7),none⟩,⟨some 9,.mv (.t 2),none⟩,⟨some 10,.lns (.t 9),none⟩,⟨some 11,.bin .add (.t 8) (.t 10),none⟩,⟨some 12,.bin .gtr (.t 11) (.k (.lf (.int .i64 65536))),none⟩] [0,1,2,12]) c47_0
abbrev c47_2 : AC := .seq (.ops 0 [⟨some 20,.mv (.t 1),none⟩,⟨some 6,.as 5 1 (.t 20),none⟩] [6]) .ret
abbrev c47_3 : AC := .cond (.t 19) c47_2 .skip
abbrev c47_4 : AC := .seq (.ops 0 [⟨some 16,.mv (.t 0),none⟩,⟨some 17,.nc (.t 16),none⟩,⟨some 18,.fa (.t 17) 2,none⟩,⟨some 19,.ld (.t 18) 1 false,none⟩] [1,2,19]) c47_3
abbrev c47_5 : AC := .seq (.ops 0 [⟨some 21,.mv (.t 1),none⟩,⟨some 22,.mv (.t 2),none⟩,⟨some 23,.aps 5 (.t 21) (.t 22),none⟩,⟨some 6,.as 5 1 (.t 23),none⟩] [6]) .ret
abbrev c47_6 : AC := .seq c47_4 c47_5
abbrev c47_7 : AC := .seq c47_1 c47_6
abbrev c47_8 : AC := .seq (.ops 0 [⟨some 6,.as 5 1 (.k (.lf (.lst .nl 1 [] []))),none⟩] [0,1,2]) c47_7
abbrev c47 : AC := c47_8
theorem c47_ok : compileFn Tryz.prog 47 = some (24, AC.strip c47, [.t 6]) := by kernel_rfl
abbrev c68_0 : AC := .seq (.ops 0 [⟨some 34,.mv (.t 0),none⟩,⟨some 35,.mv (.t 1),none⟩,⟨some 36,.callg 47 0 [(.t 34),(.t 35),(.k (.lf (.str ⟨#[37,101]⟩)))],none⟩,⟨some 6,.as 5 1 (.t 36),none⟩] [6]) .ret
abbrev c68_1 : AC := .seq (.ops 0 [⟨some 39,.mv (.t 0),none⟩,⟨some 40,.mv (.t 1),none⟩,⟨some 41,.callg 47 0 [(.t 39),(.t 40),(.k (.lf (.str ⟨#[37,102]⟩)))],none⟩,⟨some 6,.as 5 1 (.t 41),none⟩] [6]) .ret
abbrev c68_2 : AC := .seq (.ops 0 [⟨some 44,.mv (.t 0),none⟩,⟨some 45,.mv (.t 1),none⟩,⟨some 46,.callg 47 0 [(.t 44),(.t 45),(.k (.lf (.str ⟨#[46]⟩)))],none⟩,⟨some 6,.as 5 1 (.t 46),none⟩] [6]) .ret
abbrev c68_3 : AC := .seq (.ops 0 [⟨some 49,.mv (.t 0),none⟩,⟨some 50,.mv (.t 1),none⟩,⟨some 51,.callg 47 0 [(.t 49),(.t 50),(.k (.lf (.str ⟨#[123,125]⟩)))],none⟩,⟨some 6,.as 5 1 (.t 51),none⟩] [6]) .ret
abbrev c68_4 : AC := .seq (.ops 0 [⟨some 54,.mv (.t 0),none⟩,⟨some 55,.mv (.t 1),none⟩,⟨some 56,.fa (.t 7) 2,none⟩,⟨some 57,.ld (.t 56) 1 false,none⟩,⟨some 58,.call 75 [(.t 57)],none⟩,⟨some 59,.callg 47 0 [(.t 54),(.t 55),(.t 58)],none⟩,⟨some 6,.as 5 1 (.t 59),none⟩] [6]) .ret
abbrev c68_5 : AC := .seq (.ops 0 [⟨some 62,.mv (.t 0),none⟩,⟨some 63,.mv (.t 1),none⟩,⟨some 64,.fa (.t 7) 3,none⟩,⟨some 65,.ld (.t 64) 4 true,none⟩,⟨some 66,.call 76 [(.t 65)],none⟩,⟨some 67,.callg 47 0 [(.t 62),(.t 63),(.t 66)],none⟩,⟨some 6,.as 5 1 (.t 67),none⟩] [6]) .ret
abbrev c68_6 : AC := .seq (.ops 0 [⟨some 70,.mv (.t 0),none⟩,⟨some 71,.mv (.t 1),none⟩,⟨some 72,.fa (.t 7) 2,none⟩,⟨some 73,.ld (.t 72) 1 false,none⟩,⟨some 74,.callg 47 0 [(.t 70),(.t 71),(.t 73)],none⟩,⟨some 6,.as 5 1 (.t 74),none⟩] [6]) .ret
abbrev c68_7 : AC := .seq (.ops 0 [⟨some 77,.mv (.t 0),none⟩,⟨some 78,.mv (.t 1),none⟩,⟨some 79,.mv (.t 2),none⟩,⟨some 80,.callg 94 0 [(.t 77),(.t 78),(.k (.lf (.str ⟨#[123]⟩))),(.t 79),(.k (.lf (.str ⟨#[125]⟩)))],none⟩,⟨some 6,.as 5 1 (.t 80),none⟩] [6]) .ret
abbrev c68_8 : AC := .seq (.ops 0 [⟨some 86,.mv (.t 0),none⟩,⟨some 87,.mv (.t 1),none⟩,⟨some 88,.mv (.t 2),none⟩,⟨some 89,.callg 94 0 [(.t 86),(.t 87),(.k (.lf (.str ⟨#[123,58,32]⟩))),(.t 88),(.k (.lf (.str ⟨#[32,58,125]⟩)))],none⟩,⟨some 6,.as 5 1 (.t 89),none⟩] [6]) .ret
abbrev c68_9 : AC := .cond (.t 85) c68_8 .skip
abbrev c68_10 : AC := .seq (.ops 0 [⟨some 83,.fa (.t 7) 2,none⟩,⟨some 84,.ld (.t 83) 1 false,none⟩,⟨some 85,.bin .eql (.t 84) (.k (.lf (.str ⟨#[]⟩))),none⟩] [0,1,2,7,85]) c68_9
abbrev c68_11 : AC := .seq (.ops 0 [⟨some 90,.mv (.t 0),none⟩,⟨some 91,.mv (.t 1),none⟩,⟨some 92,.fa (.t 7) 2,none⟩,⟨some 93,.ld (.t 92) 1 false,none⟩,⟨some 94,.bin .add (.k (.lf (.str ⟨#[123,58]⟩))) (.t 93),none⟩,⟨some 95,.bin .add (.t 94) (.k (.lf (.str ⟨#[58,32]⟩))),none⟩,⟨some 96,.mv (.t 2),none⟩,⟨some 97,.callg 94 0 [(.t 90),(.t 91),(.t 95),(.t 96),(.k (.lf (.str ⟨#[32,58,125]⟩)))],none⟩,⟨some 6,.as 5 1 (.t 97),none⟩] [6]) .ret
abbrev c68_12 : AC := .seq c68_10 c68_11
abbrev c68_13 : AC := .seq (.ops 0 [⟨some 100,.mv (.t 0),none⟩,⟨some 101,.mv (.t 1),none⟩,⟨some 102,.mv (.t 2),none⟩,⟨some 103,.callg 94 0 [(.t 100),(.t 101),(.k (.lf (.str ⟨#[123,124,32]⟩))),(.t 102),(.k (.lf (.str ⟨#[32,124,125]⟩)))],none⟩,⟨some 6,.as 5 1 (.t 103),none⟩] [6]) .ret
abbrev c68_14 : AC := .seq (.ops 0 [⟨some 106,.mv (.t 0),none⟩,⟨some 107,.mv (.t 1),none⟩,⟨some 108,.mv (.t 2),none⟩,⟨some 109,.callg 94 0 [(.t 106),(.t 107),(.k (.lf (.str ⟨#[123,126,32]⟩))),(.t 108),(.k (.lf (.str ⟨#[32,126,125]⟩)))],none⟩,⟨some 6,.as 5 1 (.t 109),none⟩] [6]) .ret
abbrev c68_15 : AC := .seq (.ops 0 [⟨some 112,.mv (.t 0),none⟩,⟨some 113,.mv (.t 0),none⟩,⟨some 114,.mv (.t 1),none⟩,⟨some 115,.mv (.t 8),none⟩,⟨some 116,.ia (.t 115) (.k (.lf (.int .i64 0))) 1,none⟩,⟨some 117,.ld (.t 116) 1 false,none⟩,⟨some 118,.callg 43 0 [(.t 113),(.t 114),(.t 117),(.k (.lf (.int .i64 3)))],none⟩,⟨some 119,.callg 47 0 [(.t 112),(.t 118),(.k (.lf (.str ⟨#[42]⟩)))],none⟩,⟨some 6,.as 5 1 (.t 119),none⟩] [6]) .ret
abbrev c68_16 : AC := .seq (.ops 0 [⟨some 122,.mv (.t 0),none⟩,⟨some 123,.mv (.t 0),none⟩,⟨some 124,.mv (.t 1),none⟩,⟨some 125,.mv (.t 8),none⟩,⟨some 126,.ia (.t 125) (.k (.lf (.int .i64 0))) 1,none⟩,⟨some 127,.ld (.t 126) 1 false,none⟩,⟨some 128,.callg 43 0 [(.t 123),(.t 124),(.t 127),(.k (.lf (.int .i64 3)))],none⟩,⟨some 129,.callg 47 0 [(.t 122),(.t 128),(.k (.lf (.str ⟨#[43]⟩)))],none⟩,⟨some 6,.as 5 1 (.t 129),none⟩] [6]) .ret
abbrev c68_17 : AC := .seq (.ops 0 [⟨some 132,.mv (.t 0),none⟩,⟨some 133,.mv (.t 0),none⟩,⟨some 134,.mv (.t 1),none⟩,⟨some 135,.mv (.t 8),none⟩,⟨some 136,.ia (.t 135) (.k (.lf (.int .i64 0))) 1,none⟩,⟨some 137,.ld (.t 136) 1 false,none⟩,⟨some 138,.callg 43 0 [(.t 133),(.t 134),(.t 137),(.k (.lf (.int .i64 3)))],none⟩,⟨some 139,.callg 47 0 [(.t 132),(.t 138),(.k (.lf (.str ⟨#[63]⟩)))],none⟩,⟨some 6,.as 5 1 (.t 139),none⟩] [6]) .ret
abbrev c68_18 : AC := .seq (.ops 0 [⟨some 142,.mv (.t 0),none⟩,⟨some 143,.mv (.t 0),none⟩,⟨some 144,.mv (.t 1),none⟩,⟨some 145,.mv (.t 8),none⟩,⟨some 146,.ia (.t 145) (.k (.lf (.int .i64 0))) 1,none⟩,⟨some 147,.ld (.t 146) 1 false,none⟩,⟨some 148,.callg 43 0 [(.t 143),(.t 144),(.t 147),(.k (.lf (.int .i64 3)))],none⟩,⟨some 149,.mv (.t 9),none⟩,⟨some 150,.bin .add (.k (.lf (.str ⟨#[94]⟩))) (.t 149),none⟩,⟨some 151,.callg 47 0 [(.t 142),(.t 148),(.t 150)],none⟩,⟨some 6,.as 5 1 (.t 151),none⟩] [6]) .ret
abbrev c68_19 : AC := .seq (.ops 0 [⟨some 154,.mv (.t 0),none⟩,⟨some 155,.mv (.t 0),none⟩,⟨some 156,.mv (.t 1),none⟩,⟨some 157,.mv (.t 8),none⟩,⟨some 158,.ia (.t 157) (.k (.lf (.int .i64 0))) 1,none⟩,⟨some 159,.ld (.t 158) 1 false,none⟩,⟨some 160,.callg 43 0 [(.t 155),(.t 156),(.t 159),(.k (.lf (.int .i64 3)))],none⟩,⟨some 161,.mv (.t 9),none⟩,⟨some 162,.bin .add (.k (.lf (.str ⟨#[94,43]⟩))) (.t 161),none⟩,⟨some 163,.callg 47 0 [(.t 154),(.t 160),(.t 162)],none⟩,⟨some 6,.as 5 1 (.t 163),none⟩] [6]) .ret
abbrev c68_20 : AC := .seq (.ops 0 [⟨some 166,.mv (.t 0),none⟩,⟨some 167,.mv (.t 0),none⟩,⟨some 168,.mv (.t 1),none⟩,⟨some 169,.mv (.t 8),none⟩,⟨some 170,.ia (.t 169) (.k (.lf (.int .i64 0))) 1,none⟩,⟨some 171,.ld (.t 170) 1 false,none⟩,⟨some 172,.callg 43 0 [(.t 167),(.t 168),(.t 171),(.k (.lf (.int .i64 3)))],none⟩,⟨some 173,.mv (.t 9),none⟩,⟨some 174,.bin .add (.k (.lf (.str ⟨#[94,45]⟩))) (.t 173),none⟩,⟨some 175,.callg 47 0 [(.t 166),(.t 172),(.t 174)],none⟩,⟨some 6,.as 5 1 (.t 175),none⟩] [6]) .ret
abbrev c68_21 : AC := .seq (.gdt (.one ⟨some 178,.mv (.t 0),none⟩ (.one ⟨some 179,.mv (.t 0),none⟩ (.one ⟨some 180,.mv (.t 1),none⟩ (.one ⟨some 181,.mv (.t 8),none⟩ (.one ⟨some 182,.ia (.t 181) (.k (.lf (.int .i64 0))) 1,none⟩ (.one ⟨some 185,.fa (.t 7) 2,none⟩ (.alt (.one ⟨some 183,.ld (.t 182) 1 false,none⟩ (.alt (.one ⟨some 184,.callg 43 0 [(.t 179),(.t 180),(.t 183),(.k (.lf (.int .i64 3)))],none⟩ (.one ⟨some 186,.ld (.t 185) 1 false,none⟩ (.one ⟨some 187,.call 75 [(.t 186)],none⟩ (.one ⟨some 188,.bin .add (.k (.lf (.str ⟨#[32,45,62,32]⟩))) (.t 187),none⟩ (.one ⟨some 189,.callg 47 0 [(.t 178),(.t 184),(.t 188)],none⟩ (.one ⟨some 6,.as 5 1 (.t 189),none⟩ .nil)))))) (.one ⟨some 186,.ld (.t 185) 1 false,none⟩ (.one ⟨some 184,.callg 43 0 [(.t 179),(.t 180),(.t 183),(.k (.lf (.int .i64 3)))],none⟩ (.one ⟨some 187,.call 75 [(.t 186)],none⟩ (.one ⟨some 188,.bin .add (.k (.lf (.str ⟨#[32,45,62,32]⟩))) (.t 187),none⟩ (.one ⟨some 189,.callg 47 0 [(.t 178),(.t 184),(.t 188)],none⟩ (.one ⟨some 6,.as 5 1 (.t 189),none⟩ .nil)))))))) (.one ⟨some 186,.ld (.t 185) 1 false,none⟩ (.one ⟨some 183,.ld (.t 182) 1 false,none⟩ (.one ⟨some 184,.callg 43 0 [(.t 179),(.t 180),(.t 183),(.k (.lf (.int .i64 3)))],none⟩ (.one ⟨some 187,.call 75 [(.t 186)],none⟩ (.one ⟨some 188,.bin .add (.k (.lf (.str ⟨#[32,45,62,32]⟩))) (.t 187),none⟩ (.one ⟨some 189,.callg 47 0 [(.t 178),(.t 184),(.t 188)],none⟩ (.one ⟨some 6,.as 5 1 (.t 189),none⟩ .nil)))))))))))))) [6]) .ret
abbrev c68_22 : AC := .seq (.ops 0 [⟨some 192,.mv (.t 0),none⟩,⟨some 193,.mv (.t 0),none⟩,⟨some 194,.mv (.t 1),none⟩,⟨some 195,.mv (.t 8),none⟩,⟨some 196,.ia (.t 195) (.k (.lf (.int .i64 0))) 1,none⟩,⟨some 197,.ld (.t 196) 1 false,none⟩,⟨some 198,.callg 43 0 [(.t 193),(.t 194),(.t 197),(.k (.lf (.int .i64 3)))],none⟩,⟨some 199,.mv (.t 9),none⟩,⟨some 200,.bin .add (.k (.lf (.str ⟨#[32,45,62,32]⟩))) (.t 199),none⟩,⟨some 201,.callg 47 0 [(.t 192),(.t 198),(.t 200)],none⟩,⟨some 6,.as 5 1 (.t 201),none⟩] [6]) .ret
abbrev c68_23 : AC := .seq (.gdt (.one ⟨some 204,.mv (.t 0),none⟩ (.one ⟨some 205,.mv (.t 0),none⟩ (.one ⟨some 206,.mv (.t 1),none⟩ (.one ⟨some 208,.mv (.t 8),none⟩ (.one ⟨some 209,.ia (.t 208) (.k (.lf (.int .i64 0))) 1,none⟩ (.alt (.one ⟨some 207,.callg 47 0 [(.t 205),(.t 206),(.k (.lf (.str ⟨#[38]⟩)))],none⟩ (.one ⟨some 210,.ld (.t 209) 1 false,none⟩ (.one ⟨some 211,.callg 43 0 [(.t 204),(.t 207),(.t 210),(.k (.lf (.int .i64 2)))],none⟩ (.one ⟨some 6,.as 5 1 (.t 211),none⟩ .nil)))) (.one ⟨some 210,.ld (.t 209) 1 false,none⟩ (.one ⟨some 207,.callg 47 0 [(.t 205),(.t 206),(.k (.lf (.str ⟨#[38]⟩)))],none⟩ (.one ⟨some 211,.callg 43 0 [(.t 204),(.t 207),(.t 210),(.k (.lf (.int .i64 2)))],none⟩ (.one ⟨some 6,.as 5 1 (.t 211),none⟩ .nil)))))))))) [6]) .ret
abbrev c68_24 : AC := .seq (.gdt (.one ⟨some 214,.mv (.t 0),none⟩ (.one ⟨some 215,.mv (.t 0),none⟩ (.one ⟨some 216,.mv (.t 1),none⟩ (.one ⟨some 218,.mv (.t 8),none⟩ (.one ⟨some 219,.ia (.t 218) (.k (.lf (.int .i64 0))) 1,none⟩ (.alt (.one ⟨some 217,.callg 47 0 [(.t 215),(.t 216),(.k (.lf (.str ⟨#[33]⟩)))],none⟩ (.one ⟨some 220,.ld (.t 219) 1 false,none⟩ (.one ⟨some 221,.callg 43 0 [(.t 214),(.t 217),(.t 220),(.k (.lf (.int .i64 2)))],none⟩ (.one ⟨some 6,.as 5 1 (.t 221),none⟩ .nil)))) (.one ⟨some 220,.ld (.t 219) 1 false,none⟩ (.one ⟨some 217,.callg 47 0 [(.t 215),(.t 216),(.k (.lf (.str ⟨#[33]⟩)))],none⟩ (.one ⟨some 221,.callg 43 0 [(.t 214),(.t 217),(.t 220),(.k (.lf (.int .i64 2)))],none⟩ (.one ⟨some 6,.as 5 1 (.t 221),none⟩ .nil)))))))))) [6]) .ret
abbrev c68_25 : AC := .seq (.gdt (.one ⟨some 224,.mv (.t 0),none⟩ (.one ⟨some 225,.mv (.t 0),none⟩ (.one ⟨some 226,.mv (.t 0),none⟩ (.one ⟨some 227,.mv (.t 1),none⟩ (.one ⟨some 228,.mv (.t 8),none⟩ (.one ⟨some 229,.ia (.t 228) (.k (.lf (.int .i64 0))) 1,none⟩ (.one ⟨some 233,.mv (.t 8),none⟩ (.one ⟨some 234,.ia (.t 233) (.k (.lf (.int .i64 1))) 1,none⟩ (.alt (.one ⟨some 230,.ld (.t 229) 1 false,none⟩ (.alt (.one ⟨some 231,.callg 43 0 [(.t 226),(.t 227),(.t 230),(.k (.lf (.int .i64 1)))],none⟩ (.alt (.one ⟨some 232,.callg 47 0 [(.t 225),(.t 231),(.k (.lf (.str ⟨#[32]⟩)))],none⟩ (.one ⟨some 235,.ld (.t 234) 1 false,none⟩ (.one ⟨some 236,.callg 43 0 [(.t 224),(.t 232),(.t 235),(.k (.lf (.int .i64 2)))],none⟩ (.one ⟨some 6,.as 5 1 (.t 236),none⟩ .nil)))) (.one ⟨some 235,.ld (.t 234) 1 false,none⟩ (.one ⟨some 232,.callg 47 0 [(.t 225),(.t 231),(.k (.lf (.str ⟨#[32]⟩)))],none⟩ (.one ⟨some 236,.callg 43 0 [(.t 224),(.t 232),(.t 235),(.k (.lf (.int .i64 2)))],none⟩ (.one ⟨some 6,.as 5 1 (.t 236),none⟩ .nil)))))) (.one ⟨some 235,.ld (.t 234) 1 false,none⟩ (.one ⟨some 231,.callg 43 0 [(.t 226),(.t 227),(.t 230),(.k (.lf (.int .i64 1)))],none⟩ (.one ⟨some 232,.callg 47 0 [(.t 225),(.t 231),(.k (.lf (.str ⟨#[32]⟩)))],none⟩ (.one ⟨some 236,.callg 43 0 [(.t 224),(.t 232),(.t 235),(.k (.lf (.int .i64 2)))],none⟩ (.one ⟨some 6,.as 5 1 (.t 236),none⟩ .nil))))))) (.one ⟨some 235,.ld (.t 234) 1 false,none⟩ (.one ⟨some 230,.ld (.t 229) 1 false,none⟩ (.one ⟨some 231,.callg 43 0 [(.t 226),(.t 227),(.t 230),(.k (.lf (.int .i64 1)))],none⟩ (.one ⟨some 232,.callg 47 0 [(.t 225),(.t 231),(.k (.lf (.str ⟨#[32]⟩)))],none⟩ (.one ⟨some 236,.callg 43 0 [(.t 224),(.t 232),(.t 235),(.k (.lf (.int .i64 2)))],none⟩ (.one ⟨some 6,.as 5 1 (.t 236),none⟩ .nil))))))))))))))) [6]) .ret
abbrev c68_26 : AC := .cond (.t 222) c68_25 .skip
abbrev c68_27 : AC := .seq (.ops 0 [⟨some 223,.bin .eql (.t 31) (.k (.lf (.int .i64 7))),none⟩,⟨some 222,.as 0 0 (.t 223),none⟩] [0,1,8,222]) c68_26
abbrev c68_28 : AC := .cond (.t 212) c68_24 c68_27
abbrev c68_29 : AC := .seq (.ops 0 [⟨some 213,.bin .eql (.t 31) (.k (.lf (.int .i64 13))),none⟩,⟨some 212,.as 0 0 (.t 213),none⟩] [0,1,8,31,212]) c68_28
abbrev c68_30 : AC := .cond (.t 202) c68_23 c68_29
abbrev c68_31 : AC := .seq (.ops 0 [⟨some 203,.bin .eql (.t 31) (.k (.lf (.int .i64 12))),none⟩,⟨some 202,.as 0 0 (.t 203),none⟩] [0,1,8,31,202]) c68_30
abbrev c68_32 : AC := .cond (.t 190) c68_22 c68_31
abbrev c68_33 : AC := .seq (.ops 0 [⟨some 191,.bin .eql (.t 31) (.k (.lf (.int .i64 23))),none⟩,⟨some 190,.as 0 0 (.t 191),none⟩] [0,1,8,9,31,190]) c68_32
abbrev c68_34 : AC := .cond (.t 176) c68_21 c68_33
abbrev c68_35 : AC := .seq (.ops 0 [⟨some 177,.bin .eql (.t 31) (.k (.lf (.int .i64 22))),none⟩,⟨some 176,.as 0 0 (.t 177),none⟩] [0,1,7,8,9,31,176]) c68_34
abbrev c68_36 : AC := .cond (.t 164) c68_20 c68_35
abbrev c68_37 : AC := .seq (.ops 0 [⟨some 165,.bin .eql (.t 31) (.k (.lf (.int .i64 16))),none⟩,⟨some 164,.as 0 0 (.t 165),none⟩] [0,1,7,8,9,31,164]) c68_36
abbrev c68_38 : AC := .cond (.t 152) c68_19 c68_37
abbrev c68_39 : AC := .seq (.ops 0 [⟨some 153,.bin .eql (.t 31) (.k (.lf (.int .i64 15))),none⟩,⟨some 152,.as 0 0 (.t 153),none⟩] [0,1,7,8,9,31,152]) c68_38
abbrev c68_40 : AC := .cond (.t 140) c68_18 c68_39
abbrev c68_41 : AC := .seq (.ops 0 [⟨some 141,.bin .eql (.t 31) (.k (.lf (.int .i64 14))),none⟩,⟨some 140,.as 0 0 (.t 141),none⟩] [0,1,7,8,9,31,140]) c68_40
abbrev c68_42 : AC := .cond (.t 130) c68_17 c68_41
abbrev c68_43 : AC := .seq (.ops 0 [⟨some 131,.bin .eql (.t 31) (.k (.lf (.int .i64 11))),none⟩,⟨some 130,.as 0 0 (.t 131),none⟩] [0,1,7,8,9,31,130]) c68_42
abbrev c68_44 : AC := .cond (.t 120) c68_16 c68_43
abbrev c68_45 : AC := .seq (.ops 0 [⟨some 121,.bin .eql (.t 31) (.k (.lf (.int .i64 10))),none⟩,⟨some 120,.as 0 0 (.t 121),none⟩] [0,1,7,8,9,31,120]) c68_44
abbrev c68_46 : AC := .cond (.t 110) c68_15 c68_45
abbrev c68_47 : AC := .seq (.ops 0 [⟨some 111,.bin .eql (.t 31) (.k (.lf (.int .i64 9))),none⟩,⟨some 110,.as 0 0 (.t 111),none⟩] [0,1,7,8,9,31,110]) c68_46
abbrev c68_48 : AC := .cond (.t 104) c68_14 c68_47
abbrev c68_49 : AC := .seq (.ops 0 [⟨some 105,.bin .eql (.t 31) (.k (.lf (.int .i64 21))),none⟩,⟨some 104,.as 0 0 (.t 105),none⟩] [0,1,2,7,8,9,31,104]) c68_48
abbrev c68_50 : AC := .cond (.t 98) c68_13 c68_49
abbrev c68_51 : AC := .seq (.ops 0 [⟨some 99,.bin .eql (.t 31) (.k (.lf (.int .i64 20))),none⟩,⟨some 98,.as 0 0 (.t 99),none⟩] [0,1,2,7,8,9,31,98]) c68_50
abbrev c68_52 : AC := .cond (.t 81) c68_12 c68_51
abbrev c68_53 : AC := .seq (.ops 0 [⟨some 82,.bin .eql (.t 31) (.k (.lf (.int .i64 19))),none⟩,⟨some 81,.as 0 0 (.t 82),none⟩] [0,1,2,7,8,9,31,81]) c68_52
abbrev c68_54 : AC := .cond (.t 75) c68_7 c68_53
abbrev c68_55 : AC := .seq (.ops 0 [⟨some 76,.bin .eql (.t 31) (.k (.lf (.int .i64 18))),none⟩,⟨some 75,.as 0 0 (.t 76),none⟩] [0,1,2,7,8,9,31,75]) c68_54
abbrev c68_56 : AC := .cond (.t 68) c68_6 c68_55
abbrev c68_57 : AC := .seq (.ops 0 [⟨some 69,.bin .eql (.t 31) (.k (.lf (.int .i64 6))),none⟩,⟨some 68,.as 0 0 (.t 69),none⟩] [0,1,2,7,8,9,31,68]) c68_56
abbrev c68_58 : AC := .cond (.t 60) c68_5 c68_57
abbrev c68_59 : AC := .seq (.ops 0 [⟨some 61,.bin .eql (.t 31) (.k (.lf (.int .i64 5))),none⟩,⟨some 60,.as 0 0 (.t 61),none⟩] [0,1,2,7,8,9,31,60]) c68_58
abbrev c68_60 : AC := .cond (.t 52) c68_4 c68_59
abbrev c68_61 : AC := .seq (.ops 0 [⟨some 53,.bin .eql (.t 31) (.k (.lf (.int .i64 4))),none⟩,⟨some 52,.as 0 0 (.t 53),none⟩] [0,1,2,7,8,9,31,52]) c68_60
abbrev c68_62 : AC := .cond (.t 47) c68_3 c68_61
abbrev c68_63 : AC := .seq (.ops 0 [⟨some 48,.bin .eql (.t 31) (.k (.lf (.int .i64 17))),none⟩,⟨some 47,.as 0 0 (.t 48),none⟩] [0,1,2,7,8,9,31,47]) c68_62
abbrev c68_64 : AC := .cond (.t 42) c68_2 c68_63
abbrev c68_65 : AC := .seq (.ops 0 [⟨some 43,.bin .eql (.t 31) (.k (.lf (.int .i64 3))),none⟩,⟨some 42,.as 0 0 (.t 43),none⟩] [0,1,2,7,8,9,31,42]) c68_64
abbrev c68_66 : AC := .cond (.t 37) c68_1 c68_65
abbrev c68_67 : AC := .seq (.ops 0 [⟨some 38,.bin .eql (.t 31) (.k (.lf (.int .i64 2))),none⟩,⟨some 37,.as 0 0 (.t 38),none⟩] [0,1,2,7,8,9,31,37]) c68_66
abbrev c68_68 : AC := .cond (.t 32) c68_0 c68_67
abbrev c68_69 : AC := .seq (.ops 0 [⟨some 33,.bin .eql (.t 31) (.k (.lf (.int .i64 1))),none⟩,⟨some 32,.as 0 0 (.t 33),none⟩] [0,1,2,7,8,9,31,32]) c68_68
abbrev c68_70 : AC := .block 0 c68_69
abbrev c68_71 : AC := .seq (.ops 0 [⟨some 30,.fa (.t 7) 0,none⟩,⟨some 31,.ld (.t 30) 1 false,none⟩] [0,1,2,7,8,9,31]) c68_70
abbrev c68_72 : AC := .seq (.gdt (.one ⟨some 237,.mv (.t 0),none⟩ (.one ⟨some 238,.mv (.t 0),none⟩ (.one ⟨some 239,.mv (.t 0),none⟩ (.one ⟨some 240,.mv (.t 1),none⟩ (.one ⟨some 241,.mv (.t 8),none⟩ (.one ⟨some 242,.ia (.t 241) (.k (.lf (.int .i64 0))) 1,none⟩ (.one ⟨some 246,.mv (.t 8),none⟩ (.one ⟨some 247,.ia (.t 246) (.k (.lf (.int .i64 1))) 1,none⟩ (.alt (.one ⟨some 243,.ld (.t 242) 1 false,none⟩ (.alt (.one ⟨some 244,.callg 43 0 [(.t 239),(.t 240),(.t 243),(.k (.lf (.int .i64 0)))],none⟩ (.alt (.one ⟨some 245,.callg 47 0 [(.t 238),(.t 244),(.k (.lf (.str ⟨#[32,47,32]⟩)))],none⟩ (.one ⟨some 248,.ld (.t 247) 1 false,none⟩ (.one ⟨some 249,.callg 43 0 [(.t 237),(.t 245),(.t 248),(.k (.lf (.int .i64 1)))],none⟩ (.one ⟨some 6,.as 5 1 (.t 249),none⟩ .nil)))) (.one ⟨some 248,.ld (.t 247) 1 false,none⟩ (.one ⟨some 245,.callg 47 0 [(.t 238),(.t 244),(.k (.lf (.str ⟨#[32,47,32]⟩)))],none⟩ (.one ⟨some 249,.callg 43 0 [(.t 237),(.t 245),(.t 248),(.k (.lf (.int .i64 1)))],none⟩ (.one ⟨some 6,.as 5 1 (.t 249),none⟩ .nil)))))) (.one ⟨some 248,.ld (.t 247) 1 false,none⟩ (.one ⟨some 244,.callg 43 0 [(.t 239),(.t 240),(.t 243),(.k (.lf (.int .i64 0)))],none⟩ (.one ⟨some 245,.callg 47 0 [(.t 238),(.t 244),(.k (.lf (.str ⟨#[32,47,32]⟩)))],none⟩ (.one ⟨some 249,.callg 43 0 [(.t 237),(.t 245),(.t 248),(.k (.lf (.int .i64 1)))],none⟩ (.one ⟨some 6,.as 5 1 (.t 249),none⟩ .nil))))))) (.one ⟨some 248,.ld (.t 247) 1 false,none⟩ (.one ⟨some 243,.ld (.t 242) 1 false,none⟩ (.one ⟨some 244,.callg 43 0 [(.t 239),(.t 240),(.t 243),(.k (.lf (.int .i64 0)))],none⟩ (.one ⟨some 245,.callg 47 0 [(.t 238),(.t 244),(.k (.lf (.str ⟨#[32,47,32]⟩)))],none⟩ (.one ⟨some 249,.callg 43 0 [(.t 237),(.t 245),(.t 248),(.k (.lf (.int .i64 1)))],none⟩ (.one ⟨some 6,.as 5 1 (.t 249),none⟩ .nil))))))))))))))) [6]) .ret
abbrev c68_73 : AC := .seq c68_71 c68_72
abbrev c68_74 : AC := .seq (.ops 0 [⟨some 27,.fa (.t 7) 1,none⟩,⟨some 28,.ld (.t 27) 1 false,none⟩,⟨some 29,.call 77 [(.t 28),(.k (.lf (.int .i64 10)))],none⟩,⟨some 9,.as 0 0 (.t 29),none⟩] [0,1,2,7,8,9]) c68_73
abbrev c68_75 : AC := .seq (.reg [⟨some 17,.mv (.t 0),none⟩,⟨some 18,.nc (.t 17),none⟩,⟨some 19,.fa (.t 18) 0,none⟩,⟨some 20,.ld (.t 19) 1 false,none⟩,⟨some 21,.mv (.t 0),none⟩,⟨some 22,.nc (.t 21),none⟩,⟨some 23,.fa (.t 22) 1,none⟩,⟨some 24,.ld (.t 23) 1 false,none⟩,⟨some 25,.mv (.t 2),none⟩] [⟨some 26,.call 49 [(.t 20),(.t 24),(.t 25)],none⟩,⟨some 8,.as 3 1 (.t 26),none⟩] [0,1,2,7,8]) c68_74
abbrev c68_76 : AC := .seq (.ops 0 [⟨some 10,.mv (.t 0),none⟩,⟨some 11,.nc (.t 10),none⟩,⟨some 12,.fa (.t 11) 0,none⟩,⟨some 13,.ld (.t 12) 1 false,none⟩,⟨some 14,.mv (.t 2),none⟩,⟨some 15,.ia (.t 13) (.t 14) 7,none⟩,⟨some 16,.ld (.t 15) 7 true,none⟩,⟨some 7,.al [.int .i64 0,.int .i64 0,.str ⟨#[]⟩,.int .u64 0,.int .u64 0,.int .u64 0,.int .u64 0],none⟩,⟨none,.st (.t 7) (.t 16) 7,none⟩] [0,1,2,7]) c68_75
abbrev c68_77 : AC := .seq (.ops 0 [⟨some 6,.as 5 1 (.k (.lf (.lst .nl 1 [] []))),none⟩] [0,1,2]) c68_76
abbrev c68 : AC := c68_77
theorem c68_ok : compileFn Tryz.prog 68 = some (250, AC.strip c68, [.t 6]) := by kernel_rfl
abbrev c65_0 : AC := .cond (.t 4) .skip (.ops 0 [⟨some 11,.bin .eql (.t 3) (.k (.lf (.int .i64 17))),none⟩,⟨some 4,.as 0 0 (.t 11),none⟩] [3,4])
abbrev c65_1 : AC := .seq (.ops 0 [⟨some 10,.bin .eql (.t 3) (.k (.lf (.int .i64 6))),none⟩,⟨some 4,.as 0 0 (.t 10),none⟩] [3,4]) c65_0
abbrev c65_2 : AC := .cond (.t 4) .skip c65_1
abbrev c65_3 : AC := .seq (.ops 0 [⟨some 9,.bin .eql (.t 3) (.k (.lf (.int .i64 5))),none⟩,⟨some 4,.as 0 0 (.t 9),none⟩] [3,4]) c65_2
abbrev c65_4 : AC := .cond (.t 4) .skip c65_3
abbrev c65_5 : AC := .seq (.ops 0 [⟨some 8,.bin .eql (.t 3) (.k (.lf (.int .i64 4))),none⟩,⟨some 4,.as 0 0 (.t 8),none⟩] [3,4]) c65_4
abbrev c65_6 : AC := .cond (.t 4) .skip c65_5
abbrev c65_7 : AC := .seq (.ops 0 [⟨some 7,.bin .eql (.t 3) (.k (.lf (.int .i64 3))),none⟩,⟨some 4,.as 0 0 (.t 7),none⟩] [3,4]) c65_6
abbrev c65_8 : AC := .cond (.t 4) .skip c65_7
abbrev c65_9 : AC := .seq (.ops 0 [⟨some 6,.bin .eql (.t 3) (.k (.lf (.int .i64 2))),none⟩,⟨some 4,.as 0 0 (.t 6),none⟩] [3,4]) c65_8
abbrev c65_10 : AC := .cond (.t 4) .skip c65_9
abbrev c65_11 : AC := .seq (.ops 0 [⟨some 5,.bin .eql (.t 3) (.k (.lf (.int .i64 1))),none⟩,⟨some 4,.as 0 0 (.t 5),none⟩] [3,4]) c65_10
abbrev c65_12 : AC := .seq (.ops 0 [⟨some 2,.as 0 0 (.k (.lf (.int .i64 0))),none⟩] [2]) .ret
abbrev c65_13 : AC := .cond (.t 12) .skip (.ops 0 [⟨some 14,.bin .eql (.t 3) (.k (.lf (.int .i64 8))),none⟩,⟨some 12,.as 0 0 (.t 14),none⟩] [3,12])
abbrev c65_14 : AC := .seq (.ops 0 [⟨some 13,.bin .eql (.t 3) (.k (.lf (.int .i64 7))),none⟩,⟨some 12,.as 0 0 (.t 13),none⟩] [3,12]) c65_13
abbrev c65_15 : AC := .seq (.ops 0 [⟨some 2,.as 0 0 (.k (.lf (.int .i64 2))),none⟩] [2]) .ret
abbrev c65_16 : AC := .cond (.t 15) .skip (.ops 0 [⟨some 29,.bin .eql (.t 3) (.k (.lf (.int .i64 23))),none⟩,⟨some 15,.as 0 0 (.t 29),none⟩] [15])
abbrev c65_17 : AC := .seq (.ops 0 [⟨some 28,.bin .eql (.t 3) (.k (.lf (.int .i64 22))),none⟩,⟨some 15,.as 0 0 (.t 28),none⟩] [3,15]) c65_16
abbrev c65_18 : AC := .cond (.t 15) .skip c65_17
abbrev c65_19 : AC := .seq (.ops 0 [⟨some 27,.bin .eql (.t 3) (.k (.lf (.int .i64 21))),none⟩,⟨some 15,.as 0 0 (.t 27),none⟩] [3,15]) c65_18
abbrev c65_20 : AC := .cond (.t 15) .skip c65_19
abbrev c65_21 : AC := .seq (.ops 0 [⟨some 26,.bin .eql (.t 3) (.k (.lf (.int .i64 20))),none⟩,⟨some 15,.as 0 0 (.t 26),none⟩] [3,15]) c65_20
abbrev c65_22 : AC := .cond (.t 15) .skip c65_21
abbrev c65_23 : AC := .seq (.ops 0 [⟨some 25,.bin .eql (.t 3) (.k (.lf (.int .i64 19))),none⟩,⟨some 15,.as 0 0 (.t 25),none⟩] [3,15]) c65_22
abbrev c65_24 : AC := .cond (.t 15) .skip c65_23
abbrev c65_25 : AC := .seq (.ops 0 [⟨some 24,.bin .eql (.t 3) (.k (.lf (.int .i64 18))),none⟩,⟨some 15,.as 0 0 (.t 24),none⟩] [3,15]) c65_24
abbrev c65_26 : AC := .cond (.t 15) .skip c65_25
abbrev c65_27 : AC := .seq (.ops 0 [⟨some 23,.bin .eql (.t 3) (.k (.lf (.int .i64 16))),none⟩,⟨some 15,.as 0 0 (.t 23),none⟩] [3,15]) c65_26
abbrev c65_28 : AC := .cond (.t 15) .skip c65_27
abbrev c65_29 : AC := .seq (.ops 0 [⟨some 22,.bin .eql (.t 3) (.k (.lf (.int .i64 15))),none⟩,⟨some 15,.as 0 0 (.t 22),none⟩] [3,15]) c65_28
abbrev c65_30 : AC := .cond (.t 15) .skip c65_29
abbrev c65_31 : AC := .seq (.ops 0 [⟨some 21,.bin .eql (.t 3) (.k (.lf (.int .i64 14))),none⟩,⟨some 15,.as 0 0 (.t 21),none⟩] [3,15]) c65_30
abbrev c65_32 : AC := .cond (.t 15) .skip c65_31
abbrev c65_33 : AC := .seq (.ops 0 [⟨some 20,.bin .eql (.t 3) (.k (.lf (.int .i64 13))),none⟩,⟨some 15,.as 0 0 (.t 20),none⟩] [3,15]) c65_32
abbrev c65_34 : AC := .cond (.t 15) .skip c65_33
abbrev c65_35 : AC := .seq (.ops 0 [⟨some 19,.bin .eql (.t 3) (.k (.lf (.int .i64 12))),none⟩,⟨some 15,.as 0 0 (.t 19),none⟩] [3,15]) c65_34
abbrev c65_36 : AC := .cond (.t 15) .skip c65_35
abbrev c65_37 : AC := .seq (.ops 0 [⟨some 18,.bin .eql (.t 3) (.k (.lf (.int .i64 11))),none⟩,⟨some 15,.as 0 0 (.t 18),none⟩] [3,15]) c65_36
abbrev c65_38 : AC := .cond (.t 15) .skip c65_37
abbrev c65_39 : AC := .seq (.ops 0 [⟨some 17,.bin .eql (.t 3) (.k (.lf (.int .i64 10))),none⟩,⟨some 15,.as 0 0 (.t 17),none⟩] [3,15]) c65_38
abbrev c65_40 : AC := .cond (.t 15) .skip c65_39
abbrev c65_41 : AC := .seq (.ops 0 [⟨some 16,.bin .eql (.t 3) (.k (.lf (.int .i64 9))),none⟩,⟨some 15,.as 0 0 (.t 16),none⟩] [3,15]) c65_40
abbrev c65_42 : AC := .seq (.ops 0 [⟨some 2,.as 0 0 (.k (.lf (.int .i64 1))),none⟩] [2]) .ret
abbrev c65_43 : AC := .cond (.t 15) c65_42 .skip
abbrev c65_44 : AC := .seq c65_41 c65_43
abbrev c65_45 : AC := .cond (.t 12) c65_15 c65_44
abbrev c65_46 : AC := .seq c65_14 c65_45
abbrev c65_47 : AC := .cond (.t 4) c65_12 c65_46
abbrev c65_48 : AC := .seq c65_11 c65_47
abbrev c65_49 : AC := .block 0 c65_48
abbrev c65_50 : AC := .seq (.ops 0 [⟨some 3,.mv (.t 0),none⟩] [3]) c65_49
abbrev c65_51 : AC := .seq (.ops 0 [⟨some 2,.as 0 0 (.k (.lf (.int .i64 (-1)))),none⟩] [2]) .ret
abbrev c65_52 : AC := .seq c65_50 c65_51
abbrev c65_53 : AC := .seq (.ops 0 [⟨some 2,.as 0 0 (.k (.lf (.int .i64 0))),none⟩] [0]) c65_52
abbrev c65 : AC := c65_53
theorem c65_ok : compileFn Tryz.prog 65 = some (30, AC.strip c65, [.t 2]) := by kernel_rfl
abbrev c66_0 : AC := .seq (.ops 0 [⟨some 2,.as 0 0 (.k (.lf (.bool false))),none⟩] [2]) .ret
abbrev c66_1 : AC := .cond (.t 14) c66_0 .skip
abbrev c66_2 : AC := .seq (.ops 0 [⟨some 6,.fa (.t 1) 0,none⟩,⟨some 7,.ld (.t 6) 1 false,none⟩,⟨some 8,.bin .neq (.t 7) (.k (.lf (.int .i64 5))),none⟩,⟨some 9,.mv (.t 8),none⟩,⟨some 10,.fa (.t 1) 3,some (9,true)⟩,⟨some 11,.ld (.t 10) 4 true,some (9,true)⟩,⟨some 12,.ld (.t 3) 4 true,some (9,true)⟩,⟨some 13,.beq true [2,2,2,2] (.t 11) (.t 12),some (9,true)⟩,⟨some 14,.pk (.t 9) (.t 13) (.k (.lf (.bool false))),none⟩] [1,14]) c66_1
abbrev c66_3 : AC := .seq (.ops 0 [⟨some 2,.as 0 0 (.k (.lf (.bool false))),none⟩] [2]) .ret
abbrev c66_4 : AC := .cond (.t 49) c66_3 .skip
abbrev c66_5 : AC := .seq (.ops 0 [⟨some 33,.fa (.t 1) 1,none⟩,⟨some 34,.ld (.t 33) 1 false,none⟩,⟨some 35,.bin .lss (.t 34) (.k (.lf (.int .i64 0))),none⟩,⟨some 36,.mv (.t 35),none⟩,⟨some 37,.fa (.t 1) 1,some (36,false)⟩,⟨some 38,.ld (.t 37) 1 false,some (36,false)⟩,⟨some 39,.bin .gtr (.t 38) (.k (.lf (.int .i64 50))),some (36,false)⟩,⟨some 40,.pk (.t 36) (.k (.lf (.bool true))) (.t 39),none⟩,⟨some 41,.mv (.t 40),none⟩,⟨some 42,.mv (.t 4),some (41,false)⟩,⟨some 43,.un .not (.t 42),some (41,false)⟩,⟨some 44,.mv (.t 43),some (41,false)⟩,⟨some 45,.fa (.t 1) 1,some (44,true)⟩,⟨some 46,.ld (.t 45) 1 false,some (44,true)⟩,⟨some 47,.bin .neq (.t 46) (.k (.lf (.int .i64 0))),some (44,true)⟩,⟨some 48,.pk (.t 44) (.t 47) (.k (.lf (.bool false))),some (41,false)⟩,⟨some 49,.pk (.t 41) (.k (.lf (.bool true))) (.t 48),none⟩] [1,49]) c66_4
abbrev c66_6 : AC := .seq (.ops 0 [⟨some 54,.fa (.t 1) 2,none⟩,⟨some 55,.ld (.t 54) 1 false,none⟩,⟨some 56,.lns (.t 55),none⟩,⟨some 57,.bin .geq (.t 56) (.k (.lf (.int .i64 1))),none⟩,⟨some 58,.mv (.t 57),none⟩,⟨some 59,.fa (.t 1) 2,some (58,true)⟩,⟨some 60,.ld (.t 59) 1 false,some (58,true)⟩,⟨some 61,.lns (.t 60),some (58,true)⟩,⟨some 62,.bin .leq (.t 61) (.k (.lf (.int .i64 255))),some (58,true)⟩,⟨some 63,.pk (.t 58) (.t 62) (.k (.lf (.bool false))),none⟩,⟨some 2,.as 0 0 (.t 63),none⟩] [2]) .ret
abbrev c66_7 : AC := .seq (.ops 0 [⟨some 66,.fa (.t 1) 2,none⟩,⟨some 67,.ld (.t 66) 1 false,none⟩,⟨some 68,.call 92 [(.t 67)],none⟩,⟨some 2,.as 0 0 (.t 68),none⟩] [2]) .ret
abbrev c66_8 : AC := .seq (.ops 0 [⟨some 71,.fa (.t 1) 2,none⟩,⟨some 72,.ld (.t 71) 1 false,none⟩,⟨some 73,.bin .eql (.t 72) (.k (.lf (.str ⟨#[]⟩))),none⟩,⟨some 74,.mv (.t 73),none⟩,⟨some 75,.fa (.t 1) 2,some (74,false)⟩,⟨some 76,.ld (.t 75) 1 false,some (74,false)⟩,⟨some 77,.call 92 [(.t 76)],some (74,false)⟩,⟨some 78,.pk (.t 74) (.k (.lf (.bool true))) (.t 77),none⟩,⟨some 2,.as 0 0 (.t 78),none⟩] [2]) .ret
abbrev c66_9 : AC := .seq (.ops 0 [⟨some 81,.fa (.t 1) 2,none⟩,⟨some 82,.ld (.t 81) 1 false,none⟩,⟨some 83,.call 93 [(.t 82)],none⟩,⟨some 2,.as 0 0 (.t 83),none⟩] [2]) .ret
abbrev c66_10 : AC := .cond (.t 79) c66_9 .skip
abbrev c66_11 : AC := .seq (.ops 0 [⟨some 80,.bin .eql (.t 51) (.k (.lf (.int .i64 22))),none⟩,⟨some 79,.as 0 0 (.t 80),none⟩] [1,79]) c66_10
abbrev c66_12 : AC := .cond (.t 69) c66_8 c66_11
abbrev c66_13 : AC := .seq (.ops 0 [⟨some 70,.bin .eql (.t 51) (.k (.lf (.int .i64 19))),none⟩,⟨some 69,.as 0 0 (.t 70),none⟩] [1,51,69]) c66_12
abbrev c66_14 : AC := .cond (.t 64) c66_7 c66_13
abbrev c66_15 : AC := .seq (.ops 0 [⟨some 65,.bin .eql (.t 51) (.k (.lf (.int .i64 6))),none⟩,⟨some 64,.as 0 0 (.t 65),none⟩] [1,51,64]) c66_14
abbrev c66_16 : AC := .cond (.t 52) c66_6 c66_15
abbrev c66_17 : AC := .seq (.ops 0 [⟨some 53,.bin .eql (.t 51) (.k (.lf (.int .i64 4))),none⟩,⟨some 52,.as 0 0 (.t 53),none⟩] [1,51,52]) c66_16
abbrev c66_18 : AC := .block 0 c66_17
abbrev c66_19 : AC := .seq (.ops 0 [⟨some 50,.fa (.t 1) 0,none⟩,⟨some 51,.ld (.t 50) 1 false,none⟩] [1,51]) c66_18
abbrev c66_20 : AC := .seq (.ops 0 [⟨some 84,.fa (.t 1) 2,none⟩,⟨some 85,.ld (.t 84) 1 false,none⟩,⟨some 86,.bin .eql (.t 85) (.k (.lf (.str ⟨#[]⟩))),none⟩,⟨some 2,.as 0 0 (.t 86),none⟩] [2]) .ret
abbrev c66_21 : AC := .seq c66_19 c66_20
abbrev c66_22 : AC := .seq c66_5 c66_21
abbrev c66_23 : AC := .seq (.ops 0 [⟨some 15,.fa (.t 1) 0,none⟩,⟨some 16,.ld (.t 15) 1 false,none⟩,⟨some 17,.bin .eql (.t 16) (.k (.lf (.int .i64 14))),none⟩,⟨some 18,.mv (.t 17),none⟩,⟨some 19,.fa (.t 1) 0,some (18,false)⟩,⟨some 20,.ld (.t 19) 1 false,some (18,false)⟩,⟨some 21,.bin .eql (.t 20) (.k (.lf (.int .i64 15))),some (18,false)⟩,⟨some 22,.pk (.t 18) (.k (.lf (.bool true))) (.t 21),none⟩,⟨some 23,.mv (.t 22),none⟩,⟨some 24,.fa (.t 1) 0,some (23,false)⟩,⟨some 25,.ld (.t 24) 1 false,some (23,false)⟩,⟨some 26,.bin .eql (.t 25) (.k (.lf (.int .i64 16))),some (23,false)⟩,⟨some 27,.pk (.t 23) (.k (.lf (.bool true))) (.t 26),none⟩,⟨some 28,.mv (.t 27),none⟩,⟨some 29,.fa (.t 1) 0,some (28,false)⟩,⟨some 30,.ld (.t 29) 1 false,some (28,false)⟩,⟨some 31,.bin .eql (.t 30) (.k (.lf (.int .i64 23))),some (28,false)⟩,⟨some 32,.pk (.t 28) (.k (.lf (.bool true))) (.t 31),none⟩,⟨some 4,.as 0 0 (.t 32),none⟩] [1,4]) c66_22
abbrev c66_24 : AC := .seq c66_2 c66_23
abbrev c66_25 : AC := .seq (.ops 0 [⟨some 5,.bd [.int .u64 0,.int .u64 0,.int .u64 0,.int .u64 0] [],none⟩,⟨some 3,.al [.int .u64 0,.int .u64 0,.int .u64 0,.int .u64 0],none⟩,⟨none,.st (.t 3) (.t 5) 4,none⟩] [1,3]) c66_24
abbrev c66_26 : AC := .seq (.ops 0 [⟨some 1,.bx (.t 0),none⟩,⟨some 2,.as 0 0 (.k (.lf (.bool false))),none⟩] [1]) c66_25
abbrev c66 : AC := c66_26
theorem c66_ok : compileFn Tryz.prog 66 = some (87, AC.strip c66, [.t 2]) := by kernel_rfl
abbrev c49_0 : AC := .seq (.ops 0 [⟨some 15,.mv (.t 2),none⟩,⟨some 16,.bin .sub (.t 15) (.k (.lf (.int .i64 1))),none⟩,⟨some 17,.bs 3 1 1 [.int .i64 0] [(0,(.t 16))],none⟩,⟨some 6,.as 3 1 (.t 17),none⟩] [6]) .ret
abbrev c49_1 : AC := .seq (.ops 0 [⟨some 20,.mv (.t 1),none⟩,⟨some 21,.mv (.t 2),none⟩,⟨some 22,.bin .sub (.t 21) (.k (.lf (.int .i64 1))),none⟩,⟨some 23,.ia (.t 20) (.t 22) 1,none⟩,⟨some 24,.ld (.t 23) 1 false,none⟩,⟨some 25,.bin .sub (.t 24) (.k (.lf (.int .i64 1))),none⟩,⟨some 26,.mv (.t 2),none⟩,⟨some 27,.bin .sub (.t 26) (.k (.lf (.int .i64 1))),none⟩,⟨some 28,.bs 3 1 2 [.int .i64 0] [(0,(.t 25)),(1,(.t 27))],none⟩,⟨some 6,.as 3 1 (.t 28),none⟩] [6]) .ret
abbrev c49_2 : AC := .cond (.t 18) c49_1 .skip
abbrev c49_3 : AC := .seq (.ops 0 [⟨some 19,.bin .eql (.t 12) (.k (.lf (.int .i64 2))),none⟩,⟨some 18,.as 0 0 (.t 19),none⟩] [1,2,18]) c49_2
abbrev c49_4 : AC := .cond (.t 13) c49_0 c49_3
abbrev c49_5 : AC := .seq (.ops 0 [⟨some 14,.bin .eql (.t 12) (.k (.lf (.int .i64 1))),none⟩,⟨some 13,.as 0 0 (.t 14),none⟩] [1,2,12,13]) c49_4
abbrev c49_6 : AC := .block 0 c49_5
abbrev c49_7 : AC := .seq (.ops 0 [⟨some 7,.mv (.t 0),none⟩,⟨some 8,.mv (.t 2),none⟩,⟨some 9,.ia (.t 7) (.t 8) 7,none⟩,⟨some 10,.fa (.t 9) 0,none⟩,⟨some 11,.ld (.t 10) 1 false,none⟩,⟨some 12,.call 65 [(.t 11)],none⟩] [1,2,12]) c49_6
abbrev c49_8 : AC := .seq (.ops 0 [⟨some 6,.as 3 1 (.k (.lf (.lst .nl 1 [] []))),none⟩] [6]) .ret
abbrev c49_9 : AC := .seq c49_7 c49_8
abbrev c49_10 : AC := .seq (.ops 0 [⟨some 6,.as 3 1 (.k (.lf (.lst .nl 1 [] []))),none⟩] [0,1,2]) c49_9
abbrev c49 : AC := c49_10
theorem c49_ok : compileFn Tryz.prog 49 = some (29, AC.strip c49, [.t 6]) := by kernel_rfl
abbrev c77_0 : AC := .cond (.t 12) .skip (.exit 0)
abbrev c77_1 : AC := .seq (.ops 0 [⟨some 7,.mv (.t 0),none⟩,⟨some 8,.bin .gtr (.t 7) (.k (.lf (.int .i64 0))),none⟩,⟨some 9,.mv (.t 8),none⟩,⟨some 10,.mv (.t 5),some (9,false)⟩,⟨some 11,.bin .eql (.t 10) (.k (.lf (.str ⟨#[]⟩))),some (9,false)⟩,⟨some 12,.pk (.t 9) (.k (.lf (.bool true))) (.t 11),none⟩] [0,1,5,12]) c77_0
abbrev c77_2 : AC := .seq (.ops 0 [⟨some 16,.mv (.t 0),none⟩,⟨some 17,.mv (.t 1),none⟩,⟨some 18,.bin .rem (.t 16) (.t 17),none⟩,⟨some 6,.as 0 0 (.t 18),none⟩] [0,1,5,6]) (.ops 0 [⟨some 19,.mv (.t 6),none⟩,⟨some 20,.mv (.t 6),none⟩,⟨some 21,.bin .add (.t 20) (.k (.lf (.int .i64 1))),none⟩,⟨some 22,.sls (.k (.lf (.str ⟨#[48,49,50,51,52,53,54,55,56,57,97,98,99,100,101,102]⟩))) (some (.t 19)) (some (.t 21)),none⟩,⟨some 23,.mv (.t 5),none⟩,⟨some 24,.bin .add (.t 22) (.t 23),none⟩,⟨some 5,.as 0 0 (.t 24),none⟩] [0,1,5])
abbrev c77_3 : AC := .block 1 c77_2
abbrev c77_4 : AC := .seq c77_3 (.ops 0 [⟨some 13,.mv (.t 0),none⟩,⟨some 14,.mv (.t 1),none⟩,⟨some 15,.bin .quo (.t 13) (.t 14),none⟩,⟨some 0,.as 0 0 (.t 15),none⟩] [0,1,5])
abbrev c77_5 : AC := .seq c77_1 c77_4
abbrev c77_6 : AC := .loop c77_5 [0,1,5]
abbrev c77_7 : AC := .block 0 c77_6
abbrev c77_8 : AC := .seq (.ops 0 [⟨some 25,.mv (.t 5),none⟩,⟨some 4,.as 0 0 (.t 25),none⟩] [4]) .ret
abbrev c77_9 : AC := .seq c77_7 c77_8
abbrev c77_10 : AC := .seq (.ops 0 [⟨some 5,.as 0 0 (.k (.lf (.str ⟨#[]⟩))),none⟩] [0,1,5]) c77_9
abbrev c77_11 : AC := .seq (.ops 0 [⟨some 4,.as 0 0 (.k (.lf (.str ⟨#[]⟩))),none⟩] [0,1]) c77_10
abbrev c77 : AC := c77_11
theorem c77_ok : compileFn Tryz.prog 77 = some (26, AC.strip c77, [.t 4]) := by kernel_rfl
abbrev c75_0 : AC := .cond (.t 9) .skip (.exit 0)
abbrev c75_1 : AC := .seq (.ops 0 [⟨some 6,.mv (.t 4),none⟩,⟨some 7,.mv (.t 0),none⟩,⟨some 8,.lns (.t 7),none⟩,⟨some 9,.bin .lss (.t 6) (.t 8),none⟩] [0,3,4,9]) c75_0
abbrev c75_2 : AC := .cond (.t 47) (.ops 0 [⟨some 54,.mv (.t 3),none⟩,⟨some 55,.mv (.t 5),none⟩,⟨some 56,.bs 5 1 1 [.int .u8 0] [(0,(.t 55))],none⟩,⟨some 57,.app 5 1 1 (.t 54) (.t 56),none⟩,⟨some 3,.as 5 1 (.t 57),none⟩] [0,3,4]) (.ops 0 [⟨some 15,.mv (.t 3),none⟩,⟨some 16,.mv (.t 5),none⟩,⟨some 17,.cvi .i64 (.t 16),none⟩,⟨some 18,.call 102 [(.t 17)],none⟩,⟨some 19,.bin .add (.k (.lf (.str ⟨#[92,120]⟩))) (.t 18),none⟩,⟨some 20,.aps 5 (.t 15) (.t 19),none⟩,⟨some 3,.as 5 1 (.t 20),none⟩] [0,3,4])
abbrev c75_3 : AC := .seq (.ops 0 [⟨some 48,.mv (.t 5),none⟩,⟨some 49,.bin .geq (.t 48) (.k (.lf (.int .u8 32))),none⟩,⟨some 50,.mv (.t 49),none⟩,⟨some 51,.mv (.t 5),some (50,true)⟩,⟨some 52,.bin .leq (.t 51) (.k (.lf (.int .u8 126))),some (50,true)⟩,⟨some 53,.pk (.t 50) (.t 52) (.k (.lf (.bool false))),none⟩,⟨some 47,.as 0 0 (.t 53),none⟩] [0,3,4,5,47]) c75_2
abbrev c75_4 : AC := .cond (.t 36) (.ops 0 [⟨some 43,.mv (.t 3),none⟩,⟨some 44,.mv (.t 5),none⟩,⟨some 45,.bs 5 1 2 [.int .u8 0] [(0,(.k (.lf (.int .u8 92)))),(1,(.t 44))],none⟩,⟨some 46,.app 5 1 1 (.t 43) (.t 45),none⟩,⟨some 3,.as 5 1 (.t 46),none⟩] [0,3,4]) c75_3
abbrev c75_5 : AC := .seq (.ops 0 [⟨some 37,.mv (.t 5),none⟩,⟨some 38,.bin .eql (.t 37) (.k (.lf (.int .u8 92))),none⟩,⟨some 39,.mv (.t 38),none⟩,⟨some 40,.mv (.t 5),some (39,false)⟩,⟨some 41,.bin .eql (.t 40) (.k (.lf (.int .u8 39))),some (39,false)⟩,⟨some 42,.pk (.t 39) (.k (.lf (.bool true))) (.t 41),none⟩,⟨some 36,.as 0 0 (.t 42),none⟩] [0,3,4,5,36]) c75_4
abbrev c75_6 : AC := .cond (.t 31) (.ops 0 [⟨some 34,.mv (.t 3),none⟩,⟨some 35,.aps 5 (.t 34) (.k (.lf (.str ⟨#[92,116]⟩))),none⟩,⟨some 3,.as 5 1 (.t 35),none⟩] [0,3,4]) c75_5
abbrev c75_7 : AC := .seq (.ops 0 [⟨some 32,.mv (.t 5),none⟩,⟨some 33,.bin .eql (.t 32) (.k (.lf (.int .u8 9))),none⟩,⟨some 31,.as 0 0 (.t 33),none⟩] [0,3,4,5,31]) c75_6
abbrev c75_8 : AC := .cond (.t 26) (.ops 0 [⟨some 29,.mv (.t 3),none⟩,⟨some 30,.aps 5 (.t 29) (.k (.lf (.str ⟨#[92,114]⟩))),none⟩,⟨some 3,.as 5 1 (.t 30),none⟩] [0,3,4]) c75_7
abbrev c75_9 : AC := .seq (.ops 0 [⟨some 27,.mv (.t 5),none⟩,⟨some 28,.bin .eql (.t 27) (.k (.lf (.int .u8 13))),none⟩,⟨some 26,.as 0 0 (.t 28),none⟩] [0,3,4,5,26]) c75_8
abbrev c75_10 : AC := .cond (.t 21) (.ops 0 [⟨some 24,.mv (.t 3),none⟩,⟨some 25,.aps 5 (.t 24) (.k (.lf (.str ⟨#[92,110]⟩))),none⟩,⟨some 3,.as 5 1 (.t 25),none⟩] [0,3,4]) c75_9
abbrev c75_11 : AC := .seq (.ops 0 [⟨some 22,.mv (.t 5),none⟩,⟨some 23,.bin .eql (.t 22) (.k (.lf (.int .u8 10))),none⟩,⟨some 21,.as 0 0 (.t 23),none⟩] [0,3,4,5,21]) c75_10
abbrev c75_12 : AC := .block 2 c75_11
abbrev c75_13 : AC := .seq (.ops 0 [⟨some 12,.mv (.t 0),none⟩,⟨some 13,.mv (.t 4),none⟩,⟨some 14,.ixs (.t 12) (.t 13),none⟩,⟨some 5,.as 0 0 (.t 14),none⟩] [0,3,4,5]) c75_12
abbrev c75_14 : AC := .block 1 c75_13
abbrev c75_15 : AC := .seq c75_14 (.ops 0 [⟨some 10,.mv (.t 4),none⟩,⟨some 11,.bin .add (.t 10) (.k (.lf (.int .i64 1))),none⟩,⟨some 4,.as 0 0 (.t 11),none⟩] [0,3,4])
abbrev c75_16 : AC := .seq c75_1 c75_15
abbrev c75_17 : AC := .loop c75_16 [0,3,4]
abbrev c75_18 : AC := .block 0 c75_17
abbrev c75_19 : AC := .seq (.ops 0 [⟨some 4,.as 0 0 (.k (.lf (.int .i64 0))),none⟩] [0,3,4]) c75_18
abbrev c75_20 : AC := .seq (.ops 0 [⟨some 58,.mv (.t 3),none⟩,⟨some 59,.cbs (.t 58),none⟩,⟨some 60,.bin .add (.k (.lf (.str ⟨#[39]⟩))) (.t 59),none⟩,⟨some 61,.bin .add (.t 60) (.k (.lf (.str ⟨#[39]⟩))),none⟩,⟨some 2,.as 0 0 (.t 61),none⟩] [2]) .ret
abbrev c75_21 : AC := .seq c75_19 c75_20
abbrev c75_22 : AC := .seq (.ops 0 [⟨some 3,.as 5 1 (.k (.lf (.lst .nl 1 [] []))),none⟩] [0,3]) c75_21
abbrev c75_23 : AC := .seq (.ops 0 [⟨some 2,.as 0 0 (.k (.lf (.str ⟨#[]⟩))),none⟩] [0]) c75_22
abbrev c75 : AC := c75_23
theorem c75_ok : compileFn Tryz.prog 75 = some (62, AC.strip c75, [.t 2]) := by kernel_rfl
abbrev c94_0 : AC := .seq (.ops 0 [⟨some 11,.mv (.t 0),none⟩,⟨some 12,.mv (.t 0),none⟩,⟨some 13,.mv (.t 0),none⟩,⟨some 14,.mv (.t 1),none⟩,⟨some 15,.mv (.t 2),none⟩,⟨some 16,.callg 47 0 [(.t 13),(.t 14),(.t 15)],none⟩,⟨some 17,.mv (.t 3),none⟩,⟨some 18,.bin .sub (.t 17) (.k (.lf (.int .i64 1))),none⟩,⟨some 19,.callg 43 0 [(.t 12),(.t 16),(.t 18),(.k (.lf (.int .i64 0)))],none⟩,⟨some 20,.mv (.t 4),none⟩,⟨some 21,.callg 47 0 [(.t 11),(.t 19),(.t 20)],none⟩,⟨some 10,.as 5 1 (.t 21),none⟩] [10]) .ret
abbrev c94_1 : AC := .seq (.ops 0 [⟨some 10,.as 5 1 (.k (.lf (.lst .nl 1 [] []))),none⟩] [0,1,2,3,4]) c94_0
abbrev c94 : AC := c94_1
theorem c94_ok : compileFn Tryz.prog 94 = some (22, AC.strip c94, [.t 10]) := by kernel_rfl
abbrev c92_0 : AC := .seq (.ops 0 [⟨some 2,.as 0 0 (.k (.lf (.bool false))),none⟩] [2]) .ret
abbrev c92_1 : AC := .cond (.t 22) c92_0 .skip
abbrev c92_2 : AC := .seq (.ops 0 [⟨some 5,.mv (.t 0),none⟩,⟨some 6,.lns (.t 5),none⟩,⟨some 7,.bin .lss (.t 6) (.k (.lf (.int .i64 1))),none⟩,⟨some 8,.mv (.t 7),none⟩,⟨some 9,.mv (.t 0),some (8,false)⟩,⟨some 10,.lns (.t 9),some (8,false)⟩,⟨some 11,.bin .gtr (.t 10) (.k (.lf (.int .i64 32))),some (8,false)⟩,⟨some 12,.pk (.t 8) (.k (.lf (.bool true))) (.t 11),none⟩,⟨some 13,.mv (.t 12),none⟩,⟨some 14,.mv (.t 0),some (13,false)⟩,⟨some 15,.ixs (.t 14) (.k (.lf (.int .i64 0))),some (13,false)⟩,⟨some 16,.bin .geq (.t 15) (.k (.lf (.int .u8 48))),some (13,false)⟩,⟨some 17,.mv (.t 16),some (13,false)⟩,⟨some 18,.mv (.t 0),some (17,true)⟩,⟨some 19,.ixs (.t 18) (.k (.lf (.int .i64 0))),some (17,true)⟩,⟨some 20,.bin .leq (.t 19) (.k (.lf (.int .u8 57))),some (17,true)⟩,⟨some 21,.pk (.t 17) (.t 20) (.k (.lf (.bool false))),some (13,false)⟩,⟨some 22,.pk (.t 13) (.k (.lf (.bool true))) (.t 21),none⟩] [0,22]) c92_1
abbrev c92_3 : AC := .cond (.t 26) .skip (.exit 0)
abbrev c92_4 : AC := .seq (.ops 0 [⟨some 23,.mv (.t 3),none⟩,⟨some 24,.mv (.t 0),none⟩,⟨some 25,.lns (.t 24),none⟩,⟨some 26,.bin .lss (.t 23) (.t 25),none⟩] [0,3,26]) c92_3
abbrev c92_5 : AC := .seq (.ops 0 [⟨some 2,.as 0 0 (.k (.lf (.bool false))),none⟩] [2]) .ret
abbrev c92_6 : AC := .cond (.t 58) c92_5 .skip
abbrev c92_7 : AC := .seq (.ops 0 [⟨some 32,.mv (.t 4),none⟩,⟨some 33,.bin .geq (.t 32) (.k (.lf (.int .u8 97))),none⟩,⟨some 34,.mv (.t 33),none⟩,⟨some 35,.mv (.t 4),some (34,true)⟩,⟨some 36,.bin .leq (.t 35) (.k (.lf (.int .u8 122))),some (34,true)⟩,⟨some 37,.pk (.t 34) (.t 36) (.k (.lf (.bool false))),none⟩,⟨some 38,.mv (.t 37),none⟩,⟨some 39,.mv (.t 4),some (38,false)⟩,⟨some 40,.bin .geq (.t 39) (.k (.lf (.int .u8 65))),some (38,false)⟩,⟨some 41,.mv (.t 40),some (38,false)⟩,⟨some 42,.mv (.t 4),some (41,true)⟩,⟨some 43,.bin .leq (.t 42) (.k (.lf (.int .u8 90))),some (41,true)⟩,⟨some 44,.pk (.t 41) (.t 43) (.k (.lf (.bool false))),some (38,false)⟩,⟨some 45,.pk (.t 38) (.k (.lf (.bool true))) (.t 44),none⟩,⟨some 46,.mv (.t 45),none⟩,⟨some 47,.mv (.t 4),some (46,false)⟩,⟨some 48,.bin .geq (.t 47) (.k (.lf (.int .u8 48))),some (46,false)⟩,⟨some 49,.mv (.t 48),some (46,false)⟩,⟨some 50,.mv (.t 4),some (49,true)⟩,⟨some 51,.bin .leq (.t 50) (.k (.lf (.int .u8 57))),some (49,true)⟩,⟨some 52,.pk (.t 49) (.t 51) (.k (.lf (.bool false))),some (46,false)⟩,⟨some 53,.pk (.t 46) (.k (.lf (.bool true))) (.t 52),none⟩,⟨some 54,.mv (.t 53),none⟩,⟨some 55,.mv (.t 4),some (54,false)⟩,⟨some 56,.bin .eql (.t 55) (.k (.lf (.int .u8 95))),some (54,false)⟩,⟨some 57,.pk (.t 54) (.k (.lf (.bool true))) (.t 56),none⟩,⟨some 58,.un .not (.t 57),none⟩] [0,3,58]) c92_6
abbrev c92_8 : AC := .seq (.ops 0 [⟨some 29,.mv (.t 0),none⟩,⟨some 30,.mv (.t 3),none⟩,⟨some 31,.ixs (.t 29) (.t 30),none⟩,⟨some 4,.as 0 0 (.t 31),none⟩] [0,3,4]) c92_7
abbrev c92_9 : AC := .block 1 c92_8
abbrev c92_10 : AC := .seq c92_9 (.ops 0 [⟨some 27,.mv (.t 3),none⟩,⟨some 28,.bin .add (.t 27) (.k (.lf (.int .i64 1))),none⟩,⟨some 3,.as 0 0 (.t 28),none⟩] [0,3])
abbrev c92_11 : AC := .seq c92_4 c92_10
abbrev c92_12 : AC := .loop c92_11 [0,3]
abbrev c92_13 : AC := .block 0 c92_12
abbrev c92_14 : AC := .seq (.ops 0 [⟨some 3,.as 0 0 (.k (.lf (.int .i64 0))),none⟩] [0,3]) c92_13
abbrev c92_15 : AC := .seq (.ops 0 [⟨some 2,.as 0 0 (.k (.lf (.bool true))),none⟩] [2]) .ret
abbrev c92_16 : AC := .seq c92_14 c92_15
abbrev c92_17 : AC := .seq c92_2 c92_16
abbrev c92_18 : AC := .seq (.ops 0 [⟨some 2,.as 0 0 (.k (.lf (.bool false))),none⟩] [0]) c92_17
abbrev c92 : AC := c92_18
theorem c92_ok : compileFn Tryz.prog 92 = some (59, AC.strip c92, [.t 2]) := by kernel_rfl
abbrev c93_0 : AC := .seq (.ops 0 [⟨some 2,.as 0 0 (.k (.lf (.bool false))),none⟩] [2]) .ret
abbrev c93_1 : AC := .cond (.t 6) c93_0 .skip
abbrev c93_2 : AC := .seq (.ops 0 [⟨some 4,.mv (.t 0),none⟩,⟨some 5,.lns (.t 4),none⟩,⟨some 6,.bin .gtr (.t 5) (.k (.lf (.int .i64 255))),none⟩] [0,6]) c93_1
abbrev c93_3 : AC := .cond (.t 10) .skip (.exit 0)
abbrev c93_4 : AC := .seq (.ops 0 [⟨some 7,.mv (.t 3),none⟩,⟨some 8,.mv (.t 0),none⟩,⟨some 9,.lns (.t 8),none⟩,⟨some 10,.bin .lss (.t 7) (.t 9),none⟩] [0,3,10]) c93_3
abbrev c93_5 : AC := .cond (.t 16) (.exit 1) .skip
abbrev c93_6 : AC := .seq (.ops 0 [⟨some 13,.mv (.t 0),none⟩,⟨some 14,.mv (.t 3),none⟩,⟨some 15,.ixs (.t 13) (.t 14),none⟩,⟨some 16,.bin .neq (.t 15) (.k (.lf (.int .u8 37))),none⟩] [0,3,16]) c93_5
abbrev c93_7 : AC := .seq (.ops 0 [⟨some 2,.as 0 0 (.k (.lf (.bool false))),none⟩] [2]) .ret
abbrev c93_8 : AC := .cond (.t 40) c93_7 .skip
abbrev c93_9 : AC := .seq (.ops 0 [⟨some 19,.mv (.t 3),none⟩,⟨some 20,.mv (.t 0),none⟩,⟨some 21,.lns (.t 20),none⟩,⟨some 22,.bin .eql (.t 19) (.t 21),none⟩,⟨some 23,.mv (.t 22),none⟩,⟨some 24,.mv (.t 0),some (23,false)⟩,⟨some 25,.mv (.t 3),some (23,false)⟩,⟨some 26,.ixs (.t 24) (.t 25),some (23,false)⟩,⟨some 27,.bin .neq (.t 26) (.k (.lf (.int .u8 37))),some (23,false)⟩,⟨some 28,.mv (.t 27),some (23,false)⟩,⟨some 29,.mv (.t 0),some (28,true)⟩,⟨some 30,.mv (.t 3),some (28,true)⟩,⟨some 31,.ixs (.t 29) (.t 30),some (28,true)⟩,⟨some 32,.bin .lss (.t 31) (.k (.lf (.int .u8 48))),some (28,true)⟩,⟨some 33,.mv (.t 32),some (28,true)⟩,⟨some 34,.mv (.t 0),some (33,false)⟩,⟨some 35,.mv (.t 3),some (33,false)⟩,⟨some 36,.ixs (.t 34) (.t 35),some (33,false)⟩,⟨some 37,.bin .gtr (.t 36) (.k (.lf (.int .u8 57))),some (33,false)⟩,⟨some 38,.pk (.t 33) (.k (.lf (.bool true))) (.t 37),some (28,true)⟩,⟨some 39,.pk (.t 28) (.t 38) (.k (.lf (.bool false))),some (23,false)⟩,⟨some 40,.pk (.t 23) (.k (.lf (.bool true))) (.t 39),none⟩] [0,3,40]) c93_8
abbrev c93_10 : AC := .seq (.ops 0 [⟨some 17,.mv (.t 3),none⟩,⟨some 18,.bin .add (.t 17) (.k (.lf (.int .i64 1))),none⟩,⟨some 3,.as 0 0 (.t 18),none⟩] [0,3]) c93_9
abbrev c93_11 : AC := .seq c93_6 c93_10
abbrev c93_12 : AC := .block 1 c93_11
abbrev c93_13 : AC := .seq c93_12 (.ops 0 [⟨some 11,.mv (.t 3),none⟩,⟨some 12,.bin .add (.t 11) (.k (.lf (.int .i64 1))),none⟩,⟨some 3,.as 0 0 (.t 12),none⟩] [0,3])
abbrev c93_14 : AC := .seq c93_4 c93_13
abbrev c93_15 : AC := .loop c93_14 [0,3]
abbrev c93_16 : AC := .block 0 c93_15
abbrev c93_17 : AC := .seq (.ops 0 [⟨some 3,.as 0 0 (.k (.lf (.int .i64 0))),none⟩] [0,3]) c93_16
abbrev c93_18 : AC := .seq (.ops 0 [⟨some 2,.as 0 0 (.k (.lf (.bool true))),none⟩] [2]) .ret
abbrev c93_19 : AC := .seq c93_17 c93_18
abbrev c93_20 : AC := .seq c93_2 c93_19
abbrev c93_21 : AC := .seq (.ops 0 [⟨some 2,.as 0 0 (.k (.lf (.bool false))),none⟩] [0]) c93_20
abbrev c93 : AC := c93_21
theorem c93_ok : compileFn Tryz.prog 93 = some (41, AC.strip c93, [.t 2]) := by kernel_rfl
end Go.Proofs.YtdoefdmaecaacaaGreatDoor.S
set_option maxRecDepth 100000
namespace Go.Proofs.YtdoefdmaecaacaaGreatDoor.S
open Go Go.Proofs.YtdoefdmaecaacaaGreatDoor.AM
abbrev c18_0 : AC := .seq (.ops 0 [⟨some 12,.mv (.t 4),none⟩,⟨some 2,.as 0 0 (.k (.lf (.str ⟨#[]⟩))),none⟩,⟨some 3,.as 0 0 (.t 12),none⟩] [2,3]) .ret
abbrev c18_1 : AC := .cond (.t 11) c18_0 .skip
abbrev c18_2 : AC := .seq (.ops 0 [⟨some 10,.mv (.t 4),none⟩,⟨some 11,.bin .neq (.t 10) (.k (.lf (.int .i64 0))),none⟩] [1,4,11]) c18_1
abbrev c18_3 : AC := .seq (.ops 0 [⟨some 8,.ld (.t 1) 1 true,none⟩,⟨some 9,.call 31 [(.t 8)],none⟩,⟨some 4,.as 0 0 (.t 9),none⟩] [1,4]) c18_2
abbrev c18_4 : AC := .cond (.t 19) .skip (.exit 0)
abbrev c18_5 : AC := .cond (.t 24) (.ops 0 [⟨some 25,.mv (.t 5),none⟩,⟨some 26,.fa (.t 7) 0,none⟩,⟨some 27,.ld (.t 26) 1 false,none⟩,⟨some 28,.bin .add (.t 27) (.k (.lf (.str ⟨#[32,60,45,32]⟩))),none⟩,⟨some 29,.callp 32 0 [(.t 25),(.t 28)],none⟩] [5,7,16,17,18]) .skip
abbrev c18_6 : AC := .seq (.ops 0 [⟨some 22,.fa (.t 7) 0,none⟩,⟨some 23,.ld (.t 22) 1 false,none⟩,⟨some 24,.bin .neq (.t 23) (.k (.lf (.str ⟨#[]⟩))),none⟩] [5,7,16,17,18,24]) c18_5
abbrev c18_7 : AC := .seq (.ops 0 [⟨some 30,.mv (.t 5),none⟩,⟨some 31,.fa (.t 7) 1,none⟩,⟨some 32,.ld (.t 31) 1 false,none⟩,⟨some 33,.call 23 [(.t 32)],none⟩,⟨some 34,.callp 22 0 [(.t 30),(.t 33)],none⟩] [5,16,17,18]) (.ops 0 [⟨some 35,.mv (.t 5),none⟩,⟨some 36,.callp 32 0 [(.t 35),(.k (.lf (.str ⟨#[10]⟩)))],none⟩] [5,16,17,18])
abbrev c18_8 : AC := .seq c18_6 c18_7
abbrev c18_9 : AC := .seq (.ops 0 [⟨some 20,.ia (.t 16) (.t 18) 2,none⟩,⟨some 21,.ld (.t 20) 2 true,none⟩,⟨some 7,.al [.str ⟨#[]⟩,.lst (.own 899 49) 7 [] []],none⟩,⟨none,.st (.t 7) (.t 21) 2,none⟩] [5,7,16,17,18]) c18_8
abbrev c18_10 : AC := .block 1 c18_9
abbrev c18_11 : AC := .seq c18_10 (.ops 0 [⟨some 37,.bin .add (.t 18) (.k (.lf (.int .i64 1))),none⟩,⟨some 18,.mv (.t 37),none⟩] [5,16,17,18])
abbrev c18_12 : AC := .seq c18_4 c18_11
abbrev c18_13 : AC := .seq (.ops 0 [⟨some 19,.bin .lss (.t 18) (.t 17),none⟩] [5,16,17,18,19]) c18_12
abbrev c18_14 : AC := .loop c18_13 [5,16,17,18]
abbrev c18_15 : AC := .block 0 c18_14
abbrev c18_16 : AC := .seq (.ops 0 [⟨some 15,.fa (.t 1) 0,none⟩,⟨some 16,.ld (.t 15) 1 false,none⟩,⟨some 17,.len (.t 16),none⟩,⟨some 18,.mv (.k (.lf (.int .i64 0))),none⟩] [5,16,17,18]) c18_15
abbrev c18_17 : AC := .seq (.ops 0 [⟨some 38,.mv (.t 5),none⟩,⟨some 39,.callp 24 0 [(.t 38)],none⟩,⟨some 40,.ext (.t 39) 0,none⟩,⟨some 41,.ext (.t 39) 1,none⟩,⟨some 2,.as 0 0 (.t 40),none⟩,⟨some 3,.as 0 0 (.t 41),none⟩] [2,3]) .ret
abbrev c18_18 : AC := .seq c18_16 c18_17
abbrev c18_19 : AC := .seq (.ops 0 [⟨some 13,.bd [.nilp,.lst .nl 1 [] [],.bool false] [],none⟩,⟨some 14,.bxt 58 (.t 13),none⟩,⟨some 5,.as 0 0 (.t 14),none⟩] [1,5]) c18_18
abbrev c18_20 : AC := .seq c18_3 c18_19
abbrev c18_21 : AC := .seq (.ops 0 [⟨some 1,.bx (.t 0),none⟩,⟨some 2,.as 0 0 (.k (.lf (.str ⟨#[]⟩))),none⟩,⟨some 3,.as 0 0 (.k (.lf (.int .i64 0))),none⟩] [1]) c18_20
abbrev c18 : AC := c18_21
theorem c18_ok : compileFn Tryz.prog 18 = some (42, AC.strip c18, [.t 2, .t 3]) := by kernel_rfl
abbrev c13_0 : AC := .seq (.ops 0 [⟨some 41,.mv (.t 3),none⟩,⟨some 42,.bin .eql (.t 41) (.k (.lf (.str ⟨#[40,39,97,39,32,39,98,39,41,42]⟩))),none⟩,⟨some 43,.mv (.t 42),none⟩,⟨some 44,.mv (.t 4),some (43,true)⟩,⟨some 45,.bin .eql (.t 44) (.k (.lf (.int .i64 0))),some (43,true)⟩,⟨some 46,.pk (.t 43) (.t 45) (.k (.lf (.bool false))),none⟩,⟨some 47,.mv (.t 46),none⟩,⟨some 48,.mv (.t 5),some (47,true)⟩,⟨some 49,.bin .eql (.t 48) (.k (.lf (.str ⟨#[33,39,97,39,42]⟩))),some (47,true)⟩,⟨some 50,.pk (.t 47) (.t 49) (.k (.lf (.bool false))),none⟩,⟨some 51,.mv (.t 50),none⟩,⟨some 52,.mv (.t 6),some (51,true)⟩,⟨some 53,.bin .eql (.t 52) (.k (.lf (.int .i64 0))),some (51,true)⟩,⟨some 54,.pk (.t 51) (.t 53) (.k (.lf (.bool false))),none⟩,⟨some 55,.mv (.t 54),none⟩,⟨some 56,.mv (.t 7),some (55,true)⟩,⟨some 57,.bin .eql (.t 56) (.k (.lf (.str ⟨#[115,32,60,45,32,39,97,39,32,115,32,47,32,37,101,10]⟩))),some (55,true)⟩,⟨some 58,.pk (.t 55) (.t 57) (.k (.lf (.bool false))),none⟩,⟨some 59,.mv (.t 58),none⟩,⟨some 60,.mv (.t 8),some (59,true)⟩,⟨some 61,.bin .eql (.t 60) (.k (.lf (.int .i64 0))),some (59,true)⟩,⟨some 62,.pk (.t 59) (.t 61) (.k (.lf (.bool false))),none⟩,⟨some 0,.as 0 0 (.t 62),none⟩] [0]) .ret
abbrev c13_1 : AC := .seq (.ops 0 [⟨some 29,.ld (.t 1) 7 true,none⟩,⟨some 30,.bd [.int .i64 0,.int .i64 0,.str ⟨#[]⟩,.int .u64 0,.int .u64 0,.int .u64 0,.int .u64 0] [(0,1,(.k (.lf (.int .i64 6)))),(2,1,(.k (.lf (.str ⟨#[115]⟩))))],none⟩,⟨some 31,.bd [.int .i64 0,.int .i64 0,.str ⟨#[]⟩,.int .u64 0,.int .u64 0,.int .u64 0,.int .u64 0] [(0,1,(.k (.lf (.int .i64 7))))],none⟩,⟨some 32,.bd [.int .i64 0,.int .i64 0,.str ⟨#[]⟩,.int .u64 0,.int .u64 0,.int .u64 0,.int .u64 0] [(0,1,(.k (.lf (.int .i64 1))))],none⟩,⟨some 33,.bd [.int .i64 0,.int .i64 0,.str ⟨#[]⟩,.int .u64 0,.int .u64 0,.int .u64 0,.int .u64 0] [(0,1,(.k (.lf (.int .i64 8))))],none⟩,⟨some 34,.bs 49 7 5 [.int .i64 0,.int .i64 0,.str ⟨#[]⟩,.int .u64 0,.int .u64 0,.int .u64 0,.int .u64 0] [(0,(.t 29)),(1,(.t 30)),(2,(.t 31)),(3,(.t 32)),(4,(.t 33))],none⟩,⟨some 35,.bd [.str ⟨#[]⟩,.lst .nl 7 [] []] [(0,1,(.k (.lf (.str ⟨#[115]⟩)))),(1,1,(.t 34))],none⟩,⟨some 36,.bs 73 2 1 [.str ⟨#[]⟩,.lst .ro 7 [] []] [(0,(.t 35))],none⟩,⟨some 37,.bd [.lst .nl 2 [] []] [(0,1,(.t 36))],none⟩,⟨some 38,.call 18 [(.t 37)],none⟩,⟨some 28,.mv (.t 38),none⟩,⟨some 39,.ext (.t 28) 0,none⟩,⟨some 40,.ext (.t 28) 1,none⟩,⟨some 7,.as 0 0 (.t 39),none⟩,⟨some 8,.as 0 0 (.t 40),none⟩] [3,4,5,6,7,8]) c13_0
abbrev c13_2 : AC := .seq (.ops 0 [⟨some 21,.ld (.t 1) 7 true,none⟩,⟨some 22,.bd [.int .i64 0,.int .i64 0,.str ⟨#[]⟩,.int .u64 0,.int .u64 0,.int .u64 0,.int .u64 0] [(0,1,(.k (.lf (.int .i64 9))))],none⟩,⟨some 23,.bd [.int .i64 0,.int .i64 0,.str ⟨#[]⟩,.int .u64 0,.int .u64 0,.int .u64 0,.int .u64 0] [(0,1,(.k (.lf (.int .i64 13))))],none⟩,⟨some 24,.bs 49 7 3 [.int .i64 0,.int .i64 0,.str ⟨#[]⟩,.int .u64 0,.int .u64 0,.int .u64 0,.int .u64 0] [(0,(.t 21)),(1,(.t 22)),(2,(.t 23))],none⟩,⟨some 25,.call 8 [(.t 24)],none⟩,⟨some 20,.mv (.t 25),none⟩,⟨some 26,.ext (.t 20) 0,none⟩,⟨some 27,.ext (.t 20) 1,none⟩,⟨some 5,.as 0 0 (.t 26),none⟩,⟨some 6,.as 0 0 (.t 27),none⟩] [1,3,4,5,6]) c13_1
abbrev c13_3 : AC := .seq (.ops 0 [⟨some 12,.ld (.t 1) 7 true,none⟩,⟨some 13,.ld (.t 2) 7 true,none⟩,⟨some 14,.bd [.int .i64 0,.int .i64 0,.str ⟨#[]⟩,.int .u64 0,.int .u64 0,.int .u64 0,.int .u64 0] [(0,1,(.k (.lf (.int .i64 7))))],none⟩,⟨some 15,.bd [.int .i64 0,.int .i64 0,.str ⟨#[]⟩,.int .u64 0,.int .u64 0,.int .u64 0,.int .u64 0] [(0,1,(.k (.lf (.int .i64 9))))],none⟩,⟨some 16,.bs 49 7 4 [.int .i64 0,.int .i64 0,.str ⟨#[]⟩,.int .u64 0,.int .u64 0,.int .u64 0,.int .u64 0] [(0,(.t 12)),(1,(.t 13)),(2,(.t 14)),(3,(.t 15))],none⟩,⟨some 17,.call 8 [(.t 16)],none⟩,⟨some 11,.mv (.t 17),none⟩,⟨some 18,.ext (.t 11) 0,none⟩,⟨some 19,.ext (.t 11) 1,none⟩,⟨some 3,.as 0 0 (.t 18),none⟩,⟨some 4,.as 0 0 (.t 19),none⟩] [1,3,4]) c13_2
abbrev c13_4 : AC := .seq (.ops 0 [⟨some 9,.bd [.int .i64 0,.int .i64 0,.str ⟨#[]⟩,.int .u64 0,.int .u64 0,.int .u64 0,.int .u64 0] [(0,1,(.k (.lf (.int .i64 4)))),(2,1,(.k (.lf (.str ⟨#[97]⟩))))],none⟩,⟨some 10,.bd [.int .i64 0,.int .i64 0,.str ⟨#[]⟩,.int .u64 0,.int .u64 0,.int .u64 0,.int .u64 0] [(0,1,(.k (.lf (.int .i64 4)))),(2,1,(.k (.lf (.str ⟨#[98]⟩))))],none⟩,⟨some 1,.al [.int .i64 0,.int .i64 0,.str ⟨#[]⟩,.int .u64 0,.int .u64 0,.int .u64 0,.int .u64 0],none⟩,⟨some 2,.al [.int .i64 0,.int .i64 0,.str ⟨#[]⟩,.int .u64 0,.int .u64 0,.int .u64 0,.int .u64 0],none⟩,⟨none,.st (.t 1) (.t 9) 7,none⟩,⟨none,.st (.t 2) (.t 10) 7,none⟩] [1,2]) c13_3
abbrev c13_5 : AC := .seq (.ops 0 [⟨some 0,.as 0 0 (.k (.lf (.bool false))),none⟩] []) c13_4
abbrev c13 : AC := c13_5
theorem c13_ok : compileFn Tryz.prog 13 = some (63, AC.strip c13, [.t 0]) := by kernel_rfl
abbrev c7_0 : AC := .seq (.ops 0 [⟨some 3,.bs 49 7 0 [.int .i64 0,.int .i64 0,.str ⟨#[]⟩,.int .u64 0,.int .u64 0,.int .u64 0,.int .u64 0] [],none⟩,⟨some 4,.mv (.t 0),none⟩,⟨some 5,.app 49 7 64 (.t 3) (.t 4),none⟩,⟨some 6,.bd [.int .i64 0,.int .i64 0,.str ⟨#[]⟩,.int .u64 0,.int .u64 0,.int .u64 0,.int .u64 0] [(0,1,(.k (.lf (.int .i64 (-77)))))],none⟩,⟨some 7,.bs 49 7 1 [.int .i64 0,.int .i64 0,.str ⟨#[]⟩,.int .u64 0,.int .u64 0,.int .u64 0,.int .u64 0] [(0,(.t 6))],none⟩,⟨some 8,.app 49 7 64 (.t 5) (.t 7),none⟩,⟨some 9,.mv (.t 0),none⟩,⟨some 10,.len (.t 9),none⟩,⟨some 11,.sll 7 (.t 8) none (some (.t 10)),none⟩,⟨some 2,.as 49 7 (.t 11),none⟩] [2]) .ret
abbrev c7_1 : AC := .seq (.ops 0 [⟨some 2,.as 49 7 (.k (.lf (.lst .nl 7 [] []))),none⟩] [0]) c7_0
abbrev c7 : AC := c7_1
theorem c7_ok : compileFn Tryz.prog 7 = some (12, AC.strip c7, [.t 2]) := by kernel_rfl
abbrev c12_0 : AC := .seq (.ops 0 [⟨some 5,.mv (.t 0),none⟩,⟨some 6,.mv (.t 1),none⟩,⟨some 7,.call 15 [(.t 5),(.t 6)],none⟩,⟨some 8,.mv (.t 7),none⟩,⟨some 9,.mv (.t 0),some (8,true)⟩,⟨some 10,.mv (.t 1),some (8,true)⟩,⟨some 11,.len (.t 10),some (8,true)⟩,⟨some 12,.bin .add (.t 11) (.k (.lf (.int .i64 1))),some (8,true)⟩,⟨some 13,.sll 7 (.t 9) none (some (.t 12)),some (8,true)⟩,⟨some 14,.mv (.t 1),some (8,true)⟩,⟨some 15,.len (.t 14),some (8,true)⟩,⟨some 16,.ia (.t 13) (.t 15) 7,some (8,true)⟩,⟨some 17,.ld (.t 16) 7 true,some (8,true)⟩,⟨some 18,.bd [.int .i64 0,.int .i64 0,.str ⟨#[]⟩,.int .u64 0,.int .u64 0,.int .u64 0,.int .u64 0] [(0,1,(.k (.lf (.int .i64 (-77)))))],some (8,true)⟩,⟨some 19,.beq false [2,2,3,2,2,2,2] (.t 17) (.t 18),some (8,true)⟩,⟨some 20,.pk (.t 8) (.t 19) (.k (.lf (.bool false))),none⟩,⟨some 4,.as 0 0 (.t 20),none⟩] [4]) .ret
abbrev c12_1 : AC := .seq (.ops 0 [⟨some 4,.as 0 0 (.k (.lf (.bool false))),none⟩] [0,1]) c12_0
abbrev c12 : AC := c12_1
theorem c12_ok : compileFn Tryz.prog 12 = some (21, AC.strip c12, [.t 4]) := by kernel_rfl
abbrev c8_0 : AC := .seq (.ops 0 [⟨some 14,.mv (.t 5),none⟩,⟨some 2,.as 0 0 (.k (.lf (.str ⟨#[]⟩))),none⟩,⟨some 3,.as 0 0 (.t 14),none⟩] [2,3]) .ret
abbrev c8_1 : AC := .cond (.t 13) c8_0 .skip
abbrev c8_2 : AC := .seq (.ops 0 [⟨some 12,.mv (.t 5),none⟩,⟨some 13,.bin .neq (.t 12) (.k (.lf (.int .i64 0))),none⟩] [0,5,13]) c8_1
abbrev c8_3 : AC := .seq (.ops 0 [⟨some 8,.mv (.t 0),none⟩,⟨some 9,.call 21 [(.t 8)],none⟩,⟨some 7,.mv (.t 9),none⟩,⟨some 10,.ext (.t 7) 0,none⟩,⟨some 11,.ext (.t 7) 1,none⟩,⟨some 4,.as 0 0 (.t 10),none⟩,⟨some 5,.as 0 0 (.t 11),none⟩] [0,5]) c8_2
abbrev c8_4 : AC := .seq (.ops 0 [⟨some 21,.mv (.t 6),none⟩,⟨some 22,.callp 24 0 [(.t 21)],none⟩,⟨some 23,.ext (.t 22) 0,none⟩,⟨some 24,.ext (.t 22) 1,none⟩,⟨some 2,.as 0 0 (.t 23),none⟩,⟨some 3,.as 0 0 (.t 24),none⟩] [2,3]) .ret
abbrev c8_5 : AC := .seq (.ops 0 [⟨some 17,.mv (.t 6),none⟩,⟨some 18,.mv (.t 0),none⟩,⟨some 19,.call 23 [(.t 18)],none⟩,⟨some 20,.callp 22 0 [(.t 17),(.t 19)],none⟩] [6]) c8_4
abbrev c8_6 : AC := .seq (.ops 0 [⟨some 15,.bd [.nilp,.lst .nl 1 [] [],.bool false] [],none⟩,⟨some 16,.bxt 58 (.t 15),none⟩,⟨some 6,.as 0 0 (.t 16),none⟩] [0,6]) c8_5
abbrev c8_7 : AC := .seq c8_3 c8_6
abbrev c8_8 : AC := .seq (.ops 0 [⟨some 2,.as 0 0 (.k (.lf (.str ⟨#[]⟩))),none⟩,⟨some 3,.as 0 0 (.k (.lf (.int .i64 0))),none⟩] [0]) c8_7
abbrev c8 : AC := c8_8
theorem c8_ok : compileFn Tryz.prog 8 = some (25, AC.strip c8, [.t 2, .t 3]) := by kernel_rfl
abbrev c15_0 : AC := .seq (.ops 0 [⟨some 4,.as 0 0 (.k (.lf (.bool false))),none⟩] [4]) .ret
abbrev c15_1 : AC := .cond (.t 10) c15_0 .skip
abbrev c15_2 : AC := .seq (.ops 0 [⟨some 6,.mv (.t 0),none⟩,⟨some 7,.len (.t 6),none⟩,⟨some 8,.mv (.t 1),none⟩,⟨some 9,.len (.t 8),none⟩,⟨some 10,.bin .neq (.t 7) (.t 9),none⟩] [0,1,10]) c15_1
abbrev c15_3 : AC := .cond (.t 14) .skip (.exit 0)
abbrev c15_4 : AC := .seq (.ops 0 [⟨some 11,.mv (.t 5),none⟩,⟨some 12,.mv (.t 0),none⟩,⟨some 13,.len (.t 12),none⟩,⟨some 14,.bin .lss (.t 11) (.t 13),none⟩] [0,1,5,14]) c15_3
abbrev c15_5 : AC := .seq (.ops 0 [⟨some 4,.as 0 0 (.k (.lf (.bool false))),none⟩] [4]) .ret
abbrev c15_6 : AC := .cond (.t 25) c15_5 .skip
abbrev c15_7 : AC := .seq (.ops 2 [⟨some 17,.mv (.t 0),none⟩,⟨some 18,.mv (.t 5),none⟩,⟨some 19,.ia (.t 17) (.t 18) 7,none⟩,⟨some 20,.ld (.t 19) 7 true,none⟩,⟨some 21,.mv (.t 1),none⟩,⟨some 22,.mv (.t 5),none⟩,⟨some 23,.ia (.t 21) (.t 22) 7,none⟩,⟨some 24,.ld (.t 23) 7 true,none⟩,⟨some 25,.beq true [2,2,3,2,2,2,2] (.t 20) (.t 24),none⟩] [0,1,5,25]) c15_6
abbrev c15_8 : AC := .block 1 c15_7
abbrev c15_9 : AC := .seq c15_8 (.ops 0 [⟨some 15,.mv (.t 5),none⟩,⟨some 16,.bin .add (.t 15) (.k (.lf (.int .i64 1))),none⟩,⟨some 5,.as 0 0 (.t 16),none⟩] [0,1,5])
abbrev c15_10 : AC := .seq c15_4 c15_9
abbrev c15_11 : AC := .loop c15_10 [0,1,5]
abbrev c15_12 : AC := .block 0 c15_11
abbrev c15_13 : AC := .seq (.ops 0 [⟨some 5,.as 0 0 (.k (.lf (.int .i64 0))),none⟩] [0,1,5]) c15_12
abbrev c15_14 : AC := .seq (.ops 0 [⟨some 4,.as 0 0 (.k (.lf (.bool true))),none⟩] [4]) .ret
abbrev c15_15 : AC := .seq c15_13 c15_14
abbrev c15_16 : AC := .seq c15_2 c15_15
abbrev c15_17 : AC := .seq (.ops 0 [⟨some 4,.as 0 0 (.k (.lf (.bool false))),none⟩] [0,1]) c15_16
abbrev c15 : AC := c15_17
theorem c15_ok : compileFn Tryz.prog 15 = some (26, AC.strip c15, [.t 4]) := by kernel_rfl
abbrev c10_0 : AC := .seq (.ops 0 [⟨some 14,.mv (.t 5),none⟩,⟨some 2,.as 0 0 (.k (.lf (.str ⟨#[]⟩))),none⟩,⟨some 3,.as 0 0 (.t 14),none⟩] [2,3]) .ret
abbrev c10_1 : AC := .cond (.t 13) c10_0 .skip
abbrev c10_2 : AC := .seq (.ops 0 [⟨some 12,.mv (.t 5),none⟩,⟨some 13,.bin .neq (.t 12) (.k (.lf (.int .i64 0))),none⟩] [0,5,13]) c10_1
abbrev c10_3 : AC := .seq (.ops 0 [⟨some 8,.mv (.t 0),none⟩,⟨some 9,.call 21 [(.t 8)],none⟩,⟨some 7,.mv (.t 9),none⟩,⟨some 10,.ext (.t 7) 0,none⟩,⟨some 11,.ext (.t 7) 1,none⟩,⟨some 4,.as 0 0 (.t 10),none⟩,⟨some 5,.as 0 0 (.t 11),none⟩] [0,5]) c10_2
abbrev c10_4 : AC := .seq (.ops 0 [⟨some 21,.mv (.t 6),none⟩,⟨some 22,.callp 24 0 [(.t 21)],none⟩,⟨some 23,.ext (.t 22) 0,none⟩,⟨some 24,.ext (.t 22) 1,none⟩,⟨some 2,.as 0 0 (.t 23),none⟩,⟨some 3,.as 0 0 (.t 24),none⟩] [2,3]) .ret
abbrev c10_5 : AC := .seq (.ops 0 [⟨some 17,.mv (.t 6),none⟩,⟨some 18,.mv (.t 0),none⟩,⟨some 19,.call 23 [(.t 18)],none⟩,⟨some 20,.callp 27 0 [(.t 17),(.t 19),(.k (.lf (.int .i64 0)))],none⟩] [6]) c10_4
abbrev c10_6 : AC := .seq (.ops 0 [⟨some 15,.bd [.nilp,.lst .nl 1 [] [],.bool false] [],none⟩,⟨some 16,.bxt 58 (.t 15),none⟩,⟨some 6,.as 0 0 (.t 16),none⟩] [0,6]) c10_5
abbrev c10_7 : AC := .seq c10_3 c10_6
abbrev c10_8 : AC := .seq (.ops 0 [⟨some 2,.as 0 0 (.k (.lf (.str ⟨#[]⟩))),none⟩,⟨some 3,.as 0 0 (.k (.lf (.int .i64 0))),none⟩] [0]) c10_7
abbrev c10 : AC := c10_8
theorem c10_ok : compileFn Tryz.prog 10 = some (25, AC.strip c10, [.t 2, .t 3]) := by kernel_rfl
abbrev c27_0 : AC := .cond (.t 12) .ret .skip
abbrev c27_1 : AC := .seq (.ops 0 [⟨some 9,.mv (.t 0),none⟩,⟨some 10,.nc (.t 9),none⟩,⟨some 11,.fa (.t 10) 2,none⟩,⟨some 12,.ld (.t 11) 1 false,none⟩] [0,1,2,12]) c27_0
abbrev c27_2 : AC := .cond (.t 27) .skip (.ops 0 [⟨some 29,.bin .eql (.t 26) (.k (.lf (.int .i64 22))),none⟩,⟨some 27,.as 0 0 (.t 29),none⟩] [0,1,2,6,26,27])
abbrev c27_3 : AC := .seq (.ops 0 [⟨some 28,.bin .eql (.t 26) (.k (.lf (.int .i64 4))),none⟩,⟨some 27,.as 0 0 (.t 28),none⟩] [0,1,2,6,26,27]) c27_2
abbrev c27_4 : AC := .cond (.t 67) (.ops 0 [⟨some 68,.mv (.t 6),none⟩,⟨some 69,.mv (.t 1),none⟩,⟨some 70,.nc (.t 69),none⟩,⟨some 71,.fa (.t 70) 0,none⟩,⟨some 72,.fa (.t 71) 2,none⟩,⟨some 73,.ld (.t 72) 1 false,none⟩,⟨some 74,.bin .add (.k (.lf (.str ⟨#[32]⟩))) (.t 73),none⟩,⟨some 75,.bin .add (.t 68) (.t 74),none⟩,⟨some 6,.as 0 0 (.t 75),none⟩] [0,1,2,6]) .skip
abbrev c27_5 : AC := .seq (.ops 0 [⟨some 62,.mv (.t 1),none⟩,⟨some 63,.nc (.t 62),none⟩,⟨some 64,.fa (.t 63) 0,none⟩,⟨some 65,.fa (.t 64) 2,none⟩,⟨some 66,.ld (.t 65) 1 false,none⟩,⟨some 67,.bin .neq (.t 66) (.k (.lf (.str ⟨#[]⟩))),none⟩] [0,1,2,6,67]) c27_4
abbrev c27_6 : AC := .cond (.t 76) .skip (.ops 0 [⟨some 80,.bin .eql (.t 26) (.k (.lf (.int .i64 23))),none⟩,⟨some 76,.as 0 0 (.t 80),none⟩] [0,1,2,6,76])
abbrev c27_7 : AC := .seq (.ops 0 [⟨some 79,.bin .eql (.t 26) (.k (.lf (.int .i64 16))),none⟩,⟨some 76,.as 0 0 (.t 79),none⟩] [0,1,2,6,26,76]) c27_6
abbrev c27_8 : AC := .cond (.t 76) .skip c27_7
abbrev c27_9 : AC := .seq (.ops 0 [⟨some 78,.bin .eql (.t 26) (.k (.lf (.int .i64 15))),none⟩,⟨some 76,.as 0 0 (.t 78),none⟩] [0,1,2,6,26,76]) c27_8
abbrev c27_10 : AC := .cond (.t 76) .skip c27_9
abbrev c27_11 : AC := .seq (.ops 0 [⟨some 77,.bin .eql (.t 26) (.k (.lf (.int .i64 14))),none⟩,⟨some 76,.as 0 0 (.t 77),none⟩] [0,1,2,6,26,76]) c27_10
abbrev c27_12 : AC := .cond (.t 76) (.ops 0 [⟨some 81,.mv (.t 6),none⟩,⟨some 82,.mv (.t 1),none⟩,⟨some 83,.nc (.t 82),none⟩,⟨some 84,.fa (.t 83) 0,none⟩,⟨some 85,.fa (.t 84) 1,none⟩,⟨some 86,.ld (.t 85) 1 false,none⟩,⟨some 87,.call 46 [(.t 86)],none⟩,⟨some 88,.bin .add (.k (.lf (.str ⟨#[32]⟩))) (.t 87),none⟩,⟨some 89,.bin .add (.t 81) (.t 88),none⟩,⟨some 6,.as 0 0 (.t 89),none⟩] [0,1,2,6]) .skip
abbrev c27_13 : AC := .seq c27_11 c27_12
abbrev c27_14 : AC := .cond (.t 60) c27_5 c27_13
abbrev c27_15 : AC := .seq (.ops 0 [⟨some 61,.bin .eql (.t 26) (.k (.lf (.int .i64 19))),none⟩,⟨some 60,.as 0 0 (.t 61),none⟩] [0,1,2,6,26,60]) c27_14
abbrev c27_16 : AC := .cond (.t 50) (.ops 0 [⟨some 52,.mv (.t 6),none⟩,⟨some 53,.mv (.t 1),none⟩,⟨some 54,.nc (.t 53),none⟩,⟨some 55,.fa (.t 54) 0,none⟩,⟨some 56,.fa (.t 55) 2,none⟩,⟨some 57,.ld (.t 56) 1 false,none⟩,⟨some 58,.bin .add (.k (.lf (.str ⟨#[32]⟩))) (.t 57),none⟩,⟨some 59,.bin .add (.t 52) (.t 58),none⟩,⟨some 6,.as 0 0 (.t 59),none⟩] [0,1,2,6]) c27_15
abbrev c27_17 : AC := .seq (.ops 0 [⟨some 51,.bin .eql (.t 26) (.k (.lf (.int .i64 6))),none⟩,⟨some 50,.as 0 0 (.t 51),none⟩] [0,1,2,6,26,50]) c27_16
abbrev c27_18 : AC := .cond (.t 39) (.ops 0 [⟨some 41,.mv (.t 6),none⟩,⟨some 42,.mv (.t 1),none⟩,⟨some 43,.nc (.t 42),none⟩,⟨some 44,.fa (.t 43) 0,none⟩,⟨some 45,.fa (.t 44) 3,none⟩,⟨some 46,.ld (.t 45) 4 true,none⟩,⟨some 47,.call 36 [(.t 46)],none⟩,⟨some 48,.bin .add (.k (.lf (.str ⟨#[32]⟩))) (.t 47),none⟩,⟨some 49,.bin .add (.t 41) (.t 48),none⟩,⟨some 6,.as 0 0 (.t 49),none⟩] [0,1,2,6]) c27_17
abbrev c27_19 : AC := .seq (.ops 0 [⟨some 40,.bin .eql (.t 26) (.k (.lf (.int .i64 5))),none⟩,⟨some 39,.as 0 0 (.t 40),none⟩] [0,1,2,6,26,39]) c27_18
abbrev c27_20 : AC := .cond (.t 27) (.ops 0 [⟨some 30,.mv (.t 6),none⟩,⟨some 31,.mv (.t 1),none⟩,⟨some 32,.nc (.t 31),none⟩,⟨some 33,.fa (.t 32) 0,none⟩,⟨some 34,.fa (.t 33) 2,none⟩,⟨some 35,.ld (.t 34) 1 false,none⟩,⟨some 36,.call 35 [(.t 35)],none⟩,⟨some 37,.bin .add (.k (.lf (.str ⟨#[32]⟩))) (.t 36),none⟩,⟨some 38,.bin .add (.t 30) (.t 37),none⟩,⟨some 6,.as 0 0 (.t 38),none⟩] [0,1,2,6]) c27_19
abbrev c27_21 : AC := .seq c27_3 c27_20
abbrev c27_22 : AC := .block 0 c27_21
abbrev c27_23 : AC := .seq (.ops 0 [⟨some 22,.mv (.t 1),none⟩,⟨some 23,.nc (.t 22),none⟩,⟨some 24,.fa (.t 23) 0,none⟩,⟨some 25,.fa (.t 24) 0,none⟩,⟨some 26,.ld (.t 25) 1 false,none⟩] [0,1,2,6,26]) c27_22
abbrev c27_24 : AC := .cond (.t 100) .skip (.exit 1)
abbrev c27_25 : AC := .seq (.ops 0 [⟨some 101,.ia (.t 97) (.t 99) 1,none⟩,⟨some 102,.ld (.t 101) 1 false,none⟩,⟨some 8,.as 0 0 (.t 102),none⟩] [0,2,8,97,98,99]) (.ops 0 [⟨some 103,.mv (.t 0),none⟩,⟨some 104,.mv (.t 8),none⟩,⟨some 105,.mv (.t 2),none⟩,⟨some 106,.bin .add (.t 105) (.k (.lf (.int .i64 2))),none⟩,⟨some 107,.callp 27 0 [(.t 103),(.t 104),(.t 106)],none⟩] [0,2,97,98,99])
abbrev c27_26 : AC := .block 2 c27_25
abbrev c27_27 : AC := .seq c27_26 (.ops 0 [⟨some 108,.bin .add (.t 99) (.k (.lf (.int .i64 1))),none⟩,⟨some 99,.mv (.t 108),none⟩] [0,2,97,98,99])
abbrev c27_28 : AC := .seq c27_24 c27_27
abbrev c27_29 : AC := .seq (.ops 0 [⟨some 100,.bin .lss (.t 99) (.t 98),none⟩] [0,2,97,98,99,100]) c27_28
abbrev c27_30 : AC := .loop c27_29 [0,2,97,98,99]
abbrev c27_31 : AC := .block 1 c27_30
abbrev c27_32 : AC := .seq (.ops 0 [⟨some 94,.mv (.t 1),none⟩,⟨some 95,.nc (.t 94),none⟩,⟨some 96,.fa (.t 95) 7,none⟩,⟨some 97,.ld (.t 96) 1 false,none⟩,⟨some 98,.len (.t 97),none⟩,⟨some 99,.mv (.k (.lf (.int .i64 0))),none⟩] [0,2,97,98,99]) c27_31
abbrev c27_33 : AC := .seq (.ops 0 [⟨some 90,.mv (.t 0),none⟩,⟨some 91,.mv (.t 6),none⟩,⟨some 92,.bin .add (.t 91) (.k (.lf (.str ⟨#[10]⟩))),none⟩,⟨some 93,.callp 32 0 [(.t 90),(.t 92)],none⟩] [0,1,2]) c27_32
abbrev c27_34 : AC := .seq c27_23 c27_33
abbrev c27_35 : AC := .seq (.ops 1 [⟨some 13,.mv (.t 2),none⟩,⟨some 14,.call 44 [(.k (.lf (.str ⟨#[32]⟩))),(.t 13)],none⟩,⟨some 15,.mv (.t 1),none⟩,⟨some 16,.nc (.t 15),none⟩,⟨some 17,.fa (.t 16) 0,none⟩,⟨some 18,.fa (.t 17) 0,none⟩,⟨some 19,.ld (.t 18) 1 false,none⟩,⟨some 20,.call 45 [(.t 19)],none⟩,⟨some 21,.bin .add (.t 14) (.t 20),none⟩,⟨some 6,.as 0 0 (.t 21),none⟩] [0,1,2,6]) c27_34
abbrev c27_36 : AC := .seq c27_1 c27_35
abbrev c27 : AC := c27_36
theorem c27_ok : compileFn Tryz.prog 27 = some (109, AC.strip c27, []) := by kernel_rfl
abbrev c45_0 : AC := .seq (.ops 0 [⟨some 3,.call 72 [(.k (.lf (.str ⟨#[110,111,110,101,32,101,109,112,116,121,32,102,97,105,108,32,97,110,121,32,116,101,120,116,32,115,101,116,32,99,97,108,108,32,115,101,113,32,99,104,111,105,99,101,32,115,116,97,114,32,112,108,117,115,32,111,112,116,32,97,110,100,32,110,111,116,32,116,105,109,101,115,32,108,101,97,115,116,32,109,111,115,116,32,112,108,97,99,101,32,115,117,98,32,103,114,111,117,112,32,108,105,115,116,32,115,117,98,115,116,32,115,116,114,105,110,103,32,112,105,99,107]⟩)))],none⟩,⟨some 4,.mv (.t 0),none⟩,⟨some 5,.ia (.t 3) (.t 4) 1,none⟩,⟨some 6,.ld (.t 5) 1 false,none⟩,⟨some 2,.as 0 0 (.t 6),none⟩] [2]) .ret
abbrev c45_1 : AC := .seq (.ops 0 [⟨some 2,.as 0 0 (.k (.lf (.str ⟨#[]⟩))),none⟩] [0]) c45_0
abbrev c45 : AC := c45_1
theorem c45_ok : compileFn Tryz.prog 45 = some (7, AC.strip c45, [.t 2]) := by kernel_rfl
abbrev c3_0 : AC := .seq (.ops 0 [⟨some 34,.mv (.t 4),none⟩,⟨some 35,.mv (.t 6),none⟩,⟨some 36,.bin .eql (.t 34) (.t 35),none⟩,⟨some 37,.mv (.t 36),none⟩,⟨some 38,.mv (.t 5),some (37,true)⟩,⟨some 39,.mv (.t 7),some (37,true)⟩,⟨some 40,.bin .eql (.t 38) (.t 39),some (37,true)⟩,⟨some 41,.pk (.t 37) (.t 40) (.k (.lf (.bool false))),none⟩,⟨some 42,.mv (.t 41),none⟩,⟨some 43,.mv (.t 8),some (42,true)⟩,⟨some 44,.mv (.t 10),some (42,true)⟩,⟨some 45,.bin .eql (.t 43) (.t 44),some (42,true)⟩,⟨some 46,.pk (.t 42) (.t 45) (.k (.lf (.bool false))),none⟩,⟨some 47,.mv (.t 46),none⟩,⟨some 48,.mv (.t 9),some (47,true)⟩,⟨some 49,.mv (.t 11),some (47,true)⟩,⟨some 50,.bin .eql (.t 48) (.t 49),some (47,true)⟩,⟨some 51,.pk (.t 47) (.t 50) (.k (.lf (.bool false))),none⟩,⟨some 52,.mv (.t 51),none⟩,⟨some 53,.mv (.t 3),some (52,true)⟩,⟨some 54,.mv (.t 0),some (52,true)⟩,⟨some 55,.call 12 [(.t 53),(.t 54)],some (52,true)⟩,⟨some 56,.pk (.t 52) (.t 55) (.k (.lf (.bool false))),none⟩,⟨some 57,.mv (.t 56),none⟩,⟨some 58,.call 13 [],some (57,true)⟩,⟨some 59,.pk (.t 57) (.t 58) (.k (.lf (.bool false))),none⟩,⟨some 2,.as 0 0 (.t 59),none⟩] [2]) .ret
abbrev c3_1 : AC := .seq (.ops 0 [⟨some 30,.mv (.t 0),none⟩,⟨some 31,.call 11 [(.t 30)],none⟩,⟨some 29,.mv (.t 31),none⟩,⟨some 32,.ext (.t 29) 0,none⟩,⟨some 33,.ext (.t 29) 1,none⟩,⟨some 10,.as 0 0 (.t 32),none⟩,⟨some 11,.as 0 0 (.t 33),none⟩] [0,3,4,5,6,7,8,9,10,11]) c3_0
abbrev c3_2 : AC := .seq (.ops 0 [⟨some 25,.mv (.t 3),none⟩,⟨some 26,.call 10 [(.t 25)],none⟩,⟨some 24,.mv (.t 26),none⟩,⟨some 27,.ext (.t 24) 0,none⟩,⟨some 28,.ext (.t 24) 1,none⟩,⟨some 8,.as 0 0 (.t 27),none⟩,⟨some 9,.as 0 0 (.t 28),none⟩] [0,3,4,5,6,7,8,9]) c3_1
abbrev c3_3 : AC := .seq (.ops 0 [⟨some 20,.mv (.t 0),none⟩,⟨some 21,.call 9 [(.t 20)],none⟩,⟨some 19,.mv (.t 21),none⟩,⟨some 22,.ext (.t 19) 0,none⟩,⟨some 23,.ext (.t 19) 1,none⟩,⟨some 6,.as 0 0 (.t 22),none⟩,⟨some 7,.as 0 0 (.t 23),none⟩] [0,3,4,5,6,7]) c3_2
abbrev c3_4 : AC := .seq (.ops 0 [⟨some 15,.mv (.t 3),none⟩,⟨some 16,.call 8 [(.t 15)],none⟩,⟨some 14,.mv (.t 16),none⟩,⟨some 17,.ext (.t 14) 0,none⟩,⟨some 18,.ext (.t 14) 1,none⟩,⟨some 4,.as 0 0 (.t 17),none⟩,⟨some 5,.as 0 0 (.t 18),none⟩] [0,3,4,5]) c3_3
abbrev c3_5 : AC := .seq (.ops 0 [⟨some 12,.mv (.t 0),none⟩,⟨some 13,.call 7 [(.t 12)],none⟩,⟨some 3,.as 49 7 (.t 13),none⟩] [0,3]) c3_4
abbrev c3_6 : AC := .seq (.ops 0 [⟨some 2,.as 0 0 (.k (.lf (.bool false))),none⟩] [0]) c3_5
abbrev c3 : AC := c3_6
theorem c3_ok : compileFn Tryz.prog 3 = some (60, AC.strip c3, [.t 2]) := by kernel_rfl
abbrev c9_0 : AC := .seq (.ops 0 [⟨some 15,.mv (.t 5),none⟩,⟨some 2,.as 0 0 (.k (.lf (.str ⟨#[]⟩))),none⟩,⟨some 3,.as 0 0 (.t 15),none⟩] [2,3]) .ret
abbrev c9_1 : AC := .cond (.t 14) c9_0 .skip
abbrev c9_2 : AC := .seq (.ops 0 [⟨some 13,.mv (.t 5),none⟩,⟨some 14,.bin .neq (.t 13) (.k (.lf (.int .i64 0))),none⟩] [0,5,14]) c9_1
abbrev c9_3 : AC := .seq (.ops 0 [⟨some 9,.mv (.t 0),none⟩,⟨some 10,.call 25 [(.t 9)],none⟩,⟨some 8,.mv (.t 10),none⟩,⟨some 11,.ext (.t 8) 0,none⟩,⟨some 12,.ext (.t 8) 1,none⟩,⟨some 4,.as 0 0 (.t 11),none⟩,⟨some 5,.as 0 0 (.t 12),none⟩] [0,5]) c9_2
abbrev c9_4 : AC := .seq (.ops 0 [⟨some 2,.as 0 0 (.k (.lf (.str ⟨#[]⟩))),none⟩,⟨some 3,.as 0 0 (.k (.lf (.int .i64 2))),none⟩] [2,3]) .ret
abbrev c9_5 : AC := .cond (.t 22) c9_4 .skip
abbrev c9_6 : AC := .seq (.ops 0 [⟨some 21,.mv (.t 7),none⟩,⟨some 22,.un .not (.t 21),none⟩] [6,22]) c9_5
abbrev c9_7 : AC := .seq (.ops 0 [⟨some 23,.mv (.t 6),none⟩,⟨some 24,.cbs (.t 23),none⟩,⟨some 2,.as 0 0 (.t 24),none⟩,⟨some 3,.as 0 0 (.k (.lf (.int .i64 0))),none⟩] [2,3]) .ret
abbrev c9_8 : AC := .seq c9_6 c9_7
abbrev c9_9 : AC := .seq (.ops 0 [⟨some 17,.mv (.t 0),none⟩,⟨some 18,.call 26 [(.k (.lf (.lst .nl 1 [] []))),(.t 17)],none⟩,⟨some 16,.mv (.t 18),none⟩,⟨some 19,.ext (.t 16) 0,none⟩,⟨some 20,.ext (.t 16) 1,none⟩,⟨some 6,.as 5 1 (.t 19),none⟩,⟨some 7,.as 0 0 (.t 20),none⟩] [6,7]) c9_8
abbrev c9_10 : AC := .seq c9_3 c9_9
abbrev c9_11 : AC := .seq (.ops 0 [⟨some 2,.as 0 0 (.k (.lf (.str ⟨#[]⟩))),none⟩,⟨some 3,.as 0 0 (.k (.lf (.int .i64 0))),none⟩] [0]) c9_10
abbrev c9 : AC := c9_11
theorem c9_ok : compileFn Tryz.prog 9 = some (25, AC.strip c9, [.t 2, .t 3]) := by kernel_rfl
abbrev c11_0 : AC := .seq (.ops 0 [⟨some 15,.mv (.t 5),none⟩,⟨some 2,.as 0 0 (.k (.lf (.str ⟨#[]⟩))),none⟩,⟨some 3,.as 0 0 (.t 15),none⟩] [2,3]) .ret
abbrev c11_1 : AC := .cond (.t 14) c11_0 .skip
abbrev c11_2 : AC := .seq (.ops 0 [⟨some 13,.mv (.t 5),none⟩,⟨some 14,.bin .neq (.t 13) (.k (.lf (.int .i64 0))),none⟩] [0,5,14]) c11_1
abbrev c11_3 : AC := .seq (.ops 0 [⟨some 9,.mv (.t 0),none⟩,⟨some 10,.call 25 [(.t 9)],none⟩,⟨some 8,.mv (.t 10),none⟩,⟨some 11,.ext (.t 8) 0,none⟩,⟨some 12,.ext (.t 8) 1,none⟩,⟨some 4,.as 0 0 (.t 11),none⟩,⟨some 5,.as 0 0 (.t 12),none⟩] [0,5]) c11_2
abbrev c11_4 : AC := .seq (.ops 0 [⟨some 2,.as 0 0 (.k (.lf (.str ⟨#[]⟩))),none⟩,⟨some 3,.as 0 0 (.k (.lf (.int .i64 2))),none⟩] [2,3]) .ret
abbrev c11_5 : AC := .cond (.t 29) c11_4 .skip
abbrev c11_6 : AC := .seq (.ops 0 [⟨some 26,.mv (.t 6),none⟩,⟨some 27,.nc (.t 26),none⟩,⟨some 28,.fa (.t 27) 2,none⟩,⟨some 29,.ld (.t 28) 1 false,none⟩] [7,29]) c11_5
abbrev c11_7 : AC := .seq (.ops 0 [⟨some 30,.mv (.t 7),none⟩,⟨some 31,.cbs (.t 30),none⟩,⟨some 2,.as 0 0 (.t 31),none⟩,⟨some 3,.as 0 0 (.k (.lf (.int .i64 0))),none⟩] [2,3]) .ret
abbrev c11_8 : AC := .seq c11_6 c11_7
abbrev c11_9 : AC := .seq (.ops 0 [⟨some 21,.mv (.t 6),none⟩,⟨some 22,.mv (.t 0),none⟩,⟨some 23,.len (.t 22),none⟩,⟨some 24,.bin .sub (.t 23) (.k (.lf (.int .i64 1))),none⟩,⟨some 25,.callg 29 0 [(.t 21),(.k (.lf (.lst .nl 1 [] []))),(.t 24),(.k (.lf (.int .i64 0)))],none⟩,⟨some 7,.as 5 1 (.t 25),none⟩] [6,7]) c11_8
abbrev c11_10 : AC := .seq (.ops 0 [⟨some 16,.mv (.t 0),none⟩,⟨some 17,.mv (.t 0),none⟩,⟨some 18,.call 28 [(.t 17)],none⟩,⟨some 19,.bd [.lst .nl 7 [] [],.lst .nl 1 [] [],.bool false] [(0,1,(.t 16)),(1,1,(.t 18))],none⟩,⟨some 20,.bx (.t 19),none⟩,⟨some 6,.as 0 0 (.t 20),none⟩] [0,6]) c11_9
abbrev c11_11 : AC := .seq c11_3 c11_10
abbrev c11_12 : AC := .seq (.ops 0 [⟨some 2,.as 0 0 (.k (.lf (.str ⟨#[]⟩))),none⟩,⟨some 3,.as 0 0 (.k (.lf (.int .i64 0))),none⟩] [0]) c11_11
abbrev c11 : AC := c11_12
theorem c11_ok : compileFn Tryz.prog 11 = some (32, AC.strip c11, [.t 2, .t 3]) := by kernel_rfl
abbrev c29_0 : AC := .cond (.t 14) .skip (.exit 0)
abbrev c29_1 : AC := .seq (.ops 0 [⟨some 12,.mv (.t 9),none⟩,⟨some 13,.mv (.t 3),none⟩,⟨some 14,.bin .lss (.t 12) (.t 13),none⟩] [0,1,2,3,9,14]) c29_0
abbrev c29_2 : AC := .block 1 (.ops 0 [⟨some 17,.mv (.t 0),none⟩,⟨some 18,.mv (.t 1),none⟩,⟨some 19,.callg 47 0 [(.t 17),(.t 18),(.k (.lf (.str ⟨#[32,32]⟩)))],none⟩,⟨some 1,.as 5 1 (.t 19),none⟩] [0,1,2,3,9])
abbrev c29_3 : AC := .seq c29_2 (.ops 0 [⟨some 15,.mv (.t 9),none⟩,⟨some 16,.bin .add (.t 15) (.k (.lf (.int .i64 1))),none⟩,⟨some 9,.as 0 0 (.t 16),none⟩] [0,1,2,3,9])
abbrev c29_4 : AC := .seq c29_1 c29_3
abbrev c29_5 : AC := .loop c29_4 [0,1,2,3,9]
abbrev c29_6 : AC := .block 0 c29_5
abbrev c29_7 : AC := .seq (.ops 0 [⟨some 9,.as 0 0 (.k (.lf (.int .i64 0))),none⟩] [0,1,2,3,9]) c29_6
abbrev c29_8 : AC := .cond (.t 52) .skip (.exit 2)
abbrev c29_9 : AC := .seq (.ops 0 [⟨some 42,.mv (.t 11),none⟩,⟨some 43,.mv (.t 10),none⟩,⟨some 44,.len (.t 43),none⟩,⟨some 45,.bin .lss (.t 42) (.t 44),none⟩,⟨some 46,.mv (.t 45),none⟩,⟨some 47,.mv (.t 0),some (46,true)⟩,⟨some 48,.nc (.t 47),some (46,true)⟩,⟨some 49,.fa (.t 48) 2,some (46,true)⟩,⟨some 50,.ld (.t 49) 1 false,some (46,true)⟩,⟨some 51,.un .not (.t 50),some (46,true)⟩,⟨some 52,.pk (.t 46) (.t 51) (.k (.lf (.bool false))),none⟩] [0,1,3,10,11,52]) c29_8
abbrev c29_10 : AC := .block 3 (.ops 0 [⟨some 55,.mv (.t 0),none⟩,⟨some 56,.mv (.t 1),none⟩,⟨some 57,.mv (.t 10),none⟩,⟨some 58,.mv (.t 11),none⟩,⟨some 59,.ia (.t 57) (.t 58) 1,none⟩,⟨some 60,.ld (.t 59) 1 false,none⟩,⟨some 61,.mv (.t 3),none⟩,⟨some 62,.bin .add (.t 61) (.k (.lf (.int .i64 1))),none⟩,⟨some 63,.callg 29 0 [(.t 55),(.t 56),(.t 60),(.t 62)],none⟩,⟨some 1,.as 5 1 (.t 63),none⟩] [0,1,3,10,11])
abbrev c29_11 : AC := .seq c29_10 (.ops 0 [⟨some 53,.mv (.t 11),none⟩,⟨some 54,.bin .add (.t 53) (.k (.lf (.int .i64 1))),none⟩,⟨some 11,.as 0 0 (.t 54),none⟩] [0,1,3,10,11])
abbrev c29_12 : AC := .seq c29_9 c29_11
abbrev c29_13 : AC := .loop c29_12 [0,1,3,10,11]
abbrev c29_14 : AC := .block 2 c29_13
abbrev c29_15 : AC := .seq (.ops 0 [⟨some 11,.as 0 0 (.k (.lf (.int .i64 0))),none⟩] [0,1,3,10,11]) c29_14
abbrev c29_16 : AC := .seq (.ops 0 [⟨some 64,.mv (.t 1),none⟩,⟨some 8,.as 5 1 (.t 64),none⟩] [8]) .ret
abbrev c29_17 : AC := .seq c29_15 c29_16
abbrev c29_18 : AC := .seq (.reg [⟨some 32,.mv (.t 0),none⟩,⟨some 33,.nc (.t 32),none⟩,⟨some 34,.fa (.t 33) 0,none⟩,⟨some 35,.ld (.t 34) 1 false,none⟩,⟨some 36,.mv (.t 0),none⟩,⟨some 37,.nc (.t 36),none⟩,⟨some 38,.fa (.t 37) 1,none⟩,⟨some 39,.ld (.t 38) 1 false,none⟩,⟨some 40,.mv (.t 2),none⟩] [⟨some 41,.call 49 [(.t 35),(.t 39),(.t 40)],none⟩,⟨some 10,.as 3 1 (.t 41),none⟩] [0,1,3,10]) c29_17
abbrev c29_19 : AC := .seq (.ops 0 [⟨some 20,.mv (.t 0),none⟩,⟨some 21,.mv (.t 1),none⟩,⟨some 22,.mv (.t 0),none⟩,⟨some 23,.nc (.t 22),none⟩,⟨some 24,.fa (.t 23) 0,none⟩,⟨some 25,.ld (.t 24) 1 false,none⟩,⟨some 26,.mv (.t 2),none⟩,⟨some 27,.ia (.t 25) (.t 26) 7,none⟩,⟨some 28,.ld (.t 27) 7 true,none⟩,⟨some 29,.call 48 [(.t 28)],none⟩,⟨some 30,.bin .add (.t 29) (.k (.lf (.str ⟨#[10]⟩))),none⟩,⟨some 31,.callg 47 0 [(.t 20),(.t 21),(.t 30)],none⟩,⟨some 1,.as 5 1 (.t 31),none⟩] [0,1,2,3]) c29_18
abbrev c29_20 : AC := .seq c29_7 c29_19
abbrev c29_21 : AC := .seq (.ops 0 [⟨some 8,.as 5 1 (.k (.lf (.lst .nl 1 [] []))),none⟩] [0,1,2,3]) c29_20
abbrev c29 : AC := c29_21
theorem c29_ok : compileFn Tryz.prog 29 = some (65, AC.strip c29, [.t 8]) := by kernel_rfl
abbrev c48_0 : AC := .cond (.t 9) .skip (.ops 0 [⟨some 11,.bin .eql (.t 8) (.k (.lf (.int .i64 22))),none⟩,⟨some 9,.as 0 0 (.t 11),none⟩] [1,3,8,9])
abbrev c48_1 : AC := .seq (.ops 0 [⟨some 10,.bin .eql (.t 8) (.k (.lf (.int .i64 4))),none⟩,⟨some 9,.as 0 0 (.t 10),none⟩] [1,3,8,9]) c48_0
abbrev c48_2 : AC := .seq (.ops 0 [⟨some 12,.mv (.t 3),none⟩,⟨some 13,.bin .add (.t 12) (.k (.lf (.str ⟨#[32]⟩))),none⟩,⟨some 14,.fa (.t 1) 2,none⟩,⟨some 15,.ld (.t 14) 1 false,none⟩,⟨some 16,.call 75 [(.t 15)],none⟩,⟨some 17,.bin .add (.t 13) (.t 16),none⟩,⟨some 2,.as 0 0 (.t 17),none⟩] [2]) .ret
abbrev c48_3 : AC := .seq (.ops 0 [⟨some 20,.mv (.t 3),none⟩,⟨some 21,.bin .add (.t 20) (.k (.lf (.str ⟨#[32]⟩))),none⟩,⟨some 22,.fa (.t 1) 3,none⟩,⟨some 23,.ld (.t 22) 4 true,none⟩,⟨some 24,.call 76 [(.t 23)],none⟩,⟨some 25,.bin .add (.t 21) (.t 24),none⟩,⟨some 2,.as 0 0 (.t 25),none⟩] [2]) .ret
abbrev c48_4 : AC := .seq (.ops 0 [⟨some 28,.mv (.t 3),none⟩,⟨some 29,.bin .add (.t 28) (.k (.lf (.str ⟨#[32]⟩))),none⟩,⟨some 30,.fa (.t 1) 2,none⟩,⟨some 31,.ld (.t 30) 1 false,none⟩,⟨some 32,.bin .add (.t 29) (.t 31),none⟩,⟨some 2,.as 0 0 (.t 32),none⟩] [2]) .ret
abbrev c48_5 : AC := .seq (.ops 0 [⟨some 38,.mv (.t 3),none⟩,⟨some 39,.bin .add (.t 38) (.k (.lf (.str ⟨#[32]⟩))),none⟩,⟨some 40,.fa (.t 1) 2,none⟩,⟨some 41,.ld (.t 40) 1 false,none⟩,⟨some 42,.bin .add (.t 39) (.t 41),none⟩,⟨some 2,.as 0 0 (.t 42),none⟩] [2]) .ret
abbrev c48_6 : AC := .cond (.t 37) c48_5 .skip
abbrev c48_7 : AC := .seq (.ops 0 [⟨some 35,.fa (.t 1) 2,none⟩,⟨some 36,.ld (.t 35) 1 false,none⟩,⟨some 37,.bin .neq (.t 36) (.k (.lf (.str ⟨#[]⟩))),none⟩] [1,3,37]) c48_6
abbrev c48_8 : AC := .cond (.t 43) .skip (.ops 0 [⟨some 47,.bin .eql (.t 8) (.k (.lf (.int .i64 23))),none⟩,⟨some 43,.as 0 0 (.t 47),none⟩] [1,3,43])
abbrev c48_9 : AC := .seq (.ops 0 [⟨some 46,.bin .eql (.t 8) (.k (.lf (.int .i64 16))),none⟩,⟨some 43,.as 0 0 (.t 46),none⟩] [1,3,8,43]) c48_8
abbrev c48_10 : AC := .cond (.t 43) .skip c48_9
abbrev c48_11 : AC := .seq (.ops 0 [⟨some 45,.bin .eql (.t 8) (.k (.lf (.int .i64 15))),none⟩,⟨some 43,.as 0 0 (.t 45),none⟩] [1,3,8,43]) c48_10
abbrev c48_12 : AC := .cond (.t 43) .skip c48_11
abbrev c48_13 : AC := .seq (.ops 0 [⟨some 44,.bin .eql (.t 8) (.k (.lf (.int .i64 14))),none⟩,⟨some 43,.as 0 0 (.t 44),none⟩] [1,3,8,43]) c48_12
abbrev c48_14 : AC := .seq (.ops 0 [⟨some 48,.mv (.t 3),none⟩,⟨some 49,.bin .add (.t 48) (.k (.lf (.str ⟨#[32]⟩))),none⟩,⟨some 50,.fa (.t 1) 1,none⟩,⟨some 51,.ld (.t 50) 1 false,none⟩,⟨some 52,.call 77 [(.t 51),(.k (.lf (.int .i64 10)))],none⟩,⟨some 53,.bin .add (.t 49) (.t 52),none⟩,⟨some 2,.as 0 0 (.t 53),none⟩] [2]) .ret
abbrev c48_15 : AC := .cond (.t 43) c48_14 .skip
abbrev c48_16 : AC := .seq c48_13 c48_15
abbrev c48_17 : AC := .cond (.t 33) c48_7 c48_16
abbrev c48_18 : AC := .seq (.ops 0 [⟨some 34,.bin .eql (.t 8) (.k (.lf (.int .i64 19))),none⟩,⟨some 33,.as 0 0 (.t 34),none⟩] [1,3,8,33]) c48_17
abbrev c48_19 : AC := .cond (.t 26) c48_4 c48_18
abbrev c48_20 : AC := .seq (.ops 0 [⟨some 27,.bin .eql (.t 8) (.k (.lf (.int .i64 6))),none⟩,⟨some 26,.as 0 0 (.t 27),none⟩] [1,3,8,26]) c48_19
abbrev c48_21 : AC := .cond (.t 18) c48_3 c48_20
abbrev c48_22 : AC := .seq (.ops 0 [⟨some 19,.bin .eql (.t 8) (.k (.lf (.int .i64 5))),none⟩,⟨some 18,.as 0 0 (.t 19),none⟩] [1,3,8,18]) c48_21
abbrev c48_23 : AC := .cond (.t 9) c48_2 c48_22
abbrev c48_24 : AC := .seq c48_1 c48_23
abbrev c48_25 : AC := .block 0 c48_24
abbrev c48_26 : AC := .seq (.ops 0 [⟨some 7,.fa (.t 1) 0,none⟩,⟨some 8,.ld (.t 7) 1 false,none⟩] [1,3,8]) c48_25
abbrev c48_27 : AC := .seq (.ops 0 [⟨some 54,.mv (.t 3),none⟩,⟨some 2,.as 0 0 (.t 54),none⟩] [2]) .ret
abbrev c48_28 : AC := .seq c48_26 c48_27
abbrev c48_29 : AC := .seq (.ops 0 [⟨some 4,.fa (.t 1) 0,none⟩,⟨some 5,.ld (.t 4) 1 false,none⟩,⟨some 6,.call 74 [(.t 5)],none⟩,⟨some 3,.as 0 0 (.t 6),none⟩] [1,3]) c48_28
abbrev c48_30 : AC := .seq (.ops 0 [⟨some 1,.bx (.t 0),none⟩,⟨some 2,.as 0 0 (.k (.lf (.str ⟨#[]⟩))),none⟩] [1]) c48_29
abbrev c48 : AC := c48_30
theorem c48_ok : compileFn Tryz.prog 48 = some (55, AC.strip c48, [.t 2]) := by kernel_rfl
abbrev c74_0 : AC := .seq (.ops 0 [⟨some 5,.mv (.t 0),none⟩,⟨some 6,.iaa (.t 3) (.t 5) 24 1,none⟩,⟨some 7,.ld (.t 6) 1 false,none⟩,⟨some 2,.as 0 0 (.t 7),none⟩] [2]) .ret
abbrev c74_1 : AC := .seq (.ops 0 [⟨some 4,.bd [.str ⟨#[]⟩,.str ⟨#[]⟩,.str ⟨#[]⟩,.str ⟨#[]⟩,.str ⟨#[]⟩,.str ⟨#[]⟩,.str ⟨#[]⟩,.str ⟨#[]⟩,.str ⟨#[]⟩,.str ⟨#[]⟩,.str ⟨#[]⟩,.str ⟨#[]⟩,.str ⟨#[]⟩,.str ⟨#[]⟩,.str ⟨#[]⟩,.str ⟨#[]⟩,.str ⟨#[]⟩,.str ⟨#[]⟩,.str ⟨#[]⟩,.str ⟨#[]⟩,.str ⟨#[]⟩,.str ⟨#[]⟩,.str ⟨#[]⟩,.str ⟨#[]⟩] [(0,1,(.k (.lf (.str ⟨#[]⟩)))),(1,1,(.k (.lf (.str ⟨#[101,109,112,116,121]⟩)))),(2,1,(.k (.lf (.str ⟨#[102,97,105,108]⟩)))),(3,1,(.k (.lf (.str ⟨#[97,110,121]⟩)))),(4,1,(.k (.lf (.str ⟨#[116,101,120,116]⟩)))),(5,1,(.k (.lf (.str ⟨#[115,101,116]⟩)))),(6,1,(.k (.lf (.str ⟨#[99,97,108,108]⟩)))),(7,1,(.k (.lf (.str ⟨#[115,101,113]⟩)))),(8,1,(.k (.lf (.str ⟨#[99,104,111,105,99,101]⟩)))),(9,1,(.k (.lf (.str ⟨#[115,116,97,114]⟩)))),(10,1,(.k (.lf (.str ⟨#[112,108,117,115]⟩)))),(11,1,(.k (.lf (.str ⟨#[111,112,116]⟩)))),(12,1,(.k (.lf (.str ⟨#[97,110,100]⟩)))),(13,1,(.k (.lf (.str ⟨#[110,111,116]⟩)))),(14,1,(.k (.lf (.str ⟨#[116,105,109,101,115]⟩)))),(15,1,(.k (.lf (.str ⟨#[108,101,97,115,116]⟩)))),(16,1,(.k (.lf (.str ⟨#[109,111,115,116]⟩)))),(17,1,(.k (.lf (.str ⟨#[112,108,97,99,101]⟩)))),(18,1,(.k (.lf (.str ⟨#[115,117,98]⟩)))),(19,1,(.k (.lf (.str ⟨#[103,114,111,117,112]⟩)))),(20,1,(.k (.lf (.str ⟨#[108,105,115,116]⟩)))),(21,1,(.k (.lf (.str ⟨#[115,117,98,115,116]⟩)))),(22,1,(.k (.lf (.str ⟨#[115,116,114,105,110,103]⟩)))),(23,1,(.k (.lf (.str ⟨#[112,105,99,107]⟩))))],none⟩,⟨some 3,.al [.str ⟨#[]⟩,.str ⟨#[]⟩,.str ⟨#[]⟩,.str ⟨#[]⟩,.str ⟨#[]⟩,.str ⟨#[]⟩,.str ⟨#[]⟩,.str ⟨#[]⟩,.str ⟨#[]⟩,.str ⟨#[]⟩,.str ⟨#[]⟩,.str ⟨#[]⟩,.str ⟨#[]⟩,.str ⟨#[]⟩,.str ⟨#[]⟩,.str ⟨#[]⟩,.str ⟨#[]⟩,.str ⟨#[]⟩,.str ⟨#[]⟩,.str ⟨#[]⟩,.str ⟨#[]⟩,.str ⟨#[]⟩,.str ⟨#[]⟩,.str ⟨#[]⟩],none⟩,⟨none,.st (.t 3) (.t 4) 24,none⟩] [0,3]) c74_0
abbrev c74_2 : AC := .seq (.ops 0 [⟨some 2,.as 0 0 (.k (.lf (.str ⟨#[]⟩))),none⟩] [0]) c74_1
abbrev c74 : AC := c74_2
theorem c74_ok : compileFn Tryz.prog 74 = some (8, AC.strip c74, [.t 2]) := by kernel_rfl
end Go.Proofs.YtdoefdmaecaacaaGreatDoor.S
set_option maxRecDepth 100000
namespace Go.Proofs.YtdoefdmaecaacaaGreatDoor.S
open Go Go.Proofs.YtdoefdmaecaacaaGreatDoor.AM
abbrev c35_0 : AC := .seq (.ops 0 [⟨some 10,.mv (.t 3),none⟩,⟨some 2,.as 0 0 (.t 10),none⟩] [2]) .ret
abbrev c35_1 : AC := .seq (.ops 0 [⟨some 6,.mv (.t 0),none⟩,⟨some 7,.call 60 [(.t 6)],none⟩,⟨some 5,.mv (.t 7),none⟩,⟨some 8,.ext (.t 5) 0,none⟩,⟨some 9,.ext (.t 5) 1,none⟩,⟨some 3,.as 0 0 (.t 8),none⟩,⟨some 4,.as 0 0 (.t 9),none⟩] [3]) c35_0
abbrev c35_2 : AC := .seq (.ops 0 [⟨some 2,.as 0 0 (.k (.lf (.str ⟨#[]⟩))),none⟩] [0]) c35_1
abbrev c35 : AC := c35_2
theorem c35_ok : compileFn Tryz.prog 35 = some (11, AC.strip c35, [.t 2]) := by kernel_rfl
abbrev c36_0 : AC := .seq (.ops 0 [⟨some 2,.as 0 0 (.k (.lf (.str ⟨#[91,94,93]⟩))),none⟩] [2]) .ret
abbrev c36_1 : AC := .cond (.t 7) c36_0 .skip
abbrev c36_2 : AC := .seq (.ops 0 [⟨some 6,.ld (.t 1) 4 true,none⟩,⟨some 7,.call 61 [(.t 6)],none⟩] [1,7]) c36_1
abbrev c36_3 : AC := .cond (.t 13) .skip (.exit 0)
abbrev c36_4 : AC := .cond (.t 25) (.ops 0 [⟨some 26,.callp 58 0 [(.t 3),(.k (.lf (.str ⟨#[45]⟩)))],none⟩] [3,5,10,11,12]) .skip
abbrev c36_5 : AC := .seq (.ops 0 [⟨some 20,.fa (.t 5) 1,none⟩,⟨some 21,.ld (.t 20) 1 false,none⟩,⟨some 22,.fa (.t 5) 0,none⟩,⟨some 23,.ld (.t 22) 1 false,none⟩,⟨some 24,.bin .add (.t 23) (.k (.lf (.int .i64 1))),none⟩,⟨some 25,.bin .gtr (.t 21) (.t 24),none⟩] [3,5,10,11,12,25]) c36_4
abbrev c36_6 : AC := .cond (.t 31) (.ops 0 [⟨some 32,.fa (.t 5) 1,none⟩,⟨some 33,.ld (.t 32) 1 false,none⟩,⟨some 34,.call 63 [(.t 33)],none⟩,⟨some 35,.callp 58 0 [(.t 3),(.t 34)],none⟩] [3,10,11,12]) .skip
abbrev c36_7 : AC := .seq (.ops 0 [⟨some 27,.fa (.t 5) 1,none⟩,⟨some 28,.ld (.t 27) 1 false,none⟩,⟨some 29,.fa (.t 5) 0,none⟩,⟨some 30,.ld (.t 29) 1 false,none⟩,⟨some 31,.bin .gtr (.t 28) (.t 30),none⟩] [3,5,10,11,12,31]) c36_6
abbrev c36_8 : AC := .seq c36_5 c36_7
abbrev c36_9 : AC := .seq (.ops 0 [⟨some 16,.fa (.t 5) 0,none⟩,⟨some 17,.ld (.t 16) 1 false,none⟩,⟨some 18,.call 63 [(.t 17)],none⟩,⟨some 19,.callp 58 0 [(.t 3),(.t 18)],none⟩] [3,5,10,11,12]) c36_8
abbrev c36_10 : AC := .seq (.ops 0 [⟨some 14,.ia (.t 10) (.t 12) 2,none⟩,⟨some 15,.ld (.t 14) 2 true,none⟩,⟨some 5,.al [.int .i64 0,.int .i64 0],none⟩,⟨none,.st (.t 5) (.t 15) 2,none⟩] [3,5,10,11,12]) c36_9
abbrev c36_11 : AC := .block 1 c36_10
abbrev c36_12 : AC := .seq c36_11 (.ops 0 [⟨some 36,.bin .add (.t 12) (.k (.lf (.int .i64 1))),none⟩,⟨some 12,.mv (.t 36),none⟩] [3,10,11,12])
abbrev c36_13 : AC := .seq c36_3 c36_12
abbrev c36_14 : AC := .seq (.ops 0 [⟨some 13,.bin .lss (.t 12) (.t 11),none⟩] [3,10,11,12,13]) c36_13
abbrev c36_15 : AC := .loop c36_14 [3,10,11,12]
abbrev c36_16 : AC := .block 0 c36_15
abbrev c36_17 : AC := .seq (.ops 0 [⟨some 9,.ld (.t 1) 4 true,none⟩,⟨some 10,.call 62 [(.t 9)],none⟩,⟨some 11,.len (.t 10),none⟩,⟨some 12,.mv (.k (.lf (.int .i64 0))),none⟩] [3,10,11,12]) c36_16
abbrev c36_18 : AC := .seq (.ops 0 [⟨some 38,.callp 41 0 [(.t 3)],none⟩,⟨some 2,.as 0 0 (.t 38),none⟩] [2]) .ret
abbrev c36_19 : AC := .seq (.ops 0 [⟨some 37,.callp 58 0 [(.t 3),(.k (.lf (.str ⟨#[93]⟩)))],none⟩] [3]) c36_18
abbrev c36_20 : AC := .seq c36_17 c36_19
abbrev c36_21 : AC := .seq (.ops 0 [⟨some 8,.callp 58 0 [(.t 3),(.k (.lf (.str ⟨#[91]⟩)))],none⟩] [1,3]) c36_20
abbrev c36_22 : AC := .seq (.ops 0 [⟨some 3,.alt 56 [.nilp,.lst (.own 387 5) 1 [] []],none⟩] [1,3]) c36_21
abbrev c36_23 : AC := .seq c36_2 c36_22
abbrev c36_24 : AC := .seq (.ops 0 [⟨some 1,.bx (.t 0),none⟩,⟨some 2,.as 0 0 (.k (.lf (.str ⟨#[]⟩))),none⟩] [1]) c36_23
abbrev c36 : AC := c36_24
theorem c36_ok : compileFn Tryz.prog 36 = some (39, AC.strip c36, [.t 2]) := by kernel_rfl
abbrev c60_0 : AC := .seq (.ops 0 [⟨some 2,.as 0 0 (.k (.lf (.str ⟨#[]⟩))),none⟩,⟨some 3,.as 0 0 (.k (.lf (.int .i64 2))),none⟩] [2,3]) .ret
abbrev c60_1 : AC := .cond (.t 8) c60_0 .skip
abbrev c60_2 : AC := .seq (.ops 0 [⟨some 6,.mv (.t 0),none⟩,⟨some 7,.lns (.t 6),none⟩,⟨some 8,.bin .gtr (.t 7) (.k (.lf (.int .i64 65536))),none⟩] [0,8]) c60_1
abbrev c60_3 : AC := .cond (.t 13) .skip (.exit 0)
abbrev c60_4 : AC := .seq (.ops 0 [⟨some 14,.mv (.t 12),none⟩,⟨some 5,.as 0 0 (.t 14),none⟩] [0,4,5,11,12]) (.ops 0 [⟨some 15,.mv (.t 0),none⟩,⟨some 16,.mv (.t 5),none⟩,⟨some 17,.ixs (.t 15) (.t 16),none⟩,⟨some 18,.callp 88 0 [(.t 4),(.t 17)],none⟩] [0,4,11,12])
abbrev c60_5 : AC := .block 1 c60_4
abbrev c60_6 : AC := .seq c60_5 (.ops 0 [⟨some 19,.bin .add (.t 12) (.k (.lf (.int .i64 1))),none⟩,⟨some 12,.mv (.t 19),none⟩] [0,4,11,12])
abbrev c60_7 : AC := .seq c60_3 c60_6
abbrev c60_8 : AC := .seq (.ops 0 [⟨some 13,.bin .lss (.t 12) (.t 11),none⟩] [0,4,11,12,13]) c60_7
abbrev c60_9 : AC := .loop c60_8 [0,4,11,12]
abbrev c60_10 : AC := .block 0 c60_9
abbrev c60_11 : AC := .seq (.ops 0 [⟨some 10,.mv (.t 0),none⟩,⟨some 11,.lns (.t 10),none⟩,⟨some 12,.mv (.k (.lf (.int .i64 0))),none⟩] [0,4,11,12]) c60_10
abbrev c60_12 : AC := .seq (.ops 0 [⟨some 2,.as 0 0 (.k (.lf (.str ⟨#[]⟩))),none⟩,⟨some 3,.as 0 0 (.k (.lf (.int .i64 2))),none⟩] [2,3]) .ret
abbrev c60_13 : AC := .cond (.t 22) c60_12 .skip
abbrev c60_14 : AC := .seq (.ops 0 [⟨some 21,.callp 57 0 [(.t 4)],none⟩,⟨some 22,.bin .gtr (.t 21) (.k (.lf (.int .i64 65536))),none⟩] [4,22]) c60_13
abbrev c60_15 : AC := .seq (.ops 0 [⟨some 23,.callp 41 0 [(.t 4)],none⟩,⟨some 2,.as 0 0 (.t 23),none⟩,⟨some 3,.as 0 0 (.k (.lf (.int .i64 0))),none⟩] [2,3]) .ret
abbrev c60_16 : AC := .seq c60_14 c60_15
abbrev c60_17 : AC := .seq (.ops 0 [⟨some 20,.callp 87 0 [(.t 4),(.k (.lf (.int .u8 39)))],none⟩] [4]) c60_16
abbrev c60_18 : AC := .seq c60_11 c60_17
abbrev c60_19 : AC := .seq (.ops 0 [⟨some 9,.callp 87 0 [(.t 4),(.k (.lf (.int .u8 39)))],none⟩] [0,4]) c60_18
abbrev c60_20 : AC := .seq (.ops 0 [⟨some 4,.alt 56 [.nilp,.lst (.own 515 5) 1 [] []],none⟩] [0,4]) c60_19
abbrev c60_21 : AC := .seq c60_2 c60_20
abbrev c60_22 : AC := .seq (.ops 0 [⟨some 2,.as 0 0 (.k (.lf (.str ⟨#[]⟩))),none⟩,⟨some 3,.as 0 0 (.k (.lf (.int .i64 0))),none⟩] [0]) c60_21
abbrev c60 : AC := c60_22
theorem c60_ok : compileFn Tryz.prog 60 = some (24, AC.strip c60, [.t 2, .t 3]) := by kernel_rfl
abbrev c61_0 : AC := .seq (.ops 0 [⟨some 3,.ld (.t 1) 4 true,none⟩,⟨some 4,.call 89 [(.t 3)],none⟩,⟨some 5,.bd [.int .u64 0,.int .u64 0,.int .u64 0,.int .u64 0] [],none⟩,⟨some 6,.beq false [2,2,2,2] (.t 4) (.t 5),none⟩,⟨some 2,.as 0 0 (.t 6),none⟩] [2]) .ret
abbrev c61_1 : AC := .seq (.ops 0 [⟨some 1,.bx (.t 0),none⟩,⟨some 2,.as 0 0 (.k (.lf (.bool false))),none⟩] [1]) c61_0
abbrev c61 : AC := c61_1
theorem c61_ok : compileFn Tryz.prog 61 = some (7, AC.strip c61, [.t 2]) := by kernel_rfl
abbrev c63_0 : AC := .seq (.ops 0 [⟨some 2,.as 0 0 (.k (.lf (.str ⟨#[92,110]⟩))),none⟩] [2]) .ret
abbrev c63_1 : AC := .seq (.ops 0 [⟨some 2,.as 0 0 (.k (.lf (.str ⟨#[92,114]⟩))),none⟩] [2]) .ret
abbrev c63_2 : AC := .seq (.ops 0 [⟨some 2,.as 0 0 (.k (.lf (.str ⟨#[92,116]⟩))),none⟩] [2]) .ret
abbrev c63_3 : AC := .cond (.t 10) .skip (.ops 0 [⟨some 16,.bin .eql (.t 3) (.k (.lf (.int .i64 37))),none⟩,⟨some 10,.as 0 0 (.t 16),none⟩] [0,10])
abbrev c63_4 : AC := .seq (.ops 0 [⟨some 15,.bin .eql (.t 3) (.k (.lf (.int .i64 45))),none⟩,⟨some 10,.as 0 0 (.t 15),none⟩] [0,3,10]) c63_3
abbrev c63_5 : AC := .cond (.t 10) .skip c63_4
abbrev c63_6 : AC := .seq (.ops 0 [⟨some 14,.bin .eql (.t 3) (.k (.lf (.int .i64 94))),none⟩,⟨some 10,.as 0 0 (.t 14),none⟩] [0,3,10]) c63_5
abbrev c63_7 : AC := .cond (.t 10) .skip c63_6
abbrev c63_8 : AC := .seq (.ops 0 [⟨some 13,.bin .eql (.t 3) (.k (.lf (.int .i64 91))),none⟩,⟨some 10,.as 0 0 (.t 13),none⟩] [0,3,10]) c63_7
abbrev c63_9 : AC := .cond (.t 10) .skip c63_8
abbrev c63_10 : AC := .seq (.ops 0 [⟨some 12,.bin .eql (.t 3) (.k (.lf (.int .i64 93))),none⟩,⟨some 10,.as 0 0 (.t 12),none⟩] [0,3,10]) c63_9
abbrev c63_11 : AC := .cond (.t 10) .skip c63_10
abbrev c63_12 : AC := .seq (.ops 0 [⟨some 11,.bin .eql (.t 3) (.k (.lf (.int .i64 92))),none⟩,⟨some 10,.as 0 0 (.t 11),none⟩] [0,3,10]) c63_11
abbrev c63_13 : AC := .seq (.ops 0 [⟨some 17,.mv (.t 0),none⟩,⟨some 18,.cvi .u8 (.t 17),none⟩,⟨some 19,.bs 5 1 1 [.int .u8 0] [(0,(.t 18))],none⟩,⟨some 20,.cbs (.t 19),none⟩,⟨some 21,.bin .add (.k (.lf (.str ⟨#[92]⟩))) (.t 20),none⟩,⟨some 2,.as 0 0 (.t 21),none⟩] [2]) .ret
abbrev c63_14 : AC := .cond (.t 10) c63_13 .skip
abbrev c63_15 : AC := .seq c63_12 c63_14
abbrev c63_16 : AC := .cond (.t 8) c63_2 c63_15
abbrev c63_17 : AC := .seq (.ops 0 [⟨some 9,.bin .eql (.t 3) (.k (.lf (.int .i64 9))),none⟩,⟨some 8,.as 0 0 (.t 9),none⟩] [0,3,8]) c63_16
abbrev c63_18 : AC := .cond (.t 6) c63_1 c63_17
abbrev c63_19 : AC := .seq (.ops 0 [⟨some 7,.bin .eql (.t 3) (.k (.lf (.int .i64 13))),none⟩,⟨some 6,.as 0 0 (.t 7),none⟩] [0,3,6]) c63_18
abbrev c63_20 : AC := .cond (.t 4) c63_0 c63_19
abbrev c63_21 : AC := .seq (.ops 0 [⟨some 5,.bin .eql (.t 3) (.k (.lf (.int .i64 10))),none⟩,⟨some 4,.as 0 0 (.t 5),none⟩] [0,3,4]) c63_20
abbrev c63_22 : AC := .block 0 c63_21
abbrev c63_23 : AC := .seq (.ops 0 [⟨some 3,.mv (.t 0),none⟩] [0,3]) c63_22
abbrev c63_24 : AC := .seq (.ops 0 [⟨some 28,.mv (.t 0),none⟩,⟨some 29,.cvi .u8 (.t 28),none⟩,⟨some 30,.bs 5 1 1 [.int .u8 0] [(0,(.t 29))],none⟩,⟨some 31,.cbs (.t 30),none⟩,⟨some 2,.as 0 0 (.t 31),none⟩] [2]) .ret
abbrev c63_25 : AC := .cond (.t 27) c63_24 .skip
abbrev c63_26 : AC := .seq (.ops 0 [⟨some 22,.mv (.t 0),none⟩,⟨some 23,.bin .geq (.t 22) (.k (.lf (.int .i64 32))),none⟩,⟨some 24,.mv (.t 23),none⟩,⟨some 25,.mv (.t 0),some (24,true)⟩,⟨some 26,.bin .leq (.t 25) (.k (.lf (.int .i64 126))),some (24,true)⟩,⟨some 27,.pk (.t 24) (.t 26) (.k (.lf (.bool false))),none⟩] [0,27]) c63_25
abbrev c63_27 : AC := .seq (.reg [⟨some 32,.mv (.t 0),none⟩,⟨some 33,.bin .quo (.t 32) (.k (.lf (.int .i64 16))),none⟩,⟨some 34,.ixs (.k (.lf (.str ⟨#[48,49,50,51,52,53,54,55,56,57,97,98,99,100,101,102]⟩))) (.t 33),none⟩,⟨some 35,.mv (.t 0),none⟩,⟨some 36,.bin .rem (.t 35) (.k (.lf (.int .i64 16))),none⟩,⟨some 37,.ixs (.k (.lf (.str ⟨#[48,49,50,51,52,53,54,55,56,57,97,98,99,100,101,102]⟩))) (.t 36),none⟩] [⟨some 38,.bs 5 1 2 [.int .u8 0] [(0,(.t 34)),(1,(.t 37))],none⟩,⟨some 39,.cbs (.t 38),none⟩,⟨some 40,.bin .add (.k (.lf (.str ⟨#[92,120]⟩))) (.t 39),none⟩,⟨some 2,.as 0 0 (.t 40),none⟩] [2]) .ret
abbrev c63_28 : AC := .seq c63_26 c63_27
abbrev c63_29 : AC := .seq c63_23 c63_28
abbrev c63_30 : AC := .seq (.ops 0 [⟨some 2,.as 0 0 (.k (.lf (.str ⟨#[]⟩))),none⟩] [0]) c63_29
abbrev c63 : AC := c63_30
theorem c63_ok : compileFn Tryz.prog 63 = some (41, AC.strip c63, [.t 2]) := by kernel_rfl
abbrev c88_0 : AC := .seq (.ops 0 [⟨some 38,.mv (.t 0),none⟩,⟨some 39,.callp 87 0 [(.t 38),(.k (.lf (.int .u8 92)))],none⟩] [0,1]) (.ops 0 [⟨some 40,.mv (.t 0),none⟩,⟨some 41,.mv (.t 1),none⟩,⟨some 42,.callp 87 0 [(.t 40),(.t 41)],none⟩] [])
abbrev c88_1 : AC := .seq (.ops 0 [⟨some 6,.mv (.t 0),none⟩,⟨some 7,.mv (.t 1),none⟩,⟨some 8,.bin .shr (.t 7) (.k (.lf (.int .u64 4))),none⟩,⟨some 9,.ixs (.k (.lf (.str ⟨#[48,49,50,51,52,53,54,55,56,57,97,98,99,100,101,102]⟩))) (.t 8),none⟩,⟨some 10,.callp 87 0 [(.t 6),(.t 9)],none⟩] [0,1]) (.ops 0 [⟨some 11,.mv (.t 0),none⟩,⟨some 12,.mv (.t 1),none⟩,⟨some 13,.bin .and (.t 12) (.k (.lf (.int .u8 15))),none⟩,⟨some 14,.ixs (.k (.lf (.str ⟨#[48,49,50,51,52,53,54,55,56,57,97,98,99,100,101,102]⟩))) (.t 13),none⟩,⟨some 15,.callp 87 0 [(.t 11),(.t 14)],none⟩] [])
abbrev c88_2 : AC := .seq (.ops 0 [⟨some 4,.mv (.t 0),none⟩,⟨some 5,.callp 58 0 [(.t 4),(.k (.lf (.str ⟨#[92,120]⟩)))],none⟩] [0,1]) c88_1
abbrev c88_3 : AC := .cond (.t 43) (.ops 0 [⟨some 50,.mv (.t 0),none⟩,⟨some 51,.mv (.t 1),none⟩,⟨some 52,.callp 87 0 [(.t 50),(.t 51)],none⟩] []) c88_2
abbrev c88_4 : AC := .seq (.ops 0 [⟨some 44,.mv (.t 1),none⟩,⟨some 45,.bin .geq (.t 44) (.k (.lf (.int .u8 32))),none⟩,⟨some 46,.mv (.t 45),none⟩,⟨some 47,.mv (.t 1),some (46,true)⟩,⟨some 48,.bin .leq (.t 47) (.k (.lf (.int .u8 126))),some (46,true)⟩,⟨some 49,.pk (.t 46) (.t 48) (.k (.lf (.bool false))),none⟩,⟨some 43,.as 0 0 (.t 49),none⟩] [0,1,43]) c88_3
abbrev c88_5 : AC := .cond (.t 31) c88_0 c88_4
abbrev c88_6 : AC := .seq (.ops 0 [⟨some 32,.mv (.t 1),none⟩,⟨some 33,.bin .eql (.t 32) (.k (.lf (.int .u8 39))),none⟩,⟨some 34,.mv (.t 33),none⟩,⟨some 35,.mv (.t 1),some (34,false)⟩,⟨some 36,.bin .eql (.t 35) (.k (.lf (.int .u8 92))),some (34,false)⟩,⟨some 37,.pk (.t 34) (.k (.lf (.bool true))) (.t 36),none⟩,⟨some 31,.as 0 0 (.t 37),none⟩] [0,1,31]) c88_5
abbrev c88_7 : AC := .cond (.t 26) (.ops 0 [⟨some 29,.mv (.t 0),none⟩,⟨some 30,.callp 58 0 [(.t 29),(.k (.lf (.str ⟨#[92,116]⟩)))],none⟩] []) c88_6
abbrev c88_8 : AC := .seq (.ops 0 [⟨some 27,.mv (.t 1),none⟩,⟨some 28,.bin .eql (.t 27) (.k (.lf (.int .u8 9))),none⟩,⟨some 26,.as 0 0 (.t 28),none⟩] [0,1,26]) c88_7
abbrev c88_9 : AC := .cond (.t 21) (.ops 0 [⟨some 24,.mv (.t 0),none⟩,⟨some 25,.callp 58 0 [(.t 24),(.k (.lf (.str ⟨#[92,114]⟩)))],none⟩] []) c88_8
abbrev c88_10 : AC := .seq (.ops 0 [⟨some 22,.mv (.t 1),none⟩,⟨some 23,.bin .eql (.t 22) (.k (.lf (.int .u8 13))),none⟩,⟨some 21,.as 0 0 (.t 23),none⟩] [0,1,21]) c88_9
abbrev c88_11 : AC := .cond (.t 16) (.ops 0 [⟨some 19,.mv (.t 0),none⟩,⟨some 20,.callp 58 0 [(.t 19),(.k (.lf (.str ⟨#[92,110]⟩)))],none⟩] []) c88_10
abbrev c88_12 : AC := .seq (.ops 0 [⟨some 17,.mv (.t 1),none⟩,⟨some 18,.bin .eql (.t 17) (.k (.lf (.int .u8 10))),none⟩,⟨some 16,.as 0 0 (.t 18),none⟩] [0,1,16]) c88_11
abbrev c88_13 : AC := .block 0 c88_12
abbrev c88 : AC := c88_13
theorem c88_ok : compileFn Tryz.prog 88 = some (53, AC.strip c88, []) := by kernel_rfl
abbrev c89_0 : AC := .cond (.t 5) .skip (.exit 0)
abbrev c89_1 : AC := .seq (.ops 0 [⟨some 6,.mv (.t 4),none⟩,⟨some 3,.as 0 0 (.t 6),none⟩] [1,2,3,4]) (.ops 0 [⟨some 7,.mv (.t 3),none⟩,⟨some 8,.mv (.t 3),none⟩,⟨some 9,.iaa (.t 1) (.t 8) 4 1,none⟩,⟨some 10,.ld (.t 9) 1 false,none⟩,⟨some 11,.un .xor (.t 10),none⟩,⟨some 12,.iaa (.t 1) (.t 7) 4 1,none⟩,⟨none,.st (.t 12) (.t 11) 1,none⟩] [1,2,4])
abbrev c89_2 : AC := .block 1 c89_1
abbrev c89_3 : AC := .seq c89_2 (.ops 0 [⟨some 13,.bin .add (.t 4) (.k (.lf (.int .i64 1))),none⟩,⟨some 4,.mv (.t 13),none⟩] [1,2,4])
abbrev c89_4 : AC := .seq c89_0 c89_3
abbrev c89_5 : AC := .seq (.ops 0 [⟨some 5,.bin .lss (.t 4) (.k (.lf (.int .i64 4))),none⟩] [1,2,4,5]) c89_4
abbrev c89_6 : AC := .loop c89_5 [1,2,4]
abbrev c89_7 : AC := .block 0 c89_6
abbrev c89_8 : AC := .seq (.ops 0 [⟨some 4,.mv (.k (.lf (.int .i64 0))),none⟩] [1,2,4]) c89_7
abbrev c89_9 : AC := .seq (.ops 0 [⟨some 14,.ld (.t 1) 4 true,none⟩,⟨none,.st (.t 2) (.t 14) 4,none⟩] [2]) .ret
abbrev c89_10 : AC := .seq c89_8 c89_9
abbrev c89_11 : AC := .seq (.ops 0 [⟨some 1,.bx (.t 0),none⟩,⟨some 2,.al [.int .u64 0,.int .u64 0,.int .u64 0,.int .u64 0],none⟩] [1,2]) c89_10
abbrev c89 : AC := c89_11
theorem c89_ok : compileFn Tryz.prog 89 = some (15, AC.strip c89, [.c 2 4 true]) := by kernel_rfl
abbrev c76_0 : AC := .seq (.ops 0 [⟨some 2,.as 0 0 (.k (.lf (.str ⟨#[91,94,93]⟩))),none⟩] [2]) .ret
abbrev c76_1 : AC := .cond (.t 8) c76_0 .skip
abbrev c76_2 : AC := .seq (.ops 0 [⟨some 6,.ld (.t 1) 4 true,none⟩,⟨some 7,.call 103 [(.t 6)],none⟩,⟨some 8,.bin .eql (.t 7) (.k (.lf (.int .i64 256))),none⟩] [1,8]) c76_1
abbrev c76_3 : AC := .cond (.t 14) .skip (.exit 0)
abbrev c76_4 : AC := .seq (.ops 0 [⟨some 11,.mv (.t 5),none⟩,⟨some 12,.mv (.t 3),none⟩,⟨some 13,.len (.t 12),none⟩,⟨some 14,.bin .lss (.t 11) (.t 13),none⟩] [3,4,5,14]) c76_3
abbrev c76_5 : AC := .cond (.t 36) (.ops 0 [⟨some 37,.mv (.t 4),none⟩,⟨some 38,.bin .add (.t 37) (.k (.lf (.str ⟨#[45]⟩))),none⟩,⟨some 4,.as 0 0 (.t 38),none⟩] [3,4,5]) .skip
abbrev c76_6 : AC := .seq (.ops 2 [⟨some 25,.mv (.t 3),none⟩,⟨some 26,.mv (.t 5),none⟩,⟨some 27,.ia (.t 25) (.t 26) 2,none⟩,⟨some 28,.fa (.t 27) 1,none⟩,⟨some 29,.ld (.t 28) 1 false,none⟩,⟨some 30,.mv (.t 3),none⟩,⟨some 31,.mv (.t 5),none⟩,⟨some 32,.ia (.t 30) (.t 31) 2,none⟩,⟨some 33,.fa (.t 32) 0,none⟩,⟨some 34,.ld (.t 33) 1 false,none⟩,⟨some 35,.bin .add (.t 34) (.k (.lf (.int .i64 1))),none⟩,⟨some 36,.bin .gtr (.t 29) (.t 35),none⟩] [3,4,5,36]) c76_5
abbrev c76_7 : AC := .cond (.t 49) (.ops 0 [⟨some 50,.mv (.t 4),none⟩,⟨some 51,.mv (.t 3),none⟩,⟨some 52,.mv (.t 5),none⟩,⟨some 53,.ia (.t 51) (.t 52) 2,none⟩,⟨some 54,.fa (.t 53) 1,none⟩,⟨some 55,.ld (.t 54) 1 false,none⟩,⟨some 56,.call 105 [(.t 55)],none⟩,⟨some 57,.bin .add (.t 50) (.t 56),none⟩,⟨some 4,.as 0 0 (.t 57),none⟩] [3,4,5]) .skip
abbrev c76_8 : AC := .seq (.ops 2 [⟨some 39,.mv (.t 3),none⟩,⟨some 40,.mv (.t 5),none⟩,⟨some 41,.ia (.t 39) (.t 40) 2,none⟩,⟨some 42,.fa (.t 41) 1,none⟩,⟨some 43,.ld (.t 42) 1 false,none⟩,⟨some 44,.mv (.t 3),none⟩,⟨some 45,.mv (.t 5),none⟩,⟨some 46,.ia (.t 44) (.t 45) 2,none⟩,⟨some 47,.fa (.t 46) 0,none⟩,⟨some 48,.ld (.t 47) 1 false,none⟩,⟨some 49,.bin .gtr (.t 43) (.t 48),none⟩] [3,4,5,49]) c76_7
abbrev c76_9 : AC := .seq c76_6 c76_8
abbrev c76_10 : AC := .seq (.ops 0 [⟨some 17,.mv (.t 4),none⟩,⟨some 18,.mv (.t 3),none⟩,⟨some 19,.mv (.t 5),none⟩,⟨some 20,.ia (.t 18) (.t 19) 2,none⟩,⟨some 21,.fa (.t 20) 0,none⟩,⟨some 22,.ld (.t 21) 1 false,none⟩,⟨some 23,.call 105 [(.t 22)],none⟩,⟨some 24,.bin .add (.t 17) (.t 23),none⟩,⟨some 4,.as 0 0 (.t 24),none⟩] [3,4,5]) c76_9
abbrev c76_11 : AC := .block 1 c76_10
abbrev c76_12 : AC := .seq c76_11 (.ops 0 [⟨some 15,.mv (.t 5),none⟩,⟨some 16,.bin .add (.t 15) (.k (.lf (.int .i64 1))),none⟩,⟨some 5,.as 0 0 (.t 16),none⟩] [3,4,5])
abbrev c76_13 : AC := .seq c76_4 c76_12
abbrev c76_14 : AC := .loop c76_13 [3,4,5]
abbrev c76_15 : AC := .block 0 c76_14
abbrev c76_16 : AC := .seq (.ops 0 [⟨some 5,.as 0 0 (.k (.lf (.int .i64 0))),none⟩] [3,4,5]) c76_15
abbrev c76_17 : AC := .seq (.ops 0 [⟨some 58,.mv (.t 4),none⟩,⟨some 59,.bin .add (.t 58) (.k (.lf (.str ⟨#[93]⟩))),none⟩,⟨some 2,.as 0 0 (.t 59),none⟩] [2]) .ret
abbrev c76_18 : AC := .seq c76_16 c76_17
abbrev c76_19 : AC := .seq (.ops 0 [⟨some 4,.as 0 0 (.k (.lf (.str ⟨#[91]⟩))),none⟩] [3,4]) c76_18
abbrev c76_20 : AC := .seq (.ops 0 [⟨some 9,.ld (.t 1) 4 true,none⟩,⟨some 10,.call 104 [(.t 9)],none⟩,⟨some 3,.as 118 2 (.t 10),none⟩] [3]) c76_19
abbrev c76_21 : AC := .seq c76_2 c76_20
abbrev c76_22 : AC := .seq (.ops 0 [⟨some 1,.bx (.t 0),none⟩,⟨some 2,.as 0 0 (.k (.lf (.str ⟨#[]⟩))),none⟩] [1]) c76_21
abbrev c76 : AC := c76_22
theorem c76_ok : compileFn Tryz.prog 76 = some (60, AC.strip c76, [.t 2]) := by kernel_rfl
abbrev c102_0 : AC := .seq (.ops 1 [⟨some 3,.mv (.t 0),none⟩,⟨some 4,.bin .quo (.t 3) (.k (.lf (.int .i64 16))),none⟩,⟨some 5,.mv (.t 0),none⟩,⟨some 6,.bin .quo (.t 5) (.k (.lf (.int .i64 16))),none⟩,⟨some 7,.bin .add (.t 6) (.k (.lf (.int .i64 1))),none⟩,⟨some 8,.sls (.k (.lf (.str ⟨#[48,49,50,51,52,53,54,55,56,57,97,98,99,100,101,102]⟩))) (some (.t 4)) (some (.t 7)),none⟩,⟨some 9,.mv (.t 0),none⟩,⟨some 10,.bin .rem (.t 9) (.k (.lf (.int .i64 16))),none⟩,⟨some 11,.mv (.t 0),none⟩,⟨some 12,.bin .rem (.t 11) (.k (.lf (.int .i64 16))),none⟩,⟨some 13,.bin .add (.t 12) (.k (.lf (.int .i64 1))),none⟩,⟨some 14,.sls (.k (.lf (.str ⟨#[48,49,50,51,52,53,54,55,56,57,97,98,99,100,101,102]⟩))) (some (.t 10)) (some (.t 13)),none⟩,⟨some 15,.bin .add (.t 8) (.t 14),none⟩,⟨some 2,.as 0 0 (.t 15),none⟩] [2]) .ret
abbrev c102_1 : AC := .seq (.ops 0 [⟨some 2,.as 0 0 (.k (.lf (.str ⟨#[]⟩))),none⟩] [0]) c102_0
abbrev c102 : AC := c102_1
theorem c102_ok : compileFn Tryz.prog 102 = some (16, AC.strip c102, [.t 2]) := by kernel_rfl
abbrev c103_0 : AC := .seq (.ops 0 [⟨some 3,.ld (.t 1) 4 true,none⟩,⟨some 4,.call 128 [(.t 3)],none⟩,⟨some 5,.lns (.t 4),none⟩,⟨some 2,.as 0 0 (.t 5),none⟩] [2]) .ret
abbrev c103_1 : AC := .seq (.ops 0 [⟨some 1,.bx (.t 0),none⟩,⟨some 2,.as 0 0 (.k (.lf (.int .i64 0))),none⟩] [1]) c103_0
abbrev c103 : AC := c103_1
theorem c103_ok : compileFn Tryz.prog 103 = some (6, AC.strip c103, [.t 2]) := by kernel_rfl
abbrev c104_0 : AC := .cond (.t 6) .skip (.exit 0)
abbrev c104_1 : AC := .seq (.ops 0 [⟨some 5,.mv (.t 4),none⟩,⟨some 6,.bin .leq (.t 5) (.k (.lf (.int .i64 255))),none⟩] [1,3,4,6]) c104_0
abbrev c104_2 : AC := .cond (.t 12) (.exit 1) .skip
abbrev c104_3 : AC := .seq (.ops 0 [⟨some 9,.ld (.t 1) 4 true,none⟩,⟨some 10,.mv (.t 4),none⟩,⟨some 11,.call 129 [(.t 9),(.t 10)],none⟩,⟨some 12,.un .not (.t 11),none⟩] [1,3,4,12]) c104_2
abbrev c104_4 : AC := .cond (.t 16) (.ops 0 [⟨some 17,.mv (.t 3),none⟩,⟨some 18,.mv (.t 3),none⟩,⟨some 19,.len (.t 18),none⟩,⟨some 20,.bin .sub (.t 19) (.k (.lf (.int .i64 1))),none⟩,⟨some 21,.mv (.t 4),none⟩,⟨some 22,.ia (.t 17) (.t 20) 2,none⟩,⟨some 23,.fa (.t 22) 1,none⟩,⟨none,.st (.t 23) (.t 21) 1,none⟩] [1,3,4]) (.ops 0 [⟨some 24,.mv (.t 3),none⟩,⟨some 25,.mv (.t 4),none⟩,⟨some 26,.mv (.t 4),none⟩,⟨some 27,.bd [.int .i64 0,.int .i64 0] [(0,1,(.t 25)),(1,1,(.t 26))],none⟩,⟨some 28,.bs 118 2 1 [.int .i64 0,.int .i64 0] [(0,(.t 27))],none⟩,⟨some 29,.app 118 2 16 (.t 24) (.t 28),none⟩,⟨some 3,.as 118 2 (.t 29),none⟩] [1,3,4])
abbrev c104_5 : AC := .seq (.ops 0 [⟨some 13,.ld (.t 1) 4 true,none⟩,⟨some 14,.mv (.t 4),none⟩,⟨some 15,.bin .sub (.t 14) (.k (.lf (.int .i64 1))),none⟩,⟨some 16,.call 129 [(.t 13),(.t 15)],none⟩] [1,3,4,16]) c104_4
abbrev c104_6 : AC := .seq c104_3 c104_5
abbrev c104_7 : AC := .block 1 c104_6
abbrev c104_8 : AC := .seq c104_7 (.ops 0 [⟨some 7,.mv (.t 4),none⟩,⟨some 8,.bin .add (.t 7) (.k (.lf (.int .i64 1))),none⟩,⟨some 4,.as 0 0 (.t 8),none⟩] [1,3,4])
abbrev c104_9 : AC := .seq c104_1 c104_8
abbrev c104_10 : AC := .loop c104_9 [1,3,4]
abbrev c104_11 : AC := .block 0 c104_10
abbrev c104_12 : AC := .seq (.ops 0 [⟨some 4,.as 0 0 (.k (.lf (.int .i64 0))),none⟩] [1,3,4]) c104_11
abbrev c104_13 : AC := .seq (.ops 0 [⟨some 30,.mv (.t 3),none⟩,⟨some 2,.as 118 2 (.t 30),none⟩] [2]) .ret
abbrev c104_14 : AC := .seq c104_12 c104_13
abbrev c104_15 : AC := .seq (.ops 0 [⟨some 3,.as 118 2 (.k (.lf (.lst .nl 2 [] []))),none⟩] [1,3]) c104_14
abbrev c104_16 : AC := .seq (.ops 0 [⟨some 1,.bx (.t 0),none⟩,⟨some 2,.as 118 2 (.k (.lf (.lst .nl 2 [] []))),none⟩] [1]) c104_15
abbrev c104 : AC := c104_16
theorem c104_ok : compileFn Tryz.prog 104 = some (31, AC.strip c104, [.t 2]) := by kernel_rfl
abbrev c105_0 : AC := .seq (.ops 0 [⟨some 2,.as 0 0 (.k (.lf (.str ⟨#[92,110]⟩))),none⟩] [2]) .ret
abbrev c105_1 : AC := .seq (.ops 0 [⟨some 2,.as 0 0 (.k (.lf (.str ⟨#[92,114]⟩))),none⟩] [2]) .ret
abbrev c105_2 : AC := .seq (.ops 0 [⟨some 2,.as 0 0 (.k (.lf (.str ⟨#[92,116]⟩))),none⟩] [2]) .ret
abbrev c105_3 : AC := .seq (.ops 0 [⟨some 15,.mv (.t 0),none⟩,⟨some 16,.cvi .u8 (.t 15),none⟩,⟨some 17,.bs 5 1 1 [.int .u8 0] [(0,(.t 16))],none⟩,⟨some 18,.cbs (.t 17),none⟩,⟨some 19,.bin .add (.k (.lf (.str ⟨#[92]⟩))) (.t 18),none⟩,⟨some 2,.as 0 0 (.t 19),none⟩] [2]) .ret
abbrev c105_4 : AC := .seq (.ops 0 [⟨some 27,.mv (.t 0),none⟩,⟨some 28,.cvi .u8 (.t 27),none⟩,⟨some 29,.bs 5 1 1 [.int .u8 0] [(0,(.t 28))],none⟩,⟨some 30,.cbs (.t 29),none⟩,⟨some 2,.as 0 0 (.t 30),none⟩] [2]) .ret
abbrev c105_5 : AC := .cond (.t 20) c105_4 .skip
abbrev c105_6 : AC := .seq (.ops 0 [⟨some 21,.mv (.t 0),none⟩,⟨some 22,.bin .geq (.t 21) (.k (.lf (.int .i64 32))),none⟩,⟨some 23,.mv (.t 22),none⟩,⟨some 24,.mv (.t 0),some (23,true)⟩,⟨some 25,.bin .leq (.t 24) (.k (.lf (.int .i64 126))),some (23,true)⟩,⟨some 26,.pk (.t 23) (.t 25) (.k (.lf (.bool false))),none⟩,⟨some 20,.as 0 0 (.t 26),none⟩] [0,20]) c105_5
abbrev c105_7 : AC := .cond (.t 12) c105_3 c105_6
abbrev c105_8 : AC := .seq (.ops 0 [⟨some 13,.mv (.t 0),none⟩,⟨some 14,.call 130 [(.t 13)],none⟩,⟨some 12,.as 0 0 (.t 14),none⟩] [0,12]) c105_7
abbrev c105_9 : AC := .cond (.t 9) c105_2 c105_8
abbrev c105_10 : AC := .seq (.ops 0 [⟨some 10,.mv (.t 0),none⟩,⟨some 11,.bin .eql (.t 10) (.k (.lf (.int .i64 9))),none⟩,⟨some 9,.as 0 0 (.t 11),none⟩] [0,9]) c105_9
abbrev c105_11 : AC := .cond (.t 6) c105_1 c105_10
abbrev c105_12 : AC := .seq (.ops 0 [⟨some 7,.mv (.t 0),none⟩,⟨some 8,.bin .eql (.t 7) (.k (.lf (.int .i64 13))),none⟩,⟨some 6,.as 0 0 (.t 8),none⟩] [0,6]) c105_11
abbrev c105_13 : AC := .cond (.t 3) c105_0 c105_12
abbrev c105_14 : AC := .seq (.ops 0 [⟨some 4,.mv (.t 0),none⟩,⟨some 5,.bin .eql (.t 4) (.k (.lf (.int .i64 10))),none⟩,⟨some 3,.as 0 0 (.t 5),none⟩] [0,3]) c105_13
abbrev c105_15 : AC := .block 0 c105_14
abbrev c105_16 : AC := .seq (.ops 0 [⟨some 31,.mv (.t 0),none⟩,⟨some 32,.call 102 [(.t 31)],none⟩,⟨some 33,.bin .add (.k (.lf (.str ⟨#[92,120]⟩))) (.t 32),none⟩,⟨some 2,.as 0 0 (.t 33),none⟩] [2]) .ret
abbrev c105_17 : AC := .seq c105_15 c105_16
abbrev c105_18 : AC := .seq (.ops 0 [⟨some 2,.as 0 0 (.k (.lf (.str ⟨#[]⟩))),none⟩] [0]) c105_17
abbrev c105 : AC := c105_18
theorem c105_ok : compileFn Tryz.prog 105 = some (34, AC.strip c105, [.t 2]) := by kernel_rfl
abbrev c128_0 : AC := .cond (.t 6) .skip (.exit 0)
abbrev c128_1 : AC := .seq (.ops 0 [⟨some 5,.mv (.t 4),none⟩,⟨some 6,.bin .leq (.t 5) (.k (.lf (.int .i64 255))),none⟩] [1,3,4,6]) c128_0
abbrev c128_2 : AC := .cond (.t 11) (.ops 0 [⟨some 12,.mv (.t 3),none⟩,⟨some 13,.mv (.t 4),none⟩,⟨some 14,.cvi .u8 (.t 13),none⟩,⟨some 15,.bs 5 1 1 [.int .u8 0] [(0,(.t 14))],none⟩,⟨some 16,.app 5 1 1 (.t 12) (.t 15),none⟩,⟨some 3,.as 5 1 (.t 16),none⟩] [1,3,4]) .skip
abbrev c128_3 : AC := .seq (.ops 0 [⟨some 9,.ld (.t 1) 4 true,none⟩,⟨some 10,.mv (.t 4),none⟩,⟨some 11,.call 129 [(.t 9),(.t 10)],none⟩] [1,3,4,11]) c128_2
abbrev c128_4 : AC := .block 1 c128_3
abbrev c128_5 : AC := .seq c128_4 (.ops 0 [⟨some 7,.mv (.t 4),none⟩,⟨some 8,.bin .add (.t 7) (.k (.lf (.int .i64 1))),none⟩,⟨some 4,.as 0 0 (.t 8),none⟩] [1,3,4])
abbrev c128_6 : AC := .seq c128_1 c128_5
abbrev c128_7 : AC := .loop c128_6 [1,3,4]
abbrev c128_8 : AC := .block 0 c128_7
abbrev c128_9 : AC := .seq (.ops 0 [⟨some 4,.as 0 0 (.k (.lf (.int .i64 0))),none⟩] [1,3,4]) c128_8
abbrev c128_10 : AC := .seq (.ops 0 [⟨some 17,.mv (.t 3),none⟩,⟨some 18,.cbs (.t 17),none⟩,⟨some 2,.as 0 0 (.t 18),none⟩] [2]) .ret
abbrev c128_11 : AC := .seq c128_9 c128_10
abbrev c128_12 : AC := .seq (.ops 0 [⟨some 3,.as 5 1 (.k (.lf (.lst .nl 1 [] []))),none⟩] [1,3]) c128_11
abbrev c128_13 : AC := .seq (.ops 0 [⟨some 1,.bx (.t 0),none⟩,⟨some 2,.as 0 0 (.k (.lf (.str ⟨#[]⟩))),none⟩] [1]) c128_12
abbrev c128 : AC := c128_13
theorem c128_ok : compileFn Tryz.prog 128 = some (19, AC.strip c128, [.t 2]) := by kernel_rfl
abbrev c129_0 : AC := .seq (.ops 0 [⟨some 5,.mv (.t 1),none⟩,⟨some 6,.bin .geq (.t 5) (.k (.lf (.int .i64 0))),none⟩,⟨some 7,.mv (.t 6),none⟩,⟨some 8,.mv (.t 1),some (7,true)⟩,⟨some 9,.bin .leq (.t 8) (.k (.lf (.int .i64 255))),some (7,true)⟩,⟨some 10,.pk (.t 7) (.t 9) (.k (.lf (.bool false))),none⟩,⟨some 11,.mv (.t 10),none⟩,⟨some 12,.mv (.t 1),some (11,true)⟩,⟨some 13,.bin .quo (.t 12) (.k (.lf (.int .i64 64))),some (11,true)⟩,⟨some 14,.iaa (.t 2) (.t 13) 4 1,some (11,true)⟩,⟨some 15,.ld (.t 14) 1 false,some (11,true)⟩,⟨some 16,.mv (.t 1),some (11,true)⟩,⟨some 17,.bin .rem (.t 16) (.k (.lf (.int .i64 64))),some (11,true)⟩,⟨some 18,.bin .shr (.t 15) (.t 17),some (11,true)⟩,⟨some 19,.bin .and (.t 18) (.k (.lf (.int .u64 1))),some (11,true)⟩,⟨some 20,.bin .eql (.t 19) (.k (.lf (.int .u64 1))),some (11,true)⟩,⟨some 21,.pk (.t 11) (.t 20) (.k (.lf (.bool false))),none⟩,⟨some 4,.as 0 0 (.t 21),none⟩] [4]) .ret
abbrev c129_1 : AC := .seq (.ops 0 [⟨some 2,.bx (.t 0),none⟩,⟨some 4,.as 0 0 (.k (.lf (.bool false))),none⟩] [1,2]) c129_0
abbrev c129 : AC := c129_1
theorem c129_ok : compileFn Tryz.prog 129 = some (22, AC.strip c129, [.t 4]) := by kernel_rfl
abbrev c130_0 : AC := .seq (.ops 0 [⟨some 3,.mv (.t 0),none⟩,⟨some 4,.bin .eql (.t 3) (.k (.lf (.int .i64 92))),none⟩,⟨some 5,.mv (.t 4),none⟩,⟨some 6,.mv (.t 0),some (5,false)⟩,⟨some 7,.bin .eql (.t 6) (.k (.lf (.int .i64 93))),some (5,false)⟩,⟨some 8,.pk (.t 5) (.k (.lf (.bool true))) (.t 7),none⟩,⟨some 9,.mv (.t 8),none⟩,⟨some 10,.mv (.t 0),some (9,false)⟩,⟨some 11,.bin .eql (.t 10) (.k (.lf (.int .i64 91))),some (9,false)⟩,⟨some 12,.pk (.t 9) (.k (.lf (.bool true))) (.t 11),none⟩,⟨some 13,.mv (.t 12),none⟩,⟨some 14,.mv (.t 0),some (13,false)⟩,⟨some 15,.bin .eql (.t 14) (.k (.lf (.int .i64 94))),some (13,false)⟩,⟨some 16,.pk (.t 13) (.k (.lf (.bool true))) (.t 15),none⟩,⟨some 17,.mv (.t 16),none⟩,⟨some 18,.mv (.t 0),some (17,false)⟩,⟨some 19,.bin .eql (.t 18) (.k (.lf (.int .i64 45))),some (17,false)⟩,⟨some 20,.pk (.t 17) (.k (.lf (.bool true))) (.t 19),none⟩,⟨some 21,.mv (.t 20),none⟩,⟨some 22,.mv (.t 0),some (21,false)⟩,⟨some 23,.bin .eql (.t 22) (.k (.lf (.int .i64 37))),some (21,false)⟩,⟨some 24,.pk (.t 21) (.k (.lf (.bool true))) (.t 23),none⟩,⟨some 2,.as 0 0 (.t 24),none⟩] [2]) .ret
abbrev c130_1 : AC := .seq (.ops 0 [⟨some 2,.as 0 0 (.k (.lf (.bool false))),none⟩] [0]) c130_0
abbrev c130 : AC := c130_1
theorem c130_ok : compileFn Tryz.prog 130 = some (25, AC.strip c130, [.t 2]) := by kernel_rfl
end Go.Proofs.YtdoefdmaecaacaaGreatDoor.S
set_option linter.unusedVariables false
set_option linter.unusedSimpArgs false
namespace Go.Proofs.YtdoefdmaecaacaaGreatDoor.S
open Go Go.Proofs.YtdoefdmaecaacaaGreatDoor.AM
variable {X : Cx}
theorem w8 {x : Int} (h0 : 0 ≤ x) (h1 : x ≤ 255) : IntKind.wrap .u8 x = x := by
  simp only [IntKind.wrap, IntKind.bits, IntKind.signed]; simp; omega
theorem w64 {x : Int} (h0 : -9223372036854775808 ≤ x) (h1 : x ≤ 9223372036854775807) : IntKind.wrap .i64 x = x := by
  simp only [IntKind.wrap, IntKind.bits, IntKind.signed]; simp; omega
theorem ite_pr {p : Prop} [Decidable p] {A B : Prop} (h1 : p → A) (h2 : ¬ p → B) : if p then A else B := by split <;> simp_all
theorem bytesL_ub (s : ByteArray) : bytesL s = ub s.data.toList := rfl
theorem v_ms {σ : St} {t e n bytes : Nat} {zero : List L} {k k' : IntKind} {l c : Int} {K : St → Prop} : msK σ t e n bytes zero (.lf (.int k l)) (.lf (.int k' c)) K = (zero.length = n ∧ (0 ≤ l ∧ l ≤ c ∧ c * bytes ≤ 140737488355328 ∧ c ≤ 9223372036854775807) ∧ K ((σ.mapAll (killP (plT t 0))).put (some t) (.lf (.lst (.own (plT t 0) e) n (List.replicate l.toNat zero) (List.replicate (c - l).toNat zero))))) := rfl
structure Nd where
  op : Int
  n : Int
  t : ByteArray
  s0 : Int
  s1 : Int
  s2 : Int
  s3 : Int
abbrev Nd.c (x : Nd) : List L := [.int .i64 x.op, .int .i64 x.n, .str x.t, .int .u64 x.s0, .int .u64 x.s1, .int .u64 x.s2, .int .u64 x.s3]
def arF (op : Int) : Int := if op = 7 ∨ op = 8 then 2 else if (1 ≤ op ∧ op ≤ 6) ∨ op = 17 then 0 else if 8 < op ∧ op ≤ 23 then 1 else -1
theorem r40 (op : Int) : R X Tryz.prog 40 [.lf (.int .i64 op)] [] (.lf (.int .i64 (arF op))) [] := by
  refine R_i [] [] c40_ok rfl (by simp) ?_
  unfold arF
  simp -implicitDefEqProofs (maxSteps := 2000000) only [c40,↓reduceIte,S0,v_leq,v_gtr,v_geq,St.init,enum,Nat.reduceEqDiff,reduceCtorEq,cond_false,Bool.not_true,Bool.not_false,Bool.true_eq_false,decide_eq_false_iff_not,Int.reduceNeg,ite_not]
  (repeat' split) <;> first | trivial | omega
end Go.Proofs.YtdoefdmaecaacaaGreatDoor.S
set_option linter.unusedVariables false
set_option linter.unusedSimpArgs false
namespace Go.Proofs.YtdoefdmaecaacaaGreatDoor.S
open Go Go.Proofs.YtdoefdmaecaacaaGreatDoor.AM
variable {X : Cx}
abbrev wl (p : L) (l : List UInt8) (g : Bool) : List L := [p, .lst (.own 3 5) 1 (ub l) [], .bool g]
def frw (x : L) : Prop := x = .nilp ∨ x = .tptr 0 0 58
theorem r83w (x : L) (hx : frw x) (y : List UInt8) (g : Bool) : R X Tryz.prog 83 [.lf (.tptr 0 0 58)] [wl x y g] (.tp []) [wl (.tptr 0 0 58) y g] := by
  refine R_i [(3, 3)] [] c83_ok rfl (by simp) ?_
  rcases hx with rfl | rfl
  · simp -implicitDefEqProofs (maxSteps := 2000000) only [c83,↓reduceIte,S0,o_st,v_stCK,St.init,enum,Nat.reduceEqDiff,Nat.reduceAdd,reduceCtorEq,Bool.not_false,s_ret_n,List.all_cons,List.all_nil,PV.cells,cellL,fillL,Nat.reduceLeDiff,List.take_zero,List.drop_zero,List.drop_succ_cons,Nat.reduceLT,Nat.lt_add_one,true_or,or_true,st_t1,o_peq,v_peq_nn,o_p2u,v_p2u,v_p2uK,o_u2p,v_u2p,v_u2pK,o_ex,v_exK,v_ex0,v_fa_t,v_ld_t,v_st_t,v_nc_t,t_tr,one_0]
    kernel_rfl
  · simp -implicitDefEqProofs (maxSteps := 2000000) only [c83,↓reduceIte,S0,St.init,enum,Nat.reduceEqDiff,reduceCtorEq,Bool.not_true,s_ret_n,Nat.lt_add_one,true_or,or_true,o_peq,v_peq_tn,v_peq_tt,v_fa_t,v_ld_t,v_nc_t,t_tr,one_0]
theorem r58w (x : L) (hx : frw x) (y : List UInt8) (g : Bool) (s : ByteArray) (hs : y.length + s.size ≤ 140737488355328) : R X Tryz.prog 58 [.lf (.tptr 0 0 58), .lf (.str s)] [wl x y g] (.tp [.lf (.int .i64 s.size), .lf .nili]) [wl (.tptr 0 0 58) (y ++ s.data.toList) g] := by
  refine R_i [(3, 3)] [] c58_ok rfl (by simp) ?_
  rcases hx with rfl | rfl
  all_goals
    simp -implicitDefEqProofs (maxSteps := 2000000) only [c58,↓reduceIte,S0,St.init,enum,Nat.reduceEqDiff,reduceCtorEq,PV.leaves,e_asg_ni]
    refine pcall_i (r83w _ (by simp [frw, toC]) y g) rfl rfl ?_
    simp -implicitDefEqProofs (maxSteps := 2000000) only [c58,↓reduceIte,S0,o_st,v_stCK,o_lns,v_lns,o_aps,v_aps_o,Nat.reduceEqDiff,Nat.reduceAdd,reduceCtorEq,t_ni,outV,ownsV,List.any_nil,List.all_cons,List.all_nil,PV.cells,cellL,fillL,Nat.reduceMul,Nat.reduceBEq,Nat.reduceLeDiff,List.take_zero,List.drop_zero,List.take_succ_cons,List.drop_succ_cons,kp_b,kp_s,kp_u,kp_lo,e_asg_ni,st_lo,plT,plC,Nat.lt_add_one,true_or,or_true,kp_t,rk_t,fc_lo,fc_t,kl_np,ub_len,v_fa_t,v_ld_t,v_st_t,v_nc_t,t_tr,isC,cplc,Nat.reduceMod,Nat.reduceDiv]
    exact ⟨hs, by rw [bytesL_ub, ub_app]⟩
theorem r57w (x : L) (hx : frw x) (y : List UInt8) (g : Bool) : R X Tryz.prog 57 [.lf (.tptr 0 0 58)] [wl x y g] (.lf (.int .i64 y.length)) [wl x y g] := by
  refine R_i [(3, 3)] [] c57_ok rfl (by simp) ?_
  rcases hx with rfl | rfl
  all_goals
    simp -implicitDefEqProofs (maxSteps := 2000000) only [c57,↓reduceIte,S0,o_len,v_len,St.init,enum,reduceCtorEq,t_np,Nat.lt_add_one,true_or,or_true,implies_true,ub_len,v_fa_t,v_ld_t,v_nc_t,t_tr]
theorem r41w (x : L) (hx : frw x) (y : List UInt8) (g : Bool) (hy : 0 < y.length) : R X Tryz.prog 41 [.lf (.tptr 0 0 58)] [wl x y g] (.lf (.str ⟨y.toArray⟩)) [[x, .undef, .bool g]] := by
  refine R_i [] [] c41_ok rfl (by simp) ?_
  rcases hx with rfl | rfl
  all_goals
    simp -implicitDefEqProofs (maxSteps := 2000000) only [c41,↓reduceIte,S0,s_wopsqK,s_qnil,s_qcons,q_fa,q_ld,q_nc,q_len,o_len,v_len,St.init,enum,Nat.reduceEqDiff,reduceCtorEq,t_np,t_u,kp_b,kp_np,kp_lo,Nat.lt_add_one,implies_true,kp_t,kp_eo,o_usd,v_usd,ub_len,o_ust,v_ust,s_reg,q_usd,v_fa_t,v_ld_t,v_nc_t,t_tr]
    exact hy
structure W where
  x : L
  y : List UInt8
  g : Bool
def W.c (w : W) : List L := wl w.x w.y w.g
def putW (s : ByteArray) (w : W) : W := if w.g = true ∨ 65536 < w.y.length + s.size then { w with g := true } else ⟨.tptr 0 0 58, w.y ++ s.data.toList, false⟩
structure W.ok (w : W) : Prop where
  x : frw w.x
  y : w.y.length ≤ 65536
theorem W.toC {w : W} (h : w.ok) : w.c.map (AM.toC 0) = w.c := by
  obtain ⟨x, y, g⟩ := w
  rcases h.x with h | h <;> (simp only at h; subst h; rfl)
theorem W.fromC {w : W} (h : w.ok) : w.c.map (AM.fromC 0) = w.c := by
  obtain ⟨x, y, g⟩ := w
  rcases h.x with h | h <;> (simp only at h; subst h; rfl)
theorem W.killP {w : W} (h : w.ok) {p : Nat} (hp : (3 == p) = false) : w.c.map (AM.killP p) = w.c := by
  obtain ⟨x, y, g⟩ := w
  have e : AM.killP p (.lst (.own 3 5) 1 (ub y) []) = .lst (.own 3 5) 1 (ub y) [] := by simp only [AM.killP, tagK, hp]; rfl
  rcases h.x with h | h <;> (simp only at h; subst h; simp only [W.c, wl, List.map_cons, List.map_nil, e]; rfl)
theorem W.lnP {w : W} (h : w.ok) {p : Nat} (hp : (3 == p) = false) : w.c.map (AM.lnP p) = w.c := by
  obtain ⟨x, y, g⟩ := w
  have e : AM.lnP p (.lst (.own 3 5) 1 (ub y) []) = .lst (.own 3 5) 1 (ub y) [] := by simp only [AM.lnP, hp]; rfl
  rcases h.x with h | h <;> (simp only at h; subst h; simp only [W.c, wl, List.map_cons, List.map_nil, e]; rfl)
theorem W.renK {w : W} (h : w.ok) {q p : Nat} (hp : (3 == p) = false) (hq : (3 == q) = false) : w.c.map (AM.renK q p) = w.c := by
  obtain ⟨x, y, g⟩ := w
  have e : AM.renK q p (.lst (.own 3 5) 1 (ub y) []) = .lst (.own 3 5) 1 (ub y) [] := by simp only [AM.renK, AM.killP, tagK, hp, Bool.false_eq_true, if_false, renP, tagR, hq]
  rcases h.x with h | h <;> (simp only at h; subst h; simp only [W.c, wl, List.map_cons, List.map_nil, e]; rfl)
theorem W.to {w : W} (h : w.ok) : leavesTo 1 [(3, 3)] [] w.c w.c := by
  obtain ⟨x, y, g⟩ := w
  rcases h.x with h | h <;> (simp only at h; subst h; simp [W.c, wl, t_lc, leavesTo, leafTo, datL, tagTo, AM.get])
theorem putW_ok {s : ByteArray} {w : W} (h : w.ok) : (putW s w).ok := by
  unfold putW
  split
  · exact ⟨h.x, h.y⟩
  · rename_i h1
    refine ⟨.inr rfl, ?_⟩
    simp only [not_or, Nat.not_lt] at h1
    simpa using h1.2
def putsW : List ByteArray → W → W
  | [], w => w
  | s :: r, w => putsW r (putW s w)
theorem putsW_app (a b : List ByteArray) (w : W) : putsW (a ++ b) w = putsW b (putsW a w) := by
  induction a generalizing w with
  | nil => rfl
  | cons s r ih => exact ih _
theorem putsW_ok : ∀ (l : List ByteArray) {w : W}, w.ok → (putsW l w).ok
  | [], _, h => h
  | s :: r, w, h => putsW_ok r (w := putW s w) (putW_ok h)
theorem putsW_g : ∀ (l : List ByteArray) (w : W), w.g = true → putsW l w = w
  | [], _, _ => rfl
  | s :: r, w, h => by
    have : putW s w = w := by cases w; simp only at h; subst h; simp [putW]
    simp only [putsW, this]; exact putsW_g r w h
theorem r32 (w : W) (hw : w.ok) (s : ByteArray) (hs : s.size ≤ 1073741824) : R X Tryz.prog 32 [.lf (.tptr 0 0 58), .lf (.str s)] [w.c] (.tp []) [(putW s w).c] := by
  obtain ⟨x, y, g⟩ := w
  have hx := hw.x
  have hy := hw.y
  simp only at hx hy
  have w1 : IntKind.i64.wrap ((y.length : Int) + (s.size : Int)) = (y.length : Int) + (s.size : Int) := w64 (by omega) (by omega)
  refine R_i [(3, 3)] [] c32_ok rfl (by simp) ?_
  unfold putW W.c
  cases g
  · simp only [Bool.false_eq_true, false_or]
    rcases hx with rfl | rfl
    all_goals
      simp -implicitDefEqProofs (maxSteps := 2000000) only [c32,↓reduceIte,S0,q_fa,q_nc,St.init,enum,Nat.reduceEqDiff,reduceCtorEq,cond_false,PV.leaves,v_fa_t,v_ld_t,v_nc_t]
      refine pcall_i (r57w _ (by simp [frw, toC]) y false) rfl rfl ?_
      simp -implicitDefEqProofs (maxSteps := 2000000) only [c32,w1,↓reduceIte,S0,q_lns,v_gtr,o_st,v_stCK,o_lns,v_lns,Nat.reduceEqDiff,Nat.reduceAdd,reduceCtorEq,cond_false,outV,ownsV,owns1,ownL,PV.leaves,List.all_cons,List.all_nil,PV.cells,cellL,fillL,Nat.reduceMul,Nat.le_refl,List.take_zero,List.take_succ_cons,List.drop_succ_cons,List.drop_nil,st_b1,Nat.lt_add_one,true_or,or_true,ta_s,tc_np,tc_t,fc_np,fc_lo,fc_t,kl_np,v_fa_t,v_st_t,v_nc_t,isC,cplc,Nat.reduceMod,Nat.reduceDiv,one_0]
      with_reducible refine ite_pr (fun h1 => ?_) (fun h1 => ?_)
      · rw [if_pos (by omega)]
        trivial
      · rw [if_neg (by omega)]
        refine pcall_i (r58w _ (by simp [frw, toC]) y false s (by omega)) rfl rfl ?_
        simp -implicitDefEqProofs (maxSteps := 2000000) only [c32,↓reduceIte,S0,Nat.reduceAdd,s_ret_n,outV,ownsV,owns1,ownL,List.any_cons,List.any_nil,Bool.or_self,Nat.reduceMul,ol_ni,m_1l,Nat.lt_add_one,true_or,or_true,fc_lo,fc_t,kl_np,t_tr,isC,cplc,Nat.reduceMod,Nat.reduceDiv,one_0]
  · rcases hx with rfl | rfl
    all_goals
      simp only [true_or, if_true]
      simp -implicitDefEqProofs (maxSteps := 2000000) only [c32,↓reduceIte,S0,o_st,v_stCK,St.init,enum,Nat.reduceEqDiff,Nat.reduceAdd,reduceCtorEq,Bool.not_false,Bool.true_eq_false,t_np,List.all_cons,List.all_nil,PV.cells,cellL,fillL,Nat.le_refl,List.take_zero,List.take_succ_cons,List.drop_succ_cons,List.drop_nil,st_b1,Nat.lt_add_one,true_or,or_true,v_fa_t,v_ld_t,v_st_t,v_nc_t,t_tr,one_0]
end Go.Proofs.YtdoefdmaecaacaaGreatDoor.S
set_option linter.unusedVariables false
set_option linter.unusedSimpArgs false
namespace Go.Proofs.YtdoefdmaecaacaaGreatDoor.S
open Go Go.Proofs.YtdoefdmaecaacaaGreatDoor.AM
variable {X : Cx}
inductive Tr where
  | l0 (x : Nd)
  | l1 (x : Nd) (a : Tr)
  | l2 (x : Nd) (a b : Tr)
def Tr.x : Tr → Nd
  | .l0 x => x
  | .l1 x _ => x
  | .l2 x _ _ => x
def Tr.c : Tr → List L
  | .l0 x => x.c ++ [.lst .ro 1 [] []]
  | .l1 x a => x.c ++ [.lst .ro 1 [[.rp a.c 0]] []]
  | .l2 x a b => x.c ++ [.lst .ro 1 [[.rp a.c 0], [.rp b.c 0]] []]
abbrev Tr.r (t : Tr) : List L := [.rp t.c 0]
def stepT (x : Nd) (st : List Tr) : Option (List Tr) :=
  if arF x.op = 0 then some (.l0 x :: st)
  else if arF x.op = 1 then (match st with
    | a :: r => some (.l1 x a :: r)
    | _ => none)
  else if arF x.op = 2 then (match st with
    | b :: a :: r => some (.l2 x a b :: r)
    | _ => none)
  else none
def buildT : List Nd → List Tr → Option (List Tr)
  | [], st => some st
  | x :: p, st => (stepT x st).bind (buildT p)
abbrev stL (st : List Tr) : List (List L) := st.reverse.map Tr.r
theorem step_len {x : Nd} {st st' : List Tr} (h : stepT x st = some st') : st'.length ≤ st.length + 1 := by
  unfold stepT at h
  split at h
  · cases h; simp
  · split at h
    · split at h
      · cases h; simp
      · cases h
    · split at h
      · split at h
        · cases h; simp only [List.length_cons]; omega
        · cases h
      · cases h
theorem step_cases {x : Nd} {st st' : List Tr} (h : stepT x st = some st') :
    (arF x.op = 0 ∧ st' = .l0 x :: st) ∨ (∃ a r, arF x.op = 1 ∧ st = a :: r ∧ st' = .l1 x a :: r) ∨ (∃ a b r, arF x.op = 2 ∧ st = b :: a :: r ∧ st' = .l2 x a b :: r) := by
  unfold stepT at h
  split at h
  · cases h; exact .inl ⟨‹_›, rfl⟩
  · split at h
    · split at h
      · cases h; exact .inr (.inl ⟨_, _, ‹_›, rfl, rfl⟩)
      · cases h
    · split at h
      · split at h
        · cases h; exact .inr (.inr ⟨_, _, _, ‹_›, rfl, rfl⟩)
        · cases h
      · cases h
theorem r23 (p : List Nd) (sp : List (List L)) (hp : p.length ≤ 1000000000) (t : Tr) (r : List Tr) (hb : buildT p [] = some (r ++ [t])) : R X Tryz.prog 23 [.lf (.lst .ro 7 (p.map Nd.c) sp)] [] (.lf (.rp t.c 0)) [] := by
  refine R_i [] [] c23_ok rfl (by simp) ?_
  simp -implicitDefEqProofs (maxSteps := 2000000) only [c23,↓reduceIte,S0,s_loop,o_len,v_len,St.init,enum,Nat.reduceEqDiff,reduceCtorEq,Nat.reduceMul,kp_lro,e_asg_n,e_asg_np,List.range_zero,plT]
  have hml : (List.map Nd.c p).length = p.length := List.length_map _
  rw [hml]
  intro _
  have key : ∀ (q d : List Nd) (st : List Tr), d ++ q = p → buildT q st = some (r ++ [t]) → st.length ≤ d.length →
      LoopAt X Tryz.prog c23_8 [3, 8, 9, 10] (blkK 0 (seqK X Tryz.prog c23_12 (retS [] [] 0 [RV.t 2] (.lf (.rp t.c 0)) [])))
        { m := 0, tm := [(3, .lf (.lst (.own 384 60) 1 (stL st) [])), (8, .lf (.lst .ro 7 (p.map Nd.c) sp)), (9, .lf (.int .i64 p.length)), (10, .lf (.int .i64 d.length))], ce := [] } := by
    intro q
    induction q with
    | nil =>
      intro d st hd hq hl
      simp only [List.append_nil] at hd
      subst hd
      simp only [buildT, Option.some.injEq] at hq
      subst hq
      have hg : (stL (r ++ [t])) = [.rp t.c 0] :: stL r := by simp [stL]
      have hlt : ¬ (d.length : Int) < d.length := by omega
      intro Z hZ; apply hZ
      have hg0 : ([L.rp t.c 0] :: stL r).getD (Int.toNat 0) [] = [.rp t.c 0] := rfl
      simp -implicitDefEqProofs (maxSteps := 2000000) only [c23,hg,hlt,decide_false,v_ld_e,hg0,↓reduceIte,S0,s_exit,s_seqK_e,s_blkK_e,s_loopK_e,Nat.reduceEqDiff,e_asg_rp,t_rp]
      exact ⟨⟨by decide, by simp⟩, by simp⟩
    | cons x q ih =>
      intro d st hd hq hl
      have hdl : d.length < p.length := by rw [← hd]; simp
      have hlt : (d.length : Int) < p.length := by omega
      obtain ⟨op, n, tx, s0, s1, s2, s3⟩ := x
      have hx : (p.map Nd.c).getD ((d.length : Nat) : Int).toNat [] = [.int .i64 op, .int .i64 n, .str tx, .int .u64 s0, .int .u64 s1, .int .u64 s2, .int .u64 s3] := by
        rw [Int.toNat_natCast, List.getD_eq_getElem?_getD, List.getElem?_map, ← hd]; simp
      have wi : IntKind.i64.wrap ((d.length : Int) + 1) = (((d ++ [(⟨op, n, tx, s0, s1, s2, s3⟩ : Nd)]).length : Nat) : Int) := by rw [w64 (by omega) (by omega)]; simp
      simp only [buildT] at hq
      obtain ⟨st', hs, hq⟩ := Option.bind_eq_some_iff.1 hq
      have ihn := ih (d ++ [(⟨op, n, tx, s0, s1, s2, s3⟩ : Nd)]) st' (by simp [← hd]) hq (by have := step_len hs; simp; omega)
      intro Z hZ; apply hZ
      simp -implicitDefEqProofs (maxSteps := 2000000) only [c23,hlt,decide_true,hx,v_ld_e,wi,↓reduceIte,S0,v_part_t,o_al,o_bx,o_st,v_st_p,v_stCK,o_bd,v_agK,v_bd_n,v_bd_c,o_len,v_len,Nat.reduceEqDiff,Nat.reduceAdd,reduceCtorEq,PV.leaves,List.all_cons,List.all_nil,PV.cells,cellL,fillL,Nat.reduceBEq,Nat.reduceLeDiff,Nat.zero_le,Nat.le_refl,List.take_zero,List.drop_zero,List.take_succ_cons,List.drop_succ_cons,List.drop_nil,List.take_nil,kc_b,kc_i,kc_s,kc_p,kc_l,e_asg_p,st_b,ne_eq,not_false_eq_true,kc_er,v_bx_a]
      have hll : (stL st).length = st.length := by simp [stL]
      rw [hll]
      refine ⟨⟨by omega, by rw [hml]; omega⟩, by rw [hml]; omega, fun _ => wcall_s (r40 op) rfl rfl ?_⟩
      have h1 : st.length ≤ 1000000000 := by omega
      rcases step_cases hs with ⟨ha, rfl⟩ | ⟨a, r', ha, rfl, rfl⟩ | ⟨a, b, r', ha, rfl, rfl⟩
      · simp only at ha
        rw [ha]
        have hw : IntKind.i64.wrap (((st.length : Nat) : Int) - 0) = ((st.length : Nat) : Int) := by (try simp only [List.length_cons] at h1); rw [w64 (by omega) (by omega)]; omega
        have e1 : (((st.length : Nat) : Int)).toNat = st.length := Int.toNat_natCast _
        have h_d : (stL (st)).drop (((st.length : Nat) : Int)).toNat = [] := by rw [e1]; simp [stL]
        have h_t : (stL (st)).take (((st.length : Nat) : Int)).toNat = stL st := by rw [e1]; exact List.take_of_length_le (by simp [stL])
        have hfin : stL st ++ [[.rp (Tr.c (.l0 ⟨op, n, tx, s0, s1, s2, s3⟩)) 0]] = stL ((.l0 ⟨op, n, tx, s0, s1, s2, s3⟩) :: st) := by simp [stL, Tr.r]
        have hle : st.length ≤ (stL (st)).length := by rw [hll]; exact Nat.le_refl _
        simp -implicitDefEqProofs (maxSteps := 2000000) only [c23,hw,h_d,h_t,↓reduceIte,S0,v_sub,o_st,v_st_p,v_stCK,v_nc_p,o_app,v_app_n,o_sll,v_sll_b,v_sll_c,Option.map_some,Option.map_none,Nat.reduceEqDiff,Nat.reduceAdd,Bool.not_false,St.clr,outV,ownsV,owns1,ownL,List.all_cons,List.all_nil,PV.cells,cellL,fillL,Nat.reduceMul,Nat.reduceBEq,Nat.zero_le,Nat.le_refl,List.take_zero,List.take_succ_cons,List.drop_succ_cons,List.drop_nil,kp_s,kp_p,kp_lro,kp_lnl,rk_lnl,kp_lo,st_lo,plT,plC,or_true,s_gdq,s_gqn,s_gqc,s_gqK,s_gqE,s_gq1,s_gq2,s_gqF,s_gqT,pv_p,sv_l,lk_mv,lk_fa,ns_fa,lk_nc,ns_nc,lk_ld,ns_app,o_bsf]
        refine ⟨rfl, ⟨by omega, by rw [e1]; exact hle⟩, ?_⟩
        first
          | refine ⟨⟨by omega, by rw [e1]; exact hle⟩, ?_⟩
          | refine ⟨by simp, ⟨by omega, by rw [e1]; exact hle⟩, ?_⟩
          | refine ⟨by simp, by simp, ⟨by omega, by rw [e1]; exact hle⟩, ?_⟩
        refine wbsf_f [16] ?_
        simp -implicitDefEqProofs (maxSteps := 2000000) only [c23,hw,h_d,h_t,wi,↓reduceIte,S0,v_bsK,v_lit_n,v_lit_c,o_app,v_app_o,Nat.reduceEqDiff,reduceCtorEq,Bool.or_false,List.all_cons,List.all_nil,PV.cells,datL,Nat.reduceMul,Nat.reduceBEq,Nat.reduceLeDiff,Nat.zero_le,kp_s,ro_i,ro_s,kp_lro,ro_p,ro_lro,kp_lo,ro_lo,dw_lo,List.range_zero,plT,lit_n,lit_c,List.reduceReplicate,List.set_cons_zero,List.length_append,Nat.lt_add_one,or_false,kp_rp,rk_rp,rl_rp,fz_i,fz_s,fz_p,fz_lr,fz_lo,fD_i,fD_s,fD_lr,dw_rp0,e_frz,wfd_n,wfd_c,wfd_o,wfd_p,wfd_q,s_bsC,kp_lk,rk_lk,lp_i,lp_s,lp_lr,lp_lo,lp_rp]
        have hl2 : (stL st).length = st.length := by simp [stL]
        refine ⟨by (try simp only [List.length_cons] at h1); omega, ?_⟩
        have hz := ihn Z hZ
        rw [← hfin] at hz
        simp only [List.length_append, List.length_cons, List.length_nil, Nat.zero_add, Tr.c, List.cons_append, List.nil_append] at hz
        exact hz
      · simp only at ha
        rw [ha]
        have hw : IntKind.i64.wrap (((r'.length + 1 : Nat) : Int) - 1) = ((r'.length : Nat) : Int) := by (try simp only [List.length_cons] at h1); rw [w64 (by omega) (by omega)]; omega
        have e1 : (((r'.length : Nat) : Int)).toNat = r'.length := Int.toNat_natCast _
        have h_d : (stL (a :: r')).drop (((r'.length : Nat) : Int)).toNat = [[.rp a.c 0]] := by rw [e1]; simp [stL]
        have h_t : (stL (a :: r')).take (((r'.length : Nat) : Int)).toNat = stL r' := by rw [e1]; simp [stL]
        have hfin : stL r' ++ [[.rp (Tr.c (.l1 ⟨op, n, tx, s0, s1, s2, s3⟩ a)) 0]] = stL ((.l1 ⟨op, n, tx, s0, s1, s2, s3⟩ a) :: r') := by simp [stL, Tr.r]
        have hle : r'.length ≤ (stL (a :: r')).length := by rw [hll]; simp only [List.length_cons]; omega
        simp -implicitDefEqProofs (maxSteps := 2000000) only [c23,hw,h_d,h_t,↓reduceIte,S0,v_sub,o_st,v_st_p,v_stCK,v_nc_p,o_app,v_app_n,o_sll,v_sll_b,v_sll_c,Option.map_some,Option.map_none,Nat.reduceEqDiff,Nat.reduceAdd,reduceCtorEq,Bool.not_false,St.clr,outV,ownsV,owns1,ownL,Bool.or_false,List.all_cons,List.all_nil,PV.cells,cellL,fillL,Nat.reduceMul,Nat.reduceBEq,Nat.reduceLeDiff,Nat.le_refl,List.take_zero,List.take_succ_cons,List.drop_succ_cons,List.drop_nil,kp_s,kp_p,kp_lro,kp_lnl,rk_lnl,kp_lo,st_lo,plT,plC,or_false,s_gdq,s_gqn,s_gqc,s_gqK,s_gqE,s_gq1,s_gq2,s_gqF,s_gqT,pv_p,sv_l,lk_mv,lk_fa,ns_fa,lk_nc,ns_nc,lk_ld,ns_app,o_bsf]
        refine ⟨rfl, ⟨by omega, by rw [e1]; exact hle⟩, ?_⟩
        first
          | refine ⟨⟨by omega, by rw [e1]; exact hle⟩, ?_⟩
          | refine ⟨by simp, ⟨by omega, by rw [e1]; exact hle⟩, ?_⟩
          | refine ⟨by simp, by simp, ⟨by omega, by rw [e1]; exact hle⟩, ?_⟩
        refine wbsf_f [16] ?_
        simp -implicitDefEqProofs (maxSteps := 2000000) only [c23,hw,h_d,h_t,wi,↓reduceIte,S0,v_bsK,v_lit_n,v_lit_c,o_app,v_app_o,Nat.reduceEqDiff,reduceCtorEq,Bool.or_false,List.all_cons,List.all_nil,PV.cells,datL,Nat.reduceMul,Nat.reduceBEq,Nat.reduceLeDiff,Nat.zero_le,kp_s,ro_i,ro_s,kp_lro,ro_p,ro_lro,kp_lo,ro_lo,dw_lo,List.range_zero,plT,lit_n,lit_c,List.reduceReplicate,List.set_cons_zero,List.length_append,Nat.lt_add_one,or_false,kp_rp,rk_rp,rl_rp,fz_i,fz_s,fz_p,fz_lr,fz_lo,fD_i,fD_s,fD_lr,dw_rp0,e_frz,wfd_n,wfd_c,wfd_o,wfd_p,wfd_q,s_bsC,kp_lk,rk_lk,lp_i,lp_s,lp_lr,lp_lo,lp_rp]
        have hl2 : (stL r').length = r'.length := by simp [stL]
        refine ⟨by (try simp only [List.length_cons] at h1); omega, ?_⟩
        have hz := ihn Z hZ
        rw [← hfin] at hz
        simp only [List.length_append, List.length_cons, List.length_nil, Nat.zero_add, Tr.c, List.cons_append, List.nil_append] at hz
        exact hz
      · simp only at ha
        rw [ha]
        have hw : IntKind.i64.wrap (((r'.length + 1 + 1 : Nat) : Int) - 2) = ((r'.length : Nat) : Int) := by (try simp only [List.length_cons] at h1); rw [w64 (by omega) (by omega)]; omega
        have e1 : (((r'.length : Nat) : Int)).toNat = r'.length := Int.toNat_natCast _
        have h_d : (stL (b :: a :: r')).drop (((r'.length : Nat) : Int)).toNat = [[.rp a.c 0], [.rp b.c 0]] := by rw [e1]; simp [stL]
        have h_t : (stL (b :: a :: r')).take (((r'.length : Nat) : Int)).toNat = stL r' := by rw [e1]; simp [stL]
        have hfin : stL r' ++ [[.rp (Tr.c (.l2 ⟨op, n, tx, s0, s1, s2, s3⟩ a b)) 0]] = stL ((.l2 ⟨op, n, tx, s0, s1, s2, s3⟩ a b) :: r') := by simp [stL, Tr.r]
        have hle : r'.length ≤ (stL (b :: a :: r')).length := by rw [hll]; simp only [List.length_cons]; omega
        simp -implicitDefEqProofs (maxSteps := 2000000) only [c23,hw,h_d,h_t,↓reduceIte,S0,v_sub,o_st,v_st_p,v_stCK,v_nc_p,o_app,v_app_n,o_sll,v_sll_b,v_sll_c,Option.map_some,Option.map_none,Nat.reduceEqDiff,Nat.reduceAdd,reduceCtorEq,Bool.not_false,St.clr,outV,ownsV,owns1,ownL,Bool.or_false,List.all_cons,List.all_nil,PV.cells,cellL,fillL,Nat.reduceMul,Nat.reduceBEq,Nat.reduceLeDiff,Nat.le_refl,List.take_zero,List.take_succ_cons,List.drop_succ_cons,List.drop_nil,kp_s,kp_p,kp_lro,kp_lnl,rk_lnl,kp_lo,st_lo,plT,plC,or_false,s_gdq,s_gqn,s_gqc,s_gqK,s_gqE,s_gq1,s_gq2,s_gqF,s_gqT,pv_p,sv_l,lk_mv,lk_fa,ns_fa,lk_nc,ns_nc,lk_ld,ns_app,o_bsf]
        refine ⟨rfl, ⟨by omega, by rw [e1]; exact hle⟩, ?_⟩
        first
          | refine ⟨⟨by omega, by rw [e1]; exact hle⟩, ?_⟩
          | refine ⟨by simp, ⟨by omega, by rw [e1]; exact hle⟩, ?_⟩
          | refine ⟨by simp, by simp, ⟨by omega, by rw [e1]; exact hle⟩, ?_⟩
        refine wbsf_f [16] ?_
        simp -implicitDefEqProofs (maxSteps := 2000000) only [c23,hw,h_d,h_t,wi,↓reduceIte,S0,v_bsK,v_lit_n,v_lit_c,o_app,v_app_o,Nat.reduceEqDiff,reduceCtorEq,Bool.or_false,List.all_cons,List.all_nil,PV.cells,datL,Nat.reduceMul,Nat.reduceBEq,Nat.reduceLeDiff,Nat.zero_le,kp_s,ro_i,ro_s,kp_lro,ro_p,ro_lro,kp_lo,ro_lo,dw_lo,List.range_zero,plT,lit_n,lit_c,List.reduceReplicate,List.set_cons_zero,List.length_append,Nat.lt_add_one,or_false,kp_rp,rk_rp,rl_rp,fz_i,fz_s,fz_p,fz_lr,fz_lo,fD_i,fD_s,fD_lr,dw_rp0,e_frz,wfd_n,wfd_c,wfd_o,wfd_p,wfd_q,s_bsC,kp_lk,rk_lk,lp_i,lp_s,lp_lr,lp_lo,lp_rp]
        have hl2 : (stL r').length = r'.length := by simp [stL]
        refine ⟨by (try simp only [List.length_cons] at h1); omega, ?_⟩
        have hz := ihn Z hZ
        rw [← hfin] at hz
        simp only [List.length_append, List.length_cons, List.length_nil, Nat.zero_add, Tr.c, List.cons_append, List.nil_append] at hz
        exact hz
  exact key p [] [] rfl hb (by simp)
end Go.Proofs.YtdoefdmaecaacaaGreatDoor.S
