/- Contracts, part Z1. -/
import Derived.Test.YthcpaohmajjopaaGreatDoorProg
import Derived.Test.YthcpaohmajjopaaGreatDoorAmLeaf2
import Derived.Test.YthcpaohmajjopaaGreatDoorAmOpen
set_option maxRecDepth 100000
namespace Go.Proofs.YthcpaohmajjopaaGreatDoor.I
open Go Go.Proofs.YthcpaohmajjopaaGreatDoor.AM
abbrev c3_0:AC:=.seq (.ops 0 [⟨some 25,.call 7 [],none⟩,⟨some 26,.mv (.t 25),none⟩,⟨some 27,.mv (.t 3),some (26,true)⟩,⟨some 28,.bin .eql (.t 27) (.k (.lf (.str ⟨#[]⟩))),some (26,true)⟩,⟨some 29,.pk (.t 26) (.t 28) (.k (.lf (.bool false))),none⟩,⟨some 30,.mv (.t 29),none⟩,⟨some 31,.mv (.t 6),some (30,true)⟩,⟨some 32,.mv (.t 4),some (30,true)⟩,⟨some 33,.bin .eql (.t 31) (.t 32),some (30,true)⟩,⟨some 34,.mv (.t 33),some (30,true)⟩,⟨some 35,.mv (.t 6),some (34,false)⟩,⟨some 36,.bin .eql (.t 35) (.k (.lf (.int .i64 0))),some (34,false)⟩,⟨some 37,.mv (.t 36),some (34,false)⟩,⟨some 38,.mv (.t 5),some (37,true)⟩,⟨some 39,.bin .eql (.t 38) (.k (.lf (.int .i64 0))),some (37,true)⟩,⟨some 40,.pk (.t 37) (.t 39) (.k (.lf (.bool false))),some (34,false)⟩,⟨some 41,.mv (.t 40),some (34,false)⟩,⟨some 42,.mv (.t 4),some (41,true)⟩,⟨some 43,.bin .eql (.t 42) (.k (.lf (.int .i64 2))),some (41,true)⟩,⟨some 44,.pk (.t 41) (.t 43) (.k (.lf (.bool false))),some (34,false)⟩,⟨some 45,.pk (.t 34) (.k (.lf (.bool true))) (.t 44),some (30,true)⟩,⟨some 46,.pk (.t 30) (.t 45) (.k (.lf (.bool false))),none⟩,⟨some 2,.as 0 0 (.t 46),none⟩] [2]) .ret
abbrev c3_1:AC:=.seq (.ops 0 [⟨some 21,.mv (.t 0),none⟩,⟨some 22,.call 6 [(.t 21)],none⟩,⟨some 20,.mv (.t 22),none⟩,⟨some 23,.ext (.t 20) 0,none⟩,⟨some 24,.ext (.t 20) 1,none⟩,⟨some 5,.as 0 0 (.t 23),none⟩,⟨some 6,.as 0 0 (.t 24),none⟩] [3,4,5,6]) c3_0
abbrev c3_2:AC:=.cond (.t 19) c3_1 .skip
abbrev c3_3:AC:=.seq (.ops 0 [⟨some 18,.mv (.t 4),none⟩,⟨some 19,.bin .neq (.t 18) (.k (.lf (.int .i64 0))),none⟩] [0,3,4,19]) c3_2
abbrev c3_4:AC:=.seq (.ops 0 [⟨some 2,.as 0 0 (.k (.lf (.bool false))),none⟩] [2]) .ret
abbrev c3_5:AC:=.cond (.t 60) c3_4 .skip
abbrev c3_6:AC:=.seq (.ops 0 [⟨some 52,.ld (.t 8) 2 true,none⟩,⟨some 53,.bd [.int .i64 0,.int .i64 0] [],none⟩,⟨some 54,.beq true [2,2] (.t 52) (.t 53),none⟩,⟨some 55,.mv (.t 54),none⟩,⟨some 56,.mv (.t 7),some (55,false)⟩,⟨some 57,.mv (.t 0),some (55,false)⟩,⟨some 58,.call 9 [(.t 56),(.t 57)],some (55,false)⟩,⟨some 59,.un .not (.t 58),some (55,false)⟩,⟨some 60,.pk (.t 55) (.k (.lf (.bool true))) (.t 59),none⟩] [0,60]) c3_5
abbrev c3_7:AC:=.seq (.ops 0 [⟨some 68,.mv (.t 10),none⟩,⟨some 69,.bin .eql (.t 68) (.k (.lf (.int .i64 2))),none⟩,⟨some 70,.mv (.t 69),none⟩,⟨some 71,.mv (.t 9),some (70,true)⟩,⟨some 72,.bin .eql (.t 71) (.k (.lf (.str ⟨#[]⟩))),some (70,true)⟩,⟨some 73,.pk (.t 70) (.t 72) (.k (.lf (.bool false))),none⟩,⟨some 74,.mv (.t 73),none⟩,⟨some 75,.call 7 [],some (74,true)⟩,⟨some 76,.pk (.t 74) (.t 75) (.k (.lf (.bool false))),none⟩,⟨some 2,.as 0 0 (.t 76),none⟩] [2]) .ret
abbrev c3_8:AC:=.cond (.t 67) c3_7 .skip
abbrev c3_9:AC:=.seq (.ops 0 [⟨some 66,.mv (.t 10),none⟩,⟨some 67,.bin .neq (.t 66) (.k (.lf (.int .i64 0))),none⟩] [0,9,10,67]) c3_8
abbrev c3_10:AC:=.seq (.ops 0 [⟨some 82,.ld (.t 12) 2 true,none⟩,⟨some 83,.bd [.int .i64 0,.int .i64 0] [],none⟩,⟨some 84,.beq false [2,2] (.t 82) (.t 83),none⟩,⟨some 85,.mv (.t 84),none⟩,⟨some 86,.mv (.t 11),some (85,true)⟩,⟨some 87,.mv (.t 0),some (85,true)⟩,⟨some 88,.call 9 [(.t 86),(.t 87)],some (85,true)⟩,⟨some 89,.pk (.t 85) (.t 88) (.k (.lf (.bool false))),none⟩,⟨some 90,.mv (.t 89),none⟩,⟨some 91,.call 7 [],some (90,true)⟩,⟨some 92,.pk (.t 90) (.t 91) (.k (.lf (.bool false))),none⟩,⟨some 2,.as 0 0 (.t 92),none⟩] [2]) .ret
abbrev c3_11:AC:=.seq (.ops 0 [⟨some 78,.mv (.t 9),none⟩,⟨some 79,.call 11 [(.t 78)],none⟩,⟨some 77,.mv (.t 79),none⟩,⟨some 80,.ext (.t 77) 0,none⟩,⟨some 81,.ext (.t 77) 1,none⟩,⟨some 12,.al [.int .i64 0,.int .i64 0],none⟩,⟨some 11,.as 42 9 (.t 80),none⟩,⟨none,.st (.t 12) (.t 81) 2,none⟩] [0,11,12]) c3_10
abbrev c3_12:AC:=.seq c3_9 c3_11
abbrev c3_13:AC:=.seq (.ops 0 [⟨some 62,.mv (.t 0),none⟩,⟨some 63,.call 10 [(.t 62)],none⟩,⟨some 61,.mv (.t 63),none⟩,⟨some 64,.ext (.t 61) 0,none⟩,⟨some 65,.ext (.t 61) 1,none⟩,⟨some 9,.as 0 0 (.t 64),none⟩,⟨some 10,.as 0 0 (.t 65),none⟩] [0,9,10]) c3_12
abbrev c3_14:AC:=.seq c3_6 c3_13
abbrev c3_15:AC:=.seq (.ops 0 [⟨some 48,.mv (.t 3),none⟩,⟨some 49,.call 8 [(.t 48)],none⟩,⟨some 47,.mv (.t 49),none⟩,⟨some 50,.ext (.t 47) 0,none⟩,⟨some 51,.ext (.t 47) 1,none⟩,⟨some 8,.al [.int .i64 0,.int .i64 0],none⟩,⟨some 7,.as 42 9 (.t 50),none⟩,⟨none,.st (.t 8) (.t 51) 2,none⟩] [0,7,8]) c3_14
abbrev c3_16:AC:=.seq c3_3 c3_15
abbrev c3_17:AC:=.seq (.ops 0 [⟨some 14,.mv (.t 0),none⟩,⟨some 15,.call 5 [(.t 14)],none⟩,⟨some 13,.mv (.t 15),none⟩,⟨some 16,.ext (.t 13) 0,none⟩,⟨some 17,.ext (.t 13) 1,none⟩,⟨some 3,.as 0 0 (.t 16),none⟩,⟨some 4,.as 0 0 (.t 17),none⟩] [0,3,4]) c3_16
abbrev c3_18:AC:=.seq (.ops 0 [⟨some 2,.as 0 0 (.k (.lf (.bool false))),none⟩] [0]) c3_17
abbrev c3:AC:=c3_18
theorem c3_ok:compileFn Tryz.prog 3 = some (93,AC.strip c3,[.t 2]):=by kernel_rfl
abbrev c4_0:AC:=.seq (.ops 0 [⟨some 2,.as 0 0 (.k (.lf (.bool false))),none⟩] [2]) .ret
abbrev c4_1:AC:=.cond (.t 30) c4_0 .skip
abbrev c4_2:AC:=.seq (.ops 0 [⟨some 24,.mv (.t 6),none⟩,⟨some 25,.bin .neq (.t 24) (.k (.lf (.int .i64 0))),none⟩,⟨some 26,.mv (.t 25),none⟩,⟨some 27,.mv (.t 5),some (26,false)⟩,⟨some 28,.mv (.t 0),some (26,false)⟩,⟨some 29,.bin .neq (.t 27) (.t 28),some (26,false)⟩,⟨some 30,.pk (.t 26) (.k (.lf (.bool true))) (.t 29),none⟩] [0,30]) c4_1
abbrev c4_3:AC:=.seq (.ops 0 [⟨some 20,.mv (.t 3),none⟩,⟨some 21,.call 5 [(.t 20)],none⟩,⟨some 19,.mv (.t 21),none⟩,⟨some 22,.ext (.t 19) 0,none⟩,⟨some 23,.ext (.t 19) 1,none⟩,⟨some 5,.as 0 0 (.t 22),none⟩,⟨some 6,.as 0 0 (.t 23),none⟩] [0,5,6]) c4_2
abbrev c4_4:AC:=.cond (.t 18) c4_3 .skip
abbrev c4_5:AC:=.seq (.ops 0 [⟨some 16,.fa (.t 4) 1,none⟩,⟨some 17,.ld (.t 16) 1 false,none⟩,⟨some 18,.bin .eql (.t 17) (.k (.lf (.int .i64 0))),none⟩] [0,3,18]) c4_4
abbrev c4_6:AC:=.seq (.ops 0 [⟨some 12,.mv (.t 0),none⟩,⟨some 13,.call 8 [(.t 12)],none⟩,⟨some 11,.mv (.t 13),none⟩,⟨some 14,.ext (.t 11) 0,none⟩,⟨some 15,.ext (.t 11) 1,none⟩,⟨some 4,.al [.int .i64 0,.int .i64 0],none⟩,⟨some 3,.as 42 9 (.t 14),none⟩,⟨none,.st (.t 4) (.t 15) 2,none⟩] [0,3,4]) c4_5
abbrev c4_7:AC:=.seq (.ops 0 [⟨some 2,.as 0 0 (.k (.lf (.bool false))),none⟩] [2]) .ret
abbrev c4_8:AC:=.cond (.t 50) c4_7 .skip
abbrev c4_9:AC:=.seq (.ops 0 [⟨some 44,.mv (.t 10),none⟩,⟨some 45,.bin .neq (.t 44) (.k (.lf (.int .i64 0))),none⟩,⟨some 46,.mv (.t 45),none⟩,⟨some 47,.mv (.t 9),some (46,false)⟩,⟨some 48,.mv (.t 0),some (46,false)⟩,⟨some 49,.bin .neq (.t 47) (.t 48),some (46,false)⟩,⟨some 50,.pk (.t 46) (.k (.lf (.bool true))) (.t 49),none⟩] [50]) c4_8
abbrev c4_10:AC:=.seq (.ops 0 [⟨some 40,.mv (.t 7),none⟩,⟨some 41,.call 10 [(.t 40)],none⟩,⟨some 39,.mv (.t 41),none⟩,⟨some 42,.ext (.t 39) 0,none⟩,⟨some 43,.ext (.t 39) 1,none⟩,⟨some 9,.as 0 0 (.t 42),none⟩,⟨some 10,.as 0 0 (.t 43),none⟩] [0,9,10]) c4_9
abbrev c4_11:AC:=.cond (.t 38) c4_10 .skip
abbrev c4_12:AC:=.seq (.ops 0 [⟨some 36,.fa (.t 8) 1,none⟩,⟨some 37,.ld (.t 36) 1 false,none⟩,⟨some 38,.bin .eql (.t 37) (.k (.lf (.int .i64 0))),none⟩] [0,7,38]) c4_11
abbrev c4_13:AC:=.seq (.ops 0 [⟨some 32,.mv (.t 0),none⟩,⟨some 33,.call 11 [(.t 32)],none⟩,⟨some 31,.mv (.t 33),none⟩,⟨some 34,.ext (.t 31) 0,none⟩,⟨some 35,.ext (.t 31) 1,none⟩,⟨some 8,.al [.int .i64 0,.int .i64 0],none⟩,⟨some 7,.as 42 9 (.t 34),none⟩,⟨none,.st (.t 8) (.t 35) 2,none⟩] [0,7,8]) c4_12
abbrev c4_14:AC:=.seq (.ops 0 [⟨some 51,.call 7 [],none⟩,⟨some 2,.as 0 0 (.t 51),none⟩] [2]) .ret
abbrev c4_15:AC:=.seq c4_13 c4_14
abbrev c4_16:AC:=.seq c4_6 c4_15
abbrev c4_17:AC:=.seq (.ops 0 [⟨some 2,.as 0 0 (.k (.lf (.bool false))),none⟩] [0]) c4_16
abbrev c4:AC:=c4_17
abbrev c11_0:AC:=.seq (.ops 0 [⟨some 15,.bd [.int .i64 0,.int .i64 0] [(1,1,(.k (.lf (.int .i64 2))))],none⟩,⟨some 2,.as 42 9 (.k (.lf (.lst .nl 9 [] []))),none⟩,⟨none,.st (.t 3) (.t 15) 2,none⟩] [2,3]) .ret
abbrev c11_1:AC:=.cond (.t 14) c11_0 .skip
abbrev c11_2:AC:=.seq (.ops 0 [⟨some 12,.mv (.t 0),none⟩,⟨some 13,.lns (.t 12),none⟩,⟨some 14,.bin .gtr (.t 13) (.k (.lf (.int .i64 65536))),none⟩] [0,3,14]) c11_1
abbrev c11_3:AC:=.cond (.t 19) .skip (.exit 0)
abbrev c11_4:AC:=.seq (.ops 0 [⟨some 16,.mv (.t 6),none⟩,⟨some 17,.mv (.t 0),none⟩,⟨some 18,.lns (.t 17),none⟩,⟨some 19,.bin .lss (.t 16) (.t 18),none⟩] [0,3,4,5,6,19]) c11_3
abbrev c11_5:AC:=.seq (.ops 0 [⟨some 41,.mv (.t 6),none⟩,⟨some 42,.bd [.int .i64 0,.int .i64 0] [(0,1,(.t 41)),(1,1,(.k (.lf (.int .i64 6))))],none⟩,⟨some 2,.as 42 9 (.k (.lf (.lst .nl 9 [] []))),none⟩,⟨none,.st (.t 3) (.t 42) 2,none⟩] [2,3]) .ret
abbrev c11_6:AC:=.cond (.t 40) c11_5 .skip
abbrev c11_7:AC:=.seq (.ops 0 [⟨some 35,.mv (.t 11),none⟩,⟨some 36,.un .not (.t 35),none⟩,⟨some 37,.mv (.t 36),none⟩,⟨some 38,.mv (.t 9),some (37,false)⟩,⟨some 39,.un .not (.t 38),some (37,false)⟩,⟨some 40,.pk (.t 37) (.k (.lf (.bool true))) (.t 39),none⟩] [0,3,4,5,6,7,10,40]) c11_6
abbrev c11_8:AC:=.seq (.ops 0 [⟨some 43,.mv (.t 4),none⟩,⟨some 44,.ld (.t 10) 9 true,none⟩,⟨some 45,.bs 42 9 1 [.int .i64 0,.int .i64 0,.int .i64 0,.int .i64 0,.str ⟨#[]⟩,.int .u64 0,.int .u64 0,.int .u64 0,.int .u64 0] [(0,(.t 44))],none⟩,⟨some 46,.app 42 9 80 (.t 43) (.t 45),none⟩,⟨some 47,.mv (.t 5),none⟩,⟨some 48,.mv (.t 6),none⟩,⟨some 49,.bs 3 1 1 [.int .i64 0] [(0,(.t 48))],none⟩,⟨some 50,.app 3 1 8 (.t 47) (.t 49),none⟩,⟨some 4,.as 42 9 (.t 46),none⟩,⟨some 5,.as 3 1 (.t 50),none⟩] [0,3,4,5,6,7]) (.ops 0 [⟨some 51,.mv (.t 6),none⟩,⟨some 52,.mv (.t 7),none⟩,⟨some 53,.lns (.t 52),none⟩,⟨some 54,.bin .add (.t 53) (.k (.lf (.int .i64 1))),none⟩,⟨some 55,.bin .add (.t 51) (.t 54),none⟩,⟨some 6,.as 0 0 (.t 55),none⟩] [0,3,4,5,6])
abbrev c11_9:AC:=.seq c11_7 c11_8
abbrev c11_10:AC:=.seq (.ops 0 [⟨some 29,.mv (.t 7),none⟩,⟨some 30,.mv (.t 4),none⟩,⟨some 31,.len (.t 30),none⟩,⟨some 32,.call 25 [(.t 29),(.t 31)],none⟩,⟨some 28,.mv (.t 32),none⟩,⟨some 33,.ext (.t 28) 0,none⟩,⟨some 34,.ext (.t 28) 1,none⟩,⟨some 10,.al [.int .i64 0,.int .i64 0,.int .i64 0,.int .i64 0,.str ⟨#[]⟩,.int .u64 0,.int .u64 0,.int .u64 0,.int .u64 0],none⟩,⟨none,.st (.t 10) (.t 33) 9,none⟩,⟨some 11,.as 0 0 (.t 34),none⟩] [0,3,4,5,6,7,9,10,11]) c11_9
abbrev c11_11:AC:=.seq (.ops 0 [⟨some 21,.mv (.t 0),none⟩,⟨some 22,.mv (.t 6),none⟩,⟨some 23,.sls (.t 21) (some (.t 22)) none,none⟩,⟨some 24,.call 24 [(.t 23),(.k (.lf (.str ⟨#[10]⟩)))],none⟩,⟨some 20,.mv (.t 24),none⟩,⟨some 25,.ext (.t 20) 0,none⟩,⟨some 26,.ext (.t 20) 1,none⟩,⟨some 27,.ext (.t 20) 2,none⟩,⟨some 7,.as 0 0 (.t 25),none⟩,⟨some 8,.as 0 0 (.t 26),none⟩,⟨some 9,.as 0 0 (.t 27),none⟩] [0,3,4,5,6,7,9]) c11_10
abbrev c11_12:AC:=.block 1 c11_11
abbrev c11_13:AC:=.seq c11_4 c11_12
abbrev c11_14:AC:=.loop c11_13 [0,3,4,5,6]
abbrev c11_15:AC:=.block 0 c11_14
abbrev c11_16:AC:=.seq (.ops 0 [⟨some 6,.as 0 0 (.k (.lf (.int .i64 0))),none⟩] [0,3,4,5,6]) c11_15
abbrev c11_17:AC:=.seq (.ops 0 [⟨some 56,.mv (.t 4),none⟩,⟨some 57,.mv (.t 5),none⟩,⟨some 58,.call 18 [(.t 56),(.t 57)],none⟩,⟨some 59,.ext (.t 58) 0,none⟩,⟨some 60,.ext (.t 58) 1,none⟩,⟨some 2,.as 42 9 (.t 59),none⟩,⟨none,.st (.t 3) (.t 60) 2,none⟩] [2,3]) .ret
abbrev c11_18:AC:=.seq c11_16 c11_17
abbrev c11_19:AC:=.seq (.ops 0 [⟨some 5,.as 3 1 (.k (.lf (.lst .nl 1 [] []))),none⟩] [0,3,4,5]) c11_18
abbrev c11_20:AC:=.seq (.ops 0 [⟨some 4,.as 42 9 (.k (.lf (.lst .nl 9 [] []))),none⟩] [0,3,4]) c11_19
abbrev c11_21:AC:=.seq c11_2 c11_20
abbrev c11_22:AC:=.seq (.ops 0 [⟨some 2,.as 42 9 (.k (.lf (.lst .nl 9 [] []))),none⟩,⟨some 3,.al [.int .i64 0,.int .i64 0],none⟩] [0,3]) c11_21
abbrev c11:AC:=c11_22
theorem c11_ok:compileFn Tryz.prog 11 = some (61,AC.strip c11,[.t 2,.c 3 2 true]):=by kernel_rfl
abbrev c25_0:AC:=.seq (.ops 0 [⟨some 38,.bd [.int .i64 0,.int .i64 0,.int .i64 0,.int .i64 0,.str ⟨#[]⟩,.int .u64 0,.int .u64 0,.int .u64 0,.int .u64 0] [],none⟩,⟨none,.st (.t 4) (.t 38) 9,none⟩,⟨some 5,.as 0 0 (.k (.lf (.bool false))),none⟩] [4,5]) .ret
abbrev c25_1:AC:=.cond (.t 37) c25_0 .skip
abbrev c25_2:AC:=.seq (.ops 0 [⟨some 30,.mv (.t 11),none⟩,⟨some 31,.bin .neq (.t 30) (.k (.lf (.int .i64 0))),none⟩,⟨some 32,.mv (.t 31),none⟩,⟨some 33,.mv (.t 6),some (32,false)⟩,⟨some 34,.mv (.t 1),some (32,false)⟩,⟨some 35,.call 30 [(.t 34)],some (32,false)⟩,⟨some 36,.bin .neq (.t 33) (.t 35),some (32,false)⟩,⟨some 37,.pk (.t 32) (.k (.lf (.bool true))) (.t 36),none⟩] [0,1,4,9,10,37]) c25_1
abbrev c25_3:AC:=.seq (.ops 0 [⟨some 45,.mv (.t 9),none⟩,⟨some 46,.mv (.t 9),none⟩,⟨some 47,.nc (.t 46),none⟩,⟨some 48,.fa (.t 47) 1,none⟩,⟨some 49,.ld (.t 48) 1 false,none⟩,⟨some 50,.mv (.t 49),none⟩,⟨some 51,.mv (.t 13),some (50,false)⟩,⟨some 52,.call 36 [(.t 51),(.k (.lf (.str ⟨#[62]⟩)))],some (50,false)⟩,⟨some 53,.un .not (.t 52),some (50,false)⟩,⟨some 54,.pk (.t 50) (.k (.lf (.bool true))) (.t 53),none⟩,⟨some 55,.nc (.t 45),none⟩,⟨some 56,.fa (.t 55) 1,none⟩,⟨none,.st (.t 56) (.t 54) 1,none⟩] [0,1,4,9,10,12,13]) (.ops 0 [⟨some 57,.mv (.t 9),none⟩,⟨some 58,.mv (.t 13),none⟩,⟨some 59,.call 38 [(.t 58),(.k (.lf (.str ⟨#[62]⟩)))],none⟩,⟨some 60,.callp 37 0 [(.t 57),(.t 59)],none⟩,⟨some 61,.mv (.t 1),none⟩,⟨some 62,.bin .sub (.t 60) (.t 61),none⟩,⟨some 63,.fa (.t 12) 1,none⟩,⟨none,.st (.t 63) (.t 62) 1,none⟩] [0,1,4,9,10,12])
abbrev c25_4:AC:=.seq (.ops 0 [⟨some 43,.mv (.t 9),none⟩,⟨some 44,.callp 35 0 [(.t 43)],none⟩,⟨some 13,.as 0 0 (.t 44),none⟩] [0,1,4,9,10,12,13]) c25_3
abbrev c25_5:AC:=.cond (.t 65) (.ops 0 [⟨some 66,.mv (.t 9),none⟩,⟨some 67,.mv (.t 9),none⟩,⟨some 68,.callp 35 0 [(.t 67)],none⟩,⟨some 69,.callp 37 0 [(.t 66),(.t 68)],none⟩,⟨some 70,.fa (.t 12) 1,none⟩,⟨none,.st (.t 70) (.t 69) 1,none⟩] [0,1,4,9,10,12]) .skip
abbrev c25_6:AC:=.seq (.ops 0 [⟨some 64,.mv (.t 10),none⟩,⟨some 65,.call 15 [(.t 64),(.k (.lf (.int .i64 1)))],none⟩] [0,1,4,9,10,12,65]) c25_5
abbrev c25_7:AC:=.cond (.t 42) c25_4 c25_6
abbrev c25_8:AC:=.seq (.ops 0 [⟨some 41,.mv (.t 10),none⟩,⟨some 42,.call 15 [(.t 41),(.k (.lf (.int .i64 32)))],none⟩] [0,1,4,9,10,12,42]) c25_7
abbrev c25_9:AC:=.cond (.t 72) (.ops 0 [⟨some 73,.mv (.t 9),none⟩,⟨some 74,.mv (.t 9),none⟩,⟨some 75,.callp 35 0 [(.t 74)],none⟩,⟨some 76,.callp 37 0 [(.t 73),(.t 75)],none⟩,⟨some 77,.fa (.t 12) 2,none⟩,⟨none,.st (.t 77) (.t 76) 1,none⟩] [0,1,4,9,10,12]) .skip
abbrev c25_10:AC:=.seq (.ops 0 [⟨some 71,.mv (.t 10),none⟩,⟨some 72,.call 15 [(.t 71),(.k (.lf (.int .i64 2)))],none⟩] [0,1,4,9,10,12,72]) c25_9
abbrev c25_11:AC:=.cond (.t 79) (.ops 0 [⟨some 80,.mv (.t 9),none⟩,⟨some 81,.mv (.t 9),none⟩,⟨some 82,.callp 35 0 [(.t 81)],none⟩,⟨some 83,.callp 37 0 [(.t 80),(.t 82)],none⟩,⟨some 84,.fa (.t 12) 3,none⟩,⟨none,.st (.t 84) (.t 83) 1,none⟩] [0,1,4,9,10,12]) .skip
abbrev c25_12:AC:=.seq (.ops 0 [⟨some 78,.mv (.t 10),none⟩,⟨some 79,.call 15 [(.t 78),(.k (.lf (.int .i64 4)))],none⟩] [0,1,4,9,10,12,79]) c25_11
abbrev c25_13:AC:=.cond (.t 86) (.ops 0 [⟨some 87,.mv (.t 9),none⟩,⟨some 88,.callp 39 0 [(.t 87)],none⟩,⟨some 89,.fa (.t 12) 4,none⟩,⟨none,.st (.t 89) (.t 88) 1,none⟩] [0,1,4,9,10,12]) .skip
abbrev c25_14:AC:=.seq (.ops 0 [⟨some 85,.mv (.t 10),none⟩,⟨some 86,.call 15 [(.t 85),(.k (.lf (.int .i64 8)))],none⟩] [0,1,4,9,10,12,86]) c25_13
abbrev c25_15:AC:=.cond (.t 91) (.ops 0 [⟨some 92,.mv (.t 9),none⟩,⟨some 93,.callp 40 0 [(.t 92)],none⟩,⟨some 94,.fa (.t 12) 5,none⟩,⟨none,.st (.t 94) (.t 93) 4,none⟩] [0,1,4,9,12]) .skip
abbrev c25_16:AC:=.seq (.ops 0 [⟨some 90,.mv (.t 10),none⟩,⟨some 91,.call 15 [(.t 90),(.k (.lf (.int .i64 16)))],none⟩] [0,1,4,9,12,91]) c25_15
abbrev c25_17:AC:=.seq (.ops 0 [⟨some 113,.bd [.int .i64 0,.int .i64 0,.int .i64 0,.int .i64 0,.str ⟨#[]⟩,.int .u64 0,.int .u64 0,.int .u64 0,.int .u64 0] [],none⟩,⟨none,.st (.t 4) (.t 113) 9,none⟩,⟨some 5,.as 0 0 (.k (.lf (.bool false))),none⟩] [4,5]) .ret
abbrev c25_18:AC:=.cond (.t 112) c25_17 .skip
abbrev c25_19:AC:=.seq (.ops 0 [⟨some 95,.mv (.t 9),none⟩,⟨some 96,.nc (.t 95),none⟩,⟨some 97,.fa (.t 96) 1,none⟩,⟨some 98,.ld (.t 97) 1 false,none⟩,⟨some 99,.mv (.t 98),none⟩,⟨some 100,.mv (.t 9),some (99,false)⟩,⟨some 101,.nc (.t 100),some (99,false)⟩,⟨some 102,.fa (.t 101) 0,some (99,false)⟩,⟨some 103,.ld (.t 102) 1 false,some (99,false)⟩,⟨some 104,.bin .neq (.t 103) (.k (.lf (.str ⟨#[]⟩))),some (99,false)⟩,⟨some 105,.pk (.t 99) (.k (.lf (.bool true))) (.t 104),none⟩,⟨some 106,.mv (.t 105),none⟩,⟨some 107,.ld (.t 12) 9 true,some (106,false)⟩,⟨some 108,.mv (.t 1),some (106,false)⟩,⟨some 109,.call 20 [(.t 107),(.t 108)],some (106,false)⟩,⟨some 110,.mv (.t 0),some (106,false)⟩,⟨some 111,.bin .neq (.t 109) (.t 110),some (106,false)⟩,⟨some 112,.pk (.t 106) (.k (.lf (.bool true))) (.t 111),none⟩] [4,12,112]) c25_18
abbrev c25_20:AC:=.seq (.ops 0 [⟨some 114,.ld (.t 12) 9 true,none⟩,⟨none,.st (.t 4) (.t 114) 9,none⟩,⟨some 5,.as 0 0 (.k (.lf (.bool true))),none⟩] [4,5]) .ret
abbrev c25_21:AC:=.seq c25_19 c25_20
abbrev c25_22:AC:=.seq c25_16 c25_21
abbrev c25_23:AC:=.seq c25_14 c25_22
abbrev c25_24:AC:=.seq c25_12 c25_23
abbrev c25_25:AC:=.seq c25_10 c25_24
abbrev c25_26:AC:=.seq c25_8 c25_25
abbrev c25_27:AC:=.seq (.ops 0 [⟨some 39,.mv (.t 10),none⟩,⟨some 40,.bd [.int .i64 0,.int .i64 0,.int .i64 0,.int .i64 0,.str ⟨#[]⟩,.int .u64 0,.int .u64 0,.int .u64 0,.int .u64 0] [(0,1,(.t 39))],none⟩,⟨some 12,.al [.int .i64 0,.int .i64 0,.int .i64 0,.int .i64 0,.str ⟨#[]⟩,.int .u64 0,.int .u64 0,.int .u64 0,.int .u64 0],none⟩,⟨none,.st (.t 12) (.t 40) 9,none⟩] [0,1,4,9,10,12]) c25_26
abbrev c25_28:AC:=.seq c25_2 c25_27
abbrev c25_29:AC:=.seq (.ops 0 [⟨some 25,.mv (.t 9),none⟩,⟨some 26,.callp 35 0 [(.t 25)],none⟩,⟨some 27,.call 34 [(.t 26)],none⟩,⟨some 24,.mv (.t 27),none⟩,⟨some 28,.ext (.t 24) 0,none⟩,⟨some 29,.ext (.t 24) 1,none⟩,⟨some 10,.as 0 0 (.t 28),none⟩,⟨some 11,.as 0 0 (.t 29),none⟩] [0,1,4,6,9,10,11]) c25_28
abbrev c25_30:AC:=.seq (.ops 0 [⟨some 20,.mv (.t 7),none⟩,⟨some 21,.bin .add (.k (.lf (.str ⟨#[32]⟩))) (.t 20),none⟩,⟨some 22,.bd [.str ⟨#[]⟩,.bool false] [(0,1,(.t 21))],none⟩,⟨some 23,.bx (.t 22),none⟩,⟨some 9,.as 0 0 (.t 23),none⟩] [0,1,4,6,9]) c25_29
abbrev c25_31:AC:=.seq (.ops 0 [⟨some 15,.mv (.t 0),none⟩,⟨some 16,.call 24 [(.t 15),(.k (.lf (.str ⟨#[32]⟩)))],none⟩,⟨some 14,.mv (.t 16),none⟩,⟨some 17,.ext (.t 14) 0,none⟩,⟨some 18,.ext (.t 14) 1,none⟩,⟨some 19,.ext (.t 14) 2,none⟩,⟨some 6,.as 0 0 (.t 17),none⟩,⟨some 7,.as 0 0 (.t 18),none⟩,⟨some 8,.as 0 0 (.t 19),none⟩] [0,1,4,6,7]) c25_30
abbrev c25_32:AC:=.seq (.ops 0 [⟨some 4,.al [.int .i64 0,.int .i64 0,.int .i64 0,.int .i64 0,.str ⟨#[]⟩,.int .u64 0,.int .u64 0,.int .u64 0,.int .u64 0],none⟩,⟨some 5,.as 0 0 (.k (.lf (.bool false))),none⟩] [0,1,4]) c25_31
abbrev c25:AC:=c25_32
theorem c25_ok:compileFn Tryz.prog 25 = some (115,AC.strip c25,[.c 4 9 true,.t 5]):=by kernel_rfl
abbrev c34_0:AC:=.cond (.t 6) .skip (.exit 0)
abbrev c34_1:AC:=.seq (.ops 0 [⟨some 5,.mv (.t 4),none⟩,⟨some 6,.bin .leq (.t 5) (.k (.lf (.int .i64 20))),none⟩] [0,4,6]) c34_0
abbrev c34_2:AC:=.seq (.ops 0 [⟨some 14,.mv (.t 4),none⟩,⟨some 2,.as 0 0 (.t 14),none⟩,⟨some 3,.as 0 0 (.k (.lf (.int .i64 0))),none⟩] [2,3]) .ret
abbrev c34_3:AC:=.cond (.t 13) c34_2 .skip
abbrev c34_4:AC:=.seq (.ops 0 [⟨some 9,.mv (.t 4),none⟩,⟨some 10,.iaa (.k (.lf (.gl 1 0))) (.t 9) 21 1,none⟩,⟨some 11,.ld (.t 10) 1 false,none⟩,⟨some 12,.mv (.t 0),none⟩,⟨some 13,.bin .eql (.t 11) (.t 12),none⟩] [0,4,13]) c34_3
abbrev c34_5:AC:=.block 1 c34_4
abbrev c34_6:AC:=.seq c34_5 (.ops 0 [⟨some 7,.mv (.t 4),none⟩,⟨some 8,.bin .add (.t 7) (.k (.lf (.int .i64 1))),none⟩,⟨some 4,.as 0 0 (.t 8),none⟩] [0,4])
abbrev c34_7:AC:=.seq c34_1 c34_6
abbrev c34_8:AC:=.loop c34_7 [0,4]
abbrev c34_9:AC:=.block 0 c34_8
abbrev c34_10:AC:=.seq (.ops 0 [⟨some 4,.as 0 0 (.k (.lf (.int .i64 1))),none⟩] [0,4]) c34_9
abbrev c34_11:AC:=.seq (.ops 0 [⟨some 2,.as 0 0 (.k (.lf (.int .i64 0))),none⟩,⟨some 3,.as 0 0 (.k (.lf (.int .i64 5))),none⟩] [2,3]) .ret
abbrev c34_12:AC:=.seq c34_10 c34_11
abbrev c34_13:AC:=.seq (.ops 0 [⟨some 2,.as 0 0 (.k (.lf (.int .i64 0))),none⟩,⟨some 3,.as 0 0 (.k (.lf (.int .i64 0))),none⟩] [0]) c34_12
abbrev c34:AC:=c34_13
theorem c34_ok:compileFn Tryz.prog 34 = some (15,AC.strip c34,[.t 2,.t 3]):=by kernel_rfl
abbrev c35_0:AC:=.seq (.ops 0 [⟨some 2,.as 0 0 (.k (.lf (.str ⟨#[]⟩))),none⟩] [2]) .ret
abbrev c35_1:AC:=.seq (.ops 0 [⟨some 11,.mv (.t 0),none⟩,⟨some 12,.nc (.t 11),none⟩,⟨some 13,.fa (.t 12) 1,none⟩,⟨none,.st (.t 13) (.k (.lf (.bool true))) 1,none⟩] []) c35_0
abbrev c35_2:AC:=.cond (.t 10) c35_1 .skip
abbrev c35_3:AC:=.seq (.ops 0 [⟨some 5,.mv (.t 0),none⟩,⟨some 6,.nc (.t 5),none⟩,⟨some 7,.fa (.t 6) 0,none⟩,⟨some 8,.ld (.t 7) 1 false,none⟩,⟨some 9,.call 36 [(.t 8),(.k (.lf (.str ⟨#[32]⟩)))],none⟩,⟨some 10,.un .not (.t 9),none⟩] [0,10]) c35_2
abbrev c35_4:AC:=.cond (.t 22) (.ops 0 [⟨some 23,.mv (.t 3),none⟩,⟨some 24,.mv (.t 4),none⟩,⟨some 25,.sls (.t 23) none (some (.t 24)),none⟩,⟨some 3,.as 0 0 (.t 25),none⟩] [0,3]) .skip
abbrev c35_5:AC:=.seq (.ops 0 [⟨some 21,.mv (.t 4),none⟩,⟨some 22,.bin .geq (.t 21) (.k (.lf (.int .i64 0))),none⟩] [0,3,4,22]) c35_4
abbrev c35_6:AC:=.seq (.ops 0 [⟨some 19,.mv (.t 3),none⟩,⟨some 20,.call 49 [(.t 19),(.k (.lf (.int .u8 32)))],none⟩,⟨some 4,.as 0 0 (.t 20),none⟩] [0,3,4]) c35_5
abbrev c35_7:AC:=.seq (.ops 0 [⟨some 37,.mv (.t 3),none⟩,⟨some 2,.as 0 0 (.t 37),none⟩] [2]) .ret
abbrev c35_8:AC:=.seq (.ops 0 [⟨some 26,.mv (.t 0),none⟩,⟨some 27,.mv (.t 0),none⟩,⟨some 28,.nc (.t 27),none⟩,⟨some 29,.fa (.t 28) 0,none⟩,⟨some 30,.ld (.t 29) 1 false,none⟩,⟨some 31,.mv (.t 3),none⟩,⟨some 32,.lns (.t 31),none⟩,⟨some 33,.bin .add (.k (.lf (.int .i64 1))) (.t 32),none⟩,⟨some 34,.sls (.t 30) (some (.t 33)) none,none⟩,⟨some 35,.nc (.t 26),none⟩,⟨some 36,.fa (.t 35) 0,none⟩,⟨none,.st (.t 36) (.t 34) 1,none⟩] [3]) c35_7
abbrev c35_9:AC:=.seq c35_6 c35_8
abbrev c35_10:AC:=.seq (.ops 0 [⟨some 14,.mv (.t 0),none⟩,⟨some 15,.nc (.t 14),none⟩,⟨some 16,.fa (.t 15) 0,none⟩,⟨some 17,.ld (.t 16) 1 false,none⟩,⟨some 18,.sls (.t 17) (some (.k (.lf (.int .i64 1)))) none,none⟩,⟨some 3,.as 0 0 (.t 18),none⟩] [0,3]) c35_9
abbrev c35_11:AC:=.seq c35_3 c35_10
abbrev c35_12:AC:=.seq (.ops 0 [⟨some 2,.as 0 0 (.k (.lf (.str ⟨#[]⟩))),none⟩] [0]) c35_11
abbrev c35:AC:=c35_12
theorem c35_ok:compileFn Tryz.prog 35 = some (38,AC.strip c35,[.t 2]):=by kernel_rfl
abbrev c36_0:AC:=.seq (.ops 0 [⟨some 5,.mv (.t 0),none⟩,⟨some 6,.mv (.t 1),none⟩,⟨some 7,.call 50 [(.t 5),(.t 6)],none⟩,⟨some 4,.as 0 0 (.t 7),none⟩] [4]) .ret
abbrev c36_1:AC:=.seq (.ops 0 [⟨some 4,.as 0 0 (.k (.lf (.bool false))),none⟩] [0,1]) c36_0
abbrev c36:AC:=c36_1
theorem c36_ok:compileFn Tryz.prog 36 = some (8,AC.strip c36,[.t 4]):=by kernel_rfl
abbrev c37_0:AC:=.seq (.ops 0 [⟨some 4,.as 0 0 (.k (.lf (.int .i64 0))),none⟩] [4]) .ret
abbrev c37_1:AC:=.seq (.ops 0 [⟨some 28,.mv (.t 0),none⟩,⟨some 29,.nc (.t 28),none⟩,⟨some 30,.fa (.t 29) 1,none⟩,⟨none,.st (.t 30) (.k (.lf (.bool true))) 1,none⟩] []) c37_0
abbrev c37_2:AC:=.cond (.t 27) c37_1 .skip
abbrev c37_3:AC:=.seq (.ops 0 [⟨some 12,.mv (.t 6),none⟩,⟨some 13,.ieq true (.t 12),none⟩,⟨some 14,.mv (.t 13),none⟩,⟨some 15,.mv (.t 5),some (14,false)⟩,⟨some 16,.bin .lss (.t 15) (.k (.lf (.int .i64 0))),some (14,false)⟩,⟨some 17,.pk (.t 14) (.k (.lf (.bool true))) (.t 16),none⟩,⟨some 18,.mv (.t 17),none⟩,⟨some 19,.mv (.t 5),some (18,false)⟩,⟨some 20,.bin .geq (.t 19) (.k (.lf (.int .i64 32768))),some (18,false)⟩,⟨some 21,.pk (.t 18) (.k (.lf (.bool true))) (.t 20),none⟩,⟨some 22,.mv (.t 21),none⟩,⟨some 23,.mv (.t 5),some (22,false)⟩,⟨some 24,.call 30 [(.t 23)],some (22,false)⟩,⟨some 25,.mv (.t 1),some (22,false)⟩,⟨some 26,.bin .neq (.t 24) (.t 25),some (22,false)⟩,⟨some 27,.pk (.t 22) (.k (.lf (.bool true))) (.t 26),none⟩] [0,5,27]) c37_2
abbrev c37_4:AC:=.seq (.ops 0 [⟨some 31,.mv (.t 5),none⟩,⟨some 4,.as 0 0 (.t 31),none⟩] [4]) .ret
abbrev c37_5:AC:=.seq c37_3 c37_4
abbrev c37_6:AC:=.seq (.ops 0 [⟨some 8,.mv (.t 1),none⟩,⟨some 9,.call 51 [(.t 8)],none⟩,⟨some 7,.mv (.t 9),none⟩,⟨some 10,.ext (.t 7) 0,none⟩,⟨some 11,.ext (.t 7) 1,none⟩,⟨some 5,.as 0 0 (.t 10),none⟩,⟨some 6,.as 0 0 (.t 11),none⟩] [0,1,5,6]) c37_5
abbrev c37_7:AC:=.seq (.ops 0 [⟨some 4,.as 0 0 (.k (.lf (.int .i64 0))),none⟩] [0,1]) c37_6
abbrev c37:AC:=c37_7
theorem c37_ok:compileFn Tryz.prog 37 = some (32,AC.strip c37,[.t 4]):=by kernel_rfl
abbrev c38_0:AC:=.seq (.ops 0 [⟨some 5,.mv (.t 0),none⟩,⟨some 6,.mv (.t 1),none⟩,⟨some 7,.call 52 [(.t 5),(.t 6)],none⟩,⟨some 4,.as 0 0 (.t 7),none⟩] [4]) .ret
abbrev c38_1:AC:=.seq (.ops 0 [⟨some 4,.as 0 0 (.k (.lf (.str ⟨#[]⟩))),none⟩] [0,1]) c38_0
abbrev c38:AC:=c38_1
theorem c38_ok:compileFn Tryz.prog 38 = some (8,AC.strip c38,[.t 4]):=by kernel_rfl
abbrev c39_0:AC:=.seq (.ops 0 [⟨some 2,.as 0 0 (.k (.lf (.str ⟨#[]⟩))),none⟩] [2]) .ret
abbrev c39_1:AC:=.seq (.ops 0 [⟨some 12,.mv (.t 0),none⟩,⟨some 13,.nc (.t 12),none⟩,⟨some 14,.fa (.t 13) 1,none⟩,⟨none,.st (.t 14) (.k (.lf (.bool true))) 1,none⟩] []) c39_0
abbrev c39_2:AC:=.cond (.t 11) c39_1 .skip
abbrev c39_3:AC:=.seq (.ops 0 [⟨some 6,.mv (.t 0),none⟩,⟨some 7,.nc (.t 6),none⟩,⟨some 8,.fa (.t 7) 0,none⟩,⟨some 9,.ld (.t 8) 1 false,none⟩,⟨some 10,.call 36 [(.t 9),(.k (.lf (.str ⟨#[32]⟩)))],none⟩,⟨some 11,.un .not (.t 10),none⟩] [0,11]) c39_2
abbrev c39_4:AC:=.seq (.ops 0 [⟨some 2,.as 0 0 (.k (.lf (.str ⟨#[]⟩))),none⟩] [2]) .ret
abbrev c39_5:AC:=.seq (.ops 0 [⟨some 27,.mv (.t 0),none⟩,⟨some 28,.nc (.t 27),none⟩,⟨some 29,.fa (.t 28) 1,none⟩,⟨none,.st (.t 29) (.k (.lf (.bool true))) 1,none⟩] []) c39_4
abbrev c39_6:AC:=.cond (.t 26) c39_5 .skip
abbrev c39_7:AC:=.seq (.ops 0 [⟨some 24,.ld (.t 5) 2 true,none⟩,⟨some 25,.bd [.int .i64 0,.int .i64 0] [],none⟩,⟨some 26,.beq true [2,2] (.t 24) (.t 25),none⟩] [0,3,4,26]) c39_6
abbrev c39_8:AC:=.seq (.ops 0 [⟨some 39,.mv (.t 3),none⟩,⟨some 2,.as 0 0 (.t 39),none⟩] [2]) .ret
abbrev c39_9:AC:=.seq (.ops 0 [⟨some 30,.mv (.t 0),none⟩,⟨some 31,.mv (.t 0),none⟩,⟨some 32,.nc (.t 31),none⟩,⟨some 33,.fa (.t 32) 0,none⟩,⟨some 34,.ld (.t 33) 1 false,none⟩,⟨some 35,.mv (.t 4),none⟩,⟨some 36,.sls (.t 34) (some (.t 35)) none,none⟩,⟨some 37,.nc (.t 30),none⟩,⟨some 38,.fa (.t 37) 0,none⟩,⟨none,.st (.t 38) (.t 36) 1,none⟩] [3]) c39_8
abbrev c39_10:AC:=.seq c39_7 c39_9
abbrev c39_11:AC:=.seq (.ops 0 [⟨some 16,.mv (.t 0),none⟩,⟨some 17,.nc (.t 16),none⟩,⟨some 18,.fa (.t 17) 0,none⟩,⟨some 19,.ld (.t 18) 1 false,none⟩,⟨some 20,.call 53 [(.t 19),(.k (.lf (.int .i64 1)))],none⟩,⟨some 15,.mv (.t 20),none⟩,⟨some 21,.ext (.t 15) 0,none⟩,⟨some 22,.ext (.t 15) 1,none⟩,⟨some 23,.ext (.t 15) 2,none⟩,⟨some 5,.al [.int .i64 0,.int .i64 0],none⟩,⟨some 3,.as 0 0 (.t 21),none⟩,⟨some 4,.as 0 0 (.t 22),none⟩,⟨none,.st (.t 5) (.t 23) 2,none⟩] [0,3,4,5]) c39_10
abbrev c39_12:AC:=.seq c39_3 c39_11
abbrev c39_13:AC:=.seq (.ops 0 [⟨some 2,.as 0 0 (.k (.lf (.str ⟨#[]⟩))),none⟩] [0]) c39_12
abbrev c39:AC:=c39_13
theorem c39_ok:compileFn Tryz.prog 39 = some (40,AC.strip c39,[.t 2]):=by kernel_rfl
abbrev c40_0:AC:=.seq (.ops 0 [⟨some 15,.bd [.int .u64 0,.int .u64 0,.int .u64 0,.int .u64 0] [],none⟩,⟨none,.st (.t 2) (.t 15) 4,none⟩] [2]) .ret
abbrev c40_1:AC:=.seq (.ops 0 [⟨some 12,.mv (.t 0),none⟩,⟨some 13,.nc (.t 12),none⟩,⟨some 14,.fa (.t 13) 1,none⟩,⟨none,.st (.t 14) (.k (.lf (.bool true))) 1,none⟩] [2]) c40_0
abbrev c40_2:AC:=.cond (.t 11) c40_1 .skip
abbrev c40_3:AC:=.seq (.ops 0 [⟨some 6,.mv (.t 0),none⟩,⟨some 7,.nc (.t 6),none⟩,⟨some 8,.fa (.t 7) 0,none⟩,⟨some 9,.ld (.t 8) 1 false,none⟩,⟨some 10,.call 36 [(.t 9),(.k (.lf (.str ⟨#[32]⟩)))],none⟩,⟨some 11,.un .not (.t 10),none⟩] [0,2,11]) c40_2
abbrev c40_4:AC:=.seq (.ops 0 [⟨some 31,.bd [.int .u64 0,.int .u64 0,.int .u64 0,.int .u64 0] [],none⟩,⟨none,.st (.t 2) (.t 31) 4,none⟩] [2]) .ret
abbrev c40_5:AC:=.seq (.ops 0 [⟨some 28,.mv (.t 0),none⟩,⟨some 29,.nc (.t 28),none⟩,⟨some 30,.fa (.t 29) 1,none⟩,⟨none,.st (.t 30) (.k (.lf (.bool true))) 1,none⟩] [2]) c40_4
abbrev c40_6:AC:=.cond (.t 27) c40_5 .skip
abbrev c40_7:AC:=.seq (.ops 0 [⟨some 25,.ld (.t 5) 2 true,none⟩,⟨some 26,.bd [.int .i64 0,.int .i64 0] [],none⟩,⟨some 27,.beq true [2,2] (.t 25) (.t 26),none⟩] [0,2,3,4,27]) c40_6
abbrev c40_8:AC:=.seq (.ops 0 [⟨some 41,.ld (.t 3) 4 true,none⟩,⟨none,.st (.t 2) (.t 41) 4,none⟩] [2]) .ret
abbrev c40_9:AC:=.seq (.ops 0 [⟨some 32,.mv (.t 0),none⟩,⟨some 33,.mv (.t 0),none⟩,⟨some 34,.nc (.t 33),none⟩,⟨some 35,.fa (.t 34) 0,none⟩,⟨some 36,.ld (.t 35) 1 false,none⟩,⟨some 37,.mv (.t 4),none⟩,⟨some 38,.sls (.t 36) (some (.t 37)) none,none⟩,⟨some 39,.nc (.t 32),none⟩,⟨some 40,.fa (.t 39) 0,none⟩,⟨none,.st (.t 40) (.t 38) 1,none⟩] [2,3]) c40_8
abbrev c40_10:AC:=.seq c40_7 c40_9
abbrev c40_11:AC:=.seq (.ops 0 [⟨some 17,.mv (.t 0),none⟩,⟨some 18,.nc (.t 17),none⟩,⟨some 19,.fa (.t 18) 0,none⟩,⟨some 20,.ld (.t 19) 1 false,none⟩,⟨some 21,.call 54 [(.t 20),(.k (.lf (.int .i64 1)))],none⟩,⟨some 16,.mv (.t 21),none⟩,⟨some 22,.ext (.t 16) 0,none⟩,⟨some 23,.ext (.t 16) 1,none⟩,⟨some 24,.ext (.t 16) 2,none⟩,⟨some 3,.al [.int .u64 0,.int .u64 0,.int .u64 0,.int .u64 0],none⟩,⟨some 5,.al [.int .i64 0,.int .i64 0],none⟩,⟨none,.st (.t 3) (.t 22) 4,none⟩,⟨some 4,.as 0 0 (.t 23),none⟩,⟨none,.st (.t 5) (.t 24) 2,none⟩] [0,2,3,4,5]) c40_10
abbrev c40_12:AC:=.seq c40_3 c40_11
abbrev c40_13:AC:=.seq (.ops 0 [⟨some 2,.al [.int .u64 0,.int .u64 0,.int .u64 0,.int .u64 0],none⟩] [0,2]) c40_12
abbrev c40:AC:=c40_13
theorem c40_ok:compileFn Tryz.prog 40 = some (42,AC.strip c40,[.c 2 4 true]):=by kernel_rfl
abbrev c50_0:AC:=.seq (.ops 0 [⟨some 5,.mv (.t 0),none⟩,⟨some 6,.lns (.t 5),none⟩,⟨some 7,.mv (.t 1),none⟩,⟨some 8,.lns (.t 7),none⟩,⟨some 9,.bin .geq (.t 6) (.t 8),none⟩,⟨some 10,.mv (.t 9),none⟩,⟨some 11,.mv (.t 0),some (10,true)⟩,⟨some 12,.mv (.t 1),some (10,true)⟩,⟨some 13,.lns (.t 12),some (10,true)⟩,⟨some 14,.sls (.t 11) none (some (.t 13)),some (10,true)⟩,⟨some 15,.mv (.t 1),some (10,true)⟩,⟨some 16,.bin .eql (.t 14) (.t 15),some (10,true)⟩,⟨some 17,.pk (.t 10) (.t 16) (.k (.lf (.bool false))),none⟩,⟨some 4,.as 0 0 (.t 17),none⟩] [4]) .ret
abbrev c50_1:AC:=.seq (.ops 0 [⟨some 4,.as 0 0 (.k (.lf (.bool false))),none⟩] [0,1]) c50_0
abbrev c50:AC:=c50_1
theorem c50_ok:compileFn Tryz.prog 50 = some (18,AC.strip c50,[.t 4]):=by kernel_rfl
abbrev c52_0:AC:=.seq (.ops 0 [⟨some 8,.mv (.t 0),none⟩,⟨some 9,.mv (.t 1),none⟩,⟨some 10,.lns (.t 9),none⟩,⟨some 11,.sls (.t 8) (some (.t 10)) none,none⟩,⟨some 4,.as 0 0 (.t 11),none⟩] [4]) .ret
abbrev c52_1:AC:=.cond (.t 7) c52_0 .skip
abbrev c52_2:AC:=.seq (.ops 0 [⟨some 5,.mv (.t 0),none⟩,⟨some 6,.mv (.t 1),none⟩,⟨some 7,.call 50 [(.t 5),(.t 6)],none⟩] [0,1,7]) c52_1
abbrev c52_3:AC:=.seq (.ops 0 [⟨some 12,.mv (.t 0),none⟩,⟨some 4,.as 0 0 (.t 12),none⟩] [4]) .ret
abbrev c52_4:AC:=.seq c52_2 c52_3
abbrev c52_5:AC:=.seq (.ops 0 [⟨some 4,.as 0 0 (.k (.lf (.str ⟨#[]⟩))),none⟩] [0,1]) c52_4
abbrev c52:AC:=c52_5
theorem c52_ok:compileFn Tryz.prog 52 = some (13,AC.strip c52,[.t 4]):=by kernel_rfl
abbrev c49_0:AC:=.seq (.ops 0 [⟨some 5,.mv (.t 0),none⟩,⟨some 6,.mv (.t 1),none⟩,⟨some 7,.call 62 [(.t 5),(.t 6)],none⟩,⟨some 4,.as 0 0 (.t 7),none⟩] [4]) .ret
abbrev c49_1:AC:=.seq (.ops 0 [⟨some 4,.as 0 0 (.k (.lf (.int .i64 0))),none⟩] [0,1]) c49_0
abbrev c49:AC:=c49_1
theorem c49_ok:compileFn Tryz.prog 49 = some (8,AC.strip c49,[.t 4]):=by kernel_rfl
abbrev c62_0:AC:=.seq (.ops 0 [⟨some 5,.mv (.t 0),none⟩,⟨some 6,.mv (.t 1),none⟩,⟨some 7,.ex 2 [(.t 5),(.t 6)],none⟩,⟨some 4,.as 0 0 (.t 7),none⟩] [4]) .ret
abbrev c62_1:AC:=.seq (.ops 0 [⟨some 4,.as 0 0 (.k (.lf (.int .i64 0))),none⟩] [0,1]) c62_0
abbrev c62:AC:=c62_1
theorem c62_ok:compileFn Tryz.prog 62 = some (8,AC.strip c62,[.t 4]):=by kernel_rfl
end Go.Proofs.YthcpaohmajjopaaGreatDoor.I
set_option maxRecDepth 100000
namespace Go.Proofs.YthcpaohmajjopaaGreatDoor.I
open Go Go.Proofs.YthcpaohmajjopaaGreatDoor.AM
abbrev c24_0:AC:=.seq (.ops 0 [⟨some 7,.mv (.t 0),none⟩,⟨some 8,.mv (.t 1),none⟩,⟨some 9,.call 33 [(.t 7),(.t 8)],none⟩,⟨some 10,.ext (.t 9) 0,none⟩,⟨some 11,.ext (.t 9) 1,none⟩,⟨some 12,.ext (.t 9) 2,none⟩,⟨some 4,.as 0 0 (.t 10),none⟩,⟨some 5,.as 0 0 (.t 11),none⟩,⟨some 6,.as 0 0 (.t 12),none⟩] [4,5,6]) .ret
abbrev c24_1:AC:=.seq (.ops 0 [⟨some 4,.as 0 0 (.k (.lf (.str ⟨#[]⟩))),none⟩,⟨some 5,.as 0 0 (.k (.lf (.str ⟨#[]⟩))),none⟩,⟨some 6,.as 0 0 (.k (.lf (.bool false))),none⟩] [0,1]) c24_0
abbrev c24:AC:=c24_1
theorem c24_ok:compileFn Tryz.prog 24 = some (13,AC.strip c24,[.t 4,.t 5,.t 6]):=by kernel_rfl
abbrev c33_0:AC:=.seq (.ops 1 [⟨some 13,.mv (.t 0),none⟩,⟨some 14,.mv (.t 7),none⟩,⟨some 15,.sls (.t 13) none (some (.t 14)),none⟩,⟨some 16,.mv (.t 0),none⟩,⟨some 17,.mv (.t 7),none⟩,⟨some 18,.mv (.t 1),none⟩,⟨some 19,.lns (.t 18),none⟩,⟨some 20,.bin .add (.t 17) (.t 19),none⟩,⟨some 21,.sls (.t 16) (some (.t 20)) none,none⟩,⟨some 4,.as 0 0 (.t 15),none⟩,⟨some 5,.as 0 0 (.t 21),none⟩,⟨some 6,.as 0 0 (.k (.lf (.bool true))),none⟩] [4,5,6]) .ret
abbrev c33_1:AC:=.cond (.t 12) c33_0 .skip
abbrev c33_2:AC:=.seq (.ops 0 [⟨some 11,.mv (.t 7),none⟩,⟨some 12,.bin .geq (.t 11) (.k (.lf (.int .i64 0))),none⟩] [0,1,7,12]) c33_1
abbrev c33_3:AC:=.seq (.ops 0 [⟨some 8,.mv (.t 0),none⟩,⟨some 9,.mv (.t 1),none⟩,⟨some 10,.call 48 [(.t 8),(.t 9)],none⟩,⟨some 7,.as 0 0 (.t 10),none⟩] [0,1,7]) c33_2
abbrev c33_4:AC:=.seq (.ops 0 [⟨some 22,.mv (.t 0),none⟩,⟨some 4,.as 0 0 (.t 22),none⟩,⟨some 5,.as 0 0 (.k (.lf (.str ⟨#[]⟩))),none⟩,⟨some 6,.as 0 0 (.k (.lf (.bool false))),none⟩] [4,5,6]) .ret
abbrev c33_5:AC:=.seq c33_3 c33_4
abbrev c33_6:AC:=.seq (.ops 0 [⟨some 4,.as 0 0 (.k (.lf (.str ⟨#[]⟩))),none⟩,⟨some 5,.as 0 0 (.k (.lf (.str ⟨#[]⟩))),none⟩,⟨some 6,.as 0 0 (.k (.lf (.bool false))),none⟩] [0,1]) c33_5
abbrev c33:AC:=c33_6
theorem c33_ok:compileFn Tryz.prog 33 = some (23,AC.strip c33,[.t 4,.t 5,.t 6]):=by kernel_rfl
end Go.Proofs.YthcpaohmajjopaaGreatDoor.I
set_option maxRecDepth 100000
namespace Go.Proofs.YthcpaohmajjopaaGreatDoor.I
open Go Go.Proofs.YthcpaohmajjopaaGreatDoor.AM
abbrev c53_0:AC:=.seq (.ops 0 [⟨some 16,.bd [.int .i64 0,.int .i64 0] [(1,1,(.k (.lf (.int .i64 2))))],none⟩,⟨some 4,.as 0 0 (.k (.lf (.str ⟨#[]⟩))),none⟩,⟨some 5,.as 0 0 (.k (.lf (.int .i64 0))),none⟩,⟨none,.st (.t 6) (.t 16) 2,none⟩] [4,5,6]) .ret
abbrev c53_1:AC:=.seq (.ops 0 [⟨some 26,.bd [.int .i64 0,.int .i64 0] [(1,1,(.k (.lf (.int .i64 1))))],none⟩,⟨some 4,.as 0 0 (.k (.lf (.str ⟨#[]⟩))),none⟩,⟨some 5,.as 0 0 (.k (.lf (.int .i64 0))),none⟩,⟨none,.st (.t 6) (.t 26) 2,none⟩] [4,5,6]) .ret
abbrev c53_2:AC:=.seq (.ops 0 [⟨some 44,.mv (.t 1),none⟩,⟨some 45,.bd [.int .i64 0,.int .i64 0] [(0,1,(.t 44)),(1,1,(.k (.lf (.int .i64 20))))],none⟩,⟨some 4,.as 0 0 (.k (.lf (.str ⟨#[]⟩))),none⟩,⟨some 5,.as 0 0 (.k (.lf (.int .i64 0))),none⟩,⟨none,.st (.t 6) (.t 45) 2,none⟩] [4,5,6]) .ret
abbrev c53_3:AC:=.cond (.t 27) c53_2 .skip
abbrev c53_4:AC:=.seq (.ops 0 [⟨some 28,.mv (.t 1),none⟩,⟨some 29,.mv (.t 0),none⟩,⟨some 30,.lns (.t 29),none⟩,⟨some 31,.bin .eql (.t 28) (.t 30),none⟩,⟨some 32,.mv (.t 31),none⟩,⟨some 33,.mv (.t 0),some (32,false)⟩,⟨some 34,.mv (.t 1),some (32,false)⟩,⟨some 35,.ixs (.t 33) (.t 34),some (32,false)⟩,⟨some 36,.bin .neq (.t 35) (.k (.lf (.int .u8 39))),some (32,false)⟩,⟨some 37,.mv (.t 36),some (32,false)⟩,⟨some 38,.mv (.t 0),some (37,true)⟩,⟨some 39,.mv (.t 1),some (37,true)⟩,⟨some 40,.ixs (.t 38) (.t 39),some (37,true)⟩,⟨some 41,.bin .neq (.t 40) (.k (.lf (.int .u8 34))),some (37,true)⟩,⟨some 42,.pk (.t 37) (.t 41) (.k (.lf (.bool false))),some (32,false)⟩,⟨some 43,.pk (.t 32) (.k (.lf (.bool true))) (.t 42),none⟩,⟨some 27,.as 0 0 (.t 43),none⟩] [0,1,6,27]) c53_3
abbrev c53_5:AC:=.cond (.t 17) c53_1 c53_4
abbrev c53_6:AC:=.seq (.ops 0 [⟨some 18,.mv (.t 1),none⟩,⟨some 19,.bin .lss (.t 18) (.k (.lf (.int .i64 0))),none⟩,⟨some 20,.mv (.t 19),none⟩,⟨some 21,.mv (.t 1),some (20,false)⟩,⟨some 22,.mv (.t 0),some (20,false)⟩,⟨some 23,.lns (.t 22),some (20,false)⟩,⟨some 24,.bin .gtr (.t 21) (.t 23),some (20,false)⟩,⟨some 25,.pk (.t 20) (.k (.lf (.bool true))) (.t 24),none⟩,⟨some 17,.as 0 0 (.t 25),none⟩] [0,1,6,17]) c53_5
abbrev c53_7:AC:=.cond (.t 12) c53_0 c53_6
abbrev c53_8:AC:=.seq (.ops 0 [⟨some 13,.mv (.t 0),none⟩,⟨some 14,.lns (.t 13),none⟩,⟨some 15,.bin .gtr (.t 14) (.k (.lf (.int .i64 65536))),none⟩,⟨some 12,.as 0 0 (.t 15),none⟩] [0,1,6,12]) c53_7
abbrev c53_9:AC:=.block 0 c53_8
abbrev c53_10:AC:=.cond (.t 51) .skip (.exit 1)
abbrev c53_11:AC:=.seq (.ops 0 [⟨some 48,.mv (.t 8),none⟩,⟨some 49,.mv (.t 0),none⟩,⟨some 50,.lns (.t 49),none⟩,⟨some 51,.bin .lss (.t 48) (.t 50),none⟩] [0,1,6,7,8,51]) c53_10
abbrev c53_12:AC:=.seq (.ops 0 [⟨some 67,.mv (.t 7),none⟩,⟨some 68,.cbs (.t 67),none⟩,⟨some 69,.mv (.t 8),none⟩,⟨some 70,.bin .add (.t 69) (.k (.lf (.int .i64 1))),none⟩,⟨some 71,.bd [.int .i64 0,.int .i64 0] [],none⟩,⟨some 4,.as 0 0 (.t 68),none⟩,⟨some 5,.as 0 0 (.t 70),none⟩,⟨none,.st (.t 6) (.t 71) 2,none⟩] [4,5,6]) .ret
abbrev c53_13:AC:=.seq (.ops 0 [⟨some 79,.mv (.t 8),none⟩,⟨some 80,.bd [.int .i64 0,.int .i64 0] [(0,1,(.t 79)),(1,1,(.k (.lf (.int .i64 22))))],none⟩,⟨some 4,.as 0 0 (.k (.lf (.str ⟨#[]⟩))),none⟩,⟨some 5,.as 0 0 (.k (.lf (.int .i64 0))),none⟩,⟨none,.st (.t 6) (.t 80) 2,none⟩] [4,5,6]) .ret
abbrev c53_14:AC:=.seq (.ops 0 [⟨some 92,.mv (.t 8),none⟩,⟨some 93,.bd [.int .i64 0,.int .i64 0] [(0,1,(.t 92)),(1,1,(.k (.lf (.int .i64 21))))],none⟩,⟨some 4,.as 0 0 (.k (.lf (.str ⟨#[]⟩))),none⟩,⟨some 5,.as 0 0 (.k (.lf (.int .i64 0))),none⟩,⟨none,.st (.t 6) (.t 93) 2,none⟩] [4,5,6]) .ret
abbrev c53_15:AC:=.cond (.t 91) c53_14 .skip
abbrev c53_16:AC:=.seq (.ops 0 [⟨some 90,.mv (.t 11),none⟩,⟨some 91,.bin .eql (.t 90) (.k (.lf (.int .i64 0))),none⟩] [0,1,6,7,8,10,11,91]) c53_15
abbrev c53_17:AC:=.seq (.ops 0 [⟨some 94,.mv (.t 7),none⟩,⟨some 95,.mv (.t 10),none⟩,⟨some 96,.bs 5 1 1 [.int .u8 0] [(0,(.t 95))],none⟩,⟨some 97,.app 5 1 1 (.t 94) (.t 96),none⟩,⟨some 7,.as 5 1 (.t 97),none⟩] [0,1,6,7,8,11]) (.ops 0 [⟨some 98,.mv (.t 8),none⟩,⟨some 99,.mv (.t 11),none⟩,⟨some 100,.bin .add (.t 98) (.t 99),none⟩,⟨some 8,.as 0 0 (.t 100),none⟩] [0,1,6,7,8])
abbrev c53_18:AC:=.seq c53_16 c53_17
abbrev c53_19:AC:=.seq (.ops 0 [⟨some 85,.mv (.t 0),none⟩,⟨some 86,.mv (.t 8),none⟩,⟨some 87,.call 68 [(.t 85),(.t 86)],none⟩,⟨some 84,.mv (.t 87),none⟩,⟨some 88,.ext (.t 84) 0,none⟩,⟨some 89,.ext (.t 84) 1,none⟩,⟨some 10,.as 0 0 (.t 88),none⟩,⟨some 11,.as 0 0 (.t 89),none⟩] [0,1,6,7,8,10,11]) c53_18
abbrev c53_20:AC:=.seq (.ops 0 [⟨some 55,.mv (.t 7),none⟩,⟨some 56,.mv (.t 9),none⟩,⟨some 57,.bs 5 1 1 [.int .u8 0] [(0,(.t 56))],none⟩,⟨some 58,.app 5 1 1 (.t 55) (.t 57),none⟩,⟨some 7,.as 5 1 (.t 58),none⟩] [0,1,6,7,8]) (.ops 0 [⟨some 59,.mv (.t 8),none⟩,⟨some 60,.bin .add (.t 59) (.k (.lf (.int .i64 1))),none⟩,⟨some 8,.as 0 0 (.t 60),none⟩] [0,1,6,7,8])
abbrev c53_21:AC:=.cond (.t 81) c53_19 c53_20
abbrev c53_22:AC:=.seq (.ops 0 [⟨some 82,.mv (.t 9),none⟩,⟨some 83,.bin .eql (.t 82) (.k (.lf (.int .u8 92))),none⟩,⟨some 81,.as 0 0 (.t 83),none⟩] [0,1,6,7,8,9,81]) c53_21
abbrev c53_23:AC:=.cond (.t 72) c53_13 c53_22
abbrev c53_24:AC:=.seq (.ops 0 [⟨some 73,.mv (.t 9),none⟩,⟨some 74,.bin .lss (.t 73) (.k (.lf (.int .u8 32))),none⟩,⟨some 75,.mv (.t 74),none⟩,⟨some 76,.mv (.t 9),some (75,false)⟩,⟨some 77,.bin .eql (.t 76) (.k (.lf (.int .u8 127))),some (75,false)⟩,⟨some 78,.pk (.t 75) (.k (.lf (.bool true))) (.t 77),none⟩,⟨some 72,.as 0 0 (.t 78),none⟩] [0,1,6,7,8,9,72]) c53_23
abbrev c53_25:AC:=.cond (.t 61) c53_12 c53_24
abbrev c53_26:AC:=.seq (.ops 0 [⟨some 62,.mv (.t 9),none⟩,⟨some 63,.mv (.t 0),none⟩,⟨some 64,.mv (.t 1),none⟩,⟨some 65,.ixs (.t 63) (.t 64),none⟩,⟨some 66,.bin .eql (.t 62) (.t 65),none⟩,⟨some 61,.as 0 0 (.t 66),none⟩] [0,1,6,7,8,9,61]) c53_25
abbrev c53_27:AC:=.block 3 c53_26
abbrev c53_28:AC:=.seq (.ops 0 [⟨some 52,.mv (.t 0),none⟩,⟨some 53,.mv (.t 8),none⟩,⟨some 54,.ixs (.t 52) (.t 53),none⟩,⟨some 9,.as 0 0 (.t 54),none⟩] [0,1,6,7,8,9]) c53_27
abbrev c53_29:AC:=.block 2 c53_28
abbrev c53_30:AC:=.seq c53_11 c53_29
abbrev c53_31:AC:=.loop c53_30 [0,1,6,7,8]
abbrev c53_32:AC:=.block 1 c53_31
abbrev c53_33:AC:=.seq (.ops 0 [⟨some 46,.mv (.t 1),none⟩,⟨some 47,.bin .add (.t 46) (.k (.lf (.int .i64 1))),none⟩,⟨some 8,.as 0 0 (.t 47),none⟩] [0,1,6,7,8]) c53_32
abbrev c53_34:AC:=.seq (.ops 0 [⟨some 101,.mv (.t 0),none⟩,⟨some 102,.lns (.t 101),none⟩,⟨some 103,.bd [.int .i64 0,.int .i64 0] [(0,1,(.t 102)),(1,1,(.k (.lf (.int .i64 22))))],none⟩,⟨some 4,.as 0 0 (.k (.lf (.str ⟨#[]⟩))),none⟩,⟨some 5,.as 0 0 (.k (.lf (.int .i64 0))),none⟩,⟨none,.st (.t 6) (.t 103) 2,none⟩] [4,5,6]) .ret
abbrev c53_35:AC:=.seq c53_33 c53_34
abbrev c53_36:AC:=.seq (.ops 0 [⟨some 7,.as 5 1 (.k (.lf (.lst .nl 1 [] []))),none⟩] [0,1,6,7]) c53_35
abbrev c53_37:AC:=.seq c53_9 c53_36
abbrev c53_38:AC:=.seq (.ops 0 [⟨some 4,.as 0 0 (.k (.lf (.str ⟨#[]⟩))),none⟩,⟨some 5,.as 0 0 (.k (.lf (.int .i64 0))),none⟩,⟨some 6,.al [.int .i64 0,.int .i64 0],none⟩] [0,1,6]) c53_37
abbrev c53:AC:=c53_38
theorem c53_ok:compileFn Tryz.prog 53 = some (104,AC.strip c53,[.t 4,.t 5,.c 6 2 true]):=by kernel_rfl
abbrev c68_0:AC:=.seq (.ops 0 [⟨some 4,.as 0 0 (.k (.lf (.int .u8 0))),none⟩,⟨some 5,.as 0 0 (.k (.lf (.int .i64 0))),none⟩] [4,5]) .ret
abbrev c68_1:AC:=.cond (.t 15) c68_0 .skip
abbrev c68_2:AC:=.seq (.ops 0 [⟨some 11,.mv (.t 1),none⟩,⟨some 12,.bin .add (.t 11) (.k (.lf (.int .i64 1))),none⟩,⟨some 13,.mv (.t 0),none⟩,⟨some 14,.lns (.t 13),none⟩,⟨some 15,.bin .geq (.t 12) (.t 14),none⟩] [0,1,15]) c68_1
abbrev c68_3:AC:=.seq (.ops 0 [⟨some 4,.as 0 0 (.k (.lf (.int .u8 10))),none⟩,⟨some 5,.as 0 0 (.k (.lf (.int .i64 2))),none⟩] [4,5]) .ret
abbrev c68_4:AC:=.seq (.ops 0 [⟨some 4,.as 0 0 (.k (.lf (.int .u8 13))),none⟩,⟨some 5,.as 0 0 (.k (.lf (.int .i64 2))),none⟩] [4,5]) .ret
abbrev c68_5:AC:=.seq (.ops 0 [⟨some 4,.as 0 0 (.k (.lf (.int .u8 9))),none⟩,⟨some 5,.as 0 0 (.k (.lf (.int .i64 2))),none⟩] [4,5]) .ret
abbrev c68_6:AC:=.cond (.t 27) .skip (.ops 0 [⟨some 30,.bin .eql (.t 20) (.k (.lf (.int .u8 34))),none⟩,⟨some 27,.as 0 0 (.t 30),none⟩] [0,1,6,20,27])
abbrev c68_7:AC:=.seq (.ops 0 [⟨some 29,.bin .eql (.t 20) (.k (.lf (.int .u8 39))),none⟩,⟨some 27,.as 0 0 (.t 29),none⟩] [0,1,6,20,27]) c68_6
abbrev c68_8:AC:=.cond (.t 27) .skip c68_7
abbrev c68_9:AC:=.seq (.ops 0 [⟨some 28,.bin .eql (.t 20) (.k (.lf (.int .u8 92))),none⟩,⟨some 27,.as 0 0 (.t 28),none⟩] [0,1,6,20,27]) c68_8
abbrev c68_10:AC:=.seq (.ops 0 [⟨some 31,.mv (.t 6),none⟩,⟨some 4,.as 0 0 (.t 31),none⟩,⟨some 5,.as 0 0 (.k (.lf (.int .i64 2))),none⟩] [4,5]) .ret
abbrev c68_11:AC:=.seq (.ops 0 [⟨some 59,.mv (.t 7),none⟩,⟨some 60,.bin .shl (.t 59) (.k (.lf (.int .u64 4))),none⟩,⟨some 61,.mv (.t 9),none⟩,⟨some 62,.bin .or (.t 60) (.t 61),none⟩,⟨some 4,.as 0 0 (.t 62),none⟩,⟨some 5,.as 0 0 (.k (.lf (.int .i64 4))),none⟩] [4,5]) .ret
abbrev c68_12:AC:=.cond (.t 58) c68_11 .skip
abbrev c68_13:AC:=.seq (.ops 0 [⟨some 55,.mv (.t 8),none⟩,⟨some 56,.mv (.t 55),none⟩,⟨some 57,.mv (.t 10),some (56,true)⟩,⟨some 58,.pk (.t 56) (.t 57) (.k (.lf (.bool false))),none⟩] [7,9,58]) c68_12
abbrev c68_14:AC:=.seq (.ops 0 [⟨some 48,.mv (.t 0),none⟩,⟨some 49,.mv (.t 1),none⟩,⟨some 50,.bin .add (.t 49) (.k (.lf (.int .i64 3))),none⟩,⟨some 51,.ixs (.t 48) (.t 50),none⟩,⟨some 52,.call 90 [(.t 51)],none⟩,⟨some 47,.mv (.t 52),none⟩,⟨some 53,.ext (.t 47) 0,none⟩,⟨some 54,.ext (.t 47) 1,none⟩,⟨some 9,.as 0 0 (.t 53),none⟩,⟨some 10,.as 0 0 (.t 54),none⟩] [7,8,9,10]) c68_13
abbrev c68_15:AC:=.seq (.ops 0 [⟨some 40,.mv (.t 0),none⟩,⟨some 41,.mv (.t 1),none⟩,⟨some 42,.bin .add (.t 41) (.k (.lf (.int .i64 2))),none⟩,⟨some 43,.ixs (.t 40) (.t 42),none⟩,⟨some 44,.call 90 [(.t 43)],none⟩,⟨some 39,.mv (.t 44),none⟩,⟨some 45,.ext (.t 39) 0,none⟩,⟨some 46,.ext (.t 39) 1,none⟩,⟨some 7,.as 0 0 (.t 45),none⟩,⟨some 8,.as 0 0 (.t 46),none⟩] [0,1,7,8]) c68_14
abbrev c68_16:AC:=.cond (.t 38) c68_15 .skip
abbrev c68_17:AC:=.seq (.ops 0 [⟨some 34,.mv (.t 1),none⟩,⟨some 35,.bin .add (.t 34) (.k (.lf (.int .i64 3))),none⟩,⟨some 36,.mv (.t 0),none⟩,⟨some 37,.lns (.t 36),none⟩,⟨some 38,.bin .lss (.t 35) (.t 37),none⟩] [0,1,38]) c68_16
abbrev c68_18:AC:=.cond (.t 32) c68_17 .skip
abbrev c68_19:AC:=.seq (.ops 0 [⟨some 33,.bin .eql (.t 20) (.k (.lf (.int .u8 120))),none⟩,⟨some 32,.as 0 0 (.t 33),none⟩] [0,1,32]) c68_18
abbrev c68_20:AC:=.cond (.t 27) c68_10 c68_19
abbrev c68_21:AC:=.seq c68_9 c68_20
abbrev c68_22:AC:=.cond (.t 25) c68_5 c68_21
abbrev c68_23:AC:=.seq (.ops 0 [⟨some 26,.bin .eql (.t 20) (.k (.lf (.int .u8 116))),none⟩,⟨some 25,.as 0 0 (.t 26),none⟩] [0,1,6,20,25]) c68_22
abbrev c68_24:AC:=.cond (.t 23) c68_4 c68_23
abbrev c68_25:AC:=.seq (.ops 0 [⟨some 24,.bin .eql (.t 20) (.k (.lf (.int .u8 114))),none⟩,⟨some 23,.as 0 0 (.t 24),none⟩] [0,1,6,20,23]) c68_24
abbrev c68_26:AC:=.cond (.t 21) c68_3 c68_25
abbrev c68_27:AC:=.seq (.ops 0 [⟨some 22,.bin .eql (.t 20) (.k (.lf (.int .u8 110))),none⟩,⟨some 21,.as 0 0 (.t 22),none⟩] [0,1,6,20,21]) c68_26
abbrev c68_28:AC:=.block 0 c68_27
abbrev c68_29:AC:=.seq (.ops 0 [⟨some 20,.mv (.t 6),none⟩] [0,1,6,20]) c68_28
abbrev c68_30:AC:=.seq (.ops 0 [⟨some 16,.mv (.t 0),none⟩,⟨some 17,.mv (.t 1),none⟩,⟨some 18,.bin .add (.t 17) (.k (.lf (.int .i64 1))),none⟩,⟨some 19,.ixs (.t 16) (.t 18),none⟩,⟨some 6,.as 0 0 (.t 19),none⟩] [0,1,6]) c68_29
abbrev c68_31:AC:=.seq (.ops 0 [⟨some 4,.as 0 0 (.k (.lf (.int .u8 0))),none⟩,⟨some 5,.as 0 0 (.k (.lf (.int .i64 0))),none⟩] [4,5]) .ret
abbrev c68_32:AC:=.seq c68_30 c68_31
abbrev c68_33:AC:=.seq c68_2 c68_32
abbrev c68_34:AC:=.seq (.ops 0 [⟨some 4,.as 0 0 (.k (.lf (.int .u8 0))),none⟩,⟨some 5,.as 0 0 (.k (.lf (.int .i64 0))),none⟩] [0,1]) c68_33
abbrev c68:AC:=c68_34
theorem c68_ok:compileFn Tryz.prog 68 = some (63,AC.strip c68,[.t 4,.t 5]):=by kernel_rfl
abbrev c90_0:AC:=.seq (.ops 0 [⟨some 11,.mv (.t 0),none⟩,⟨some 12,.bin .sub (.t 11) (.k (.lf (.int .u8 48))),none⟩,⟨some 2,.as 0 0 (.t 12),none⟩,⟨some 3,.as 0 0 (.k (.lf (.bool true))),none⟩] [2,3]) .ret
abbrev c90_1:AC:=.seq (.ops 0 [⟨some 20,.mv (.t 0),none⟩,⟨some 21,.bin .sub (.t 20) (.k (.lf (.int .u8 97))),none⟩,⟨some 22,.bin .add (.t 21) (.k (.lf (.int .u8 10))),none⟩,⟨some 2,.as 0 0 (.t 22),none⟩,⟨some 3,.as 0 0 (.k (.lf (.bool true))),none⟩] [2,3]) .ret
abbrev c90_2:AC:=.cond (.t 13) c90_1 .skip
abbrev c90_3:AC:=.seq (.ops 0 [⟨some 14,.mv (.t 0),none⟩,⟨some 15,.bin .geq (.t 14) (.k (.lf (.int .u8 97))),none⟩,⟨some 16,.mv (.t 15),none⟩,⟨some 17,.mv (.t 0),some (16,true)⟩,⟨some 18,.bin .leq (.t 17) (.k (.lf (.int .u8 102))),some (16,true)⟩,⟨some 19,.pk (.t 16) (.t 18) (.k (.lf (.bool false))),none⟩,⟨some 13,.as 0 0 (.t 19),none⟩] [0,13]) c90_2
abbrev c90_4:AC:=.cond (.t 4) c90_0 c90_3
abbrev c90_5:AC:=.seq (.ops 0 [⟨some 5,.mv (.t 0),none⟩,⟨some 6,.bin .geq (.t 5) (.k (.lf (.int .u8 48))),none⟩,⟨some 7,.mv (.t 6),none⟩,⟨some 8,.mv (.t 0),some (7,true)⟩,⟨some 9,.bin .leq (.t 8) (.k (.lf (.int .u8 57))),some (7,true)⟩,⟨some 10,.pk (.t 7) (.t 9) (.k (.lf (.bool false))),none⟩,⟨some 4,.as 0 0 (.t 10),none⟩] [0,4]) c90_4
abbrev c90_6:AC:=.block 0 c90_5
abbrev c90_7:AC:=.seq (.ops 0 [⟨some 2,.as 0 0 (.k (.lf (.int .u8 0))),none⟩,⟨some 3,.as 0 0 (.k (.lf (.bool false))),none⟩] [2,3]) .ret
abbrev c90_8:AC:=.seq c90_6 c90_7
abbrev c90_9:AC:=.seq (.ops 0 [⟨some 2,.as 0 0 (.k (.lf (.int .u8 0))),none⟩,⟨some 3,.as 0 0 (.k (.lf (.bool false))),none⟩] [0]) c90_8
abbrev c90:AC:=c90_9
theorem c90_ok:compileFn Tryz.prog 90 = some (23,AC.strip c90,[.t 2,.t 3]):=by kernel_rfl
end Go.Proofs.YthcpaohmajjopaaGreatDoor.I
set_option maxRecDepth 100000
namespace Go.Proofs.YthcpaohmajjopaaGreatDoor.I
open Go Go.Proofs.YthcpaohmajjopaaGreatDoor.AM
abbrev c19_0:AC:=.seq (.ops 0 [⟨some 17,.mv (.t 1),none⟩,⟨some 18,.lns (.t 17),none⟩,⟨some 4,.as 0 0 (.t 18),none⟩,⟨some 5,.as 0 0 (.k (.lf (.nili))),none⟩] [4,5]) .ret
abbrev c19_1:AC:=.seq (.ops 0 [⟨some 8,.mv (.t 0),none⟩,⟨some 9,.mv (.t 0),none⟩,⟨some 10,.nc (.t 9),none⟩,⟨some 11,.fa (.t 10) 1,none⟩,⟨some 12,.ld (.t 11) 1 false,none⟩,⟨some 13,.mv (.t 1),none⟩,⟨some 14,.aps 5 (.t 12) (.t 13),none⟩,⟨some 15,.nc (.t 8),none⟩,⟨some 16,.fa (.t 15) 1,none⟩,⟨none,.st (.t 16) (.t 14) 1,none⟩] [1]) c19_0
abbrev c19_2:AC:=.seq (.ops 0 [⟨some 6,.mv (.t 0),none⟩,⟨some 7,.callp 29 0 [(.t 6)],none⟩] [0,1]) c19_1
abbrev c19_3:AC:=.seq (.ops 0 [⟨some 4,.as 0 0 (.k (.lf (.int .i64 0))),none⟩,⟨some 5,.as 0 0 (.k (.lf (.nili))),none⟩] [0,1]) c19_2
abbrev c19:AC:=c19_3
theorem c19_ok:compileFn Tryz.prog 19 = some (19,AC.strip c19,[.t 4,.t 5]):=by kernel_rfl
abbrev c21_0:AC:=.seq (.ops 0 [⟨some 4,.as 0 0 (.k (.lf (.nili))),none⟩] [4]) .ret
abbrev c21_1:AC:=.seq (.ops 0 [⟨some 7,.mv (.t 0),none⟩,⟨some 8,.mv (.t 0),none⟩,⟨some 9,.nc (.t 8),none⟩,⟨some 10,.fa (.t 9) 1,none⟩,⟨some 11,.ld (.t 10) 1 false,none⟩,⟨some 12,.mv (.t 1),none⟩,⟨some 13,.bs 5 1 1 [.int .u8 0] [(0,(.t 12))],none⟩,⟨some 14,.app 5 1 1 (.t 11) (.t 13),none⟩,⟨some 15,.nc (.t 7),none⟩,⟨some 16,.fa (.t 15) 1,none⟩,⟨none,.st (.t 16) (.t 14) 1,none⟩] []) c21_0
abbrev c21_2:AC:=.seq (.ops 0 [⟨some 5,.mv (.t 0),none⟩,⟨some 6,.callp 29 0 [(.t 5)],none⟩] [0,1]) c21_1
abbrev c21_3:AC:=.seq (.ops 0 [⟨some 4,.as 0 0 (.k (.lf (.nili))),none⟩] [0,1]) c21_2
abbrev c21:AC:=c21_3
theorem c21_ok:compileFn Tryz.prog 21 = some (17,AC.strip c21,[.t 4]):=by kernel_rfl
abbrev c22_0:AC:=.seq (.ops 0 [⟨some 3,.mv (.t 0),none⟩,⟨some 4,.nc (.t 3),none⟩,⟨some 5,.fa (.t 4) 1,none⟩,⟨some 6,.ld (.t 5) 1 false,none⟩,⟨some 7,.len (.t 6),none⟩,⟨some 2,.as 0 0 (.t 7),none⟩] [2]) .ret
abbrev c22_1:AC:=.seq (.ops 0 [⟨some 2,.as 0 0 (.k (.lf (.int .i64 0))),none⟩] [0]) c22_0
abbrev c22:AC:=c22_1
theorem c22_ok:compileFn Tryz.prog 22 = some (8,AC.strip c22,[.t 2]):=by kernel_rfl
abbrev c23_0:AC:=.seq (.reg [⟨some 3,.mv (.t 0),none⟩,⟨some 4,.nc (.t 3),none⟩,⟨some 5,.fa (.t 4) 1,none⟩,⟨some 6,.ld (.t 5) 1 false,none⟩,⟨some 7,.usd (.t 6),none⟩,⟨some 8,.mv (.t 0),none⟩,⟨some 9,.nc (.t 8),none⟩,⟨some 10,.fa (.t 9) 1,none⟩,⟨some 11,.ld (.t 10) 1 false,none⟩,⟨some 12,.len (.t 11),none⟩] [⟨some 13,.ust 5 (.t 7) (.t 12),none⟩,⟨some 2,.as 0 0 (.t 13),none⟩] [2]) .ret
abbrev c23_1:AC:=.seq (.ops 0 [⟨some 2,.as 0 0 (.k (.lf (.str ⟨#[]⟩))),none⟩] [0]) c23_0
abbrev c23:AC:=c23_1
theorem c23_ok:compileFn Tryz.prog 23 = some (14,AC.strip c23,[.t 2]):=by kernel_rfl
abbrev c29_0:AC:=.cond (.t 19) .bad .skip
abbrev c29_1:AC:=.seq (.ops 0 [⟨some 14,.mv (.t 0),none⟩,⟨some 15,.nc (.t 14),none⟩,⟨some 16,.fa (.t 15) 0,none⟩,⟨some 17,.ld (.t 16) 1 false,none⟩,⟨some 18,.mv (.t 0),none⟩,⟨some 19,.peq true (.t 17) (.t 18),none⟩] [19]) c29_0
abbrev c29_2:AC:=.cond (.t 6) (.ops 0 [⟨some 7,.mv (.t 0),none⟩,⟨some 8,.mv (.t 0),none⟩,⟨some 9,.p2u (.t 8),none⟩,⟨some 10,.ex 0 [(.t 9)],none⟩,⟨some 11,.u2p 56 (.t 10),none⟩,⟨some 12,.nc (.t 7),none⟩,⟨some 13,.fa (.t 12) 0,none⟩,⟨none,.st (.t 13) (.t 11) 1,none⟩] []) c29_1
abbrev c29_3:AC:=.seq (.ops 0 [⟨some 2,.mv (.t 0),none⟩,⟨some 3,.nc (.t 2),none⟩,⟨some 4,.fa (.t 3) 0,none⟩,⟨some 5,.ld (.t 4) 1 false,none⟩,⟨some 6,.peq false (.t 5) (.k (.lf (.nilp))),none⟩] [0,6]) c29_2
abbrev c29:AC:=c29_3
theorem c29_ok:compileFn Tryz.prog 29 = some (20,AC.strip c29,[]):=by kernel_rfl
abbrev c31_0:AC:=.seq (.ops 0 [⟨some 2,.as 0 0 (.k (.lf (.str ⟨#[]⟩))),none⟩,⟨some 3,.as 0 0 (.k (.lf (.int .i64 2))),none⟩] [2,3]) .ret
abbrev c31_1:AC:=.cond (.t 8) c31_0 .skip
abbrev c31_2:AC:=.seq (.ops 0 [⟨some 6,.mv (.t 0),none⟩,⟨some 7,.lns (.t 6),none⟩,⟨some 8,.bin .gtr (.t 7) (.k (.lf (.int .i64 65536))),none⟩] [0,8]) c31_1
abbrev c31_3:AC:=.cond (.t 13) .skip (.exit 0)
abbrev c31_4:AC:=.seq (.ops 0 [⟨some 14,.mv (.t 12),none⟩,⟨some 5,.as 0 0 (.t 14),none⟩] [0,4,5,11,12]) (.ops 0 [⟨some 15,.mv (.t 0),none⟩,⟨some 16,.mv (.t 5),none⟩,⟨some 17,.ixs (.t 15) (.t 16),none⟩,⟨some 18,.callp 44 0 [(.t 4),(.t 17)],none⟩] [0,4,11,12])
abbrev c31_5:AC:=.block 1 c31_4
abbrev c31_6:AC:=.seq c31_5 (.ops 0 [⟨some 19,.bin .add (.t 12) (.k (.lf (.int .i64 1))),none⟩,⟨some 12,.mv (.t 19),none⟩] [0,4,11,12])
abbrev c31_7:AC:=.seq c31_3 c31_6
abbrev c31_8:AC:=.seq (.ops 0 [⟨some 13,.bin .lss (.t 12) (.t 11),none⟩] [0,4,11,12,13]) c31_7
abbrev c31_9:AC:=.loop c31_8 [0,4,11,12]
abbrev c31_10:AC:=.block 0 c31_9
abbrev c31_11:AC:=.seq (.ops 0 [⟨some 10,.mv (.t 0),none⟩,⟨some 11,.lns (.t 10),none⟩,⟨some 12,.mv (.k (.lf (.int .i64 0))),none⟩] [0,4,11,12]) c31_10
abbrev c31_12:AC:=.seq (.ops 0 [⟨some 2,.as 0 0 (.k (.lf (.str ⟨#[]⟩))),none⟩,⟨some 3,.as 0 0 (.k (.lf (.int .i64 2))),none⟩] [2,3]) .ret
abbrev c31_13:AC:=.cond (.t 22) c31_12 .skip
abbrev c31_14:AC:=.seq (.ops 0 [⟨some 21,.callp 22 0 [(.t 4)],none⟩,⟨some 22,.bin .gtr (.t 21) (.k (.lf (.int .i64 65536))),none⟩] [4,22]) c31_13
abbrev c31_15:AC:=.seq (.ops 0 [⟨some 23,.callp 23 0 [(.t 4)],none⟩,⟨some 2,.as 0 0 (.t 23),none⟩,⟨some 3,.as 0 0 (.k (.lf (.int .i64 0))),none⟩] [2,3]) .ret
abbrev c31_16:AC:=.seq c31_14 c31_15
abbrev c31_17:AC:=.seq (.ops 0 [⟨some 20,.callp 21 0 [(.t 4),(.k (.lf (.int .u8 39)))],none⟩] [4]) c31_16
abbrev c31_18:AC:=.seq c31_11 c31_17
abbrev c31_19:AC:=.seq (.ops 0 [⟨some 9,.callp 21 0 [(.t 4),(.k (.lf (.int .u8 39)))],none⟩] [0,4]) c31_18
abbrev c31_20:AC:=.seq (.ops 0 [⟨some 4,.alt 56 [.nilp,.lst (.own 515 5) 1 [] []],none⟩] [0,4]) c31_19
abbrev c31_21:AC:=.seq c31_2 c31_20
abbrev c31_22:AC:=.seq (.ops 0 [⟨some 2,.as 0 0 (.k (.lf (.str ⟨#[]⟩))),none⟩,⟨some 3,.as 0 0 (.k (.lf (.int .i64 0))),none⟩] [0]) c31_21
abbrev c31:AC:=c31_22
theorem c31_ok:compileFn Tryz.prog 31 = some (24,AC.strip c31,[.t 2,.t 3]):=by kernel_rfl
abbrev c44_0:AC:=.seq (.ops 0 [⟨some 38,.mv (.t 0),none⟩,⟨some 39,.callp 21 0 [(.t 38),(.k (.lf (.int .u8 92)))],none⟩] [0,1]) (.ops 0 [⟨some 40,.mv (.t 0),none⟩,⟨some 41,.mv (.t 1),none⟩,⟨some 42,.callp 21 0 [(.t 40),(.t 41)],none⟩] [])
abbrev c44_1:AC:=.seq (.ops 0 [⟨some 6,.mv (.t 0),none⟩,⟨some 7,.mv (.t 1),none⟩,⟨some 8,.bin .shr (.t 7) (.k (.lf (.int .u64 4))),none⟩,⟨some 9,.ixs (.k (.lf (.str ⟨#[48,49,50,51,52,53,54,55,56,57,97,98,99,100,101,102]⟩))) (.t 8),none⟩,⟨some 10,.callp 21 0 [(.t 6),(.t 9)],none⟩] [0,1]) (.ops 0 [⟨some 11,.mv (.t 0),none⟩,⟨some 12,.mv (.t 1),none⟩,⟨some 13,.bin .and (.t 12) (.k (.lf (.int .u8 15))),none⟩,⟨some 14,.ixs (.k (.lf (.str ⟨#[48,49,50,51,52,53,54,55,56,57,97,98,99,100,101,102]⟩))) (.t 13),none⟩,⟨some 15,.callp 21 0 [(.t 11),(.t 14)],none⟩] [])
abbrev c44_2:AC:=.seq (.ops 0 [⟨some 4,.mv (.t 0),none⟩,⟨some 5,.callp 19 0 [(.t 4),(.k (.lf (.str ⟨#[92,120]⟩)))],none⟩] [0,1]) c44_1
abbrev c44_3:AC:=.cond (.t 43) (.ops 0 [⟨some 50,.mv (.t 0),none⟩,⟨some 51,.mv (.t 1),none⟩,⟨some 52,.callp 21 0 [(.t 50),(.t 51)],none⟩] []) c44_2
abbrev c44_4:AC:=.seq (.ops 0 [⟨some 44,.mv (.t 1),none⟩,⟨some 45,.bin .geq (.t 44) (.k (.lf (.int .u8 32))),none⟩,⟨some 46,.mv (.t 45),none⟩,⟨some 47,.mv (.t 1),some (46,true)⟩,⟨some 48,.bin .leq (.t 47) (.k (.lf (.int .u8 126))),some (46,true)⟩,⟨some 49,.pk (.t 46) (.t 48) (.k (.lf (.bool false))),none⟩,⟨some 43,.as 0 0 (.t 49),none⟩] [0,1,43]) c44_3
abbrev c44_5:AC:=.cond (.t 31) c44_0 c44_4
abbrev c44_6:AC:=.seq (.ops 0 [⟨some 32,.mv (.t 1),none⟩,⟨some 33,.bin .eql (.t 32) (.k (.lf (.int .u8 39))),none⟩,⟨some 34,.mv (.t 33),none⟩,⟨some 35,.mv (.t 1),some (34,false)⟩,⟨some 36,.bin .eql (.t 35) (.k (.lf (.int .u8 92))),some (34,false)⟩,⟨some 37,.pk (.t 34) (.k (.lf (.bool true))) (.t 36),none⟩,⟨some 31,.as 0 0 (.t 37),none⟩] [0,1,31]) c44_5
abbrev c44_7:AC:=.cond (.t 26) (.ops 0 [⟨some 29,.mv (.t 0),none⟩,⟨some 30,.callp 19 0 [(.t 29),(.k (.lf (.str ⟨#[92,116]⟩)))],none⟩] []) c44_6
abbrev c44_8:AC:=.seq (.ops 0 [⟨some 27,.mv (.t 1),none⟩,⟨some 28,.bin .eql (.t 27) (.k (.lf (.int .u8 9))),none⟩,⟨some 26,.as 0 0 (.t 28),none⟩] [0,1,26]) c44_7
abbrev c44_9:AC:=.cond (.t 21) (.ops 0 [⟨some 24,.mv (.t 0),none⟩,⟨some 25,.callp 19 0 [(.t 24),(.k (.lf (.str ⟨#[92,114]⟩)))],none⟩] []) c44_8
abbrev c44_10:AC:=.seq (.ops 0 [⟨some 22,.mv (.t 1),none⟩,⟨some 23,.bin .eql (.t 22) (.k (.lf (.int .u8 13))),none⟩,⟨some 21,.as 0 0 (.t 23),none⟩] [0,1,21]) c44_9
abbrev c44_11:AC:=.cond (.t 16) (.ops 0 [⟨some 19,.mv (.t 0),none⟩,⟨some 20,.callp 19 0 [(.t 19),(.k (.lf (.str ⟨#[92,110]⟩)))],none⟩] []) c44_10
abbrev c44_12:AC:=.seq (.ops 0 [⟨some 17,.mv (.t 1),none⟩,⟨some 18,.bin .eql (.t 17) (.k (.lf (.int .u8 10))),none⟩,⟨some 16,.as 0 0 (.t 18),none⟩] [0,1,16]) c44_11
abbrev c44_13:AC:=.block 0 c44_12
abbrev c44:AC:=c44_13
theorem c44_ok:compileFn Tryz.prog 44 = some (53,AC.strip c44,[]):=by kernel_rfl
end Go.Proofs.YthcpaohmajjopaaGreatDoor.I
set_option maxRecDepth 100000
namespace Go.Proofs.YthcpaohmajjopaaGreatDoor.I
open Go Go.Proofs.YthcpaohmajjopaaGreatDoor.AM
end Go.Proofs.YthcpaohmajjopaaGreatDoor.I
set_option maxRecDepth 100000
namespace Go.Proofs.YthcpaohmajjopaaGreatDoor.I
open Go Go.Proofs.YthcpaohmajjopaaGreatDoor.AM
abbrev c27_0:AC:=.seq (.ops 0 [⟨some 18,.mv (.t 1),none⟩,⟨some 19,.bin .eql (.t 18) (.k (.lf (.int .i64 0))),none⟩,⟨some 20,.mv (.t 19),none⟩,⟨some 21,.mv (.t 2),some (20,true)⟩,⟨some 22,.bin .eql (.t 21) (.k (.lf (.str ⟨#[]⟩))),some (20,true)⟩,⟨some 23,.pk (.t 20) (.t 22) (.k (.lf (.bool false))),none⟩,⟨some 6,.as 0 0 (.t 23),none⟩] [6]) .ret
abbrev c27_1:AC:=.cond (.t 17) c27_0 .skip
abbrev c27_2:AC:=.seq (.ops 0 [⟨some 16,.mv (.t 0),none⟩,⟨some 17,.bin .eql (.t 16) (.k (.lf (.int .i64 1))),none⟩] [1,2,7,17]) c27_1
abbrev c27_3:AC:=.seq (.ops 0 [⟨some 32,.mv (.t 9),none⟩,⟨some 33,.bin .eql (.t 32) (.k (.lf (.int .i64 0))),none⟩,⟨some 6,.as 0 0 (.t 33),none⟩] [6]) .ret
abbrev c27_4:AC:=.seq (.ops 0 [⟨some 25,.ld (.t 7) 7 true,none⟩,⟨some 26,.bd [.int .i64 0,.int .i64 0,.str ⟨#[]⟩,.int .u64 0,.int .u64 0,.int .u64 0,.int .u64 0] [(0,1,(.k (.lf (.int .i64 3))))],none⟩,⟨some 27,.bs 86 7 1 [.int .i64 0,.int .i64 0,.str ⟨#[]⟩,.int .u64 0,.int .u64 0,.int .u64 0,.int .u64 0] [(0,(.t 26))],none⟩,⟨some 28,.bs 88 1 1 [.lst .ro 7 [] []] [(0,(.t 27))],none⟩,⟨some 29,.call 41 [(.t 25),(.t 28)],none⟩,⟨some 24,.mv (.t 29),none⟩,⟨some 30,.ext (.t 24) 0,none⟩,⟨some 31,.ext (.t 24) 1,none⟩,⟨some 8,.as 86 7 (.t 30),none⟩,⟨some 9,.as 0 0 (.t 31),none⟩] [9]) c27_3
abbrev c27_5:AC:=.seq c27_2 c27_4
abbrev c27_6:AC:=.seq (.ops 0 [⟨some 10,.mv (.t 0),none⟩,⟨some 11,.bin .sub (.t 10) (.k (.lf (.int .i64 2))),none⟩,⟨some 12,.bin .add (.t 11) (.k (.lf (.int .i64 18))),none⟩,⟨some 13,.mv (.t 1),none⟩,⟨some 14,.mv (.t 2),none⟩,⟨some 15,.bd [.int .i64 0,.int .i64 0,.str ⟨#[]⟩,.int .u64 0,.int .u64 0,.int .u64 0,.int .u64 0] [(0,1,(.t 12)),(1,1,(.t 13)),(2,1,(.t 14))],none⟩,⟨some 7,.al [.int .i64 0,.int .i64 0,.str ⟨#[]⟩,.int .u64 0,.int .u64 0,.int .u64 0,.int .u64 0],none⟩,⟨none,.st (.t 7) (.t 15) 7,none⟩] [0,1,2,7]) c27_5
abbrev c27_7:AC:=.seq (.ops 0 [⟨some 6,.as 0 0 (.k (.lf (.bool false))),none⟩] [0,1,2]) c27_6
abbrev c27:AC:=c27_7
theorem c27_ok:compileFn Tryz.prog 27 = some (34,AC.strip c27,[.t 6]):=by kernel_rfl
abbrev c41_0:AC:=.seq (.ops 0 [⟨some 4,.as 86 7 (.k (.lf (.lst .nl 7 [] []))),none⟩,⟨some 5,.as 0 0 (.k (.lf (.int .i64 40))),none⟩] [4,5]) .ret
abbrev c41_1:AC:=.seq (.ops 0 [⟨some 4,.as 86 7 (.k (.lf (.lst .nl 7 [] []))),none⟩,⟨some 5,.as 0 0 (.k (.lf (.int .i64 41))),none⟩] [4,5]) .ret
abbrev c41_2:AC:=.seq (.ops 0 [⟨some 4,.as 86 7 (.k (.lf (.lst .nl 7 [] []))),none⟩,⟨some 5,.as 0 0 (.k (.lf (.int .i64 42))),none⟩] [4,5]) .ret
abbrev c41_3:AC:=.cond (.t 22) c41_2 .skip
abbrev c41_4:AC:=.seq (.ops 0 [⟨some 23,.mv (.t 6),none⟩,⟨some 24,.mv (.t 1),none⟩,⟨some 25,.len (.t 24),none⟩,⟨some 26,.bin .neq (.t 23) (.t 25),none⟩,⟨some 22,.as 0 0 (.t 26),none⟩] [1,2,22]) c41_3
abbrev c41_5:AC:=.cond (.t 18) c41_1 c41_4
abbrev c41_6:AC:=.seq (.ops 0 [⟨some 19,.ld (.t 2) 7 true,none⟩,⟨some 20,.call 56 [(.t 19)],none⟩,⟨some 21,.un .not (.t 20),none⟩,⟨some 18,.as 0 0 (.t 21),none⟩] [1,2,6,18]) c41_5
abbrev c41_7:AC:=.cond (.t 15) c41_0 c41_6
abbrev c41_8:AC:=.seq (.ops 0 [⟨some 16,.mv (.t 6),none⟩,⟨some 17,.bin .lss (.t 16) (.k (.lf (.int .i64 0))),none⟩,⟨some 15,.as 0 0 (.t 17),none⟩] [1,2,6,15]) c41_7
abbrev c41_9:AC:=.block 0 c41_8
abbrev c41_10:AC:=.seq (.ops 0 [⟨some 12,.fa (.t 2) 0,none⟩,⟨some 13,.ld (.t 12) 1 false,none⟩,⟨some 14,.call 55 [(.t 13)],none⟩,⟨some 6,.as 0 0 (.t 14),none⟩] [1,2,6]) c41_9
abbrev c41_11:AC:=.cond (.t 30) .skip (.exit 1)
abbrev c41_12:AC:=.seq (.ops 0 [⟨some 40,.mv (.t 11),none⟩,⟨some 4,.as 86 7 (.k (.lf (.lst .nl 7 [] []))),none⟩,⟨some 5,.as 0 0 (.t 40),none⟩] [4,5]) .ret
abbrev c41_13:AC:=.cond (.t 39) c41_12 .skip
abbrev c41_14:AC:=.seq (.ops 0 [⟨some 38,.mv (.t 11),none⟩,⟨some 39,.bin .neq (.t 38) (.k (.lf (.int .i64 0))),none⟩] [2,7,9,11,27,28,29,39]) c41_13
abbrev c41_15:AC:=.seq (.ops 0 [⟨some 34,.mv (.t 9),none⟩,⟨some 35,.call 57 [(.t 34)],none⟩,⟨some 33,.mv (.t 35),none⟩,⟨some 36,.ext (.t 33) 0,none⟩,⟨some 37,.ext (.t 33) 1,none⟩,⟨some 10,.as 0 0 (.t 36),none⟩,⟨some 11,.as 0 0 (.t 37),none⟩] [2,7,9,11,27,28,29]) c41_14
abbrev c41_16:AC:=.seq c41_15 (.ops 0 [⟨some 41,.mv (.t 7),none⟩,⟨some 42,.mv (.t 9),none⟩,⟨some 43,.app 86 7 64 (.t 41) (.t 42),none⟩,⟨some 7,.as 86 7 (.t 43),none⟩] [2,7,27,28,29])
abbrev c41_17:AC:=.seq (.ops 0 [⟨some 31,.ia (.t 27) (.t 29) 1,none⟩,⟨some 32,.ld (.t 31) 1 false,none⟩,⟨some 9,.as 86 7 (.t 32),none⟩] [2,7,9,27,28,29]) c41_16
abbrev c41_18:AC:=.block 2 c41_17
abbrev c41_19:AC:=.seq c41_18 (.ops 0 [⟨some 44,.bin .add (.t 29) (.k (.lf (.int .i64 1))),none⟩,⟨some 29,.mv (.t 44),none⟩] [2,7,27,28,29])
abbrev c41_20:AC:=.seq c41_11 c41_19
abbrev c41_21:AC:=.seq (.ops 0 [⟨some 30,.bin .lss (.t 29) (.t 28),none⟩] [2,7,27,28,29,30]) c41_20
abbrev c41_22:AC:=.loop c41_21 [2,7,27,28,29]
abbrev c41_23:AC:=.block 1 c41_22
abbrev c41_24:AC:=.seq (.ops 0 [⟨some 27,.mv (.t 1),none⟩,⟨some 28,.len (.t 27),none⟩,⟨some 29,.mv (.k (.lf (.int .i64 0))),none⟩] [2,7,27,28,29]) c41_23
abbrev c41_25:AC:=.seq (.ops 0 [⟨some 45,.mv (.t 7),none⟩,⟨some 46,.ld (.t 2) 7 true,none⟩,⟨some 47,.bs 86 7 1 [.int .i64 0,.int .i64 0,.str ⟨#[]⟩,.int .u64 0,.int .u64 0,.int .u64 0,.int .u64 0] [(0,(.t 46))],none⟩,⟨some 48,.app 86 7 64 (.t 45) (.t 47),none⟩,⟨some 49,.call 58 [(.t 48)],none⟩,⟨some 50,.ext (.t 49) 0,none⟩,⟨some 51,.ext (.t 49) 1,none⟩,⟨some 4,.as 86 7 (.t 50),none⟩,⟨some 5,.as 0 0 (.t 51),none⟩] [4,5]) .ret
abbrev c41_26:AC:=.seq c41_24 c41_25
abbrev c41_27:AC:=.seq (.ops 0 [⟨some 7,.as 86 7 (.k (.lf (.lst .nl 7 [] []))),none⟩] [1,2,7]) c41_26
abbrev c41_28:AC:=.seq c41_10 c41_27
abbrev c41_29:AC:=.seq (.ops 0 [⟨some 2,.bx (.t 0),none⟩,⟨some 4,.as 86 7 (.k (.lf (.lst .nl 7 [] []))),none⟩,⟨some 5,.as 0 0 (.k (.lf (.int .i64 0))),none⟩] [1,2]) c41_28
abbrev c41:AC:=c41_29
theorem c41_ok:compileFn Tryz.prog 41 = some (52,AC.strip c41,[.t 4,.t 5]):=by kernel_rfl
abbrev c55_0:AC:=.seq (.ops 0 [⟨some 2,.as 0 0 (.k (.lf (.int .i64 2))),none⟩] [2]) .ret
abbrev c55_1:AC:=.seq (.ops 0 [⟨some 2,.as 0 0 (.k (.lf (.int .i64 0))),none⟩] [2]) .ret
abbrev c55_2:AC:=.seq (.ops 0 [⟨some 2,.as 0 0 (.k (.lf (.int .i64 1))),none⟩] [2]) .ret
abbrev c55_3:AC:=.cond (.t 21) c55_2 .skip
abbrev c55_4:AC:=.seq (.ops 0 [⟨some 22,.mv (.t 0),none⟩,⟨some 23,.bin .gtr (.t 22) (.k (.lf (.int .i64 8))),none⟩,⟨some 24,.mv (.t 23),none⟩,⟨some 25,.mv (.t 0),some (24,true)⟩,⟨some 26,.bin .leq (.t 25) (.k (.lf (.int .i64 23))),some (24,true)⟩,⟨some 27,.pk (.t 24) (.t 26) (.k (.lf (.bool false))),none⟩,⟨some 21,.as 0 0 (.t 27),none⟩] [21]) c55_3
abbrev c55_5:AC:=.cond (.t 10) c55_1 c55_4
abbrev c55_6:AC:=.seq (.ops 0 [⟨some 11,.mv (.t 0),none⟩,⟨some 12,.bin .geq (.t 11) (.k (.lf (.int .i64 1))),none⟩,⟨some 13,.mv (.t 12),none⟩,⟨some 14,.mv (.t 0),some (13,true)⟩,⟨some 15,.bin .leq (.t 14) (.k (.lf (.int .i64 6))),some (13,true)⟩,⟨some 16,.pk (.t 13) (.t 15) (.k (.lf (.bool false))),none⟩,⟨some 17,.mv (.t 16),none⟩,⟨some 18,.mv (.t 0),some (17,false)⟩,⟨some 19,.bin .eql (.t 18) (.k (.lf (.int .i64 17))),some (17,false)⟩,⟨some 20,.pk (.t 17) (.k (.lf (.bool true))) (.t 19),none⟩,⟨some 10,.as 0 0 (.t 20),none⟩] [0,10]) c55_5
abbrev c55_7:AC:=.cond (.t 3) c55_0 c55_6
abbrev c55_8:AC:=.seq (.ops 0 [⟨some 4,.mv (.t 0),none⟩,⟨some 5,.bin .eql (.t 4) (.k (.lf (.int .i64 7))),none⟩,⟨some 6,.mv (.t 5),none⟩,⟨some 7,.mv (.t 0),some (6,false)⟩,⟨some 8,.bin .eql (.t 7) (.k (.lf (.int .i64 8))),some (6,false)⟩,⟨some 9,.pk (.t 6) (.k (.lf (.bool true))) (.t 8),none⟩,⟨some 3,.as 0 0 (.t 9),none⟩] [0,3]) c55_7
abbrev c55_9:AC:=.block 0 c55_8
abbrev c55_10:AC:=.seq (.ops 0 [⟨some 2,.as 0 0 (.k (.lf (.int .i64 (-1)))),none⟩] [2]) .ret
abbrev c55_11:AC:=.seq c55_9 c55_10
abbrev c55_12:AC:=.seq (.ops 0 [⟨some 2,.as 0 0 (.k (.lf (.int .i64 0))),none⟩] [0]) c55_11
abbrev c55:AC:=c55_12
theorem c55_ok:compileFn Tryz.prog 55 = some (28,AC.strip c55,[.t 2]):=by kernel_rfl
abbrev c56_0:AC:=.seq (.ops 0 [⟨some 2,.as 0 0 (.k (.lf (.bool false))),none⟩] [2]) .ret
abbrev c56_1:AC:=.cond (.t 11) c56_0 .skip
abbrev c56_2:AC:=.seq (.ops 0 [⟨some 3,.fa (.t 1) 0,none⟩,⟨some 4,.ld (.t 3) 1 false,none⟩,⟨some 5,.bin .neq (.t 4) (.k (.lf (.int .i64 5))),none⟩,⟨some 6,.mv (.t 5),none⟩,⟨some 7,.fa (.t 1) 3,some (6,true)⟩,⟨some 8,.ld (.t 7) 4 true,some (6,true)⟩,⟨some 9,.bd [.int .u64 0,.int .u64 0,.int .u64 0,.int .u64 0] [],some (6,true)⟩,⟨some 10,.beq true [2,2,2,2] (.t 8) (.t 9),some (6,true)⟩,⟨some 11,.pk (.t 6) (.t 10) (.k (.lf (.bool false))),none⟩] [1,11]) c56_1
abbrev c56_3:AC:=.seq (.ops 0 [⟨some 2,.as 0 0 (.k (.lf (.bool false))),none⟩] [2]) .ret
abbrev c56_4:AC:=.cond (.t 30) c56_3 .skip
abbrev c56_5:AC:=.seq (.ops 0 [⟨some 12,.fa (.t 1) 1,none⟩,⟨some 13,.ld (.t 12) 1 false,none⟩,⟨some 14,.bin .lss (.t 13) (.k (.lf (.int .i64 0))),none⟩,⟨some 15,.mv (.t 14),none⟩,⟨some 16,.fa (.t 1) 1,some (15,false)⟩,⟨some 17,.ld (.t 16) 1 false,some (15,false)⟩,⟨some 18,.bin .gtr (.t 17) (.k (.lf (.int .i64 50))),some (15,false)⟩,⟨some 19,.pk (.t 15) (.k (.lf (.bool true))) (.t 18),none⟩,⟨some 20,.mv (.t 19),none⟩,⟨some 21,.fa (.t 1) 1,some (20,false)⟩,⟨some 22,.ld (.t 21) 1 false,some (20,false)⟩,⟨some 23,.bin .gtr (.t 22) (.k (.lf (.int .i64 0))),some (20,false)⟩,⟨some 24,.mv (.t 23),some (20,false)⟩,⟨some 25,.fa (.t 1) 0,some (24,true)⟩,⟨some 26,.ld (.t 25) 1 false,some (24,true)⟩,⟨some 27,.call 72 [(.t 26)],some (24,true)⟩,⟨some 28,.un .not (.t 27),some (24,true)⟩,⟨some 29,.pk (.t 24) (.t 28) (.k (.lf (.bool false))),some (20,false)⟩,⟨some 30,.pk (.t 20) (.k (.lf (.bool true))) (.t 29),none⟩] [1,30]) c56_4
abbrev c56_6:AC:=.seq (.ops 0 [⟨some 35,.fa (.t 1) 2,none⟩,⟨some 36,.ld (.t 35) 1 false,none⟩,⟨some 37,.bin .neq (.t 36) (.k (.lf (.str ⟨#[]⟩))),none⟩,⟨some 38,.mv (.t 37),none⟩,⟨some 39,.fa (.t 1) 2,some (38,true)⟩,⟨some 40,.ld (.t 39) 1 false,some (38,true)⟩,⟨some 41,.lns (.t 40),some (38,true)⟩,⟨some 42,.bin .leq (.t 41) (.k (.lf (.int .i64 255))),some (38,true)⟩,⟨some 43,.pk (.t 38) (.t 42) (.k (.lf (.bool false))),none⟩,⟨some 2,.as 0 0 (.t 43),none⟩] [2]) .ret
abbrev c56_7:AC:=.seq (.ops 0 [⟨some 46,.fa (.t 1) 2,none⟩,⟨some 47,.ld (.t 46) 1 false,none⟩,⟨some 48,.call 73 [(.t 47)],none⟩,⟨some 2,.as 0 0 (.t 48),none⟩] [2]) .ret
abbrev c56_8:AC:=.seq (.ops 0 [⟨some 51,.fa (.t 1) 2,none⟩,⟨some 52,.ld (.t 51) 1 false,none⟩,⟨some 53,.bin .eql (.t 52) (.k (.lf (.str ⟨#[]⟩))),none⟩,⟨some 54,.mv (.t 53),none⟩,⟨some 55,.fa (.t 1) 2,some (54,false)⟩,⟨some 56,.ld (.t 55) 1 false,some (54,false)⟩,⟨some 57,.call 73 [(.t 56)],some (54,false)⟩,⟨some 58,.pk (.t 54) (.k (.lf (.bool true))) (.t 57),none⟩,⟨some 2,.as 0 0 (.t 58),none⟩] [2]) .ret
abbrev c56_9:AC:=.seq (.ops 0 [⟨some 61,.fa (.t 1) 2,none⟩,⟨some 62,.ld (.t 61) 1 false,none⟩,⟨some 63,.call 74 [(.t 62)],none⟩,⟨some 2,.as 0 0 (.t 63),none⟩] [2]) .ret
abbrev c56_10:AC:=.cond (.t 59) c56_9 .skip
abbrev c56_11:AC:=.seq (.ops 0 [⟨some 60,.bin .eql (.t 32) (.k (.lf (.int .i64 22))),none⟩,⟨some 59,.as 0 0 (.t 60),none⟩] [1,59]) c56_10
abbrev c56_12:AC:=.cond (.t 49) c56_8 c56_11
abbrev c56_13:AC:=.seq (.ops 0 [⟨some 50,.bin .eql (.t 32) (.k (.lf (.int .i64 19))),none⟩,⟨some 49,.as 0 0 (.t 50),none⟩] [1,32,49]) c56_12
abbrev c56_14:AC:=.cond (.t 44) c56_7 c56_13
abbrev c56_15:AC:=.seq (.ops 0 [⟨some 45,.bin .eql (.t 32) (.k (.lf (.int .i64 6))),none⟩,⟨some 44,.as 0 0 (.t 45),none⟩] [1,32,44]) c56_14
abbrev c56_16:AC:=.cond (.t 33) c56_6 c56_15
abbrev c56_17:AC:=.seq (.ops 0 [⟨some 34,.bin .eql (.t 32) (.k (.lf (.int .i64 4))),none⟩,⟨some 33,.as 0 0 (.t 34),none⟩] [1,32,33]) c56_16
abbrev c56_18:AC:=.block 0 c56_17
abbrev c56_19:AC:=.seq (.ops 0 [⟨some 31,.fa (.t 1) 0,none⟩,⟨some 32,.ld (.t 31) 1 false,none⟩] [1,32]) c56_18
abbrev c56_20:AC:=.seq (.ops 0 [⟨some 64,.fa (.t 1) 2,none⟩,⟨some 65,.ld (.t 64) 1 false,none⟩,⟨some 66,.bin .eql (.t 65) (.k (.lf (.str ⟨#[]⟩))),none⟩,⟨some 2,.as 0 0 (.t 66),none⟩] [2]) .ret
abbrev c56_21:AC:=.seq c56_19 c56_20
abbrev c56_22:AC:=.seq c56_5 c56_21
abbrev c56_23:AC:=.seq c56_2 c56_22
abbrev c56_24:AC:=.seq (.ops 0 [⟨some 1,.bx (.t 0),none⟩,⟨some 2,.as 0 0 (.k (.lf (.bool false))),none⟩] [1]) c56_23
abbrev c56:AC:=c56_24
theorem c56_ok:compileFn Tryz.prog 56 = some (67,AC.strip c56,[.t 2]):=by kernel_rfl
abbrev c57_0:AC:=.seq (.ops 0 [⟨some 2,.as 0 0 (.k (.lf (.int .i64 0))),none⟩,⟨some 3,.as 0 0 (.k (.lf (.int .i64 2))),none⟩] [2,3]) .ret
abbrev c57_1:AC:=.cond (.t 6) c57_0 .skip
abbrev c57_2:AC:=.seq (.ops 0 [⟨some 4,.mv (.t 0),none⟩,⟨some 5,.len (.t 4),none⟩,⟨some 6,.bin .gtr (.t 5) (.k (.lf (.int .i64 2048))),none⟩] [0,6]) c57_1
abbrev c57_3:AC:=.seq (.ops 0 [⟨some 7,.mv (.t 0),none⟩,⟨some 8,.call 75 [(.t 7),(.k (.lf (.fn 76 [] [])))],none⟩,⟨some 9,.ext (.t 8) 0,none⟩,⟨some 10,.ext (.t 8) 1,none⟩,⟨some 2,.as 0 0 (.t 9),none⟩,⟨some 3,.as 0 0 (.t 10),none⟩] [2,3]) .ret
abbrev c57_4:AC:=.seq c57_2 c57_3
abbrev c57_5:AC:=.seq (.ops 0 [⟨some 2,.as 0 0 (.k (.lf (.int .i64 0))),none⟩,⟨some 3,.as 0 0 (.k (.lf (.int .i64 0))),none⟩] [0]) c57_4
abbrev c57:AC:=c57_5
theorem c57_ok:compileFn Tryz.prog 57 = some (11,AC.strip c57,[.t 2,.t 3]):=by kernel_rfl
abbrev c58_0:AC:=.seq (.ops 0 [⟨some 13,.mv (.t 5),none⟩,⟨some 2,.as 86 7 (.k (.lf (.lst .nl 7 [] []))),none⟩,⟨some 3,.as 0 0 (.t 13),none⟩] [2,3]) .ret
abbrev c58_1:AC:=.cond (.t 12) c58_0 .skip
abbrev c58_2:AC:=.seq (.ops 0 [⟨some 11,.mv (.t 5),none⟩,⟨some 12,.bin .neq (.t 11) (.k (.lf (.int .i64 0))),none⟩] [0,5,12]) c58_1
abbrev c58_3:AC:=.seq (.ops 0 [⟨some 7,.mv (.t 0),none⟩,⟨some 8,.call 57 [(.t 7)],none⟩,⟨some 6,.mv (.t 8),none⟩,⟨some 9,.ext (.t 6) 0,none⟩,⟨some 10,.ext (.t 6) 1,none⟩,⟨some 4,.as 0 0 (.t 9),none⟩,⟨some 5,.as 0 0 (.t 10),none⟩] [0,5]) c58_2
abbrev c58_4:AC:=.seq (.ops 0 [⟨some 14,.mv (.t 0),none⟩,⟨some 2,.as 86 7 (.t 14),none⟩,⟨some 3,.as 0 0 (.k (.lf (.int .i64 0))),none⟩] [2,3]) .ret
abbrev c58_5:AC:=.seq c58_3 c58_4
abbrev c58_6:AC:=.seq (.ops 0 [⟨some 2,.as 86 7 (.k (.lf (.lst .nl 7 [] []))),none⟩,⟨some 3,.as 0 0 (.k (.lf (.int .i64 0))),none⟩] [0]) c58_5
abbrev c58:AC:=c58_6
theorem c58_ok:compileFn Tryz.prog 58 = some (15,AC.strip c58,[.t 2,.t 3]):=by kernel_rfl
abbrev c72_0:AC:=.seq (.ops 0 [⟨some 3,.mv (.t 0),none⟩,⟨some 4,.bin .geq (.t 3) (.k (.lf (.int .i64 14))),none⟩,⟨some 5,.mv (.t 4),none⟩,⟨some 6,.mv (.t 0),some (5,true)⟩,⟨some 7,.bin .leq (.t 6) (.k (.lf (.int .i64 16))),some (5,true)⟩,⟨some 8,.pk (.t 5) (.t 7) (.k (.lf (.bool false))),none⟩,⟨some 9,.mv (.t 8),none⟩,⟨some 10,.mv (.t 0),some (9,false)⟩,⟨some 11,.bin .eql (.t 10) (.k (.lf (.int .i64 23))),some (9,false)⟩,⟨some 12,.pk (.t 9) (.k (.lf (.bool true))) (.t 11),none⟩,⟨some 2,.as 0 0 (.t 12),none⟩] [2]) .ret
abbrev c72_1:AC:=.seq (.ops 0 [⟨some 2,.as 0 0 (.k (.lf (.bool false))),none⟩] [0]) c72_0
abbrev c72:AC:=c72_1
theorem c72_ok:compileFn Tryz.prog 72 = some (13,AC.strip c72,[.t 2]):=by kernel_rfl
abbrev c73_0:AC:=.seq (.ops 0 [⟨some 2,.as 0 0 (.k (.lf (.bool false))),none⟩] [2]) .ret
abbrev c73_1:AC:=.cond (.t 16) c73_0 .skip
abbrev c73_2:AC:=.seq (.ops 0 [⟨some 4,.mv (.t 0),none⟩,⟨some 5,.bin .eql (.t 4) (.k (.lf (.str ⟨#[]⟩))),none⟩,⟨some 6,.mv (.t 5),none⟩,⟨some 7,.mv (.t 0),some (6,false)⟩,⟨some 8,.lns (.t 7),some (6,false)⟩,⟨some 9,.bin .gtr (.t 8) (.k (.lf (.int .i64 32))),some (6,false)⟩,⟨some 10,.pk (.t 6) (.k (.lf (.bool true))) (.t 9),none⟩,⟨some 11,.mv (.t 10),none⟩,⟨some 12,.mv (.t 0),some (11,false)⟩,⟨some 13,.ixs (.t 12) (.k (.lf (.int .i64 0))),some (11,false)⟩,⟨some 14,.call 95 [(.t 13)],some (11,false)⟩,⟨some 15,.un .not (.t 14),some (11,false)⟩,⟨some 16,.pk (.t 11) (.k (.lf (.bool true))) (.t 15),none⟩] [0,16]) c73_1
abbrev c73_3:AC:=.cond (.t 20) .skip (.exit 0)
abbrev c73_4:AC:=.seq (.ops 0 [⟨some 2,.as 0 0 (.k (.lf (.bool false))),none⟩] [2]) .ret
abbrev c73_5:AC:=.cond (.t 38) c73_4 .skip
abbrev c73_6:AC:=.seq (.ops 0 [⟨some 22,.mv (.t 0),none⟩,⟨some 23,.mv (.t 3),none⟩,⟨some 24,.ixs (.t 22) (.t 23),none⟩,⟨some 25,.call 95 [(.t 24)],none⟩,⟨some 26,.un .not (.t 25),none⟩,⟨some 27,.mv (.t 26),none⟩,⟨some 28,.mv (.t 0),some (27,true)⟩,⟨some 29,.mv (.t 3),some (27,true)⟩,⟨some 30,.ixs (.t 28) (.t 29),some (27,true)⟩,⟨some 31,.bin .lss (.t 30) (.k (.lf (.int .u8 48))),some (27,true)⟩,⟨some 32,.mv (.t 31),some (27,true)⟩,⟨some 33,.mv (.t 0),some (32,false)⟩,⟨some 34,.mv (.t 3),some (32,false)⟩,⟨some 35,.ixs (.t 33) (.t 34),some (32,false)⟩,⟨some 36,.bin .gtr (.t 35) (.k (.lf (.int .u8 57))),some (32,false)⟩,⟨some 37,.pk (.t 32) (.k (.lf (.bool true))) (.t 36),some (27,true)⟩,⟨some 38,.pk (.t 27) (.t 37) (.k (.lf (.bool false))),none⟩] [0,18,19,38]) c73_5
abbrev c73_7:AC:=.seq (.ops 0 [⟨some 21,.mv (.t 19),none⟩,⟨some 3,.as 0 0 (.t 21),none⟩] [0,3,18,19]) c73_6
abbrev c73_8:AC:=.block 1 c73_7
abbrev c73_9:AC:=.seq c73_8 (.ops 0 [⟨some 39,.bin .add (.t 19) (.k (.lf (.int .i64 1))),none⟩,⟨some 19,.mv (.t 39),none⟩] [0,18,19])
abbrev c73_10:AC:=.seq c73_3 c73_9
abbrev c73_11:AC:=.seq (.ops 0 [⟨some 20,.bin .lss (.t 19) (.t 18),none⟩] [0,18,19,20]) c73_10
abbrev c73_12:AC:=.loop c73_11 [0,18,19]
abbrev c73_13:AC:=.block 0 c73_12
abbrev c73_14:AC:=.seq (.ops 0 [⟨some 17,.mv (.t 0),none⟩,⟨some 18,.lns (.t 17),none⟩,⟨some 19,.mv (.k (.lf (.int .i64 0))),none⟩] [0,18,19]) c73_13
abbrev c73_15:AC:=.seq (.ops 0 [⟨some 2,.as 0 0 (.k (.lf (.bool true))),none⟩] [2]) .ret
abbrev c73_16:AC:=.seq c73_14 c73_15
abbrev c73_17:AC:=.seq c73_2 c73_16
abbrev c73_18:AC:=.seq (.ops 0 [⟨some 2,.as 0 0 (.k (.lf (.bool false))),none⟩] [0]) c73_17
abbrev c73:AC:=c73_18
theorem c73_ok:compileFn Tryz.prog 73 = some (40,AC.strip c73,[.t 2]):=by kernel_rfl
abbrev c74_0:AC:=.seq (.ops 0 [⟨some 2,.as 0 0 (.k (.lf (.bool false))),none⟩] [2]) .ret
abbrev c74_1:AC:=.cond (.t 6) c74_0 .skip
abbrev c74_2:AC:=.seq (.ops 0 [⟨some 4,.mv (.t 0),none⟩,⟨some 5,.lns (.t 4),none⟩,⟨some 6,.bin .gtr (.t 5) (.k (.lf (.int .i64 255))),none⟩] [0,6]) c74_1
abbrev c74_3:AC:=.cond (.t 10) .skip (.exit 0)
abbrev c74_4:AC:=.seq (.ops 0 [⟨some 7,.mv (.t 3),none⟩,⟨some 8,.mv (.t 0),none⟩,⟨some 9,.lns (.t 8),none⟩,⟨some 10,.bin .lss (.t 7) (.t 9),none⟩] [0,3,10]) c74_3
abbrev c74_5:AC:=.cond (.t 16) (.exit 1) .skip
abbrev c74_6:AC:=.seq (.ops 0 [⟨some 13,.mv (.t 0),none⟩,⟨some 14,.mv (.t 3),none⟩,⟨some 15,.ixs (.t 13) (.t 14),none⟩,⟨some 16,.bin .neq (.t 15) (.k (.lf (.int .u8 37))),none⟩] [0,3,16]) c74_5
abbrev c74_7:AC:=.seq (.ops 0 [⟨some 2,.as 0 0 (.k (.lf (.bool false))),none⟩] [2]) .ret
abbrev c74_8:AC:=.cond (.t 40) c74_7 .skip
abbrev c74_9:AC:=.seq (.ops 0 [⟨some 19,.mv (.t 3),none⟩,⟨some 20,.mv (.t 0),none⟩,⟨some 21,.lns (.t 20),none⟩,⟨some 22,.bin .eql (.t 19) (.t 21),none⟩,⟨some 23,.mv (.t 22),none⟩,⟨some 24,.mv (.t 0),some (23,false)⟩,⟨some 25,.mv (.t 3),some (23,false)⟩,⟨some 26,.ixs (.t 24) (.t 25),some (23,false)⟩,⟨some 27,.bin .neq (.t 26) (.k (.lf (.int .u8 37))),some (23,false)⟩,⟨some 28,.mv (.t 27),some (23,false)⟩,⟨some 29,.mv (.t 0),some (28,true)⟩,⟨some 30,.mv (.t 3),some (28,true)⟩,⟨some 31,.ixs (.t 29) (.t 30),some (28,true)⟩,⟨some 32,.bin .lss (.t 31) (.k (.lf (.int .u8 48))),some (28,true)⟩,⟨some 33,.mv (.t 32),some (28,true)⟩,⟨some 34,.mv (.t 0),some (33,false)⟩,⟨some 35,.mv (.t 3),some (33,false)⟩,⟨some 36,.ixs (.t 34) (.t 35),some (33,false)⟩,⟨some 37,.bin .gtr (.t 36) (.k (.lf (.int .u8 57))),some (33,false)⟩,⟨some 38,.pk (.t 33) (.k (.lf (.bool true))) (.t 37),some (28,true)⟩,⟨some 39,.pk (.t 28) (.t 38) (.k (.lf (.bool false))),some (23,false)⟩,⟨some 40,.pk (.t 23) (.k (.lf (.bool true))) (.t 39),none⟩] [0,3,40]) c74_8
abbrev c74_10:AC:=.seq (.ops 0 [⟨some 17,.mv (.t 3),none⟩,⟨some 18,.bin .add (.t 17) (.k (.lf (.int .i64 1))),none⟩,⟨some 3,.as 0 0 (.t 18),none⟩] [0,3]) c74_9
abbrev c74_11:AC:=.seq c74_6 c74_10
abbrev c74_12:AC:=.block 1 c74_11
abbrev c74_13:AC:=.seq c74_12 (.ops 0 [⟨some 11,.mv (.t 3),none⟩,⟨some 12,.bin .add (.t 11) (.k (.lf (.int .i64 1))),none⟩,⟨some 3,.as 0 0 (.t 12),none⟩] [0,3])
abbrev c74_14:AC:=.seq c74_4 c74_13
abbrev c74_15:AC:=.loop c74_14 [0,3]
abbrev c74_16:AC:=.block 0 c74_15
abbrev c74_17:AC:=.seq (.ops 0 [⟨some 3,.as 0 0 (.k (.lf (.int .i64 0))),none⟩] [0,3]) c74_16
abbrev c74_18:AC:=.seq (.ops 0 [⟨some 2,.as 0 0 (.k (.lf (.bool true))),none⟩] [2]) .ret
abbrev c74_19:AC:=.seq c74_17 c74_18
abbrev c74_20:AC:=.seq c74_2 c74_19
abbrev c74_21:AC:=.seq (.ops 0 [⟨some 2,.as 0 0 (.k (.lf (.bool false))),none⟩] [0]) c74_20
abbrev c74:AC:=c74_21
theorem c74_ok:compileFn Tryz.prog 74 = some (41,AC.strip c74,[.t 2]):=by kernel_rfl
abbrev c75_0:AC:=.cond (.t 19) .skip (.exit 0)
abbrev c75_1:AC:=.seq (.ops 0 [⟨some 28,.mv (.t 7),none⟩,⟨some 4,.as 0 0 (.t 28),none⟩,⟨some 5,.as 0 0 (.k (.lf (.int .i64 40))),none⟩] [4,5]) .ret
abbrev c75_2:AC:=.cond (.t 27) c75_1 .skip
abbrev c75_3:AC:=.seq (.ops 0 [⟨some 26,.mv (.t 9),none⟩,⟨some 27,.bin .lss (.t 26) (.k (.lf (.int .i64 0))),none⟩] [0,1,6,7,8,9,16,17,18,27]) c75_2
abbrev c75_4:AC:=.seq (.ops 0 [⟨some 32,.mv (.t 7),none⟩,⟨some 4,.as 0 0 (.t 32),none⟩,⟨some 5,.as 0 0 (.k (.lf (.int .i64 41))),none⟩] [4,5]) .ret
abbrev c75_5:AC:=.cond (.t 31) c75_4 .skip
abbrev c75_6:AC:=.seq (.ops 0 [⟨some 29,.ld (.t 8) 7 true,none⟩,⟨some 30,.call 56 [(.t 29)],none⟩,⟨some 31,.un .not (.t 30),none⟩] [0,1,6,7,8,9,16,17,18,31]) c75_5
abbrev c75_7:AC:=.cond (.t 37) .skip (.exit 2)
abbrev c75_8:AC:=.seq (.ops 0 [⟨some 42,.mv (.t 7),none⟩,⟨some 4,.as 0 0 (.t 42),none⟩,⟨some 5,.as 0 0 (.k (.lf (.int .i64 42))),none⟩] [4,5]) .ret
abbrev c75_9:AC:=.cond (.t 41) c75_8 .skip
abbrev c75_10:AC:=.seq (.ops 0 [⟨some 39,.fa (.t 10) 0,none⟩,⟨some 40,.ld (.t 39) 1 false,none⟩,⟨some 41,.bin .eql (.t 40) (.k (.lf (.int .i64 0))),none⟩] [0,1,6,7,8,10,11,16,17,18,35,36,41]) c75_9
abbrev c75_11:AC:=.cond (.t 62) (.ops 0 [⟨some 63,.fa (.t 12) 1,none⟩,⟨some 64,.ld (.t 63) 1 false,none⟩,⟨some 65,.bin .sub (.t 64) (.k (.lf (.int .i64 1))),none⟩,⟨some 66,.fa (.t 12) 1,none⟩,⟨none,.st (.t 66) (.t 65) 1,none⟩] [0,1,6,7,8,10,12,16,17,18,35,36]) .skip
abbrev c75_12:AC:=.seq (.ops 2 [⟨some 49,.mv (.t 11),none⟩,⟨some 50,.bin .eql (.t 49) (.k (.lf (.int .i64 1))),none⟩,⟨some 51,.mv (.t 50),none⟩,⟨some 52,.mv (.t 0),some (51,true)⟩,⟨some 53,.fa (.t 10) 0,some (51,true)⟩,⟨some 54,.ld (.t 53) 1 false,some (51,true)⟩,⟨some 55,.bin .sub (.t 54) (.k (.lf (.int .i64 1))),some (51,true)⟩,⟨some 56,.ia (.t 52) (.t 55) 7,some (51,true)⟩,⟨some 57,.fa (.t 56) 0,some (51,true)⟩,⟨some 58,.ld (.t 57) 1 false,some (51,true)⟩,⟨some 59,.fa (.t 8) 0,some (51,true)⟩,⟨some 60,.ld (.t 59) 1 false,some (51,true)⟩,⟨some 61,.bin .eql (.t 58) (.t 60),some (51,true)⟩,⟨some 62,.pk (.t 51) (.t 61) (.k (.lf (.bool false))),none⟩] [0,1,6,7,8,10,12,16,17,18,35,36,62]) c75_11
abbrev c75_13:AC:=.seq c75_12 (.ops 0 [⟨some 67,.fa (.t 12) 0,none⟩,⟨some 68,.ld (.t 67) 1 false,none⟩,⟨some 69,.fa (.t 10) 1,none⟩,⟨some 70,.ld (.t 69) 1 false,none⟩,⟨some 71,.fa (.t 12) 1,none⟩,⟨some 72,.ld (.t 71) 1 false,none⟩,⟨some 73,.mm true (.t 70) (.t 72),none⟩,⟨some 74,.bd [.int .i64 0,.int .i64 0] [(0,1,(.t 68)),(1,1,(.t 73))],none⟩,⟨none,.st (.t 10) (.t 74) 2,none⟩] [0,1,6,7,8,10,16,17,18,35,36])
abbrev c75_14:AC:=.seq (.ops 0 [⟨some 43,.mv (.t 6),none⟩,⟨some 44,.fa (.t 10) 0,none⟩,⟨some 45,.ld (.t 44) 1 false,none⟩,⟨some 46,.bin .sub (.t 45) (.k (.lf (.int .i64 1))),none⟩,⟨some 47,.ia (.t 43) (.t 46) 2,none⟩,⟨some 48,.ld (.t 47) 2 true,none⟩,⟨some 12,.al [.int .i64 0,.int .i64 0],none⟩,⟨none,.st (.t 12) (.t 48) 2,none⟩] [0,1,6,7,8,10,11,12,16,17,18,35,36]) c75_13
abbrev c75_15:AC:=.seq c75_10 c75_14
abbrev c75_16:AC:=.seq (.ops 0 [⟨some 38,.mv (.t 36),none⟩,⟨some 11,.as 0 0 (.t 38),none⟩] [0,1,6,7,8,10,11,16,17,18,35,36]) c75_15
abbrev c75_17:AC:=.block 3 c75_16
abbrev c75_18:AC:=.seq c75_17 (.ops 0 [⟨some 75,.bin .add (.t 36) (.k (.lf (.int .i64 1))),none⟩,⟨some 36,.mv (.t 75),none⟩] [0,1,6,7,8,10,16,17,18,35,36])
abbrev c75_19:AC:=.seq c75_7 c75_18
abbrev c75_20:AC:=.seq (.ops 0 [⟨some 37,.bin .lss (.t 36) (.t 35),none⟩] [0,1,6,7,8,10,16,17,18,35,36,37]) c75_19
abbrev c75_21:AC:=.loop c75_20 [0,1,6,7,8,10,16,17,18,35,36]
abbrev c75_22:AC:=.block 2 c75_21
abbrev c75_23:AC:=.seq (.ops 0 [⟨some 35,.mv (.t 9),none⟩,⟨some 36,.mv (.k (.lf (.int .i64 0))),none⟩] [0,1,6,7,8,10,16,17,18,35,36]) c75_22
abbrev c75_24:AC:=.seq (.ops 0 [⟨some 83,.mv (.t 7),none⟩,⟨some 4,.as 0 0 (.t 83),none⟩,⟨some 5,.as 0 0 (.k (.lf (.int .i64 4))),none⟩] [4,5]) .ret
abbrev c75_25:AC:=.cond (.t 82) c75_24 .skip
abbrev c75_26:AC:=.seq (.ops 0 [⟨some 80,.fa (.t 10) 1,none⟩,⟨some 81,.ld (.t 80) 1 false,none⟩,⟨some 82,.bin .gtr (.t 81) (.k (.lf (.int .i64 60))),none⟩] [0,1,6,7,10,16,17,18,82]) c75_25
abbrev c75_27:AC:=.seq (.ops 0 [⟨some 84,.mv (.t 6),none⟩,⟨some 85,.ld (.t 10) 2 true,none⟩,⟨some 86,.bs 124 2 1 [.int .i64 0,.int .i64 0] [(0,(.t 85))],none⟩,⟨some 87,.app 124 2 16 (.t 84) (.t 86),none⟩,⟨some 6,.as 124 2 (.t 87),none⟩] [0,1,6,7,10,16,17,18]) (.ops 0 [⟨some 88,.mv (.t 1),none⟩,⟨some 89,.mv (.t 7),none⟩,⟨some 90,.ld (.t 10) 2 true,none⟩,⟨some 91,.cald (.t 88) [(.t 89),(.t 90)],none⟩] [0,1,6,16,17,18])
abbrev c75_28:AC:=.seq c75_26 c75_27
abbrev c75_29:AC:=.seq (.ops 0 [⟨some 76,.fa (.t 10) 1,none⟩,⟨some 77,.ld (.t 76) 1 false,none⟩,⟨some 78,.bin .add (.t 77) (.k (.lf (.int .i64 1))),none⟩,⟨some 79,.fa (.t 10) 1,none⟩,⟨none,.st (.t 79) (.t 78) 1,none⟩] [0,1,6,7,10,16,17,18]) c75_28
abbrev c75_30:AC:=.seq c75_23 c75_29
abbrev c75_31:AC:=.seq (.ops 0 [⟨some 33,.mv (.t 7),none⟩,⟨some 34,.bd [.int .i64 0,.int .i64 0] [(0,1,(.t 33))],none⟩,⟨some 10,.al [.int .i64 0,.int .i64 0],none⟩,⟨none,.st (.t 10) (.t 34) 2,none⟩] [0,1,6,7,8,9,10,16,17,18]) c75_30
abbrev c75_32:AC:=.seq c75_6 c75_31
abbrev c75_33:AC:=.seq c75_3 c75_32
abbrev c75_34:AC:=.seq (.ops 0 [⟨some 23,.fa (.t 8) 0,none⟩,⟨some 24,.ld (.t 23) 1 false,none⟩,⟨some 25,.call 55 [(.t 24)],none⟩,⟨some 9,.as 0 0 (.t 25),none⟩] [0,1,6,7,8,9,16,17,18]) c75_33
abbrev c75_35:AC:=.seq (.ops 0 [⟨some 20,.mv (.t 18),none⟩,⟨some 21,.ia (.t 16) (.t 18) 7,none⟩,⟨some 22,.ld (.t 21) 7 true,none⟩,⟨some 8,.al [.int .i64 0,.int .i64 0,.str ⟨#[]⟩,.int .u64 0,.int .u64 0,.int .u64 0,.int .u64 0],none⟩,⟨some 7,.as 0 0 (.t 20),none⟩,⟨none,.st (.t 8) (.t 22) 7,none⟩] [0,1,6,7,8,16,17,18]) c75_34
abbrev c75_36:AC:=.block 1 c75_35
abbrev c75_37:AC:=.seq c75_36 (.ops 0 [⟨some 92,.bin .add (.t 18) (.k (.lf (.int .i64 1))),none⟩,⟨some 18,.mv (.t 92),none⟩] [0,1,6,16,17,18])
abbrev c75_38:AC:=.seq c75_0 c75_37
abbrev c75_39:AC:=.seq (.ops 0 [⟨some 19,.bin .lss (.t 18) (.t 17),none⟩] [0,1,6,16,17,18,19]) c75_38
abbrev c75_40:AC:=.loop c75_39 [0,1,6,16,17,18]
abbrev c75_41:AC:=.block 0 c75_40
abbrev c75_42:AC:=.seq (.ops 0 [⟨some 16,.mv (.t 0),none⟩,⟨some 17,.len (.t 16),none⟩,⟨some 18,.mv (.k (.lf (.int .i64 0))),none⟩] [0,1,6,16,17,18]) c75_41
abbrev c75_43:AC:=.seq (.ops 0 [⟨some 106,.mv (.t 0),none⟩,⟨some 107,.len (.t 106),none⟩,⟨some 4,.as 0 0 (.t 107),none⟩,⟨some 5,.as 0 0 (.k (.lf (.int .i64 42))),none⟩] [4,5]) .ret
abbrev c75_44:AC:=.cond (.t 105) c75_43 .skip
abbrev c75_45:AC:=.seq (.ops 0 [⟨some 93,.mv (.t 0),none⟩,⟨some 94,.len (.t 93),none⟩,⟨some 95,.bin .eql (.t 94) (.k (.lf (.int .i64 0))),none⟩,⟨some 96,.mv (.t 95),none⟩,⟨some 97,.mv (.t 6),some (96,false)⟩,⟨some 98,.mv (.t 0),some (96,false)⟩,⟨some 99,.len (.t 98),some (96,false)⟩,⟨some 100,.bin .sub (.t 99) (.k (.lf (.int .i64 1))),some (96,false)⟩,⟨some 101,.ia (.t 97) (.t 100) 2,some (96,false)⟩,⟨some 102,.fa (.t 101) 0,some (96,false)⟩,⟨some 103,.ld (.t 102) 1 false,some (96,false)⟩,⟨some 104,.bin .neq (.t 103) (.k (.lf (.int .i64 0))),some (96,false)⟩,⟨some 105,.pk (.t 96) (.k (.lf (.bool true))) (.t 104),none⟩] [0,105]) c75_44
abbrev c75_46:AC:=.seq (.ops 0 [⟨some 4,.as 0 0 (.k (.lf (.int .i64 0))),none⟩,⟨some 5,.as 0 0 (.k (.lf (.int .i64 0))),none⟩] [4,5]) .ret
abbrev c75_47:AC:=.seq c75_45 c75_46
abbrev c75_48:AC:=.seq c75_42 c75_47
abbrev c75_49:AC:=.seq (.ops 0 [⟨some 13,.mv (.t 0),none⟩,⟨some 14,.len (.t 13),none⟩,⟨some 15,.ms 124 2 16 [.int .i64 0,.int .i64 0] (.k (.lf (.int .i64 0))) (.t 14),none⟩,⟨some 6,.as 124 2 (.t 15),none⟩] [0,1,6]) c75_48
abbrev c75_50:AC:=.seq (.ops 0 [⟨some 4,.as 0 0 (.k (.lf (.int .i64 0))),none⟩,⟨some 5,.as 0 0 (.k (.lf (.int .i64 0))),none⟩] [0,1]) c75_49
abbrev c75:AC:=c75_50
theorem c75_ok:compileFn Tryz.prog 75 = some (108,AC.strip c75,[.t 4,.t 5]):=by kernel_rfl
abbrev c76:AC:=(.ops 0 [⟨(some 3),.bx (.t 1),none⟩] [])
theorem c76_ok:compileFn Tryz.prog 76 = some (4,AC.strip c76,[]):=by kernel_rfl
abbrev c95_0:AC:=.seq (.ops 0 [⟨some 3,.mv (.t 0),none⟩,⟨some 4,.bin .or (.t 3) (.k (.lf (.int .u8 32))),none⟩,⟨some 5,.bin .geq (.t 4) (.k (.lf (.int .u8 97))),none⟩,⟨some 6,.mv (.t 5),none⟩,⟨some 7,.mv (.t 0),some (6,true)⟩,⟨some 8,.bin .or (.t 7) (.k (.lf (.int .u8 32))),some (6,true)⟩,⟨some 9,.bin .leq (.t 8) (.k (.lf (.int .u8 122))),some (6,true)⟩,⟨some 10,.pk (.t 6) (.t 9) (.k (.lf (.bool false))),none⟩,⟨some 11,.mv (.t 10),none⟩,⟨some 12,.mv (.t 0),some (11,true)⟩,⟨some 13,.bin .lss (.t 12) (.k (.lf (.int .u8 128))),some (11,true)⟩,⟨some 14,.pk (.t 11) (.t 13) (.k (.lf (.bool false))),none⟩,⟨some 15,.mv (.t 14),none⟩,⟨some 16,.mv (.t 0),some (15,false)⟩,⟨some 17,.bin .eql (.t 16) (.k (.lf (.int .u8 95))),some (15,false)⟩,⟨some 18,.pk (.t 15) (.k (.lf (.bool true))) (.t 17),none⟩,⟨some 2,.as 0 0 (.t 18),none⟩] [2]) .ret
abbrev c95_1:AC:=.seq (.ops 0 [⟨some 2,.as 0 0 (.k (.lf (.bool false))),none⟩] [0]) c95_0
abbrev c95:AC:=c95_1
theorem c95_ok:compileFn Tryz.prog 95 = some (19,AC.strip c95,[.t 2]):=by kernel_rfl
end Go.Proofs.YthcpaohmajjopaaGreatDoor.I
set_option maxRecDepth 100000
namespace Go.Proofs.YthcpaohmajjopaaGreatDoor.I
open Go Go.Proofs.YthcpaohmajjopaaGreatDoor.AM
abbrev c7_0:AC:=.seq (.ops 0 [⟨some 17,.mv (.t 2),none⟩,⟨some 18,.bin .eql (.t 17) (.k (.lf (.int .i64 0))),none⟩,⟨some 19,.mv (.t 18),none⟩,⟨some 20,.mv (.t 4),some (19,true)⟩,⟨some 21,.bin .eql (.t 20) (.k (.lf (.int .i64 163))),some (19,true)⟩,⟨some 22,.pk (.t 19) (.t 21) (.k (.lf (.bool false))),none⟩,⟨some 0,.as 0 0 (.t 22),none⟩] [0]) .ret
abbrev c7_1:AC:=.seq (.ops 0 [⟨some 12,.bd [.int .i64 0,.int .i64 0,.int .i64 0,.int .i64 0,.str ⟨#[]⟩,.int .u64 0,.int .u64 0,.int .u64 0,.int .u64 0] [(0,1,(.k (.lf (.int .i64 1))))],none⟩,⟨some 13,.bs 42 9 1 [.int .i64 0,.int .i64 0,.int .i64 0,.int .i64 0,.str ⟨#[]⟩,.int .u64 0,.int .u64 0,.int .u64 0,.int .u64 0] [(0,(.t 12))],none⟩,⟨some 14,.call 6 [(.t 13)],none⟩,⟨some 11,.mv (.t 14),none⟩,⟨some 15,.ext (.t 11) 0,none⟩,⟨some 16,.ext (.t 11) 1,none⟩,⟨some 3,.as 0 0 (.t 15),none⟩,⟨some 4,.as 0 0 (.t 16),none⟩] [2,4]) c7_0
abbrev c7_2:AC:=.seq (.ops 0 [⟨some 6,.bd [.int .i64 0,.int .i64 0,.int .i64 0,.int .i64 0,.str ⟨#[]⟩,.int .u64 0,.int .u64 0,.int .u64 0,.int .u64 0] [(0,1,(.k (.lf (.int .i64 17))))],none⟩,⟨some 7,.bs 42 9 1 [.int .i64 0,.int .i64 0,.int .i64 0,.int .i64 0,.str ⟨#[]⟩,.int .u64 0,.int .u64 0,.int .u64 0,.int .u64 0] [(0,(.t 6))],none⟩,⟨some 8,.call 6 [(.t 7)],none⟩,⟨some 5,.mv (.t 8),none⟩,⟨some 9,.ext (.t 5) 0,none⟩,⟨some 10,.ext (.t 5) 1,none⟩,⟨some 1,.as 0 0 (.t 9),none⟩,⟨some 2,.as 0 0 (.t 10),none⟩] [2]) c7_1
abbrev c7_3:AC:=.seq (.ops 0 [⟨some 0,.as 0 0 (.k (.lf (.bool false))),none⟩] []) c7_2
abbrev c7:AC:=c7_3
theorem c7_ok:compileFn Tryz.prog 7 = some (23,AC.strip c7,[.t 0]):=by kernel_rfl
abbrev c9_0:AC:=.seq (.ops 0 [⟨some 4,.as 0 0 (.k (.lf (.bool false))),none⟩] [4]) .ret
abbrev c9_1:AC:=.cond (.t 10) c9_0 .skip
abbrev c9_2:AC:=.seq (.ops 0 [⟨some 6,.mv (.t 0),none⟩,⟨some 7,.len (.t 6),none⟩,⟨some 8,.mv (.t 1),none⟩,⟨some 9,.len (.t 8),none⟩,⟨some 10,.bin .neq (.t 7) (.t 9),none⟩] [0,1,10]) c9_1
abbrev c9_3:AC:=.cond (.t 14) .skip (.exit 0)
abbrev c9_4:AC:=.seq (.ops 0 [⟨some 11,.mv (.t 5),none⟩,⟨some 12,.mv (.t 0),none⟩,⟨some 13,.len (.t 12),none⟩,⟨some 14,.bin .lss (.t 11) (.t 13),none⟩] [0,1,5,14]) c9_3
abbrev c9_5:AC:=.seq (.ops 0 [⟨some 4,.as 0 0 (.k (.lf (.bool false))),none⟩] [4]) .ret
abbrev c9_6:AC:=.cond (.t 25) c9_5 .skip
abbrev c9_7:AC:=.seq (.ops 2 [⟨some 17,.mv (.t 0),none⟩,⟨some 18,.mv (.t 5),none⟩,⟨some 19,.ia (.t 17) (.t 18) 9,none⟩,⟨some 20,.ld (.t 19) 9 true,none⟩,⟨some 21,.mv (.t 1),none⟩,⟨some 22,.mv (.t 5),none⟩,⟨some 23,.ia (.t 21) (.t 22) 9,none⟩,⟨some 24,.ld (.t 23) 9 true,none⟩,⟨some 25,.beq true [2,2,2,2,3,2,2,2,2] (.t 20) (.t 24),none⟩] [0,1,5,25]) c9_6
abbrev c9_8:AC:=.block 1 c9_7
abbrev c9_9:AC:=.seq c9_8 (.ops 0 [⟨some 15,.mv (.t 5),none⟩,⟨some 16,.bin .add (.t 15) (.k (.lf (.int .i64 1))),none⟩,⟨some 5,.as 0 0 (.t 16),none⟩] [0,1,5])
abbrev c9_10:AC:=.seq c9_4 c9_9
abbrev c9_11:AC:=.loop c9_10 [0,1,5]
abbrev c9_12:AC:=.block 0 c9_11
abbrev c9_13:AC:=.seq (.ops 0 [⟨some 5,.as 0 0 (.k (.lf (.int .i64 0))),none⟩] [0,1,5]) c9_12
abbrev c9_14:AC:=.seq (.ops 0 [⟨some 4,.as 0 0 (.k (.lf (.bool true))),none⟩] [4]) .ret
abbrev c9_15:AC:=.seq c9_13 c9_14
abbrev c9_16:AC:=.seq c9_2 c9_15
abbrev c9_17:AC:=.seq (.ops 0 [⟨some 4,.as 0 0 (.k (.lf (.bool false))),none⟩] [0,1]) c9_16
abbrev c9:AC:=c9_17
theorem c9_ok:compileFn Tryz.prog 9 = some (26,AC.strip c9,[.t 4]):=by kernel_rfl
abbrev c6_0:AC:=.seq (.ops 0 [⟨some 2,.as 0 0 (.k (.lf (.int .i64 0))),none⟩,⟨some 3,.as 0 0 (.k (.lf (.int .i64 2))),none⟩] [2,3]) .ret
abbrev c6_1:AC:=.cond (.t 9) c6_0 .skip
abbrev c6_2:AC:=.seq (.ops 0 [⟨some 7,.mv (.t 0),none⟩,⟨some 8,.len (.t 7),none⟩,⟨some 9,.bin .gtr (.t 8) (.k (.lf (.int .i64 8192))),none⟩] [0,9]) c6_1
abbrev c6_3:AC:=.seq (.ops 0 [⟨some 2,.as 0 0 (.k (.lf (.int .i64 0))),none⟩,⟨some 3,.as 0 0 (.k (.lf (.int .i64 3))),none⟩] [2,3]) .ret
abbrev c6_4:AC:=.cond (.t 12) c6_3 .skip
abbrev c6_5:AC:=.seq (.ops 0 [⟨some 10,.mv (.t 0),none⟩,⟨some 11,.len (.t 10),none⟩,⟨some 12,.bin .eql (.t 11) (.k (.lf (.int .i64 0))),none⟩] [0,12]) c6_4
abbrev c6_6:AC:=.cond (.t 16) .skip (.exit 0)
abbrev c6_7:AC:=.seq (.ops 0 [⟨some 25,.mv (.t 4),none⟩,⟨some 2,.as 0 0 (.t 25),none⟩,⟨some 3,.as 0 0 (.k (.lf (.int .i64 160))),none⟩] [2,3]) .ret
abbrev c6_8:AC:=.seq (.ops 0 [⟨some 30,.mv (.t 4),none⟩,⟨some 2,.as 0 0 (.t 30),none⟩,⟨some 3,.as 0 0 (.k (.lf (.int .i64 161))),none⟩] [2,3]) .ret
abbrev c6_9:AC:=.seq (.ops 0 [⟨some 51,.mv (.t 4),none⟩,⟨some 2,.as 0 0 (.t 51),none⟩,⟨some 3,.as 0 0 (.k (.lf (.int .i64 162))),none⟩] [2,3]) .ret
abbrev c6_10:AC:=.cond (.t 31) c6_9 .skip
abbrev c6_11:AC:=.seq (.ops 0 [⟨some 32,.fa (.t 5) 0,none⟩,⟨some 33,.ld (.t 32) 1 false,none⟩,⟨some 34,.call 15 [(.t 33),(.k (.lf (.int .i64 32)))],none⟩,⟨some 35,.mv (.t 34),none⟩,⟨some 36,.fa (.t 5) 1,some (35,true)⟩,⟨some 37,.ld (.t 36) 1 false,some (35,true)⟩,⟨some 38,.mv (.t 4),some (35,true)⟩,⟨some 39,.un .neg (.t 38),some (35,true)⟩,⟨some 40,.bin .lss (.t 37) (.t 39),some (35,true)⟩,⟨some 41,.mv (.t 40),some (35,true)⟩,⟨some 42,.fa (.t 5) 1,some (41,false)⟩,⟨some 43,.ld (.t 42) 1 false,some (41,false)⟩,⟨some 44,.mv (.t 0),some (41,false)⟩,⟨some 45,.len (.t 44),some (41,false)⟩,⟨some 46,.mv (.t 4),some (41,false)⟩,⟨some 47,.bin .sub (.t 45) (.t 46),some (41,false)⟩,⟨some 48,.bin .geq (.t 43) (.t 47),some (41,false)⟩,⟨some 49,.pk (.t 41) (.k (.lf (.bool true))) (.t 48),some (35,true)⟩,⟨some 50,.pk (.t 35) (.t 49) (.k (.lf (.bool false))),none⟩,⟨some 31,.as 0 0 (.t 50),none⟩] [0,4,13,14,15,31]) c6_10
abbrev c6_12:AC:=.cond (.t 26) c6_8 c6_11
abbrev c6_13:AC:=.seq (.ops 0 [⟨some 27,.ld (.t 5) 9 true,none⟩,⟨some 28,.call 14 [(.t 27)],none⟩,⟨some 29,.un .not (.t 28),none⟩,⟨some 26,.as 0 0 (.t 29),none⟩] [0,4,5,13,14,15,26]) c6_12
abbrev c6_14:AC:=.cond (.t 20) c6_7 c6_13
abbrev c6_15:AC:=.seq (.ops 0 [⟨some 21,.fa (.t 5) 0,none⟩,⟨some 22,.ld (.t 21) 1 false,none⟩,⟨some 23,.call 13 [(.t 22)],none⟩,⟨some 24,.un .not (.t 23),none⟩,⟨some 20,.as 0 0 (.t 24),none⟩] [0,4,5,13,14,15,20]) c6_14
abbrev c6_16:AC:=.block 2 c6_15
abbrev c6_17:AC:=.seq (.ops 0 [⟨some 17,.mv (.t 15),none⟩,⟨some 18,.ia (.t 13) (.t 15) 9,none⟩,⟨some 19,.ld (.t 18) 9 true,none⟩,⟨some 5,.al [.int .i64 0,.int .i64 0,.int .i64 0,.int .i64 0,.str ⟨#[]⟩,.int .u64 0,.int .u64 0,.int .u64 0,.int .u64 0],none⟩,⟨some 4,.as 0 0 (.t 17),none⟩,⟨none,.st (.t 5) (.t 19) 9,none⟩] [0,4,5,13,14,15]) c6_16
abbrev c6_18:AC:=.block 1 c6_17
abbrev c6_19:AC:=.seq c6_18 (.ops 0 [⟨some 52,.bin .add (.t 15) (.k (.lf (.int .i64 1))),none⟩,⟨some 15,.mv (.t 52),none⟩] [0,13,14,15])
abbrev c6_20:AC:=.seq c6_6 c6_19
abbrev c6_21:AC:=.seq (.ops 0 [⟨some 16,.bin .lss (.t 15) (.t 14),none⟩] [0,13,14,15,16]) c6_20
abbrev c6_22:AC:=.loop c6_21 [0,13,14,15]
abbrev c6_23:AC:=.block 0 c6_22
abbrev c6_24:AC:=.seq (.ops 0 [⟨some 13,.mv (.t 0),none⟩,⟨some 14,.len (.t 13),none⟩,⟨some 15,.mv (.k (.lf (.int .i64 0))),none⟩] [0,13,14,15]) c6_23
abbrev c6_25:AC:=.seq (.ops 0 [⟨some 62,.mv (.t 6),none⟩,⟨some 2,.as 0 0 (.t 62),none⟩,⟨some 3,.as 0 0 (.k (.lf (.int .i64 163))),none⟩] [2,3]) .ret
abbrev c6_26:AC:=.cond (.t 61) c6_25 .skip
abbrev c6_27:AC:=.seq (.ops 0 [⟨some 56,.mv (.t 0),none⟩,⟨some 57,.mv (.t 6),none⟩,⟨some 58,.ia (.t 56) (.t 57) 9,none⟩,⟨some 59,.fa (.t 58) 0,none⟩,⟨some 60,.ld (.t 59) 1 false,none⟩,⟨some 61,.call 15 [(.t 60),(.k (.lf (.int .i64 64)))],none⟩] [6,61]) c6_26
abbrev c6_28:AC:=.seq (.ops 0 [⟨some 53,.mv (.t 0),none⟩,⟨some 54,.len (.t 53),none⟩,⟨some 55,.bin .sub (.t 54) (.k (.lf (.int .i64 1))),none⟩,⟨some 6,.as 0 0 (.t 55),none⟩] [0,6]) c6_27
abbrev c6_29:AC:=.seq (.ops 0 [⟨some 2,.as 0 0 (.k (.lf (.int .i64 0))),none⟩,⟨some 3,.as 0 0 (.k (.lf (.int .i64 0))),none⟩] [2,3]) .ret
abbrev c6_30:AC:=.seq c6_28 c6_29
abbrev c6_31:AC:=.seq c6_24 c6_30
abbrev c6_32:AC:=.seq c6_5 c6_31
abbrev c6_33:AC:=.seq c6_2 c6_32
abbrev c6_34:AC:=.seq (.ops 0 [⟨some 2,.as 0 0 (.k (.lf (.int .i64 0))),none⟩,⟨some 3,.as 0 0 (.k (.lf (.int .i64 0))),none⟩] [0]) c6_33
abbrev c6:AC:=c6_34
theorem c6_ok:compileFn Tryz.prog 6 = some (63,AC.strip c6,[.t 2,.t 3]):=by kernel_rfl
abbrev c13_0:AC:=.seq (.ops 0 [⟨some 3,.mv (.t 0),none⟩,⟨some 4,.bin .geq (.t 3) (.k (.lf (.int .i64 1))),none⟩,⟨some 5,.mv (.t 4),none⟩,⟨some 6,.mv (.t 0),some (5,true)⟩,⟨some 7,.bin .leq (.t 6) (.k (.lf (.int .i64 20))),some (5,true)⟩,⟨some 8,.pk (.t 5) (.t 7) (.k (.lf (.bool false))),none⟩,⟨some 2,.as 0 0 (.t 8),none⟩] [2]) .ret
abbrev c13_1:AC:=.seq (.ops 0 [⟨some 2,.as 0 0 (.k (.lf (.bool false))),none⟩] [0]) c13_0
abbrev c13:AC:=c13_1
theorem c13_ok:compileFn Tryz.prog 13 = some (9,AC.strip c13,[.t 2]):=by kernel_rfl
abbrev c14_0:AC:=.seq (.ops 0 [⟨some 2,.as 0 0 (.k (.lf (.bool false))),none⟩] [2]) .ret
abbrev c14_1:AC:=.cond (.t 6) c14_0 .skip
abbrev c14_2:AC:=.seq (.ops 2 [⟨some 3,.ld (.t 1) 9 true,none⟩,⟨some 4,.ld (.t 1) 9 true,none⟩,⟨some 5,.call 26 [(.t 4)],none⟩,⟨some 6,.beq true [2,2,2,2,3,2,2,2,2] (.t 3) (.t 5),none⟩] [1,6]) c14_1
abbrev c14_3:AC:=.cond (.t 9) .skip (.ops 0 [⟨some 11,.bin .eql (.t 8) (.k (.lf (.int .i64 5))),none⟩,⟨some 9,.as 0 0 (.t 11),none⟩] [1,8,9])
abbrev c14_4:AC:=.seq (.ops 0 [⟨some 10,.bin .eql (.t 8) (.k (.lf (.int .i64 2))),none⟩,⟨some 9,.as 0 0 (.t 10),none⟩] [1,8,9]) c14_3
abbrev c14_5:AC:=.seq (.ops 0 [⟨some 12,.fa (.t 1) 2,none⟩,⟨some 13,.ld (.t 12) 1 false,none⟩,⟨some 14,.bin .geq (.t 13) (.k (.lf (.int .i64 0))),none⟩,⟨some 15,.mv (.t 14),none⟩,⟨some 16,.fa (.t 1) 2,some (15,true)⟩,⟨some 17,.ld (.t 16) 1 false,some (15,true)⟩,⟨some 18,.bin .leq (.t 17) (.k (.lf (.int .i64 255))),some (15,true)⟩,⟨some 19,.pk (.t 15) (.t 18) (.k (.lf (.bool false))),none⟩,⟨some 2,.as 0 0 (.t 19),none⟩] [2]) .ret
abbrev c14_6:AC:=.seq (.ops 0 [⟨some 22,.fa (.t 1) 2,none⟩,⟨some 23,.ld (.t 22) 1 false,none⟩,⟨some 24,.bin .geq (.t 23) (.k (.lf (.int .i64 2))),none⟩,⟨some 25,.mv (.t 24),none⟩,⟨some 26,.fa (.t 1) 2,some (25,true)⟩,⟨some 27,.ld (.t 26) 1 false,some (25,true)⟩,⟨some 28,.bin .leq (.t 27) (.k (.lf (.int .i64 7))),some (25,true)⟩,⟨some 29,.pk (.t 25) (.t 28) (.k (.lf (.bool false))),none⟩,⟨some 30,.mv (.t 29),none⟩,⟨some 31,.fa (.t 1) 2,some (30,true)⟩,⟨some 32,.ld (.t 31) 1 false,some (30,true)⟩,⟨some 33,.fa (.t 1) 3,some (30,true)⟩,⟨some 34,.ld (.t 33) 1 false,some (30,true)⟩,⟨some 35,.fa (.t 1) 4,some (30,true)⟩,⟨some 36,.ld (.t 35) 1 false,some (30,true)⟩,⟨some 37,.call 27 [(.t 32),(.t 34),(.t 36)],some (30,true)⟩,⟨some 38,.pk (.t 30) (.t 37) (.k (.lf (.bool false))),none⟩,⟨some 2,.as 0 0 (.t 38),none⟩] [2]) .ret
abbrev c14_7:AC:=.seq (.ops 0 [⟨some 2,.as 0 0 (.k (.lf (.bool false))),none⟩] [2]) .ret
abbrev c14_8:AC:=.cond (.t 68) c14_7 .skip
abbrev c14_9:AC:=.seq (.ops 0 [⟨some 41,.fa (.t 1) 2,none⟩,⟨some 42,.ld (.t 41) 1 false,none⟩,⟨some 43,.bin .lss (.t 42) (.k (.lf (.int .i64 1))),none⟩,⟨some 44,.mv (.t 43),none⟩,⟨some 45,.fa (.t 1) 2,some (44,false)⟩,⟨some 46,.ld (.t 45) 1 false,some (44,false)⟩,⟨some 47,.bin .gtr (.t 46) (.k (.lf (.int .i64 7))),some (44,false)⟩,⟨some 48,.pk (.t 44) (.k (.lf (.bool true))) (.t 47),none⟩,⟨some 49,.mv (.t 48),none⟩,⟨some 50,.fa (.t 1) 1,some (49,false)⟩,⟨some 51,.ld (.t 50) 1 false,some (49,false)⟩,⟨some 52,.bin .lss (.t 51) (.k (.lf (.int .i64 0))),some (49,false)⟩,⟨some 53,.pk (.t 49) (.k (.lf (.bool true))) (.t 52),none⟩,⟨some 54,.mv (.t 53),none⟩,⟨some 55,.fa (.t 1) 1,some (54,false)⟩,⟨some 56,.ld (.t 55) 1 false,some (54,false)⟩,⟨some 57,.bin .gtr (.t 56) (.k (.lf (.int .i64 255))),some (54,false)⟩,⟨some 58,.pk (.t 54) (.k (.lf (.bool true))) (.t 57),none⟩,⟨some 59,.mv (.t 58),none⟩,⟨some 60,.fa (.t 1) 2,some (59,false)⟩,⟨some 61,.ld (.t 60) 1 false,some (59,false)⟩,⟨some 62,.bin .eql (.t 61) (.k (.lf (.int .i64 1))),some (59,false)⟩,⟨some 63,.mv (.t 62),some (59,false)⟩,⟨some 64,.fa (.t 1) 1,some (63,true)⟩,⟨some 65,.ld (.t 64) 1 false,some (63,true)⟩,⟨some 66,.bin .gtr (.t 65) (.k (.lf (.int .i64 0))),some (63,true)⟩,⟨some 67,.pk (.t 63) (.t 66) (.k (.lf (.bool false))),some (59,false)⟩,⟨some 68,.pk (.t 59) (.k (.lf (.bool true))) (.t 67),none⟩] [1,68]) c14_8
abbrev c14_10:AC:=.seq (.ops 0 [⟨some 69,.fa (.t 1) 2,none⟩,⟨some 70,.ld (.t 69) 1 false,none⟩,⟨some 71,.fa (.t 1) 3,none⟩,⟨some 72,.ld (.t 71) 1 false,none⟩,⟨some 73,.fa (.t 1) 4,none⟩,⟨some 74,.ld (.t 73) 1 false,none⟩,⟨some 75,.call 27 [(.t 70),(.t 72),(.t 74)],none⟩,⟨some 2,.as 0 0 (.t 75),none⟩] [2]) .ret
abbrev c14_11:AC:=.seq c14_9 c14_10
abbrev c14_12:AC:=.cond (.t 39) c14_11 .skip
abbrev c14_13:AC:=.seq (.ops 0 [⟨some 40,.bin .eql (.t 8) (.k (.lf (.int .i64 20))),none⟩,⟨some 39,.as 0 0 (.t 40),none⟩] [1,39]) c14_12
abbrev c14_14:AC:=.cond (.t 20) c14_6 c14_13
abbrev c14_15:AC:=.seq (.ops 0 [⟨some 21,.bin .eql (.t 8) (.k (.lf (.int .i64 18))),none⟩,⟨some 20,.as 0 0 (.t 21),none⟩] [1,8,20]) c14_14
abbrev c14_16:AC:=.cond (.t 9) c14_5 c14_15
abbrev c14_17:AC:=.seq c14_4 c14_16
abbrev c14_18:AC:=.block 0 c14_17
abbrev c14_19:AC:=.seq (.ops 0 [⟨some 7,.fa (.t 1) 0,none⟩,⟨some 8,.ld (.t 7) 1 false,none⟩] [1,8]) c14_18
abbrev c14_20:AC:=.seq (.ops 0 [⟨some 2,.as 0 0 (.k (.lf (.bool true))),none⟩] [2]) .ret
abbrev c14_21:AC:=.seq c14_19 c14_20
abbrev c14_22:AC:=.seq c14_2 c14_21
abbrev c14_23:AC:=.seq (.ops 0 [⟨some 1,.bx (.t 0),none⟩,⟨some 2,.as 0 0 (.k (.lf (.bool false))),none⟩] [1]) c14_22
abbrev c14:AC:=c14_23
theorem c14_ok:compileFn Tryz.prog 14 = some (76,AC.strip c14,[.t 2]):=by kernel_rfl
abbrev c15_0:AC:=.seq (.ops 0 [⟨some 5,.mv (.t 0),none⟩,⟨some 6,.iaa (.k (.lf (.gl 0 0))) (.t 5) 21 1,none⟩,⟨some 7,.ld (.t 6) 1 false,none⟩,⟨some 8,.mv (.t 1),none⟩,⟨some 9,.bin .and (.t 7) (.t 8),none⟩,⟨some 10,.bin .neq (.t 9) (.k (.lf (.int .i64 0))),none⟩,⟨some 4,.as 0 0 (.t 10),none⟩] [4]) .ret
abbrev c15_1:AC:=.seq (.ops 0 [⟨some 4,.as 0 0 (.k (.lf (.bool false))),none⟩] [0,1]) c15_0
abbrev c15:AC:=c15_1
theorem c15_ok:compileFn Tryz.prog 15 = some (11,AC.strip c15,[.t 4]):=by kernel_rfl
abbrev c26_0:AC:=.cond (.t 9) (.ops 0 [⟨some 10,.fa (.t 1) 1,none⟩,⟨some 11,.ld (.t 10) 1 false,none⟩,⟨some 12,.fa (.t 3) 1,none⟩,⟨none,.st (.t 12) (.t 11) 1,none⟩] [1,2,3]) .skip
abbrev c26_1:AC:=.seq (.ops 0 [⟨some 7,.fa (.t 1) 0,none⟩,⟨some 8,.ld (.t 7) 1 false,none⟩,⟨some 9,.call 15 [(.t 8),(.k (.lf (.int .i64 1)))],none⟩] [1,2,3,9]) c26_0
abbrev c26_2:AC:=.cond (.t 15) (.ops 0 [⟨some 16,.fa (.t 1) 2,none⟩,⟨some 17,.ld (.t 16) 1 false,none⟩,⟨some 18,.fa (.t 3) 2,none⟩,⟨none,.st (.t 18) (.t 17) 1,none⟩] [1,2,3]) .skip
abbrev c26_3:AC:=.seq (.ops 0 [⟨some 13,.fa (.t 1) 0,none⟩,⟨some 14,.ld (.t 13) 1 false,none⟩,⟨some 15,.call 15 [(.t 14),(.k (.lf (.int .i64 2)))],none⟩] [1,2,3,15]) c26_2
abbrev c26_4:AC:=.cond (.t 21) (.ops 0 [⟨some 22,.fa (.t 1) 3,none⟩,⟨some 23,.ld (.t 22) 1 false,none⟩,⟨some 24,.fa (.t 3) 3,none⟩,⟨none,.st (.t 24) (.t 23) 1,none⟩] [1,2,3]) .skip
abbrev c26_5:AC:=.seq (.ops 0 [⟨some 19,.fa (.t 1) 0,none⟩,⟨some 20,.ld (.t 19) 1 false,none⟩,⟨some 21,.call 15 [(.t 20),(.k (.lf (.int .i64 4)))],none⟩] [1,2,3,21]) c26_4
abbrev c26_6:AC:=.cond (.t 27) (.ops 0 [⟨some 28,.fa (.t 1) 4,none⟩,⟨some 29,.ld (.t 28) 1 false,none⟩,⟨some 30,.fa (.t 3) 4,none⟩,⟨none,.st (.t 30) (.t 29) 1,none⟩] [1,2,3]) .skip
abbrev c26_7:AC:=.seq (.ops 0 [⟨some 25,.fa (.t 1) 0,none⟩,⟨some 26,.ld (.t 25) 1 false,none⟩,⟨some 27,.call 15 [(.t 26),(.k (.lf (.int .i64 8)))],none⟩] [1,2,3,27]) c26_6
abbrev c26_8:AC:=.cond (.t 33) (.ops 0 [⟨some 34,.fa (.t 1) 5,none⟩,⟨some 35,.ld (.t 34) 4 true,none⟩,⟨some 36,.fa (.t 3) 5,none⟩,⟨none,.st (.t 36) (.t 35) 4,none⟩] [2,3]) .skip
abbrev c26_9:AC:=.seq (.ops 0 [⟨some 31,.fa (.t 1) 0,none⟩,⟨some 32,.ld (.t 31) 1 false,none⟩,⟨some 33,.call 15 [(.t 32),(.k (.lf (.int .i64 16)))],none⟩] [1,2,3,33]) c26_8
abbrev c26_10:AC:=.seq (.ops 0 [⟨some 37,.ld (.t 3) 9 true,none⟩,⟨none,.st (.t 2) (.t 37) 9,none⟩] [2]) .ret
abbrev c26_11:AC:=.seq c26_9 c26_10
abbrev c26_12:AC:=.seq c26_7 c26_11
abbrev c26_13:AC:=.seq c26_5 c26_12
abbrev c26_14:AC:=.seq c26_3 c26_13
abbrev c26_15:AC:=.seq c26_1 c26_14
abbrev c26_16:AC:=.seq (.ops 0 [⟨some 4,.fa (.t 1) 0,none⟩,⟨some 5,.ld (.t 4) 1 false,none⟩,⟨some 6,.bd [.int .i64 0,.int .i64 0,.int .i64 0,.int .i64 0,.str ⟨#[]⟩,.int .u64 0,.int .u64 0,.int .u64 0,.int .u64 0] [(0,1,(.t 5))],none⟩,⟨some 3,.al [.int .i64 0,.int .i64 0,.int .i64 0,.int .i64 0,.str ⟨#[]⟩,.int .u64 0,.int .u64 0,.int .u64 0,.int .u64 0],none⟩,⟨none,.st (.t 3) (.t 6) 9,none⟩] [1,2,3]) c26_15
abbrev c26_17:AC:=.seq (.ops 0 [⟨some 1,.bx (.t 0),none⟩,⟨some 2,.al [.int .i64 0,.int .i64 0,.int .i64 0,.int .i64 0,.str ⟨#[]⟩,.int .u64 0,.int .u64 0,.int .u64 0,.int .u64 0],none⟩] [1,2]) c26_16
abbrev c26:AC:=c26_17
theorem c26_ok:compileFn Tryz.prog 26 = some (38,AC.strip c26,[.c 2 9 true]):=by kernel_rfl
end Go.Proofs.YthcpaohmajjopaaGreatDoor.I
set_option linter.unusedVariables false
set_option linter.unusedSimpArgs false
namespace Go.Proofs.YthcpaohmajjopaaGreatDoor.I
open Go Go.Proofs.YthcpaohmajjopaaGreatDoor.AM
variable {X:Cx}
theorem w8 {x:Int} (h0:0 ≤ x) (h1:x ≤ 255):IntKind.wrap .u8 x = x:=by
 simp only [IntKind.wrap,IntKind.bits,IntKind.signed];simp;omega
theorem w64 {x:Int} (h0:-9223372036854775808 ≤ x) (h1:x ≤ 9223372036854775807):IntKind.wrap .i64 x = x:=by
 simp only [IntKind.wrap,IntKind.bits,IntKind.signed];simp;omega
theorem ite_pr {p:Prop} [Decidable p] {A B:Prop} (h1:p → A) (h2:¬ p → B):if p then A else B:=by split<;>simp_all
structure Ins where
 op:Int
 a:Int
 b:Int
 n:Int
 t:ByteArray
 s0:Int
 s1:Int
 s2:Int
 s3:Int
def Ins.c (x:Ins):List L:=[.int .i64 x.op,.int .i64 x.a,.int .i64 x.b,.int .i64 x.n,.str x.t,.int .u64 x.s0,.int .u64 x.s1,.int .u64 x.s2,.int .u64 x.s3]
def Ins.same (x y:Ins):Bool:=decide (x.op = y.op) && (decide (x.a = y.a) && (decide (x.b = y.b) && (decide (x.n = y.n) && (decide (x.t = y.t) && (decide (x.s0 = y.s0) && (decide (x.s1 = y.s1) && (decide (x.s2 = y.s2) && (decide (x.s3 = y.s3) && true))))))))
theorem Ins.same_eq {x y:Ins}:(x.same y = true) ↔ x = y:=by
 cases x;cases y
 simp [Ins.same]
theorem eq_ins (x y:Ins):eqLs x.c y.c = some (x.same y):=by
 simp [eqLs,eqL,Ins.c,Ins.same]
def usesN:List Int:=[0,64,66,80,97,99,113,80,97,33,33,33,0,0,33,97,0,0,78,64,79]
def usesL:List L:=usesN.map (.int .i64 ·)
def useOf (k:Nat):Int:=usesN[k]?.getD 0
theorem usesL_get {k:Nat} (h:k < 21):usesL[k]? = some (.int .i64 (useOf k)):=by
 have:usesN[k]? = some (useOf k):=by
  unfold useOf
  rw [List.getElem?_eq_getElem (by simpa [usesN] using h)];rfl
 simp [usesL,this]
def hasB (k:Nat) (bit:Int):Bool:=decide (¬ bits .and .i64 (useOf k) bit = 0)
theorem r13 (op:Int):R X Tryz.prog 13 [.lf (.int .i64 op)] [] (.lf (.bool (decide (1 ≤ op ∧ op ≤ 20)))) []:=by
 refine R_i [] [] c13_ok rfl (by simp) ?_
 simp -implicitDefEqProofs (maxSteps:=2000000) only [c13,↓reduceIte,S0,St.init,enum,Nat.reduceEqDiff,reduceCtorEq,cond_false]
 split<;>simp_all
 intro h;omega
theorem r15 (hX:X.G 0 = some usesL) (k:Nat) (hk:k < 21) (bit:Int):R X Tryz.prog 15 [.lf (.int .i64 k),.lf (.int .i64 bit)] [] (.lf (.bool (hasB k bit))) []:=by
 refine R_i [] [] c15_ok rfl (by simp) ?_
 have h1:usesL[(↑k:Int).toNat * 1]? = some (.int .i64 (useOf k)):=by simpa using usesL_get hk
 simp -implicitDefEqProofs (maxSteps:=2000000) only [c15,hX,h1,↓reduceIte,S0,St.init,enum,Nat.reduceEqDiff,reduceCtorEq,ne_eq]
 exact ⟨⟨by omega,by omega⟩,rfl⟩
theorem pat {k:Nat} (hk:k < 21):∃ p ∈ [(false,false,false,false,false),(false,true,false,false,false),(false,false,false,false,true),(true,false,false,false,false),(true,true,false,false,false),(true,false,false,false,true),(false,true,true,true,false),(true,true,true,true,false)],
  hasB k 1 = p.1 ∧ hasB k 2 = p.2.1 ∧ hasB k 4 = p.2.2.1 ∧ hasB k 8 = p.2.2.2.1 ∧ hasB k 16 = p.2.2.2.2:=by
 have h:∀ i:Fin 21,(hasB i.val 1,hasB i.val 2,hasB i.val 4,hasB i.val 8,hasB i.val 16) ∈ [(false,false,false,false,false),(false,true,false,false,false),(false,false,false,false,true),(true,false,false,false,false),(true,true,false,false,false),(true,false,false,false,true),(false,true,true,true,false),(true,true,true,true,false)]:=by decide +kernel
 exact ⟨_,h ⟨k,hk⟩,rfl,rfl,rfl,rfl,rfl⟩
def Ins.plain (k:Nat) (x:Ins):Ins:={ op:=x.op,a:=if hasB k 1 = true then x.a else 0,b:=if hasB k 2 = true then x.b else 0,n:=if hasB k 4 = true then x.n else 0,t:=if hasB k 8 = true then x.t else ⟨#[]⟩,s0:=if hasB k 16 = true then x.s0 else 0,s1:=if hasB k 16 = true then x.s1 else 0,s2:=if hasB k 16 = true then x.s2 else 0,s3:=if hasB k 16 = true then x.s3 else 0 }
theorem r26 (hX:X.G 0 = some usesL) (k:Nat) (hk:k < 21) (x:Ins) (hx:x.op = k):R X Tryz.prog 26 [.ag x.c] [] (.ag (x.plain k).c) []:=by
 obtain ⟨op,a,b,n,t,s0,s1,s2,s3⟩:=x
 simp only at hx
 subst hx
 obtain ⟨p,hp,h1,h2,h3,h4,h5⟩:=pat hk
 simp only [Ins.plain,Ins.c,h1,h2,h3,h4,h5]
 refine R_i [] [] c26_ok rfl (by simp) ?_
 simp -implicitDefEqProofs (maxSteps:=2000000) only [c26,↓reduceIte,S0,St.init,enum,Nat.reduceEqDiff,Nat.reduceAdd,reduceCtorEq,PV.leaves,PV.cells,cellL,fillL,Nat.reduceBEq,Nat.reduceLeDiff,ne_eq]
 refine wcall_s (r15 hX k hk 1) rfl rfl ?_
 simp only [List.mem_cons,List.not_mem_nil,or_false] at hp
 rcases hp with rfl | rfl | rfl | rfl | rfl | rfl | rfl | rfl
 all_goals
  simp only at h1 h2 h3 h4 h5
  simp -implicitDefEqProofs (maxSteps:=2000000) only [c26,h1,h2,h3,h4,h5,↓reduceIte,S0,Nat.reduceEqDiff,Nat.reduceAdd,St.clr,outV,ownsV,owns1,ownL,PV.leaves,PV.cells,cellL,fillL,Nat.reduceLeDiff]
  refine wcall_s (r15 hX k hk 2) rfl rfl ?_
  simp -implicitDefEqProofs (maxSteps:=2000000) only [c26,h1,h2,h3,h4,h5,↓reduceIte,S0,Nat.reduceEqDiff,Nat.reduceAdd,St.clr,outV,ownsV,owns1,ownL,PV.leaves,PV.cells,cellL,fillL,Nat.reduceLeDiff]
  refine wcall_s (r15 hX k hk 4) rfl rfl ?_
  simp -implicitDefEqProofs (maxSteps:=2000000) only [c26,h1,h2,h3,h4,h5,↓reduceIte,S0,Nat.reduceEqDiff,Nat.reduceAdd,St.clr,outV,ownsV,owns1,ownL,PV.leaves,PV.cells,cellL,fillL,Nat.reduceLeDiff]
  refine wcall_s (r15 hX k hk 8) rfl rfl ?_
  simp -implicitDefEqProofs (maxSteps:=2000000) only [c26,h1,h2,h3,h4,h5,↓reduceIte,S0,Nat.reduceEqDiff,Nat.reduceAdd,St.clr,outV,ownsV,owns1,ownL,PV.leaves,PV.cells,cellL,fillL,Nat.reduceLeDiff]
  refine wcall_s (r15 hX k hk 16) rfl rfl ?_
  simp -implicitDefEqProofs (maxSteps:=2000000) only [c26,h1,h2,h3,h4,h5,↓reduceIte,S0,Nat.reduceEqDiff,Nat.reduceAdd,St.clr,outV,ownsV,owns1,ownL,PV.cells,cellL,fillL]
end Go.Proofs.YthcpaohmajjopaaGreatDoor.I
set_option linter.unusedVariables false
set_option linter.unusedSimpArgs false
namespace Go.Proofs.YthcpaohmajjopaaGreatDoor.I
open Go Go.Proofs.YthcpaohmajjopaaGreatDoor.AM
variable {X:Cx}
abbrev headP (c:Int):Prop:=(65 ≤ c ∧ c ≤ 90) ∨ (97 ≤ c ∧ c ≤ 122) ∨ c = 95
abbrev wordP (c:Int):Prop:=headP c ∨ (48 ≤ c ∧ c ≤ 57)
abbrev nameP (s:ByteArray):Prop:=1 ≤ s.size ∧ s.size ≤ 32 ∧ headP (byteAt s 0) ∧ ∀ i,i < s.size → wordP (byteAt s (i:Int))
theorem or32:∀ n:Fin 256,(((97 ≤ bits .or .u8 (n.val:Int) 32 ∧ bits .or .u8 (n.val:Int) 32 ≤ 122 ∧ (n.val:Int) < 128) ∨ (n.val:Int) = 95) ↔ headP (n.val:Int)):=by decide +kernel
theorem or32' {c:Int} (h0:0 ≤ c) (h1:c ≤ 255):((97 ≤ bits .or .u8 c 32 ∧ bits .or .u8 c 32 ≤ 122 ∧ c < 128) ∨ c = 95) ↔ headP c:=by
 have h:=or32 ⟨c.toNat,by omega⟩
 have e:((c.toNat:Nat):Int) = c:=by omega
 simp only [e] at h
 exact h
theorem r95 (c:Int) (h0:0 ≤ c) (h1:c ≤ 255):R X Tryz.prog 95 [.lf (.int .u8 c)] [] (.lf (.bool (decide (headP c)))) []:=by
 refine R_i [] [] c95_ok rfl (by simp) ?_
 have h:=or32' h0 h1
 simp -implicitDefEqProofs (maxSteps:=2000000) only [c95,↓reduceIte,S0,St.init,enum,Nat.reduceEqDiff,reduceCtorEq,cond_false,ite_not]
 generalize bits BinOp.or IntKind.u8 c 32 = y at *
 generalize hp:decide (headP c) = r
 have e1:((97 ≤ y ∧ y ≤ 122 ∧ c < 128) ∨ c = 95) → true = r:=fun q=>by rw [← hp,decide_eq_true (h.1 q)]
 have e2:¬ ((97 ≤ y ∧ y ≤ 122 ∧ c < 128) ∨ c = 95) → false = r:=fun q=>by rw [← hp,decide_eq_false (fun z=>q (h.2 z))]
 have e3:¬ (97 ≤ y ∧ y ≤ 122 ∧ c < 128) → decide (c = 95) = r:=fun q=>by
  by_cases hc:c = 95
  ·rw [decide_eq_true hc];exact e1 (.inr hc)
  ·rw [decide_eq_false hc];exact e2 (fun z=>z.elim q hc)
 iterate 3 (all_goals try (with_reducible refine ite_pr (fun _=>?_) (fun _=>?_)))
 ·exact e1 (by omega)
 all_goals exact e3 (by omega)
theorem r73 (s:ByteArray):R X Tryz.prog 73 [.lf (.str s)] [] (.lf (.bool (decide (nameP s)))) []:=by
 refine R_i [] [] c73_ok rfl (by simp) ?_
 generalize hr:decide (nameP s) = r
 have no:¬ nameP s → false = r:=fun h=>by rw [← hr,decide_eq_false h]
 have yes:nameP s → true = r:=fun h=>by rw [← hr,decide_eq_true h]
 have key:∀ (n i:Nat),n + i = s.size → s.size ≤ 32 → (∀ j,j < i → wordP (byteAt s (j:Int))) → 1 ≤ s.size → headP (byteAt s 0) → LoopAt X Tryz.prog c73_11 [0,18,19] (blkK 0 (seqK X Tryz.prog c73_15 (retS [] [] 0 [RV.t 2] (PV.lf (L.bool r)) [])))
   {m:=0,tm:=[(0,PV.lf (L.str s)),(18,PV.lf (L.int IntKind.i64 s.size)),(19,PV.lf (L.int IntKind.i64 i))],ce:=[] }:=by
  intro n
  induction n with
  | zero =>
   intro i hn h32 hall h1 hh Z hZ
   apply hZ
   simp -implicitDefEqProofs (maxSteps:=2000000) only [c73,↓reduceIte,S0,Nat.reduceEqDiff,reduceCtorEq,PV.leaves]
   with_reducible refine ite_pr (fun _=>?_) (fun _=>?_)
   ·omega
   ·exact yes ⟨h1,h32,hh,fun j hj=>hall j (by omega)⟩
  | succ n ih =>
   intro i hn h32 hall h1 hh Z hZ
   apply hZ
   have w3:IntKind.i64.wrap ((i:Int) + 1) = ((i + 1:Nat):Int):=by rw [w64 (by omega) (by omega)];omega
   simp -implicitDefEqProofs (maxSteps:=2000000) only [c73,w3,↓reduceIte,S0,Nat.reduceEqDiff,reduceCtorEq,PV.leaves]
   with_reducible refine ite_pr (fun _=>?_) (fun _=>?_)
   rotate_left
   ·omega
   refine ⟨⟨by omega,by omega⟩,?_⟩
   refine wcall_s (r95 _ (byteAt_0 s i) (byteAt_1 s i)) rfl rfl ?_
   simp -implicitDefEqProofs (maxSteps:=2000000) only [c73,w3,↓reduceIte,S0,Nat.reduceEqDiff,reduceCtorEq,cond_false,St.clr,outV,ownsV,owns1,ownL,List.range_zero,ite_not,Bool.not_eq_eq_eq_not]
   have bad:¬ wordP (byteAt s (i:Int)) → false = r:=fun h=>no (fun q=>h (q.2.2.2 i (by omega)))
   have nx:=fun h:wordP (byteAt s (i:Int))=>ih (i + 1) (by omega) h32 (fun j hj=>by
    rcases Nat.lt_succ_iff_lt_or_eq.1 hj with h | rfl
    ·exact hall j h
    ·assumption) h1 hh Z hZ
   generalize byteAt s (i:Int) = y at *
   with_reducible refine ite_pr (fun h=>?_) (fun h=>?_)
   ·exact nx (.inl h)
   refine ⟨⟨by omega,by omega⟩,?_⟩
   with_reducible refine ite_pr (fun h2=>?_) (fun h2=>?_)
   ·exact bad (by omega)
   refine ⟨⟨by omega,by omega⟩,?_⟩
   with_reducible refine ite_pr (fun h2=>?_) (fun h2=>?_)
   ·exact bad (by omega)
   ·exact nx (by omega)
 simp -implicitDefEqProofs (maxSteps:=2000000) only [c73,↓reduceIte,S0,St.init,enum,Nat.reduceEqDiff,reduceCtorEq,cond_false,PV.leaves,ite_not]
 with_reducible refine ite_pr (fun h=>?_) (fun h=>?_)
 ·exact no (fun q=>absurd q.1 (by rw [h];decide))
 have hz:1 ≤ s.size:=by
  rcases Nat.eq_zero_or_pos s.size with h0 | h0
  ·refine absurd ?_ h
   have:s.data = #[]:=Array.eq_empty_of_size_eq_zero h0
   cases s;simp_all
  ·exact h0
 with_reducible refine ite_pr (fun h2=>?_) (fun h2=>?_)
 ·exact no (fun q=>by have:=q.2.1;omega)
 refine ⟨⟨by omega,by omega⟩,?_⟩
 refine wcall_s (r95 _ (byteAt_0 s 0) (byteAt_1 s 0)) rfl rfl ?_
 simp -implicitDefEqProofs (maxSteps:=2000000) only [c73,↓reduceIte,S0,Nat.reduceEqDiff,reduceCtorEq,cond_false,St.clr,outV,ownsV,owns1,ownL,List.range_zero,ite_not,Bool.not_eq_eq_eq_not]
 with_reducible refine ite_pr (fun h3=>?_) (fun h3=>?_)
 ·exact key s.size 0 rfl (by omega) (fun j hj=>by omega) (by omega) h3
 ·exact no (fun q=>h3 q.2.2.1)
end Go.Proofs.YthcpaohmajjopaaGreatDoor.I
set_option linter.unusedVariables false
set_option linter.unusedSimpArgs false
namespace Go.Proofs.YthcpaohmajjopaaGreatDoor.I
open Go Go.Proofs.YthcpaohmajjopaaGreatDoor.AM
variable {X:Cx}
def tmB:List UInt8 → Bool
 | []=>true
 | c :: r=>if c.toNat = 37 then match r with
   | []=>false
   | d :: r'=>if d.toNat = 37 ∨ (48 ≤ d.toNat ∧ d.toNat ≤ 57) then tmB r' else false
  else tmB r
theorem drop_byte {s:ByteArray} {i:Nat} {c:UInt8} {r:List UInt8} (h:s.data.toList.drop i = c :: r):i < s.size ∧ byteAt s (i:Int) = (c.toNat:Int) ∧ s.data.toList.drop (i + 1) = r:=by
 have hl:s.data.toList.length = s.size:=size_len s
 have h1:i < s.data.toList.length:=by
  have:=congrArg List.length h
  simp at this;simp;omega
 refine ⟨by omega,?_,?_⟩
 ·have:=congrArg (fun l=>l[0]?) h
  simp only [List.getElem?_drop,Nat.add_zero,List.getElem?_cons_zero] at this
  unfold byteAt
  rw [Int.toNat_natCast,List.getD_eq_getElem?_getD,this];rfl
 ·rw [← List.drop_drop,h];rfl
def tempB (s:ByteArray):Bool:=decide (s.size ≤ 255) && tmB s.data.toList
theorem r74 (s:ByteArray):R X Tryz.prog 74 [.lf (.str s)] [] (.lf (.bool (tempB s))) []:=by
 refine R_i [] [] c74_ok rfl (by simp) ?_
 generalize hr:tempB s = r
 have key:∀ (n i:Nat) (q:List UInt8),s.data.toList.drop i = q → q.length ≤ n → s.size ≤ 255 → tmB q = r → LoopAt X Tryz.prog c74_14 [0,3] (blkK 0 (seqK X Tryz.prog c74_18 (retS [] [] 0 [RV.t 2] (PV.lf (L.bool r)) [])))
   {m:=0,tm:=[(0,PV.lf (L.str s)),(3,PV.lf (L.int IntKind.i64 i))],ce:=[] }:=by
  intro n
  induction n with
  | zero =>
   intro i q hq hn h255 hr Z hZ
   obtain rfl:q = []:=List.eq_nil_of_length_eq_zero (by omega)
   have hi:s.size ≤ i:=by
    have:=congrArg List.length hq
    simp at this;omega
   apply hZ
   simp -implicitDefEqProofs (maxSteps:=2000000) only [c74,↓reduceIte,S0,Nat.reduceEqDiff,reduceCtorEq,cond_false,List.range_zero,ne_eq,ite_not]
   with_reducible refine ite_pr (fun _=>?_) (fun _=>?_)
   ·omega
   ·exact hr
  | succ n ih =>
   intro i q hq hn h255 hr Z hZ
   apply hZ
   cases q with
   | nil =>
    have hi:s.size ≤ i:=by
     have:=congrArg List.length hq
     simp at this;omega
    simp -implicitDefEqProofs (maxSteps:=2000000) only [c74,↓reduceIte,S0,Nat.reduceEqDiff,reduceCtorEq,cond_false,List.range_zero,ne_eq,ite_not]
    with_reducible refine ite_pr (fun _=>?_) (fun _=>?_)
    ·omega
    ·exact hr
   | cons c q =>
    obtain ⟨hi,hb,hq⟩:=drop_byte hq
    simp only [List.length_cons] at hn
    have w1:IntKind.i64.wrap ((i:Int) + 1) = ((i + 1:Nat):Int):=by rw [w64 (by omega) (by omega)];omega
    have w2:IntKind.i64.wrap (((i + 1:Nat):Int) + 1) = ((i + 2:Nat):Int):=by rw [w64 (by omega) (by omega)];omega
    simp -implicitDefEqProofs (maxSteps:=2000000) only [c74,w1,w2,↓reduceIte,S0,Nat.reduceEqDiff,reduceCtorEq,cond_false,List.range_zero,ne_eq,ite_not]
    with_reducible refine ite_pr (fun _=>?_) (fun _=>?_)
    rotate_left
    ·omega
    refine ⟨⟨by omega,by omega⟩,?_⟩
    have hsz:s.data.toList.length = s.size:=size_len s
    with_reducible refine ite_pr (fun h37=>?_) (fun h37=>?_)
    ·have hc:c.toNat = 37:=by omega
     cases q with
     | nil =>
      have he:s.size = i + 1:=by
       have:=congrArg List.length hq
       rw [List.length_drop,hsz] at this
       simp at this;omega
      simp only [tmB,hc,if_true] at hr
      with_reducible refine ite_pr (fun _=>?_) (fun _=>?_)
      ·exact hr
      ·omega
     | cons d q =>
      obtain ⟨hi2,hb2,hq2⟩:=drop_byte hq
      simp only [tmB,hc,if_true] at hr
      simp only [List.length_cons] at hn
      have nx:=fun h:d.toNat = 37 ∨ (48 ≤ d.toNat ∧ d.toNat ≤ 57)=>ih (i + 2) q hq2 (by omega) h255 (by rw [if_pos h] at hr;exact hr) Z hZ
      have bad:¬ (d.toNat = 37 ∨ (48 ≤ d.toNat ∧ d.toNat ≤ 57)) → false = r:=fun h=>by rw [if_neg h] at hr;exact hr
      rw [hb2]
      with_reducible refine ite_pr (fun _=>?_) (fun _=>?_)
      ·omega
      refine ⟨⟨by omega,by omega⟩,?_⟩
      with_reducible refine ite_pr (fun _=>?_) (fun _=>?_)
      ·exact nx (by omega)
      refine ⟨⟨by omega,by omega⟩,?_⟩
      with_reducible refine ite_pr (fun _=>?_) (fun _=>?_)
      ·exact bad (by omega)
      refine ⟨⟨by omega,by omega⟩,?_⟩
      with_reducible refine ite_pr (fun _=>?_) (fun _=>?_)
      ·exact bad (by omega)
      ·exact nx (by omega)
    ·have hc:¬ c.toNat = 37:=by omega
     refine ih (i + 1) q hq (by omega) h255 ?_ Z hZ
     rw [tmB.eq_def] at hr
     simp only [hc,if_false] at hr
     exact hr
 simp -implicitDefEqProofs (maxSteps:=2000000) only [c74,↓reduceIte,S0,St.init,enum,reduceCtorEq,List.range_zero]
 with_reducible refine ite_pr (fun h=>?_) (fun h=>?_)
 ·rw [← hr,tempB,decide_eq_false (by omega)];rfl
 ·refine key s.data.toList.length 0 _ rfl (Nat.le_refl _) (by omega) ?_
  rw [← hr,tempB,decide_eq_true (by omega)];rfl
end Go.Proofs.YthcpaohmajjopaaGreatDoor.I
set_option linter.unusedVariables false
set_option linter.unusedSimpArgs false
namespace Go.Proofs.YthcpaohmajjopaaGreatDoor.I
open Go Go.Proofs.YthcpaohmajjopaaGreatDoor.AM
variable {X:Cx}
theorem r72 (op:Int):R X Tryz.prog 72 [.lf (.int .i64 op)] [] (.lf (.bool (decide ((14 ≤ op ∧ op ≤ 16) ∨ op = 23)))) []:=by
 refine R_i [] [] c72_ok rfl (by simp) ?_
 simp -implicitDefEqProofs (maxSteps:=2000000) only [c72,↓reduceIte,S0,St.init,enum,Nat.reduceEqDiff,reduceCtorEq,cond_false,ite_not]
 iterate 2 (all_goals try (with_reducible refine ite_pr (fun _=>?_) (fun _=>?_)))
 all_goals first
  |(rw [decide_eq_decide];omega)
  |(symm;rw [decide_eq_true_eq];omega)
theorem r55 (op:Int) (h:18 ≤ op ∧ op ≤ 23):R X Tryz.prog 55 [.lf (.int .i64 op)] [] (.lf (.int .i64 1)) []:=by
 refine R_i [] [] c55_ok rfl (by simp) ?_
 simp -implicitDefEqProofs (maxSteps:=2000000) only [c55,↓reduceIte,S0,St.init,enum,Nat.reduceEqDiff,reduceCtorEq,cond_false,Int.reduceNeg,ite_not]
 (repeat' split)<;>first | trivial | omega
theorem r55':R X Tryz.prog 55 [.lf (.int .i64 3)] [] (.lf (.int .i64 0)) []:=by
 refine R_i [] [] c55_ok rfl (by simp) ?_
 simp -implicitDefEqProofs (maxSteps:=2000000) only [c55,↓reduceIte,S0,St.init,enum,Nat.reduceEqDiff,reduceCtorEq,cond_false,Int.reduceNeg,ite_not]
 decide
def fldB (op n:Int) (t:ByteArray):Bool:=decide (0 ≤ n ∧ n ≤ 50 ∧ (n = 0 ∨ op = 23)) && (if op = 19 then decide (t = ⟨#[]⟩) || decide (nameP t) else if op = 22 then tempB t else decide (t = ⟨#[]⟩))
theorem r56 (op n:Int) (t:ByteArray) (ho:op = 3 ∨ (18 ≤ op ∧ op ≤ 23)):R X Tryz.prog 56 [.ag [.int .i64 op,.int .i64 n,.str t,.int .u64 0,.int .u64 0,.int .u64 0,.int .u64 0]] [] (.lf (.bool (fldB op n t))) []:=by
 refine R_i [] [] c56_ok rfl (by simp) ?_
 have he:eqLs [.int .u64 0,.int .u64 0,.int .u64 0,.int .u64 0] [.int .u64 0,.int .u64 0,.int .u64 0,.int .u64 0] = some true:=rfl
 have hb:=fun neg ks K=>v_beq (neg:=neg) (ks:=ks) (K:=K) he
 generalize hr:fldB op n t = r
 have no:¬ (0 ≤ n ∧ n ≤ 50 ∧ (n = 0 ∨ op = 23)) → false = r:=fun h=>by rw [← hr,fldB,decide_eq_false h];rfl
 have yes:(0 ≤ n ∧ n ≤ 50 ∧ (n = 0 ∨ op = 23)) → (if op = 19 then decide (t = ⟨#[]⟩) || decide (nameP t) else if op = 22 then tempB t else decide (t = ⟨#[]⟩)) = r:=fun h=>by rw [← hr,fldB,decide_eq_true h];rfl
 clear hr
 simp -implicitDefEqProofs (maxSteps:=2000000) only [c56,hb,↓reduceIte,S0,St.init,enum,Nat.reduceEqDiff,Nat.reduceAdd,cond_false,PV.leaves,ne_eq,ite_not]
 clear hb he
 iterate 4 (all_goals try (with_reducible refine ite_pr (fun _=>?_) (fun _=>?_));all_goals try omega)
 all_goals try exact no (by omega)
 all_goals try (refine wcall_s (r72 op) rfl rfl ?_;simp -implicitDefEqProofs (maxSteps:=2000000) only [c56,↓reduceIte,S0,Nat.reduceEqDiff,cond_false,St.clr,outV,ownsV,owns1,ownL,PV.leaves,ne_eq,ite_not,Bool.not_eq_eq_eq_not])
 iterate 6 (all_goals try (with_reducible refine ite_pr (fun _=>?_) (fun _=>?_));all_goals try omega)
 all_goals try exact no (by omega)
 all_goals (have y:=yes (by omega);clear yes no ho)
 all_goals try (refine wcall_s (r73 t) rfl rfl ?_;simp -implicitDefEqProofs (maxSteps:=2000000) only [c56,↓reduceIte,S0,Nat.reduceEqDiff,St.clr,outV,ownsV,owns1,ownL])
 all_goals try (refine wcall_s (r74 t) rfl rfl ?_;simp -implicitDefEqProofs (maxSteps:=2000000) only [c56,↓reduceIte,S0,St.clr,outV,ownsV,owns1,ownL])
 all_goals simp_all
end Go.Proofs.YthcpaohmajjopaaGreatDoor.I
