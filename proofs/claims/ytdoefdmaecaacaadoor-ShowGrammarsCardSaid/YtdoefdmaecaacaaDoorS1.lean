/- Contracts, part S1. -/
import Derived.Test.YtdoefdmaecaacaaDoorProg
import Derived.Test.YtdoefdmaecaacaaDoorAmLeaf2
import Derived.Test.YtdoefdmaecaacaaDoorAmOpen
set_option maxRecDepth 100000
namespace Go.Proofs.YtdoefdmaecaacaaDoor.S
open Go Go.Proofs.YtdoefdmaecaacaaDoor.AM
abbrev c14_0 : AC := .seq (.ops 0 [⟨(some 18), .mv (.t 0), none⟩, ⟨(some 19), .nc (.t 18), none⟩, ⟨(some 20), .fa (.t 19) 2, none⟩, ⟨none, .st (.t 20) (.k (.lf (.bool true))) 1, none⟩] []) .ret
abbrev c14_1 : AC := .cond (.t 17) c14_0 .skip
abbrev c14_2 : AC := .seq (.ops 0 [⟨(some 4), .mv (.t 0), none⟩, ⟨(some 5), .nc (.t 4), none⟩, ⟨(some 6), .fa (.t 5) 2, none⟩, ⟨(some 7), .ld (.t 6) 1 false, none⟩, ⟨(some 8), .mv (.t 7), none⟩, ⟨(some 9), .mv (.t 0), (some (8, false))⟩, ⟨(some 10), .nc (.t 9), (some (8, false))⟩, ⟨(some 11), .fa (.t 10) 0, (some (8, false))⟩, ⟨(some 12), .callp 26 0 [(.t 11)], (some (8, false))⟩, ⟨(some 13), .mv (.t 1), (some (8, false))⟩, ⟨(some 14), .lns (.t 13), (some (8, false))⟩, ⟨(some 15), .bin .add (.t 12) (.t 14), (some (8, false))⟩, ⟨(some 16), .bin .gtr (.t 15) (.k (.lf (.int .i64 65536))), (some (8, false))⟩, ⟨(some 17), .pk (.t 8) (.k (.lf (.bool true))) (.t 16), none⟩] [0, 1, 17]) c14_1
abbrev c14_3 : AC := .seq c14_2 (.ops 0 [⟨(some 21), .mv (.t 0), none⟩, ⟨(some 22), .nc (.t 21), none⟩, ⟨(some 23), .fa (.t 22) 0, none⟩, ⟨(some 24), .mv (.t 1), none⟩, ⟨(some 25), .callp 27 0 [(.t 23), (.t 24)], none⟩] [])
abbrev c14 : AC := c14_3
theorem c14_ok : compileFn Tryd.prog 14 = some (26, AC.strip c14, []) := by kernel_rfl
abbrev c15_0 : AC := .cond (.t 11) .ret .skip
abbrev c15_1 : AC := .seq (.ops 0 [⟨(some 8), .mv (.t 0), none⟩, ⟨(some 9), .nc (.t 8), none⟩, ⟨(some 10), .fa (.t 9) 2, none⟩, ⟨(some 11), .ld (.t 10) 1 false, none⟩] [0, 1, 4, 11]) c15_0
abbrev c15_2 : AC := .cond (.t 79) (.ops 0 [⟨(some 80), .mv (.t 1), none⟩, ⟨(some 81), .nc (.t 80), none⟩, ⟨(some 82), .fa (.t 81) 0, none⟩, ⟨(some 83), .fa (.t 82) 2, none⟩, ⟨(some 84), .ld (.t 83) 1 false, none⟩, ⟨(some 85), .bin .add (.t 84) (.k (.lf (.str ⟨#[58]⟩))), none⟩, ⟨(some 5), .as 0 0 (.t 85), none⟩] [0, 1, 5]) .skip
abbrev c15_3 : AC := .seq (.ops 0 [⟨(some 74), .mv (.t 1), none⟩, ⟨(some 75), .nc (.t 74), none⟩, ⟨(some 76), .fa (.t 75) 0, none⟩, ⟨(some 77), .fa (.t 76) 2, none⟩, ⟨(some 78), .ld (.t 77) 1 false, none⟩, ⟨(some 79), .bin .neq (.t 78) (.k (.lf (.str ⟨#[]⟩))), none⟩] [0, 1, 5, 79]) c15_2
abbrev c15_4 : AC := .seq c15_3 (.ops 0 [⟨(some 86), .mv (.t 0), none⟩, ⟨(some 87), .mv (.t 5), none⟩, ⟨(some 88), .bin .add (.k (.lf (.str ⟨#[123, 58]⟩))) (.t 87), none⟩, ⟨(some 89), .bin .add (.t 88) (.k (.lf (.str ⟨#[32]⟩))), none⟩, ⟨(some 90), .mv (.t 1), none⟩, ⟨(some 91), .callp 30 0 [(.t 86), (.t 89), (.t 90), (.k (.lf (.int .i64 0))), (.k (.lf (.str ⟨#[32, 58, 125]⟩)))], none⟩] [])
abbrev c15_5 : AC := .seq (.ops 0 [⟨(some 5), .as 0 0 (.k (.lf (.str ⟨#[]⟩))), none⟩] [0, 1, 5]) c15_4
abbrev c15_6 : AC := .cond (.t 117) (.ops 0 [⟨(some 119), .mv (.t 0), none⟩, ⟨(some 120), .mv (.t 1), none⟩, ⟨(some 121), .callp 30 0 [(.t 119), (.k (.lf (.str ⟨#[33]⟩))), (.t 120), (.k (.lf (.int .i64 2))), (.k (.lf (.str ⟨#[]⟩)))], none⟩] []) (.ops 0 [⟨(some 17), .mv (.t 0), none⟩, ⟨(some 18), .mv (.t 1), none⟩, ⟨(some 19), .mv (.t 1), none⟩, ⟨(some 20), .callp 32 0 [(.t 19)], none⟩, ⟨(some 21), .callp 30 0 [(.t 17), (.k (.lf (.str ⟨#[]⟩))), (.t 18), (.k (.lf (.int .i64 3))), (.t 20)], none⟩] [])
abbrev c15_7 : AC := .seq (.ops 0 [⟨(some 118), .bin .eql (.t 16) (.k (.lf (.int .i64 13))), none⟩, ⟨(some 117), .as 0 0 (.t 118), none⟩] [0, 1, 117]) c15_6
abbrev c15_8 : AC := .cond (.t 112) (.ops 0 [⟨(some 114), .mv (.t 0), none⟩, ⟨(some 115), .mv (.t 1), none⟩, ⟨(some 116), .callp 30 0 [(.t 114), (.k (.lf (.str ⟨#[38]⟩))), (.t 115), (.k (.lf (.int .i64 2))), (.k (.lf (.str ⟨#[]⟩)))], none⟩] []) c15_7
abbrev c15_9 : AC := .seq (.ops 0 [⟨(some 113), .bin .eql (.t 16) (.k (.lf (.int .i64 12))), none⟩, ⟨(some 112), .as 0 0 (.t 113), none⟩] [0, 1, 16, 112]) c15_8
abbrev c15_10 : AC := .cond (.t 107) (.ops 0 [⟨(some 109), .mv (.t 0), none⟩, ⟨(some 110), .mv (.t 1), none⟩, ⟨(some 111), .callp 31 0 [(.t 109), (.t 110), (.k (.lf (.int .i64 0))), (.k (.lf (.str ⟨#[32, 47, 32]⟩)))], none⟩] []) c15_9
abbrev c15_11 : AC := .seq (.ops 0 [⟨(some 108), .bin .eql (.t 16) (.k (.lf (.int .i64 8))), none⟩, ⟨(some 107), .as 0 0 (.t 108), none⟩] [0, 1, 16, 107]) c15_10
abbrev c15_12 : AC := .cond (.t 102) (.ops 0 [⟨(some 104), .mv (.t 0), none⟩, ⟨(some 105), .mv (.t 1), none⟩, ⟨(some 106), .callp 31 0 [(.t 104), (.t 105), (.k (.lf (.int .i64 1))), (.k (.lf (.str ⟨#[32]⟩)))], none⟩] []) c15_11
abbrev c15_13 : AC := .seq (.ops 0 [⟨(some 103), .bin .eql (.t 16) (.k (.lf (.int .i64 7))), none⟩, ⟨(some 102), .as 0 0 (.t 103), none⟩] [0, 1, 16, 102]) c15_12
abbrev c15_14 : AC := .cond (.t 97) (.ops 0 [⟨(some 99), .mv (.t 0), none⟩, ⟨(some 100), .mv (.t 1), none⟩, ⟨(some 101), .callp 30 0 [(.t 99), (.k (.lf (.str ⟨#[123, 126, 32]⟩))), (.t 100), (.k (.lf (.int .i64 0))), (.k (.lf (.str ⟨#[32, 126, 125]⟩)))], none⟩] []) c15_13
abbrev c15_15 : AC := .seq (.ops 0 [⟨(some 98), .bin .eql (.t 16) (.k (.lf (.int .i64 21))), none⟩, ⟨(some 97), .as 0 0 (.t 98), none⟩] [0, 1, 16, 97]) c15_14
abbrev c15_16 : AC := .cond (.t 92) (.ops 0 [⟨(some 94), .mv (.t 0), none⟩, ⟨(some 95), .mv (.t 1), none⟩, ⟨(some 96), .callp 30 0 [(.t 94), (.k (.lf (.str ⟨#[123, 124, 32]⟩))), (.t 95), (.k (.lf (.int .i64 0))), (.k (.lf (.str ⟨#[32, 124, 125]⟩)))], none⟩] []) c15_15
abbrev c15_17 : AC := .seq (.ops 0 [⟨(some 93), .bin .eql (.t 16) (.k (.lf (.int .i64 20))), none⟩, ⟨(some 92), .as 0 0 (.t 93), none⟩] [0, 1, 16, 92]) c15_16
abbrev c15_18 : AC := .cond (.t 72) c15_5 c15_17
abbrev c15_19 : AC := .seq (.ops 0 [⟨(some 73), .bin .eql (.t 16) (.k (.lf (.int .i64 19))), none⟩, ⟨(some 72), .as 0 0 (.t 73), none⟩] [0, 1, 16, 72]) c15_18
abbrev c15_20 : AC := .cond (.t 67) (.ops 0 [⟨(some 69), .mv (.t 0), none⟩, ⟨(some 70), .mv (.t 1), none⟩, ⟨(some 71), .callp 30 0 [(.t 69), (.k (.lf (.str ⟨#[123]⟩))), (.t 70), (.k (.lf (.int .i64 0))), (.k (.lf (.str ⟨#[125]⟩)))], none⟩] []) c15_19
abbrev c15_21 : AC := .seq (.ops 0 [⟨(some 68), .bin .eql (.t 16) (.k (.lf (.int .i64 18))), none⟩, ⟨(some 67), .as 0 0 (.t 68), none⟩] [0, 1, 16, 67]) c15_20
abbrev c15_22 : AC := .cond (.t 58) (.ops 0 [⟨(some 60), .mv (.t 4), none⟩, ⟨(some 61), .mv (.t 1), none⟩, ⟨(some 62), .nc (.t 61), none⟩, ⟨(some 63), .fa (.t 62) 0, none⟩, ⟨(some 64), .fa (.t 63) 2, none⟩, ⟨(some 65), .ld (.t 64) 1 false, none⟩, ⟨(some 66), .cald (.t 60) [(.t 65)], none⟩] []) c15_21
abbrev c15_23 : AC := .seq (.ops 0 [⟨(some 59), .bin .eql (.t 16) (.k (.lf (.int .i64 6))), none⟩, ⟨(some 58), .as 0 0 (.t 59), none⟩] [0, 1, 4, 16, 58]) c15_22
abbrev c15_24 : AC := .cond (.t 48) (.ops 0 [⟨(some 50), .mv (.t 4), none⟩, ⟨(some 51), .mv (.t 1), none⟩, ⟨(some 52), .nc (.t 51), none⟩, ⟨(some 53), .fa (.t 52) 0, none⟩, ⟨(some 54), .fa (.t 53) 3, none⟩, ⟨(some 55), .ld (.t 54) 4 true, none⟩, ⟨(some 56), .call 29 [(.t 55)], none⟩, ⟨(some 57), .cald (.t 50) [(.t 56)], none⟩] []) c15_23
abbrev c15_25 : AC := .seq (.ops 0 [⟨(some 49), .bin .eql (.t 16) (.k (.lf (.int .i64 5))), none⟩, ⟨(some 48), .as 0 0 (.t 49), none⟩] [0, 1, 4, 16, 48]) c15_24
abbrev c15_26 : AC := .cond (.t 38) (.ops 0 [⟨(some 40), .mv (.t 4), none⟩, ⟨(some 41), .mv (.t 1), none⟩, ⟨(some 42), .nc (.t 41), none⟩, ⟨(some 43), .fa (.t 42) 0, none⟩, ⟨(some 44), .fa (.t 43) 2, none⟩, ⟨(some 45), .ld (.t 44) 1 false, none⟩, ⟨(some 46), .call 28 [(.t 45)], none⟩, ⟨(some 47), .cald (.t 40) [(.t 46)], none⟩] []) c15_25
abbrev c15_27 : AC := .seq (.ops 0 [⟨(some 39), .bin .eql (.t 16) (.k (.lf (.int .i64 4))), none⟩, ⟨(some 38), .as 0 0 (.t 39), none⟩] [0, 1, 4, 16, 38]) c15_26
abbrev c15_28 : AC := .cond (.t 34) (.ops 0 [⟨(some 36), .mv (.t 4), none⟩, ⟨(some 37), .cald (.t 36) [(.k (.lf (.str ⟨#[123, 125]⟩)))], none⟩] []) c15_27
abbrev c15_29 : AC := .seq (.ops 0 [⟨(some 35), .bin .eql (.t 16) (.k (.lf (.int .i64 17))), none⟩, ⟨(some 34), .as 0 0 (.t 35), none⟩] [0, 1, 4, 16, 34]) c15_28
abbrev c15_30 : AC := .cond (.t 30) (.ops 0 [⟨(some 32), .mv (.t 4), none⟩, ⟨(some 33), .cald (.t 32) [(.k (.lf (.str ⟨#[46]⟩)))], none⟩] []) c15_29
abbrev c15_31 : AC := .seq (.ops 0 [⟨(some 31), .bin .eql (.t 16) (.k (.lf (.int .i64 3))), none⟩, ⟨(some 30), .as 0 0 (.t 31), none⟩] [0, 1, 4, 16, 30]) c15_30
abbrev c15_32 : AC := .cond (.t 26) (.ops 0 [⟨(some 28), .mv (.t 4), none⟩, ⟨(some 29), .cald (.t 28) [(.k (.lf (.str ⟨#[37, 102]⟩)))], none⟩] []) c15_31
abbrev c15_33 : AC := .seq (.ops 0 [⟨(some 27), .bin .eql (.t 16) (.k (.lf (.int .i64 2))), none⟩, ⟨(some 26), .as 0 0 (.t 27), none⟩] [0, 1, 4, 16, 26]) c15_32
abbrev c15_34 : AC := .cond (.t 22) (.ops 0 [⟨(some 24), .mv (.t 4), none⟩, ⟨(some 25), .cald (.t 24) [(.k (.lf (.str ⟨#[37, 101]⟩)))], none⟩] []) c15_33
abbrev c15_35 : AC := .seq (.ops 0 [⟨(some 23), .bin .eql (.t 16) (.k (.lf (.int .i64 1))), none⟩, ⟨(some 22), .as 0 0 (.t 23), none⟩] [0, 1, 4, 16, 22]) c15_34
abbrev c15_36 : AC := .block 0 c15_35
abbrev c15_37 : AC := .seq (.ops 0 [⟨(some 12), .mv (.t 1), none⟩, ⟨(some 13), .nc (.t 12), none⟩, ⟨(some 14), .fa (.t 13) 0, none⟩, ⟨(some 15), .fa (.t 14) 0, none⟩, ⟨(some 16), .ld (.t 15) 1 false, none⟩] [0, 1, 4, 16]) c15_36
abbrev c15_38 : AC := .seq c15_1 c15_37
abbrev c15_39 : AC := .seq (.ops 0 [⟨(some 6), .mv (.t 0), none⟩, ⟨(some 7), .mkf 14 [(.t 6)] [], none⟩, ⟨(some 4), .as 0 0 (.t 7), none⟩] [0, 1, 4]) c15_38
abbrev c15 : AC := c15_39
theorem c15_ok : compileFn Tryd.prog 15 = some (122, AC.strip c15, []) := by kernel_rfl
abbrev c16_0 : AC := .cond (.t 11) .skip (.exit 0)
abbrev c16_1 : AC := .seq (.gdq [⟨(some 23), .mv (.t 6), none⟩, ⟨(some 24), .mv (.t 6), none⟩, ⟨(some 25), .nc (.t 24), none⟩, ⟨(some 26), .fa (.t 25) 7, none⟩, ⟨(some 27), .ld (.t 26) 1 false, none⟩, ⟨(some 28), .mv (.t 3), none⟩, ⟨(some 29), .mv (.t 7), none⟩] [⟨(some 30), .sll 1 (.t 28) (some (.t 29)) none, none⟩, ⟨(some 31), .app 49 1 8 (.t 27) (.t 30), none⟩, ⟨(some 32), .nc (.t 23), none⟩, ⟨(some 33), .fa (.t 32) 7, none⟩, ⟨none, .st (.t 33) (.t 31) 1, none⟩] [3, 6, 7, 8, 9, 10]) (.ops 0 [⟨(some 34), .mv (.t 3), none⟩, ⟨(some 35), .mv (.t 7), none⟩, ⟨(some 36), .sll 1 (.t 34) none (some (.t 35)), none⟩, ⟨(some 37), .mv (.t 6), none⟩, ⟨(some 38), .bsf 49 1 1 [.nilp] [(0, (.t 37))], none⟩, ⟨(some 39), .app 49 1 8 (.t 36) (.t 38), none⟩, ⟨(some 3), .as 49 1 (.t 39), none⟩] [3, 8, 9, 10])
abbrev c16_2 : AC := .seq (.ops 0 [⟨(some 17), .mv (.t 3), none⟩, ⟨(some 18), .len (.t 17), none⟩, ⟨(some 19), .fa (.t 5) 0, none⟩, ⟨(some 20), .ld (.t 19) 1 false, none⟩, ⟨(some 21), .call 33 [(.t 20)], none⟩, ⟨(some 22), .bin .sub (.t 18) (.t 21), none⟩, ⟨(some 7), .as 0 0 (.t 22), none⟩] [3, 6, 7, 8, 9, 10]) c16_1
abbrev c16_3 : AC := .seq (.ops 0 [⟨(some 14), .ld (.t 5) 7 true, none⟩, ⟨(some 15), .bd [.int .i64 0, .int .i64 0, .str ⟨#[]⟩, .int .u64 0, .int .u64 0, .int .u64 0, .int .u64 0, .lst .nl 1 [] []] [(0, 7, (.t 14))], none⟩, ⟨(some 16), .bx (.t 15), none⟩, ⟨(some 6), .as 0 0 (.t 16), none⟩] [3, 5, 6, 8, 9, 10]) c16_2
abbrev c16_4 : AC := .seq (.ops 0 [⟨(some 12), .ia (.t 8) (.t 10) 7, none⟩, ⟨(some 13), .ld (.t 12) 7 true, none⟩, ⟨(some 5), .al [.int .i64 0, .int .i64 0, .str ⟨#[]⟩, .int .u64 0, .int .u64 0, .int .u64 0, .int .u64 0], none⟩, ⟨none, .st (.t 5) (.t 13) 7, none⟩] [3, 5, 8, 9, 10]) c16_3
abbrev c16_5 : AC := .block 1 c16_4
abbrev c16_6 : AC := .seq c16_5 (.ops 0 [⟨(some 40), .bin .add (.t 10) (.k (.lf (.int .i64 1))), none⟩, ⟨(some 10), .mv (.t 40), none⟩] [3, 8, 9, 10])
abbrev c16_7 : AC := .seq c16_0 c16_6
abbrev c16_8 : AC := .seq (.ops 0 [⟨(some 11), .bin .lss (.t 10) (.t 9), none⟩] [3, 8, 9, 10, 11]) c16_7
abbrev c16_9 : AC := .loop c16_8 [3, 8, 9, 10]
abbrev c16_10 : AC := .block 0 c16_9
abbrev c16_11 : AC := .seq (.ops 0 [⟨(some 8), .mv (.t 0), none⟩, ⟨(some 9), .len (.t 8), none⟩, ⟨(some 10), .mv (.k (.lf (.int .i64 0))), none⟩] [3, 8, 9, 10]) c16_10
abbrev c16_12 : AC := .seq (.ops 0 [⟨(some 41), .mv (.t 3), none⟩, ⟨(some 42), .ia (.t 41) (.k (.lf (.int .i64 0))) 1, none⟩, ⟨(some 43), .ld (.t 42) 1 false, none⟩, ⟨(some 2), .as 0 0 (.t 43), none⟩] [2]) .ret
abbrev c16_13 : AC := .seq c16_11 c16_12
abbrev c16_14 : AC := .seq (.ops 0 [⟨(some 3), .as 49 1 (.k (.lf (.lst .nl 1 [] []))), none⟩] [0, 3]) c16_13
abbrev c16_15 : AC := .seq (.ops 0 [⟨(some 2), .as 0 0 (.k (.lf (.nilp))), none⟩] [0]) c16_14
abbrev c16 : AC := c16_15
theorem c16_ok : compileFn Tryd.prog 16 = some (44, AC.strip c16, [.t 2]) := by kernel_rfl
abbrev c17_0 : AC := .seq (.ops 0 [⟨(some 2), .as 0 0 (.k (.lf (.str ⟨#[]⟩))), none⟩, ⟨(some 3), .as 0 0 (.k (.lf (.int .i64 2))), none⟩] [2, 3]) .ret
abbrev c17_1 : AC := .cond (.t 7) c17_0 .skip
abbrev c17_2 : AC := .seq (.ops 0 [⟨(some 4), .mv (.t 0), none⟩, ⟨(some 5), .nc (.t 4), none⟩, ⟨(some 6), .fa (.t 5) 2, none⟩, ⟨(some 7), .ld (.t 6) 1 false, none⟩] [0, 7]) c17_1
abbrev c17_3 : AC := .seq (.ops 0 [⟨(some 8), .mv (.t 0), none⟩, ⟨(some 9), .nc (.t 8), none⟩, ⟨(some 10), .fa (.t 9) 0, none⟩, ⟨(some 11), .callp 34 0 [(.t 10)], none⟩, ⟨(some 2), .as 0 0 (.t 11), none⟩, ⟨(some 3), .as 0 0 (.k (.lf (.int .i64 0))), none⟩] [2, 3]) .ret
abbrev c17_4 : AC := .seq c17_2 c17_3
abbrev c17_5 : AC := .seq (.ops 0 [⟨(some 2), .as 0 0 (.k (.lf (.str ⟨#[]⟩))), none⟩, ⟨(some 3), .as 0 0 (.k (.lf (.int .i64 0))), none⟩] [0]) c17_4
abbrev c17 : AC := c17_5
theorem c17_ok : compileFn Tryd.prog 17 = some (12, AC.strip c17, [.t 2, .t 3]) := by kernel_rfl
abbrev c30_0 : AC := .seq (.ops 0 [⟨(some 13), .mv (.t 0), none⟩, ⟨(some 14), .mv (.t 2), none⟩, ⟨(some 15), .nc (.t 14), none⟩, ⟨(some 16), .fa (.t 15) 7, none⟩, ⟨(some 17), .ld (.t 16) 1 false, none⟩, ⟨(some 18), .ia (.t 17) (.k (.lf (.int .i64 0))) 1, none⟩, ⟨(some 19), .ld (.t 18) 1 false, none⟩, ⟨(some 20), .mv (.t 3), none⟩, ⟨(some 21), .callp 50 0 [(.t 13), (.t 19), (.t 20)], none⟩] [0, 4]) (.ops 0 [⟨(some 22), .mv (.t 0), none⟩, ⟨(some 23), .mv (.t 4), none⟩, ⟨(some 24), .callp 14 0 [(.t 22), (.t 23)], none⟩] [])
abbrev c30_1 : AC := .seq (.ops 0 [⟨(some 10), .mv (.t 0), none⟩, ⟨(some 11), .mv (.t 1), none⟩, ⟨(some 12), .callp 14 0 [(.t 10), (.t 11)], none⟩] [0, 2, 3, 4]) c30_0
abbrev c30 : AC := c30_1
theorem c30_ok : compileFn Tryd.prog 30 = some (25, AC.strip c30, []) := by kernel_rfl
abbrev c31_0 : AC := .cond (.t 22) .skip (.exit 0)
abbrev c31_1 : AC := .seq (.ops 2 [⟨(some 12), .mv (.t 9), none⟩, ⟨(some 13), .nc (.t 12), none⟩, ⟨(some 14), .fa (.t 13) 0, none⟩, ⟨(some 15), .fa (.t 14) 0, none⟩, ⟨(some 16), .ld (.t 15) 1 false, none⟩, ⟨(some 17), .mv (.t 1), none⟩, ⟨(some 18), .nc (.t 17), none⟩, ⟨(some 19), .fa (.t 18) 0, none⟩, ⟨(some 20), .fa (.t 19) 0, none⟩, ⟨(some 21), .ld (.t 20) 1 false, none⟩, ⟨(some 22), .bin .eql (.t 16) (.t 21), none⟩] [0, 1, 2, 3, 8, 9, 22]) c31_0
abbrev c31_2 : AC := .seq (.ops 0 [⟨(some 23), .mv (.t 8), none⟩, ⟨(some 24), .mv (.t 9), none⟩, ⟨(some 25), .nc (.t 24), none⟩, ⟨(some 26), .fa (.t 25) 7, none⟩, ⟨(some 27), .ld (.t 26) 1 false, none⟩, ⟨(some 28), .ia (.t 27) (.k (.lf (.int .i64 1))) 1, none⟩, ⟨(some 29), .ld (.t 28) 1 false, none⟩, ⟨(some 30), .bsf 49 1 1 [.nilp] [(0, (.t 29))], none⟩, ⟨(some 31), .app 49 1 8 (.t 23) (.t 30), none⟩, ⟨(some 8), .as 49 1 (.t 31), none⟩] [0, 1, 2, 3, 8, 9]) (.ops 0 [⟨(some 32), .mv (.t 9), none⟩, ⟨(some 33), .nc (.t 32), none⟩, ⟨(some 34), .fa (.t 33) 7, none⟩, ⟨(some 35), .ld (.t 34) 1 false, none⟩, ⟨(some 36), .ia (.t 35) (.k (.lf (.int .i64 0))) 1, none⟩, ⟨(some 37), .ld (.t 36) 1 false, none⟩, ⟨(some 9), .as 0 0 (.t 37), none⟩] [0, 1, 2, 3, 8, 9])
abbrev c31_3 : AC := .block 1 c31_2
abbrev c31_4 : AC := .seq c31_1 c31_3
abbrev c31_5 : AC := .loop c31_4 [0, 1, 2, 3, 8, 9]
abbrev c31_6 : AC := .block 0 c31_5
abbrev c31_7 : AC := .cond (.t 46) .skip (.exit 2)
abbrev c31_8 : AC := .seq (.ops 0 [⟨(some 45), .mv (.t 10), none⟩, ⟨(some 46), .bin .geq (.t 45) (.k (.lf (.int .i64 0))), none⟩] [0, 2, 3, 8, 10, 46]) c31_7
abbrev c31_9 : AC := .seq (.ops 0 [⟨(some 49), .mv (.t 0), none⟩, ⟨(some 50), .mv (.t 3), none⟩, ⟨(some 51), .callp 14 0 [(.t 49), (.t 50)], none⟩] [0, 2, 3, 8, 10]) (.ops 0 [⟨(some 52), .mv (.t 0), none⟩, ⟨(some 53), .mv (.t 8), none⟩, ⟨(some 54), .mv (.t 10), none⟩, ⟨(some 55), .ia (.t 53) (.t 54) 1, none⟩, ⟨(some 56), .ld (.t 55) 1 false, none⟩, ⟨(some 57), .mv (.t 2), none⟩, ⟨(some 58), .bin .add (.t 57) (.k (.lf (.int .i64 1))), none⟩, ⟨(some 59), .callp 50 0 [(.t 52), (.t 56), (.t 58)], none⟩] [0, 2, 3, 8, 10])
abbrev c31_10 : AC := .block 3 c31_9
abbrev c31_11 : AC := .seq c31_10 (.ops 0 [⟨(some 47), .mv (.t 10), none⟩, ⟨(some 48), .bin .sub (.t 47) (.k (.lf (.int .i64 1))), none⟩, ⟨(some 10), .as 0 0 (.t 48), none⟩] [0, 2, 3, 8, 10])
abbrev c31_12 : AC := .seq c31_8 c31_11
abbrev c31_13 : AC := .loop c31_12 [0, 2, 3, 8, 10]
abbrev c31_14 : AC := .block 2 c31_13
abbrev c31_15 : AC := .seq (.ops 0 [⟨(some 42), .mv (.t 8), none⟩, ⟨(some 43), .len (.t 42), none⟩, ⟨(some 44), .bin .sub (.t 43) (.k (.lf (.int .i64 1))), none⟩, ⟨(some 10), .as 0 0 (.t 44), none⟩] [0, 2, 3, 8, 10]) c31_14
abbrev c31_16 : AC := .seq (.ops 0 [⟨(some 38), .mv (.t 0), none⟩, ⟨(some 39), .mv (.t 9), none⟩, ⟨(some 40), .mv (.t 2), none⟩, ⟨(some 41), .callp 50 0 [(.t 38), (.t 39), (.t 40)], none⟩] [0, 2, 3, 8]) c31_15
abbrev c31_17 : AC := .seq c31_6 c31_16
abbrev c31_18 : AC := .seq (.ops 0 [⟨(some 11), .mv (.t 1), none⟩, ⟨(some 9), .as 0 0 (.t 11), none⟩] [0, 1, 2, 3, 8, 9]) c31_17
abbrev c31_19 : AC := .seq (.ops 0 [⟨(some 8), .as 49 1 (.k (.lf (.lst .nl 1 [] []))), none⟩] [0, 1, 2, 3, 8]) c31_18
abbrev c31 : AC := c31_19
theorem c31_ok : compileFn Tryd.prog 31 = some (60, AC.strip c31, []) := by kernel_rfl
abbrev c32_0 : AC := .seq (.ops 0 [⟨(some 2), .as 0 0 (.k (.lf (.str ⟨#[42]⟩))), none⟩] [2]) .ret
abbrev c32_1 : AC := .seq (.ops 0 [⟨(some 2), .as 0 0 (.k (.lf (.str ⟨#[43]⟩))), none⟩] [2]) .ret
abbrev c32_2 : AC := .seq (.ops 0 [⟨(some 2), .as 0 0 (.k (.lf (.str ⟨#[63]⟩))), none⟩] [2]) .ret
abbrev c32_3 : AC := .seq (.ops 0 [⟨(some 23), .mv (.t 3), none⟩, ⟨(some 24), .bin .add (.k (.lf (.str ⟨#[94]⟩))) (.t 23), none⟩, ⟨(some 2), .as 0 0 (.t 24), none⟩] [2]) .ret
abbrev c32_4 : AC := .seq (.ops 0 [⟨(some 27), .mv (.t 3), none⟩, ⟨(some 28), .bin .add (.k (.lf (.str ⟨#[94, 43]⟩))) (.t 27), none⟩, ⟨(some 2), .as 0 0 (.t 28), none⟩] [2]) .ret
abbrev c32_5 : AC := .seq (.ops 0 [⟨(some 31), .mv (.t 3), none⟩, ⟨(some 32), .bin .add (.k (.lf (.str ⟨#[94, 45]⟩))) (.t 31), none⟩, ⟨(some 2), .as 0 0 (.t 32), none⟩] [2]) .ret
abbrev c32_6 : AC := .seq (.ops 0 [⟨(some 35), .mv (.t 0), none⟩, ⟨(some 36), .nc (.t 35), none⟩, ⟨(some 37), .fa (.t 36) 0, none⟩, ⟨(some 38), .fa (.t 37) 2, none⟩, ⟨(some 39), .ld (.t 38) 1 false, none⟩, ⟨(some 40), .call 28 [(.t 39)], none⟩, ⟨(some 41), .bin .add (.k (.lf (.str ⟨#[32, 45, 62, 32]⟩))) (.t 40), none⟩, ⟨(some 2), .as 0 0 (.t 41), none⟩] [2]) .ret
abbrev c32_7 : AC := .cond (.t 33) c32_6 .skip
abbrev c32_8 : AC := .seq (.ops 0 [⟨(some 34), .bin .eql (.t 14) (.k (.lf (.int .i64 22))), none⟩, ⟨(some 33), .as 0 0 (.t 34), none⟩] [0, 3, 33]) c32_7
abbrev c32_9 : AC := .cond (.t 29) c32_5 c32_8
abbrev c32_10 : AC := .seq (.ops 0 [⟨(some 30), .bin .eql (.t 14) (.k (.lf (.int .i64 16))), none⟩, ⟨(some 29), .as 0 0 (.t 30), none⟩] [0, 3, 14, 29]) c32_9
abbrev c32_11 : AC := .cond (.t 25) c32_4 c32_10
abbrev c32_12 : AC := .seq (.ops 0 [⟨(some 26), .bin .eql (.t 14) (.k (.lf (.int .i64 15))), none⟩, ⟨(some 25), .as 0 0 (.t 26), none⟩] [0, 3, 14, 25]) c32_11
abbrev c32_13 : AC := .cond (.t 21) c32_3 c32_12
abbrev c32_14 : AC := .seq (.ops 0 [⟨(some 22), .bin .eql (.t 14) (.k (.lf (.int .i64 14))), none⟩, ⟨(some 21), .as 0 0 (.t 22), none⟩] [0, 3, 14, 21]) c32_13
abbrev c32_15 : AC := .cond (.t 19) c32_2 c32_14
abbrev c32_16 : AC := .seq (.ops 0 [⟨(some 20), .bin .eql (.t 14) (.k (.lf (.int .i64 11))), none⟩, ⟨(some 19), .as 0 0 (.t 20), none⟩] [0, 3, 14, 19]) c32_15
abbrev c32_17 : AC := .cond (.t 17) c32_1 c32_16
abbrev c32_18 : AC := .seq (.ops 0 [⟨(some 18), .bin .eql (.t 14) (.k (.lf (.int .i64 10))), none⟩, ⟨(some 17), .as 0 0 (.t 18), none⟩] [0, 3, 14, 17]) c32_17
abbrev c32_19 : AC := .cond (.t 15) c32_0 c32_18
abbrev c32_20 : AC := .seq (.ops 0 [⟨(some 16), .bin .eql (.t 14) (.k (.lf (.int .i64 9))), none⟩, ⟨(some 15), .as 0 0 (.t 16), none⟩] [0, 3, 14, 15]) c32_19
abbrev c32_21 : AC := .block 0 c32_20
abbrev c32_22 : AC := .seq (.ops 0 [⟨(some 10), .mv (.t 0), none⟩, ⟨(some 11), .nc (.t 10), none⟩, ⟨(some 12), .fa (.t 11) 0, none⟩, ⟨(some 13), .fa (.t 12) 0, none⟩, ⟨(some 14), .ld (.t 13) 1 false, none⟩] [0, 3, 14]) c32_21
abbrev c32_23 : AC := .seq (.ops 0 [⟨(some 42), .mv (.t 3), none⟩, ⟨(some 43), .bin .add (.k (.lf (.str ⟨#[32, 45, 62, 32]⟩))) (.t 42), none⟩, ⟨(some 2), .as 0 0 (.t 43), none⟩] [2]) .ret
abbrev c32_24 : AC := .seq c32_22 c32_23
abbrev c32_25 : AC := .seq (.ops 0 [⟨(some 4), .mv (.t 0), none⟩, ⟨(some 5), .nc (.t 4), none⟩, ⟨(some 6), .fa (.t 5) 0, none⟩, ⟨(some 7), .fa (.t 6) 1, none⟩, ⟨(some 8), .ld (.t 7) 1 false, none⟩, ⟨(some 9), .call 44 [(.t 8)], none⟩, ⟨(some 3), .as 0 0 (.t 9), none⟩] [0, 3]) c32_24
abbrev c32_26 : AC := .seq (.ops 0 [⟨(some 2), .as 0 0 (.k (.lf (.str ⟨#[]⟩))), none⟩] [0]) c32_25
abbrev c32 : AC := c32_26
theorem c32_ok : compileFn Tryd.prog 32 = some (44, AC.strip c32, [.t 2]) := by kernel_rfl
abbrev c50_0 : AC := .seq (.ops 0 [⟨(some 17), .mv (.t 0), none⟩, ⟨(some 18), .callp 14 0 [(.t 17), (.k (.lf (.str ⟨#[41]⟩)))], none⟩] []) .ret
abbrev c50_1 : AC := .seq (.ops 0 [⟨(some 14), .mv (.t 0), none⟩, ⟨(some 15), .mv (.t 1), none⟩, ⟨(some 16), .callp 15 0 [(.t 14), (.t 15)], none⟩] [0]) c50_0
abbrev c50_2 : AC := .seq (.ops 0 [⟨(some 12), .mv (.t 0), none⟩, ⟨(some 13), .callp 14 0 [(.t 12), (.k (.lf (.str ⟨#[40]⟩)))], none⟩] [0, 1]) c50_1
abbrev c50_3 : AC := .cond (.t 11) c50_2 .skip
abbrev c50_4 : AC := .seq (.ops 0 [⟨(some 7), .mv (.t 6), none⟩, ⟨(some 8), .mv (.t 1), none⟩, ⟨(some 9), .cald (.t 7) [(.t 8)], none⟩, ⟨(some 10), .mv (.t 2), none⟩, ⟨(some 11), .bin .lss (.t 9) (.t 10), none⟩] [0, 1, 11]) c50_3
abbrev c50_5 : AC := .seq c50_4 (.ops 0 [⟨(some 19), .mv (.t 0), none⟩, ⟨(some 20), .mv (.t 1), none⟩, ⟨(some 21), .callp 15 0 [(.t 19), (.t 20)], none⟩] [])
abbrev c50_6 : AC := .seq (.ops 0 [⟨(some 6), .as 0 0 (.k (.lf (.fn 68 [] []))), none⟩] [0, 1, 2, 6]) c50_5
abbrev c50 : AC := c50_6
theorem c50_ok : compileFn Tryd.prog 50 = some (22, AC.strip c50, []) := by kernel_rfl
abbrev c68_0 : AC := .seq (.ops 0 [⟨(some 2), .as 0 0 (.k (.lf (.int .i64 0))), none⟩] [2]) .ret
abbrev c68_1 : AC := .seq (.ops 0 [⟨(some 2), .as 0 0 (.k (.lf (.int .i64 1))), none⟩] [2]) .ret
abbrev c68_2 : AC := .cond (.t 12) .skip (.ops 0 [⟨(some 14), .bin .eql (.t 7) (.k (.lf (.int .i64 13))), none⟩, ⟨(some 12), .as 0 0 (.t 14), none⟩] [7, 12])
abbrev c68_3 : AC := .seq (.ops 0 [⟨(some 13), .bin .eql (.t 7) (.k (.lf (.int .i64 12))), none⟩, ⟨(some 12), .as 0 0 (.t 13), none⟩] [7, 12]) c68_2
abbrev c68_4 : AC := .seq (.ops 0 [⟨(some 2), .as 0 0 (.k (.lf (.int .i64 2))), none⟩] [2]) .ret
abbrev c68_5 : AC := .cond (.t 15) .skip (.ops 0 [⟨(some 23), .bin .eql (.t 7) (.k (.lf (.int .i64 23))), none⟩, ⟨(some 15), .as 0 0 (.t 23), none⟩] [15])
abbrev c68_6 : AC := .seq (.ops 0 [⟨(some 22), .bin .eql (.t 7) (.k (.lf (.int .i64 22))), none⟩, ⟨(some 15), .as 0 0 (.t 22), none⟩] [7, 15]) c68_5
abbrev c68_7 : AC := .cond (.t 15) .skip c68_6
abbrev c68_8 : AC := .seq (.ops 0 [⟨(some 21), .bin .eql (.t 7) (.k (.lf (.int .i64 16))), none⟩, ⟨(some 15), .as 0 0 (.t 21), none⟩] [7, 15]) c68_7
abbrev c68_9 : AC := .cond (.t 15) .skip c68_8
abbrev c68_10 : AC := .seq (.ops 0 [⟨(some 20), .bin .eql (.t 7) (.k (.lf (.int .i64 15))), none⟩, ⟨(some 15), .as 0 0 (.t 20), none⟩] [7, 15]) c68_9
abbrev c68_11 : AC := .cond (.t 15) .skip c68_10
abbrev c68_12 : AC := .seq (.ops 0 [⟨(some 19), .bin .eql (.t 7) (.k (.lf (.int .i64 14))), none⟩, ⟨(some 15), .as 0 0 (.t 19), none⟩] [7, 15]) c68_11
abbrev c68_13 : AC := .cond (.t 15) .skip c68_12
abbrev c68_14 : AC := .seq (.ops 0 [⟨(some 18), .bin .eql (.t 7) (.k (.lf (.int .i64 11))), none⟩, ⟨(some 15), .as 0 0 (.t 18), none⟩] [7, 15]) c68_13
abbrev c68_15 : AC := .cond (.t 15) .skip c68_14
abbrev c68_16 : AC := .seq (.ops 0 [⟨(some 17), .bin .eql (.t 7) (.k (.lf (.int .i64 10))), none⟩, ⟨(some 15), .as 0 0 (.t 17), none⟩] [7, 15]) c68_15
abbrev c68_17 : AC := .cond (.t 15) .skip c68_16
abbrev c68_18 : AC := .seq (.ops 0 [⟨(some 16), .bin .eql (.t 7) (.k (.lf (.int .i64 9))), none⟩, ⟨(some 15), .as 0 0 (.t 16), none⟩] [7, 15]) c68_17
abbrev c68_19 : AC := .seq (.ops 0 [⟨(some 2), .as 0 0 (.k (.lf (.int .i64 3))), none⟩] [2]) .ret
abbrev c68_20 : AC := .cond (.t 15) c68_19 .skip
abbrev c68_21 : AC := .seq c68_18 c68_20
abbrev c68_22 : AC := .cond (.t 12) c68_4 c68_21
abbrev c68_23 : AC := .seq c68_3 c68_22
abbrev c68_24 : AC := .cond (.t 10) c68_1 c68_23
abbrev c68_25 : AC := .seq (.ops 0 [⟨(some 11), .bin .eql (.t 7) (.k (.lf (.int .i64 7))), none⟩, ⟨(some 10), .as 0 0 (.t 11), none⟩] [7, 10]) c68_24
abbrev c68_26 : AC := .cond (.t 8) c68_0 c68_25
abbrev c68_27 : AC := .seq (.ops 0 [⟨(some 9), .bin .eql (.t 7) (.k (.lf (.int .i64 8))), none⟩, ⟨(some 8), .as 0 0 (.t 9), none⟩] [7, 8]) c68_26
abbrev c68_28 : AC := .block 0 c68_27
abbrev c68_29 : AC := .seq (.ops 0 [⟨(some 3), .mv (.t 0), none⟩, ⟨(some 4), .nc (.t 3), none⟩, ⟨(some 5), .fa (.t 4) 0, none⟩, ⟨(some 6), .fa (.t 5) 0, none⟩, ⟨(some 7), .ld (.t 6) 1 false, none⟩] [7]) c68_28
abbrev c68_30 : AC := .seq (.ops 0 [⟨(some 2), .as 0 0 (.k (.lf (.int .i64 4))), none⟩] [2]) .ret
abbrev c68_31 : AC := .seq c68_29 c68_30
abbrev c68_32 : AC := .seq (.ops 0 [⟨(some 2), .as 0 0 (.k (.lf (.int .i64 0))), none⟩] [0]) c68_31
abbrev c68 : AC := c68_32
theorem c68_ok : compileFn Tryd.prog 68 = some (24, AC.strip c68, [.t 2]) := by kernel_rfl
abbrev c33_0 : AC := .seq (.ops 0 [⟨(some 2), .as 0 0 (.k (.lf (.int .i64 2))), none⟩] [2]) .ret
abbrev c33_1 : AC := .seq (.ops 0 [⟨(some 2), .as 0 0 (.k (.lf (.int .i64 0))), none⟩] [2]) .ret
abbrev c33_2 : AC := .seq (.ops 0 [⟨(some 2), .as 0 0 (.k (.lf (.int .i64 1))), none⟩] [2]) .ret
abbrev c33_3 : AC := .cond (.t 21) c33_2 .skip
abbrev c33_4 : AC := .seq (.ops 0 [⟨(some 22), .mv (.t 0), none⟩, ⟨(some 23), .bin .gtr (.t 22) (.k (.lf (.int .i64 8))), none⟩, ⟨(some 24), .mv (.t 23), none⟩, ⟨(some 25), .mv (.t 0), (some (24, true))⟩, ⟨(some 26), .bin .leq (.t 25) (.k (.lf (.int .i64 23))), (some (24, true))⟩, ⟨(some 27), .pk (.t 24) (.t 26) (.k (.lf (.bool false))), none⟩, ⟨(some 21), .as 0 0 (.t 27), none⟩] [21]) c33_3
abbrev c33_5 : AC := .cond (.t 10) c33_1 c33_4
abbrev c33_6 : AC := .seq (.ops 0 [⟨(some 11), .mv (.t 0), none⟩, ⟨(some 12), .bin .geq (.t 11) (.k (.lf (.int .i64 1))), none⟩, ⟨(some 13), .mv (.t 12), none⟩, ⟨(some 14), .mv (.t 0), (some (13, true))⟩, ⟨(some 15), .bin .leq (.t 14) (.k (.lf (.int .i64 6))), (some (13, true))⟩, ⟨(some 16), .pk (.t 13) (.t 15) (.k (.lf (.bool false))), none⟩, ⟨(some 17), .mv (.t 16), none⟩, ⟨(some 18), .mv (.t 0), (some (17, false))⟩, ⟨(some 19), .bin .eql (.t 18) (.k (.lf (.int .i64 17))), (some (17, false))⟩, ⟨(some 20), .pk (.t 17) (.k (.lf (.bool true))) (.t 19), none⟩, ⟨(some 10), .as 0 0 (.t 20), none⟩] [0, 10]) c33_5
abbrev c33_7 : AC := .cond (.t 3) c33_0 c33_6
abbrev c33_8 : AC := .seq (.ops 0 [⟨(some 4), .mv (.t 0), none⟩, ⟨(some 5), .bin .eql (.t 4) (.k (.lf (.int .i64 7))), none⟩, ⟨(some 6), .mv (.t 5), none⟩, ⟨(some 7), .mv (.t 0), (some (6, false))⟩, ⟨(some 8), .bin .eql (.t 7) (.k (.lf (.int .i64 8))), (some (6, false))⟩, ⟨(some 9), .pk (.t 6) (.k (.lf (.bool true))) (.t 8), none⟩, ⟨(some 3), .as 0 0 (.t 9), none⟩] [0, 3]) c33_7
abbrev c33_9 : AC := .block 0 c33_8
abbrev c33_10 : AC := .seq (.ops 0 [⟨(some 2), .as 0 0 (.k (.lf (.int .i64 (-1)))), none⟩] [2]) .ret
abbrev c33_11 : AC := .seq c33_9 c33_10
abbrev c33_12 : AC := .seq (.ops 0 [⟨(some 2), .as 0 0 (.k (.lf (.int .i64 0))), none⟩] [0]) c33_11
abbrev c33 : AC := c33_12
theorem c33_ok : compileFn Tryd.prog 33 = some (28, AC.strip c33, [.t 2]) := by kernel_rfl
abbrev c26_0 : AC := .seq (.ops 0 [⟨(some 3), .mv (.t 0), none⟩, ⟨(some 4), .nc (.t 3), none⟩, ⟨(some 5), .fa (.t 4) 1, none⟩, ⟨(some 6), .ld (.t 5) 1 false, none⟩, ⟨(some 7), .len (.t 6), none⟩, ⟨(some 2), .as 0 0 (.t 7), none⟩] [2]) .ret
abbrev c26_1 : AC := .seq (.ops 0 [⟨(some 2), .as 0 0 (.k (.lf (.int .i64 0))), none⟩] [0]) c26_0
abbrev c26 : AC := c26_1
theorem c26_ok : compileFn Tryd.prog 26 = some (8, AC.strip c26, [.t 2]) := by kernel_rfl
abbrev c27_0 : AC := .seq (.ops 0 [⟨(some 17), .mv (.t 1), none⟩, ⟨(some 18), .lns (.t 17), none⟩, ⟨(some 4), .as 0 0 (.t 18), none⟩, ⟨(some 5), .as 0 0 (.k (.lf (.nili))), none⟩] [4, 5]) .ret
abbrev c27_1 : AC := .seq (.ops 0 [⟨(some 8), .mv (.t 0), none⟩, ⟨(some 9), .mv (.t 0), none⟩, ⟨(some 10), .nc (.t 9), none⟩, ⟨(some 11), .fa (.t 10) 1, none⟩, ⟨(some 12), .ld (.t 11) 1 false, none⟩, ⟨(some 13), .mv (.t 1), none⟩, ⟨(some 14), .aps 5 (.t 12) (.t 13), none⟩, ⟨(some 15), .nc (.t 8), none⟩, ⟨(some 16), .fa (.t 15) 1, none⟩, ⟨none, .st (.t 16) (.t 14) 1, none⟩] [1]) c27_0
abbrev c27_2 : AC := .seq (.ops 0 [⟨(some 6), .mv (.t 0), none⟩, ⟨(some 7), .callp 45 0 [(.t 6)], none⟩] [0, 1]) c27_1
abbrev c27_3 : AC := .seq (.ops 0 [⟨(some 4), .as 0 0 (.k (.lf (.int .i64 0))), none⟩, ⟨(some 5), .as 0 0 (.k (.lf (.nili))), none⟩] [0, 1]) c27_2
abbrev c27 : AC := c27_3
theorem c27_ok : compileFn Tryd.prog 27 = some (19, AC.strip c27, [.t 4, .t 5]) := by kernel_rfl
abbrev c34_0 : AC := .seq (.reg [⟨(some 3), .mv (.t 0), none⟩, ⟨(some 4), .nc (.t 3), none⟩, ⟨(some 5), .fa (.t 4) 1, none⟩, ⟨(some 6), .ld (.t 5) 1 false, none⟩, ⟨(some 7), .usd (.t 6), none⟩, ⟨(some 8), .mv (.t 0), none⟩, ⟨(some 9), .nc (.t 8), none⟩, ⟨(some 10), .fa (.t 9) 1, none⟩, ⟨(some 11), .ld (.t 10) 1 false, none⟩, ⟨(some 12), .len (.t 11), none⟩] [⟨(some 13), .ust 5 (.t 7) (.t 12), none⟩, ⟨(some 2), .as 0 0 (.t 13), none⟩] [2]) .ret
abbrev c34_1 : AC := .seq (.ops 0 [⟨(some 2), .as 0 0 (.k (.lf (.str ⟨#[]⟩))), none⟩] [0]) c34_0
abbrev c34 : AC := c34_1
theorem c34_ok : compileFn Tryd.prog 34 = some (14, AC.strip c34, [.t 2]) := by kernel_rfl
abbrev c45_0 : AC := .cond (.t 19) .bad .skip
abbrev c45_1 : AC := .seq (.ops 0 [⟨(some 14), .mv (.t 0), none⟩, ⟨(some 15), .nc (.t 14), none⟩, ⟨(some 16), .fa (.t 15) 0, none⟩, ⟨(some 17), .ld (.t 16) 1 false, none⟩, ⟨(some 18), .mv (.t 0), none⟩, ⟨(some 19), .peq true (.t 17) (.t 18), none⟩] [19]) c45_0
abbrev c45_2 : AC := .cond (.t 6) (.ops 0 [⟨(some 7), .mv (.t 0), none⟩, ⟨(some 8), .mv (.t 0), none⟩, ⟨(some 9), .p2u (.t 8), none⟩, ⟨(some 10), .ex 0 [(.t 9)], none⟩, ⟨(some 11), .u2p 44 (.t 10), none⟩, ⟨(some 12), .nc (.t 7), none⟩, ⟨(some 13), .fa (.t 12) 0, none⟩, ⟨none, .st (.t 13) (.t 11) 1, none⟩] []) c45_1
abbrev c45_3 : AC := .seq (.ops 0 [⟨(some 2), .mv (.t 0), none⟩, ⟨(some 3), .nc (.t 2), none⟩, ⟨(some 4), .fa (.t 3) 0, none⟩, ⟨(some 5), .ld (.t 4) 1 false, none⟩, ⟨(some 6), .peq false (.t 5) (.k (.lf (.nilp))), none⟩] [0, 6]) c45_2
abbrev c45 : AC := c45_3
theorem c45_ok : compileFn Tryd.prog 45 = some (20, AC.strip c45, []) := by kernel_rfl
abbrev c64_0 : AC := .seq (.ops 0 [⟨(some 4), .as 0 0 (.k (.lf (.nili))), none⟩] [4]) .ret
abbrev c64_1 : AC := .seq (.ops 0 [⟨(some 7), .mv (.t 0), none⟩, ⟨(some 8), .mv (.t 0), none⟩, ⟨(some 9), .nc (.t 8), none⟩, ⟨(some 10), .fa (.t 9) 1, none⟩, ⟨(some 11), .ld (.t 10) 1 false, none⟩, ⟨(some 12), .mv (.t 1), none⟩, ⟨(some 13), .bs 5 1 1 [.int .u8 0] [(0, (.t 12))], none⟩, ⟨(some 14), .app 5 1 1 (.t 11) (.t 13), none⟩, ⟨(some 15), .nc (.t 7), none⟩, ⟨(some 16), .fa (.t 15) 1, none⟩, ⟨none, .st (.t 16) (.t 14) 1, none⟩] []) c64_0
abbrev c64_2 : AC := .seq (.ops 0 [⟨(some 5), .mv (.t 0), none⟩, ⟨(some 6), .callp 45 0 [(.t 5)], none⟩] [0, 1]) c64_1
abbrev c64_3 : AC := .seq (.ops 0 [⟨(some 4), .as 0 0 (.k (.lf (.nili))), none⟩] [0, 1]) c64_2
abbrev c64 : AC := c64_3
theorem c64_ok : compileFn Tryd.prog 64 = some (17, AC.strip c64, [.t 4]) := by kernel_rfl
end Go.Proofs.YtdoefdmaecaacaaDoor.S
set_option maxRecDepth 100000
namespace Go.Proofs.YtdoefdmaecaacaaDoor.S
open Go Go.Proofs.YtdoefdmaecaacaaDoor.AM
abbrev c13_0 : AC := .seq (.ops 0 [⟨(some 2), .as 0 0 (.k (.lf (.int .i64 3))), none⟩] [2]) .ret
abbrev c13_1 : AC := .cond (.t 11) c13_0 .skip
abbrev c13_2 : AC := .seq (.ops 0 [⟨(some 8), .fa (.t 1) 0, none⟩, ⟨(some 9), .ld (.t 8) 1 false, none⟩, ⟨(some 10), .len (.t 9), none⟩, ⟨(some 11), .bin .eql (.t 10) (.k (.lf (.int .i64 0))), none⟩] [1, 11]) c13_1
abbrev c13_3 : AC := .seq (.ops 0 [⟨(some 2), .as 0 0 (.k (.lf (.int .i64 2))), none⟩] [2]) .ret
abbrev c13_4 : AC := .cond (.t 15) c13_3 .skip
abbrev c13_5 : AC := .seq (.ops 0 [⟨(some 12), .fa (.t 1) 0, none⟩, ⟨(some 13), .ld (.t 12) 1 false, none⟩, ⟨(some 14), .len (.t 13), none⟩, ⟨(some 15), .bin .gtr (.t 14) (.k (.lf (.int .i64 200))), none⟩] [1, 15]) c13_4
abbrev c13_6 : AC := .cond (.t 20) .skip (.exit 0)
abbrev c13_7 : AC := .seq (.ops 0 [⟨(some 2), .as 0 0 (.k (.lf (.int .i64 6))), none⟩] [2]) .ret
abbrev c13_8 : AC := .cond (.t 37) c13_7 .skip
abbrev c13_9 : AC := .seq (.ops 0 [⟨(some 23), .fa (.t 5) 0, none⟩, ⟨(some 24), .ld (.t 23) 1 false, none⟩, ⟨(some 25), .call 25 [(.t 24)], none⟩, ⟨(some 26), .un .not (.t 25), none⟩, ⟨(some 27), .mv (.t 26), none⟩, ⟨(some 28), .fa (.t 5) 0, (some (27, true))⟩, ⟨(some 29), .ld (.t 28) 1 false, (some (27, true))⟩, ⟨(some 30), .bin .neq (.t 29) (.k (.lf (.str ⟨#[]⟩))), (some (27, true))⟩, ⟨(some 31), .mv (.t 30), (some (27, true))⟩, ⟨(some 32), .fa (.t 1) 0, (some (31, false))⟩, ⟨(some 33), .ld (.t 32) 1 false, (some (31, false))⟩, ⟨(some 34), .len (.t 33), (some (31, false))⟩, ⟨(some 35), .bin .gtr (.t 34) (.k (.lf (.int .i64 1))), (some (31, false))⟩, ⟨(some 36), .pk (.t 31) (.k (.lf (.bool true))) (.t 35), (some (27, true))⟩, ⟨(some 37), .pk (.t 27) (.t 36) (.k (.lf (.bool false))), none⟩] [1, 3, 5, 17, 18, 19, 37]) c13_8
abbrev c13_10 : AC := .seq (.ops 0 [⟨(some 46), .mv (.t 7), none⟩, ⟨(some 2), .as 0 0 (.t 46), none⟩] [2]) .ret
abbrev c13_11 : AC := .cond (.t 45) c13_10 .skip
abbrev c13_12 : AC := .seq (.ops 0 [⟨(some 44), .mv (.t 7), none⟩, ⟨(some 45), .bin .neq (.t 44) (.k (.lf (.int .i64 0))), none⟩] [1, 3, 5, 7, 17, 18, 19, 45]) c13_11
abbrev c13_13 : AC := .seq (.ops 0 [⟨(some 39), .fa (.t 5) 1, none⟩, ⟨(some 40), .ld (.t 39) 1 false, none⟩, ⟨(some 41), .call 22 [(.t 40)], none⟩, ⟨(some 38), .mv (.t 41), none⟩, ⟨(some 42), .ext (.t 38) 0, none⟩, ⟨(some 43), .ext (.t 38) 1, none⟩, ⟨(some 6), .as 0 0 (.t 42), none⟩, ⟨(some 7), .as 0 0 (.t 43), none⟩] [1, 3, 5, 7, 17, 18, 19]) c13_12
abbrev c13_14 : AC := .seq (.ops 0 [⟨(some 2), .as 0 0 (.k (.lf (.int .i64 2))), none⟩] [2]) .ret
abbrev c13_15 : AC := .cond (.t 53) c13_14 .skip
abbrev c13_16 : AC := .seq (.ops 0 [⟨(some 52), .mv (.t 3), none⟩, ⟨(some 53), .bin .gtr (.t 52) (.k (.lf (.int .i64 2048))), none⟩] [1, 3, 17, 18, 19, 53]) c13_15
abbrev c13_17 : AC := .seq (.ops 0 [⟨(some 47), .mv (.t 3), none⟩, ⟨(some 48), .fa (.t 5) 1, none⟩, ⟨(some 49), .ld (.t 48) 1 false, none⟩, ⟨(some 50), .len (.t 49), none⟩, ⟨(some 51), .bin .add (.t 47) (.t 50), none⟩, ⟨(some 3), .as 0 0 (.t 51), none⟩] [1, 3, 17, 18, 19]) c13_16
abbrev c13_18 : AC := .seq c13_13 c13_17
abbrev c13_19 : AC := .seq c13_9 c13_18
abbrev c13_20 : AC := .seq (.ops 0 [⟨(some 21), .ia (.t 17) (.t 19) 2, none⟩, ⟨(some 22), .ld (.t 21) 2 true, none⟩, ⟨(some 5), .al [.str ⟨#[]⟩, .lst (.own 643 58) 7 [] []], none⟩, ⟨none, .st (.t 5) (.t 22) 2, none⟩] [1, 3, 5, 17, 18, 19]) c13_19
abbrev c13_21 : AC := .block 1 c13_20
abbrev c13_22 : AC := .seq c13_21 (.ops 0 [⟨(some 54), .bin .add (.t 19) (.k (.lf (.int .i64 1))), none⟩, ⟨(some 19), .mv (.t 54), none⟩] [1, 3, 17, 18, 19])
abbrev c13_23 : AC := .seq c13_6 c13_22
abbrev c13_24 : AC := .seq (.ops 0 [⟨(some 20), .bin .lss (.t 19) (.t 18), none⟩] [1, 3, 17, 18, 19, 20]) c13_23
abbrev c13_25 : AC := .loop c13_24 [1, 3, 17, 18, 19]
abbrev c13_26 : AC := .block 0 c13_25
abbrev c13_27 : AC := .seq (.ops 0 [⟨(some 16), .fa (.t 1) 0, none⟩, ⟨(some 17), .ld (.t 16) 1 false, none⟩, ⟨(some 18), .len (.t 17), none⟩, ⟨(some 19), .mv (.k (.lf (.int .i64 0))), none⟩] [1, 3, 17, 18, 19]) c13_26
abbrev c13_28 : AC := .seq (.ops 0 [⟨(some 2), .as 0 0 (.k (.lf (.int .i64 0))), none⟩] [2]) .ret
abbrev c13_29 : AC := .seq c13_27 c13_28
abbrev c13_30 : AC := .seq (.ops 0 [⟨(some 3), .as 0 0 (.k (.lf (.int .i64 0))), none⟩] [1, 3]) c13_29
abbrev c13_31 : AC := .seq c13_5 c13_30
abbrev c13_32 : AC := .seq c13_2 c13_31
abbrev c13_33 : AC := .seq (.ops 0 [⟨(some 1), .bx (.t 0), none⟩, ⟨(some 2), .as 0 0 (.k (.lf (.int .i64 0))), none⟩] [1]) c13_32
abbrev c13 : AC := c13_33
theorem c13_ok : compileFn Tryd.prog 13 = some (55, AC.strip c13, [.t 2]) := by kernel_rfl
abbrev c22_0 : AC := .seq (.ops 0 [⟨(some 2), .as 0 0 (.k (.lf (.int .i64 0))), none⟩, ⟨(some 3), .as 0 0 (.k (.lf (.int .i64 2))), none⟩] [2, 3]) .ret
abbrev c22_1 : AC := .cond (.t 6) c22_0 .skip
abbrev c22_2 : AC := .seq (.ops 0 [⟨(some 4), .mv (.t 0), none⟩, ⟨(some 5), .len (.t 4), none⟩, ⟨(some 6), .bin .gtr (.t 5) (.k (.lf (.int .i64 2048))), none⟩] [0, 6]) c22_1
abbrev c22_3 : AC := .seq (.ops 0 [⟨(some 7), .mv (.t 0), none⟩, ⟨(some 8), .call 40 [(.t 7), (.k (.lf (.fn 41 [] [])))], none⟩, ⟨(some 9), .ext (.t 8) 0, none⟩, ⟨(some 10), .ext (.t 8) 1, none⟩, ⟨(some 2), .as 0 0 (.t 9), none⟩, ⟨(some 3), .as 0 0 (.t 10), none⟩] [2, 3]) .ret
abbrev c22_4 : AC := .seq c22_2 c22_3
abbrev c22_5 : AC := .seq (.ops 0 [⟨(some 2), .as 0 0 (.k (.lf (.int .i64 0))), none⟩, ⟨(some 3), .as 0 0 (.k (.lf (.int .i64 0))), none⟩] [0]) c22_4
abbrev c22 : AC := c22_5
theorem c22_ok : compileFn Tryd.prog 22 = some (11, AC.strip c22, [.t 2, .t 3]) := by kernel_rfl
abbrev c25_0 : AC := .seq (.ops 0 [⟨(some 12), .mv (.t 4), none⟩, ⟨(some 13), .bin .eql (.t 12) (.k (.lf (.int .i64 0))), none⟩, ⟨(some 2), .as 0 0 (.t 13), none⟩] [2]) .ret
abbrev c25_1 : AC := .seq (.ops 0 [⟨(some 6), .mv (.t 0), none⟩, ⟨(some 7), .bd [.int .i64 0, .int .i64 0, .str ⟨#[]⟩, .int .u64 0, .int .u64 0, .int .u64 0, .int .u64 0] [(0, 1, (.k (.lf (.int .i64 6)))), (2, 1, (.t 6))], none⟩, ⟨(some 8), .bs 58 7 1 [.int .i64 0, .int .i64 0, .str ⟨#[]⟩, .int .u64 0, .int .u64 0, .int .u64 0, .int .u64 0] [(0, (.t 7))], none⟩, ⟨(some 9), .call 22 [(.t 8)], none⟩, ⟨(some 5), .mv (.t 9), none⟩, ⟨(some 10), .ext (.t 5) 0, none⟩, ⟨(some 11), .ext (.t 5) 1, none⟩, ⟨(some 3), .as 0 0 (.t 10), none⟩, ⟨(some 4), .as 0 0 (.t 11), none⟩] [4]) c25_0
abbrev c25_2 : AC := .seq (.ops 0 [⟨(some 2), .as 0 0 (.k (.lf (.bool false))), none⟩] [0]) c25_1
abbrev c25 : AC := c25_2
theorem c25_ok : compileFn Tryd.prog 25 = some (14, AC.strip c25, [.t 2]) := by kernel_rfl
abbrev c40_0 : AC := .cond (.t 19) .skip (.exit 0)
abbrev c40_1 : AC := .seq (.ops 0 [⟨(some 28), .mv (.t 7), none⟩, ⟨(some 4), .as 0 0 (.t 28), none⟩, ⟨(some 5), .as 0 0 (.k (.lf (.int .i64 40))), none⟩] [4, 5]) .ret
abbrev c40_2 : AC := .cond (.t 27) c40_1 .skip
abbrev c40_3 : AC := .seq (.ops 0 [⟨(some 26), .mv (.t 9), none⟩, ⟨(some 27), .bin .lss (.t 26) (.k (.lf (.int .i64 0))), none⟩] [0, 1, 6, 7, 8, 9, 16, 17, 18, 27]) c40_2
abbrev c40_4 : AC := .seq (.ops 0 [⟨(some 32), .mv (.t 7), none⟩, ⟨(some 4), .as 0 0 (.t 32), none⟩, ⟨(some 5), .as 0 0 (.k (.lf (.int .i64 41))), none⟩] [4, 5]) .ret
abbrev c40_5 : AC := .cond (.t 31) c40_4 .skip
abbrev c40_6 : AC := .seq (.ops 0 [⟨(some 29), .ld (.t 8) 7 true, none⟩, ⟨(some 30), .call 57 [(.t 29)], none⟩, ⟨(some 31), .un .not (.t 30), none⟩] [0, 1, 6, 7, 8, 9, 16, 17, 18, 31]) c40_5
abbrev c40_7 : AC := .cond (.t 37) .skip (.exit 2)
abbrev c40_8 : AC := .seq (.ops 0 [⟨(some 42), .mv (.t 7), none⟩, ⟨(some 4), .as 0 0 (.t 42), none⟩, ⟨(some 5), .as 0 0 (.k (.lf (.int .i64 42))), none⟩] [4, 5]) .ret
abbrev c40_9 : AC := .cond (.t 41) c40_8 .skip
abbrev c40_10 : AC := .seq (.ops 0 [⟨(some 39), .fa (.t 10) 0, none⟩, ⟨(some 40), .ld (.t 39) 1 false, none⟩, ⟨(some 41), .bin .eql (.t 40) (.k (.lf (.int .i64 0))), none⟩] [0, 1, 6, 7, 8, 10, 11, 16, 17, 18, 35, 36, 41]) c40_9
abbrev c40_11 : AC := .cond (.t 62) (.ops 0 [⟨(some 63), .fa (.t 12) 1, none⟩, ⟨(some 64), .ld (.t 63) 1 false, none⟩, ⟨(some 65), .bin .sub (.t 64) (.k (.lf (.int .i64 1))), none⟩, ⟨(some 66), .fa (.t 12) 1, none⟩, ⟨none, .st (.t 66) (.t 65) 1, none⟩] [0, 1, 6, 7, 8, 10, 12, 16, 17, 18, 35, 36]) .skip
abbrev c40_12 : AC := .seq (.ops 2 [⟨(some 49), .mv (.t 11), none⟩, ⟨(some 50), .bin .eql (.t 49) (.k (.lf (.int .i64 1))), none⟩, ⟨(some 51), .mv (.t 50), none⟩, ⟨(some 52), .mv (.t 0), (some (51, true))⟩, ⟨(some 53), .fa (.t 10) 0, (some (51, true))⟩, ⟨(some 54), .ld (.t 53) 1 false, (some (51, true))⟩, ⟨(some 55), .bin .sub (.t 54) (.k (.lf (.int .i64 1))), (some (51, true))⟩, ⟨(some 56), .ia (.t 52) (.t 55) 7, (some (51, true))⟩, ⟨(some 57), .fa (.t 56) 0, (some (51, true))⟩, ⟨(some 58), .ld (.t 57) 1 false, (some (51, true))⟩, ⟨(some 59), .fa (.t 8) 0, (some (51, true))⟩, ⟨(some 60), .ld (.t 59) 1 false, (some (51, true))⟩, ⟨(some 61), .bin .eql (.t 58) (.t 60), (some (51, true))⟩, ⟨(some 62), .pk (.t 51) (.t 61) (.k (.lf (.bool false))), none⟩] [0, 1, 6, 7, 8, 10, 12, 16, 17, 18, 35, 36, 62]) c40_11
abbrev c40_13 : AC := .seq c40_12 (.ops 0 [⟨(some 67), .fa (.t 12) 0, none⟩, ⟨(some 68), .ld (.t 67) 1 false, none⟩, ⟨(some 69), .fa (.t 10) 1, none⟩, ⟨(some 70), .ld (.t 69) 1 false, none⟩, ⟨(some 71), .fa (.t 12) 1, none⟩, ⟨(some 72), .ld (.t 71) 1 false, none⟩, ⟨(some 73), .mm true (.t 70) (.t 72), none⟩, ⟨(some 74), .bd [.int .i64 0, .int .i64 0] [(0, 1, (.t 68)), (1, 1, (.t 73))], none⟩, ⟨none, .st (.t 10) (.t 74) 2, none⟩] [0, 1, 6, 7, 8, 10, 16, 17, 18, 35, 36])
abbrev c40_14 : AC := .seq (.ops 0 [⟨(some 43), .mv (.t 6), none⟩, ⟨(some 44), .fa (.t 10) 0, none⟩, ⟨(some 45), .ld (.t 44) 1 false, none⟩, ⟨(some 46), .bin .sub (.t 45) (.k (.lf (.int .i64 1))), none⟩, ⟨(some 47), .ia (.t 43) (.t 46) 2, none⟩, ⟨(some 48), .ld (.t 47) 2 true, none⟩, ⟨(some 12), .al [.int .i64 0, .int .i64 0], none⟩, ⟨none, .st (.t 12) (.t 48) 2, none⟩] [0, 1, 6, 7, 8, 10, 11, 12, 16, 17, 18, 35, 36]) c40_13
abbrev c40_15 : AC := .seq c40_10 c40_14
abbrev c40_16 : AC := .seq (.ops 0 [⟨(some 38), .mv (.t 36), none⟩, ⟨(some 11), .as 0 0 (.t 38), none⟩] [0, 1, 6, 7, 8, 10, 11, 16, 17, 18, 35, 36]) c40_15
abbrev c40_17 : AC := .block 3 c40_16
abbrev c40_18 : AC := .seq c40_17 (.ops 0 [⟨(some 75), .bin .add (.t 36) (.k (.lf (.int .i64 1))), none⟩, ⟨(some 36), .mv (.t 75), none⟩] [0, 1, 6, 7, 8, 10, 16, 17, 18, 35, 36])
abbrev c40_19 : AC := .seq c40_7 c40_18
abbrev c40_20 : AC := .seq (.ops 0 [⟨(some 37), .bin .lss (.t 36) (.t 35), none⟩] [0, 1, 6, 7, 8, 10, 16, 17, 18, 35, 36, 37]) c40_19
abbrev c40_21 : AC := .loop c40_20 [0, 1, 6, 7, 8, 10, 16, 17, 18, 35, 36]
abbrev c40_22 : AC := .block 2 c40_21
abbrev c40_23 : AC := .seq (.ops 0 [⟨(some 35), .mv (.t 9), none⟩, ⟨(some 36), .mv (.k (.lf (.int .i64 0))), none⟩] [0, 1, 6, 7, 8, 10, 16, 17, 18, 35, 36]) c40_22
abbrev c40_24 : AC := .seq (.ops 0 [⟨(some 83), .mv (.t 7), none⟩, ⟨(some 4), .as 0 0 (.t 83), none⟩, ⟨(some 5), .as 0 0 (.k (.lf (.int .i64 4))), none⟩] [4, 5]) .ret
abbrev c40_25 : AC := .cond (.t 82) c40_24 .skip
abbrev c40_26 : AC := .seq (.ops 0 [⟨(some 80), .fa (.t 10) 1, none⟩, ⟨(some 81), .ld (.t 80) 1 false, none⟩, ⟨(some 82), .bin .gtr (.t 81) (.k (.lf (.int .i64 60))), none⟩] [0, 1, 6, 7, 10, 16, 17, 18, 82]) c40_25
abbrev c40_27 : AC := .seq (.ops 0 [⟨(some 84), .mv (.t 6), none⟩, ⟨(some 85), .ld (.t 10) 2 true, none⟩, ⟨(some 86), .bs 86 2 1 [.int .i64 0, .int .i64 0] [(0, (.t 85))], none⟩, ⟨(some 87), .app 86 2 16 (.t 84) (.t 86), none⟩, ⟨(some 6), .as 86 2 (.t 87), none⟩] [0, 1, 6, 7, 10, 16, 17, 18]) (.ops 0 [⟨(some 88), .mv (.t 1), none⟩, ⟨(some 89), .mv (.t 7), none⟩, ⟨(some 90), .ld (.t 10) 2 true, none⟩, ⟨(some 91), .cald (.t 88) [(.t 89), (.t 90)], none⟩] [0, 1, 6, 16, 17, 18])
abbrev c40_28 : AC := .seq c40_26 c40_27
abbrev c40_29 : AC := .seq (.ops 0 [⟨(some 76), .fa (.t 10) 1, none⟩, ⟨(some 77), .ld (.t 76) 1 false, none⟩, ⟨(some 78), .bin .add (.t 77) (.k (.lf (.int .i64 1))), none⟩, ⟨(some 79), .fa (.t 10) 1, none⟩, ⟨none, .st (.t 79) (.t 78) 1, none⟩] [0, 1, 6, 7, 10, 16, 17, 18]) c40_28
abbrev c40_30 : AC := .seq c40_23 c40_29
abbrev c40_31 : AC := .seq (.ops 0 [⟨(some 33), .mv (.t 7), none⟩, ⟨(some 34), .bd [.int .i64 0, .int .i64 0] [(0, 1, (.t 33))], none⟩, ⟨(some 10), .al [.int .i64 0, .int .i64 0], none⟩, ⟨none, .st (.t 10) (.t 34) 2, none⟩] [0, 1, 6, 7, 8, 9, 10, 16, 17, 18]) c40_30
abbrev c40_32 : AC := .seq c40_6 c40_31
abbrev c40_33 : AC := .seq c40_3 c40_32
abbrev c40_34 : AC := .seq (.ops 0 [⟨(some 23), .fa (.t 8) 0, none⟩, ⟨(some 24), .ld (.t 23) 1 false, none⟩, ⟨(some 25), .call 33 [(.t 24)], none⟩, ⟨(some 9), .as 0 0 (.t 25), none⟩] [0, 1, 6, 7, 8, 9, 16, 17, 18]) c40_33
abbrev c40_35 : AC := .seq (.ops 0 [⟨(some 20), .mv (.t 18), none⟩, ⟨(some 21), .ia (.t 16) (.t 18) 7, none⟩, ⟨(some 22), .ld (.t 21) 7 true, none⟩, ⟨(some 8), .al [.int .i64 0, .int .i64 0, .str ⟨#[]⟩, .int .u64 0, .int .u64 0, .int .u64 0, .int .u64 0], none⟩, ⟨(some 7), .as 0 0 (.t 20), none⟩, ⟨none, .st (.t 8) (.t 22) 7, none⟩] [0, 1, 6, 7, 8, 16, 17, 18]) c40_34
abbrev c40_36 : AC := .block 1 c40_35
abbrev c40_37 : AC := .seq c40_36 (.ops 0 [⟨(some 92), .bin .add (.t 18) (.k (.lf (.int .i64 1))), none⟩, ⟨(some 18), .mv (.t 92), none⟩] [0, 1, 6, 16, 17, 18])
abbrev c40_38 : AC := .seq c40_0 c40_37
abbrev c40_39 : AC := .seq (.ops 0 [⟨(some 19), .bin .lss (.t 18) (.t 17), none⟩] [0, 1, 6, 16, 17, 18, 19]) c40_38
abbrev c40_40 : AC := .loop c40_39 [0, 1, 6, 16, 17, 18]
abbrev c40_41 : AC := .block 0 c40_40
abbrev c40_42 : AC := .seq (.ops 0 [⟨(some 16), .mv (.t 0), none⟩, ⟨(some 17), .len (.t 16), none⟩, ⟨(some 18), .mv (.k (.lf (.int .i64 0))), none⟩] [0, 1, 6, 16, 17, 18]) c40_41
abbrev c40_43 : AC := .seq (.ops 0 [⟨(some 106), .mv (.t 0), none⟩, ⟨(some 107), .len (.t 106), none⟩, ⟨(some 4), .as 0 0 (.t 107), none⟩, ⟨(some 5), .as 0 0 (.k (.lf (.int .i64 42))), none⟩] [4, 5]) .ret
abbrev c40_44 : AC := .cond (.t 105) c40_43 .skip
abbrev c40_45 : AC := .seq (.ops 0 [⟨(some 93), .mv (.t 0), none⟩, ⟨(some 94), .len (.t 93), none⟩, ⟨(some 95), .bin .eql (.t 94) (.k (.lf (.int .i64 0))), none⟩, ⟨(some 96), .mv (.t 95), none⟩, ⟨(some 97), .mv (.t 6), (some (96, false))⟩, ⟨(some 98), .mv (.t 0), (some (96, false))⟩, ⟨(some 99), .len (.t 98), (some (96, false))⟩, ⟨(some 100), .bin .sub (.t 99) (.k (.lf (.int .i64 1))), (some (96, false))⟩, ⟨(some 101), .ia (.t 97) (.t 100) 2, (some (96, false))⟩, ⟨(some 102), .fa (.t 101) 0, (some (96, false))⟩, ⟨(some 103), .ld (.t 102) 1 false, (some (96, false))⟩, ⟨(some 104), .bin .neq (.t 103) (.k (.lf (.int .i64 0))), (some (96, false))⟩, ⟨(some 105), .pk (.t 96) (.k (.lf (.bool true))) (.t 104), none⟩] [0, 105]) c40_44
abbrev c40_46 : AC := .seq (.ops 0 [⟨(some 4), .as 0 0 (.k (.lf (.int .i64 0))), none⟩, ⟨(some 5), .as 0 0 (.k (.lf (.int .i64 0))), none⟩] [4, 5]) .ret
abbrev c40_47 : AC := .seq c40_45 c40_46
abbrev c40_48 : AC := .seq c40_42 c40_47
abbrev c40_49 : AC := .seq (.ops 0 [⟨(some 13), .mv (.t 0), none⟩, ⟨(some 14), .len (.t 13), none⟩, ⟨(some 15), .ms 86 2 16 [.int .i64 0, .int .i64 0] (.k (.lf (.int .i64 0))) (.t 14), none⟩, ⟨(some 6), .as 86 2 (.t 15), none⟩] [0, 1, 6]) c40_48
abbrev c40_50 : AC := .seq (.ops 0 [⟨(some 4), .as 0 0 (.k (.lf (.int .i64 0))), none⟩, ⟨(some 5), .as 0 0 (.k (.lf (.int .i64 0))), none⟩] [0, 1]) c40_49
abbrev c40 : AC := c40_50
theorem c40_ok : compileFn Tryd.prog 40 = some (108, AC.strip c40, [.t 4, .t 5]) := by kernel_rfl
abbrev c41 : AC := (.ops 0 [⟨(some 3), .bx (.t 1), none⟩] [])
theorem c41_ok : compileFn Tryd.prog 41 = some (4, AC.strip c41, []) := by kernel_rfl
abbrev c57_0 : AC := .seq (.ops 0 [⟨(some 2), .as 0 0 (.k (.lf (.bool false))), none⟩] [2]) .ret
abbrev c57_1 : AC := .cond (.t 11) c57_0 .skip
abbrev c57_2 : AC := .seq (.ops 0 [⟨(some 3), .fa (.t 1) 0, none⟩, ⟨(some 4), .ld (.t 3) 1 false, none⟩, ⟨(some 5), .bin .neq (.t 4) (.k (.lf (.int .i64 5))), none⟩, ⟨(some 6), .mv (.t 5), none⟩, ⟨(some 7), .fa (.t 1) 3, (some (6, true))⟩, ⟨(some 8), .ld (.t 7) 4 true, (some (6, true))⟩, ⟨(some 9), .bd [.int .u64 0, .int .u64 0, .int .u64 0, .int .u64 0] [], (some (6, true))⟩, ⟨(some 10), .beq true [2, 2, 2, 2] (.t 8) (.t 9), (some (6, true))⟩, ⟨(some 11), .pk (.t 6) (.t 10) (.k (.lf (.bool false))), none⟩] [1, 11]) c57_1
abbrev c57_3 : AC := .seq (.ops 0 [⟨(some 2), .as 0 0 (.k (.lf (.bool false))), none⟩] [2]) .ret
abbrev c57_4 : AC := .cond (.t 30) c57_3 .skip
abbrev c57_5 : AC := .seq (.ops 0 [⟨(some 12), .fa (.t 1) 1, none⟩, ⟨(some 13), .ld (.t 12) 1 false, none⟩, ⟨(some 14), .bin .lss (.t 13) (.k (.lf (.int .i64 0))), none⟩, ⟨(some 15), .mv (.t 14), none⟩, ⟨(some 16), .fa (.t 1) 1, (some (15, false))⟩, ⟨(some 17), .ld (.t 16) 1 false, (some (15, false))⟩, ⟨(some 18), .bin .gtr (.t 17) (.k (.lf (.int .i64 50))), (some (15, false))⟩, ⟨(some 19), .pk (.t 15) (.k (.lf (.bool true))) (.t 18), none⟩, ⟨(some 20), .mv (.t 19), none⟩, ⟨(some 21), .fa (.t 1) 1, (some (20, false))⟩, ⟨(some 22), .ld (.t 21) 1 false, (some (20, false))⟩, ⟨(some 23), .bin .gtr (.t 22) (.k (.lf (.int .i64 0))), (some (20, false))⟩, ⟨(some 24), .mv (.t 23), (some (20, false))⟩, ⟨(some 25), .fa (.t 1) 0, (some (24, true))⟩, ⟨(some 26), .ld (.t 25) 1 false, (some (24, true))⟩, ⟨(some 27), .call 78 [(.t 26)], (some (24, true))⟩, ⟨(some 28), .un .not (.t 27), (some (24, true))⟩, ⟨(some 29), .pk (.t 24) (.t 28) (.k (.lf (.bool false))), (some (20, false))⟩, ⟨(some 30), .pk (.t 20) (.k (.lf (.bool true))) (.t 29), none⟩] [1, 30]) c57_4
abbrev c57_6 : AC := .seq (.ops 0 [⟨(some 35), .fa (.t 1) 2, none⟩, ⟨(some 36), .ld (.t 35) 1 false, none⟩, ⟨(some 37), .bin .neq (.t 36) (.k (.lf (.str ⟨#[]⟩))), none⟩, ⟨(some 38), .mv (.t 37), none⟩, ⟨(some 39), .fa (.t 1) 2, (some (38, true))⟩, ⟨(some 40), .ld (.t 39) 1 false, (some (38, true))⟩, ⟨(some 41), .lns (.t 40), (some (38, true))⟩, ⟨(some 42), .bin .leq (.t 41) (.k (.lf (.int .i64 255))), (some (38, true))⟩, ⟨(some 43), .pk (.t 38) (.t 42) (.k (.lf (.bool false))), none⟩, ⟨(some 2), .as 0 0 (.t 43), none⟩] [2]) .ret
abbrev c57_7 : AC := .seq (.ops 0 [⟨(some 46), .fa (.t 1) 2, none⟩, ⟨(some 47), .ld (.t 46) 1 false, none⟩, ⟨(some 48), .call 79 [(.t 47)], none⟩, ⟨(some 2), .as 0 0 (.t 48), none⟩] [2]) .ret
abbrev c57_8 : AC := .seq (.ops 0 [⟨(some 51), .fa (.t 1) 2, none⟩, ⟨(some 52), .ld (.t 51) 1 false, none⟩, ⟨(some 53), .bin .eql (.t 52) (.k (.lf (.str ⟨#[]⟩))), none⟩, ⟨(some 54), .mv (.t 53), none⟩, ⟨(some 55), .fa (.t 1) 2, (some (54, false))⟩, ⟨(some 56), .ld (.t 55) 1 false, (some (54, false))⟩, ⟨(some 57), .call 79 [(.t 56)], (some (54, false))⟩, ⟨(some 58), .pk (.t 54) (.k (.lf (.bool true))) (.t 57), none⟩, ⟨(some 2), .as 0 0 (.t 58), none⟩] [2]) .ret
abbrev c57_9 : AC := .seq (.ops 0 [⟨(some 61), .fa (.t 1) 2, none⟩, ⟨(some 62), .ld (.t 61) 1 false, none⟩, ⟨(some 63), .call 80 [(.t 62)], none⟩, ⟨(some 2), .as 0 0 (.t 63), none⟩] [2]) .ret
abbrev c57_10 : AC := .cond (.t 59) c57_9 .skip
abbrev c57_11 : AC := .seq (.ops 0 [⟨(some 60), .bin .eql (.t 32) (.k (.lf (.int .i64 22))), none⟩, ⟨(some 59), .as 0 0 (.t 60), none⟩] [1, 59]) c57_10
abbrev c57_12 : AC := .cond (.t 49) c57_8 c57_11
abbrev c57_13 : AC := .seq (.ops 0 [⟨(some 50), .bin .eql (.t 32) (.k (.lf (.int .i64 19))), none⟩, ⟨(some 49), .as 0 0 (.t 50), none⟩] [1, 32, 49]) c57_12
abbrev c57_14 : AC := .cond (.t 44) c57_7 c57_13
abbrev c57_15 : AC := .seq (.ops 0 [⟨(some 45), .bin .eql (.t 32) (.k (.lf (.int .i64 6))), none⟩, ⟨(some 44), .as 0 0 (.t 45), none⟩] [1, 32, 44]) c57_14
abbrev c57_16 : AC := .cond (.t 33) c57_6 c57_15
abbrev c57_17 : AC := .seq (.ops 0 [⟨(some 34), .bin .eql (.t 32) (.k (.lf (.int .i64 4))), none⟩, ⟨(some 33), .as 0 0 (.t 34), none⟩] [1, 32, 33]) c57_16
abbrev c57_18 : AC := .block 0 c57_17
abbrev c57_19 : AC := .seq (.ops 0 [⟨(some 31), .fa (.t 1) 0, none⟩, ⟨(some 32), .ld (.t 31) 1 false, none⟩] [1, 32]) c57_18
abbrev c57_20 : AC := .seq (.ops 0 [⟨(some 64), .fa (.t 1) 2, none⟩, ⟨(some 65), .ld (.t 64) 1 false, none⟩, ⟨(some 66), .bin .eql (.t 65) (.k (.lf (.str ⟨#[]⟩))), none⟩, ⟨(some 2), .as 0 0 (.t 66), none⟩] [2]) .ret
abbrev c57_21 : AC := .seq c57_19 c57_20
abbrev c57_22 : AC := .seq c57_5 c57_21
abbrev c57_23 : AC := .seq c57_2 c57_22
abbrev c57_24 : AC := .seq (.ops 0 [⟨(some 1), .bx (.t 0), none⟩, ⟨(some 2), .as 0 0 (.k (.lf (.bool false))), none⟩] [1]) c57_23
abbrev c57 : AC := c57_24
theorem c57_ok : compileFn Tryd.prog 57 = some (67, AC.strip c57, [.t 2]) := by kernel_rfl
abbrev c78_0 : AC := .seq (.ops 0 [⟨(some 3), .mv (.t 0), none⟩, ⟨(some 4), .bin .geq (.t 3) (.k (.lf (.int .i64 14))), none⟩, ⟨(some 5), .mv (.t 4), none⟩, ⟨(some 6), .mv (.t 0), (some (5, true))⟩, ⟨(some 7), .bin .leq (.t 6) (.k (.lf (.int .i64 16))), (some (5, true))⟩, ⟨(some 8), .pk (.t 5) (.t 7) (.k (.lf (.bool false))), none⟩, ⟨(some 9), .mv (.t 8), none⟩, ⟨(some 10), .mv (.t 0), (some (9, false))⟩, ⟨(some 11), .bin .eql (.t 10) (.k (.lf (.int .i64 23))), (some (9, false))⟩, ⟨(some 12), .pk (.t 9) (.k (.lf (.bool true))) (.t 11), none⟩, ⟨(some 2), .as 0 0 (.t 12), none⟩] [2]) .ret
abbrev c78_1 : AC := .seq (.ops 0 [⟨(some 2), .as 0 0 (.k (.lf (.bool false))), none⟩] [0]) c78_0
abbrev c78 : AC := c78_1
theorem c78_ok : compileFn Tryd.prog 78 = some (13, AC.strip c78, [.t 2]) := by kernel_rfl
abbrev c79_0 : AC := .seq (.ops 0 [⟨(some 2), .as 0 0 (.k (.lf (.bool false))), none⟩] [2]) .ret
abbrev c79_1 : AC := .cond (.t 16) c79_0 .skip
abbrev c79_2 : AC := .seq (.ops 0 [⟨(some 4), .mv (.t 0), none⟩, ⟨(some 5), .bin .eql (.t 4) (.k (.lf (.str ⟨#[]⟩))), none⟩, ⟨(some 6), .mv (.t 5), none⟩, ⟨(some 7), .mv (.t 0), (some (6, false))⟩, ⟨(some 8), .lns (.t 7), (some (6, false))⟩, ⟨(some 9), .bin .gtr (.t 8) (.k (.lf (.int .i64 32))), (some (6, false))⟩, ⟨(some 10), .pk (.t 6) (.k (.lf (.bool true))) (.t 9), none⟩, ⟨(some 11), .mv (.t 10), none⟩, ⟨(some 12), .mv (.t 0), (some (11, false))⟩, ⟨(some 13), .ixs (.t 12) (.k (.lf (.int .i64 0))), (some (11, false))⟩, ⟨(some 14), .call 96 [(.t 13)], (some (11, false))⟩, ⟨(some 15), .un .not (.t 14), (some (11, false))⟩, ⟨(some 16), .pk (.t 11) (.k (.lf (.bool true))) (.t 15), none⟩] [0, 16]) c79_1
abbrev c79_3 : AC := .cond (.t 20) .skip (.exit 0)
abbrev c79_4 : AC := .seq (.ops 0 [⟨(some 2), .as 0 0 (.k (.lf (.bool false))), none⟩] [2]) .ret
abbrev c79_5 : AC := .cond (.t 38) c79_4 .skip
abbrev c79_6 : AC := .seq (.ops 0 [⟨(some 22), .mv (.t 0), none⟩, ⟨(some 23), .mv (.t 3), none⟩, ⟨(some 24), .ixs (.t 22) (.t 23), none⟩, ⟨(some 25), .call 96 [(.t 24)], none⟩, ⟨(some 26), .un .not (.t 25), none⟩, ⟨(some 27), .mv (.t 26), none⟩, ⟨(some 28), .mv (.t 0), (some (27, true))⟩, ⟨(some 29), .mv (.t 3), (some (27, true))⟩, ⟨(some 30), .ixs (.t 28) (.t 29), (some (27, true))⟩, ⟨(some 31), .bin .lss (.t 30) (.k (.lf (.int .u8 48))), (some (27, true))⟩, ⟨(some 32), .mv (.t 31), (some (27, true))⟩, ⟨(some 33), .mv (.t 0), (some (32, false))⟩, ⟨(some 34), .mv (.t 3), (some (32, false))⟩, ⟨(some 35), .ixs (.t 33) (.t 34), (some (32, false))⟩, ⟨(some 36), .bin .gtr (.t 35) (.k (.lf (.int .u8 57))), (some (32, false))⟩, ⟨(some 37), .pk (.t 32) (.k (.lf (.bool true))) (.t 36), (some (27, true))⟩, ⟨(some 38), .pk (.t 27) (.t 37) (.k (.lf (.bool false))), none⟩] [0, 18, 19, 38]) c79_5
abbrev c79_7 : AC := .seq (.ops 0 [⟨(some 21), .mv (.t 19), none⟩, ⟨(some 3), .as 0 0 (.t 21), none⟩] [0, 3, 18, 19]) c79_6
abbrev c79_8 : AC := .block 1 c79_7
abbrev c79_9 : AC := .seq c79_8 (.ops 0 [⟨(some 39), .bin .add (.t 19) (.k (.lf (.int .i64 1))), none⟩, ⟨(some 19), .mv (.t 39), none⟩] [0, 18, 19])
abbrev c79_10 : AC := .seq c79_3 c79_9
abbrev c79_11 : AC := .seq (.ops 0 [⟨(some 20), .bin .lss (.t 19) (.t 18), none⟩] [0, 18, 19, 20]) c79_10
abbrev c79_12 : AC := .loop c79_11 [0, 18, 19]
abbrev c79_13 : AC := .block 0 c79_12
abbrev c79_14 : AC := .seq (.ops 0 [⟨(some 17), .mv (.t 0), none⟩, ⟨(some 18), .lns (.t 17), none⟩, ⟨(some 19), .mv (.k (.lf (.int .i64 0))), none⟩] [0, 18, 19]) c79_13
abbrev c79_15 : AC := .seq (.ops 0 [⟨(some 2), .as 0 0 (.k (.lf (.bool true))), none⟩] [2]) .ret
abbrev c79_16 : AC := .seq c79_14 c79_15
abbrev c79_17 : AC := .seq c79_2 c79_16
abbrev c79_18 : AC := .seq (.ops 0 [⟨(some 2), .as 0 0 (.k (.lf (.bool false))), none⟩] [0]) c79_17
abbrev c79 : AC := c79_18
theorem c79_ok : compileFn Tryd.prog 79 = some (40, AC.strip c79, [.t 2]) := by kernel_rfl
abbrev c80_0 : AC := .seq (.ops 0 [⟨(some 2), .as 0 0 (.k (.lf (.bool false))), none⟩] [2]) .ret
abbrev c80_1 : AC := .cond (.t 6) c80_0 .skip
abbrev c80_2 : AC := .seq (.ops 0 [⟨(some 4), .mv (.t 0), none⟩, ⟨(some 5), .lns (.t 4), none⟩, ⟨(some 6), .bin .gtr (.t 5) (.k (.lf (.int .i64 255))), none⟩] [0, 6]) c80_1
abbrev c80_3 : AC := .cond (.t 10) .skip (.exit 0)
abbrev c80_4 : AC := .seq (.ops 0 [⟨(some 7), .mv (.t 3), none⟩, ⟨(some 8), .mv (.t 0), none⟩, ⟨(some 9), .lns (.t 8), none⟩, ⟨(some 10), .bin .lss (.t 7) (.t 9), none⟩] [0, 3, 10]) c80_3
abbrev c80_5 : AC := .cond (.t 16) (.exit 1) .skip
abbrev c80_6 : AC := .seq (.ops 0 [⟨(some 13), .mv (.t 0), none⟩, ⟨(some 14), .mv (.t 3), none⟩, ⟨(some 15), .ixs (.t 13) (.t 14), none⟩, ⟨(some 16), .bin .neq (.t 15) (.k (.lf (.int .u8 37))), none⟩] [0, 3, 16]) c80_5
abbrev c80_7 : AC := .seq (.ops 0 [⟨(some 2), .as 0 0 (.k (.lf (.bool false))), none⟩] [2]) .ret
abbrev c80_8 : AC := .cond (.t 40) c80_7 .skip
abbrev c80_9 : AC := .seq (.ops 0 [⟨(some 19), .mv (.t 3), none⟩, ⟨(some 20), .mv (.t 0), none⟩, ⟨(some 21), .lns (.t 20), none⟩, ⟨(some 22), .bin .eql (.t 19) (.t 21), none⟩, ⟨(some 23), .mv (.t 22), none⟩, ⟨(some 24), .mv (.t 0), (some (23, false))⟩, ⟨(some 25), .mv (.t 3), (some (23, false))⟩, ⟨(some 26), .ixs (.t 24) (.t 25), (some (23, false))⟩, ⟨(some 27), .bin .neq (.t 26) (.k (.lf (.int .u8 37))), (some (23, false))⟩, ⟨(some 28), .mv (.t 27), (some (23, false))⟩, ⟨(some 29), .mv (.t 0), (some (28, true))⟩, ⟨(some 30), .mv (.t 3), (some (28, true))⟩, ⟨(some 31), .ixs (.t 29) (.t 30), (some (28, true))⟩, ⟨(some 32), .bin .lss (.t 31) (.k (.lf (.int .u8 48))), (some (28, true))⟩, ⟨(some 33), .mv (.t 32), (some (28, true))⟩, ⟨(some 34), .mv (.t 0), (some (33, false))⟩, ⟨(some 35), .mv (.t 3), (some (33, false))⟩, ⟨(some 36), .ixs (.t 34) (.t 35), (some (33, false))⟩, ⟨(some 37), .bin .gtr (.t 36) (.k (.lf (.int .u8 57))), (some (33, false))⟩, ⟨(some 38), .pk (.t 33) (.k (.lf (.bool true))) (.t 37), (some (28, true))⟩, ⟨(some 39), .pk (.t 28) (.t 38) (.k (.lf (.bool false))), (some (23, false))⟩, ⟨(some 40), .pk (.t 23) (.k (.lf (.bool true))) (.t 39), none⟩] [0, 3, 40]) c80_8
abbrev c80_10 : AC := .seq (.ops 0 [⟨(some 17), .mv (.t 3), none⟩, ⟨(some 18), .bin .add (.t 17) (.k (.lf (.int .i64 1))), none⟩, ⟨(some 3), .as 0 0 (.t 18), none⟩] [0, 3]) c80_9
abbrev c80_11 : AC := .seq c80_6 c80_10
abbrev c80_12 : AC := .block 1 c80_11
abbrev c80_13 : AC := .seq c80_12 (.ops 0 [⟨(some 11), .mv (.t 3), none⟩, ⟨(some 12), .bin .add (.t 11) (.k (.lf (.int .i64 1))), none⟩, ⟨(some 3), .as 0 0 (.t 12), none⟩] [0, 3])
abbrev c80_14 : AC := .seq c80_4 c80_13
abbrev c80_15 : AC := .loop c80_14 [0, 3]
abbrev c80_16 : AC := .block 0 c80_15
abbrev c80_17 : AC := .seq (.ops 0 [⟨(some 3), .as 0 0 (.k (.lf (.int .i64 0))), none⟩] [0, 3]) c80_16
abbrev c80_18 : AC := .seq (.ops 0 [⟨(some 2), .as 0 0 (.k (.lf (.bool true))), none⟩] [2]) .ret
abbrev c80_19 : AC := .seq c80_17 c80_18
abbrev c80_20 : AC := .seq c80_2 c80_19
abbrev c80_21 : AC := .seq (.ops 0 [⟨(some 2), .as 0 0 (.k (.lf (.bool false))), none⟩] [0]) c80_20
abbrev c80 : AC := c80_21
theorem c80_ok : compileFn Tryd.prog 80 = some (41, AC.strip c80, [.t 2]) := by kernel_rfl
abbrev c96_0 : AC := .seq (.ops 0 [⟨(some 3), .mv (.t 0), none⟩, ⟨(some 4), .bin .or (.t 3) (.k (.lf (.int .u8 32))), none⟩, ⟨(some 5), .bin .geq (.t 4) (.k (.lf (.int .u8 97))), none⟩, ⟨(some 6), .mv (.t 5), none⟩, ⟨(some 7), .mv (.t 0), (some (6, true))⟩, ⟨(some 8), .bin .or (.t 7) (.k (.lf (.int .u8 32))), (some (6, true))⟩, ⟨(some 9), .bin .leq (.t 8) (.k (.lf (.int .u8 122))), (some (6, true))⟩, ⟨(some 10), .pk (.t 6) (.t 9) (.k (.lf (.bool false))), none⟩, ⟨(some 11), .mv (.t 10), none⟩, ⟨(some 12), .mv (.t 0), (some (11, true))⟩, ⟨(some 13), .bin .lss (.t 12) (.k (.lf (.int .u8 128))), (some (11, true))⟩, ⟨(some 14), .pk (.t 11) (.t 13) (.k (.lf (.bool false))), none⟩, ⟨(some 15), .mv (.t 14), none⟩, ⟨(some 16), .mv (.t 0), (some (15, false))⟩, ⟨(some 17), .bin .eql (.t 16) (.k (.lf (.int .u8 95))), (some (15, false))⟩, ⟨(some 18), .pk (.t 15) (.k (.lf (.bool true))) (.t 17), none⟩, ⟨(some 2), .as 0 0 (.t 18), none⟩] [2]) .ret
abbrev c96_1 : AC := .seq (.ops 0 [⟨(some 2), .as 0 0 (.k (.lf (.bool false))), none⟩] [0]) c96_0
abbrev c96 : AC := c96_1
theorem c96_ok : compileFn Tryd.prog 96 = some (19, AC.strip c96, [.t 2]) := by kernel_rfl
end Go.Proofs.YtdoefdmaecaacaaDoor.S
set_option maxRecDepth 100000
namespace Go.Proofs.YtdoefdmaecaacaaDoor.S
open Go Go.Proofs.YtdoefdmaecaacaaDoor.AM
abbrev c7_0 : AC := .seq (.ops 0 [⟨(some 12), .mv (.t 4), none⟩, ⟨(some 2), .as 0 0 (.k (.lf (.str ⟨#[]⟩))), none⟩, ⟨(some 3), .as 0 0 (.t 12), none⟩] [2, 3]) .ret
abbrev c7_1 : AC := .cond (.t 11) c7_0 .skip
abbrev c7_2 : AC := .seq (.ops 0 [⟨(some 10), .mv (.t 4), none⟩, ⟨(some 11), .bin .neq (.t 10) (.k (.lf (.int .i64 0))), none⟩] [1, 4, 11]) c7_1
abbrev c7_3 : AC := .seq (.ops 0 [⟨(some 8), .ld (.t 1) 1 true, none⟩, ⟨(some 9), .call 18 [(.t 8)], none⟩, ⟨(some 4), .as 0 0 (.t 9), none⟩] [1, 4]) c7_2
abbrev c7_4 : AC := .cond (.t 17) .skip (.exit 0)
abbrev c7_5 : AC := .seq (.ops 0 [⟨(some 13), .mv (.t 6), none⟩, ⟨(some 14), .fa (.t 1) 0, none⟩, ⟨(some 15), .ld (.t 14) 1 false, none⟩, ⟨(some 16), .len (.t 15), none⟩, ⟨(some 17), .bin .lss (.t 13) (.t 16), none⟩] [1, 5, 6, 17]) c7_4
abbrev c7_6 : AC := .cond (.t 26) (.ops 0 [⟨(some 27), .mv (.t 5), none⟩, ⟨(some 28), .fa (.t 1) 0, none⟩, ⟨(some 29), .ld (.t 28) 1 false, none⟩, ⟨(some 30), .mv (.t 6), none⟩, ⟨(some 31), .ia (.t 29) (.t 30) 2, none⟩, ⟨(some 32), .fa (.t 31) 0, none⟩, ⟨(some 33), .ld (.t 32) 1 false, none⟩, ⟨(some 34), .bin .add (.t 33) (.k (.lf (.str ⟨#[32, 60, 45, 32]⟩))), none⟩, ⟨(some 35), .aps 5 (.t 27) (.t 34), none⟩, ⟨(some 5), .as 5 1 (.t 35), none⟩] [1, 5, 6]) .skip
abbrev c7_7 : AC := .seq (.ops 0 [⟨(some 20), .fa (.t 1) 0, none⟩, ⟨(some 21), .ld (.t 20) 1 false, none⟩, ⟨(some 22), .mv (.t 6), none⟩, ⟨(some 23), .ia (.t 21) (.t 22) 2, none⟩, ⟨(some 24), .fa (.t 23) 0, none⟩, ⟨(some 25), .ld (.t 24) 1 false, none⟩, ⟨(some 26), .bin .neq (.t 25) (.k (.lf (.str ⟨#[]⟩))), none⟩] [1, 5, 6, 26]) c7_6
abbrev c7_8 : AC := .seq (.ops 0 [⟨(some 2), .as 0 0 (.k (.lf (.str ⟨#[]⟩))), none⟩, ⟨(some 3), .as 0 0 (.k (.lf (.int .i64 2))), none⟩] [2, 3]) .ret
abbrev c7_9 : AC := .cond (.t 56) c7_8 .skip
abbrev c7_10 : AC := .seq (.ops 0 [⟨(some 50), .mv (.t 7), none⟩, ⟨(some 51), .un .not (.t 50), none⟩, ⟨(some 52), .mv (.t 51), none⟩, ⟨(some 53), .mv (.t 5), (some (52, false))⟩, ⟨(some 54), .len (.t 53), (some (52, false))⟩, ⟨(some 55), .bin .gtr (.t 54) (.k (.lf (.int .i64 65536))), (some (52, false))⟩, ⟨(some 56), .pk (.t 52) (.k (.lf (.bool true))) (.t 55), none⟩] [1, 5, 6, 56]) c7_9
abbrev c7_11 : AC := .seq (.ops 0 [⟨(some 47), .mv (.t 5), none⟩, ⟨(some 48), .bs 5 1 1 [.int .u8 0] [(0, (.k (.lf (.int .u8 10))))], none⟩, ⟨(some 49), .app 5 1 1 (.t 47) (.t 48), none⟩, ⟨(some 5), .as 5 1 (.t 49), none⟩] [1, 5, 6, 7]) c7_10
abbrev c7_12 : AC := .seq (.ops 0 [⟨(some 37), .mv (.t 5), none⟩, ⟨(some 38), .fa (.t 1) 0, none⟩, ⟨(some 39), .ld (.t 38) 1 false, none⟩, ⟨(some 40), .mv (.t 6), none⟩, ⟨(some 41), .ia (.t 39) (.t 40) 2, none⟩, ⟨(some 42), .fa (.t 41) 1, none⟩, ⟨(some 43), .ld (.t 42) 1 false, none⟩, ⟨(some 44), .call 19 [(.t 37), (.t 43)], none⟩, ⟨(some 36), .mv (.t 44), none⟩, ⟨(some 45), .ext (.t 36) 0, none⟩, ⟨(some 46), .ext (.t 36) 1, none⟩, ⟨(some 5), .as 5 1 (.t 45), none⟩, ⟨(some 7), .as 0 0 (.t 46), none⟩] [1, 5, 6, 7]) c7_11
abbrev c7_13 : AC := .seq (.ops 0 [⟨(some 7), .as 0 0 (.k (.lf (.bool false))), none⟩] [1, 5, 6]) c7_12
abbrev c7_14 : AC := .seq c7_7 c7_13
abbrev c7_15 : AC := .block 1 c7_14
abbrev c7_16 : AC := .seq c7_15 (.ops 0 [⟨(some 18), .mv (.t 6), none⟩, ⟨(some 19), .bin .add (.t 18) (.k (.lf (.int .i64 1))), none⟩, ⟨(some 6), .as 0 0 (.t 19), none⟩] [1, 5, 6])
abbrev c7_17 : AC := .seq c7_5 c7_16
abbrev c7_18 : AC := .loop c7_17 [1, 5, 6]
abbrev c7_19 : AC := .block 0 c7_18
abbrev c7_20 : AC := .seq (.ops 0 [⟨(some 6), .as 0 0 (.k (.lf (.int .i64 0))), none⟩] [1, 5, 6]) c7_19
abbrev c7_21 : AC := .seq (.ops 0 [⟨(some 57), .mv (.t 5), none⟩, ⟨(some 58), .cbs (.t 57), none⟩, ⟨(some 2), .as 0 0 (.t 58), none⟩, ⟨(some 3), .as 0 0 (.k (.lf (.int .i64 0))), none⟩] [2, 3]) .ret
abbrev c7_22 : AC := .seq c7_20 c7_21
abbrev c7_23 : AC := .seq (.ops 0 [⟨(some 5), .as 5 1 (.k (.lf (.lst .nl 1 [] []))), none⟩] [1, 5]) c7_22
abbrev c7_24 : AC := .seq c7_3 c7_23
abbrev c7_25 : AC := .seq (.ops 0 [⟨(some 1), .bx (.t 0), none⟩, ⟨(some 2), .as 0 0 (.k (.lf (.str ⟨#[]⟩))), none⟩, ⟨(some 3), .as 0 0 (.k (.lf (.int .i64 0))), none⟩] [1]) c7_24
abbrev c7 : AC := c7_25
theorem c7_ok : compileFn Tryd.prog 7 = some (59, AC.strip c7, [.t 2, .t 3]) := by kernel_rfl
abbrev c18_0 : AC := .seq (.ops 0 [⟨(some 2), .as 0 0 (.k (.lf (.int .i64 3))), none⟩] [2]) .ret
abbrev c18_1 : AC := .cond (.t 11) c18_0 .skip
abbrev c18_2 : AC := .seq (.ops 0 [⟨(some 8), .fa (.t 1) 0, none⟩, ⟨(some 9), .ld (.t 8) 1 false, none⟩, ⟨(some 10), .len (.t 9), none⟩, ⟨(some 11), .bin .eql (.t 10) (.k (.lf (.int .i64 0))), none⟩] [1, 11]) c18_1
abbrev c18_3 : AC := .seq (.ops 0 [⟨(some 2), .as 0 0 (.k (.lf (.int .i64 2))), none⟩] [2]) .ret
abbrev c18_4 : AC := .cond (.t 15) c18_3 .skip
abbrev c18_5 : AC := .seq (.ops 0 [⟨(some 12), .fa (.t 1) 0, none⟩, ⟨(some 13), .ld (.t 12) 1 false, none⟩, ⟨(some 14), .len (.t 13), none⟩, ⟨(some 15), .bin .gtr (.t 14) (.k (.lf (.int .i64 200))), none⟩] [1, 15]) c18_4
abbrev c18_6 : AC := .cond (.t 20) .skip (.exit 0)
abbrev c18_7 : AC := .seq (.ops 0 [⟨(some 16), .mv (.t 4), none⟩, ⟨(some 17), .fa (.t 1) 0, none⟩, ⟨(some 18), .ld (.t 17) 1 false, none⟩, ⟨(some 19), .len (.t 18), none⟩, ⟨(some 20), .bin .lss (.t 16) (.t 19), none⟩] [1, 3, 4, 20]) c18_6
abbrev c18_8 : AC := .seq (.ops 0 [⟨(some 2), .as 0 0 (.k (.lf (.int .i64 6))), none⟩] [2]) .ret
abbrev c18_9 : AC := .cond (.t 42) c18_8 .skip
abbrev c18_10 : AC := .seq (.ops 0 [⟨(some 28), .fa (.t 5) 0, none⟩, ⟨(some 29), .ld (.t 28) 1 false, none⟩, ⟨(some 30), .call 35 [(.t 29)], none⟩, ⟨(some 31), .un .not (.t 30), none⟩, ⟨(some 32), .mv (.t 31), none⟩, ⟨(some 33), .fa (.t 5) 0, (some (32, true))⟩, ⟨(some 34), .ld (.t 33) 1 false, (some (32, true))⟩, ⟨(some 35), .bin .neq (.t 34) (.k (.lf (.str ⟨#[]⟩))), (some (32, true))⟩, ⟨(some 36), .mv (.t 35), (some (32, true))⟩, ⟨(some 37), .fa (.t 1) 0, (some (36, false))⟩, ⟨(some 38), .ld (.t 37) 1 false, (some (36, false))⟩, ⟨(some 39), .len (.t 38), (some (36, false))⟩, ⟨(some 40), .bin .gtr (.t 39) (.k (.lf (.int .i64 1))), (some (36, false))⟩, ⟨(some 41), .pk (.t 36) (.k (.lf (.bool true))) (.t 40), (some (32, true))⟩, ⟨(some 42), .pk (.t 32) (.t 41) (.k (.lf (.bool false))), none⟩] [1, 3, 4, 5, 42]) c18_9
abbrev c18_11 : AC := .seq (.ops 0 [⟨(some 51), .mv (.t 7), none⟩, ⟨(some 2), .as 0 0 (.t 51), none⟩] [2]) .ret
abbrev c18_12 : AC := .cond (.t 50) c18_11 .skip
abbrev c18_13 : AC := .seq (.ops 0 [⟨(some 49), .mv (.t 7), none⟩, ⟨(some 50), .bin .neq (.t 49) (.k (.lf (.int .i64 0))), none⟩] [1, 3, 4, 5, 7, 50]) c18_12
abbrev c18_14 : AC := .seq (.ops 0 [⟨(some 44), .fa (.t 5) 1, none⟩, ⟨(some 45), .ld (.t 44) 1 false, none⟩, ⟨(some 46), .call 36 [(.t 45)], none⟩, ⟨(some 43), .mv (.t 46), none⟩, ⟨(some 47), .ext (.t 43) 0, none⟩, ⟨(some 48), .ext (.t 43) 1, none⟩, ⟨(some 6), .as 0 0 (.t 47), none⟩, ⟨(some 7), .as 0 0 (.t 48), none⟩] [1, 3, 4, 5, 7]) c18_13
abbrev c18_15 : AC := .seq (.ops 0 [⟨(some 2), .as 0 0 (.k (.lf (.int .i64 2))), none⟩] [2]) .ret
abbrev c18_16 : AC := .cond (.t 58) c18_15 .skip
abbrev c18_17 : AC := .seq (.ops 0 [⟨(some 57), .mv (.t 3), none⟩, ⟨(some 58), .bin .gtr (.t 57) (.k (.lf (.int .i64 2048))), none⟩] [1, 3, 4, 58]) c18_16
abbrev c18_18 : AC := .seq (.ops 0 [⟨(some 52), .mv (.t 3), none⟩, ⟨(some 53), .fa (.t 5) 1, none⟩, ⟨(some 54), .ld (.t 53) 1 false, none⟩, ⟨(some 55), .len (.t 54), none⟩, ⟨(some 56), .bin .add (.t 52) (.t 55), none⟩, ⟨(some 3), .as 0 0 (.t 56), none⟩] [1, 3, 4]) c18_17
abbrev c18_19 : AC := .seq c18_14 c18_18
abbrev c18_20 : AC := .seq c18_10 c18_19
abbrev c18_21 : AC := .seq (.ops 0 [⟨(some 23), .fa (.t 1) 0, none⟩, ⟨(some 24), .ld (.t 23) 1 false, none⟩, ⟨(some 25), .mv (.t 4), none⟩, ⟨(some 26), .ia (.t 24) (.t 25) 2, none⟩, ⟨(some 27), .ld (.t 26) 2 true, none⟩, ⟨(some 5), .al [.str ⟨#[]⟩, .lst (.own 643 58) 7 [] []], none⟩, ⟨none, .st (.t 5) (.t 27) 2, none⟩] [1, 3, 4, 5]) c18_20
abbrev c18_22 : AC := .block 1 c18_21
abbrev c18_23 : AC := .seq c18_22 (.ops 0 [⟨(some 21), .mv (.t 4), none⟩, ⟨(some 22), .bin .add (.t 21) (.k (.lf (.int .i64 1))), none⟩, ⟨(some 4), .as 0 0 (.t 22), none⟩] [1, 3, 4])
abbrev c18_24 : AC := .seq c18_7 c18_23
abbrev c18_25 : AC := .loop c18_24 [1, 3, 4]
abbrev c18_26 : AC := .block 0 c18_25
abbrev c18_27 : AC := .seq (.ops 0 [⟨(some 4), .as 0 0 (.k (.lf (.int .i64 0))), none⟩] [1, 3, 4]) c18_26
abbrev c18_28 : AC := .seq (.ops 0 [⟨(some 2), .as 0 0 (.k (.lf (.int .i64 0))), none⟩] [2]) .ret
abbrev c18_29 : AC := .seq c18_27 c18_28
abbrev c18_30 : AC := .seq (.ops 0 [⟨(some 3), .as 0 0 (.k (.lf (.int .i64 0))), none⟩] [1, 3]) c18_29
abbrev c18_31 : AC := .seq c18_5 c18_30
abbrev c18_32 : AC := .seq c18_2 c18_31
abbrev c18_33 : AC := .seq (.ops 0 [⟨(some 1), .bx (.t 0), none⟩, ⟨(some 2), .as 0 0 (.k (.lf (.int .i64 0))), none⟩] [1]) c18_32
abbrev c18 : AC := c18_33
theorem c18_ok : compileFn Tryd.prog 18 = some (59, AC.strip c18, [.t 2]) := by kernel_rfl
abbrev c19_0 : AC := .seq (.gdt (.one ⟨(some 18), .mv (.t 0), none⟩ (.one ⟨(some 19), .mv (.t 6), none⟩ (.one ⟨(some 20), .nc (.t 19), none⟩ (.one ⟨(some 21), .fa (.t 20) 2, none⟩ (.alt (.one ⟨(some 22), .ld (.t 21) 1 false, none⟩ (.alt (.one ⟨(some 23), .un .not (.t 22), none⟩ (.one ⟨(some 4), .as 5 1 (.t 18), none⟩ (.one ⟨(some 5), .as 0 0 (.t 23), none⟩ .nil))) (.one ⟨(some 4), .as 5 1 (.t 18), none⟩ (.one ⟨(some 23), .un .not (.t 22), none⟩ (.one ⟨(some 5), .as 0 0 (.t 23), none⟩ .nil))))) (.one ⟨(some 4), .as 5 1 (.t 18), none⟩ (.one ⟨(some 22), .ld (.t 21) 1 false, none⟩ (.one ⟨(some 23), .un .not (.t 22), none⟩ (.one ⟨(some 5), .as 0 0 (.t 23), none⟩ .nil))))))))) [4, 5]) .ret
abbrev c19_1 : AC := .seq (.ops 0 [⟨(some 12), .mv (.t 6), none⟩, ⟨(some 13), .mv (.t 0), none⟩, ⟨(some 14), .mv (.t 1), none⟩, ⟨(some 15), .len (.t 14), none⟩, ⟨(some 16), .bin .sub (.t 15) (.k (.lf (.int .i64 1))), none⟩, ⟨(some 17), .callg 38 0 [(.t 12), (.t 13), (.t 16), (.k (.lf (.int .i64 0)))], none⟩, ⟨(some 0), .as 5 1 (.t 17), none⟩] [0, 6]) c19_0
abbrev c19_2 : AC := .seq (.ops 0 [⟨(some 7), .mv (.t 1), none⟩, ⟨(some 8), .mv (.t 1), none⟩, ⟨(some 9), .call 37 [(.t 8)], none⟩, ⟨(some 10), .bd [.lst .nl 7 [] [], .lst .nl 1 [] [], .bool false] [(0, 1, (.t 7)), (1, 1, (.t 9))], none⟩, ⟨(some 11), .bx (.t 10), none⟩, ⟨(some 6), .as 0 0 (.t 11), none⟩] [0, 1, 6]) c19_1
abbrev c19_3 : AC := .seq (.ops 0 [⟨(some 4), .as 5 1 (.k (.lf (.lst .nl 1 [] []))), none⟩, ⟨(some 5), .as 0 0 (.k (.lf (.bool false))), none⟩] [0, 1]) c19_2
abbrev c19 : AC := c19_3
theorem c19_ok : compileFn Tryd.prog 19 = some (24, AC.strip c19, [.t 4, .t 5]) := by kernel_rfl
abbrev c35_0 : AC := .seq (.ops 0 [⟨(some 2), .as 0 0 (.k (.lf (.bool false))), none⟩] [2]) .ret
abbrev c35_1 : AC := .cond (.t 16) c35_0 .skip
abbrev c35_2 : AC := .seq (.ops 0 [⟨(some 3), .mv (.t 0), none⟩, ⟨(some 4), .bin .eql (.t 3) (.k (.lf (.str ⟨#[]⟩))), none⟩, ⟨(some 5), .mv (.t 4), none⟩, ⟨(some 6), .mv (.t 0), (some (5, false))⟩, ⟨(some 7), .lns (.t 6), (some (5, false))⟩, ⟨(some 8), .bin .gtr (.t 7) (.k (.lf (.int .i64 32))), (some (5, false))⟩, ⟨(some 9), .pk (.t 5) (.k (.lf (.bool true))) (.t 8), none⟩, ⟨(some 10), .mv (.t 9), none⟩, ⟨(some 11), .mv (.t 0), (some (10, false))⟩, ⟨(some 12), .ixs (.t 11) (.k (.lf (.int .i64 0))), (some (10, false))⟩, ⟨(some 13), .cvi .i64 (.t 12), (some (10, false))⟩, ⟨(some 14), .call 51 [(.t 13)], (some (10, false))⟩, ⟨(some 15), .un .not (.t 14), (some (10, false))⟩, ⟨(some 16), .pk (.t 10) (.k (.lf (.bool true))) (.t 15), none⟩] [0, 16]) c35_1
abbrev c35_3 : AC := .seq (.ops 0 [⟨(some 17), .mv (.t 0), none⟩, ⟨(some 18), .call 52 [(.t 17), (.k (.lf (.int .i64 0)))], none⟩, ⟨(some 19), .mv (.t 0), none⟩, ⟨(some 20), .lns (.t 19), none⟩, ⟨(some 21), .bin .eql (.t 18) (.t 20), none⟩, ⟨(some 2), .as 0 0 (.t 21), none⟩] [2]) .ret
abbrev c35_4 : AC := .seq c35_2 c35_3
abbrev c35_5 : AC := .seq (.ops 0 [⟨(some 2), .as 0 0 (.k (.lf (.bool false))), none⟩] [0]) c35_4
abbrev c35 : AC := c35_5
theorem c35_ok : compileFn Tryd.prog 35 = some (22, AC.strip c35, [.t 2]) := by kernel_rfl
abbrev c36_0 : AC := .seq (.ops 0 [⟨(some 2), .as 0 0 (.k (.lf (.int .i64 0))), none⟩, ⟨(some 3), .as 0 0 (.k (.lf (.int .i64 2))), none⟩] [2, 3]) .ret
abbrev c36_1 : AC := .cond (.t 10) c36_0 .skip
abbrev c36_2 : AC := .seq (.ops 0 [⟨(some 8), .mv (.t 0), none⟩, ⟨(some 9), .len (.t 8), none⟩, ⟨(some 10), .bin .gtr (.t 9) (.k (.lf (.int .i64 2048))), none⟩] [0, 10]) c36_1
abbrev c36_3 : AC := .seq (.ops 0 [⟨(some 20), .mv (.t 6), none⟩, ⟨(some 21), .mv (.t 7), none⟩, ⟨(some 2), .as 0 0 (.t 20), none⟩, ⟨(some 3), .as 0 0 (.t 21), none⟩] [2, 3]) .ret
abbrev c36_4 : AC := .cond (.t 19) c36_3 .skip
abbrev c36_5 : AC := .seq (.ops 0 [⟨(some 18), .mv (.t 7), none⟩, ⟨(some 19), .bin .neq (.t 18) (.k (.lf (.int .i64 0))), none⟩] [0, 4, 6, 7, 19]) c36_4
abbrev c36_6 : AC := .seq (.ops 0 [⟨(some 34), .mv (.t 0), none⟩, ⟨(some 35), .len (.t 34), none⟩, ⟨(some 2), .as 0 0 (.t 35), none⟩, ⟨(some 3), .as 0 0 (.k (.lf (.int .i64 42))), none⟩] [2, 3]) .ret
abbrev c36_7 : AC := .cond (.t 33) c36_6 .skip
abbrev c36_8 : AC := .seq (.ops 0 [⟨(some 22), .mv (.t 0), none⟩, ⟨(some 23), .len (.t 22), none⟩, ⟨(some 24), .bin .eql (.t 23) (.k (.lf (.int .i64 0))), none⟩, ⟨(some 25), .mv (.t 24), none⟩, ⟨(some 26), .mv (.t 4), (some (25, false))⟩, ⟨(some 27), .mv (.t 0), (some (25, false))⟩, ⟨(some 28), .len (.t 27), (some (25, false))⟩, ⟨(some 29), .bin .sub (.t 28) (.k (.lf (.int .i64 1))), (some (25, false))⟩, ⟨(some 30), .ia (.t 26) (.t 29) 1, (some (25, false))⟩, ⟨(some 31), .ld (.t 30) 1 false, (some (25, false))⟩, ⟨(some 32), .bin .neq (.t 31) (.k (.lf (.int .i64 0))), (some (25, false))⟩, ⟨(some 33), .pk (.t 25) (.k (.lf (.bool true))) (.t 32), none⟩] [0, 33]) c36_7
abbrev c36_9 : AC := .seq (.ops 0 [⟨(some 2), .as 0 0 (.k (.lf (.int .i64 0))), none⟩, ⟨(some 3), .as 0 0 (.k (.lf (.int .i64 0))), none⟩] [2, 3]) .ret
abbrev c36_10 : AC := .seq c36_8 c36_9
abbrev c36_11 : AC := .seq c36_5 c36_10
abbrev c36_12 : AC := .seq (.ops 0 [⟨(some 12), .mv (.t 0), none⟩, ⟨(some 13), .call 53 [(.t 12)], none⟩, ⟨(some 11), .mv (.t 13), none⟩, ⟨(some 14), .ext (.t 11) 0, none⟩, ⟨(some 15), .ext (.t 11) 1, none⟩, ⟨(some 16), .ext (.t 11) 2, none⟩, ⟨(some 17), .ext (.t 11) 3, none⟩, ⟨(some 4), .as 3 1 (.t 14), none⟩, ⟨(some 5), .as 3 1 (.t 15), none⟩, ⟨(some 6), .as 0 0 (.t 16), none⟩, ⟨(some 7), .as 0 0 (.t 17), none⟩] [0, 4, 6, 7]) c36_11
abbrev c36_13 : AC := .seq c36_2 c36_12
abbrev c36_14 : AC := .seq (.ops 0 [⟨(some 2), .as 0 0 (.k (.lf (.int .i64 0))), none⟩, ⟨(some 3), .as 0 0 (.k (.lf (.int .i64 0))), none⟩] [0]) c36_13
abbrev c36 : AC := c36_14
theorem c36_ok : compileFn Tryd.prog 36 = some (36, AC.strip c36, [.t 2, .t 3]) := by kernel_rfl
abbrev c37_0 : AC := .seq (.ops 0 [⟨(some 14), .mv (.t 3), none⟩, ⟨(some 2), .as 3 1 (.t 14), none⟩] [2]) .ret
abbrev c37_1 : AC := .seq (.ops 0 [⟨(some 8), .mv (.t 0), none⟩, ⟨(some 9), .call 53 [(.t 8)], none⟩, ⟨(some 7), .mv (.t 9), none⟩, ⟨(some 10), .ext (.t 7) 0, none⟩, ⟨(some 11), .ext (.t 7) 1, none⟩, ⟨(some 12), .ext (.t 7) 2, none⟩, ⟨(some 13), .ext (.t 7) 3, none⟩, ⟨(some 3), .as 3 1 (.t 10), none⟩, ⟨(some 4), .as 3 1 (.t 11), none⟩, ⟨(some 5), .as 0 0 (.t 12), none⟩, ⟨(some 6), .as 0 0 (.t 13), none⟩] [3]) c37_0
abbrev c37_2 : AC := .seq (.ops 0 [⟨(some 2), .as 3 1 (.k (.lf (.lst .nl 1 [] []))), none⟩] [0]) c37_1
abbrev c37 : AC := c37_2
theorem c37_ok : compileFn Tryd.prog 37 = some (15, AC.strip c37, [.t 2]) := by kernel_rfl
abbrev c38_0 : AC := .seq (.ops 0 [⟨(some 14), .mv (.t 1), none⟩, ⟨(some 8), .as 5 1 (.t 14), none⟩] [8]) .ret
abbrev c38_1 : AC := .cond (.t 13) c38_0 .skip
abbrev c38_2 : AC := .seq (.ops 0 [⟨(some 10), .mv (.t 0), none⟩, ⟨(some 11), .nc (.t 10), none⟩, ⟨(some 12), .fa (.t 11) 2, none⟩, ⟨(some 13), .ld (.t 12) 1 false, none⟩] [0, 1, 2, 3, 13]) c38_1
abbrev c38_3 : AC := .cond (.t 26) (.ops 0 [⟨(some 27), .mv (.t 0), none⟩, ⟨(some 28), .mv (.t 1), none⟩, ⟨(some 29), .callg 55 0 [(.t 27), (.t 28), (.k (.lf (.str ⟨#[40]⟩)))], none⟩, ⟨(some 1), .as 5 1 (.t 29), none⟩] [0, 1, 2, 9]) .skip
abbrev c38_4 : AC := .seq (.ops 0 [⟨(some 26), .mv (.t 9), none⟩] [0, 1, 2, 9, 26]) c38_3
abbrev c38_5 : AC := .cond (.t 34) (.ops 0 [⟨(some 35), .mv (.t 0), none⟩, ⟨(some 36), .mv (.t 1), none⟩, ⟨(some 37), .callg 55 0 [(.t 35), (.t 36), (.k (.lf (.str ⟨#[41]⟩)))], none⟩, ⟨(some 1), .as 5 1 (.t 37), none⟩] [1]) .skip
abbrev c38_6 : AC := .seq (.ops 0 [⟨(some 34), .mv (.t 9), none⟩] [0, 1, 34]) c38_5
abbrev c38_7 : AC := .seq (.ops 0 [⟨(some 38), .mv (.t 1), none⟩, ⟨(some 8), .as 5 1 (.t 38), none⟩] [8]) .ret
abbrev c38_8 : AC := .seq c38_6 c38_7
abbrev c38_9 : AC := .seq (.ops 0 [⟨(some 30), .mv (.t 0), none⟩, ⟨(some 31), .mv (.t 1), none⟩, ⟨(some 32), .mv (.t 2), none⟩, ⟨(some 33), .callg 56 0 [(.t 30), (.t 31), (.t 32)], none⟩, ⟨(some 1), .as 5 1 (.t 33), none⟩] [0, 1, 9]) c38_8
abbrev c38_10 : AC := .seq c38_4 c38_9
abbrev c38_11 : AC := .seq (.ops 0 [⟨(some 15), .mv (.t 0), none⟩, ⟨(some 16), .nc (.t 15), none⟩, ⟨(some 17), .fa (.t 16) 0, none⟩, ⟨(some 18), .ld (.t 17) 1 false, none⟩, ⟨(some 19), .mv (.t 2), none⟩, ⟨(some 20), .ia (.t 18) (.t 19) 7, none⟩, ⟨(some 21), .fa (.t 20) 0, none⟩, ⟨(some 22), .ld (.t 21) 1 false, none⟩, ⟨(some 23), .call 54 [(.t 22)], none⟩, ⟨(some 24), .mv (.t 3), none⟩, ⟨(some 25), .bin .lss (.t 23) (.t 24), none⟩, ⟨(some 9), .as 0 0 (.t 25), none⟩] [0, 1, 2, 9]) c38_10
abbrev c38_12 : AC := .seq c38_2 c38_11
abbrev c38_13 : AC := .seq (.ops 0 [⟨(some 8), .as 5 1 (.k (.lf (.lst .nl 1 [] []))), none⟩] [0, 1, 2, 3]) c38_12
abbrev c38 : AC := c38_13
theorem c38_ok : compileFn Tryd.prog 38 = some (39, AC.strip c38, [.t 8]) := by kernel_rfl
abbrev c51_0 : AC := .seq (.ops 0 [⟨(some 3), .mv (.t 0), none⟩, ⟨(some 4), .bin .geq (.t 3) (.k (.lf (.int .i64 97))), none⟩, ⟨(some 5), .mv (.t 4), none⟩, ⟨(some 6), .mv (.t 0), (some (5, true))⟩, ⟨(some 7), .bin .leq (.t 6) (.k (.lf (.int .i64 122))), (some (5, true))⟩, ⟨(some 8), .pk (.t 5) (.t 7) (.k (.lf (.bool false))), none⟩, ⟨(some 9), .mv (.t 8), none⟩, ⟨(some 10), .mv (.t 0), (some (9, false))⟩, ⟨(some 11), .bin .geq (.t 10) (.k (.lf (.int .i64 65))), (some (9, false))⟩, ⟨(some 12), .mv (.t 11), (some (9, false))⟩, ⟨(some 13), .mv (.t 0), (some (12, true))⟩, ⟨(some 14), .bin .leq (.t 13) (.k (.lf (.int .i64 90))), (some (12, true))⟩, ⟨(some 15), .pk (.t 12) (.t 14) (.k (.lf (.bool false))), (some (9, false))⟩, ⟨(some 16), .pk (.t 9) (.k (.lf (.bool true))) (.t 15), none⟩, ⟨(some 17), .mv (.t 16), none⟩, ⟨(some 18), .mv (.t 0), (some (17, false))⟩, ⟨(some 19), .bin .eql (.t 18) (.k (.lf (.int .i64 95))), (some (17, false))⟩, ⟨(some 20), .pk (.t 17) (.k (.lf (.bool true))) (.t 19), none⟩, ⟨(some 2), .as 0 0 (.t 20), none⟩] [2]) .ret
abbrev c51_1 : AC := .seq (.ops 0 [⟨(some 2), .as 0 0 (.k (.lf (.bool false))), none⟩] [0]) c51_0
abbrev c51 : AC := c51_1
theorem c51_ok : compileFn Tryd.prog 51 = some (21, AC.strip c51, [.t 2]) := by kernel_rfl
abbrev c52_0 : AC := .cond (.t 14) .skip (.exit 0)
abbrev c52_1 : AC := .seq (.ops 0 [⟨(some 5), .mv (.t 0), none⟩, ⟨(some 6), .mv (.t 1), none⟩, ⟨(some 7), .call 69 [(.t 5), (.t 6)], none⟩, ⟨(some 8), .call 51 [(.t 7)], none⟩, ⟨(some 9), .mv (.t 8), none⟩, ⟨(some 10), .mv (.t 0), (some (9, false))⟩, ⟨(some 11), .mv (.t 1), (some (9, false))⟩, ⟨(some 12), .call 69 [(.t 10), (.t 11)], (some (9, false))⟩, ⟨(some 13), .call 70 [(.t 12)], (some (9, false))⟩, ⟨(some 14), .pk (.t 9) (.k (.lf (.bool true))) (.t 13), none⟩] [0, 1, 14]) c52_0
abbrev c52_2 : AC := .block 1 (.ops 0 [⟨(some 15), .mv (.t 1), none⟩, ⟨(some 16), .bin .add (.t 15) (.k (.lf (.int .i64 1))), none⟩, ⟨(some 1), .as 0 0 (.t 16), none⟩] [0, 1])
abbrev c52_3 : AC := .seq c52_1 c52_2
abbrev c52_4 : AC := .loop c52_3 [0, 1]
abbrev c52_5 : AC := .block 0 c52_4
abbrev c52_6 : AC := .seq (.ops 0 [⟨(some 17), .mv (.t 1), none⟩, ⟨(some 4), .as 0 0 (.t 17), none⟩] [4]) .ret
abbrev c52_7 : AC := .seq c52_5 c52_6
abbrev c52_8 : AC := .seq (.ops 0 [⟨(some 4), .as 0 0 (.k (.lf (.int .i64 0))), none⟩] [0, 1]) c52_7
abbrev c52 : AC := c52_8
theorem c52_ok : compileFn Tryd.prog 52 = some (18, AC.strip c52, [.t 4]) := by kernel_rfl
abbrev c53_0 : AC := .cond (.t 18) .skip (.exit 0)
abbrev c53_1 : AC := .seq (.ops 0 [⟨(some 15), .mv (.t 8), none⟩, ⟨(some 16), .mv (.t 0), none⟩, ⟨(some 17), .len (.t 16), none⟩, ⟨(some 18), .bin .lss (.t 15) (.t 17), none⟩] [0, 6, 7, 8, 18]) c53_0
abbrev c53_2 : AC := .seq (.ops 0 [⟨(some 30), .mv (.t 8), none⟩, ⟨(some 2), .as 3 1 (.k (.lf (.lst .nl 1 [] []))), none⟩, ⟨(some 3), .as 3 1 (.k (.lf (.lst .nl 1 [] []))), none⟩, ⟨(some 4), .as 0 0 (.t 30), none⟩, ⟨(some 5), .as 0 0 (.k (.lf (.int .i64 40))), none⟩] [2, 3, 4, 5]) .ret
abbrev c53_3 : AC := .cond (.t 29) c53_2 .skip
abbrev c53_4 : AC := .seq (.ops 0 [⟨(some 28), .mv (.t 10), none⟩, ⟨(some 29), .bin .lss (.t 28) (.k (.lf (.int .i64 0))), none⟩] [0, 6, 7, 8, 9, 10, 29]) c53_3
abbrev c53_5 : AC := .seq (.ops 0 [⟨(some 34), .mv (.t 8), none⟩, ⟨(some 2), .as 3 1 (.k (.lf (.lst .nl 1 [] []))), none⟩, ⟨(some 3), .as 3 1 (.k (.lf (.lst .nl 1 [] []))), none⟩, ⟨(some 4), .as 0 0 (.t 34), none⟩, ⟨(some 5), .as 0 0 (.k (.lf (.int .i64 41))), none⟩] [2, 3, 4, 5]) .ret
abbrev c53_6 : AC := .cond (.t 33) c53_5 .skip
abbrev c53_7 : AC := .seq (.ops 0 [⟨(some 31), .ld (.t 9) 7 true, none⟩, ⟨(some 32), .call 72 [(.t 31)], none⟩, ⟨(some 33), .un .not (.t 32), none⟩] [0, 6, 7, 8, 9, 10, 33]) c53_6
abbrev c53_8 : AC := .cond (.t 38) .skip (.exit 2)
abbrev c53_9 : AC := .seq (.ops 0 [⟨(some 37), .mv (.t 13), none⟩, ⟨(some 38), .bin .gtr (.t 37) (.k (.lf (.int .i64 0))), none⟩] [0, 6, 7, 8, 9, 10, 11, 12, 13, 38]) c53_8
abbrev c53_10 : AC := .seq (.ops 0 [⟨(some 43), .mv (.t 8), none⟩, ⟨(some 2), .as 3 1 (.k (.lf (.lst .nl 1 [] []))), none⟩, ⟨(some 3), .as 3 1 (.k (.lf (.lst .nl 1 [] []))), none⟩, ⟨(some 4), .as 0 0 (.t 43), none⟩, ⟨(some 5), .as 0 0 (.k (.lf (.int .i64 42))), none⟩] [2, 3, 4, 5]) .ret
abbrev c53_11 : AC := .cond (.t 42) c53_10 .skip
abbrev c53_12 : AC := .seq (.ops 0 [⟨(some 41), .mv (.t 11), none⟩, ⟨(some 42), .bin .eql (.t 41) (.k (.lf (.int .i64 0))), none⟩] [0, 6, 7, 8, 9, 10, 11, 12, 13, 42]) c53_11
abbrev c53_13 : AC := .cond (.t 65) (.ops 0 [⟨(some 66), .mv (.t 14), none⟩, ⟨(some 67), .bin .sub (.t 66) (.k (.lf (.int .i64 1))), none⟩, ⟨(some 14), .as 0 0 (.t 67), none⟩] [0, 6, 7, 8, 9, 10, 11, 12, 13, 14]) .skip
abbrev c53_14 : AC := .seq (.ops 2 [⟨(some 49), .mv (.t 13), none⟩, ⟨(some 50), .bin .eql (.t 49) (.k (.lf (.int .i64 1))), none⟩, ⟨(some 51), .mv (.t 50), none⟩, ⟨(some 52), .mv (.t 10), (some (51, true))⟩, ⟨(some 53), .bin .eql (.t 52) (.k (.lf (.int .i64 2))), (some (51, true))⟩, ⟨(some 54), .pk (.t 51) (.t 53) (.k (.lf (.bool false))), none⟩, ⟨(some 55), .mv (.t 54), none⟩, ⟨(some 56), .mv (.t 0), (some (55, true))⟩, ⟨(some 57), .mv (.t 11), (some (55, true))⟩, ⟨(some 58), .bin .sub (.t 57) (.k (.lf (.int .i64 1))), (some (55, true))⟩, ⟨(some 59), .ia (.t 56) (.t 58) 7, (some (55, true))⟩, ⟨(some 60), .fa (.t 59) 0, (some (55, true))⟩, ⟨(some 61), .ld (.t 60) 1 false, (some (55, true))⟩, ⟨(some 62), .fa (.t 9) 0, (some (55, true))⟩, ⟨(some 63), .ld (.t 62) 1 false, (some (55, true))⟩, ⟨(some 64), .bin .eql (.t 61) (.t 63), (some (55, true))⟩, ⟨(some 65), .pk (.t 55) (.t 64) (.k (.lf (.bool false))), none⟩] [0, 6, 7, 8, 9, 10, 11, 12, 13, 14, 65]) c53_13
abbrev c53_15 : AC := .seq (.ops 0 [⟨(some 68), .mv (.t 12), none⟩, ⟨(some 69), .mv (.t 14), none⟩, ⟨(some 70), .mm true (.t 68) (.t 69), none⟩, ⟨(some 12), .as 0 0 (.t 70), none⟩] [0, 6, 7, 8, 9, 10, 11, 12, 13]) (.ops 0 [⟨(some 71), .mv (.t 6), none⟩, ⟨(some 72), .mv (.t 11), none⟩, ⟨(some 73), .bin .sub (.t 72) (.k (.lf (.int .i64 1))), none⟩, ⟨(some 74), .ia (.t 71) (.t 73) 1, none⟩, ⟨(some 75), .ld (.t 74) 1 false, none⟩, ⟨(some 11), .as 0 0 (.t 75), none⟩] [0, 6, 7, 8, 9, 10, 11, 12, 13])
abbrev c53_16 : AC := .seq c53_14 c53_15
abbrev c53_17 : AC := .seq (.ops 0 [⟨(some 44), .mv (.t 7), none⟩, ⟨(some 45), .mv (.t 11), none⟩, ⟨(some 46), .bin .sub (.t 45) (.k (.lf (.int .i64 1))), none⟩, ⟨(some 47), .ia (.t 44) (.t 46) 1, none⟩, ⟨(some 48), .ld (.t 47) 1 false, none⟩, ⟨(some 14), .as 0 0 (.t 48), none⟩] [0, 6, 7, 8, 9, 10, 11, 12, 13, 14]) c53_16
abbrev c53_18 : AC := .seq c53_12 c53_17
abbrev c53_19 : AC := .block 3 c53_18
abbrev c53_20 : AC := .seq c53_19 (.ops 0 [⟨(some 39), .mv (.t 13), none⟩, ⟨(some 40), .bin .sub (.t 39) (.k (.lf (.int .i64 1))), none⟩, ⟨(some 13), .as 0 0 (.t 40), none⟩] [0, 6, 7, 8, 9, 10, 11, 12, 13])
abbrev c53_21 : AC := .seq c53_9 c53_20
abbrev c53_22 : AC := .loop c53_21 [0, 6, 7, 8, 9, 10, 11, 12, 13]
abbrev c53_23 : AC := .block 2 c53_22
abbrev c53_24 : AC := .seq (.ops 0 [⟨(some 36), .mv (.t 10), none⟩, ⟨(some 13), .as 0 0 (.t 36), none⟩] [0, 6, 7, 8, 9, 10, 11, 12, 13]) c53_23
abbrev c53_25 : AC := .seq (.ops 0 [⟨(some 79), .mv (.t 8), none⟩, ⟨(some 2), .as 3 1 (.k (.lf (.lst .nl 1 [] []))), none⟩, ⟨(some 3), .as 3 1 (.k (.lf (.lst .nl 1 [] []))), none⟩, ⟨(some 4), .as 0 0 (.t 79), none⟩, ⟨(some 5), .as 0 0 (.k (.lf (.int .i64 4))), none⟩] [2, 3, 4, 5]) .ret
abbrev c53_26 : AC := .cond (.t 78) c53_25 .skip
abbrev c53_27 : AC := .seq (.ops 0 [⟨(some 76), .mv (.t 12), none⟩, ⟨(some 77), .bin .add (.t 76) (.k (.lf (.int .i64 1))), none⟩, ⟨(some 78), .bin .gtr (.t 77) (.k (.lf (.int .i64 60))), none⟩] [0, 6, 7, 8, 11, 12, 78]) c53_26
abbrev c53_28 : AC := .seq (.ops 0 [⟨(some 80), .mv (.t 6), none⟩, ⟨(some 81), .mv (.t 11), none⟩, ⟨(some 82), .bs 3 1 1 [.int .i64 0] [(0, (.t 81))], none⟩, ⟨(some 83), .app 3 1 8 (.t 80) (.t 82), none⟩, ⟨(some 6), .as 3 1 (.t 83), none⟩] [0, 6, 7, 8, 12]) (.ops 0 [⟨(some 84), .mv (.t 7), none⟩, ⟨(some 85), .mv (.t 12), none⟩, ⟨(some 86), .bin .add (.t 85) (.k (.lf (.int .i64 1))), none⟩, ⟨(some 87), .bs 3 1 1 [.int .i64 0] [(0, (.t 86))], none⟩, ⟨(some 88), .app 3 1 8 (.t 84) (.t 87), none⟩, ⟨(some 7), .as 3 1 (.t 88), none⟩] [0, 6, 7, 8])
abbrev c53_29 : AC := .seq c53_27 c53_28
abbrev c53_30 : AC := .seq c53_24 c53_29
abbrev c53_31 : AC := .seq (.ops 0 [⟨(some 35), .mv (.t 8), none⟩, ⟨(some 11), .as 0 0 (.t 35), none⟩, ⟨(some 12), .as 0 0 (.k (.lf (.int .i64 0))), none⟩] [0, 6, 7, 8, 9, 10, 11, 12]) c53_30
abbrev c53_32 : AC := .seq c53_7 c53_31
abbrev c53_33 : AC := .seq c53_4 c53_32
abbrev c53_34 : AC := .seq (.ops 0 [⟨(some 25), .fa (.t 9) 0, none⟩, ⟨(some 26), .ld (.t 25) 1 false, none⟩, ⟨(some 27), .call 71 [(.t 26)], none⟩, ⟨(some 10), .as 0 0 (.t 27), none⟩] [0, 6, 7, 8, 9, 10]) c53_33
abbrev c53_35 : AC := .seq (.ops 0 [⟨(some 21), .mv (.t 0), none⟩, ⟨(some 22), .mv (.t 8), none⟩, ⟨(some 23), .ia (.t 21) (.t 22) 7, none⟩, ⟨(some 24), .ld (.t 23) 7 true, none⟩, ⟨(some 9), .al [.int .i64 0, .int .i64 0, .str ⟨#[]⟩, .int .u64 0, .int .u64 0, .int .u64 0, .int .u64 0], none⟩, ⟨none, .st (.t 9) (.t 24) 7, none⟩] [0, 6, 7, 8, 9]) c53_34
abbrev c53_36 : AC := .block 1 c53_35
abbrev c53_37 : AC := .seq c53_36 (.ops 0 [⟨(some 19), .mv (.t 8), none⟩, ⟨(some 20), .bin .add (.t 19) (.k (.lf (.int .i64 1))), none⟩, ⟨(some 8), .as 0 0 (.t 20), none⟩] [0, 6, 7, 8])
abbrev c53_38 : AC := .seq c53_1 c53_37
abbrev c53_39 : AC := .loop c53_38 [0, 6, 7, 8]
abbrev c53_40 : AC := .block 0 c53_39
abbrev c53_41 : AC := .seq (.ops 0 [⟨(some 8), .as 0 0 (.k (.lf (.int .i64 0))), none⟩] [0, 6, 7, 8]) c53_40
abbrev c53_42 : AC := .seq (.ops 0 [⟨(some 89), .mv (.t 6), none⟩, ⟨(some 90), .mv (.t 7), none⟩, ⟨(some 2), .as 3 1 (.t 89), none⟩, ⟨(some 3), .as 3 1 (.t 90), none⟩, ⟨(some 4), .as 0 0 (.k (.lf (.int .i64 0))), none⟩, ⟨(some 5), .as 0 0 (.k (.lf (.int .i64 0))), none⟩] [2, 3, 4, 5]) .ret
abbrev c53_43 : AC := .seq c53_41 c53_42
abbrev c53_44 : AC := .seq (.ops 0 [⟨(some 7), .as 3 1 (.k (.lf (.lst .nl 1 [] []))), none⟩] [0, 6, 7]) c53_43
abbrev c53_45 : AC := .seq (.ops 0 [⟨(some 6), .as 3 1 (.k (.lf (.lst .nl 1 [] []))), none⟩] [0, 6]) c53_44
abbrev c53_46 : AC := .seq (.ops 0 [⟨(some 2), .as 3 1 (.k (.lf (.lst .nl 1 [] []))), none⟩, ⟨(some 3), .as 3 1 (.k (.lf (.lst .nl 1 [] []))), none⟩, ⟨(some 4), .as 0 0 (.k (.lf (.int .i64 0))), none⟩, ⟨(some 5), .as 0 0 (.k (.lf (.int .i64 0))), none⟩] [0]) c53_45
abbrev c53 : AC := c53_46
theorem c53_ok : compileFn Tryd.prog 53 = some (91, AC.strip c53, [.t 2, .t 3, .t 4, .t 5]) := by kernel_rfl
abbrev c54_0 : AC := .seq (.ops 0 [⟨(some 2), .as 0 0 (.k (.lf (.int .i64 0))), none⟩] [2]) .ret
abbrev c54_1 : AC := .seq (.ops 0 [⟨(some 2), .as 0 0 (.k (.lf (.int .i64 1))), none⟩] [2]) .ret
abbrev c54_2 : AC := .cond (.t 8) .skip (.ops 0 [⟨(some 10), .bin .eql (.t 3) (.k (.lf (.int .i64 13))), none⟩, ⟨(some 8), .as 0 0 (.t 10), none⟩] [3, 8])
abbrev c54_3 : AC := .seq (.ops 0 [⟨(some 9), .bin .eql (.t 3) (.k (.lf (.int .i64 12))), none⟩, ⟨(some 8), .as 0 0 (.t 9), none⟩] [3, 8]) c54_2
abbrev c54_4 : AC := .seq (.ops 0 [⟨(some 2), .as 0 0 (.k (.lf (.int .i64 2))), none⟩] [2]) .ret
abbrev c54_5 : AC := .cond (.t 11) .skip (.ops 0 [⟨(some 19), .bin .eql (.t 3) (.k (.lf (.int .i64 23))), none⟩, ⟨(some 11), .as 0 0 (.t 19), none⟩] [11])
abbrev c54_6 : AC := .seq (.ops 0 [⟨(some 18), .bin .eql (.t 3) (.k (.lf (.int .i64 22))), none⟩, ⟨(some 11), .as 0 0 (.t 18), none⟩] [3, 11]) c54_5
abbrev c54_7 : AC := .cond (.t 11) .skip c54_6
abbrev c54_8 : AC := .seq (.ops 0 [⟨(some 17), .bin .eql (.t 3) (.k (.lf (.int .i64 16))), none⟩, ⟨(some 11), .as 0 0 (.t 17), none⟩] [3, 11]) c54_7
abbrev c54_9 : AC := .cond (.t 11) .skip c54_8
abbrev c54_10 : AC := .seq (.ops 0 [⟨(some 16), .bin .eql (.t 3) (.k (.lf (.int .i64 15))), none⟩, ⟨(some 11), .as 0 0 (.t 16), none⟩] [3, 11]) c54_9
abbrev c54_11 : AC := .cond (.t 11) .skip c54_10
abbrev c54_12 : AC := .seq (.ops 0 [⟨(some 15), .bin .eql (.t 3) (.k (.lf (.int .i64 14))), none⟩, ⟨(some 11), .as 0 0 (.t 15), none⟩] [3, 11]) c54_11
abbrev c54_13 : AC := .cond (.t 11) .skip c54_12
abbrev c54_14 : AC := .seq (.ops 0 [⟨(some 14), .bin .eql (.t 3) (.k (.lf (.int .i64 11))), none⟩, ⟨(some 11), .as 0 0 (.t 14), none⟩] [3, 11]) c54_13
abbrev c54_15 : AC := .cond (.t 11) .skip c54_14
abbrev c54_16 : AC := .seq (.ops 0 [⟨(some 13), .bin .eql (.t 3) (.k (.lf (.int .i64 10))), none⟩, ⟨(some 11), .as 0 0 (.t 13), none⟩] [3, 11]) c54_15
abbrev c54_17 : AC := .cond (.t 11) .skip c54_16
abbrev c54_18 : AC := .seq (.ops 0 [⟨(some 12), .bin .eql (.t 3) (.k (.lf (.int .i64 9))), none⟩, ⟨(some 11), .as 0 0 (.t 12), none⟩] [3, 11]) c54_17
abbrev c54_19 : AC := .seq (.ops 0 [⟨(some 2), .as 0 0 (.k (.lf (.int .i64 3))), none⟩] [2]) .ret
abbrev c54_20 : AC := .cond (.t 11) c54_19 .skip
abbrev c54_21 : AC := .seq c54_18 c54_20
abbrev c54_22 : AC := .cond (.t 8) c54_4 c54_21
abbrev c54_23 : AC := .seq c54_3 c54_22
abbrev c54_24 : AC := .cond (.t 6) c54_1 c54_23
abbrev c54_25 : AC := .seq (.ops 0 [⟨(some 7), .bin .eql (.t 3) (.k (.lf (.int .i64 7))), none⟩, ⟨(some 6), .as 0 0 (.t 7), none⟩] [3, 6]) c54_24
abbrev c54_26 : AC := .cond (.t 4) c54_0 c54_25
abbrev c54_27 : AC := .seq (.ops 0 [⟨(some 5), .bin .eql (.t 3) (.k (.lf (.int .i64 8))), none⟩, ⟨(some 4), .as 0 0 (.t 5), none⟩] [3, 4]) c54_26
abbrev c54_28 : AC := .block 0 c54_27
abbrev c54_29 : AC := .seq (.ops 0 [⟨(some 3), .mv (.t 0), none⟩] [3]) c54_28
abbrev c54_30 : AC := .seq (.ops 0 [⟨(some 2), .as 0 0 (.k (.lf (.int .i64 4))), none⟩] [2]) .ret
abbrev c54_31 : AC := .seq c54_29 c54_30
abbrev c54_32 : AC := .seq (.ops 0 [⟨(some 2), .as 0 0 (.k (.lf (.int .i64 0))), none⟩] [0]) c54_31
abbrev c54 : AC := c54_32
theorem c54_ok : compileFn Tryd.prog 54 = some (20, AC.strip c54, [.t 2]) := by kernel_rfl
abbrev c55_0 : AC := .cond (.t 12) (.ops 0 [⟨(some 13), .mv (.t 0), none⟩, ⟨(some 14), .nc (.t 13), none⟩, ⟨(some 15), .fa (.t 14) 2, none⟩, ⟨none, .st (.t 15) (.k (.lf (.bool true))) 1, none⟩] [0, 1, 2]) .skip
abbrev c55_1 : AC := .seq (.ops 0 [⟨(some 7), .mv (.t 1), none⟩, ⟨(some 8), .len (.t 7), none⟩, ⟨(some 9), .mv (.t 2), none⟩, ⟨(some 10), .lns (.t 9), none⟩, ⟨(some 11), .bin .add (.t 8) (.t 10), none⟩, ⟨(some 12), .bin .gtr (.t 11) (.k (.lf (.int .i64 65536))), none⟩] [0, 1, 2, 12]) c55_0
abbrev c55_2 : AC := .seq (.ops 0 [⟨(some 20), .mv (.t 1), none⟩, ⟨(some 6), .as 5 1 (.t 20), none⟩] [6]) .ret
abbrev c55_3 : AC := .cond (.t 19) c55_2 .skip
abbrev c55_4 : AC := .seq (.ops 0 [⟨(some 16), .mv (.t 0), none⟩, ⟨(some 17), .nc (.t 16), none⟩, ⟨(some 18), .fa (.t 17) 2, none⟩, ⟨(some 19), .ld (.t 18) 1 false, none⟩] [1, 2, 19]) c55_3
abbrev c55_5 : AC := .seq (.ops 0 [⟨(some 21), .mv (.t 1), none⟩, ⟨(some 22), .mv (.t 2), none⟩, ⟨(some 23), .aps 5 (.t 21) (.t 22), none⟩, ⟨(some 6), .as 5 1 (.t 23), none⟩] [6]) .ret
abbrev c55_6 : AC := .seq c55_4 c55_5
abbrev c55_7 : AC := .seq c55_1 c55_6
abbrev c55_8 : AC := .seq (.ops 0 [⟨(some 6), .as 5 1 (.k (.lf (.lst .nl 1 [] []))), none⟩] [0, 1, 2]) c55_7
abbrev c55 : AC := c55_8
theorem c55_ok : compileFn Tryd.prog 55 = some (24, AC.strip c55, [.t 6]) := by kernel_rfl
abbrev c56_0 : AC := .seq (.ops 0 [⟨(some 34), .mv (.t 0), none⟩, ⟨(some 35), .mv (.t 1), none⟩, ⟨(some 36), .callg 55 0 [(.t 34), (.t 35), (.k (.lf (.str ⟨#[37, 101]⟩)))], none⟩, ⟨(some 6), .as 5 1 (.t 36), none⟩] [6]) .ret
abbrev c56_1 : AC := .seq (.ops 0 [⟨(some 39), .mv (.t 0), none⟩, ⟨(some 40), .mv (.t 1), none⟩, ⟨(some 41), .callg 55 0 [(.t 39), (.t 40), (.k (.lf (.str ⟨#[37, 102]⟩)))], none⟩, ⟨(some 6), .as 5 1 (.t 41), none⟩] [6]) .ret
abbrev c56_2 : AC := .seq (.ops 0 [⟨(some 44), .mv (.t 0), none⟩, ⟨(some 45), .mv (.t 1), none⟩, ⟨(some 46), .callg 55 0 [(.t 44), (.t 45), (.k (.lf (.str ⟨#[46]⟩)))], none⟩, ⟨(some 6), .as 5 1 (.t 46), none⟩] [6]) .ret
abbrev c56_3 : AC := .seq (.ops 0 [⟨(some 49), .mv (.t 0), none⟩, ⟨(some 50), .mv (.t 1), none⟩, ⟨(some 51), .callg 55 0 [(.t 49), (.t 50), (.k (.lf (.str ⟨#[123, 125]⟩)))], none⟩, ⟨(some 6), .as 5 1 (.t 51), none⟩] [6]) .ret
abbrev c56_4 : AC := .seq (.ops 0 [⟨(some 54), .mv (.t 0), none⟩, ⟨(some 55), .mv (.t 1), none⟩, ⟨(some 56), .fa (.t 7) 2, none⟩, ⟨(some 57), .ld (.t 56) 1 false, none⟩, ⟨(some 58), .call 75 [(.t 57)], none⟩, ⟨(some 59), .callg 55 0 [(.t 54), (.t 55), (.t 58)], none⟩, ⟨(some 6), .as 5 1 (.t 59), none⟩] [6]) .ret
abbrev c56_5 : AC := .seq (.ops 0 [⟨(some 62), .mv (.t 0), none⟩, ⟨(some 63), .mv (.t 1), none⟩, ⟨(some 64), .fa (.t 7) 3, none⟩, ⟨(some 65), .ld (.t 64) 4 true, none⟩, ⟨(some 66), .call 76 [(.t 65)], none⟩, ⟨(some 67), .callg 55 0 [(.t 62), (.t 63), (.t 66)], none⟩, ⟨(some 6), .as 5 1 (.t 67), none⟩] [6]) .ret
abbrev c56_6 : AC := .seq (.ops 0 [⟨(some 70), .mv (.t 0), none⟩, ⟨(some 71), .mv (.t 1), none⟩, ⟨(some 72), .fa (.t 7) 2, none⟩, ⟨(some 73), .ld (.t 72) 1 false, none⟩, ⟨(some 74), .callg 55 0 [(.t 70), (.t 71), (.t 73)], none⟩, ⟨(some 6), .as 5 1 (.t 74), none⟩] [6]) .ret
abbrev c56_7 : AC := .seq (.ops 0 [⟨(some 77), .mv (.t 0), none⟩, ⟨(some 78), .mv (.t 1), none⟩, ⟨(some 79), .mv (.t 2), none⟩, ⟨(some 80), .callg 77 0 [(.t 77), (.t 78), (.k (.lf (.str ⟨#[123]⟩))), (.t 79), (.k (.lf (.str ⟨#[125]⟩)))], none⟩, ⟨(some 6), .as 5 1 (.t 80), none⟩] [6]) .ret
abbrev c56_8 : AC := .seq (.ops 0 [⟨(some 86), .mv (.t 0), none⟩, ⟨(some 87), .mv (.t 1), none⟩, ⟨(some 88), .mv (.t 2), none⟩, ⟨(some 89), .callg 77 0 [(.t 86), (.t 87), (.k (.lf (.str ⟨#[123, 58, 32]⟩))), (.t 88), (.k (.lf (.str ⟨#[32, 58, 125]⟩)))], none⟩, ⟨(some 6), .as 5 1 (.t 89), none⟩] [6]) .ret
abbrev c56_9 : AC := .cond (.t 85) c56_8 .skip
abbrev c56_10 : AC := .seq (.ops 0 [⟨(some 83), .fa (.t 7) 2, none⟩, ⟨(some 84), .ld (.t 83) 1 false, none⟩, ⟨(some 85), .bin .eql (.t 84) (.k (.lf (.str ⟨#[]⟩))), none⟩] [0, 1, 2, 7, 85]) c56_9
abbrev c56_11 : AC := .seq (.ops 0 [⟨(some 90), .mv (.t 0), none⟩, ⟨(some 91), .mv (.t 1), none⟩, ⟨(some 92), .fa (.t 7) 2, none⟩, ⟨(some 93), .ld (.t 92) 1 false, none⟩, ⟨(some 94), .bin .add (.k (.lf (.str ⟨#[123, 58]⟩))) (.t 93), none⟩, ⟨(some 95), .bin .add (.t 94) (.k (.lf (.str ⟨#[58, 32]⟩))), none⟩, ⟨(some 96), .mv (.t 2), none⟩, ⟨(some 97), .callg 77 0 [(.t 90), (.t 91), (.t 95), (.t 96), (.k (.lf (.str ⟨#[32, 58, 125]⟩)))], none⟩, ⟨(some 6), .as 5 1 (.t 97), none⟩] [6]) .ret
abbrev c56_12 : AC := .seq c56_10 c56_11
abbrev c56_13 : AC := .seq (.ops 0 [⟨(some 100), .mv (.t 0), none⟩, ⟨(some 101), .mv (.t 1), none⟩, ⟨(some 102), .mv (.t 2), none⟩, ⟨(some 103), .callg 77 0 [(.t 100), (.t 101), (.k (.lf (.str ⟨#[123, 124, 32]⟩))), (.t 102), (.k (.lf (.str ⟨#[32, 124, 125]⟩)))], none⟩, ⟨(some 6), .as 5 1 (.t 103), none⟩] [6]) .ret
abbrev c56_14 : AC := .seq (.ops 0 [⟨(some 106), .mv (.t 0), none⟩, ⟨(some 107), .mv (.t 1), none⟩, ⟨(some 108), .mv (.t 2), none⟩, ⟨(some 109), .callg 77 0 [(.t 106), (.t 107), (.k (.lf (.str ⟨#[123, 126, 32]⟩))), (.t 108), (.k (.lf (.str ⟨#[32, 126, 125]⟩)))], none⟩, ⟨(some 6), .as 5 1 (.t 109), none⟩] [6]) .ret
abbrev c56_15 : AC := .seq (.ops 0 [⟨(some 112), .mv (.t 0), none⟩, ⟨(some 113), .mv (.t 0), none⟩, ⟨(some 114), .mv (.t 1), none⟩, ⟨(some 115), .mv (.t 8), none⟩, ⟨(some 116), .ia (.t 115) (.k (.lf (.int .i64 0))) 1, none⟩, ⟨(some 117), .ld (.t 116) 1 false, none⟩, ⟨(some 118), .callg 38 0 [(.t 113), (.t 114), (.t 117), (.k (.lf (.int .i64 3)))], none⟩, ⟨(some 119), .callg 55 0 [(.t 112), (.t 118), (.k (.lf (.str ⟨#[42]⟩)))], none⟩, ⟨(some 6), .as 5 1 (.t 119), none⟩] [6]) .ret
abbrev c56_16 : AC := .seq (.ops 0 [⟨(some 122), .mv (.t 0), none⟩, ⟨(some 123), .mv (.t 0), none⟩, ⟨(some 124), .mv (.t 1), none⟩, ⟨(some 125), .mv (.t 8), none⟩, ⟨(some 126), .ia (.t 125) (.k (.lf (.int .i64 0))) 1, none⟩, ⟨(some 127), .ld (.t 126) 1 false, none⟩, ⟨(some 128), .callg 38 0 [(.t 123), (.t 124), (.t 127), (.k (.lf (.int .i64 3)))], none⟩, ⟨(some 129), .callg 55 0 [(.t 122), (.t 128), (.k (.lf (.str ⟨#[43]⟩)))], none⟩, ⟨(some 6), .as 5 1 (.t 129), none⟩] [6]) .ret
abbrev c56_17 : AC := .seq (.ops 0 [⟨(some 132), .mv (.t 0), none⟩, ⟨(some 133), .mv (.t 0), none⟩, ⟨(some 134), .mv (.t 1), none⟩, ⟨(some 135), .mv (.t 8), none⟩, ⟨(some 136), .ia (.t 135) (.k (.lf (.int .i64 0))) 1, none⟩, ⟨(some 137), .ld (.t 136) 1 false, none⟩, ⟨(some 138), .callg 38 0 [(.t 133), (.t 134), (.t 137), (.k (.lf (.int .i64 3)))], none⟩, ⟨(some 139), .callg 55 0 [(.t 132), (.t 138), (.k (.lf (.str ⟨#[63]⟩)))], none⟩, ⟨(some 6), .as 5 1 (.t 139), none⟩] [6]) .ret
abbrev c56_18 : AC := .seq (.ops 0 [⟨(some 142), .mv (.t 0), none⟩, ⟨(some 143), .mv (.t 0), none⟩, ⟨(some 144), .mv (.t 1), none⟩, ⟨(some 145), .mv (.t 8), none⟩, ⟨(some 146), .ia (.t 145) (.k (.lf (.int .i64 0))) 1, none⟩, ⟨(some 147), .ld (.t 146) 1 false, none⟩, ⟨(some 148), .callg 38 0 [(.t 143), (.t 144), (.t 147), (.k (.lf (.int .i64 3)))], none⟩, ⟨(some 149), .mv (.t 9), none⟩, ⟨(some 150), .bin .add (.k (.lf (.str ⟨#[94]⟩))) (.t 149), none⟩, ⟨(some 151), .callg 55 0 [(.t 142), (.t 148), (.t 150)], none⟩, ⟨(some 6), .as 5 1 (.t 151), none⟩] [6]) .ret
abbrev c56_19 : AC := .seq (.ops 0 [⟨(some 154), .mv (.t 0), none⟩, ⟨(some 155), .mv (.t 0), none⟩, ⟨(some 156), .mv (.t 1), none⟩, ⟨(some 157), .mv (.t 8), none⟩, ⟨(some 158), .ia (.t 157) (.k (.lf (.int .i64 0))) 1, none⟩, ⟨(some 159), .ld (.t 158) 1 false, none⟩, ⟨(some 160), .callg 38 0 [(.t 155), (.t 156), (.t 159), (.k (.lf (.int .i64 3)))], none⟩, ⟨(some 161), .mv (.t 9), none⟩, ⟨(some 162), .bin .add (.k (.lf (.str ⟨#[94, 43]⟩))) (.t 161), none⟩, ⟨(some 163), .callg 55 0 [(.t 154), (.t 160), (.t 162)], none⟩, ⟨(some 6), .as 5 1 (.t 163), none⟩] [6]) .ret
abbrev c56_20 : AC := .seq (.ops 0 [⟨(some 166), .mv (.t 0), none⟩, ⟨(some 167), .mv (.t 0), none⟩, ⟨(some 168), .mv (.t 1), none⟩, ⟨(some 169), .mv (.t 8), none⟩, ⟨(some 170), .ia (.t 169) (.k (.lf (.int .i64 0))) 1, none⟩, ⟨(some 171), .ld (.t 170) 1 false, none⟩, ⟨(some 172), .callg 38 0 [(.t 167), (.t 168), (.t 171), (.k (.lf (.int .i64 3)))], none⟩, ⟨(some 173), .mv (.t 9), none⟩, ⟨(some 174), .bin .add (.k (.lf (.str ⟨#[94, 45]⟩))) (.t 173), none⟩, ⟨(some 175), .callg 55 0 [(.t 166), (.t 172), (.t 174)], none⟩, ⟨(some 6), .as 5 1 (.t 175), none⟩] [6]) .ret
abbrev c56_21 : AC := .seq (.gdt (.one ⟨(some 178), .mv (.t 0), none⟩ (.one ⟨(some 179), .mv (.t 0), none⟩ (.one ⟨(some 180), .mv (.t 1), none⟩ (.one ⟨(some 181), .mv (.t 8), none⟩ (.one ⟨(some 182), .ia (.t 181) (.k (.lf (.int .i64 0))) 1, none⟩ (.one ⟨(some 185), .fa (.t 7) 2, none⟩ (.alt (.one ⟨(some 183), .ld (.t 182) 1 false, none⟩ (.alt (.one ⟨(some 184), .callg 38 0 [(.t 179), (.t 180), (.t 183), (.k (.lf (.int .i64 3)))], none⟩ (.one ⟨(some 186), .ld (.t 185) 1 false, none⟩ (.one ⟨(some 187), .call 75 [(.t 186)], none⟩ (.one ⟨(some 188), .bin .add (.k (.lf (.str ⟨#[32, 45, 62, 32]⟩))) (.t 187), none⟩ (.one ⟨(some 189), .callg 55 0 [(.t 178), (.t 184), (.t 188)], none⟩ (.one ⟨(some 6), .as 5 1 (.t 189), none⟩ .nil)))))) (.one ⟨(some 186), .ld (.t 185) 1 false, none⟩ (.one ⟨(some 184), .callg 38 0 [(.t 179), (.t 180), (.t 183), (.k (.lf (.int .i64 3)))], none⟩ (.one ⟨(some 187), .call 75 [(.t 186)], none⟩ (.one ⟨(some 188), .bin .add (.k (.lf (.str ⟨#[32, 45, 62, 32]⟩))) (.t 187), none⟩ (.one ⟨(some 189), .callg 55 0 [(.t 178), (.t 184), (.t 188)], none⟩ (.one ⟨(some 6), .as 5 1 (.t 189), none⟩ .nil)))))))) (.one ⟨(some 186), .ld (.t 185) 1 false, none⟩ (.one ⟨(some 183), .ld (.t 182) 1 false, none⟩ (.one ⟨(some 184), .callg 38 0 [(.t 179), (.t 180), (.t 183), (.k (.lf (.int .i64 3)))], none⟩ (.one ⟨(some 187), .call 75 [(.t 186)], none⟩ (.one ⟨(some 188), .bin .add (.k (.lf (.str ⟨#[32, 45, 62, 32]⟩))) (.t 187), none⟩ (.one ⟨(some 189), .callg 55 0 [(.t 178), (.t 184), (.t 188)], none⟩ (.one ⟨(some 6), .as 5 1 (.t 189), none⟩ .nil)))))))))))))) [6]) .ret
abbrev c56_22 : AC := .seq (.ops 0 [⟨(some 192), .mv (.t 0), none⟩, ⟨(some 193), .mv (.t 0), none⟩, ⟨(some 194), .mv (.t 1), none⟩, ⟨(some 195), .mv (.t 8), none⟩, ⟨(some 196), .ia (.t 195) (.k (.lf (.int .i64 0))) 1, none⟩, ⟨(some 197), .ld (.t 196) 1 false, none⟩, ⟨(some 198), .callg 38 0 [(.t 193), (.t 194), (.t 197), (.k (.lf (.int .i64 3)))], none⟩, ⟨(some 199), .mv (.t 9), none⟩, ⟨(some 200), .bin .add (.k (.lf (.str ⟨#[32, 45, 62, 32]⟩))) (.t 199), none⟩, ⟨(some 201), .callg 55 0 [(.t 192), (.t 198), (.t 200)], none⟩, ⟨(some 6), .as 5 1 (.t 201), none⟩] [6]) .ret
abbrev c56_23 : AC := .seq (.gdt (.one ⟨(some 204), .mv (.t 0), none⟩ (.one ⟨(some 205), .mv (.t 0), none⟩ (.one ⟨(some 206), .mv (.t 1), none⟩ (.one ⟨(some 208), .mv (.t 8), none⟩ (.one ⟨(some 209), .ia (.t 208) (.k (.lf (.int .i64 0))) 1, none⟩ (.alt (.one ⟨(some 207), .callg 55 0 [(.t 205), (.t 206), (.k (.lf (.str ⟨#[38]⟩)))], none⟩ (.one ⟨(some 210), .ld (.t 209) 1 false, none⟩ (.one ⟨(some 211), .callg 38 0 [(.t 204), (.t 207), (.t 210), (.k (.lf (.int .i64 2)))], none⟩ (.one ⟨(some 6), .as 5 1 (.t 211), none⟩ .nil)))) (.one ⟨(some 210), .ld (.t 209) 1 false, none⟩ (.one ⟨(some 207), .callg 55 0 [(.t 205), (.t 206), (.k (.lf (.str ⟨#[38]⟩)))], none⟩ (.one ⟨(some 211), .callg 38 0 [(.t 204), (.t 207), (.t 210), (.k (.lf (.int .i64 2)))], none⟩ (.one ⟨(some 6), .as 5 1 (.t 211), none⟩ .nil)))))))))) [6]) .ret
abbrev c56_24 : AC := .seq (.gdt (.one ⟨(some 214), .mv (.t 0), none⟩ (.one ⟨(some 215), .mv (.t 0), none⟩ (.one ⟨(some 216), .mv (.t 1), none⟩ (.one ⟨(some 218), .mv (.t 8), none⟩ (.one ⟨(some 219), .ia (.t 218) (.k (.lf (.int .i64 0))) 1, none⟩ (.alt (.one ⟨(some 217), .callg 55 0 [(.t 215), (.t 216), (.k (.lf (.str ⟨#[33]⟩)))], none⟩ (.one ⟨(some 220), .ld (.t 219) 1 false, none⟩ (.one ⟨(some 221), .callg 38 0 [(.t 214), (.t 217), (.t 220), (.k (.lf (.int .i64 2)))], none⟩ (.one ⟨(some 6), .as 5 1 (.t 221), none⟩ .nil)))) (.one ⟨(some 220), .ld (.t 219) 1 false, none⟩ (.one ⟨(some 217), .callg 55 0 [(.t 215), (.t 216), (.k (.lf (.str ⟨#[33]⟩)))], none⟩ (.one ⟨(some 221), .callg 38 0 [(.t 214), (.t 217), (.t 220), (.k (.lf (.int .i64 2)))], none⟩ (.one ⟨(some 6), .as 5 1 (.t 221), none⟩ .nil)))))))))) [6]) .ret
abbrev c56_25 : AC := .seq (.gdt (.one ⟨(some 224), .mv (.t 0), none⟩ (.one ⟨(some 225), .mv (.t 0), none⟩ (.one ⟨(some 226), .mv (.t 0), none⟩ (.one ⟨(some 227), .mv (.t 1), none⟩ (.one ⟨(some 228), .mv (.t 8), none⟩ (.one ⟨(some 229), .ia (.t 228) (.k (.lf (.int .i64 0))) 1, none⟩ (.one ⟨(some 233), .mv (.t 8), none⟩ (.one ⟨(some 234), .ia (.t 233) (.k (.lf (.int .i64 1))) 1, none⟩ (.alt (.one ⟨(some 230), .ld (.t 229) 1 false, none⟩ (.alt (.one ⟨(some 231), .callg 38 0 [(.t 226), (.t 227), (.t 230), (.k (.lf (.int .i64 1)))], none⟩ (.alt (.one ⟨(some 232), .callg 55 0 [(.t 225), (.t 231), (.k (.lf (.str ⟨#[32]⟩)))], none⟩ (.one ⟨(some 235), .ld (.t 234) 1 false, none⟩ (.one ⟨(some 236), .callg 38 0 [(.t 224), (.t 232), (.t 235), (.k (.lf (.int .i64 2)))], none⟩ (.one ⟨(some 6), .as 5 1 (.t 236), none⟩ .nil)))) (.one ⟨(some 235), .ld (.t 234) 1 false, none⟩ (.one ⟨(some 232), .callg 55 0 [(.t 225), (.t 231), (.k (.lf (.str ⟨#[32]⟩)))], none⟩ (.one ⟨(some 236), .callg 38 0 [(.t 224), (.t 232), (.t 235), (.k (.lf (.int .i64 2)))], none⟩ (.one ⟨(some 6), .as 5 1 (.t 236), none⟩ .nil)))))) (.one ⟨(some 235), .ld (.t 234) 1 false, none⟩ (.one ⟨(some 231), .callg 38 0 [(.t 226), (.t 227), (.t 230), (.k (.lf (.int .i64 1)))], none⟩ (.one ⟨(some 232), .callg 55 0 [(.t 225), (.t 231), (.k (.lf (.str ⟨#[32]⟩)))], none⟩ (.one ⟨(some 236), .callg 38 0 [(.t 224), (.t 232), (.t 235), (.k (.lf (.int .i64 2)))], none⟩ (.one ⟨(some 6), .as 5 1 (.t 236), none⟩ .nil))))))) (.one ⟨(some 235), .ld (.t 234) 1 false, none⟩ (.one ⟨(some 230), .ld (.t 229) 1 false, none⟩ (.one ⟨(some 231), .callg 38 0 [(.t 226), (.t 227), (.t 230), (.k (.lf (.int .i64 1)))], none⟩ (.one ⟨(some 232), .callg 55 0 [(.t 225), (.t 231), (.k (.lf (.str ⟨#[32]⟩)))], none⟩ (.one ⟨(some 236), .callg 38 0 [(.t 224), (.t 232), (.t 235), (.k (.lf (.int .i64 2)))], none⟩ (.one ⟨(some 6), .as 5 1 (.t 236), none⟩ .nil))))))))))))))) [6]) .ret
abbrev c56_26 : AC := .cond (.t 222) c56_25 .skip
abbrev c56_27 : AC := .seq (.ops 0 [⟨(some 223), .bin .eql (.t 31) (.k (.lf (.int .i64 7))), none⟩, ⟨(some 222), .as 0 0 (.t 223), none⟩] [0, 1, 8, 222]) c56_26
abbrev c56_28 : AC := .cond (.t 212) c56_24 c56_27
abbrev c56_29 : AC := .seq (.ops 0 [⟨(some 213), .bin .eql (.t 31) (.k (.lf (.int .i64 13))), none⟩, ⟨(some 212), .as 0 0 (.t 213), none⟩] [0, 1, 8, 31, 212]) c56_28
abbrev c56_30 : AC := .cond (.t 202) c56_23 c56_29
abbrev c56_31 : AC := .seq (.ops 0 [⟨(some 203), .bin .eql (.t 31) (.k (.lf (.int .i64 12))), none⟩, ⟨(some 202), .as 0 0 (.t 203), none⟩] [0, 1, 8, 31, 202]) c56_30
abbrev c56_32 : AC := .cond (.t 190) c56_22 c56_31
abbrev c56_33 : AC := .seq (.ops 0 [⟨(some 191), .bin .eql (.t 31) (.k (.lf (.int .i64 23))), none⟩, ⟨(some 190), .as 0 0 (.t 191), none⟩] [0, 1, 8, 9, 31, 190]) c56_32
abbrev c56_34 : AC := .cond (.t 176) c56_21 c56_33
abbrev c56_35 : AC := .seq (.ops 0 [⟨(some 177), .bin .eql (.t 31) (.k (.lf (.int .i64 22))), none⟩, ⟨(some 176), .as 0 0 (.t 177), none⟩] [0, 1, 7, 8, 9, 31, 176]) c56_34
abbrev c56_36 : AC := .cond (.t 164) c56_20 c56_35
abbrev c56_37 : AC := .seq (.ops 0 [⟨(some 165), .bin .eql (.t 31) (.k (.lf (.int .i64 16))), none⟩, ⟨(some 164), .as 0 0 (.t 165), none⟩] [0, 1, 7, 8, 9, 31, 164]) c56_36
abbrev c56_38 : AC := .cond (.t 152) c56_19 c56_37
abbrev c56_39 : AC := .seq (.ops 0 [⟨(some 153), .bin .eql (.t 31) (.k (.lf (.int .i64 15))), none⟩, ⟨(some 152), .as 0 0 (.t 153), none⟩] [0, 1, 7, 8, 9, 31, 152]) c56_38
abbrev c56_40 : AC := .cond (.t 140) c56_18 c56_39
abbrev c56_41 : AC := .seq (.ops 0 [⟨(some 141), .bin .eql (.t 31) (.k (.lf (.int .i64 14))), none⟩, ⟨(some 140), .as 0 0 (.t 141), none⟩] [0, 1, 7, 8, 9, 31, 140]) c56_40
abbrev c56_42 : AC := .cond (.t 130) c56_17 c56_41
abbrev c56_43 : AC := .seq (.ops 0 [⟨(some 131), .bin .eql (.t 31) (.k (.lf (.int .i64 11))), none⟩, ⟨(some 130), .as 0 0 (.t 131), none⟩] [0, 1, 7, 8, 9, 31, 130]) c56_42
abbrev c56_44 : AC := .cond (.t 120) c56_16 c56_43
abbrev c56_45 : AC := .seq (.ops 0 [⟨(some 121), .bin .eql (.t 31) (.k (.lf (.int .i64 10))), none⟩, ⟨(some 120), .as 0 0 (.t 121), none⟩] [0, 1, 7, 8, 9, 31, 120]) c56_44
abbrev c56_46 : AC := .cond (.t 110) c56_15 c56_45
abbrev c56_47 : AC := .seq (.ops 0 [⟨(some 111), .bin .eql (.t 31) (.k (.lf (.int .i64 9))), none⟩, ⟨(some 110), .as 0 0 (.t 111), none⟩] [0, 1, 7, 8, 9, 31, 110]) c56_46
abbrev c56_48 : AC := .cond (.t 104) c56_14 c56_47
abbrev c56_49 : AC := .seq (.ops 0 [⟨(some 105), .bin .eql (.t 31) (.k (.lf (.int .i64 21))), none⟩, ⟨(some 104), .as 0 0 (.t 105), none⟩] [0, 1, 2, 7, 8, 9, 31, 104]) c56_48
abbrev c56_50 : AC := .cond (.t 98) c56_13 c56_49
abbrev c56_51 : AC := .seq (.ops 0 [⟨(some 99), .bin .eql (.t 31) (.k (.lf (.int .i64 20))), none⟩, ⟨(some 98), .as 0 0 (.t 99), none⟩] [0, 1, 2, 7, 8, 9, 31, 98]) c56_50
abbrev c56_52 : AC := .cond (.t 81) c56_12 c56_51
abbrev c56_53 : AC := .seq (.ops 0 [⟨(some 82), .bin .eql (.t 31) (.k (.lf (.int .i64 19))), none⟩, ⟨(some 81), .as 0 0 (.t 82), none⟩] [0, 1, 2, 7, 8, 9, 31, 81]) c56_52
abbrev c56_54 : AC := .cond (.t 75) c56_7 c56_53
abbrev c56_55 : AC := .seq (.ops 0 [⟨(some 76), .bin .eql (.t 31) (.k (.lf (.int .i64 18))), none⟩, ⟨(some 75), .as 0 0 (.t 76), none⟩] [0, 1, 2, 7, 8, 9, 31, 75]) c56_54
abbrev c56_56 : AC := .cond (.t 68) c56_6 c56_55
abbrev c56_57 : AC := .seq (.ops 0 [⟨(some 69), .bin .eql (.t 31) (.k (.lf (.int .i64 6))), none⟩, ⟨(some 68), .as 0 0 (.t 69), none⟩] [0, 1, 2, 7, 8, 9, 31, 68]) c56_56
abbrev c56_58 : AC := .cond (.t 60) c56_5 c56_57
abbrev c56_59 : AC := .seq (.ops 0 [⟨(some 61), .bin .eql (.t 31) (.k (.lf (.int .i64 5))), none⟩, ⟨(some 60), .as 0 0 (.t 61), none⟩] [0, 1, 2, 7, 8, 9, 31, 60]) c56_58
abbrev c56_60 : AC := .cond (.t 52) c56_4 c56_59
abbrev c56_61 : AC := .seq (.ops 0 [⟨(some 53), .bin .eql (.t 31) (.k (.lf (.int .i64 4))), none⟩, ⟨(some 52), .as 0 0 (.t 53), none⟩] [0, 1, 2, 7, 8, 9, 31, 52]) c56_60
abbrev c56_62 : AC := .cond (.t 47) c56_3 c56_61
abbrev c56_63 : AC := .seq (.ops 0 [⟨(some 48), .bin .eql (.t 31) (.k (.lf (.int .i64 17))), none⟩, ⟨(some 47), .as 0 0 (.t 48), none⟩] [0, 1, 2, 7, 8, 9, 31, 47]) c56_62
abbrev c56_64 : AC := .cond (.t 42) c56_2 c56_63
abbrev c56_65 : AC := .seq (.ops 0 [⟨(some 43), .bin .eql (.t 31) (.k (.lf (.int .i64 3))), none⟩, ⟨(some 42), .as 0 0 (.t 43), none⟩] [0, 1, 2, 7, 8, 9, 31, 42]) c56_64
abbrev c56_66 : AC := .cond (.t 37) c56_1 c56_65
abbrev c56_67 : AC := .seq (.ops 0 [⟨(some 38), .bin .eql (.t 31) (.k (.lf (.int .i64 2))), none⟩, ⟨(some 37), .as 0 0 (.t 38), none⟩] [0, 1, 2, 7, 8, 9, 31, 37]) c56_66
abbrev c56_68 : AC := .cond (.t 32) c56_0 c56_67
abbrev c56_69 : AC := .seq (.ops 0 [⟨(some 33), .bin .eql (.t 31) (.k (.lf (.int .i64 1))), none⟩, ⟨(some 32), .as 0 0 (.t 33), none⟩] [0, 1, 2, 7, 8, 9, 31, 32]) c56_68
abbrev c56_70 : AC := .block 0 c56_69
abbrev c56_71 : AC := .seq (.ops 0 [⟨(some 30), .fa (.t 7) 0, none⟩, ⟨(some 31), .ld (.t 30) 1 false, none⟩] [0, 1, 2, 7, 8, 9, 31]) c56_70
abbrev c56_72 : AC := .seq (.gdt (.one ⟨(some 237), .mv (.t 0), none⟩ (.one ⟨(some 238), .mv (.t 0), none⟩ (.one ⟨(some 239), .mv (.t 0), none⟩ (.one ⟨(some 240), .mv (.t 1), none⟩ (.one ⟨(some 241), .mv (.t 8), none⟩ (.one ⟨(some 242), .ia (.t 241) (.k (.lf (.int .i64 0))) 1, none⟩ (.one ⟨(some 246), .mv (.t 8), none⟩ (.one ⟨(some 247), .ia (.t 246) (.k (.lf (.int .i64 1))) 1, none⟩ (.alt (.one ⟨(some 243), .ld (.t 242) 1 false, none⟩ (.alt (.one ⟨(some 244), .callg 38 0 [(.t 239), (.t 240), (.t 243), (.k (.lf (.int .i64 0)))], none⟩ (.alt (.one ⟨(some 245), .callg 55 0 [(.t 238), (.t 244), (.k (.lf (.str ⟨#[32, 47, 32]⟩)))], none⟩ (.one ⟨(some 248), .ld (.t 247) 1 false, none⟩ (.one ⟨(some 249), .callg 38 0 [(.t 237), (.t 245), (.t 248), (.k (.lf (.int .i64 1)))], none⟩ (.one ⟨(some 6), .as 5 1 (.t 249), none⟩ .nil)))) (.one ⟨(some 248), .ld (.t 247) 1 false, none⟩ (.one ⟨(some 245), .callg 55 0 [(.t 238), (.t 244), (.k (.lf (.str ⟨#[32, 47, 32]⟩)))], none⟩ (.one ⟨(some 249), .callg 38 0 [(.t 237), (.t 245), (.t 248), (.k (.lf (.int .i64 1)))], none⟩ (.one ⟨(some 6), .as 5 1 (.t 249), none⟩ .nil)))))) (.one ⟨(some 248), .ld (.t 247) 1 false, none⟩ (.one ⟨(some 244), .callg 38 0 [(.t 239), (.t 240), (.t 243), (.k (.lf (.int .i64 0)))], none⟩ (.one ⟨(some 245), .callg 55 0 [(.t 238), (.t 244), (.k (.lf (.str ⟨#[32, 47, 32]⟩)))], none⟩ (.one ⟨(some 249), .callg 38 0 [(.t 237), (.t 245), (.t 248), (.k (.lf (.int .i64 1)))], none⟩ (.one ⟨(some 6), .as 5 1 (.t 249), none⟩ .nil))))))) (.one ⟨(some 248), .ld (.t 247) 1 false, none⟩ (.one ⟨(some 243), .ld (.t 242) 1 false, none⟩ (.one ⟨(some 244), .callg 38 0 [(.t 239), (.t 240), (.t 243), (.k (.lf (.int .i64 0)))], none⟩ (.one ⟨(some 245), .callg 55 0 [(.t 238), (.t 244), (.k (.lf (.str ⟨#[32, 47, 32]⟩)))], none⟩ (.one ⟨(some 249), .callg 38 0 [(.t 237), (.t 245), (.t 248), (.k (.lf (.int .i64 1)))], none⟩ (.one ⟨(some 6), .as 5 1 (.t 249), none⟩ .nil))))))))))))))) [6]) .ret
abbrev c56_73 : AC := .seq c56_71 c56_72
abbrev c56_74 : AC := .seq (.ops 0 [⟨(some 27), .fa (.t 7) 1, none⟩, ⟨(some 28), .ld (.t 27) 1 false, none⟩, ⟨(some 29), .call 74 [(.t 28), (.k (.lf (.int .i64 10)))], none⟩, ⟨(some 9), .as 0 0 (.t 29), none⟩] [0, 1, 2, 7, 8, 9]) c56_73
abbrev c56_75 : AC := .seq (.reg [⟨(some 17), .mv (.t 0), none⟩, ⟨(some 18), .nc (.t 17), none⟩, ⟨(some 19), .fa (.t 18) 0, none⟩, ⟨(some 20), .ld (.t 19) 1 false, none⟩, ⟨(some 21), .mv (.t 0), none⟩, ⟨(some 22), .nc (.t 21), none⟩, ⟨(some 23), .fa (.t 22) 1, none⟩, ⟨(some 24), .ld (.t 23) 1 false, none⟩, ⟨(some 25), .mv (.t 2), none⟩] [⟨(some 26), .call 73 [(.t 20), (.t 24), (.t 25)], none⟩, ⟨(some 8), .as 3 1 (.t 26), none⟩] [0, 1, 2, 7, 8]) c56_74
abbrev c56_76 : AC := .seq (.ops 0 [⟨(some 10), .mv (.t 0), none⟩, ⟨(some 11), .nc (.t 10), none⟩, ⟨(some 12), .fa (.t 11) 0, none⟩, ⟨(some 13), .ld (.t 12) 1 false, none⟩, ⟨(some 14), .mv (.t 2), none⟩, ⟨(some 15), .ia (.t 13) (.t 14) 7, none⟩, ⟨(some 16), .ld (.t 15) 7 true, none⟩, ⟨(some 7), .al [.int .i64 0, .int .i64 0, .str ⟨#[]⟩, .int .u64 0, .int .u64 0, .int .u64 0, .int .u64 0], none⟩, ⟨none, .st (.t 7) (.t 16) 7, none⟩] [0, 1, 2, 7]) c56_75
abbrev c56_77 : AC := .seq (.ops 0 [⟨(some 6), .as 5 1 (.k (.lf (.lst .nl 1 [] []))), none⟩] [0, 1, 2]) c56_76
abbrev c56 : AC := c56_77
theorem c56_ok : compileFn Tryd.prog 56 = some (250, AC.strip c56, [.t 6]) := by kernel_rfl
abbrev c69_0 : AC := .seq (.ops 0 [⟨(some 13), .mv (.t 0), none⟩, ⟨(some 14), .mv (.t 1), none⟩, ⟨(some 15), .ixs (.t 13) (.t 14), none⟩, ⟨(some 16), .cvi .i64 (.t 15), none⟩, ⟨(some 4), .as 0 0 (.t 16), none⟩] [4]) .ret
abbrev c69_1 : AC := .cond (.t 12) c69_0 .skip
abbrev c69_2 : AC := .seq (.ops 0 [⟨(some 5), .mv (.t 1), none⟩, ⟨(some 6), .bin .geq (.t 5) (.k (.lf (.int .i64 0))), none⟩, ⟨(some 7), .mv (.t 6), none⟩, ⟨(some 8), .mv (.t 1), (some (7, true))⟩, ⟨(some 9), .mv (.t 0), (some (7, true))⟩, ⟨(some 10), .lns (.t 9), (some (7, true))⟩, ⟨(some 11), .bin .lss (.t 8) (.t 10), (some (7, true))⟩, ⟨(some 12), .pk (.t 7) (.t 11) (.k (.lf (.bool false))), none⟩] [0, 1, 12]) c69_1
abbrev c69_3 : AC := .seq (.ops 0 [⟨(some 4), .as 0 0 (.k (.lf (.int .i64 (-1)))), none⟩] [4]) .ret
abbrev c69_4 : AC := .seq c69_2 c69_3
abbrev c69_5 : AC := .seq (.ops 0 [⟨(some 4), .as 0 0 (.k (.lf (.int .i64 0))), none⟩] [0, 1]) c69_4
abbrev c69 : AC := c69_5
theorem c69_ok : compileFn Tryd.prog 69 = some (17, AC.strip c69, [.t 4]) := by kernel_rfl
abbrev c70_0 : AC := .seq (.ops 0 [⟨(some 3), .mv (.t 0), none⟩, ⟨(some 4), .bin .geq (.t 3) (.k (.lf (.int .i64 48))), none⟩, ⟨(some 5), .mv (.t 4), none⟩, ⟨(some 6), .mv (.t 0), (some (5, true))⟩, ⟨(some 7), .bin .leq (.t 6) (.k (.lf (.int .i64 57))), (some (5, true))⟩, ⟨(some 8), .pk (.t 5) (.t 7) (.k (.lf (.bool false))), none⟩, ⟨(some 2), .as 0 0 (.t 8), none⟩] [2]) .ret
abbrev c70_1 : AC := .seq (.ops 0 [⟨(some 2), .as 0 0 (.k (.lf (.bool false))), none⟩] [0]) c70_0
abbrev c70 : AC := c70_1
theorem c70_ok : compileFn Tryd.prog 70 = some (9, AC.strip c70, [.t 2]) := by kernel_rfl
abbrev c71_0 : AC := .cond (.t 4) .skip (.ops 0 [⟨(some 11), .bin .eql (.t 3) (.k (.lf (.int .i64 17))), none⟩, ⟨(some 4), .as 0 0 (.t 11), none⟩] [3, 4])
abbrev c71_1 : AC := .seq (.ops 0 [⟨(some 10), .bin .eql (.t 3) (.k (.lf (.int .i64 6))), none⟩, ⟨(some 4), .as 0 0 (.t 10), none⟩] [3, 4]) c71_0
abbrev c71_2 : AC := .cond (.t 4) .skip c71_1
abbrev c71_3 : AC := .seq (.ops 0 [⟨(some 9), .bin .eql (.t 3) (.k (.lf (.int .i64 5))), none⟩, ⟨(some 4), .as 0 0 (.t 9), none⟩] [3, 4]) c71_2
abbrev c71_4 : AC := .cond (.t 4) .skip c71_3
abbrev c71_5 : AC := .seq (.ops 0 [⟨(some 8), .bin .eql (.t 3) (.k (.lf (.int .i64 4))), none⟩, ⟨(some 4), .as 0 0 (.t 8), none⟩] [3, 4]) c71_4
abbrev c71_6 : AC := .cond (.t 4) .skip c71_5
abbrev c71_7 : AC := .seq (.ops 0 [⟨(some 7), .bin .eql (.t 3) (.k (.lf (.int .i64 3))), none⟩, ⟨(some 4), .as 0 0 (.t 7), none⟩] [3, 4]) c71_6
abbrev c71_8 : AC := .cond (.t 4) .skip c71_7
abbrev c71_9 : AC := .seq (.ops 0 [⟨(some 6), .bin .eql (.t 3) (.k (.lf (.int .i64 2))), none⟩, ⟨(some 4), .as 0 0 (.t 6), none⟩] [3, 4]) c71_8
abbrev c71_10 : AC := .cond (.t 4) .skip c71_9
abbrev c71_11 : AC := .seq (.ops 0 [⟨(some 5), .bin .eql (.t 3) (.k (.lf (.int .i64 1))), none⟩, ⟨(some 4), .as 0 0 (.t 5), none⟩] [3, 4]) c71_10
abbrev c71_12 : AC := .seq (.ops 0 [⟨(some 2), .as 0 0 (.k (.lf (.int .i64 0))), none⟩] [2]) .ret
abbrev c71_13 : AC := .cond (.t 12) .skip (.ops 0 [⟨(some 14), .bin .eql (.t 3) (.k (.lf (.int .i64 8))), none⟩, ⟨(some 12), .as 0 0 (.t 14), none⟩] [3, 12])
abbrev c71_14 : AC := .seq (.ops 0 [⟨(some 13), .bin .eql (.t 3) (.k (.lf (.int .i64 7))), none⟩, ⟨(some 12), .as 0 0 (.t 13), none⟩] [3, 12]) c71_13
abbrev c71_15 : AC := .seq (.ops 0 [⟨(some 2), .as 0 0 (.k (.lf (.int .i64 2))), none⟩] [2]) .ret
abbrev c71_16 : AC := .cond (.t 15) .skip (.ops 0 [⟨(some 29), .bin .eql (.t 3) (.k (.lf (.int .i64 23))), none⟩, ⟨(some 15), .as 0 0 (.t 29), none⟩] [15])
abbrev c71_17 : AC := .seq (.ops 0 [⟨(some 28), .bin .eql (.t 3) (.k (.lf (.int .i64 22))), none⟩, ⟨(some 15), .as 0 0 (.t 28), none⟩] [3, 15]) c71_16
abbrev c71_18 : AC := .cond (.t 15) .skip c71_17
abbrev c71_19 : AC := .seq (.ops 0 [⟨(some 27), .bin .eql (.t 3) (.k (.lf (.int .i64 21))), none⟩, ⟨(some 15), .as 0 0 (.t 27), none⟩] [3, 15]) c71_18
abbrev c71_20 : AC := .cond (.t 15) .skip c71_19
abbrev c71_21 : AC := .seq (.ops 0 [⟨(some 26), .bin .eql (.t 3) (.k (.lf (.int .i64 20))), none⟩, ⟨(some 15), .as 0 0 (.t 26), none⟩] [3, 15]) c71_20
abbrev c71_22 : AC := .cond (.t 15) .skip c71_21
abbrev c71_23 : AC := .seq (.ops 0 [⟨(some 25), .bin .eql (.t 3) (.k (.lf (.int .i64 19))), none⟩, ⟨(some 15), .as 0 0 (.t 25), none⟩] [3, 15]) c71_22
abbrev c71_24 : AC := .cond (.t 15) .skip c71_23
abbrev c71_25 : AC := .seq (.ops 0 [⟨(some 24), .bin .eql (.t 3) (.k (.lf (.int .i64 18))), none⟩, ⟨(some 15), .as 0 0 (.t 24), none⟩] [3, 15]) c71_24
abbrev c71_26 : AC := .cond (.t 15) .skip c71_25
abbrev c71_27 : AC := .seq (.ops 0 [⟨(some 23), .bin .eql (.t 3) (.k (.lf (.int .i64 16))), none⟩, ⟨(some 15), .as 0 0 (.t 23), none⟩] [3, 15]) c71_26
abbrev c71_28 : AC := .cond (.t 15) .skip c71_27
abbrev c71_29 : AC := .seq (.ops 0 [⟨(some 22), .bin .eql (.t 3) (.k (.lf (.int .i64 15))), none⟩, ⟨(some 15), .as 0 0 (.t 22), none⟩] [3, 15]) c71_28
abbrev c71_30 : AC := .cond (.t 15) .skip c71_29
abbrev c71_31 : AC := .seq (.ops 0 [⟨(some 21), .bin .eql (.t 3) (.k (.lf (.int .i64 14))), none⟩, ⟨(some 15), .as 0 0 (.t 21), none⟩] [3, 15]) c71_30
abbrev c71_32 : AC := .cond (.t 15) .skip c71_31
abbrev c71_33 : AC := .seq (.ops 0 [⟨(some 20), .bin .eql (.t 3) (.k (.lf (.int .i64 13))), none⟩, ⟨(some 15), .as 0 0 (.t 20), none⟩] [3, 15]) c71_32
abbrev c71_34 : AC := .cond (.t 15) .skip c71_33
abbrev c71_35 : AC := .seq (.ops 0 [⟨(some 19), .bin .eql (.t 3) (.k (.lf (.int .i64 12))), none⟩, ⟨(some 15), .as 0 0 (.t 19), none⟩] [3, 15]) c71_34
abbrev c71_36 : AC := .cond (.t 15) .skip c71_35
abbrev c71_37 : AC := .seq (.ops 0 [⟨(some 18), .bin .eql (.t 3) (.k (.lf (.int .i64 11))), none⟩, ⟨(some 15), .as 0 0 (.t 18), none⟩] [3, 15]) c71_36
abbrev c71_38 : AC := .cond (.t 15) .skip c71_37
abbrev c71_39 : AC := .seq (.ops 0 [⟨(some 17), .bin .eql (.t 3) (.k (.lf (.int .i64 10))), none⟩, ⟨(some 15), .as 0 0 (.t 17), none⟩] [3, 15]) c71_38
abbrev c71_40 : AC := .cond (.t 15) .skip c71_39
abbrev c71_41 : AC := .seq (.ops 0 [⟨(some 16), .bin .eql (.t 3) (.k (.lf (.int .i64 9))), none⟩, ⟨(some 15), .as 0 0 (.t 16), none⟩] [3, 15]) c71_40
abbrev c71_42 : AC := .seq (.ops 0 [⟨(some 2), .as 0 0 (.k (.lf (.int .i64 1))), none⟩] [2]) .ret
abbrev c71_43 : AC := .cond (.t 15) c71_42 .skip
abbrev c71_44 : AC := .seq c71_41 c71_43
abbrev c71_45 : AC := .cond (.t 12) c71_15 c71_44
abbrev c71_46 : AC := .seq c71_14 c71_45
abbrev c71_47 : AC := .cond (.t 4) c71_12 c71_46
abbrev c71_48 : AC := .seq c71_11 c71_47
abbrev c71_49 : AC := .block 0 c71_48
abbrev c71_50 : AC := .seq (.ops 0 [⟨(some 3), .mv (.t 0), none⟩] [3]) c71_49
abbrev c71_51 : AC := .seq (.ops 0 [⟨(some 2), .as 0 0 (.k (.lf (.int .i64 (-1)))), none⟩] [2]) .ret
abbrev c71_52 : AC := .seq c71_50 c71_51
abbrev c71_53 : AC := .seq (.ops 0 [⟨(some 2), .as 0 0 (.k (.lf (.int .i64 0))), none⟩] [0]) c71_52
abbrev c71 : AC := c71_53
theorem c71_ok : compileFn Tryd.prog 71 = some (30, AC.strip c71, [.t 2]) := by kernel_rfl
abbrev c72_0 : AC := .seq (.ops 0 [⟨(some 2), .as 0 0 (.k (.lf (.bool false))), none⟩] [2]) .ret
abbrev c72_1 : AC := .cond (.t 14) c72_0 .skip
abbrev c72_2 : AC := .seq (.ops 0 [⟨(some 6), .fa (.t 1) 0, none⟩, ⟨(some 7), .ld (.t 6) 1 false, none⟩, ⟨(some 8), .bin .neq (.t 7) (.k (.lf (.int .i64 5))), none⟩, ⟨(some 9), .mv (.t 8), none⟩, ⟨(some 10), .fa (.t 1) 3, (some (9, true))⟩, ⟨(some 11), .ld (.t 10) 4 true, (some (9, true))⟩, ⟨(some 12), .ld (.t 3) 4 true, (some (9, true))⟩, ⟨(some 13), .beq true [2, 2, 2, 2] (.t 11) (.t 12), (some (9, true))⟩, ⟨(some 14), .pk (.t 9) (.t 13) (.k (.lf (.bool false))), none⟩] [1, 14]) c72_1
abbrev c72_3 : AC := .seq (.ops 0 [⟨(some 2), .as 0 0 (.k (.lf (.bool false))), none⟩] [2]) .ret
abbrev c72_4 : AC := .cond (.t 49) c72_3 .skip
abbrev c72_5 : AC := .seq (.ops 0 [⟨(some 33), .fa (.t 1) 1, none⟩, ⟨(some 34), .ld (.t 33) 1 false, none⟩, ⟨(some 35), .bin .lss (.t 34) (.k (.lf (.int .i64 0))), none⟩, ⟨(some 36), .mv (.t 35), none⟩, ⟨(some 37), .fa (.t 1) 1, (some (36, false))⟩, ⟨(some 38), .ld (.t 37) 1 false, (some (36, false))⟩, ⟨(some 39), .bin .gtr (.t 38) (.k (.lf (.int .i64 50))), (some (36, false))⟩, ⟨(some 40), .pk (.t 36) (.k (.lf (.bool true))) (.t 39), none⟩, ⟨(some 41), .mv (.t 40), none⟩, ⟨(some 42), .mv (.t 4), (some (41, false))⟩, ⟨(some 43), .un .not (.t 42), (some (41, false))⟩, ⟨(some 44), .mv (.t 43), (some (41, false))⟩, ⟨(some 45), .fa (.t 1) 1, (some (44, true))⟩, ⟨(some 46), .ld (.t 45) 1 false, (some (44, true))⟩, ⟨(some 47), .bin .neq (.t 46) (.k (.lf (.int .i64 0))), (some (44, true))⟩, ⟨(some 48), .pk (.t 44) (.t 47) (.k (.lf (.bool false))), (some (41, false))⟩, ⟨(some 49), .pk (.t 41) (.k (.lf (.bool true))) (.t 48), none⟩] [1, 49]) c72_4
abbrev c72_6 : AC := .seq (.ops 0 [⟨(some 54), .fa (.t 1) 2, none⟩, ⟨(some 55), .ld (.t 54) 1 false, none⟩, ⟨(some 56), .lns (.t 55), none⟩, ⟨(some 57), .bin .geq (.t 56) (.k (.lf (.int .i64 1))), none⟩, ⟨(some 58), .mv (.t 57), none⟩, ⟨(some 59), .fa (.t 1) 2, (some (58, true))⟩, ⟨(some 60), .ld (.t 59) 1 false, (some (58, true))⟩, ⟨(some 61), .lns (.t 60), (some (58, true))⟩, ⟨(some 62), .bin .leq (.t 61) (.k (.lf (.int .i64 255))), (some (58, true))⟩, ⟨(some 63), .pk (.t 58) (.t 62) (.k (.lf (.bool false))), none⟩, ⟨(some 2), .as 0 0 (.t 63), none⟩] [2]) .ret
abbrev c72_7 : AC := .seq (.ops 0 [⟨(some 66), .fa (.t 1) 2, none⟩, ⟨(some 67), .ld (.t 66) 1 false, none⟩, ⟨(some 68), .call 90 [(.t 67)], none⟩, ⟨(some 2), .as 0 0 (.t 68), none⟩] [2]) .ret
abbrev c72_8 : AC := .seq (.ops 0 [⟨(some 71), .fa (.t 1) 2, none⟩, ⟨(some 72), .ld (.t 71) 1 false, none⟩, ⟨(some 73), .bin .eql (.t 72) (.k (.lf (.str ⟨#[]⟩))), none⟩, ⟨(some 74), .mv (.t 73), none⟩, ⟨(some 75), .fa (.t 1) 2, (some (74, false))⟩, ⟨(some 76), .ld (.t 75) 1 false, (some (74, false))⟩, ⟨(some 77), .call 90 [(.t 76)], (some (74, false))⟩, ⟨(some 78), .pk (.t 74) (.k (.lf (.bool true))) (.t 77), none⟩, ⟨(some 2), .as 0 0 (.t 78), none⟩] [2]) .ret
abbrev c72_9 : AC := .seq (.ops 0 [⟨(some 81), .fa (.t 1) 2, none⟩, ⟨(some 82), .ld (.t 81) 1 false, none⟩, ⟨(some 83), .call 91 [(.t 82)], none⟩, ⟨(some 2), .as 0 0 (.t 83), none⟩] [2]) .ret
abbrev c72_10 : AC := .cond (.t 79) c72_9 .skip
abbrev c72_11 : AC := .seq (.ops 0 [⟨(some 80), .bin .eql (.t 51) (.k (.lf (.int .i64 22))), none⟩, ⟨(some 79), .as 0 0 (.t 80), none⟩] [1, 79]) c72_10
abbrev c72_12 : AC := .cond (.t 69) c72_8 c72_11
abbrev c72_13 : AC := .seq (.ops 0 [⟨(some 70), .bin .eql (.t 51) (.k (.lf (.int .i64 19))), none⟩, ⟨(some 69), .as 0 0 (.t 70), none⟩] [1, 51, 69]) c72_12
abbrev c72_14 : AC := .cond (.t 64) c72_7 c72_13
abbrev c72_15 : AC := .seq (.ops 0 [⟨(some 65), .bin .eql (.t 51) (.k (.lf (.int .i64 6))), none⟩, ⟨(some 64), .as 0 0 (.t 65), none⟩] [1, 51, 64]) c72_14
abbrev c72_16 : AC := .cond (.t 52) c72_6 c72_15
abbrev c72_17 : AC := .seq (.ops 0 [⟨(some 53), .bin .eql (.t 51) (.k (.lf (.int .i64 4))), none⟩, ⟨(some 52), .as 0 0 (.t 53), none⟩] [1, 51, 52]) c72_16
abbrev c72_18 : AC := .block 0 c72_17
abbrev c72_19 : AC := .seq (.ops 0 [⟨(some 50), .fa (.t 1) 0, none⟩, ⟨(some 51), .ld (.t 50) 1 false, none⟩] [1, 51]) c72_18
abbrev c72_20 : AC := .seq (.ops 0 [⟨(some 84), .fa (.t 1) 2, none⟩, ⟨(some 85), .ld (.t 84) 1 false, none⟩, ⟨(some 86), .bin .eql (.t 85) (.k (.lf (.str ⟨#[]⟩))), none⟩, ⟨(some 2), .as 0 0 (.t 86), none⟩] [2]) .ret
abbrev c72_21 : AC := .seq c72_19 c72_20
abbrev c72_22 : AC := .seq c72_5 c72_21
abbrev c72_23 : AC := .seq (.ops 0 [⟨(some 15), .fa (.t 1) 0, none⟩, ⟨(some 16), .ld (.t 15) 1 false, none⟩, ⟨(some 17), .bin .eql (.t 16) (.k (.lf (.int .i64 14))), none⟩, ⟨(some 18), .mv (.t 17), none⟩, ⟨(some 19), .fa (.t 1) 0, (some (18, false))⟩, ⟨(some 20), .ld (.t 19) 1 false, (some (18, false))⟩, ⟨(some 21), .bin .eql (.t 20) (.k (.lf (.int .i64 15))), (some (18, false))⟩, ⟨(some 22), .pk (.t 18) (.k (.lf (.bool true))) (.t 21), none⟩, ⟨(some 23), .mv (.t 22), none⟩, ⟨(some 24), .fa (.t 1) 0, (some (23, false))⟩, ⟨(some 25), .ld (.t 24) 1 false, (some (23, false))⟩, ⟨(some 26), .bin .eql (.t 25) (.k (.lf (.int .i64 16))), (some (23, false))⟩, ⟨(some 27), .pk (.t 23) (.k (.lf (.bool true))) (.t 26), none⟩, ⟨(some 28), .mv (.t 27), none⟩, ⟨(some 29), .fa (.t 1) 0, (some (28, false))⟩, ⟨(some 30), .ld (.t 29) 1 false, (some (28, false))⟩, ⟨(some 31), .bin .eql (.t 30) (.k (.lf (.int .i64 23))), (some (28, false))⟩, ⟨(some 32), .pk (.t 28) (.k (.lf (.bool true))) (.t 31), none⟩, ⟨(some 4), .as 0 0 (.t 32), none⟩] [1, 4]) c72_22
abbrev c72_24 : AC := .seq c72_2 c72_23
abbrev c72_25 : AC := .seq (.ops 0 [⟨(some 5), .bd [.int .u64 0, .int .u64 0, .int .u64 0, .int .u64 0] [], none⟩, ⟨(some 3), .al [.int .u64 0, .int .u64 0, .int .u64 0, .int .u64 0], none⟩, ⟨none, .st (.t 3) (.t 5) 4, none⟩] [1, 3]) c72_24
abbrev c72_26 : AC := .seq (.ops 0 [⟨(some 1), .bx (.t 0), none⟩, ⟨(some 2), .as 0 0 (.k (.lf (.bool false))), none⟩] [1]) c72_25
abbrev c72 : AC := c72_26
theorem c72_ok : compileFn Tryd.prog 72 = some (87, AC.strip c72, [.t 2]) := by kernel_rfl
abbrev c73_0 : AC := .seq (.ops 0 [⟨(some 15), .mv (.t 2), none⟩, ⟨(some 16), .bin .sub (.t 15) (.k (.lf (.int .i64 1))), none⟩, ⟨(some 17), .bs 3 1 1 [.int .i64 0] [(0, (.t 16))], none⟩, ⟨(some 6), .as 3 1 (.t 17), none⟩] [6]) .ret
abbrev c73_1 : AC := .seq (.ops 0 [⟨(some 20), .mv (.t 1), none⟩, ⟨(some 21), .mv (.t 2), none⟩, ⟨(some 22), .bin .sub (.t 21) (.k (.lf (.int .i64 1))), none⟩, ⟨(some 23), .ia (.t 20) (.t 22) 1, none⟩, ⟨(some 24), .ld (.t 23) 1 false, none⟩, ⟨(some 25), .bin .sub (.t 24) (.k (.lf (.int .i64 1))), none⟩, ⟨(some 26), .mv (.t 2), none⟩, ⟨(some 27), .bin .sub (.t 26) (.k (.lf (.int .i64 1))), none⟩, ⟨(some 28), .bs 3 1 2 [.int .i64 0] [(0, (.t 25)), (1, (.t 27))], none⟩, ⟨(some 6), .as 3 1 (.t 28), none⟩] [6]) .ret
abbrev c73_2 : AC := .cond (.t 18) c73_1 .skip
abbrev c73_3 : AC := .seq (.ops 0 [⟨(some 19), .bin .eql (.t 12) (.k (.lf (.int .i64 2))), none⟩, ⟨(some 18), .as 0 0 (.t 19), none⟩] [1, 2, 18]) c73_2
abbrev c73_4 : AC := .cond (.t 13) c73_0 c73_3
abbrev c73_5 : AC := .seq (.ops 0 [⟨(some 14), .bin .eql (.t 12) (.k (.lf (.int .i64 1))), none⟩, ⟨(some 13), .as 0 0 (.t 14), none⟩] [1, 2, 12, 13]) c73_4
abbrev c73_6 : AC := .block 0 c73_5
abbrev c73_7 : AC := .seq (.ops 0 [⟨(some 7), .mv (.t 0), none⟩, ⟨(some 8), .mv (.t 2), none⟩, ⟨(some 9), .ia (.t 7) (.t 8) 7, none⟩, ⟨(some 10), .fa (.t 9) 0, none⟩, ⟨(some 11), .ld (.t 10) 1 false, none⟩, ⟨(some 12), .call 71 [(.t 11)], none⟩] [1, 2, 12]) c73_6
abbrev c73_8 : AC := .seq (.ops 0 [⟨(some 6), .as 3 1 (.k (.lf (.lst .nl 1 [] []))), none⟩] [6]) .ret
abbrev c73_9 : AC := .seq c73_7 c73_8
abbrev c73_10 : AC := .seq (.ops 0 [⟨(some 6), .as 3 1 (.k (.lf (.lst .nl 1 [] []))), none⟩] [0, 1, 2]) c73_9
abbrev c73 : AC := c73_10
theorem c73_ok : compileFn Tryd.prog 73 = some (29, AC.strip c73, [.t 6]) := by kernel_rfl
abbrev c74_0 : AC := .cond (.t 12) .skip (.exit 0)
abbrev c74_1 : AC := .seq (.ops 0 [⟨(some 7), .mv (.t 0), none⟩, ⟨(some 8), .bin .gtr (.t 7) (.k (.lf (.int .i64 0))), none⟩, ⟨(some 9), .mv (.t 8), none⟩, ⟨(some 10), .mv (.t 5), (some (9, false))⟩, ⟨(some 11), .bin .eql (.t 10) (.k (.lf (.str ⟨#[]⟩))), (some (9, false))⟩, ⟨(some 12), .pk (.t 9) (.k (.lf (.bool true))) (.t 11), none⟩] [0, 1, 5, 12]) c74_0
abbrev c74_2 : AC := .seq (.ops 0 [⟨(some 16), .mv (.t 0), none⟩, ⟨(some 17), .mv (.t 1), none⟩, ⟨(some 18), .bin .rem (.t 16) (.t 17), none⟩, ⟨(some 6), .as 0 0 (.t 18), none⟩] [0, 1, 5, 6]) (.ops 0 [⟨(some 19), .mv (.t 6), none⟩, ⟨(some 20), .mv (.t 6), none⟩, ⟨(some 21), .bin .add (.t 20) (.k (.lf (.int .i64 1))), none⟩, ⟨(some 22), .sls (.k (.lf (.str ⟨#[48, 49, 50, 51, 52, 53, 54, 55, 56, 57, 97, 98, 99, 100, 101, 102]⟩))) (some (.t 19)) (some (.t 21)), none⟩, ⟨(some 23), .mv (.t 5), none⟩, ⟨(some 24), .bin .add (.t 22) (.t 23), none⟩, ⟨(some 5), .as 0 0 (.t 24), none⟩] [0, 1, 5])
abbrev c74_3 : AC := .block 1 c74_2
abbrev c74_4 : AC := .seq c74_3 (.ops 0 [⟨(some 13), .mv (.t 0), none⟩, ⟨(some 14), .mv (.t 1), none⟩, ⟨(some 15), .bin .quo (.t 13) (.t 14), none⟩, ⟨(some 0), .as 0 0 (.t 15), none⟩] [0, 1, 5])
abbrev c74_5 : AC := .seq c74_1 c74_4
abbrev c74_6 : AC := .loop c74_5 [0, 1, 5]
abbrev c74_7 : AC := .block 0 c74_6
abbrev c74_8 : AC := .seq (.ops 0 [⟨(some 25), .mv (.t 5), none⟩, ⟨(some 4), .as 0 0 (.t 25), none⟩] [4]) .ret
abbrev c74_9 : AC := .seq c74_7 c74_8
abbrev c74_10 : AC := .seq (.ops 0 [⟨(some 5), .as 0 0 (.k (.lf (.str ⟨#[]⟩))), none⟩] [0, 1, 5]) c74_9
abbrev c74_11 : AC := .seq (.ops 0 [⟨(some 4), .as 0 0 (.k (.lf (.str ⟨#[]⟩))), none⟩] [0, 1]) c74_10
abbrev c74 : AC := c74_11
theorem c74_ok : compileFn Tryd.prog 74 = some (26, AC.strip c74, [.t 4]) := by kernel_rfl
abbrev c75_0 : AC := .cond (.t 9) .skip (.exit 0)
abbrev c75_1 : AC := .seq (.ops 0 [⟨(some 6), .mv (.t 4), none⟩, ⟨(some 7), .mv (.t 0), none⟩, ⟨(some 8), .lns (.t 7), none⟩, ⟨(some 9), .bin .lss (.t 6) (.t 8), none⟩] [0, 3, 4, 9]) c75_0
abbrev c75_2 : AC := .cond (.t 47) (.ops 0 [⟨(some 54), .mv (.t 3), none⟩, ⟨(some 55), .mv (.t 5), none⟩, ⟨(some 56), .bs 5 1 1 [.int .u8 0] [(0, (.t 55))], none⟩, ⟨(some 57), .app 5 1 1 (.t 54) (.t 56), none⟩, ⟨(some 3), .as 5 1 (.t 57), none⟩] [0, 3, 4]) (.ops 0 [⟨(some 15), .mv (.t 3), none⟩, ⟨(some 16), .mv (.t 5), none⟩, ⟨(some 17), .cvi .i64 (.t 16), none⟩, ⟨(some 18), .call 92 [(.t 17)], none⟩, ⟨(some 19), .bin .add (.k (.lf (.str ⟨#[92, 120]⟩))) (.t 18), none⟩, ⟨(some 20), .aps 5 (.t 15) (.t 19), none⟩, ⟨(some 3), .as 5 1 (.t 20), none⟩] [0, 3, 4])
abbrev c75_3 : AC := .seq (.ops 0 [⟨(some 48), .mv (.t 5), none⟩, ⟨(some 49), .bin .geq (.t 48) (.k (.lf (.int .u8 32))), none⟩, ⟨(some 50), .mv (.t 49), none⟩, ⟨(some 51), .mv (.t 5), (some (50, true))⟩, ⟨(some 52), .bin .leq (.t 51) (.k (.lf (.int .u8 126))), (some (50, true))⟩, ⟨(some 53), .pk (.t 50) (.t 52) (.k (.lf (.bool false))), none⟩, ⟨(some 47), .as 0 0 (.t 53), none⟩] [0, 3, 4, 5, 47]) c75_2
abbrev c75_4 : AC := .cond (.t 36) (.ops 0 [⟨(some 43), .mv (.t 3), none⟩, ⟨(some 44), .mv (.t 5), none⟩, ⟨(some 45), .bs 5 1 2 [.int .u8 0] [(0, (.k (.lf (.int .u8 92)))), (1, (.t 44))], none⟩, ⟨(some 46), .app 5 1 1 (.t 43) (.t 45), none⟩, ⟨(some 3), .as 5 1 (.t 46), none⟩] [0, 3, 4]) c75_3
abbrev c75_5 : AC := .seq (.ops 0 [⟨(some 37), .mv (.t 5), none⟩, ⟨(some 38), .bin .eql (.t 37) (.k (.lf (.int .u8 92))), none⟩, ⟨(some 39), .mv (.t 38), none⟩, ⟨(some 40), .mv (.t 5), (some (39, false))⟩, ⟨(some 41), .bin .eql (.t 40) (.k (.lf (.int .u8 39))), (some (39, false))⟩, ⟨(some 42), .pk (.t 39) (.k (.lf (.bool true))) (.t 41), none⟩, ⟨(some 36), .as 0 0 (.t 42), none⟩] [0, 3, 4, 5, 36]) c75_4
abbrev c75_6 : AC := .cond (.t 31) (.ops 0 [⟨(some 34), .mv (.t 3), none⟩, ⟨(some 35), .aps 5 (.t 34) (.k (.lf (.str ⟨#[92, 116]⟩))), none⟩, ⟨(some 3), .as 5 1 (.t 35), none⟩] [0, 3, 4]) c75_5
abbrev c75_7 : AC := .seq (.ops 0 [⟨(some 32), .mv (.t 5), none⟩, ⟨(some 33), .bin .eql (.t 32) (.k (.lf (.int .u8 9))), none⟩, ⟨(some 31), .as 0 0 (.t 33), none⟩] [0, 3, 4, 5, 31]) c75_6
abbrev c75_8 : AC := .cond (.t 26) (.ops 0 [⟨(some 29), .mv (.t 3), none⟩, ⟨(some 30), .aps 5 (.t 29) (.k (.lf (.str ⟨#[92, 114]⟩))), none⟩, ⟨(some 3), .as 5 1 (.t 30), none⟩] [0, 3, 4]) c75_7
abbrev c75_9 : AC := .seq (.ops 0 [⟨(some 27), .mv (.t 5), none⟩, ⟨(some 28), .bin .eql (.t 27) (.k (.lf (.int .u8 13))), none⟩, ⟨(some 26), .as 0 0 (.t 28), none⟩] [0, 3, 4, 5, 26]) c75_8
abbrev c75_10 : AC := .cond (.t 21) (.ops 0 [⟨(some 24), .mv (.t 3), none⟩, ⟨(some 25), .aps 5 (.t 24) (.k (.lf (.str ⟨#[92, 110]⟩))), none⟩, ⟨(some 3), .as 5 1 (.t 25), none⟩] [0, 3, 4]) c75_9
abbrev c75_11 : AC := .seq (.ops 0 [⟨(some 22), .mv (.t 5), none⟩, ⟨(some 23), .bin .eql (.t 22) (.k (.lf (.int .u8 10))), none⟩, ⟨(some 21), .as 0 0 (.t 23), none⟩] [0, 3, 4, 5, 21]) c75_10
abbrev c75_12 : AC := .block 2 c75_11
abbrev c75_13 : AC := .seq (.ops 0 [⟨(some 12), .mv (.t 0), none⟩, ⟨(some 13), .mv (.t 4), none⟩, ⟨(some 14), .ixs (.t 12) (.t 13), none⟩, ⟨(some 5), .as 0 0 (.t 14), none⟩] [0, 3, 4, 5]) c75_12
abbrev c75_14 : AC := .block 1 c75_13
abbrev c75_15 : AC := .seq c75_14 (.ops 0 [⟨(some 10), .mv (.t 4), none⟩, ⟨(some 11), .bin .add (.t 10) (.k (.lf (.int .i64 1))), none⟩, ⟨(some 4), .as 0 0 (.t 11), none⟩] [0, 3, 4])
abbrev c75_16 : AC := .seq c75_1 c75_15
abbrev c75_17 : AC := .loop c75_16 [0, 3, 4]
abbrev c75_18 : AC := .block 0 c75_17
abbrev c75_19 : AC := .seq (.ops 0 [⟨(some 4), .as 0 0 (.k (.lf (.int .i64 0))), none⟩] [0, 3, 4]) c75_18
abbrev c75_20 : AC := .seq (.ops 0 [⟨(some 58), .mv (.t 3), none⟩, ⟨(some 59), .cbs (.t 58), none⟩, ⟨(some 60), .bin .add (.k (.lf (.str ⟨#[39]⟩))) (.t 59), none⟩, ⟨(some 61), .bin .add (.t 60) (.k (.lf (.str ⟨#[39]⟩))), none⟩, ⟨(some 2), .as 0 0 (.t 61), none⟩] [2]) .ret
abbrev c75_21 : AC := .seq c75_19 c75_20
abbrev c75_22 : AC := .seq (.ops 0 [⟨(some 3), .as 5 1 (.k (.lf (.lst .nl 1 [] []))), none⟩] [0, 3]) c75_21
abbrev c75_23 : AC := .seq (.ops 0 [⟨(some 2), .as 0 0 (.k (.lf (.str ⟨#[]⟩))), none⟩] [0]) c75_22
abbrev c75 : AC := c75_23
theorem c75_ok : compileFn Tryd.prog 75 = some (62, AC.strip c75, [.t 2]) := by kernel_rfl
abbrev c77_0 : AC := .seq (.ops 0 [⟨(some 11), .mv (.t 0), none⟩, ⟨(some 12), .mv (.t 0), none⟩, ⟨(some 13), .mv (.t 0), none⟩, ⟨(some 14), .mv (.t 1), none⟩, ⟨(some 15), .mv (.t 2), none⟩, ⟨(some 16), .callg 55 0 [(.t 13), (.t 14), (.t 15)], none⟩, ⟨(some 17), .mv (.t 3), none⟩, ⟨(some 18), .bin .sub (.t 17) (.k (.lf (.int .i64 1))), none⟩, ⟨(some 19), .callg 38 0 [(.t 12), (.t 16), (.t 18), (.k (.lf (.int .i64 0)))], none⟩, ⟨(some 20), .mv (.t 4), none⟩, ⟨(some 21), .callg 55 0 [(.t 11), (.t 19), (.t 20)], none⟩, ⟨(some 10), .as 5 1 (.t 21), none⟩] [10]) .ret
abbrev c77_1 : AC := .seq (.ops 0 [⟨(some 10), .as 5 1 (.k (.lf (.lst .nl 1 [] []))), none⟩] [0, 1, 2, 3, 4]) c77_0
abbrev c77 : AC := c77_1
theorem c77_ok : compileFn Tryd.prog 77 = some (22, AC.strip c77, [.t 10]) := by kernel_rfl
abbrev c90_0 : AC := .seq (.ops 0 [⟨(some 2), .as 0 0 (.k (.lf (.bool false))), none⟩] [2]) .ret
abbrev c90_1 : AC := .cond (.t 22) c90_0 .skip
abbrev c90_2 : AC := .seq (.ops 0 [⟨(some 5), .mv (.t 0), none⟩, ⟨(some 6), .lns (.t 5), none⟩, ⟨(some 7), .bin .lss (.t 6) (.k (.lf (.int .i64 1))), none⟩, ⟨(some 8), .mv (.t 7), none⟩, ⟨(some 9), .mv (.t 0), (some (8, false))⟩, ⟨(some 10), .lns (.t 9), (some (8, false))⟩, ⟨(some 11), .bin .gtr (.t 10) (.k (.lf (.int .i64 32))), (some (8, false))⟩, ⟨(some 12), .pk (.t 8) (.k (.lf (.bool true))) (.t 11), none⟩, ⟨(some 13), .mv (.t 12), none⟩, ⟨(some 14), .mv (.t 0), (some (13, false))⟩, ⟨(some 15), .ixs (.t 14) (.k (.lf (.int .i64 0))), (some (13, false))⟩, ⟨(some 16), .bin .geq (.t 15) (.k (.lf (.int .u8 48))), (some (13, false))⟩, ⟨(some 17), .mv (.t 16), (some (13, false))⟩, ⟨(some 18), .mv (.t 0), (some (17, true))⟩, ⟨(some 19), .ixs (.t 18) (.k (.lf (.int .i64 0))), (some (17, true))⟩, ⟨(some 20), .bin .leq (.t 19) (.k (.lf (.int .u8 57))), (some (17, true))⟩, ⟨(some 21), .pk (.t 17) (.t 20) (.k (.lf (.bool false))), (some (13, false))⟩, ⟨(some 22), .pk (.t 13) (.k (.lf (.bool true))) (.t 21), none⟩] [0, 22]) c90_1
abbrev c90_3 : AC := .cond (.t 26) .skip (.exit 0)
abbrev c90_4 : AC := .seq (.ops 0 [⟨(some 23), .mv (.t 3), none⟩, ⟨(some 24), .mv (.t 0), none⟩, ⟨(some 25), .lns (.t 24), none⟩, ⟨(some 26), .bin .lss (.t 23) (.t 25), none⟩] [0, 3, 26]) c90_3
abbrev c90_5 : AC := .seq (.ops 0 [⟨(some 2), .as 0 0 (.k (.lf (.bool false))), none⟩] [2]) .ret
abbrev c90_6 : AC := .cond (.t 58) c90_5 .skip
abbrev c90_7 : AC := .seq (.ops 0 [⟨(some 32), .mv (.t 4), none⟩, ⟨(some 33), .bin .geq (.t 32) (.k (.lf (.int .u8 97))), none⟩, ⟨(some 34), .mv (.t 33), none⟩, ⟨(some 35), .mv (.t 4), (some (34, true))⟩, ⟨(some 36), .bin .leq (.t 35) (.k (.lf (.int .u8 122))), (some (34, true))⟩, ⟨(some 37), .pk (.t 34) (.t 36) (.k (.lf (.bool false))), none⟩, ⟨(some 38), .mv (.t 37), none⟩, ⟨(some 39), .mv (.t 4), (some (38, false))⟩, ⟨(some 40), .bin .geq (.t 39) (.k (.lf (.int .u8 65))), (some (38, false))⟩, ⟨(some 41), .mv (.t 40), (some (38, false))⟩, ⟨(some 42), .mv (.t 4), (some (41, true))⟩, ⟨(some 43), .bin .leq (.t 42) (.k (.lf (.int .u8 90))), (some (41, true))⟩, ⟨(some 44), .pk (.t 41) (.t 43) (.k (.lf (.bool false))), (some (38, false))⟩, ⟨(some 45), .pk (.t 38) (.k (.lf (.bool true))) (.t 44), none⟩, ⟨(some 46), .mv (.t 45), none⟩, ⟨(some 47), .mv (.t 4), (some (46, false))⟩, ⟨(some 48), .bin .geq (.t 47) (.k (.lf (.int .u8 48))), (some (46, false))⟩, ⟨(some 49), .mv (.t 48), (some (46, false))⟩, ⟨(some 50), .mv (.t 4), (some (49, true))⟩, ⟨(some 51), .bin .leq (.t 50) (.k (.lf (.int .u8 57))), (some (49, true))⟩, ⟨(some 52), .pk (.t 49) (.t 51) (.k (.lf (.bool false))), (some (46, false))⟩, ⟨(some 53), .pk (.t 46) (.k (.lf (.bool true))) (.t 52), none⟩, ⟨(some 54), .mv (.t 53), none⟩, ⟨(some 55), .mv (.t 4), (some (54, false))⟩, ⟨(some 56), .bin .eql (.t 55) (.k (.lf (.int .u8 95))), (some (54, false))⟩, ⟨(some 57), .pk (.t 54) (.k (.lf (.bool true))) (.t 56), none⟩, ⟨(some 58), .un .not (.t 57), none⟩] [0, 3, 58]) c90_6
abbrev c90_8 : AC := .seq (.ops 0 [⟨(some 29), .mv (.t 0), none⟩, ⟨(some 30), .mv (.t 3), none⟩, ⟨(some 31), .ixs (.t 29) (.t 30), none⟩, ⟨(some 4), .as 0 0 (.t 31), none⟩] [0, 3, 4]) c90_7
abbrev c90_9 : AC := .block 1 c90_8
abbrev c90_10 : AC := .seq c90_9 (.ops 0 [⟨(some 27), .mv (.t 3), none⟩, ⟨(some 28), .bin .add (.t 27) (.k (.lf (.int .i64 1))), none⟩, ⟨(some 3), .as 0 0 (.t 28), none⟩] [0, 3])
abbrev c90_11 : AC := .seq c90_4 c90_10
abbrev c90_12 : AC := .loop c90_11 [0, 3]
abbrev c90_13 : AC := .block 0 c90_12
abbrev c90_14 : AC := .seq (.ops 0 [⟨(some 3), .as 0 0 (.k (.lf (.int .i64 0))), none⟩] [0, 3]) c90_13
abbrev c90_15 : AC := .seq (.ops 0 [⟨(some 2), .as 0 0 (.k (.lf (.bool true))), none⟩] [2]) .ret
abbrev c90_16 : AC := .seq c90_14 c90_15
abbrev c90_17 : AC := .seq c90_2 c90_16
abbrev c90_18 : AC := .seq (.ops 0 [⟨(some 2), .as 0 0 (.k (.lf (.bool false))), none⟩] [0]) c90_17
abbrev c90 : AC := c90_18
theorem c90_ok : compileFn Tryd.prog 90 = some (59, AC.strip c90, [.t 2]) := by kernel_rfl
abbrev c91_0 : AC := .seq (.ops 0 [⟨(some 2), .as 0 0 (.k (.lf (.bool false))), none⟩] [2]) .ret
abbrev c91_1 : AC := .cond (.t 6) c91_0 .skip
abbrev c91_2 : AC := .seq (.ops 0 [⟨(some 4), .mv (.t 0), none⟩, ⟨(some 5), .lns (.t 4), none⟩, ⟨(some 6), .bin .gtr (.t 5) (.k (.lf (.int .i64 255))), none⟩] [0, 6]) c91_1
abbrev c91_3 : AC := .cond (.t 10) .skip (.exit 0)
abbrev c91_4 : AC := .seq (.ops 0 [⟨(some 7), .mv (.t 3), none⟩, ⟨(some 8), .mv (.t 0), none⟩, ⟨(some 9), .lns (.t 8), none⟩, ⟨(some 10), .bin .lss (.t 7) (.t 9), none⟩] [0, 3, 10]) c91_3
abbrev c91_5 : AC := .cond (.t 16) (.exit 1) .skip
abbrev c91_6 : AC := .seq (.ops 0 [⟨(some 13), .mv (.t 0), none⟩, ⟨(some 14), .mv (.t 3), none⟩, ⟨(some 15), .ixs (.t 13) (.t 14), none⟩, ⟨(some 16), .bin .neq (.t 15) (.k (.lf (.int .u8 37))), none⟩] [0, 3, 16]) c91_5
abbrev c91_7 : AC := .seq (.ops 0 [⟨(some 2), .as 0 0 (.k (.lf (.bool false))), none⟩] [2]) .ret
abbrev c91_8 : AC := .cond (.t 40) c91_7 .skip
abbrev c91_9 : AC := .seq (.ops 0 [⟨(some 19), .mv (.t 3), none⟩, ⟨(some 20), .mv (.t 0), none⟩, ⟨(some 21), .lns (.t 20), none⟩, ⟨(some 22), .bin .eql (.t 19) (.t 21), none⟩, ⟨(some 23), .mv (.t 22), none⟩, ⟨(some 24), .mv (.t 0), (some (23, false))⟩, ⟨(some 25), .mv (.t 3), (some (23, false))⟩, ⟨(some 26), .ixs (.t 24) (.t 25), (some (23, false))⟩, ⟨(some 27), .bin .neq (.t 26) (.k (.lf (.int .u8 37))), (some (23, false))⟩, ⟨(some 28), .mv (.t 27), (some (23, false))⟩, ⟨(some 29), .mv (.t 0), (some (28, true))⟩, ⟨(some 30), .mv (.t 3), (some (28, true))⟩, ⟨(some 31), .ixs (.t 29) (.t 30), (some (28, true))⟩, ⟨(some 32), .bin .lss (.t 31) (.k (.lf (.int .u8 48))), (some (28, true))⟩, ⟨(some 33), .mv (.t 32), (some (28, true))⟩, ⟨(some 34), .mv (.t 0), (some (33, false))⟩, ⟨(some 35), .mv (.t 3), (some (33, false))⟩, ⟨(some 36), .ixs (.t 34) (.t 35), (some (33, false))⟩, ⟨(some 37), .bin .gtr (.t 36) (.k (.lf (.int .u8 57))), (some (33, false))⟩, ⟨(some 38), .pk (.t 33) (.k (.lf (.bool true))) (.t 37), (some (28, true))⟩, ⟨(some 39), .pk (.t 28) (.t 38) (.k (.lf (.bool false))), (some (23, false))⟩, ⟨(some 40), .pk (.t 23) (.k (.lf (.bool true))) (.t 39), none⟩] [0, 3, 40]) c91_8
abbrev c91_10 : AC := .seq (.ops 0 [⟨(some 17), .mv (.t 3), none⟩, ⟨(some 18), .bin .add (.t 17) (.k (.lf (.int .i64 1))), none⟩, ⟨(some 3), .as 0 0 (.t 18), none⟩] [0, 3]) c91_9
abbrev c91_11 : AC := .seq c91_6 c91_10
abbrev c91_12 : AC := .block 1 c91_11
abbrev c91_13 : AC := .seq c91_12 (.ops 0 [⟨(some 11), .mv (.t 3), none⟩, ⟨(some 12), .bin .add (.t 11) (.k (.lf (.int .i64 1))), none⟩, ⟨(some 3), .as 0 0 (.t 12), none⟩] [0, 3])
abbrev c91_14 : AC := .seq c91_4 c91_13
abbrev c91_15 : AC := .loop c91_14 [0, 3]
abbrev c91_16 : AC := .block 0 c91_15
abbrev c91_17 : AC := .seq (.ops 0 [⟨(some 3), .as 0 0 (.k (.lf (.int .i64 0))), none⟩] [0, 3]) c91_16
abbrev c91_18 : AC := .seq (.ops 0 [⟨(some 2), .as 0 0 (.k (.lf (.bool true))), none⟩] [2]) .ret
abbrev c91_19 : AC := .seq c91_17 c91_18
abbrev c91_20 : AC := .seq c91_2 c91_19
abbrev c91_21 : AC := .seq (.ops 0 [⟨(some 2), .as 0 0 (.k (.lf (.bool false))), none⟩] [0]) c91_20
abbrev c91 : AC := c91_21
theorem c91_ok : compileFn Tryd.prog 91 = some (41, AC.strip c91, [.t 2]) := by kernel_rfl
end Go.Proofs.YtdoefdmaecaacaaDoor.S
set_option maxRecDepth 100000
namespace Go.Proofs.YtdoefdmaecaacaaDoor.S
open Go Go.Proofs.YtdoefdmaecaacaaDoor.AM
abbrev c3_0 : AC := .seq (.ops 0 [⟨(some 20), .mv (.t 4), none⟩, ⟨(some 21), .mv (.t 6), none⟩, ⟨(some 22), .bin .eql (.t 20) (.t 21), none⟩, ⟨(some 23), .mv (.t 22), none⟩, ⟨(some 24), .mv (.t 5), (some (23, true))⟩, ⟨(some 25), .mv (.t 7), (some (23, true))⟩, ⟨(some 26), .bin .eql (.t 24) (.t 25), (some (23, true))⟩, ⟨(some 27), .pk (.t 23) (.t 26) (.k (.lf (.bool false))), none⟩, ⟨(some 28), .mv (.t 27), none⟩, ⟨(some 29), .ld (.t 3) 1 true, (some (28, true))⟩, ⟨(some 30), .ld (.t 1) 1 true, (some (28, true))⟩, ⟨(some 31), .call 8 [(.t 29), (.t 30)], (some (28, true))⟩, ⟨(some 32), .pk (.t 28) (.t 31) (.k (.lf (.bool false))), none⟩, ⟨(some 33), .mv (.t 32), none⟩, ⟨(some 34), .call 9 [], (some (33, true))⟩, ⟨(some 35), .pk (.t 33) (.t 34) (.k (.lf (.bool false))), none⟩, ⟨(some 2), .as 0 0 (.t 35), none⟩] [2]) .ret
abbrev c3_1 : AC := .seq (.ops 0 [⟨(some 16), .ld (.t 1) 1 true, none⟩, ⟨(some 17), .call 7 [(.t 16)], none⟩, ⟨(some 15), .mv (.t 17), none⟩, ⟨(some 18), .ext (.t 15) 0, none⟩, ⟨(some 19), .ext (.t 15) 1, none⟩, ⟨(some 6), .as 0 0 (.t 18), none⟩, ⟨(some 7), .as 0 0 (.t 19), none⟩] [1, 3, 4, 5, 6, 7]) c3_0
abbrev c3_2 : AC := .seq (.ops 0 [⟨(some 11), .ld (.t 3) 1 true, none⟩, ⟨(some 12), .call 6 [(.t 11)], none⟩, ⟨(some 10), .mv (.t 12), none⟩, ⟨(some 13), .ext (.t 10) 0, none⟩, ⟨(some 14), .ext (.t 10) 1, none⟩, ⟨(some 4), .as 0 0 (.t 13), none⟩, ⟨(some 5), .as 0 0 (.t 14), none⟩] [1, 3, 4, 5]) c3_1
abbrev c3_3 : AC := .seq (.ops 0 [⟨(some 8), .ld (.t 1) 1 true, none⟩, ⟨(some 9), .call 5 [(.t 8)], none⟩, ⟨(some 3), .al [.lst (.own 385 37) 2 [] []], none⟩, ⟨none, .st (.t 3) (.t 9) 1, none⟩] [1, 3]) c3_2
abbrev c3_4 : AC := .seq (.ops 0 [⟨(some 1), .bx (.t 0), none⟩, ⟨(some 2), .as 0 0 (.k (.lf (.bool false))), none⟩] [1]) c3_3
abbrev c3 : AC := c3_4
theorem c3_ok : compileFn Tryd.prog 3 = some (36, AC.strip c3, [.t 2]) := by kernel_rfl
abbrev c5_0 : AC := .cond (.t 9) .skip (.exit 0)
abbrev c5_1 : AC := .seq (.ops 0 [⟨(some 5), .mv (.t 4), none⟩, ⟨(some 6), .fa (.t 1) 0, none⟩, ⟨(some 7), .ld (.t 6) 1 false, none⟩, ⟨(some 8), .len (.t 7), none⟩, ⟨(some 9), .bin .lss (.t 5) (.t 8), none⟩] [1, 2, 3, 4, 9]) c5_0
abbrev c5_2 : AC := .block 1 (.gdt (.one ⟨(some 12), .mv (.t 3), none⟩ (.one ⟨(some 13), .fa (.t 1) 0, none⟩ (.one ⟨(some 15), .mv (.t 4), none⟩ (.one ⟨(some 19), .fa (.t 1) 0, none⟩ (.one ⟨(some 21), .mv (.t 4), none⟩ (.alt (.one ⟨(some 14), .ld (.t 13) 1 false, none⟩ (.one ⟨(some 16), .ia (.t 14) (.t 15) 2, none⟩ (.one ⟨(some 17), .fa (.t 16) 0, none⟩ (.alt (.one ⟨(some 18), .ld (.t 17) 1 false, none⟩ (.one ⟨(some 20), .ld (.t 19) 1 false, none⟩ (.one ⟨(some 22), .ia (.t 20) (.t 21) 2, none⟩ (.one ⟨(some 23), .fa (.t 22) 1, none⟩ (.one ⟨(some 24), .ld (.t 23) 1 false, none⟩ (.one ⟨(some 25), .call 12 [(.t 24)], none⟩ (.one ⟨(some 26), .bd [.str ⟨#[]⟩, .lst .nl 7 [] []] [(0, 1, (.t 18)), (1, 1, (.t 25))], none⟩ (.one ⟨(some 27), .bs 37 2 1 [.str ⟨#[]⟩, .lst .ro 7 [] []] [(0, (.t 26))], none⟩ (.one ⟨(some 28), .app 37 2 40 (.t 12) (.t 27), none⟩ (.one ⟨(some 3), .as 37 2 (.t 28), none⟩ .nil)))))))))) (.one ⟨(some 20), .ld (.t 19) 1 false, none⟩ (.one ⟨(some 22), .ia (.t 20) (.t 21) 2, none⟩ (.one ⟨(some 23), .fa (.t 22) 1, none⟩ (.alt (.one ⟨(some 18), .ld (.t 17) 1 false, none⟩ (.one ⟨(some 24), .ld (.t 23) 1 false, none⟩ (.one ⟨(some 25), .call 12 [(.t 24)], none⟩ (.one ⟨(some 26), .bd [.str ⟨#[]⟩, .lst .nl 7 [] []] [(0, 1, (.t 18)), (1, 1, (.t 25))], none⟩ (.one ⟨(some 27), .bs 37 2 1 [.str ⟨#[]⟩, .lst .ro 7 [] []] [(0, (.t 26))], none⟩ (.one ⟨(some 28), .app 37 2 40 (.t 12) (.t 27), none⟩ (.one ⟨(some 3), .as 37 2 (.t 28), none⟩ .nil))))))) (.one ⟨(some 24), .ld (.t 23) 1 false, none⟩ (.alt (.one ⟨(some 18), .ld (.t 17) 1 false, none⟩ (.one ⟨(some 25), .call 12 [(.t 24)], none⟩ (.one ⟨(some 26), .bd [.str ⟨#[]⟩, .lst .nl 7 [] []] [(0, 1, (.t 18)), (1, 1, (.t 25))], none⟩ (.one ⟨(some 27), .bs 37 2 1 [.str ⟨#[]⟩, .lst .ro 7 [] []] [(0, (.t 26))], none⟩ (.one ⟨(some 28), .app 37 2 40 (.t 12) (.t 27), none⟩ (.one ⟨(some 3), .as 37 2 (.t 28), none⟩ .nil)))))) (.one ⟨(some 25), .call 12 [(.t 24)], none⟩ (.one ⟨(some 18), .ld (.t 17) 1 false, none⟩ (.one ⟨(some 26), .bd [.str ⟨#[]⟩, .lst .nl 7 [] []] [(0, 1, (.t 18)), (1, 1, (.t 25))], none⟩ (.one ⟨(some 27), .bs 37 2 1 [.str ⟨#[]⟩, .lst .ro 7 [] []] [(0, (.t 26))], none⟩ (.one ⟨(some 28), .app 37 2 40 (.t 12) (.t 27), none⟩ (.one ⟨(some 3), .as 37 2 (.t 28), none⟩ .nil)))))))))))))))) (.one ⟨(some 20), .ld (.t 19) 1 false, none⟩ (.one ⟨(some 22), .ia (.t 20) (.t 21) 2, none⟩ (.one ⟨(some 23), .fa (.t 22) 1, none⟩ (.alt (.one ⟨(some 14), .ld (.t 13) 1 false, none⟩ (.one ⟨(some 16), .ia (.t 14) (.t 15) 2, none⟩ (.one ⟨(some 17), .fa (.t 16) 0, none⟩ (.alt (.one ⟨(some 18), .ld (.t 17) 1 false, none⟩ (.one ⟨(some 24), .ld (.t 23) 1 false, none⟩ (.one ⟨(some 25), .call 12 [(.t 24)], none⟩ (.one ⟨(some 26), .bd [.str ⟨#[]⟩, .lst .nl 7 [] []] [(0, 1, (.t 18)), (1, 1, (.t 25))], none⟩ (.one ⟨(some 27), .bs 37 2 1 [.str ⟨#[]⟩, .lst .ro 7 [] []] [(0, (.t 26))], none⟩ (.one ⟨(some 28), .app 37 2 40 (.t 12) (.t 27), none⟩ (.one ⟨(some 3), .as 37 2 (.t 28), none⟩ .nil))))))) (.one ⟨(some 24), .ld (.t 23) 1 false, none⟩ (.alt (.one ⟨(some 18), .ld (.t 17) 1 false, none⟩ (.one ⟨(some 25), .call 12 [(.t 24)], none⟩ (.one ⟨(some 26), .bd [.str ⟨#[]⟩, .lst .nl 7 [] []] [(0, 1, (.t 18)), (1, 1, (.t 25))], none⟩ (.one ⟨(some 27), .bs 37 2 1 [.str ⟨#[]⟩, .lst .ro 7 [] []] [(0, (.t 26))], none⟩ (.one ⟨(some 28), .app 37 2 40 (.t 12) (.t 27), none⟩ (.one ⟨(some 3), .as 37 2 (.t 28), none⟩ .nil)))))) (.one ⟨(some 25), .call 12 [(.t 24)], none⟩ (.one ⟨(some 18), .ld (.t 17) 1 false, none⟩ (.one ⟨(some 26), .bd [.str ⟨#[]⟩, .lst .nl 7 [] []] [(0, 1, (.t 18)), (1, 1, (.t 25))], none⟩ (.one ⟨(some 27), .bs 37 2 1 [.str ⟨#[]⟩, .lst .ro 7 [] []] [(0, (.t 26))], none⟩ (.one ⟨(some 28), .app 37 2 40 (.t 12) (.t 27), none⟩ (.one ⟨(some 3), .as 37 2 (.t 28), none⟩ .nil)))))))))))) (.one ⟨(some 24), .ld (.t 23) 1 false, none⟩ (.alt (.one ⟨(some 14), .ld (.t 13) 1 false, none⟩ (.one ⟨(some 16), .ia (.t 14) (.t 15) 2, none⟩ (.one ⟨(some 17), .fa (.t 16) 0, none⟩ (.alt (.one ⟨(some 18), .ld (.t 17) 1 false, none⟩ (.one ⟨(some 25), .call 12 [(.t 24)], none⟩ (.one ⟨(some 26), .bd [.str ⟨#[]⟩, .lst .nl 7 [] []] [(0, 1, (.t 18)), (1, 1, (.t 25))], none⟩ (.one ⟨(some 27), .bs 37 2 1 [.str ⟨#[]⟩, .lst .ro 7 [] []] [(0, (.t 26))], none⟩ (.one ⟨(some 28), .app 37 2 40 (.t 12) (.t 27), none⟩ (.one ⟨(some 3), .as 37 2 (.t 28), none⟩ .nil)))))) (.one ⟨(some 25), .call 12 [(.t 24)], none⟩ (.one ⟨(some 18), .ld (.t 17) 1 false, none⟩ (.one ⟨(some 26), .bd [.str ⟨#[]⟩, .lst .nl 7 [] []] [(0, 1, (.t 18)), (1, 1, (.t 25))], none⟩ (.one ⟨(some 27), .bs 37 2 1 [.str ⟨#[]⟩, .lst .ro 7 [] []] [(0, (.t 26))], none⟩ (.one ⟨(some 28), .app 37 2 40 (.t 12) (.t 27), none⟩ (.one ⟨(some 3), .as 37 2 (.t 28), none⟩ .nil)))))))))) (.one ⟨(some 25), .call 12 [(.t 24)], none⟩ (.one ⟨(some 14), .ld (.t 13) 1 false, none⟩ (.one ⟨(some 16), .ia (.t 14) (.t 15) 2, none⟩ (.one ⟨(some 17), .fa (.t 16) 0, none⟩ (.one ⟨(some 18), .ld (.t 17) 1 false, none⟩ (.one ⟨(some 26), .bd [.str ⟨#[]⟩, .lst .nl 7 [] []] [(0, 1, (.t 18)), (1, 1, (.t 25))], none⟩ (.one ⟨(some 27), .bs 37 2 1 [.str ⟨#[]⟩, .lst .ro 7 [] []] [(0, (.t 26))], none⟩ (.one ⟨(some 28), .app 37 2 40 (.t 12) (.t 27), none⟩ (.one ⟨(some 3), .as 37 2 (.t 28), none⟩ .nil))))))))))))))))))))) [1, 2, 3, 4])
abbrev c5_3 : AC := .seq c5_2 (.ops 0 [⟨(some 10), .mv (.t 4), none⟩, ⟨(some 11), .bin .add (.t 10) (.k (.lf (.int .i64 1))), none⟩, ⟨(some 4), .as 0 0 (.t 11), none⟩] [1, 2, 3, 4])
abbrev c5_4 : AC := .seq c5_1 c5_3
abbrev c5_5 : AC := .loop c5_4 [1, 2, 3, 4]
abbrev c5_6 : AC := .block 0 c5_5
abbrev c5_7 : AC := .seq (.ops 0 [⟨(some 4), .as 0 0 (.k (.lf (.int .i64 0))), none⟩] [1, 2, 3, 4]) c5_6
abbrev c5_8 : AC := .seq (.ops 0 [⟨(some 29), .mv (.t 3), none⟩, ⟨(some 30), .bd [.str ⟨#[]⟩, .lst .nl 7 [] []] [(0, 1, (.k (.lf (.str ⟨#[115, 112, 97, 114, 101, 32, 114, 111, 111, 109]⟩))))], none⟩, ⟨(some 31), .bs 37 2 1 [.str ⟨#[]⟩, .lst .ro 7 [] []] [(0, (.t 30))], none⟩, ⟨(some 32), .app 37 2 40 (.t 29) (.t 31), none⟩, ⟨(some 33), .mv (.t 3), none⟩, ⟨(some 34), .len (.t 33), none⟩, ⟨(some 35), .sll 2 (.t 32) none (some (.t 34)), none⟩, ⟨(some 36), .bd [.lst .nl 2 [] []] [(0, 1, (.t 35))], none⟩, ⟨none, .st (.t 2) (.t 36) 1, none⟩] [2]) .ret
abbrev c5_9 : AC := .seq c5_7 c5_8
abbrev c5_10 : AC := .seq (.ops 0 [⟨(some 3), .as 37 2 (.k (.lf (.lst .nl 2 [] []))), none⟩] [1, 2, 3]) c5_9
abbrev c5_11 : AC := .seq (.ops 0 [⟨(some 1), .bx (.t 0), none⟩, ⟨(some 2), .al [.lst (.own 257 37) 2 [] []], none⟩] [1, 2]) c5_10
abbrev c5 : AC := c5_11
theorem c5_ok : compileFn Tryd.prog 5 = some (37, AC.strip c5, [.c 2 1 true]) := by kernel_rfl
abbrev c6_0 : AC := .seq (.ops 0 [⟨(some 12), .mv (.t 4), none⟩, ⟨(some 2), .as 0 0 (.k (.lf (.str ⟨#[]⟩))), none⟩, ⟨(some 3), .as 0 0 (.t 12), none⟩] [2, 3]) .ret
abbrev c6_1 : AC := .cond (.t 11) c6_0 .skip
abbrev c6_2 : AC := .seq (.ops 0 [⟨(some 10), .mv (.t 4), none⟩, ⟨(some 11), .bin .neq (.t 10) (.k (.lf (.int .i64 0))), none⟩] [1, 4, 11]) c6_1
abbrev c6_3 : AC := .seq (.ops 0 [⟨(some 8), .ld (.t 1) 1 true, none⟩, ⟨(some 9), .call 13 [(.t 8)], none⟩, ⟨(some 4), .as 0 0 (.t 9), none⟩] [1, 4]) c6_2
abbrev c6_4 : AC := .cond (.t 19) .skip (.exit 0)
abbrev c6_5 : AC := .cond (.t 24) (.ops 0 [⟨(some 25), .mv (.t 5), none⟩, ⟨(some 26), .fa (.t 7) 0, none⟩, ⟨(some 27), .ld (.t 26) 1 false, none⟩, ⟨(some 28), .bin .add (.t 27) (.k (.lf (.str ⟨#[32, 60, 45, 32]⟩))), none⟩, ⟨(some 29), .callp 14 0 [(.t 25), (.t 28)], none⟩] [5, 7, 16, 17, 18]) .skip
abbrev c6_6 : AC := .seq (.ops 0 [⟨(some 22), .fa (.t 7) 0, none⟩, ⟨(some 23), .ld (.t 22) 1 false, none⟩, ⟨(some 24), .bin .neq (.t 23) (.k (.lf (.str ⟨#[]⟩))), none⟩] [5, 7, 16, 17, 18, 24]) c6_5
abbrev c6_7 : AC := .seq (.ops 0 [⟨(some 30), .mv (.t 5), none⟩, ⟨(some 31), .fa (.t 7) 1, none⟩, ⟨(some 32), .ld (.t 31) 1 false, none⟩, ⟨(some 33), .call 16 [(.t 32)], none⟩, ⟨(some 34), .callp 15 0 [(.t 30), (.t 33)], none⟩] [5, 16, 17, 18]) (.ops 0 [⟨(some 35), .mv (.t 5), none⟩, ⟨(some 36), .callp 14 0 [(.t 35), (.k (.lf (.str ⟨#[10]⟩)))], none⟩] [5, 16, 17, 18])
abbrev c6_8 : AC := .seq c6_6 c6_7
abbrev c6_9 : AC := .seq (.ops 0 [⟨(some 20), .ia (.t 16) (.t 18) 2, none⟩, ⟨(some 21), .ld (.t 20) 2 true, none⟩, ⟨(some 7), .al [.str ⟨#[]⟩, .lst (.own 899 58) 7 [] []], none⟩, ⟨none, .st (.t 7) (.t 21) 2, none⟩] [5, 7, 16, 17, 18]) c6_8
abbrev c6_10 : AC := .block 1 c6_9
abbrev c6_11 : AC := .seq c6_10 (.ops 0 [⟨(some 37), .bin .add (.t 18) (.k (.lf (.int .i64 1))), none⟩, ⟨(some 18), .mv (.t 37), none⟩] [5, 16, 17, 18])
abbrev c6_12 : AC := .seq c6_4 c6_11
abbrev c6_13 : AC := .seq (.ops 0 [⟨(some 19), .bin .lss (.t 18) (.t 17), none⟩] [5, 16, 17, 18, 19]) c6_12
abbrev c6_14 : AC := .loop c6_13 [5, 16, 17, 18]
abbrev c6_15 : AC := .block 0 c6_14
abbrev c6_16 : AC := .seq (.ops 0 [⟨(some 15), .fa (.t 1) 0, none⟩, ⟨(some 16), .ld (.t 15) 1 false, none⟩, ⟨(some 17), .len (.t 16), none⟩, ⟨(some 18), .mv (.k (.lf (.int .i64 0))), none⟩] [5, 16, 17, 18]) c6_15
abbrev c6_17 : AC := .seq (.ops 0 [⟨(some 38), .mv (.t 5), none⟩, ⟨(some 39), .callp 17 0 [(.t 38)], none⟩, ⟨(some 40), .ext (.t 39) 0, none⟩, ⟨(some 41), .ext (.t 39) 1, none⟩, ⟨(some 2), .as 0 0 (.t 40), none⟩, ⟨(some 3), .as 0 0 (.t 41), none⟩] [2, 3]) .ret
abbrev c6_18 : AC := .seq c6_16 c6_17
abbrev c6_19 : AC := .seq (.ops 0 [⟨(some 13), .bd [.nilp, .lst .nl 1 [] [], .bool false] [], none⟩, ⟨(some 14), .bxt 46 (.t 13), none⟩, ⟨(some 5), .as 0 0 (.t 14), none⟩] [1, 5]) c6_18
abbrev c6_20 : AC := .seq c6_3 c6_19
abbrev c6_21 : AC := .seq (.ops 0 [⟨(some 1), .bx (.t 0), none⟩, ⟨(some 2), .as 0 0 (.k (.lf (.str ⟨#[]⟩))), none⟩, ⟨(some 3), .as 0 0 (.k (.lf (.int .i64 0))), none⟩] [1]) c6_20
abbrev c6 : AC := c6_21
theorem c6_ok : compileFn Tryd.prog 6 = some (42, AC.strip c6, [.t 2, .t 3]) := by kernel_rfl
abbrev c8_0 : AC := .seq (.ops 0 [⟨(some 4), .as 0 0 (.k (.lf (.bool false))), none⟩] [4]) .ret
abbrev c8_1 : AC := .cond (.t 26) c8_0 .skip
abbrev c8_2 : AC := .seq (.ops 0 [⟨(some 10), .fa (.t 2) 0, none⟩, ⟨(some 11), .ld (.t 10) 1 false, none⟩, ⟨(some 12), .len (.t 11), none⟩, ⟨(some 13), .mv (.t 5), none⟩, ⟨(some 14), .bin .neq (.t 12) (.t 13), none⟩, ⟨(some 15), .mv (.t 14), none⟩, ⟨(some 16), .fa (.t 2) 0, (some (15, false))⟩, ⟨(some 17), .ld (.t 16) 1 false, (some (15, false))⟩, ⟨(some 18), .mv (.t 5), (some (15, false))⟩, ⟨(some 19), .bin .add (.t 18) (.k (.lf (.int .i64 1))), (some (15, false))⟩, ⟨(some 20), .sll 2 (.t 17) none (some (.t 19)), (some (15, false))⟩, ⟨(some 21), .mv (.t 5), (some (15, false))⟩, ⟨(some 22), .ia (.t 20) (.t 21) 2, (some (15, false))⟩, ⟨(some 23), .fa (.t 22) 0, (some (15, false))⟩, ⟨(some 24), .ld (.t 23) 1 false, (some (15, false))⟩, ⟨(some 25), .bin .neq (.t 24) (.k (.lf (.str ⟨#[115, 112, 97, 114, 101, 32, 114, 111, 111, 109]⟩))), (some (15, false))⟩, ⟨(some 26), .pk (.t 15) (.k (.lf (.bool true))) (.t 25), none⟩] [2, 3, 5, 26]) c8_1
abbrev c8_3 : AC := .cond (.t 29) .skip (.exit 0)
abbrev c8_4 : AC := .seq (.ops 0 [⟨(some 27), .mv (.t 6), none⟩, ⟨(some 28), .mv (.t 5), none⟩, ⟨(some 29), .bin .lss (.t 27) (.t 28), none⟩] [2, 3, 5, 6, 29]) c8_3
abbrev c8_5 : AC := .seq (.ops 0 [⟨(some 4), .as 0 0 (.k (.lf (.bool false))), none⟩] [4]) .ret
abbrev c8_6 : AC := .cond (.t 60) c8_5 .skip
abbrev c8_7 : AC := .seq (.reg [⟨(some 32), .fa (.t 2) 0, none⟩, ⟨(some 33), .ld (.t 32) 1 false, none⟩, ⟨(some 34), .mv (.t 6), none⟩, ⟨(some 35), .ia (.t 33) (.t 34) 2, none⟩, ⟨(some 36), .fa (.t 35) 0, none⟩, ⟨(some 37), .ld (.t 36) 1 false, none⟩, ⟨(some 38), .fa (.t 3) 0, none⟩, ⟨(some 39), .ld (.t 38) 1 false, none⟩, ⟨(some 40), .mv (.t 6), none⟩, ⟨(some 41), .ia (.t 39) (.t 40) 2, none⟩, ⟨(some 42), .fa (.t 41) 0, none⟩, ⟨(some 43), .ld (.t 42) 1 false, none⟩, ⟨(some 44), .bin .neq (.t 37) (.t 43), none⟩, ⟨(some 45), .mv (.t 44), none⟩, ⟨(some 46), .fa (.t 2) 0, (some (45, false))⟩, ⟨(some 47), .ld (.t 46) 1 false, (some (45, false))⟩, ⟨(some 48), .mv (.t 6), (some (45, false))⟩, ⟨(some 49), .ia (.t 47) (.t 48) 2, (some (45, false))⟩, ⟨(some 50), .fa (.t 49) 1, (some (45, false))⟩, ⟨(some 51), .ld (.t 50) 1 false, (some (45, false))⟩, ⟨(some 52), .fa (.t 3) 0, (some (45, false))⟩, ⟨(some 53), .ld (.t 52) 1 false, (some (45, false))⟩, ⟨(some 54), .mv (.t 6), (some (45, false))⟩, ⟨(some 55), .ia (.t 53) (.t 54) 2, (some (45, false))⟩, ⟨(some 56), .fa (.t 55) 1, (some (45, false))⟩, ⟨(some 57), .ld (.t 56) 1 false, (some (45, false))⟩] [⟨(some 58), .call 20 [(.t 51), (.t 57)], (some (45, false))⟩, ⟨(some 59), .un .not (.t 58), (some (45, false))⟩, ⟨(some 60), .pk (.t 45) (.k (.lf (.bool true))) (.t 59), none⟩] [2, 3, 5, 6, 60]) c8_6
abbrev c8_8 : AC := .block 1 c8_7
abbrev c8_9 : AC := .seq c8_8 (.ops 0 [⟨(some 30), .mv (.t 6), none⟩, ⟨(some 31), .bin .add (.t 30) (.k (.lf (.int .i64 1))), none⟩, ⟨(some 6), .as 0 0 (.t 31), none⟩] [2, 3, 5, 6])
abbrev c8_10 : AC := .seq c8_4 c8_9
abbrev c8_11 : AC := .loop c8_10 [2, 3, 5, 6]
abbrev c8_12 : AC := .block 0 c8_11
abbrev c8_13 : AC := .seq (.ops 0 [⟨(some 6), .as 0 0 (.k (.lf (.int .i64 0))), none⟩] [2, 3, 5, 6]) c8_12
abbrev c8_14 : AC := .seq (.ops 0 [⟨(some 4), .as 0 0 (.k (.lf (.bool true))), none⟩] [4]) .ret
abbrev c8_15 : AC := .seq c8_13 c8_14
abbrev c8_16 : AC := .seq c8_2 c8_15
abbrev c8_17 : AC := .seq (.ops 0 [⟨(some 7), .fa (.t 3) 0, none⟩, ⟨(some 8), .ld (.t 7) 1 false, none⟩, ⟨(some 9), .len (.t 8), none⟩, ⟨(some 5), .as 0 0 (.t 9), none⟩] [2, 3, 5]) c8_16
abbrev c8_18 : AC := .seq (.ops 0 [⟨(some 2), .bx (.t 0), none⟩, ⟨(some 3), .bx (.t 1), none⟩, ⟨(some 4), .as 0 0 (.k (.lf (.bool false))), none⟩] [2, 3]) c8_17
abbrev c8 : AC := c8_18
theorem c8_ok : compileFn Tryd.prog 8 = some (61, AC.strip c8, [.t 4]) := by kernel_rfl
abbrev c9_0 : AC := .seq (.ops 0 [⟨(some 41), .mv (.t 3), none⟩, ⟨(some 42), .bin .eql (.t 41) (.k (.lf (.str ⟨#[40, 39, 97, 39, 32, 39, 98, 39, 41, 42]⟩))), none⟩, ⟨(some 43), .mv (.t 42), none⟩, ⟨(some 44), .mv (.t 4), (some (43, true))⟩, ⟨(some 45), .bin .eql (.t 44) (.k (.lf (.int .i64 0))), (some (43, true))⟩, ⟨(some 46), .pk (.t 43) (.t 45) (.k (.lf (.bool false))), none⟩, ⟨(some 47), .mv (.t 46), none⟩, ⟨(some 48), .mv (.t 5), (some (47, true))⟩, ⟨(some 49), .bin .eql (.t 48) (.k (.lf (.str ⟨#[33, 39, 97, 39, 42]⟩))), (some (47, true))⟩, ⟨(some 50), .pk (.t 47) (.t 49) (.k (.lf (.bool false))), none⟩, ⟨(some 51), .mv (.t 50), none⟩, ⟨(some 52), .mv (.t 6), (some (51, true))⟩, ⟨(some 53), .bin .eql (.t 52) (.k (.lf (.int .i64 0))), (some (51, true))⟩, ⟨(some 54), .pk (.t 51) (.t 53) (.k (.lf (.bool false))), none⟩, ⟨(some 55), .mv (.t 54), none⟩, ⟨(some 56), .mv (.t 7), (some (55, true))⟩, ⟨(some 57), .bin .eql (.t 56) (.k (.lf (.str ⟨#[115, 32, 60, 45, 32, 39, 97, 39, 32, 115, 32, 47, 32, 37, 101, 10]⟩))), (some (55, true))⟩, ⟨(some 58), .pk (.t 55) (.t 57) (.k (.lf (.bool false))), none⟩, ⟨(some 59), .mv (.t 58), none⟩, ⟨(some 60), .mv (.t 8), (some (59, true))⟩, ⟨(some 61), .bin .eql (.t 60) (.k (.lf (.int .i64 0))), (some (59, true))⟩, ⟨(some 62), .pk (.t 59) (.t 61) (.k (.lf (.bool false))), none⟩, ⟨(some 0), .as 0 0 (.t 62), none⟩] [0]) .ret
abbrev c9_1 : AC := .seq (.ops 0 [⟨(some 29), .ld (.t 1) 7 true, none⟩, ⟨(some 30), .bd [.int .i64 0, .int .i64 0, .str ⟨#[]⟩, .int .u64 0, .int .u64 0, .int .u64 0, .int .u64 0] [(0, 1, (.k (.lf (.int .i64 6)))), (2, 1, (.k (.lf (.str ⟨#[115]⟩))))], none⟩, ⟨(some 31), .bd [.int .i64 0, .int .i64 0, .str ⟨#[]⟩, .int .u64 0, .int .u64 0, .int .u64 0, .int .u64 0] [(0, 1, (.k (.lf (.int .i64 7))))], none⟩, ⟨(some 32), .bd [.int .i64 0, .int .i64 0, .str ⟨#[]⟩, .int .u64 0, .int .u64 0, .int .u64 0, .int .u64 0] [(0, 1, (.k (.lf (.int .i64 1))))], none⟩, ⟨(some 33), .bd [.int .i64 0, .int .i64 0, .str ⟨#[]⟩, .int .u64 0, .int .u64 0, .int .u64 0, .int .u64 0] [(0, 1, (.k (.lf (.int .i64 8))))], none⟩, ⟨(some 34), .bs 58 7 5 [.int .i64 0, .int .i64 0, .str ⟨#[]⟩, .int .u64 0, .int .u64 0, .int .u64 0, .int .u64 0] [(0, (.t 29)), (1, (.t 30)), (2, (.t 31)), (3, (.t 32)), (4, (.t 33))], none⟩, ⟨(some 35), .bd [.str ⟨#[]⟩, .lst .nl 7 [] []] [(0, 1, (.k (.lf (.str ⟨#[115]⟩)))), (1, 1, (.t 34))], none⟩, ⟨(some 36), .bs 37 2 1 [.str ⟨#[]⟩, .lst .ro 7 [] []] [(0, (.t 35))], none⟩, ⟨(some 37), .bd [.lst .nl 2 [] []] [(0, 1, (.t 36))], none⟩, ⟨(some 38), .call 6 [(.t 37)], none⟩, ⟨(some 28), .mv (.t 38), none⟩, ⟨(some 39), .ext (.t 28) 0, none⟩, ⟨(some 40), .ext (.t 28) 1, none⟩, ⟨(some 7), .as 0 0 (.t 39), none⟩, ⟨(some 8), .as 0 0 (.t 40), none⟩] [3, 4, 5, 6, 7, 8]) c9_0
abbrev c9_2 : AC := .seq (.ops 0 [⟨(some 21), .ld (.t 1) 7 true, none⟩, ⟨(some 22), .bd [.int .i64 0, .int .i64 0, .str ⟨#[]⟩, .int .u64 0, .int .u64 0, .int .u64 0, .int .u64 0] [(0, 1, (.k (.lf (.int .i64 9))))], none⟩, ⟨(some 23), .bd [.int .i64 0, .int .i64 0, .str ⟨#[]⟩, .int .u64 0, .int .u64 0, .int .u64 0, .int .u64 0] [(0, 1, (.k (.lf (.int .i64 13))))], none⟩, ⟨(some 24), .bs 58 7 3 [.int .i64 0, .int .i64 0, .str ⟨#[]⟩, .int .u64 0, .int .u64 0, .int .u64 0, .int .u64 0] [(0, (.t 21)), (1, (.t 22)), (2, (.t 23))], none⟩, ⟨(some 25), .call 21 [(.t 24)], none⟩, ⟨(some 20), .mv (.t 25), none⟩, ⟨(some 26), .ext (.t 20) 0, none⟩, ⟨(some 27), .ext (.t 20) 1, none⟩, ⟨(some 5), .as 0 0 (.t 26), none⟩, ⟨(some 6), .as 0 0 (.t 27), none⟩] [1, 3, 4, 5, 6]) c9_1
abbrev c9_3 : AC := .seq (.ops 0 [⟨(some 12), .ld (.t 1) 7 true, none⟩, ⟨(some 13), .ld (.t 2) 7 true, none⟩, ⟨(some 14), .bd [.int .i64 0, .int .i64 0, .str ⟨#[]⟩, .int .u64 0, .int .u64 0, .int .u64 0, .int .u64 0] [(0, 1, (.k (.lf (.int .i64 7))))], none⟩, ⟨(some 15), .bd [.int .i64 0, .int .i64 0, .str ⟨#[]⟩, .int .u64 0, .int .u64 0, .int .u64 0, .int .u64 0] [(0, 1, (.k (.lf (.int .i64 9))))], none⟩, ⟨(some 16), .bs 58 7 4 [.int .i64 0, .int .i64 0, .str ⟨#[]⟩, .int .u64 0, .int .u64 0, .int .u64 0, .int .u64 0] [(0, (.t 12)), (1, (.t 13)), (2, (.t 14)), (3, (.t 15))], none⟩, ⟨(some 17), .call 21 [(.t 16)], none⟩, ⟨(some 11), .mv (.t 17), none⟩, ⟨(some 18), .ext (.t 11) 0, none⟩, ⟨(some 19), .ext (.t 11) 1, none⟩, ⟨(some 3), .as 0 0 (.t 18), none⟩, ⟨(some 4), .as 0 0 (.t 19), none⟩] [1, 3, 4]) c9_2
abbrev c9_4 : AC := .seq (.ops 0 [⟨(some 9), .bd [.int .i64 0, .int .i64 0, .str ⟨#[]⟩, .int .u64 0, .int .u64 0, .int .u64 0, .int .u64 0] [(0, 1, (.k (.lf (.int .i64 4)))), (2, 1, (.k (.lf (.str ⟨#[97]⟩))))], none⟩, ⟨(some 10), .bd [.int .i64 0, .int .i64 0, .str ⟨#[]⟩, .int .u64 0, .int .u64 0, .int .u64 0, .int .u64 0] [(0, 1, (.k (.lf (.int .i64 4)))), (2, 1, (.k (.lf (.str ⟨#[98]⟩))))], none⟩, ⟨(some 1), .al [.int .i64 0, .int .i64 0, .str ⟨#[]⟩, .int .u64 0, .int .u64 0, .int .u64 0, .int .u64 0], none⟩, ⟨(some 2), .al [.int .i64 0, .int .i64 0, .str ⟨#[]⟩, .int .u64 0, .int .u64 0, .int .u64 0, .int .u64 0], none⟩, ⟨none, .st (.t 1) (.t 9) 7, none⟩, ⟨none, .st (.t 2) (.t 10) 7, none⟩] [1, 2]) c9_3
abbrev c9_5 : AC := .seq (.ops 0 [⟨(some 0), .as 0 0 (.k (.lf (.bool false))), none⟩] []) c9_4
abbrev c9 : AC := c9_5
theorem c9_ok : compileFn Tryd.prog 9 = some (63, AC.strip c9, [.t 0]) := by kernel_rfl
abbrev c12_0 : AC := .seq (.ops 0 [⟨(some 3), .bs 58 7 0 [.int .i64 0, .int .i64 0, .str ⟨#[]⟩, .int .u64 0, .int .u64 0, .int .u64 0, .int .u64 0] [], none⟩, ⟨(some 4), .mv (.t 0), none⟩, ⟨(some 5), .app 58 7 64 (.t 3) (.t 4), none⟩, ⟨(some 6), .bd [.int .i64 0, .int .i64 0, .str ⟨#[]⟩, .int .u64 0, .int .u64 0, .int .u64 0, .int .u64 0] [(0, 1, (.k (.lf (.int .i64 (-77)))))], none⟩, ⟨(some 7), .bs 58 7 1 [.int .i64 0, .int .i64 0, .str ⟨#[]⟩, .int .u64 0, .int .u64 0, .int .u64 0, .int .u64 0] [(0, (.t 6))], none⟩, ⟨(some 8), .app 58 7 64 (.t 5) (.t 7), none⟩, ⟨(some 9), .mv (.t 0), none⟩, ⟨(some 10), .len (.t 9), none⟩, ⟨(some 11), .sll 7 (.t 8) none (some (.t 10)), none⟩, ⟨(some 2), .as 58 7 (.t 11), none⟩] [2]) .ret
abbrev c12_1 : AC := .seq (.ops 0 [⟨(some 2), .as 58 7 (.k (.lf (.lst .nl 7 [] []))), none⟩] [0]) c12_0
abbrev c12 : AC := c12_1
theorem c12_ok : compileFn Tryd.prog 12 = some (12, AC.strip c12, [.t 2]) := by kernel_rfl
abbrev c20_0 : AC := .seq (.ops 0 [⟨(some 5), .mv (.t 0), none⟩, ⟨(some 6), .mv (.t 1), none⟩, ⟨(some 7), .call 39 [(.t 5), (.t 6)], none⟩, ⟨(some 8), .mv (.t 7), none⟩, ⟨(some 9), .mv (.t 0), (some (8, true))⟩, ⟨(some 10), .mv (.t 1), (some (8, true))⟩, ⟨(some 11), .len (.t 10), (some (8, true))⟩, ⟨(some 12), .bin .add (.t 11) (.k (.lf (.int .i64 1))), (some (8, true))⟩, ⟨(some 13), .sll 7 (.t 9) none (some (.t 12)), (some (8, true))⟩, ⟨(some 14), .mv (.t 1), (some (8, true))⟩, ⟨(some 15), .len (.t 14), (some (8, true))⟩, ⟨(some 16), .ia (.t 13) (.t 15) 7, (some (8, true))⟩, ⟨(some 17), .ld (.t 16) 7 true, (some (8, true))⟩, ⟨(some 18), .bd [.int .i64 0, .int .i64 0, .str ⟨#[]⟩, .int .u64 0, .int .u64 0, .int .u64 0, .int .u64 0] [(0, 1, (.k (.lf (.int .i64 (-77)))))], (some (8, true))⟩, ⟨(some 19), .beq false [2, 2, 3, 2, 2, 2, 2] (.t 17) (.t 18), (some (8, true))⟩, ⟨(some 20), .pk (.t 8) (.t 19) (.k (.lf (.bool false))), none⟩, ⟨(some 4), .as 0 0 (.t 20), none⟩] [4]) .ret
abbrev c20_1 : AC := .seq (.ops 0 [⟨(some 4), .as 0 0 (.k (.lf (.bool false))), none⟩] [0, 1]) c20_0
abbrev c20 : AC := c20_1
theorem c20_ok : compileFn Tryd.prog 20 = some (21, AC.strip c20, [.t 4]) := by kernel_rfl
abbrev c21_0 : AC := .seq (.ops 0 [⟨(some 14), .mv (.t 5), none⟩, ⟨(some 2), .as 0 0 (.k (.lf (.str ⟨#[]⟩))), none⟩, ⟨(some 3), .as 0 0 (.t 14), none⟩] [2, 3]) .ret
abbrev c21_1 : AC := .cond (.t 13) c21_0 .skip
abbrev c21_2 : AC := .seq (.ops 0 [⟨(some 12), .mv (.t 5), none⟩, ⟨(some 13), .bin .neq (.t 12) (.k (.lf (.int .i64 0))), none⟩] [0, 5, 13]) c21_1
abbrev c21_3 : AC := .seq (.ops 0 [⟨(some 8), .mv (.t 0), none⟩, ⟨(some 9), .call 22 [(.t 8)], none⟩, ⟨(some 7), .mv (.t 9), none⟩, ⟨(some 10), .ext (.t 7) 0, none⟩, ⟨(some 11), .ext (.t 7) 1, none⟩, ⟨(some 4), .as 0 0 (.t 10), none⟩, ⟨(some 5), .as 0 0 (.t 11), none⟩] [0, 5]) c21_2
abbrev c21_4 : AC := .seq (.ops 0 [⟨(some 21), .mv (.t 6), none⟩, ⟨(some 22), .callp 17 0 [(.t 21)], none⟩, ⟨(some 23), .ext (.t 22) 0, none⟩, ⟨(some 24), .ext (.t 22) 1, none⟩, ⟨(some 2), .as 0 0 (.t 23), none⟩, ⟨(some 3), .as 0 0 (.t 24), none⟩] [2, 3]) .ret
abbrev c21_5 : AC := .seq (.ops 0 [⟨(some 17), .mv (.t 6), none⟩, ⟨(some 18), .mv (.t 0), none⟩, ⟨(some 19), .call 16 [(.t 18)], none⟩, ⟨(some 20), .callp 15 0 [(.t 17), (.t 19)], none⟩] [6]) c21_4
abbrev c21_6 : AC := .seq (.ops 0 [⟨(some 15), .bd [.nilp, .lst .nl 1 [] [], .bool false] [], none⟩, ⟨(some 16), .bxt 46 (.t 15), none⟩, ⟨(some 6), .as 0 0 (.t 16), none⟩] [0, 6]) c21_5
abbrev c21_7 : AC := .seq c21_3 c21_6
abbrev c21_8 : AC := .seq (.ops 0 [⟨(some 2), .as 0 0 (.k (.lf (.str ⟨#[]⟩))), none⟩, ⟨(some 3), .as 0 0 (.k (.lf (.int .i64 0))), none⟩] [0]) c21_7
abbrev c21 : AC := c21_8
theorem c21_ok : compileFn Tryd.prog 21 = some (25, AC.strip c21, [.t 2, .t 3]) := by kernel_rfl
abbrev c39_0 : AC := .seq (.ops 0 [⟨(some 4), .as 0 0 (.k (.lf (.bool false))), none⟩] [4]) .ret
abbrev c39_1 : AC := .cond (.t 10) c39_0 .skip
abbrev c39_2 : AC := .seq (.ops 0 [⟨(some 6), .mv (.t 0), none⟩, ⟨(some 7), .len (.t 6), none⟩, ⟨(some 8), .mv (.t 1), none⟩, ⟨(some 9), .len (.t 8), none⟩, ⟨(some 10), .bin .neq (.t 7) (.t 9), none⟩] [0, 1, 10]) c39_1
abbrev c39_3 : AC := .cond (.t 14) .skip (.exit 0)
abbrev c39_4 : AC := .seq (.ops 0 [⟨(some 11), .mv (.t 5), none⟩, ⟨(some 12), .mv (.t 0), none⟩, ⟨(some 13), .len (.t 12), none⟩, ⟨(some 14), .bin .lss (.t 11) (.t 13), none⟩] [0, 1, 5, 14]) c39_3
abbrev c39_5 : AC := .seq (.ops 0 [⟨(some 4), .as 0 0 (.k (.lf (.bool false))), none⟩] [4]) .ret
abbrev c39_6 : AC := .cond (.t 25) c39_5 .skip
abbrev c39_7 : AC := .seq (.ops 2 [⟨(some 17), .mv (.t 0), none⟩, ⟨(some 18), .mv (.t 5), none⟩, ⟨(some 19), .ia (.t 17) (.t 18) 7, none⟩, ⟨(some 20), .ld (.t 19) 7 true, none⟩, ⟨(some 21), .mv (.t 1), none⟩, ⟨(some 22), .mv (.t 5), none⟩, ⟨(some 23), .ia (.t 21) (.t 22) 7, none⟩, ⟨(some 24), .ld (.t 23) 7 true, none⟩, ⟨(some 25), .beq true [2, 2, 3, 2, 2, 2, 2] (.t 20) (.t 24), none⟩] [0, 1, 5, 25]) c39_6
abbrev c39_8 : AC := .block 1 c39_7
abbrev c39_9 : AC := .seq c39_8 (.ops 0 [⟨(some 15), .mv (.t 5), none⟩, ⟨(some 16), .bin .add (.t 15) (.k (.lf (.int .i64 1))), none⟩, ⟨(some 5), .as 0 0 (.t 16), none⟩] [0, 1, 5])
abbrev c39_10 : AC := .seq c39_4 c39_9
abbrev c39_11 : AC := .loop c39_10 [0, 1, 5]
abbrev c39_12 : AC := .block 0 c39_11
abbrev c39_13 : AC := .seq (.ops 0 [⟨(some 5), .as 0 0 (.k (.lf (.int .i64 0))), none⟩] [0, 1, 5]) c39_12
abbrev c39_14 : AC := .seq (.ops 0 [⟨(some 4), .as 0 0 (.k (.lf (.bool true))), none⟩] [4]) .ret
abbrev c39_15 : AC := .seq c39_13 c39_14
abbrev c39_16 : AC := .seq c39_2 c39_15
abbrev c39_17 : AC := .seq (.ops 0 [⟨(some 4), .as 0 0 (.k (.lf (.bool false))), none⟩] [0, 1]) c39_16
abbrev c39 : AC := c39_17
theorem c39_ok : compileFn Tryd.prog 39 = some (26, AC.strip c39, [.t 4]) := by kernel_rfl
end Go.Proofs.YtdoefdmaecaacaaDoor.S
set_option maxRecDepth 100000
namespace Go.Proofs.YtdoefdmaecaacaaDoor.S
open Go Go.Proofs.YtdoefdmaecaacaaDoor.AM
abbrev c28_0 : AC := .seq (.ops 0 [⟨(some 10), .mv (.t 3), none⟩, ⟨(some 2), .as 0 0 (.t 10), none⟩] [2]) .ret
abbrev c28_1 : AC := .seq (.ops 0 [⟨(some 6), .mv (.t 0), none⟩, ⟨(some 7), .call 46 [(.t 6)], none⟩, ⟨(some 5), .mv (.t 7), none⟩, ⟨(some 8), .ext (.t 5) 0, none⟩, ⟨(some 9), .ext (.t 5) 1, none⟩, ⟨(some 3), .as 0 0 (.t 8), none⟩, ⟨(some 4), .as 0 0 (.t 9), none⟩] [3]) c28_0
abbrev c28_2 : AC := .seq (.ops 0 [⟨(some 2), .as 0 0 (.k (.lf (.str ⟨#[]⟩))), none⟩] [0]) c28_1
abbrev c28 : AC := c28_2
theorem c28_ok : compileFn Tryd.prog 28 = some (11, AC.strip c28, [.t 2]) := by kernel_rfl
abbrev c29_0 : AC := .seq (.ops 0 [⟨(some 2), .as 0 0 (.k (.lf (.str ⟨#[91, 94, 93]⟩))), none⟩] [2]) .ret
abbrev c29_1 : AC := .cond (.t 7) c29_0 .skip
abbrev c29_2 : AC := .seq (.ops 0 [⟨(some 6), .ld (.t 1) 4 true, none⟩, ⟨(some 7), .call 47 [(.t 6)], none⟩] [1, 7]) c29_1
abbrev c29_3 : AC := .cond (.t 13) .skip (.exit 0)
abbrev c29_4 : AC := .cond (.t 25) (.ops 0 [⟨(some 26), .callp 27 0 [(.t 3), (.k (.lf (.str ⟨#[45]⟩)))], none⟩] [3, 5, 10, 11, 12]) .skip
abbrev c29_5 : AC := .seq (.ops 0 [⟨(some 20), .fa (.t 5) 1, none⟩, ⟨(some 21), .ld (.t 20) 1 false, none⟩, ⟨(some 22), .fa (.t 5) 0, none⟩, ⟨(some 23), .ld (.t 22) 1 false, none⟩, ⟨(some 24), .bin .add (.t 23) (.k (.lf (.int .i64 1))), none⟩, ⟨(some 25), .bin .gtr (.t 21) (.t 24), none⟩] [3, 5, 10, 11, 12, 25]) c29_4
abbrev c29_6 : AC := .cond (.t 31) (.ops 0 [⟨(some 32), .fa (.t 5) 1, none⟩, ⟨(some 33), .ld (.t 32) 1 false, none⟩, ⟨(some 34), .call 49 [(.t 33)], none⟩, ⟨(some 35), .callp 27 0 [(.t 3), (.t 34)], none⟩] [3, 10, 11, 12]) .skip
abbrev c29_7 : AC := .seq (.ops 0 [⟨(some 27), .fa (.t 5) 1, none⟩, ⟨(some 28), .ld (.t 27) 1 false, none⟩, ⟨(some 29), .fa (.t 5) 0, none⟩, ⟨(some 30), .ld (.t 29) 1 false, none⟩, ⟨(some 31), .bin .gtr (.t 28) (.t 30), none⟩] [3, 5, 10, 11, 12, 31]) c29_6
abbrev c29_8 : AC := .seq c29_5 c29_7
abbrev c29_9 : AC := .seq (.ops 0 [⟨(some 16), .fa (.t 5) 0, none⟩, ⟨(some 17), .ld (.t 16) 1 false, none⟩, ⟨(some 18), .call 49 [(.t 17)], none⟩, ⟨(some 19), .callp 27 0 [(.t 3), (.t 18)], none⟩] [3, 5, 10, 11, 12]) c29_8
abbrev c29_10 : AC := .seq (.ops 0 [⟨(some 14), .ia (.t 10) (.t 12) 2, none⟩, ⟨(some 15), .ld (.t 14) 2 true, none⟩, ⟨(some 5), .al [.int .i64 0, .int .i64 0], none⟩, ⟨none, .st (.t 5) (.t 15) 2, none⟩] [3, 5, 10, 11, 12]) c29_9
abbrev c29_11 : AC := .block 1 c29_10
abbrev c29_12 : AC := .seq c29_11 (.ops 0 [⟨(some 36), .bin .add (.t 12) (.k (.lf (.int .i64 1))), none⟩, ⟨(some 12), .mv (.t 36), none⟩] [3, 10, 11, 12])
abbrev c29_13 : AC := .seq c29_3 c29_12
abbrev c29_14 : AC := .seq (.ops 0 [⟨(some 13), .bin .lss (.t 12) (.t 11), none⟩] [3, 10, 11, 12, 13]) c29_13
abbrev c29_15 : AC := .loop c29_14 [3, 10, 11, 12]
abbrev c29_16 : AC := .block 0 c29_15
abbrev c29_17 : AC := .seq (.ops 0 [⟨(some 9), .ld (.t 1) 4 true, none⟩, ⟨(some 10), .call 48 [(.t 9)], none⟩, ⟨(some 11), .len (.t 10), none⟩, ⟨(some 12), .mv (.k (.lf (.int .i64 0))), none⟩] [3, 10, 11, 12]) c29_16
abbrev c29_18 : AC := .seq (.ops 0 [⟨(some 38), .callp 34 0 [(.t 3)], none⟩, ⟨(some 2), .as 0 0 (.t 38), none⟩] [2]) .ret
abbrev c29_19 : AC := .seq (.ops 0 [⟨(some 37), .callp 27 0 [(.t 3), (.k (.lf (.str ⟨#[93]⟩)))], none⟩] [3]) c29_18
abbrev c29_20 : AC := .seq c29_17 c29_19
abbrev c29_21 : AC := .seq (.ops 0 [⟨(some 8), .callp 27 0 [(.t 3), (.k (.lf (.str ⟨#[91]⟩)))], none⟩] [1, 3]) c29_20
abbrev c29_22 : AC := .seq (.ops 0 [⟨(some 3), .alt 44 [.nilp, .lst (.own 387 5) 1 [] []], none⟩] [1, 3]) c29_21
abbrev c29_23 : AC := .seq c29_2 c29_22
abbrev c29_24 : AC := .seq (.ops 0 [⟨(some 1), .bx (.t 0), none⟩, ⟨(some 2), .as 0 0 (.k (.lf (.str ⟨#[]⟩))), none⟩] [1]) c29_23
abbrev c29 : AC := c29_24
theorem c29_ok : compileFn Tryd.prog 29 = some (39, AC.strip c29, [.t 2]) := by kernel_rfl
abbrev c46_0 : AC := .seq (.ops 0 [⟨(some 2), .as 0 0 (.k (.lf (.str ⟨#[]⟩))), none⟩, ⟨(some 3), .as 0 0 (.k (.lf (.int .i64 2))), none⟩] [2, 3]) .ret
abbrev c46_1 : AC := .cond (.t 8) c46_0 .skip
abbrev c46_2 : AC := .seq (.ops 0 [⟨(some 6), .mv (.t 0), none⟩, ⟨(some 7), .lns (.t 6), none⟩, ⟨(some 8), .bin .gtr (.t 7) (.k (.lf (.int .i64 65536))), none⟩] [0, 8]) c46_1
abbrev c46_3 : AC := .cond (.t 13) .skip (.exit 0)
abbrev c46_4 : AC := .seq (.ops 0 [⟨(some 14), .mv (.t 12), none⟩, ⟨(some 5), .as 0 0 (.t 14), none⟩] [0, 4, 5, 11, 12]) (.ops 0 [⟨(some 15), .mv (.t 0), none⟩, ⟨(some 16), .mv (.t 5), none⟩, ⟨(some 17), .ixs (.t 15) (.t 16), none⟩, ⟨(some 18), .callp 65 0 [(.t 4), (.t 17)], none⟩] [0, 4, 11, 12])
abbrev c46_5 : AC := .block 1 c46_4
abbrev c46_6 : AC := .seq c46_5 (.ops 0 [⟨(some 19), .bin .add (.t 12) (.k (.lf (.int .i64 1))), none⟩, ⟨(some 12), .mv (.t 19), none⟩] [0, 4, 11, 12])
abbrev c46_7 : AC := .seq c46_3 c46_6
abbrev c46_8 : AC := .seq (.ops 0 [⟨(some 13), .bin .lss (.t 12) (.t 11), none⟩] [0, 4, 11, 12, 13]) c46_7
abbrev c46_9 : AC := .loop c46_8 [0, 4, 11, 12]
abbrev c46_10 : AC := .block 0 c46_9
abbrev c46_11 : AC := .seq (.ops 0 [⟨(some 10), .mv (.t 0), none⟩, ⟨(some 11), .lns (.t 10), none⟩, ⟨(some 12), .mv (.k (.lf (.int .i64 0))), none⟩] [0, 4, 11, 12]) c46_10
abbrev c46_12 : AC := .seq (.ops 0 [⟨(some 2), .as 0 0 (.k (.lf (.str ⟨#[]⟩))), none⟩, ⟨(some 3), .as 0 0 (.k (.lf (.int .i64 2))), none⟩] [2, 3]) .ret
abbrev c46_13 : AC := .cond (.t 22) c46_12 .skip
abbrev c46_14 : AC := .seq (.ops 0 [⟨(some 21), .callp 26 0 [(.t 4)], none⟩, ⟨(some 22), .bin .gtr (.t 21) (.k (.lf (.int .i64 65536))), none⟩] [4, 22]) c46_13
abbrev c46_15 : AC := .seq (.ops 0 [⟨(some 23), .callp 34 0 [(.t 4)], none⟩, ⟨(some 2), .as 0 0 (.t 23), none⟩, ⟨(some 3), .as 0 0 (.k (.lf (.int .i64 0))), none⟩] [2, 3]) .ret
abbrev c46_16 : AC := .seq c46_14 c46_15
abbrev c46_17 : AC := .seq (.ops 0 [⟨(some 20), .callp 64 0 [(.t 4), (.k (.lf (.int .u8 39)))], none⟩] [4]) c46_16
abbrev c46_18 : AC := .seq c46_11 c46_17
abbrev c46_19 : AC := .seq (.ops 0 [⟨(some 9), .callp 64 0 [(.t 4), (.k (.lf (.int .u8 39)))], none⟩] [0, 4]) c46_18
abbrev c46_20 : AC := .seq (.ops 0 [⟨(some 4), .alt 44 [.nilp, .lst (.own 515 5) 1 [] []], none⟩] [0, 4]) c46_19
abbrev c46_21 : AC := .seq c46_2 c46_20
abbrev c46_22 : AC := .seq (.ops 0 [⟨(some 2), .as 0 0 (.k (.lf (.str ⟨#[]⟩))), none⟩, ⟨(some 3), .as 0 0 (.k (.lf (.int .i64 0))), none⟩] [0]) c46_21
abbrev c46 : AC := c46_22
theorem c46_ok : compileFn Tryd.prog 46 = some (24, AC.strip c46, [.t 2, .t 3]) := by kernel_rfl
abbrev c47_0 : AC := .seq (.ops 0 [⟨(some 3), .ld (.t 1) 4 true, none⟩, ⟨(some 4), .call 66 [(.t 3)], none⟩, ⟨(some 5), .bd [.int .u64 0, .int .u64 0, .int .u64 0, .int .u64 0] [], none⟩, ⟨(some 6), .beq false [2, 2, 2, 2] (.t 4) (.t 5), none⟩, ⟨(some 2), .as 0 0 (.t 6), none⟩] [2]) .ret
abbrev c47_1 : AC := .seq (.ops 0 [⟨(some 1), .bx (.t 0), none⟩, ⟨(some 2), .as 0 0 (.k (.lf (.bool false))), none⟩] [1]) c47_0
abbrev c47 : AC := c47_1
theorem c47_ok : compileFn Tryd.prog 47 = some (7, AC.strip c47, [.t 2]) := by kernel_rfl
abbrev c49_0 : AC := .seq (.ops 0 [⟨(some 2), .as 0 0 (.k (.lf (.str ⟨#[92, 110]⟩))), none⟩] [2]) .ret
abbrev c49_1 : AC := .seq (.ops 0 [⟨(some 2), .as 0 0 (.k (.lf (.str ⟨#[92, 114]⟩))), none⟩] [2]) .ret
abbrev c49_2 : AC := .seq (.ops 0 [⟨(some 2), .as 0 0 (.k (.lf (.str ⟨#[92, 116]⟩))), none⟩] [2]) .ret
abbrev c49_3 : AC := .cond (.t 10) .skip (.ops 0 [⟨(some 16), .bin .eql (.t 3) (.k (.lf (.int .i64 37))), none⟩, ⟨(some 10), .as 0 0 (.t 16), none⟩] [0, 10])
abbrev c49_4 : AC := .seq (.ops 0 [⟨(some 15), .bin .eql (.t 3) (.k (.lf (.int .i64 45))), none⟩, ⟨(some 10), .as 0 0 (.t 15), none⟩] [0, 3, 10]) c49_3
abbrev c49_5 : AC := .cond (.t 10) .skip c49_4
abbrev c49_6 : AC := .seq (.ops 0 [⟨(some 14), .bin .eql (.t 3) (.k (.lf (.int .i64 94))), none⟩, ⟨(some 10), .as 0 0 (.t 14), none⟩] [0, 3, 10]) c49_5
abbrev c49_7 : AC := .cond (.t 10) .skip c49_6
abbrev c49_8 : AC := .seq (.ops 0 [⟨(some 13), .bin .eql (.t 3) (.k (.lf (.int .i64 91))), none⟩, ⟨(some 10), .as 0 0 (.t 13), none⟩] [0, 3, 10]) c49_7
abbrev c49_9 : AC := .cond (.t 10) .skip c49_8
abbrev c49_10 : AC := .seq (.ops 0 [⟨(some 12), .bin .eql (.t 3) (.k (.lf (.int .i64 93))), none⟩, ⟨(some 10), .as 0 0 (.t 12), none⟩] [0, 3, 10]) c49_9
abbrev c49_11 : AC := .cond (.t 10) .skip c49_10
abbrev c49_12 : AC := .seq (.ops 0 [⟨(some 11), .bin .eql (.t 3) (.k (.lf (.int .i64 92))), none⟩, ⟨(some 10), .as 0 0 (.t 11), none⟩] [0, 3, 10]) c49_11
abbrev c49_13 : AC := .seq (.ops 0 [⟨(some 17), .mv (.t 0), none⟩, ⟨(some 18), .cvi .u8 (.t 17), none⟩, ⟨(some 19), .bs 5 1 1 [.int .u8 0] [(0, (.t 18))], none⟩, ⟨(some 20), .cbs (.t 19), none⟩, ⟨(some 21), .bin .add (.k (.lf (.str ⟨#[92]⟩))) (.t 20), none⟩, ⟨(some 2), .as 0 0 (.t 21), none⟩] [2]) .ret
abbrev c49_14 : AC := .cond (.t 10) c49_13 .skip
abbrev c49_15 : AC := .seq c49_12 c49_14
abbrev c49_16 : AC := .cond (.t 8) c49_2 c49_15
abbrev c49_17 : AC := .seq (.ops 0 [⟨(some 9), .bin .eql (.t 3) (.k (.lf (.int .i64 9))), none⟩, ⟨(some 8), .as 0 0 (.t 9), none⟩] [0, 3, 8]) c49_16
abbrev c49_18 : AC := .cond (.t 6) c49_1 c49_17
abbrev c49_19 : AC := .seq (.ops 0 [⟨(some 7), .bin .eql (.t 3) (.k (.lf (.int .i64 13))), none⟩, ⟨(some 6), .as 0 0 (.t 7), none⟩] [0, 3, 6]) c49_18
abbrev c49_20 : AC := .cond (.t 4) c49_0 c49_19
abbrev c49_21 : AC := .seq (.ops 0 [⟨(some 5), .bin .eql (.t 3) (.k (.lf (.int .i64 10))), none⟩, ⟨(some 4), .as 0 0 (.t 5), none⟩] [0, 3, 4]) c49_20
abbrev c49_22 : AC := .block 0 c49_21
abbrev c49_23 : AC := .seq (.ops 0 [⟨(some 3), .mv (.t 0), none⟩] [0, 3]) c49_22
abbrev c49_24 : AC := .seq (.ops 0 [⟨(some 28), .mv (.t 0), none⟩, ⟨(some 29), .cvi .u8 (.t 28), none⟩, ⟨(some 30), .bs 5 1 1 [.int .u8 0] [(0, (.t 29))], none⟩, ⟨(some 31), .cbs (.t 30), none⟩, ⟨(some 2), .as 0 0 (.t 31), none⟩] [2]) .ret
abbrev c49_25 : AC := .cond (.t 27) c49_24 .skip
abbrev c49_26 : AC := .seq (.ops 0 [⟨(some 22), .mv (.t 0), none⟩, ⟨(some 23), .bin .geq (.t 22) (.k (.lf (.int .i64 32))), none⟩, ⟨(some 24), .mv (.t 23), none⟩, ⟨(some 25), .mv (.t 0), (some (24, true))⟩, ⟨(some 26), .bin .leq (.t 25) (.k (.lf (.int .i64 126))), (some (24, true))⟩, ⟨(some 27), .pk (.t 24) (.t 26) (.k (.lf (.bool false))), none⟩] [0, 27]) c49_25
abbrev c49_27 : AC := .seq (.reg [⟨(some 32), .mv (.t 0), none⟩, ⟨(some 33), .bin .quo (.t 32) (.k (.lf (.int .i64 16))), none⟩, ⟨(some 34), .ixs (.k (.lf (.str ⟨#[48, 49, 50, 51, 52, 53, 54, 55, 56, 57, 97, 98, 99, 100, 101, 102]⟩))) (.t 33), none⟩, ⟨(some 35), .mv (.t 0), none⟩, ⟨(some 36), .bin .rem (.t 35) (.k (.lf (.int .i64 16))), none⟩, ⟨(some 37), .ixs (.k (.lf (.str ⟨#[48, 49, 50, 51, 52, 53, 54, 55, 56, 57, 97, 98, 99, 100, 101, 102]⟩))) (.t 36), none⟩] [⟨(some 38), .bs 5 1 2 [.int .u8 0] [(0, (.t 34)), (1, (.t 37))], none⟩, ⟨(some 39), .cbs (.t 38), none⟩, ⟨(some 40), .bin .add (.k (.lf (.str ⟨#[92, 120]⟩))) (.t 39), none⟩, ⟨(some 2), .as 0 0 (.t 40), none⟩] [2]) .ret
abbrev c49_28 : AC := .seq c49_26 c49_27
abbrev c49_29 : AC := .seq c49_23 c49_28
abbrev c49_30 : AC := .seq (.ops 0 [⟨(some 2), .as 0 0 (.k (.lf (.str ⟨#[]⟩))), none⟩] [0]) c49_29
abbrev c49 : AC := c49_30
theorem c49_ok : compileFn Tryd.prog 49 = some (41, AC.strip c49, [.t 2]) := by kernel_rfl
abbrev c65_0 : AC := .seq (.ops 0 [⟨(some 38), .mv (.t 0), none⟩, ⟨(some 39), .callp 64 0 [(.t 38), (.k (.lf (.int .u8 92)))], none⟩] [0, 1]) (.ops 0 [⟨(some 40), .mv (.t 0), none⟩, ⟨(some 41), .mv (.t 1), none⟩, ⟨(some 42), .callp 64 0 [(.t 40), (.t 41)], none⟩] [])
abbrev c65_1 : AC := .seq (.ops 0 [⟨(some 6), .mv (.t 0), none⟩, ⟨(some 7), .mv (.t 1), none⟩, ⟨(some 8), .bin .shr (.t 7) (.k (.lf (.int .u64 4))), none⟩, ⟨(some 9), .ixs (.k (.lf (.str ⟨#[48, 49, 50, 51, 52, 53, 54, 55, 56, 57, 97, 98, 99, 100, 101, 102]⟩))) (.t 8), none⟩, ⟨(some 10), .callp 64 0 [(.t 6), (.t 9)], none⟩] [0, 1]) (.ops 0 [⟨(some 11), .mv (.t 0), none⟩, ⟨(some 12), .mv (.t 1), none⟩, ⟨(some 13), .bin .and (.t 12) (.k (.lf (.int .u8 15))), none⟩, ⟨(some 14), .ixs (.k (.lf (.str ⟨#[48, 49, 50, 51, 52, 53, 54, 55, 56, 57, 97, 98, 99, 100, 101, 102]⟩))) (.t 13), none⟩, ⟨(some 15), .callp 64 0 [(.t 11), (.t 14)], none⟩] [])
abbrev c65_2 : AC := .seq (.ops 0 [⟨(some 4), .mv (.t 0), none⟩, ⟨(some 5), .callp 27 0 [(.t 4), (.k (.lf (.str ⟨#[92, 120]⟩)))], none⟩] [0, 1]) c65_1
abbrev c65_3 : AC := .cond (.t 43) (.ops 0 [⟨(some 50), .mv (.t 0), none⟩, ⟨(some 51), .mv (.t 1), none⟩, ⟨(some 52), .callp 64 0 [(.t 50), (.t 51)], none⟩] []) c65_2
abbrev c65_4 : AC := .seq (.ops 0 [⟨(some 44), .mv (.t 1), none⟩, ⟨(some 45), .bin .geq (.t 44) (.k (.lf (.int .u8 32))), none⟩, ⟨(some 46), .mv (.t 45), none⟩, ⟨(some 47), .mv (.t 1), (some (46, true))⟩, ⟨(some 48), .bin .leq (.t 47) (.k (.lf (.int .u8 126))), (some (46, true))⟩, ⟨(some 49), .pk (.t 46) (.t 48) (.k (.lf (.bool false))), none⟩, ⟨(some 43), .as 0 0 (.t 49), none⟩] [0, 1, 43]) c65_3
abbrev c65_5 : AC := .cond (.t 31) c65_0 c65_4
abbrev c65_6 : AC := .seq (.ops 0 [⟨(some 32), .mv (.t 1), none⟩, ⟨(some 33), .bin .eql (.t 32) (.k (.lf (.int .u8 39))), none⟩, ⟨(some 34), .mv (.t 33), none⟩, ⟨(some 35), .mv (.t 1), (some (34, false))⟩, ⟨(some 36), .bin .eql (.t 35) (.k (.lf (.int .u8 92))), (some (34, false))⟩, ⟨(some 37), .pk (.t 34) (.k (.lf (.bool true))) (.t 36), none⟩, ⟨(some 31), .as 0 0 (.t 37), none⟩] [0, 1, 31]) c65_5
abbrev c65_7 : AC := .cond (.t 26) (.ops 0 [⟨(some 29), .mv (.t 0), none⟩, ⟨(some 30), .callp 27 0 [(.t 29), (.k (.lf (.str ⟨#[92, 116]⟩)))], none⟩] []) c65_6
abbrev c65_8 : AC := .seq (.ops 0 [⟨(some 27), .mv (.t 1), none⟩, ⟨(some 28), .bin .eql (.t 27) (.k (.lf (.int .u8 9))), none⟩, ⟨(some 26), .as 0 0 (.t 28), none⟩] [0, 1, 26]) c65_7
abbrev c65_9 : AC := .cond (.t 21) (.ops 0 [⟨(some 24), .mv (.t 0), none⟩, ⟨(some 25), .callp 27 0 [(.t 24), (.k (.lf (.str ⟨#[92, 114]⟩)))], none⟩] []) c65_8
abbrev c65_10 : AC := .seq (.ops 0 [⟨(some 22), .mv (.t 1), none⟩, ⟨(some 23), .bin .eql (.t 22) (.k (.lf (.int .u8 13))), none⟩, ⟨(some 21), .as 0 0 (.t 23), none⟩] [0, 1, 21]) c65_9
abbrev c65_11 : AC := .cond (.t 16) (.ops 0 [⟨(some 19), .mv (.t 0), none⟩, ⟨(some 20), .callp 27 0 [(.t 19), (.k (.lf (.str ⟨#[92, 110]⟩)))], none⟩] []) c65_10
abbrev c65_12 : AC := .seq (.ops 0 [⟨(some 17), .mv (.t 1), none⟩, ⟨(some 18), .bin .eql (.t 17) (.k (.lf (.int .u8 10))), none⟩, ⟨(some 16), .as 0 0 (.t 18), none⟩] [0, 1, 16]) c65_11
abbrev c65_13 : AC := .block 0 c65_12
abbrev c65 : AC := c65_13
theorem c65_ok : compileFn Tryd.prog 65 = some (53, AC.strip c65, []) := by kernel_rfl
abbrev c66_0 : AC := .cond (.t 5) .skip (.exit 0)
abbrev c66_1 : AC := .seq (.ops 0 [⟨(some 6), .mv (.t 4), none⟩, ⟨(some 3), .as 0 0 (.t 6), none⟩] [1, 2, 3, 4]) (.ops 0 [⟨(some 7), .mv (.t 3), none⟩, ⟨(some 8), .mv (.t 3), none⟩, ⟨(some 9), .iaa (.t 1) (.t 8) 4 1, none⟩, ⟨(some 10), .ld (.t 9) 1 false, none⟩, ⟨(some 11), .un .xor (.t 10), none⟩, ⟨(some 12), .iaa (.t 1) (.t 7) 4 1, none⟩, ⟨none, .st (.t 12) (.t 11) 1, none⟩] [1, 2, 4])
abbrev c66_2 : AC := .block 1 c66_1
abbrev c66_3 : AC := .seq c66_2 (.ops 0 [⟨(some 13), .bin .add (.t 4) (.k (.lf (.int .i64 1))), none⟩, ⟨(some 4), .mv (.t 13), none⟩] [1, 2, 4])
abbrev c66_4 : AC := .seq c66_0 c66_3
abbrev c66_5 : AC := .seq (.ops 0 [⟨(some 5), .bin .lss (.t 4) (.k (.lf (.int .i64 4))), none⟩] [1, 2, 4, 5]) c66_4
abbrev c66_6 : AC := .loop c66_5 [1, 2, 4]
abbrev c66_7 : AC := .block 0 c66_6
abbrev c66_8 : AC := .seq (.ops 0 [⟨(some 4), .mv (.k (.lf (.int .i64 0))), none⟩] [1, 2, 4]) c66_7
abbrev c66_9 : AC := .seq (.ops 0 [⟨(some 14), .ld (.t 1) 4 true, none⟩, ⟨none, .st (.t 2) (.t 14) 4, none⟩] [2]) .ret
abbrev c66_10 : AC := .seq c66_8 c66_9
abbrev c66_11 : AC := .seq (.ops 0 [⟨(some 1), .bx (.t 0), none⟩, ⟨(some 2), .al [.int .u64 0, .int .u64 0, .int .u64 0, .int .u64 0], none⟩] [1, 2]) c66_10
abbrev c66 : AC := c66_11
theorem c66_ok : compileFn Tryd.prog 66 = some (15, AC.strip c66, [.c 2 4 true]) := by kernel_rfl
abbrev c76_0 : AC := .seq (.ops 0 [⟨(some 2), .as 0 0 (.k (.lf (.str ⟨#[91, 94, 93]⟩))), none⟩] [2]) .ret
abbrev c76_1 : AC := .cond (.t 8) c76_0 .skip
abbrev c76_2 : AC := .seq (.ops 0 [⟨(some 6), .ld (.t 1) 4 true, none⟩, ⟨(some 7), .call 93 [(.t 6)], none⟩, ⟨(some 8), .bin .eql (.t 7) (.k (.lf (.int .i64 256))), none⟩] [1, 8]) c76_1
abbrev c76_3 : AC := .cond (.t 14) .skip (.exit 0)
abbrev c76_4 : AC := .seq (.ops 0 [⟨(some 11), .mv (.t 5), none⟩, ⟨(some 12), .mv (.t 3), none⟩, ⟨(some 13), .len (.t 12), none⟩, ⟨(some 14), .bin .lss (.t 11) (.t 13), none⟩] [3, 4, 5, 14]) c76_3
abbrev c76_5 : AC := .cond (.t 36) (.ops 0 [⟨(some 37), .mv (.t 4), none⟩, ⟨(some 38), .bin .add (.t 37) (.k (.lf (.str ⟨#[45]⟩))), none⟩, ⟨(some 4), .as 0 0 (.t 38), none⟩] [3, 4, 5]) .skip
abbrev c76_6 : AC := .seq (.ops 2 [⟨(some 25), .mv (.t 3), none⟩, ⟨(some 26), .mv (.t 5), none⟩, ⟨(some 27), .ia (.t 25) (.t 26) 2, none⟩, ⟨(some 28), .fa (.t 27) 1, none⟩, ⟨(some 29), .ld (.t 28) 1 false, none⟩, ⟨(some 30), .mv (.t 3), none⟩, ⟨(some 31), .mv (.t 5), none⟩, ⟨(some 32), .ia (.t 30) (.t 31) 2, none⟩, ⟨(some 33), .fa (.t 32) 0, none⟩, ⟨(some 34), .ld (.t 33) 1 false, none⟩, ⟨(some 35), .bin .add (.t 34) (.k (.lf (.int .i64 1))), none⟩, ⟨(some 36), .bin .gtr (.t 29) (.t 35), none⟩] [3, 4, 5, 36]) c76_5
abbrev c76_7 : AC := .cond (.t 49) (.ops 0 [⟨(some 50), .mv (.t 4), none⟩, ⟨(some 51), .mv (.t 3), none⟩, ⟨(some 52), .mv (.t 5), none⟩, ⟨(some 53), .ia (.t 51) (.t 52) 2, none⟩, ⟨(some 54), .fa (.t 53) 1, none⟩, ⟨(some 55), .ld (.t 54) 1 false, none⟩, ⟨(some 56), .call 95 [(.t 55)], none⟩, ⟨(some 57), .bin .add (.t 50) (.t 56), none⟩, ⟨(some 4), .as 0 0 (.t 57), none⟩] [3, 4, 5]) .skip
abbrev c76_8 : AC := .seq (.ops 2 [⟨(some 39), .mv (.t 3), none⟩, ⟨(some 40), .mv (.t 5), none⟩, ⟨(some 41), .ia (.t 39) (.t 40) 2, none⟩, ⟨(some 42), .fa (.t 41) 1, none⟩, ⟨(some 43), .ld (.t 42) 1 false, none⟩, ⟨(some 44), .mv (.t 3), none⟩, ⟨(some 45), .mv (.t 5), none⟩, ⟨(some 46), .ia (.t 44) (.t 45) 2, none⟩, ⟨(some 47), .fa (.t 46) 0, none⟩, ⟨(some 48), .ld (.t 47) 1 false, none⟩, ⟨(some 49), .bin .gtr (.t 43) (.t 48), none⟩] [3, 4, 5, 49]) c76_7
abbrev c76_9 : AC := .seq c76_6 c76_8
abbrev c76_10 : AC := .seq (.ops 0 [⟨(some 17), .mv (.t 4), none⟩, ⟨(some 18), .mv (.t 3), none⟩, ⟨(some 19), .mv (.t 5), none⟩, ⟨(some 20), .ia (.t 18) (.t 19) 2, none⟩, ⟨(some 21), .fa (.t 20) 0, none⟩, ⟨(some 22), .ld (.t 21) 1 false, none⟩, ⟨(some 23), .call 95 [(.t 22)], none⟩, ⟨(some 24), .bin .add (.t 17) (.t 23), none⟩, ⟨(some 4), .as 0 0 (.t 24), none⟩] [3, 4, 5]) c76_9
abbrev c76_11 : AC := .block 1 c76_10
abbrev c76_12 : AC := .seq c76_11 (.ops 0 [⟨(some 15), .mv (.t 5), none⟩, ⟨(some 16), .bin .add (.t 15) (.k (.lf (.int .i64 1))), none⟩, ⟨(some 5), .as 0 0 (.t 16), none⟩] [3, 4, 5])
abbrev c76_13 : AC := .seq c76_4 c76_12
abbrev c76_14 : AC := .loop c76_13 [3, 4, 5]
abbrev c76_15 : AC := .block 0 c76_14
abbrev c76_16 : AC := .seq (.ops 0 [⟨(some 5), .as 0 0 (.k (.lf (.int .i64 0))), none⟩] [3, 4, 5]) c76_15
abbrev c76_17 : AC := .seq (.ops 0 [⟨(some 58), .mv (.t 4), none⟩, ⟨(some 59), .bin .add (.t 58) (.k (.lf (.str ⟨#[93]⟩))), none⟩, ⟨(some 2), .as 0 0 (.t 59), none⟩] [2]) .ret
abbrev c76_18 : AC := .seq c76_16 c76_17
abbrev c76_19 : AC := .seq (.ops 0 [⟨(some 4), .as 0 0 (.k (.lf (.str ⟨#[91]⟩))), none⟩] [3, 4]) c76_18
abbrev c76_20 : AC := .seq (.ops 0 [⟨(some 9), .ld (.t 1) 4 true, none⟩, ⟨(some 10), .call 94 [(.t 9)], none⟩, ⟨(some 3), .as 95 2 (.t 10), none⟩] [3]) c76_19
abbrev c76_21 : AC := .seq c76_2 c76_20
abbrev c76_22 : AC := .seq (.ops 0 [⟨(some 1), .bx (.t 0), none⟩, ⟨(some 2), .as 0 0 (.k (.lf (.str ⟨#[]⟩))), none⟩] [1]) c76_21
abbrev c76 : AC := c76_22
theorem c76_ok : compileFn Tryd.prog 76 = some (60, AC.strip c76, [.t 2]) := by kernel_rfl
abbrev c92_0 : AC := .seq (.ops 1 [⟨(some 3), .mv (.t 0), none⟩, ⟨(some 4), .bin .quo (.t 3) (.k (.lf (.int .i64 16))), none⟩, ⟨(some 5), .mv (.t 0), none⟩, ⟨(some 6), .bin .quo (.t 5) (.k (.lf (.int .i64 16))), none⟩, ⟨(some 7), .bin .add (.t 6) (.k (.lf (.int .i64 1))), none⟩, ⟨(some 8), .sls (.k (.lf (.str ⟨#[48, 49, 50, 51, 52, 53, 54, 55, 56, 57, 97, 98, 99, 100, 101, 102]⟩))) (some (.t 4)) (some (.t 7)), none⟩, ⟨(some 9), .mv (.t 0), none⟩, ⟨(some 10), .bin .rem (.t 9) (.k (.lf (.int .i64 16))), none⟩, ⟨(some 11), .mv (.t 0), none⟩, ⟨(some 12), .bin .rem (.t 11) (.k (.lf (.int .i64 16))), none⟩, ⟨(some 13), .bin .add (.t 12) (.k (.lf (.int .i64 1))), none⟩, ⟨(some 14), .sls (.k (.lf (.str ⟨#[48, 49, 50, 51, 52, 53, 54, 55, 56, 57, 97, 98, 99, 100, 101, 102]⟩))) (some (.t 10)) (some (.t 13)), none⟩, ⟨(some 15), .bin .add (.t 8) (.t 14), none⟩, ⟨(some 2), .as 0 0 (.t 15), none⟩] [2]) .ret
abbrev c92_1 : AC := .seq (.ops 0 [⟨(some 2), .as 0 0 (.k (.lf (.str ⟨#[]⟩))), none⟩] [0]) c92_0
abbrev c92 : AC := c92_1
theorem c92_ok : compileFn Tryd.prog 92 = some (16, AC.strip c92, [.t 2]) := by kernel_rfl
abbrev c93_0 : AC := .seq (.ops 0 [⟨(some 3), .ld (.t 1) 4 true, none⟩, ⟨(some 4), .call 103 [(.t 3)], none⟩, ⟨(some 5), .lns (.t 4), none⟩, ⟨(some 2), .as 0 0 (.t 5), none⟩] [2]) .ret
abbrev c93_1 : AC := .seq (.ops 0 [⟨(some 1), .bx (.t 0), none⟩, ⟨(some 2), .as 0 0 (.k (.lf (.int .i64 0))), none⟩] [1]) c93_0
abbrev c93 : AC := c93_1
theorem c93_ok : compileFn Tryd.prog 93 = some (6, AC.strip c93, [.t 2]) := by kernel_rfl
abbrev c94_0 : AC := .cond (.t 6) .skip (.exit 0)
abbrev c94_1 : AC := .seq (.ops 0 [⟨(some 5), .mv (.t 4), none⟩, ⟨(some 6), .bin .leq (.t 5) (.k (.lf (.int .i64 255))), none⟩] [1, 3, 4, 6]) c94_0
abbrev c94_2 : AC := .cond (.t 12) (.exit 1) .skip
abbrev c94_3 : AC := .seq (.ops 0 [⟨(some 9), .ld (.t 1) 4 true, none⟩, ⟨(some 10), .mv (.t 4), none⟩, ⟨(some 11), .call 104 [(.t 9), (.t 10)], none⟩, ⟨(some 12), .un .not (.t 11), none⟩] [1, 3, 4, 12]) c94_2
abbrev c94_4 : AC := .cond (.t 16) (.ops 0 [⟨(some 17), .mv (.t 3), none⟩, ⟨(some 18), .mv (.t 3), none⟩, ⟨(some 19), .len (.t 18), none⟩, ⟨(some 20), .bin .sub (.t 19) (.k (.lf (.int .i64 1))), none⟩, ⟨(some 21), .mv (.t 4), none⟩, ⟨(some 22), .ia (.t 17) (.t 20) 2, none⟩, ⟨(some 23), .fa (.t 22) 1, none⟩, ⟨none, .st (.t 23) (.t 21) 1, none⟩] [1, 3, 4]) (.ops 0 [⟨(some 24), .mv (.t 3), none⟩, ⟨(some 25), .mv (.t 4), none⟩, ⟨(some 26), .mv (.t 4), none⟩, ⟨(some 27), .bd [.int .i64 0, .int .i64 0] [(0, 1, (.t 25)), (1, 1, (.t 26))], none⟩, ⟨(some 28), .bs 95 2 1 [.int .i64 0, .int .i64 0] [(0, (.t 27))], none⟩, ⟨(some 29), .app 95 2 16 (.t 24) (.t 28), none⟩, ⟨(some 3), .as 95 2 (.t 29), none⟩] [1, 3, 4])
abbrev c94_5 : AC := .seq (.ops 0 [⟨(some 13), .ld (.t 1) 4 true, none⟩, ⟨(some 14), .mv (.t 4), none⟩, ⟨(some 15), .bin .sub (.t 14) (.k (.lf (.int .i64 1))), none⟩, ⟨(some 16), .call 104 [(.t 13), (.t 15)], none⟩] [1, 3, 4, 16]) c94_4
abbrev c94_6 : AC := .seq c94_3 c94_5
abbrev c94_7 : AC := .block 1 c94_6
abbrev c94_8 : AC := .seq c94_7 (.ops 0 [⟨(some 7), .mv (.t 4), none⟩, ⟨(some 8), .bin .add (.t 7) (.k (.lf (.int .i64 1))), none⟩, ⟨(some 4), .as 0 0 (.t 8), none⟩] [1, 3, 4])
abbrev c94_9 : AC := .seq c94_1 c94_8
abbrev c94_10 : AC := .loop c94_9 [1, 3, 4]
abbrev c94_11 : AC := .block 0 c94_10
abbrev c94_12 : AC := .seq (.ops 0 [⟨(some 4), .as 0 0 (.k (.lf (.int .i64 0))), none⟩] [1, 3, 4]) c94_11
abbrev c94_13 : AC := .seq (.ops 0 [⟨(some 30), .mv (.t 3), none⟩, ⟨(some 2), .as 95 2 (.t 30), none⟩] [2]) .ret
abbrev c94_14 : AC := .seq c94_12 c94_13
abbrev c94_15 : AC := .seq (.ops 0 [⟨(some 3), .as 95 2 (.k (.lf (.lst .nl 2 [] []))), none⟩] [1, 3]) c94_14
abbrev c94_16 : AC := .seq (.ops 0 [⟨(some 1), .bx (.t 0), none⟩, ⟨(some 2), .as 95 2 (.k (.lf (.lst .nl 2 [] []))), none⟩] [1]) c94_15
abbrev c94 : AC := c94_16
theorem c94_ok : compileFn Tryd.prog 94 = some (31, AC.strip c94, [.t 2]) := by kernel_rfl
abbrev c95_0 : AC := .seq (.ops 0 [⟨(some 2), .as 0 0 (.k (.lf (.str ⟨#[92, 110]⟩))), none⟩] [2]) .ret
abbrev c95_1 : AC := .seq (.ops 0 [⟨(some 2), .as 0 0 (.k (.lf (.str ⟨#[92, 114]⟩))), none⟩] [2]) .ret
abbrev c95_2 : AC := .seq (.ops 0 [⟨(some 2), .as 0 0 (.k (.lf (.str ⟨#[92, 116]⟩))), none⟩] [2]) .ret
abbrev c95_3 : AC := .seq (.ops 0 [⟨(some 15), .mv (.t 0), none⟩, ⟨(some 16), .cvi .u8 (.t 15), none⟩, ⟨(some 17), .bs 5 1 1 [.int .u8 0] [(0, (.t 16))], none⟩, ⟨(some 18), .cbs (.t 17), none⟩, ⟨(some 19), .bin .add (.k (.lf (.str ⟨#[92]⟩))) (.t 18), none⟩, ⟨(some 2), .as 0 0 (.t 19), none⟩] [2]) .ret
abbrev c95_4 : AC := .seq (.ops 0 [⟨(some 27), .mv (.t 0), none⟩, ⟨(some 28), .cvi .u8 (.t 27), none⟩, ⟨(some 29), .bs 5 1 1 [.int .u8 0] [(0, (.t 28))], none⟩, ⟨(some 30), .cbs (.t 29), none⟩, ⟨(some 2), .as 0 0 (.t 30), none⟩] [2]) .ret
abbrev c95_5 : AC := .cond (.t 20) c95_4 .skip
abbrev c95_6 : AC := .seq (.ops 0 [⟨(some 21), .mv (.t 0), none⟩, ⟨(some 22), .bin .geq (.t 21) (.k (.lf (.int .i64 32))), none⟩, ⟨(some 23), .mv (.t 22), none⟩, ⟨(some 24), .mv (.t 0), (some (23, true))⟩, ⟨(some 25), .bin .leq (.t 24) (.k (.lf (.int .i64 126))), (some (23, true))⟩, ⟨(some 26), .pk (.t 23) (.t 25) (.k (.lf (.bool false))), none⟩, ⟨(some 20), .as 0 0 (.t 26), none⟩] [0, 20]) c95_5
abbrev c95_7 : AC := .cond (.t 12) c95_3 c95_6
abbrev c95_8 : AC := .seq (.ops 0 [⟨(some 13), .mv (.t 0), none⟩, ⟨(some 14), .call 105 [(.t 13)], none⟩, ⟨(some 12), .as 0 0 (.t 14), none⟩] [0, 12]) c95_7
abbrev c95_9 : AC := .cond (.t 9) c95_2 c95_8
abbrev c95_10 : AC := .seq (.ops 0 [⟨(some 10), .mv (.t 0), none⟩, ⟨(some 11), .bin .eql (.t 10) (.k (.lf (.int .i64 9))), none⟩, ⟨(some 9), .as 0 0 (.t 11), none⟩] [0, 9]) c95_9
abbrev c95_11 : AC := .cond (.t 6) c95_1 c95_10
abbrev c95_12 : AC := .seq (.ops 0 [⟨(some 7), .mv (.t 0), none⟩, ⟨(some 8), .bin .eql (.t 7) (.k (.lf (.int .i64 13))), none⟩, ⟨(some 6), .as 0 0 (.t 8), none⟩] [0, 6]) c95_11
abbrev c95_13 : AC := .cond (.t 3) c95_0 c95_12
abbrev c95_14 : AC := .seq (.ops 0 [⟨(some 4), .mv (.t 0), none⟩, ⟨(some 5), .bin .eql (.t 4) (.k (.lf (.int .i64 10))), none⟩, ⟨(some 3), .as 0 0 (.t 5), none⟩] [0, 3]) c95_13
abbrev c95_15 : AC := .block 0 c95_14
abbrev c95_16 : AC := .seq (.ops 0 [⟨(some 31), .mv (.t 0), none⟩, ⟨(some 32), .call 92 [(.t 31)], none⟩, ⟨(some 33), .bin .add (.k (.lf (.str ⟨#[92, 120]⟩))) (.t 32), none⟩, ⟨(some 2), .as 0 0 (.t 33), none⟩] [2]) .ret
abbrev c95_17 : AC := .seq c95_15 c95_16
abbrev c95_18 : AC := .seq (.ops 0 [⟨(some 2), .as 0 0 (.k (.lf (.str ⟨#[]⟩))), none⟩] [0]) c95_17
abbrev c95 : AC := c95_18
theorem c95_ok : compileFn Tryd.prog 95 = some (34, AC.strip c95, [.t 2]) := by kernel_rfl
abbrev c103_0 : AC := .cond (.t 6) .skip (.exit 0)
abbrev c103_1 : AC := .seq (.ops 0 [⟨(some 5), .mv (.t 4), none⟩, ⟨(some 6), .bin .leq (.t 5) (.k (.lf (.int .i64 255))), none⟩] [1, 3, 4, 6]) c103_0
abbrev c103_2 : AC := .cond (.t 11) (.ops 0 [⟨(some 12), .mv (.t 3), none⟩, ⟨(some 13), .mv (.t 4), none⟩, ⟨(some 14), .cvi .u8 (.t 13), none⟩, ⟨(some 15), .bs 5 1 1 [.int .u8 0] [(0, (.t 14))], none⟩, ⟨(some 16), .app 5 1 1 (.t 12) (.t 15), none⟩, ⟨(some 3), .as 5 1 (.t 16), none⟩] [1, 3, 4]) .skip
abbrev c103_3 : AC := .seq (.ops 0 [⟨(some 9), .ld (.t 1) 4 true, none⟩, ⟨(some 10), .mv (.t 4), none⟩, ⟨(some 11), .call 104 [(.t 9), (.t 10)], none⟩] [1, 3, 4, 11]) c103_2
abbrev c103_4 : AC := .block 1 c103_3
abbrev c103_5 : AC := .seq c103_4 (.ops 0 [⟨(some 7), .mv (.t 4), none⟩, ⟨(some 8), .bin .add (.t 7) (.k (.lf (.int .i64 1))), none⟩, ⟨(some 4), .as 0 0 (.t 8), none⟩] [1, 3, 4])
abbrev c103_6 : AC := .seq c103_1 c103_5
abbrev c103_7 : AC := .loop c103_6 [1, 3, 4]
abbrev c103_8 : AC := .block 0 c103_7
abbrev c103_9 : AC := .seq (.ops 0 [⟨(some 4), .as 0 0 (.k (.lf (.int .i64 0))), none⟩] [1, 3, 4]) c103_8
abbrev c103_10 : AC := .seq (.ops 0 [⟨(some 17), .mv (.t 3), none⟩, ⟨(some 18), .cbs (.t 17), none⟩, ⟨(some 2), .as 0 0 (.t 18), none⟩] [2]) .ret
abbrev c103_11 : AC := .seq c103_9 c103_10
abbrev c103_12 : AC := .seq (.ops 0 [⟨(some 3), .as 5 1 (.k (.lf (.lst .nl 1 [] []))), none⟩] [1, 3]) c103_11
abbrev c103_13 : AC := .seq (.ops 0 [⟨(some 1), .bx (.t 0), none⟩, ⟨(some 2), .as 0 0 (.k (.lf (.str ⟨#[]⟩))), none⟩] [1]) c103_12
abbrev c103 : AC := c103_13
theorem c103_ok : compileFn Tryd.prog 103 = some (19, AC.strip c103, [.t 2]) := by kernel_rfl
abbrev c104_0 : AC := .seq (.ops 0 [⟨(some 5), .mv (.t 1), none⟩, ⟨(some 6), .bin .geq (.t 5) (.k (.lf (.int .i64 0))), none⟩, ⟨(some 7), .mv (.t 6), none⟩, ⟨(some 8), .mv (.t 1), (some (7, true))⟩, ⟨(some 9), .bin .leq (.t 8) (.k (.lf (.int .i64 255))), (some (7, true))⟩, ⟨(some 10), .pk (.t 7) (.t 9) (.k (.lf (.bool false))), none⟩, ⟨(some 11), .mv (.t 10), none⟩, ⟨(some 12), .mv (.t 1), (some (11, true))⟩, ⟨(some 13), .bin .quo (.t 12) (.k (.lf (.int .i64 64))), (some (11, true))⟩, ⟨(some 14), .iaa (.t 2) (.t 13) 4 1, (some (11, true))⟩, ⟨(some 15), .ld (.t 14) 1 false, (some (11, true))⟩, ⟨(some 16), .mv (.t 1), (some (11, true))⟩, ⟨(some 17), .bin .rem (.t 16) (.k (.lf (.int .i64 64))), (some (11, true))⟩, ⟨(some 18), .bin .shr (.t 15) (.t 17), (some (11, true))⟩, ⟨(some 19), .bin .and (.t 18) (.k (.lf (.int .u64 1))), (some (11, true))⟩, ⟨(some 20), .bin .eql (.t 19) (.k (.lf (.int .u64 1))), (some (11, true))⟩, ⟨(some 21), .pk (.t 11) (.t 20) (.k (.lf (.bool false))), none⟩, ⟨(some 4), .as 0 0 (.t 21), none⟩] [4]) .ret
abbrev c104_1 : AC := .seq (.ops 0 [⟨(some 2), .bx (.t 0), none⟩, ⟨(some 4), .as 0 0 (.k (.lf (.bool false))), none⟩] [1, 2]) c104_0
abbrev c104 : AC := c104_1
theorem c104_ok : compileFn Tryd.prog 104 = some (22, AC.strip c104, [.t 4]) := by kernel_rfl
abbrev c105_0 : AC := .seq (.ops 0 [⟨(some 3), .mv (.t 0), none⟩, ⟨(some 4), .bin .eql (.t 3) (.k (.lf (.int .i64 92))), none⟩, ⟨(some 5), .mv (.t 4), none⟩, ⟨(some 6), .mv (.t 0), (some (5, false))⟩, ⟨(some 7), .bin .eql (.t 6) (.k (.lf (.int .i64 93))), (some (5, false))⟩, ⟨(some 8), .pk (.t 5) (.k (.lf (.bool true))) (.t 7), none⟩, ⟨(some 9), .mv (.t 8), none⟩, ⟨(some 10), .mv (.t 0), (some (9, false))⟩, ⟨(some 11), .bin .eql (.t 10) (.k (.lf (.int .i64 91))), (some (9, false))⟩, ⟨(some 12), .pk (.t 9) (.k (.lf (.bool true))) (.t 11), none⟩, ⟨(some 13), .mv (.t 12), none⟩, ⟨(some 14), .mv (.t 0), (some (13, false))⟩, ⟨(some 15), .bin .eql (.t 14) (.k (.lf (.int .i64 94))), (some (13, false))⟩, ⟨(some 16), .pk (.t 13) (.k (.lf (.bool true))) (.t 15), none⟩, ⟨(some 17), .mv (.t 16), none⟩, ⟨(some 18), .mv (.t 0), (some (17, false))⟩, ⟨(some 19), .bin .eql (.t 18) (.k (.lf (.int .i64 45))), (some (17, false))⟩, ⟨(some 20), .pk (.t 17) (.k (.lf (.bool true))) (.t 19), none⟩, ⟨(some 21), .mv (.t 20), none⟩, ⟨(some 22), .mv (.t 0), (some (21, false))⟩, ⟨(some 23), .bin .eql (.t 22) (.k (.lf (.int .i64 37))), (some (21, false))⟩, ⟨(some 24), .pk (.t 21) (.k (.lf (.bool true))) (.t 23), none⟩, ⟨(some 2), .as 0 0 (.t 24), none⟩] [2]) .ret
abbrev c105_1 : AC := .seq (.ops 0 [⟨(some 2), .as 0 0 (.k (.lf (.bool false))), none⟩] [0]) c105_0
abbrev c105 : AC := c105_1
theorem c105_ok : compileFn Tryd.prog 105 = some (25, AC.strip c105, [.t 2]) := by kernel_rfl
end Go.Proofs.YtdoefdmaecaacaaDoor.S
set_option linter.unusedVariables false
set_option linter.unusedSimpArgs false
namespace Go.Proofs.YtdoefdmaecaacaaDoor.S
open Go Go.Proofs.YtdoefdmaecaacaaDoor.AM
variable {X : Cx}
theorem w8 {x : Int} (h0 : 0 ≤ x) (h1 : x ≤ 255) : IntKind.wrap .u8 x = x := by
  simp only [IntKind.wrap, IntKind.bits, IntKind.signed]; simp; omega
theorem w64 {x : Int} (h0 : -9223372036854775808 ≤ x) (h1 : x ≤ 9223372036854775807) : IntKind.wrap .i64 x = x := by
  simp only [IntKind.wrap, IntKind.bits, IntKind.signed]; simp; omega
theorem ite_pr {p : Prop} [Decidable p] {A B : Prop} (h1 : p → A) (h2 : ¬ p → B) : if p then A else B := by split <;> simp_all
theorem bytesL_ub (s : ByteArray) : bytesL s = ub s.data.toList := rfl
theorem v_ms {σ : St} {t e n bytes : Nat} {zero : List L} {k k' : IntKind} {l c : Int} {K : St → Prop} : msK σ t e n bytes zero (.lf (.int k l)) (.lf (.int k' c)) K = (zero.length = n ∧ (0 ≤ l ∧ l ≤ c ∧ c * bytes ≤ 140737488355328 ∧ c ≤ 9223372036854775807) ∧ K ((σ.mapAll (killP (plT t 0))).put (some t) (.lf (.lst (.own (plT t 0) e) n (List.replicate l.toNat zero) (List.replicate (c - l).toNat zero))))) := rfl
structure Nd where
  op : Int
  n : Int
  t : ByteArray
  s0 : Int
  s1 : Int
  s2 : Int
  s3 : Int
abbrev Nd.c (x : Nd) : List L := [.int .i64 x.op, .int .i64 x.n, .str x.t, .int .u64 x.s0, .int .u64 x.s1, .int .u64 x.s2, .int .u64 x.s3]
def arF (op : Int) : Int := if op = 7 ∨ op = 8 then 2 else if (1 ≤ op ∧ op ≤ 6) ∨ op = 17 then 0 else if 8 < op ∧ op ≤ 23 then 1 else -1
theorem r33 (op : Int) : R X Tryd.prog 33 [.lf (.int .i64 op)] [] (.lf (.int .i64 (arF op))) [] := by
  refine R_i [] [] c33_ok rfl (by simp) ?_
  unfold arF
  simp -implicitDefEqProofs (maxSteps := 2000000) only [c33, ↓reduceIte, S0, v_leq, v_geq, St.init, enum, Nat.reduceEqDiff, reduceCtorEq, cond_false, Bool.not_true, Bool.not_false, Bool.true_eq_false, decide_eq_false_iff_not, Int.reduceNeg, ite_not]
  (repeat' split) <;> first | trivial | omega
end Go.Proofs.YtdoefdmaecaacaaDoor.S
set_option linter.unusedVariables false
set_option linter.unusedSimpArgs false
namespace Go.Proofs.YtdoefdmaecaacaaDoor.S
open Go Go.Proofs.YtdoefdmaecaacaaDoor.AM
variable {X : Cx}
abbrev wl (p : L) (l : List UInt8) (g : Bool) : List L := [p, .lst (.own 3 5) 1 (ub l) [], .bool g]
def frw (x : L) : Prop := x = .nilp ∨ x = .tptr 0 0 46
theorem r45w (x : L) (hx : frw x) (y : List UInt8) (g : Bool) : R X Tryd.prog 45 [.lf (.tptr 0 0 46)] [wl x y g] (.tp []) [wl (.tptr 0 0 46) y g] := by
  refine R_i [(3, 3)] [] c45_ok rfl (by simp) ?_
  rcases hx with rfl | rfl
  · simp -implicitDefEqProofs (maxSteps := 2000000) only [c45, ↓reduceIte, S0, o_st, v_stCK, o_nc, St.init, enum, Nat.reduceEqDiff, Nat.reduceAdd, reduceCtorEq, Bool.not_false, s_ret_n, List.all_cons, List.all_nil, PV.cells, cellL, fillL, Nat.reduceLeDiff, List.take_zero, List.drop_zero, List.drop_succ_cons, Nat.reduceLT, Nat.lt_add_one, true_or, or_true, st_t1, o_peq, v_peq_nn, o_p2u, v_p2u, v_p2uK, o_u2p, v_u2p, v_u2pK, o_ex, v_exK, v_ex0, v_fa_t, v_ld_t, v_st_t, v_nc_t, t_tr, one_0]
    kernel_rfl
  · simp -implicitDefEqProofs (maxSteps := 2000000) only [c45, ↓reduceIte, S0, o_nc, St.init, enum, Nat.reduceEqDiff, reduceCtorEq, Bool.not_true, s_ret_n, Nat.lt_add_one, true_or, or_true, o_peq, v_peq_tn, v_peq_tt, v_fa_t, v_ld_t, v_nc_t, t_tr, one_0]
theorem r27w (x : L) (hx : frw x) (y : List UInt8) (g : Bool) (s : ByteArray) (hs : y.length + s.size ≤ 140737488355328) : R X Tryd.prog 27 [.lf (.tptr 0 0 46), .lf (.str s)] [wl x y g] (.tp [.lf (.int .i64 s.size), .lf .nili]) [wl (.tptr 0 0 46) (y ++ s.data.toList) g] := by
  refine R_i [(3, 3)] [] c27_ok rfl (by simp) ?_
  rcases hx with rfl | rfl
  all_goals
    simp -implicitDefEqProofs (maxSteps := 2000000) only [c27, ↓reduceIte, S0, St.init, enum, Nat.reduceEqDiff, reduceCtorEq, PV.leaves, e_asg_ni, ta_t, pc_t, o_callp, v_callp]
    refine pcall_i (r45w _ (by simp [frw, toC]) y g) rfl rfl ?_
    simp -implicitDefEqProofs (maxSteps := 2000000) only [c27, ↓reduceIte, S0, o_st, v_stCK, o_nc, o_lns, v_lns, o_aps, v_aps_o, Nat.reduceEqDiff, Nat.reduceAdd, reduceCtorEq, t_c, t_1l, t_ni, one_2, outV, ownsV, List.any_nil, List.all_cons, List.all_nil, PV.cells, cellL, fillL, Nat.reduceMul, Nat.reduceBEq, Nat.reduceLeDiff, List.take_zero, List.drop_zero, List.take_succ_cons, List.drop_succ_cons, kp_b, kp_s, kp_u, kp_lo, e_asg_ni, st_lo, plT, plC, Nat.lt_add_one, true_or, or_true, kp_t, rk_t, fc_lo, fc_t, kl_np, ub_len, v_fa_t, v_ld_t, v_st_t, v_nc_t, t_tr, isC, cplc, Nat.reduceMod, Nat.reduceDiv]
    exact ⟨hs, by rw [bytesL_ub, ub_app]⟩
theorem r26w (x : L) (hx : frw x) (y : List UInt8) (g : Bool) : R X Tryd.prog 26 [.lf (.tptr 0 0 46)] [wl x y g] (.lf (.int .i64 y.length)) [wl x y g] := by
  refine R_i [(3, 3)] [] c26_ok rfl (by simp) ?_
  rcases hx with rfl | rfl
  all_goals
    simp -implicitDefEqProofs (maxSteps := 2000000) only [c26, ↓reduceIte, S0, o_nc, St.init, enum, reduceCtorEq, t_np, Nat.lt_add_one, true_or, or_true, implies_true, ub_len, v_fa_t, v_ld_t, v_nc_t, t_tr]
theorem r34w (x : L) (hx : frw x) (y : List UInt8) (g : Bool) (hy : 0 < y.length) : R X Tryd.prog 34 [.lf (.tptr 0 0 46)] [wl x y g] (.lf (.str ⟨y.toArray⟩)) [[x, .undef, .bool g]] := by
  refine R_i [] [] c34_ok rfl (by simp) ?_
  rcases hx with rfl | rfl
  all_goals
    simp -implicitDefEqProofs (maxSteps := 2000000) only [c34, ↓reduceIte, S0, s_wopsqK, s_qnil, s_qcons, q_fa, q_ld, q_nc, q_len, o_nc, St.init, enum, Nat.reduceEqDiff, reduceCtorEq, t_s, t_np, t_u, kp_b, kp_np, kp_lo, Nat.lt_add_one, implies_true, kp_t, kp_eo, o_usd, v_usd, ub_len, o_ust, v_ust, s_reg, q_usd, v_fa_t, v_ld_t, v_nc_t, t_tr]
    exact hy
structure W where
  x : L
  y : List UInt8
  g : Bool
def W.c (w : W) : List L := wl w.x w.y w.g
def putW (s : ByteArray) (w : W) : W := if w.g = true ∨ 65536 < w.y.length + s.size then { w with g := true } else ⟨.tptr 0 0 46, w.y ++ s.data.toList, false⟩
structure W.ok (w : W) : Prop where
  x : frw w.x
  y : w.y.length ≤ 65536
theorem W.toC {w : W} (h : w.ok) : w.c.map (AM.toC 0) = w.c := by
  obtain ⟨x, y, g⟩ := w
  rcases h.x with h | h <;> (simp only at h; subst h; rfl)
theorem W.fromC {w : W} (h : w.ok) : w.c.map (AM.fromC 0) = w.c := by
  obtain ⟨x, y, g⟩ := w
  rcases h.x with h | h <;> (simp only at h; subst h; rfl)
theorem W.killP {w : W} (h : w.ok) {p : Nat} (hp : (3 == p) = false) : w.c.map (AM.killP p) = w.c := by
  obtain ⟨x, y, g⟩ := w
  have e : AM.killP p (.lst (.own 3 5) 1 (ub y) []) = .lst (.own 3 5) 1 (ub y) [] := by simp only [AM.killP, tagK, hp]; rfl
  rcases h.x with h | h <;> (simp only at h; subst h; simp only [W.c, wl, List.map_cons, List.map_nil, e]; rfl)
theorem W.lnP {w : W} (h : w.ok) {p : Nat} (hp : (3 == p) = false) : w.c.map (AM.lnP p) = w.c := by
  obtain ⟨x, y, g⟩ := w
  have e : AM.lnP p (.lst (.own 3 5) 1 (ub y) []) = .lst (.own 3 5) 1 (ub y) [] := by simp only [AM.lnP, hp]; rfl
  rcases h.x with h | h <;> (simp only at h; subst h; simp only [W.c, wl, List.map_cons, List.map_nil, e]; rfl)
theorem W.renK {w : W} (h : w.ok) {q p : Nat} (hp : (3 == p) = false) (hq : (3 == q) = false) : w.c.map (AM.renK q p) = w.c := by
  obtain ⟨x, y, g⟩ := w
  have e : AM.renK q p (.lst (.own 3 5) 1 (ub y) []) = .lst (.own 3 5) 1 (ub y) [] := by simp only [AM.renK, AM.killP, tagK, hp, Bool.false_eq_true, if_false, renP, tagR, hq]
  rcases h.x with h | h <;> (simp only at h; subst h; simp only [W.c, wl, List.map_cons, List.map_nil, e]; rfl)
theorem W.to {w : W} (h : w.ok) : leavesTo 1 [(3, 3)] [] w.c w.c := by
  obtain ⟨x, y, g⟩ := w
  rcases h.x with h | h <;> (simp only at h; subst h; simp [W.c, wl, t_lc, leavesTo, leafTo, datL, tagTo, AM.get])
theorem putW_ok {s : ByteArray} {w : W} (h : w.ok) : (putW s w).ok := by
  unfold putW
  split
  · exact ⟨h.x, h.y⟩
  · rename_i h1
    refine ⟨.inr rfl, ?_⟩
    simp only [not_or, Nat.not_lt] at h1
    simpa using h1.2
def putsW : List ByteArray → W → W
  | [], w => w
  | s :: r, w => putsW r (putW s w)
theorem putsW_app (a b : List ByteArray) (w : W) : putsW (a ++ b) w = putsW b (putsW a w) := by
  induction a generalizing w with
  | nil => rfl
  | cons s r ih => exact ih _
theorem putsW_ok : ∀ (l : List ByteArray) {w : W}, w.ok → (putsW l w).ok
  | [], _, h => h
  | s :: r, w, h => putsW_ok r (w := putW s w) (putW_ok h)
theorem putsW_g : ∀ (l : List ByteArray) (w : W), w.g = true → putsW l w = w
  | [], _, _ => rfl
  | s :: r, w, h => by
    have : putW s w = w := by cases w; simp only at h; subst h; simp [putW]
    simp only [putsW, this]; exact putsW_g r w h
theorem r14 (w : W) (hw : w.ok) (s : ByteArray) (hs : s.size ≤ 1073741824) : R X Tryd.prog 14 [.lf (.tptr 0 0 46), .lf (.str s)] [w.c] (.tp []) [(putW s w).c] := by
  obtain ⟨x, y, g⟩ := w
  have hx := hw.x
  have hy := hw.y
  simp only at hx hy
  have w1 : IntKind.i64.wrap ((y.length : Int) + (s.size : Int)) = (y.length : Int) + (s.size : Int) := w64 (by omega) (by omega)
  refine R_i [(3, 3)] [] c14_ok rfl (by simp) ?_
  unfold putW W.c
  cases g
  · simp only [Bool.false_eq_true, false_or]
    rcases hx with rfl | rfl
    all_goals
      simp -implicitDefEqProofs (maxSteps := 2000000) only [c14, ↓reduceIte, S0, q_fa, q_nc, o_nc, St.init, enum, Nat.reduceEqDiff, reduceCtorEq, cond_false, PV.leaves, ta_t, pc_t, v_fa_t, v_ld_t, v_nc_t, o_callp, v_callp]
      refine pcall_i (r26w _ (by simp [frw, toC]) y false) rfl rfl ?_
      simp -implicitDefEqProofs (maxSteps := 2000000) only [c14, w1, ↓reduceIte, S0, q_lns, o_st, v_stCK, o_nc, o_lns, v_lns, Nat.reduceEqDiff, Nat.reduceAdd, reduceCtorEq, cond_false, outV, ownsV, owns1, ownL, PV.leaves, List.all_cons, List.all_nil, PV.cells, cellL, fillL, Nat.reduceMul, Nat.le_refl, List.take_zero, List.take_succ_cons, List.drop_succ_cons, List.drop_nil, st_b1, Nat.lt_add_one, true_or, or_true, ta_s, ta_t, tc_np, tc_t, fc_np, fc_lo, fc_t, kl_np, pc_t, v_fa_t, v_st_t, v_nc_t, o_callp, v_callp, isC, cplc, Nat.reduceMod, Nat.reduceDiv, one_0]
      with_reducible refine ite_pr (fun h1 => ?_) (fun h1 => ?_)
      · rw [if_pos (by omega)]
        trivial
      · rw [if_neg (by omega)]
        refine pcall_i (r27w _ (by simp [frw, toC]) y false s (by omega)) rfl rfl ?_
        simp -implicitDefEqProofs (maxSteps := 2000000) only [c14, ↓reduceIte, S0, Nat.reduceAdd, s_ret_n, outV, ownsV, owns1, ownL, List.any_cons, List.any_nil, Bool.or_self, Nat.reduceMul, ol_ni, m_1l, Nat.lt_add_one, true_or, or_true, fc_lo, fc_t, kl_np, t_tr, isC, cplc, Nat.reduceMod, Nat.reduceDiv, one_0]
  · rcases hx with rfl | rfl
    all_goals
      simp only [true_or, if_true]
      simp -implicitDefEqProofs (maxSteps := 2000000) only [c14, ↓reduceIte, S0, o_st, v_stCK, o_nc, St.init, enum, Nat.reduceEqDiff, Nat.reduceAdd, reduceCtorEq, Bool.not_false, Bool.true_eq_false, t_np, List.all_cons, List.all_nil, PV.cells, cellL, fillL, Nat.le_refl, List.take_zero, List.take_succ_cons, List.drop_succ_cons, List.drop_nil, st_b1, Nat.lt_add_one, true_or, or_true, v_fa_t, v_ld_t, v_st_t, v_nc_t, t_tr, one_0]
end Go.Proofs.YtdoefdmaecaacaaDoor.S
set_option linter.unusedVariables false
set_option linter.unusedSimpArgs false
namespace Go.Proofs.YtdoefdmaecaacaaDoor.S
open Go Go.Proofs.YtdoefdmaecaacaaDoor.AM
variable {X : Cx}
inductive Tr where
  | l0 (x : Nd)
  | l1 (x : Nd) (a : Tr)
  | l2 (x : Nd) (a b : Tr)
def Tr.x : Tr → Nd
  | .l0 x => x
  | .l1 x _ => x
  | .l2 x _ _ => x
def Tr.c : Tr → List L
  | .l0 x => x.c ++ [.lst .ro 1 [] []]
  | .l1 x a => x.c ++ [.lst .ro 1 [[.rp a.c 0]] []]
  | .l2 x a b => x.c ++ [.lst .ro 1 [[.rp a.c 0], [.rp b.c 0]] []]
abbrev Tr.r (t : Tr) : List L := [.rp t.c 0]
def stepT (x : Nd) (st : List Tr) : Option (List Tr) :=
  if arF x.op = 0 then some (.l0 x :: st)
  else if arF x.op = 1 then (match st with
    | a :: r => some (.l1 x a :: r)
    | _ => none)
  else if arF x.op = 2 then (match st with
    | b :: a :: r => some (.l2 x a b :: r)
    | _ => none)
  else none
def buildT : List Nd → List Tr → Option (List Tr)
  | [], st => some st
  | x :: p, st => (stepT x st).bind (buildT p)
abbrev stL (st : List Tr) : List (List L) := st.reverse.map Tr.r
theorem step_len {x : Nd} {st st' : List Tr} (h : stepT x st = some st') : st'.length ≤ st.length + 1 := by
  unfold stepT at h
  split at h
  · cases h; simp
  · split at h
    · split at h
      · cases h; simp
      · cases h
    · split at h
      · split at h
        · cases h; simp only [List.length_cons]; omega
        · cases h
      · cases h
theorem step_cases {x : Nd} {st st' : List Tr} (h : stepT x st = some st') :
    (arF x.op = 0 ∧ st' = .l0 x :: st) ∨ (∃ a r, arF x.op = 1 ∧ st = a :: r ∧ st' = .l1 x a :: r) ∨ (∃ a b r, arF x.op = 2 ∧ st = b :: a :: r ∧ st' = .l2 x a b :: r) := by
  unfold stepT at h
  split at h
  · cases h; exact .inl ⟨‹_›, rfl⟩
  · split at h
    · split at h
      · cases h; exact .inr (.inl ⟨_, _, ‹_›, rfl, rfl⟩)
      · cases h
    · split at h
      · split at h
        · cases h; exact .inr (.inr ⟨_, _, _, ‹_›, rfl, rfl⟩)
        · cases h
      · cases h
theorem r16 (p : List Nd) (sp : List (List L)) (hp : p.length ≤ 1000000000) (t : Tr) (r : List Tr) (hb : buildT p [] = some (r ++ [t])) : R X Tryd.prog 16 [.lf (.lst .ro 7 (p.map Nd.c) sp)] [] (.lf (.rp t.c 0)) [] := by
  refine R_i [] [] c16_ok rfl (by simp) ?_
  simp -implicitDefEqProofs (maxSteps := 2000000) only [c16, ↓reduceIte, S0, s_loop, St.init, enum, Nat.reduceEqDiff, reduceCtorEq, Nat.reduceMul, kp_lro, e_asg_n, e_asg_np, List.range_zero, plT]
  have hml : (List.map Nd.c p).length = p.length := List.length_map _
  rw [hml]
  intro _
  have key : ∀ (q d : List Nd) (st : List Tr), d ++ q = p → buildT q st = some (r ++ [t]) → st.length ≤ d.length →
      LoopAt X Tryd.prog c16_8 [3, 8, 9, 10] (blkK 0 (seqK X Tryd.prog c16_12 (retS [] [] 0 [RV.t 2] (.lf (.rp t.c 0)) [])))
        { m := 0, tm := [(3, .lf (.lst (.own 384 49) 1 (stL st) [])), (8, .lf (.lst .ro 7 (p.map Nd.c) sp)), (9, .lf (.int .i64 p.length)), (10, .lf (.int .i64 d.length))], ce := [] } := by
    intro q
    induction q with
    | nil =>
      intro d st hd hq hl
      simp only [List.append_nil] at hd
      subst hd
      simp only [buildT, Option.some.injEq] at hq
      subst hq
      have hg : (stL (r ++ [t])) = [.rp t.c 0] :: stL r := by simp [stL]
      have hlt : ¬ (d.length : Int) < d.length := by omega
      intro Z hZ; apply hZ
      have hg0 : ([L.rp t.c 0] :: stL r).getD (Int.toNat 0) [] = [.rp t.c 0] := rfl
      simp -implicitDefEqProofs (maxSteps := 2000000) only [c16, hg, hlt, decide_false, v_ld_e, hg0, ↓reduceIte, S0, s_exit, s_seqK_e, s_blkK_e, s_loopK_e, Nat.reduceEqDiff, e_asg_rp, t_rp]
      exact ⟨⟨by decide, by simp⟩, by simp⟩
    | cons x q ih =>
      intro d st hd hq hl
      have hdl : d.length < p.length := by rw [← hd]; simp
      have hlt : (d.length : Int) < p.length := by omega
      obtain ⟨op, n, tx, s0, s1, s2, s3⟩ := x
      have hx : (p.map Nd.c).getD ((d.length : Nat) : Int).toNat [] = [.int .i64 op, .int .i64 n, .str tx, .int .u64 s0, .int .u64 s1, .int .u64 s2, .int .u64 s3] := by
        rw [Int.toNat_natCast, List.getD_eq_getElem?_getD, List.getElem?_map, ← hd]; simp
      have wi : IntKind.i64.wrap ((d.length : Int) + 1) = (((d ++ [(⟨op, n, tx, s0, s1, s2, s3⟩ : Nd)]).length : Nat) : Int) := by rw [w64 (by omega) (by omega)]; simp
      simp only [buildT] at hq
      obtain ⟨st', hs, hq⟩ := Option.bind_eq_some_iff.1 hq
      have ihn := ih (d ++ [(⟨op, n, tx, s0, s1, s2, s3⟩ : Nd)]) st' (by simp [← hd]) hq (by have := step_len hs; simp; omega)
      intro Z hZ; apply hZ
      simp -implicitDefEqProofs (maxSteps := 2000000) only [c16, hlt, decide_true, hx, v_ld_e, wi, ↓reduceIte, S0, o_al, o_bx, o_st, v_st_p, v_stCK, o_bd, v_agK, v_bd_n, v_bd_c, Nat.reduceEqDiff, Nat.reduceAdd, reduceCtorEq, PV.leaves, List.all_cons, List.all_nil, PV.cells, cellL, fillL, Nat.reduceBEq, Nat.reduceLeDiff, Nat.zero_le, Nat.le_refl, List.take_zero, List.drop_zero, List.take_succ_cons, List.drop_succ_cons, List.drop_nil, List.take_nil, kc_b, kc_i, kc_s, kc_p, kc_l, e_asg_p, st_b, ne_eq, not_false_eq_true, kc_er, v_bx_a]
      have hll : (stL st).length = st.length := by simp [stL]
      rw [hll]
      refine ⟨⟨by omega, by rw [hml]; omega⟩, by rw [hml]; omega, fun _ => wcall_s (r33 op) rfl rfl ?_⟩
      have h1 : st.length ≤ 1000000000 := by omega
      rcases step_cases hs with ⟨ha, rfl⟩ | ⟨a, r', ha, rfl, rfl⟩ | ⟨a, b, r', ha, rfl, rfl⟩
      · simp only at ha
        rw [ha]
        have hw : IntKind.i64.wrap (((st.length : Nat) : Int) - 0) = ((st.length : Nat) : Int) := by (try simp only [List.length_cons] at h1); rw [w64 (by omega) (by omega)]; omega
        have e1 : (((st.length : Nat) : Int)).toNat = st.length := Int.toNat_natCast _
        have h_d : (stL (st)).drop (((st.length : Nat) : Int)).toNat = [] := by rw [e1]; simp [stL]
        have h_t : (stL (st)).take (((st.length : Nat) : Int)).toNat = stL st := by rw [e1]; exact List.take_of_length_le (by simp [stL])
        have hfin : stL st ++ [[.rp (Tr.c (.l0 ⟨op, n, tx, s0, s1, s2, s3⟩)) 0]] = stL ((.l0 ⟨op, n, tx, s0, s1, s2, s3⟩) :: st) := by simp [stL, Tr.r]
        have hle : st.length ≤ (stL (st)).length := by rw [hll]; exact Nat.le_refl _
        simp -implicitDefEqProofs (maxSteps := 2000000) only [c16, hw, h_d, h_t, ↓reduceIte, S0, v_sub, o_st, v_st_p, v_stCK, o_nc, v_nc_p, o_app, v_app_n, o_sll, v_sll_b, v_sll_c, Option.map_some, Option.map_none, Nat.reduceEqDiff, Nat.reduceAdd, Bool.not_false, St.clr, outV, ownsV, owns1, ownL, List.all_cons, List.all_nil, PV.cells, cellL, fillL, Nat.reduceMul, Nat.reduceBEq, Nat.zero_le, Nat.le_refl, List.take_zero, List.take_succ_cons, List.drop_succ_cons, List.drop_nil, kp_s, kp_p, kp_lro, kp_lnl, rk_lnl, kp_lo, st_lo, plT, plC, or_true, s_gdq, s_gqn, s_gqc, s_gqK, s_gqE, s_gq1, s_gq2, s_gqF, s_gqT, pv_p, sv_l, lk_mv, lk_fa, ns_fa, lk_nc, ns_nc, lk_ld, ns_app, o_bsf]
        refine ⟨rfl, ⟨by omega, by rw [e1]; exact hle⟩, ?_⟩
        first
          | refine ⟨⟨by omega, by rw [e1]; exact hle⟩, ?_⟩
          | refine ⟨by simp, ⟨by omega, by rw [e1]; exact hle⟩, ?_⟩
          | refine ⟨by simp, by simp, ⟨by omega, by rw [e1]; exact hle⟩, ?_⟩
        refine wbsf_f [16] ?_
        simp -implicitDefEqProofs (maxSteps := 2000000) only [c16, hw, h_d, h_t, wi, ↓reduceIte, S0, v_bsK, v_lit_n, v_lit_c, o_app, v_app_o, Nat.reduceEqDiff, reduceCtorEq, Bool.or_false, List.all_cons, List.all_nil, PV.cells, datL, Nat.reduceMul, Nat.reduceBEq, Nat.reduceLeDiff, Nat.zero_le, kp_s, ro_i, ro_s, kp_lro, ro_p, ro_lro, kp_lo, ro_lo, dw_lo, List.range_zero, plT, lit_n, lit_c, List.reduceReplicate, List.set_cons_zero, List.length_append, Nat.lt_add_one, or_false, kp_rp, rk_rp, rl_rp, fz_i, fz_s, fz_p, fz_lr, fz_lo, fD_i, fD_s, fD_lr, dw_rp0, e_frz, wfd_n, wfd_c, wfd_o, wfd_p, wfd_q, s_bsC, kp_lk, rk_lk, lp_i, lp_s, lp_lr, lp_lo, lp_rp]
        have hl2 : (stL st).length = st.length := by simp [stL]
        refine ⟨by (try simp only [List.length_cons] at h1); omega, ?_⟩
        have hz := ihn Z hZ
        rw [← hfin] at hz
        simp only [List.length_append, List.length_cons, List.length_nil, Nat.zero_add, Tr.c, List.cons_append, List.nil_append] at hz
        exact hz
      · simp only at ha
        rw [ha]
        have hw : IntKind.i64.wrap (((r'.length + 1 : Nat) : Int) - 1) = ((r'.length : Nat) : Int) := by (try simp only [List.length_cons] at h1); rw [w64 (by omega) (by omega)]; omega
        have e1 : (((r'.length : Nat) : Int)).toNat = r'.length := Int.toNat_natCast _
        have h_d : (stL (a :: r')).drop (((r'.length : Nat) : Int)).toNat = [[.rp a.c 0]] := by rw [e1]; simp [stL]
        have h_t : (stL (a :: r')).take (((r'.length : Nat) : Int)).toNat = stL r' := by rw [e1]; simp [stL]
        have hfin : stL r' ++ [[.rp (Tr.c (.l1 ⟨op, n, tx, s0, s1, s2, s3⟩ a)) 0]] = stL ((.l1 ⟨op, n, tx, s0, s1, s2, s3⟩ a) :: r') := by simp [stL, Tr.r]
        have hle : r'.length ≤ (stL (a :: r')).length := by rw [hll]; simp only [List.length_cons]; omega
        simp -implicitDefEqProofs (maxSteps := 2000000) only [c16, hw, h_d, h_t, ↓reduceIte, S0, v_sub, o_st, v_st_p, v_stCK, o_nc, v_nc_p, o_app, v_app_n, o_sll, v_sll_b, v_sll_c, Option.map_some, Option.map_none, Nat.reduceEqDiff, Nat.reduceAdd, reduceCtorEq, Bool.not_false, St.clr, outV, ownsV, owns1, ownL, Bool.or_false, List.all_cons, List.all_nil, PV.cells, cellL, fillL, Nat.reduceMul, Nat.reduceBEq, Nat.reduceLeDiff, Nat.le_refl, List.take_zero, List.take_succ_cons, List.drop_succ_cons, List.drop_nil, kp_s, kp_p, kp_lro, kp_lnl, rk_lnl, kp_lo, st_lo, plT, plC, or_false, s_gdq, s_gqn, s_gqc, s_gqK, s_gqE, s_gq1, s_gq2, s_gqF, s_gqT, pv_p, sv_l, lk_mv, lk_fa, ns_fa, lk_nc, ns_nc, lk_ld, ns_app, o_bsf]
        refine ⟨rfl, ⟨by omega, by rw [e1]; exact hle⟩, ?_⟩
        first
          | refine ⟨⟨by omega, by rw [e1]; exact hle⟩, ?_⟩
          | refine ⟨by simp, ⟨by omega, by rw [e1]; exact hle⟩, ?_⟩
          | refine ⟨by simp, by simp, ⟨by omega, by rw [e1]; exact hle⟩, ?_⟩
        refine wbsf_f [16] ?_
        simp -implicitDefEqProofs (maxSteps := 2000000) only [c16, hw, h_d, h_t, wi, ↓reduceIte, S0, v_bsK, v_lit_n, v_lit_c, o_app, v_app_o, Nat.reduceEqDiff, reduceCtorEq, Bool.or_false, List.all_cons, List.all_nil, PV.cells, datL, Nat.reduceMul, Nat.reduceBEq, Nat.reduceLeDiff, Nat.zero_le, kp_s, ro_i, ro_s, kp_lro, ro_p, ro_lro, kp_lo, ro_lo, dw_lo, List.range_zero, plT, lit_n, lit_c, List.reduceReplicate, List.set_cons_zero, List.length_append, Nat.lt_add_one, or_false, kp_rp, rk_rp, rl_rp, fz_i, fz_s, fz_p, fz_lr, fz_lo, fD_i, fD_s, fD_lr, dw_rp0, e_frz, wfd_n, wfd_c, wfd_o, wfd_p, wfd_q, s_bsC, kp_lk, rk_lk, lp_i, lp_s, lp_lr, lp_lo, lp_rp]
        have hl2 : (stL r').length = r'.length := by simp [stL]
        refine ⟨by (try simp only [List.length_cons] at h1); omega, ?_⟩
        have hz := ihn Z hZ
        rw [← hfin] at hz
        simp only [List.length_append, List.length_cons, List.length_nil, Nat.zero_add, Tr.c, List.cons_append, List.nil_append] at hz
        exact hz
      · simp only at ha
        rw [ha]
        have hw : IntKind.i64.wrap (((r'.length + 1 + 1 : Nat) : Int) - 2) = ((r'.length : Nat) : Int) := by (try simp only [List.length_cons] at h1); rw [w64 (by omega) (by omega)]; omega
        have e1 : (((r'.length : Nat) : Int)).toNat = r'.length := Int.toNat_natCast _
        have h_d : (stL (b :: a :: r')).drop (((r'.length : Nat) : Int)).toNat = [[.rp a.c 0], [.rp b.c 0]] := by rw [e1]; simp [stL]
        have h_t : (stL (b :: a :: r')).take (((r'.length : Nat) : Int)).toNat = stL r' := by rw [e1]; simp [stL]
        have hfin : stL r' ++ [[.rp (Tr.c (.l2 ⟨op, n, tx, s0, s1, s2, s3⟩ a b)) 0]] = stL ((.l2 ⟨op, n, tx, s0, s1, s2, s3⟩ a b) :: r') := by simp [stL, Tr.r]
        have hle : r'.length ≤ (stL (b :: a :: r')).length := by rw [hll]; simp only [List.length_cons]; omega
        simp -implicitDefEqProofs (maxSteps := 2000000) only [c16, hw, h_d, h_t, ↓reduceIte, S0, v_sub, o_st, v_st_p, v_stCK, o_nc, v_nc_p, o_app, v_app_n, o_sll, v_sll_b, v_sll_c, Option.map_some, Option.map_none, Nat.reduceEqDiff, Nat.reduceAdd, reduceCtorEq, Bool.not_false, St.clr, outV, ownsV, owns1, ownL, Bool.or_false, List.all_cons, List.all_nil, PV.cells, cellL, fillL, Nat.reduceMul, Nat.reduceBEq, Nat.reduceLeDiff, Nat.le_refl, List.take_zero, List.take_succ_cons, List.drop_succ_cons, List.drop_nil, kp_s, kp_p, kp_lro, kp_lnl, rk_lnl, kp_lo, st_lo, plT, plC, or_false, s_gdq, s_gqn, s_gqc, s_gqK, s_gqE, s_gq1, s_gq2, s_gqF, s_gqT, pv_p, sv_l, lk_mv, lk_fa, ns_fa, lk_nc, ns_nc, lk_ld, ns_app, o_bsf]
        refine ⟨rfl, ⟨by omega, by rw [e1]; exact hle⟩, ?_⟩
        first
          | refine ⟨⟨by omega, by rw [e1]; exact hle⟩, ?_⟩
          | refine ⟨by simp, ⟨by omega, by rw [e1]; exact hle⟩, ?_⟩
          | refine ⟨by simp, by simp, ⟨by omega, by rw [e1]; exact hle⟩, ?_⟩
        refine wbsf_f [16] ?_
        simp -implicitDefEqProofs (maxSteps := 2000000) only [c16, hw, h_d, h_t, wi, ↓reduceIte, S0, v_bsK, v_lit_n, v_lit_c, o_app, v_app_o, Nat.reduceEqDiff, reduceCtorEq, Bool.or_false, List.all_cons, List.all_nil, PV.cells, datL, Nat.reduceMul, Nat.reduceBEq, Nat.reduceLeDiff, Nat.zero_le, kp_s, ro_i, ro_s, kp_lro, ro_p, ro_lro, kp_lo, ro_lo, dw_lo, List.range_zero, plT, lit_n, lit_c, List.reduceReplicate, List.set_cons_zero, List.length_append, Nat.lt_add_one, or_false, kp_rp, rk_rp, rl_rp, fz_i, fz_s, fz_p, fz_lr, fz_lo, fD_i, fD_s, fD_lr, dw_rp0, e_frz, wfd_n, wfd_c, wfd_o, wfd_p, wfd_q, s_bsC, kp_lk, rk_lk, lp_i, lp_s, lp_lr, lp_lo, lp_rp]
        have hl2 : (stL r').length = r'.length := by simp [stL]
        refine ⟨by (try simp only [List.length_cons] at h1); omega, ?_⟩
        have hz := ihn Z hZ
        rw [← hfin] at hz
        simp only [List.length_append, List.length_cons, List.length_nil, Nat.zero_add, Tr.c, List.cons_append, List.nil_append] at hz
        exact hz
  exact key p [] [] rfl hb (by simp)
end Go.Proofs.YtdoefdmaecaacaaDoor.S
