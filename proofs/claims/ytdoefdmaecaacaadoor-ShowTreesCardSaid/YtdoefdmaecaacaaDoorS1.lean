/- Contracts, part S1. -/
import Derived.Test.YtdoefdmaecaacaaDoorProg
import Derived.Test.YtdoefdmaecaacaaDoorAmLeaf2
import Derived.Test.YtdoefdmaecaacaaDoorAmOpen
set_option maxRecDepth 100000
namespace Go.Proofs.YtdoefdmaecaacaaDoor.S
open Go Go.Proofs.YtdoefdmaecaacaaDoor.AM
abbrev c14_0 : AC := .seq (.ops 0 [⟨(some 18), .mv (.t 0), none⟩, ⟨(some 19), .nc (.t 18), none⟩, ⟨(some 20), .fa (.t 19) 2, none⟩, ⟨none, .st (.t 20) (.k (.lf (.bool true))) 1, none⟩] []) .ret
abbrev c14_1 : AC := .cond (.t 17) c14_0 .skip
abbrev c14_2 : AC := .seq (.ops 0 [⟨(some 4), .mv (.t 0), none⟩, ⟨(some 5), .nc (.t 4), none⟩, ⟨(some 6), .fa (.t 5) 2, none⟩, ⟨(some 7), .ld (.t 6) 1 false, none⟩, ⟨(some 8), .mv (.t 7), none⟩, ⟨(some 9), .mv (.t 0), (some (8, false))⟩, ⟨(some 10), .nc (.t 9), (some (8, false))⟩, ⟨(some 11), .fa (.t 10) 0, (some (8, false))⟩, ⟨(some 12), .callp 26 0 [(.t 11)], (some (8, false))⟩, ⟨(some 13), .mv (.t 1), (some (8, false))⟩, ⟨(some 14), .lns (.t 13), (some (8, false))⟩, ⟨(some 15), .bin .add (.t 12) (.t 14), (some (8, false))⟩, ⟨(some 16), .bin .gtr (.t 15) (.k (.lf (.int .i64 65536))), (some (8, false))⟩, ⟨(some 17), .pk (.t 8) (.k (.lf (.bool true))) (.t 16), none⟩] [0, 1, 17]) c14_1
abbrev c14_3 : AC := .seq c14_2 (.ops 0 [⟨(some 21), .mv (.t 0), none⟩, ⟨(some 22), .nc (.t 21), none⟩, ⟨(some 23), .fa (.t 22) 0, none⟩, ⟨(some 24), .mv (.t 1), none⟩, ⟨(some 25), .callp 27 0 [(.t 23), (.t 24)], none⟩] [])
abbrev c14 : AC := c14_3
theorem c14_ok : compileFn Tryd.prog 14 = some (26, AC.strip c14, []) := by kernel_rfl
abbrev c15_0 : AC := .cond (.t 11) .ret .skip
abbrev c15_1 : AC := .seq (.ops 0 [⟨(some 8), .mv (.t 0), none⟩, ⟨(some 9), .nc (.t 8), none⟩, ⟨(some 10), .fa (.t 9) 2, none⟩, ⟨(some 11), .ld (.t 10) 1 false, none⟩] [0, 1, 4, 11]) c15_0
abbrev c15_2 : AC := .cond (.t 79) (.ops 0 [⟨(some 80), .mv (.t 1), none⟩, ⟨(some 81), .nc (.t 80), none⟩, ⟨(some 82), .fa (.t 81) 0, none⟩, ⟨(some 83), .fa (.t 82) 2, none⟩, ⟨(some 84), .ld (.t 83) 1 false, none⟩, ⟨(some 85), .bin .add (.t 84) (.k (.lf (.str ⟨#[58]⟩))), none⟩, ⟨(some 5), .as 0 0 (.t 85), none⟩] [0, 1, 5]) .skip
abbrev c15_3 : AC := .seq (.ops 0 [⟨(some 74), .mv (.t 1), none⟩, ⟨(some 75), .nc (.t 74), none⟩, ⟨(some 76), .fa (.t 75) 0, none⟩, ⟨(some 77), .fa (.t 76) 2, none⟩, ⟨(some 78), .ld (.t 77) 1 false, none⟩, ⟨(some 79), .bin .neq (.t 78) (.k (.lf (.str ⟨#[]⟩))), none⟩] [0, 1, 5, 79]) c15_2
abbrev c15_4 : AC := .seq c15_3 (.ops 0 [⟨(some 86), .mv (.t 0), none⟩, ⟨(some 87), .mv (.t 5), none⟩, ⟨(some 88), .bin .add (.k (.lf (.str ⟨#[123, 58]⟩))) (.t 87), none⟩, ⟨(some 89), .bin .add (.t 88) (.k (.lf (.str ⟨#[32]⟩))), none⟩, ⟨(some 90), .mv (.t 1), none⟩, ⟨(some 91), .callp 30 0 [(.t 86), (.t 89), (.t 90), (.k (.lf (.int .i64 0))), (.k (.lf (.str ⟨#[32, 58, 125]⟩)))], none⟩] [])
abbrev c15_5 : AC := .seq (.ops 0 [⟨(some 5), .as 0 0 (.k (.lf (.str ⟨#[]⟩))), none⟩] [0, 1, 5]) c15_4
abbrev c15_6 : AC := .cond (.t 117) (.ops 0 [⟨(some 119), .mv (.t 0), none⟩, ⟨(some 120), .mv (.t 1), none⟩, ⟨(some 121), .callp 30 0 [(.t 119), (.k (.lf (.str ⟨#[33]⟩))), (.t 120), (.k (.lf (.int .i64 2))), (.k (.lf (.str ⟨#[]⟩)))], none⟩] []) (.ops 0 [⟨(some 17), .mv (.t 0), none⟩, ⟨(some 18), .mv (.t 1), none⟩, ⟨(some 19), .mv (.t 1), none⟩, ⟨(some 20), .callp 32 0 [(.t 19)], none⟩, ⟨(some 21), .callp 30 0 [(.t 17), (.k (.lf (.str ⟨#[]⟩))), (.t 18), (.k (.lf (.int .i64 3))), (.t 20)], none⟩] [])
abbrev c15_7 : AC := .seq (.ops 0 [⟨(some 118), .bin .eql (.t 16) (.k (.lf (.int .i64 13))), none⟩, ⟨(some 117), .as 0 0 (.t 118), none⟩] [0, 1, 117]) c15_6
abbrev c15_8 : AC := .cond (.t 112) (.ops 0 [⟨(some 114), .mv (.t 0), none⟩, ⟨(some 115), .mv (.t 1), none⟩, ⟨(some 116), .callp 30 0 [(.t 114), (.k (.lf (.str ⟨#[38]⟩))), (.t 115), (.k (.lf (.int .i64 2))), (.k (.lf (.str ⟨#[]⟩)))], none⟩] []) c15_7
abbrev c15_9 : AC := .seq (.ops 0 [⟨(some 113), .bin .eql (.t 16) (.k (.lf (.int .i64 12))), none⟩, ⟨(some 112), .as 0 0 (.t 113), none⟩] [0, 1, 16, 112]) c15_8
abbrev c15_10 : AC := .cond (.t 107) (.ops 0 [⟨(some 109), .mv (.t 0), none⟩, ⟨(some 110), .mv (.t 1), none⟩, ⟨(some 111), .callp 31 0 [(.t 109), (.t 110), (.k (.lf (.int .i64 0))), (.k (.lf (.str ⟨#[32, 47, 32]⟩)))], none⟩] []) c15_9
abbrev c15_11 : AC := .seq (.ops 0 [⟨(some 108), .bin .eql (.t 16) (.k (.lf (.int .i64 8))), none⟩, ⟨(some 107), .as 0 0 (.t 108), none⟩] [0, 1, 16, 107]) c15_10
abbrev c15_12 : AC := .cond (.t 102) (.ops 0 [⟨(some 104), .mv (.t 0), none⟩, ⟨(some 105), .mv (.t 1), none⟩, ⟨(some 106), .callp 31 0 [(.t 104), (.t 105), (.k (.lf (.int .i64 1))), (.k (.lf (.str ⟨#[32]⟩)))], none⟩] []) c15_11
abbrev c15_13 : AC := .seq (.ops 0 [⟨(some 103), .bin .eql (.t 16) (.k (.lf (.int .i64 7))), none⟩, ⟨(some 102), .as 0 0 (.t 103), none⟩] [0, 1, 16, 102]) c15_12
abbrev c15_14 : AC := .cond (.t 97) (.ops 0 [⟨(some 99), .mv (.t 0), none⟩, ⟨(some 100), .mv (.t 1), none⟩, ⟨(some 101), .callp 30 0 [(.t 99), (.k (.lf (.str ⟨#[123, 126, 32]⟩))), (.t 100), (.k (.lf (.int .i64 0))), (.k (.lf (.str ⟨#[32, 126, 125]⟩)))], none⟩] []) c15_13
abbrev c15_15 : AC := .seq (.ops 0 [⟨(some 98), .bin .eql (.t 16) (.k (.lf (.int .i64 21))), none⟩, ⟨(some 97), .as 0 0 (.t 98), none⟩] [0, 1, 16, 97]) c15_14
abbrev c15_16 : AC := .cond (.t 92) (.ops 0 [⟨(some 94), .mv (.t 0), none⟩, ⟨(some 95), .mv (.t 1), none⟩, ⟨(some 96), .callp 30 0 [(.t 94), (.k (.lf (.str ⟨#[123, 124, 32]⟩))), (.t 95), (.k (.lf (.int .i64 0))), (.k (.lf (.str ⟨#[32, 124, 125]⟩)))], none⟩] []) c15_15
abbrev c15_17 : AC := .seq (.ops 0 [⟨(some 93), .bin .eql (.t 16) (.k (.lf (.int .i64 20))), none⟩, ⟨(some 92), .as 0 0 (.t 93), none⟩] [0, 1, 16, 92]) c15_16
abbrev c15_18 : AC := .cond (.t 72) c15_5 c15_17
abbrev c15_19 : AC := .seq (.ops 0 [⟨(some 73), .bin .eql (.t 16) (.k (.lf (.int .i64 19))), none⟩, ⟨(some 72), .as 0 0 (.t 73), none⟩] [0, 1, 16, 72]) c15_18
abbrev c15_20 : AC := .cond (.t 67) (.ops 0 [⟨(some 69), .mv (.t 0), none⟩, ⟨(some 70), .mv (.t 1), none⟩, ⟨(some 71), .callp 30 0 [(.t 69), (.k (.lf (.str ⟨#[123]⟩))), (.t 70), (.k (.lf (.int .i64 0))), (.k (.lf (.str ⟨#[125]⟩)))], none⟩] []) c15_19
abbrev c15_21 : AC := .seq (.ops 0 [⟨(some 68), .bin .eql (.t 16) (.k (.lf (.int .i64 18))), none⟩, ⟨(some 67), .as 0 0 (.t 68), none⟩] [0, 1, 16, 67]) c15_20
abbrev c15_22 : AC := .cond (.t 58) (.ops 0 [⟨(some 60), .mv (.t 4), none⟩, ⟨(some 61), .mv (.t 1), none⟩, ⟨(some 62), .nc (.t 61), none⟩, ⟨(some 63), .fa (.t 62) 0, none⟩, ⟨(some 64), .fa (.t 63) 2, none⟩, ⟨(some 65), .ld (.t 64) 1 false, none⟩, ⟨(some 66), .cald (.t 60) [(.t 65)], none⟩] []) c15_21
abbrev c15_23 : AC := .seq (.ops 0 [⟨(some 59), .bin .eql (.t 16) (.k (.lf (.int .i64 6))), none⟩, ⟨(some 58), .as 0 0 (.t 59), none⟩] [0, 1, 4, 16, 58]) c15_22
abbrev c15_24 : AC := .cond (.t 48) (.ops 0 [⟨(some 50), .mv (.t 4), none⟩, ⟨(some 51), .mv (.t 1), none⟩, ⟨(some 52), .nc (.t 51), none⟩, ⟨(some 53), .fa (.t 52) 0, none⟩, ⟨(some 54), .fa (.t 53) 3, none⟩, ⟨(some 55), .ld (.t 54) 4 true, none⟩, ⟨(some 56), .call 29 [(.t 55)], none⟩, ⟨(some 57), .cald (.t 50) [(.t 56)], none⟩] []) c15_23
abbrev c15_25 : AC := .seq (.ops 0 [⟨(some 49), .bin .eql (.t 16) (.k (.lf (.int .i64 5))), none⟩, ⟨(some 48), .as 0 0 (.t 49), none⟩] [0, 1, 4, 16, 48]) c15_24
abbrev c15_26 : AC := .cond (.t 38) (.ops 0 [⟨(some 40), .mv (.t 4), none⟩, ⟨(some 41), .mv (.t 1), none⟩, ⟨(some 42), .nc (.t 41), none⟩, ⟨(some 43), .fa (.t 42) 0, none⟩, ⟨(some 44), .fa (.t 43) 2, none⟩, ⟨(some 45), .ld (.t 44) 1 false, none⟩, ⟨(some 46), .call 28 [(.t 45)], none⟩, ⟨(some 47), .cald (.t 40) [(.t 46)], none⟩] []) c15_25
abbrev c15_27 : AC := .seq (.ops 0 [⟨(some 39), .bin .eql (.t 16) (.k (.lf (.int .i64 4))), none⟩, ⟨(some 38), .as 0 0 (.t 39), none⟩] [0, 1, 4, 16, 38]) c15_26
abbrev c15_28 : AC := .cond (.t 34) (.ops 0 [⟨(some 36), .mv (.t 4), none⟩, ⟨(some 37), .cald (.t 36) [(.k (.lf (.str ⟨#[123, 125]⟩)))], none⟩] []) c15_27
abbrev c15_29 : AC := .seq (.ops 0 [⟨(some 35), .bin .eql (.t 16) (.k (.lf (.int .i64 17))), none⟩, ⟨(some 34), .as 0 0 (.t 35), none⟩] [0, 1, 4, 16, 34]) c15_28
abbrev c15_30 : AC := .cond (.t 30) (.ops 0 [⟨(some 32), .mv (.t 4), none⟩, ⟨(some 33), .cald (.t 32) [(.k (.lf (.str ⟨#[46]⟩)))], none⟩] []) c15_29
abbrev c15_31 : AC := .seq (.ops 0 [⟨(some 31), .bin .eql (.t 16) (.k (.lf (.int .i64 3))), none⟩, ⟨(some 30), .as 0 0 (.t 31), none⟩] [0, 1, 4, 16, 30]) c15_30
abbrev c15_32 : AC := .cond (.t 26) (.ops 0 [⟨(some 28), .mv (.t 4), none⟩, ⟨(some 29), .cald (.t 28) [(.k (.lf (.str ⟨#[37, 102]⟩)))], none⟩] []) c15_31
abbrev c15_33 : AC := .seq (.ops 0 [⟨(some 27), .bin .eql (.t 16) (.k (.lf (.int .i64 2))), none⟩, ⟨(some 26), .as 0 0 (.t 27), none⟩] [0, 1, 4, 16, 26]) c15_32
abbrev c15_34 : AC := .cond (.t 22) (.ops 0 [⟨(some 24), .mv (.t 4), none⟩, ⟨(some 25), .cald (.t 24) [(.k (.lf (.str ⟨#[37, 101]⟩)))], none⟩] []) c15_33
abbrev c15_35 : AC := .seq (.ops 0 [⟨(some 23), .bin .eql (.t 16) (.k (.lf (.int .i64 1))), none⟩, ⟨(some 22), .as 0 0 (.t 23), none⟩] [0, 1, 4, 16, 22]) c15_34
abbrev c15_36 : AC := .block 0 c15_35
abbrev c15_37 : AC := .seq (.ops 0 [⟨(some 12), .mv (.t 1), none⟩, ⟨(some 13), .nc (.t 12), none⟩, ⟨(some 14), .fa (.t 13) 0, none⟩, ⟨(some 15), .fa (.t 14) 0, none⟩, ⟨(some 16), .ld (.t 15) 1 false, none⟩] [0, 1, 4, 16]) c15_36
abbrev c15_38 : AC := .seq c15_1 c15_37
abbrev c15_39 : AC := .seq (.ops 0 [⟨(some 6), .mv (.t 0), none⟩, ⟨(some 7), .mkf 14 [(.t 6)] [], none⟩, ⟨(some 4), .as 0 0 (.t 7), none⟩] [0, 1, 4]) c15_38
abbrev c15 : AC := c15_39
theorem c15_ok : compileFn Tryd.prog 15 = some (122, AC.strip c15, []) := by kernel_rfl
abbrev c16_0 : AC := .cond (.t 11) .skip (.exit 0)
abbrev c16_1 : AC := .seq (.gdq [⟨(some 23), .mv (.t 6), none⟩, ⟨(some 24), .mv (.t 6), none⟩, ⟨(some 25), .nc (.t 24), none⟩, ⟨(some 26), .fa (.t 25) 7, none⟩, ⟨(some 27), .ld (.t 26) 1 false, none⟩, ⟨(some 28), .mv (.t 3), none⟩, ⟨(some 29), .mv (.t 7), none⟩] [⟨(some 30), .sll 1 (.t 28) (some (.t 29)) none, none⟩, ⟨(some 31), .app 49 1 8 (.t 27) (.t 30), none⟩, ⟨(some 32), .nc (.t 23), none⟩, ⟨(some 33), .fa (.t 32) 7, none⟩, ⟨none, .st (.t 33) (.t 31) 1, none⟩] [3, 6, 7, 8, 9, 10]) (.ops 0 [⟨(some 34), .mv (.t 3), none⟩, ⟨(some 35), .mv (.t 7), none⟩, ⟨(some 36), .sll 1 (.t 34) none (some (.t 35)), none⟩, ⟨(some 37), .mv (.t 6), none⟩, ⟨(some 38), .bsf 49 1 1 [.nilp] [(0, (.t 37))], none⟩, ⟨(some 39), .app 49 1 8 (.t 36) (.t 38), none⟩, ⟨(some 3), .as 49 1 (.t 39), none⟩] [3, 8, 9, 10])
abbrev c16_2 : AC := .seq (.ops 0 [⟨(some 17), .mv (.t 3), none⟩, ⟨(some 18), .len (.t 17), none⟩, ⟨(some 19), .fa (.t 5) 0, none⟩, ⟨(some 20), .ld (.t 19) 1 false, none⟩, ⟨(some 21), .call 33 [(.t 20)], none⟩, ⟨(some 22), .bin .sub (.t 18) (.t 21), none⟩, ⟨(some 7), .as 0 0 (.t 22), none⟩] [3, 6, 7, 8, 9, 10]) c16_1
abbrev c16_3 : AC := .seq (.ops 0 [⟨(some 14), .ld (.t 5) 7 true, none⟩, ⟨(some 15), .bd [.int .i64 0, .int .i64 0, .str ⟨#[]⟩, .int .u64 0, .int .u64 0, .int .u64 0, .int .u64 0, .lst .nl 1 [] []] [(0, 7, (.t 14))], none⟩, ⟨(some 16), .bx (.t 15), none⟩, ⟨(some 6), .as 0 0 (.t 16), none⟩] [3, 5, 6, 8, 9, 10]) c16_2
abbrev c16_4 : AC := .seq (.ops 0 [⟨(some 12), .ia (.t 8) (.t 10) 7, none⟩, ⟨(some 13), .ld (.t 12) 7 true, none⟩, ⟨(some 5), .al [.int .i64 0, .int .i64 0, .str ⟨#[]⟩, .int .u64 0, .int .u64 0, .int .u64 0, .int .u64 0], none⟩, ⟨none, .st (.t 5) (.t 13) 7, none⟩] [3, 5, 8, 9, 10]) c16_3
abbrev c16_5 : AC := .block 1 c16_4
abbrev c16_6 : AC := .seq c16_5 (.ops 0 [⟨(some 40), .bin .add (.t 10) (.k (.lf (.int .i64 1))), none⟩, ⟨(some 10), .mv (.t 40), none⟩] [3, 8, 9, 10])
abbrev c16_7 : AC := .seq c16_0 c16_6
abbrev c16_8 : AC := .seq (.ops 0 [⟨(some 11), .bin .lss (.t 10) (.t 9), none⟩] [3, 8, 9, 10, 11]) c16_7
abbrev c16_9 : AC := .loop c16_8 [3, 8, 9, 10]
abbrev c16_10 : AC := .block 0 c16_9
abbrev c16_11 : AC := .seq (.ops 0 [⟨(some 8), .mv (.t 0), none⟩, ⟨(some 9), .len (.t 8), none⟩, ⟨(some 10), .mv (.k (.lf (.int .i64 0))), none⟩] [3, 8, 9, 10]) c16_10
abbrev c16_12 : AC := .seq (.ops 0 [⟨(some 41), .mv (.t 3), none⟩, ⟨(some 42), .ia (.t 41) (.k (.lf (.int .i64 0))) 1, none⟩, ⟨(some 43), .ld (.t 42) 1 false, none⟩, ⟨(some 2), .as 0 0 (.t 43), none⟩] [2]) .ret
abbrev c16_13 : AC := .seq c16_11 c16_12
abbrev c16_14 : AC := .seq (.ops 0 [⟨(some 3), .as 49 1 (.k (.lf (.lst .nl 1 [] []))), none⟩] [0, 3]) c16_13
abbrev c16_15 : AC := .seq (.ops 0 [⟨(some 2), .as 0 0 (.k (.lf (.nilp))), none⟩] [0]) c16_14
abbrev c16 : AC := c16_15
theorem c16_ok : compileFn Tryd.prog 16 = some (44, AC.strip c16, [.t 2]) := by kernel_rfl
abbrev c17_0 : AC := .seq (.ops 0 [⟨(some 2), .as 0 0 (.k (.lf (.str ⟨#[]⟩))), none⟩, ⟨(some 3), .as 0 0 (.k (.lf (.int .i64 2))), none⟩] [2, 3]) .ret
abbrev c17_1 : AC := .cond (.t 7) c17_0 .skip
abbrev c17_2 : AC := .seq (.ops 0 [⟨(some 4), .mv (.t 0), none⟩, ⟨(some 5), .nc (.t 4), none⟩, ⟨(some 6), .fa (.t 5) 2, none⟩, ⟨(some 7), .ld (.t 6) 1 false, none⟩] [0, 7]) c17_1
abbrev c17_3 : AC := .seq (.ops 0 [⟨(some 8), .mv (.t 0), none⟩, ⟨(some 9), .nc (.t 8), none⟩, ⟨(some 10), .fa (.t 9) 0, none⟩, ⟨(some 11), .callp 34 0 [(.t 10)], none⟩, ⟨(some 2), .as 0 0 (.t 11), none⟩, ⟨(some 3), .as 0 0 (.k (.lf (.int .i64 0))), none⟩] [2, 3]) .ret
abbrev c17_4 : AC := .seq c17_2 c17_3
abbrev c17_5 : AC := .seq (.ops 0 [⟨(some 2), .as 0 0 (.k (.lf (.str ⟨#[]⟩))), none⟩, ⟨(some 3), .as 0 0 (.k (.lf (.int .i64 0))), none⟩] [0]) c17_4
abbrev c17 : AC := c17_5
theorem c17_ok : compileFn Tryd.prog 17 = some (12, AC.strip c17, [.t 2, .t 3]) := by kernel_rfl
abbrev c30_0 : AC := .seq (.ops 0 [⟨(some 13), .mv (.t 0), none⟩, ⟨(some 14), .mv (.t 2), none⟩, ⟨(some 15), .nc (.t 14), none⟩, ⟨(some 16), .fa (.t 15) 7, none⟩, ⟨(some 17), .ld (.t 16) 1 false, none⟩, ⟨(some 18), .ia (.t 17) (.k (.lf (.int .i64 0))) 1, none⟩, ⟨(some 19), .ld (.t 18) 1 false, none⟩, ⟨(some 20), .mv (.t 3), none⟩, ⟨(some 21), .callp 50 0 [(.t 13), (.t 19), (.t 20)], none⟩] [0, 4]) (.ops 0 [⟨(some 22), .mv (.t 0), none⟩, ⟨(some 23), .mv (.t 4), none⟩, ⟨(some 24), .callp 14 0 [(.t 22), (.t 23)], none⟩] [])
abbrev c30_1 : AC := .seq (.ops 0 [⟨(some 10), .mv (.t 0), none⟩, ⟨(some 11), .mv (.t 1), none⟩, ⟨(some 12), .callp 14 0 [(.t 10), (.t 11)], none⟩] [0, 2, 3, 4]) c30_0
abbrev c30 : AC := c30_1
theorem c30_ok : compileFn Tryd.prog 30 = some (25, AC.strip c30, []) := by kernel_rfl
abbrev c31_0 : AC := .cond (.t 22) .skip (.exit 0)
abbrev c31_1 : AC := .seq (.ops 2 [⟨(some 12), .mv (.t 9), none⟩, ⟨(some 13), .nc (.t 12), none⟩, ⟨(some 14), .fa (.t 13) 0, none⟩, ⟨(some 15), .fa (.t 14) 0, none⟩, ⟨(some 16), .ld (.t 15) 1 false, none⟩, ⟨(some 17), .mv (.t 1), none⟩, ⟨(some 18), .nc (.t 17), none⟩, ⟨(some 19), .fa (.t 18) 0, none⟩, ⟨(some 20), .fa (.t 19) 0, none⟩, ⟨(some 21), .ld (.t 20) 1 false, none⟩, ⟨(some 22), .bin .eql (.t 16) (.t 21), none⟩] [0, 1, 2, 3, 8, 9, 22]) c31_0
abbrev c31_2 : AC := .seq (.ops 0 [⟨(some 23), .mv (.t 8), none⟩, ⟨(some 24), .mv (.t 9), none⟩, ⟨(some 25), .nc (.t 24), none⟩, ⟨(some 26), .fa (.t 25) 7, none⟩, ⟨(some 27), .ld (.t 26) 1 false, none⟩, ⟨(some 28), .ia (.t 27) (.k (.lf (.int .i64 1))) 1, none⟩, ⟨(some 29), .ld (.t 28) 1 false, none⟩, ⟨(some 30), .bsf 49 1 1 [.nilp] [(0, (.t 29))], none⟩, ⟨(some 31), .app 49 1 8 (.t 23) (.t 30), none⟩, ⟨(some 8), .as 49 1 (.t 31), none⟩] [0, 1, 2, 3, 8, 9]) (.ops 0 [⟨(some 32), .mv (.t 9), none⟩, ⟨(some 33), .nc (.t 32), none⟩, ⟨(some 34), .fa (.t 33) 7, none⟩, ⟨(some 35), .ld (.t 34) 1 false, none⟩, ⟨(some 36), .ia (.t 35) (.k (.lf (.int .i64 0))) 1, none⟩, ⟨(some 37), .ld (.t 36) 1 false, none⟩, ⟨(some 9), .as 0 0 (.t 37), none⟩] [0, 1, 2, 3, 8, 9])
abbrev c31_3 : AC := .block 1 c31_2
abbrev c31_4 : AC := .seq c31_1 c31_3
abbrev c31_5 : AC := .loop c31_4 [0, 1, 2, 3, 8, 9]
abbrev c31_6 : AC := .block 0 c31_5
abbrev c31_7 : AC := .cond (.t 46) .skip (.exit 2)
abbrev c31_8 : AC := .seq (.ops 0 [⟨(some 45), .mv (.t 10), none⟩, ⟨(some 46), .bin .geq (.t 45) (.k (.lf (.int .i64 0))), none⟩] [0, 2, 3, 8, 10, 46]) c31_7
abbrev c31_9 : AC := .seq (.ops 0 [⟨(some 49), .mv (.t 0), none⟩, ⟨(some 50), .mv (.t 3), none⟩, ⟨(some 51), .callp 14 0 [(.t 49), (.t 50)], none⟩] [0, 2, 3, 8, 10]) (.ops 0 [⟨(some 52), .mv (.t 0), none⟩, ⟨(some 53), .mv (.t 8), none⟩, ⟨(some 54), .mv (.t 10), none⟩, ⟨(some 55), .ia (.t 53) (.t 54) 1, none⟩, ⟨(some 56), .ld (.t 55) 1 false, none⟩, ⟨(some 57), .mv (.t 2), none⟩, ⟨(some 58), .bin .add (.t 57) (.k (.lf (.int .i64 1))), none⟩, ⟨(some 59), .callp 50 0 [(.t 52), (.t 56), (.t 58)], none⟩] [0, 2, 3, 8, 10])
abbrev c31_10 : AC := .block 3 c31_9
abbrev c31_11 : AC := .seq c31_10 (.ops 0 [⟨(some 47), .mv (.t 10), none⟩, ⟨(some 48), .bin .sub (.t 47) (.k (.lf (.int .i64 1))), none⟩, ⟨(some 10), .as 0 0 (.t 48), none⟩] [0, 2, 3, 8, 10])
abbrev c31_12 : AC := .seq c31_8 c31_11
abbrev c31_13 : AC := .loop c31_12 [0, 2, 3, 8, 10]
abbrev c31_14 : AC := .block 2 c31_13
abbrev c31_15 : AC := .seq (.ops 0 [⟨(some 42), .mv (.t 8), none⟩, ⟨(some 43), .len (.t 42), none⟩, ⟨(some 44), .bin .sub (.t 43) (.k (.lf (.int .i64 1))), none⟩, ⟨(some 10), .as 0 0 (.t 44), none⟩] [0, 2, 3, 8, 10]) c31_14
abbrev c31_16 : AC := .seq (.ops 0 [⟨(some 38), .mv (.t 0), none⟩, ⟨(some 39), .mv (.t 9), none⟩, ⟨(some 40), .mv (.t 2), none⟩, ⟨(some 41), .callp 50 0 [(.t 38), (.t 39), (.t 40)], none⟩] [0, 2, 3, 8]) c31_15
abbrev c31_17 : AC := .seq c31_6 c31_16
abbrev c31_18 : AC := .seq (.ops 0 [⟨(some 11), .mv (.t 1), none⟩, ⟨(some 9), .as 0 0 (.t 11), none⟩] [0, 1, 2, 3, 8, 9]) c31_17
abbrev c31_19 : AC := .seq (.ops 0 [⟨(some 8), .as 49 1 (.k (.lf (.lst .nl 1 [] []))), none⟩] [0, 1, 2, 3, 8]) c31_18
abbrev c31 : AC := c31_19
theorem c31_ok : compileFn Tryd.prog 31 = some (60, AC.strip c31, []) := by kernel_rfl
abbrev c32_0 : AC := .seq (.ops 0 [⟨(some 2), .as 0 0 (.k (.lf (.str ⟨#[42]⟩))), none⟩] [2]) .ret
abbrev c32_1 : AC := .seq (.ops 0 [⟨(some 2), .as 0 0 (.k (.lf (.str ⟨#[43]⟩))), none⟩] [2]) .ret
abbrev c32_2 : AC := .seq (.ops 0 [⟨(some 2), .as 0 0 (.k (.lf (.str ⟨#[63]⟩))), none⟩] [2]) .ret
abbrev c32_3 : AC := .seq (.ops 0 [⟨(some 23), .mv (.t 3), none⟩, ⟨(some 24), .bin .add (.k (.lf (.str ⟨#[94]⟩))) (.t 23), none⟩, ⟨(some 2), .as 0 0 (.t 24), none⟩] [2]) .ret
abbrev c32_4 : AC := .seq (.ops 0 [⟨(some 27), .mv (.t 3), none⟩, ⟨(some 28), .bin .add (.k (.lf (.str ⟨#[94, 43]⟩))) (.t 27), none⟩, ⟨(some 2), .as 0 0 (.t 28), none⟩] [2]) .ret
abbrev c32_5 : AC := .seq (.ops 0 [⟨(some 31), .mv (.t 3), none⟩, ⟨(some 32), .bin .add (.k (.lf (.str ⟨#[94, 45]⟩))) (.t 31), none⟩, ⟨(some 2), .as 0 0 (.t 32), none⟩] [2]) .ret
abbrev c32_6 : AC := .seq (.ops 0 [⟨(some 35), .mv (.t 0), none⟩, ⟨(some 36), .nc (.t 35), none⟩, ⟨(some 37), .fa (.t 36) 0, none⟩, ⟨(some 38), .fa (.t 37) 2, none⟩, ⟨(some 39), .ld (.t 38) 1 false, none⟩, ⟨(some 40), .call 28 [(.t 39)], none⟩, ⟨(some 41), .bin .add (.k (.lf (.str ⟨#[32, 45, 62, 32]⟩))) (.t 40), none⟩, ⟨(some 2), .as 0 0 (.t 41), none⟩] [2]) .ret
abbrev c32_7 : AC := .cond (.t 33) c32_6 .skip
abbrev c32_8 : AC := .seq (.ops 0 [⟨(some 34), .bin .eql (.t 14) (.k (.lf (.int .i64 22))), none⟩, ⟨(some 33), .as 0 0 (.t 34), none⟩] [0, 3, 33]) c32_7
abbrev c32_9 : AC := .cond (.t 29) c32_5 c32_8
abbrev c32_10 : AC := .seq (.ops 0 [⟨(some 30), .bin .eql (.t 14) (.k (.lf (.int .i64 16))), none⟩, ⟨(some 29), .as 0 0 (.t 30), none⟩] [0, 3, 14, 29]) c32_9
abbrev c32_11 : AC := .cond (.t 25) c32_4 c32_10
abbrev c32_12 : AC := .seq (.ops 0 [⟨(some 26), .bin .eql (.t 14) (.k (.lf (.int .i64 15))), none⟩, ⟨(some 25), .as 0 0 (.t 26), none⟩] [0, 3, 14, 25]) c32_11
abbrev c32_13 : AC := .cond (.t 21) c32_3 c32_12
abbrev c32_14 : AC := .seq (.ops 0 [⟨(some 22), .bin .eql (.t 14) (.k (.lf (.int .i64 14))), none⟩, ⟨(some 21), .as 0 0 (.t 22), none⟩] [0, 3, 14, 21]) c32_13
abbrev c32_15 : AC := .cond (.t 19) c32_2 c32_14
abbrev c32_16 : AC := .seq (.ops 0 [⟨(some 20), .bin .eql (.t 14) (.k (.lf (.int .i64 11))), none⟩, ⟨(some 19), .as 0 0 (.t 20), none⟩] [0, 3, 14, 19]) c32_15
abbrev c32_17 : AC := .cond (.t 17) c32_1 c32_16
abbrev c32_18 : AC := .seq (.ops 0 [⟨(some 18), .bin .eql (.t 14) (.k (.lf (.int .i64 10))), none⟩, ⟨(some 17), .as 0 0 (.t 18), none⟩] [0, 3, 14, 17]) c32_17
abbrev c32_19 : AC := .cond (.t 15) c32_0 c32_18
abbrev c32_20 : AC := .seq (.ops 0 [⟨(some 16), .bin .eql (.t 14) (.k (.lf (.int .i64 9))), none⟩, ⟨(some 15), .as 0 0 (.t 16), none⟩] [0, 3, 14, 15]) c32_19
abbrev c32_21 : AC := .block 0 c32_20
abbrev c32_22 : AC := .seq (.ops 0 [⟨(some 10), .mv (.t 0), none⟩, ⟨(some 11), .nc (.t 10), none⟩, ⟨(some 12), .fa (.t 11) 0, none⟩, ⟨(some 13), .fa (.t 12) 0, none⟩, ⟨(some 14), .ld (.t 13) 1 false, none⟩] [0, 3, 14]) c32_21
abbrev c32_23 : AC := .seq (.ops 0 [⟨(some 42), .mv (.t 3), none⟩, ⟨(some 43), .bin .add (.k (.lf (.str ⟨#[32, 45, 62, 32]⟩))) (.t 42), none⟩, ⟨(some 2), .as 0 0 (.t 43), none⟩] [2]) .ret
abbrev c32_24 : AC := .seq c32_22 c32_23
abbrev c32_25 : AC := .seq (.ops 0 [⟨(some 4), .mv (.t 0), none⟩, ⟨(some 5), .nc (.t 4), none⟩, ⟨(some 6), .fa (.t 5) 0, none⟩, ⟨(some 7), .fa (.t 6) 1, none⟩, ⟨(some 8), .ld (.t 7) 1 false, none⟩, ⟨(some 9), .call 44 [(.t 8)], none⟩, ⟨(some 3), .as 0 0 (.t 9), none⟩] [0, 3]) c32_24
abbrev c32_26 : AC := .seq (.ops 0 [⟨(some 2), .as 0 0 (.k (.lf (.str ⟨#[]⟩))), none⟩] [0]) c32_25
abbrev c32 : AC := c32_26
theorem c32_ok : compileFn Tryd.prog 32 = some (44, AC.strip c32, [.t 2]) := by kernel_rfl
abbrev c50_0 : AC := .seq (.ops 0 [⟨(some 17), .mv (.t 0), none⟩, ⟨(some 18), .callp 14 0 [(.t 17), (.k (.lf (.str ⟨#[41]⟩)))], none⟩] []) .ret
abbrev c50_1 : AC := .seq (.ops 0 [⟨(some 14), .mv (.t 0), none⟩, ⟨(some 15), .mv (.t 1), none⟩, ⟨(some 16), .callp 15 0 [(.t 14), (.t 15)], none⟩] [0]) c50_0
abbrev c50_2 : AC := .seq (.ops 0 [⟨(some 12), .mv (.t 0), none⟩, ⟨(some 13), .callp 14 0 [(.t 12), (.k (.lf (.str ⟨#[40]⟩)))], none⟩] [0, 1]) c50_1
abbrev c50_3 : AC := .cond (.t 11) c50_2 .skip
abbrev c50_4 : AC := .seq (.ops 0 [⟨(some 7), .mv (.t 6), none⟩, ⟨(some 8), .mv (.t 1), none⟩, ⟨(some 9), .cald (.t 7) [(.t 8)], none⟩, ⟨(some 10), .mv (.t 2), none⟩, ⟨(some 11), .bin .lss (.t 9) (.t 10), none⟩] [0, 1, 11]) c50_3
abbrev c50_5 : AC := .seq c50_4 (.ops 0 [⟨(some 19), .mv (.t 0), none⟩, ⟨(some 20), .mv (.t 1), none⟩, ⟨(some 21), .callp 15 0 [(.t 19), (.t 20)], none⟩] [])
abbrev c50_6 : AC := .seq (.ops 0 [⟨(some 6), .as 0 0 (.k (.lf (.fn 68 [] []))), none⟩] [0, 1, 2, 6]) c50_5
abbrev c50 : AC := c50_6
theorem c50_ok : compileFn Tryd.prog 50 = some (22, AC.strip c50, []) := by kernel_rfl
abbrev c68_0 : AC := .seq (.ops 0 [⟨(some 2), .as 0 0 (.k (.lf (.int .i64 0))), none⟩] [2]) .ret
abbrev c68_1 : AC := .seq (.ops 0 [⟨(some 2), .as 0 0 (.k (.lf (.int .i64 1))), none⟩] [2]) .ret
abbrev c68_2 : AC := .cond (.t 12) .skip (.ops 0 [⟨(some 14), .bin .eql (.t 7) (.k (.lf (.int .i64 13))), none⟩, ⟨(some 12), .as 0 0 (.t 14), none⟩] [7, 12])
abbrev c68_3 : AC := .seq (.ops 0 [⟨(some 13), .bin .eql (.t 7) (.k (.lf (.int .i64 12))), none⟩, ⟨(some 12), .as 0 0 (.t 13), none⟩] [7, 12]) c68_2
abbrev c68_4 : AC := .seq (.ops 0 [⟨(some 2), .as 0 0 (.k (.lf (.int .i64 2))), none⟩] [2]) .ret
abbrev c68_5 : AC := .cond (.t 15) .skip (.ops 0 [⟨(some 23), .bin .eql (.t 7) (.k (.lf (.int .i64 23))), none⟩, ⟨(some 15), .as 0 0 (.t 23), none⟩] [15])
abbrev c68_6 : AC := .seq (.ops 0 [⟨(some 22), .bin .eql (.t 7) (.k (.lf (.int .i64 22))), none⟩, ⟨(some 15), .as 0 0 (.t 22), none⟩] [7, 15]) c68_5
abbrev c68_7 : AC := .cond (.t 15) .skip c68_6
abbrev c68_8 : AC := .seq (.ops 0 [⟨(some 21), .bin .eql (.t 7) (.k (.lf (.int .i64 16))), none⟩, ⟨(some 15), .as 0 0 (.t 21), none⟩] [7, 15]) c68_7
abbrev c68_9 : AC := .cond (.t 15) .skip c68_8
abbrev c68_10 : AC := .seq (.ops 0 [⟨(some 20), .bin .eql (.t 7) (.k (.lf (.int .i64 15))), none⟩, ⟨(some 15), .as 0 0 (.t 20), none⟩] [7, 15]) c68_9
abbrev c68_11 : AC := .cond (.t 15) .skip c68_10
abbrev c68_12 : AC := .seq (.ops 0 [⟨(some 19), .bin .eql (.t 7) (.k (.lf (.int .i64 14))), none⟩, ⟨(some 15), .as 0 0 (.t 19), none⟩] [7, 15]) c68_11
abbrev c68_13 : AC := .cond (.t 15) .skip c68_12
abbrev c68_14 : AC := .seq (.ops 0 [⟨(some 18), .bin .eql (.t 7) (.k (.lf (.int .i64 11))), none⟩, ⟨(some 15), .as 0 0 (.t 18), none⟩] [7, 15]) c68_13
abbrev c68_15 : AC := .cond (.t 15) .skip c68_14
abbrev c68_16 : AC := .seq (.ops 0 [⟨(some 17), .bin .eql (.t 7) (.k (.lf (.int .i64 10))), none⟩, ⟨(some 15), .as 0 0 (.t 17), none⟩] [7, 15]) c68_15
abbrev c68_17 : AC := .cond (.t 15) .skip c68_16
abbrev c68_18 : AC := .seq (.ops 0 [⟨(some 16), .bin .eql (.t 7) (.k (.lf (.int .i64 9))), none⟩, ⟨(some 15), .as 0 0 (.t 16), none⟩] [7, 15]) c68_17
abbrev c68_19 : AC := .seq (.ops 0 [⟨(some 2), .as 0 0 (.k (.lf (.int .i64 3))), none⟩] [2]) .ret
abbrev c68_20 : AC := .cond (.t 15) c68_19 .skip
abbrev c68_21 : AC := .seq c68_18 c68_20
abbrev c68_22 : AC := .cond (.t 12) c68_4 c68_21
abbrev c68_23 : AC := .seq c68_3 c68_22
abbrev c68_24 : AC := .cond (.t 10) c68_1 c68_23
abbrev c68_25 : AC := .seq (.ops 0 [⟨(some 11), .bin .eql (.t 7) (.k (.lf (.int .i64 7))), none⟩, ⟨(some 10), .as 0 0 (.t 11), none⟩] [7, 10]) c68_24
abbrev c68_26 : AC := .cond (.t 8) c68_0 c68_25
abbrev c68_27 : AC := .seq (.ops 0 [⟨(some 9), .bin .eql (.t 7) (.k (.lf (.int .i64 8))), none⟩, ⟨(some 8), .as 0 0 (.t 9), none⟩] [7, 8]) c68_26
abbrev c68_28 : AC := .block 0 c68_27
abbrev c68_29 : AC := .seq (.ops 0 [⟨(some 3), .mv (.t 0), none⟩, ⟨(some 4), .nc (.t 3), none⟩, ⟨(some 5), .fa (.t 4) 0, none⟩, ⟨(some 6), .fa (.t 5) 0, none⟩, ⟨(some 7), .ld (.t 6) 1 false, none⟩] [7]) c68_28
abbrev c68_30 : AC := .seq (.ops 0 [⟨(some 2), .as 0 0 (.k (.lf (.int .i64 4))), none⟩] [2]) .ret
abbrev c68_31 : AC := .seq c68_29 c68_30
abbrev c68_32 : AC := .seq (.ops 0 [⟨(some 2), .as 0 0 (.k (.lf (.int .i64 0))), none⟩] [0]) c68_31
abbrev c68 : AC := c68_32
theorem c68_ok : compileFn Tryd.prog 68 = some (24, AC.strip c68, [.t 2]) := by kernel_rfl
abbrev c33_0 : AC := .seq (.ops 0 [⟨(some 2), .as 0 0 (.k (.lf (.int .i64 2))), none⟩] [2]) .ret
abbrev c33_1 : AC := .seq (.ops 0 [⟨(some 2), .as 0 0 (.k (.lf (.int .i64 0))), none⟩] [2]) .ret
abbrev c33_2 : AC := .seq (.ops 0 [⟨(some 2), .as 0 0 (.k (.lf (.int .i64 1))), none⟩] [2]) .ret
abbrev c33_3 : AC := .cond (.t 21) c33_2 .skip
abbrev c33_4 : AC := .seq (.ops 0 [⟨(some 22), .mv (.t 0), none⟩, ⟨(some 23), .bin .gtr (.t 22) (.k (.lf (.int .i64 8))), none⟩, ⟨(some 24), .mv (.t 23), none⟩, ⟨(some 25), .mv (.t 0), (some (24, true))⟩, ⟨(some 26), .bin .leq (.t 25) (.k (.lf (.int .i64 23))), (some (24, true))⟩, ⟨(some 27), .pk (.t 24) (.t 26) (.k (.lf (.bool false))), none⟩, ⟨(some 21), .as 0 0 (.t 27), none⟩] [21]) c33_3
abbrev c33_5 : AC := .cond (.t 10) c33_1 c33_4
abbrev c33_6 : AC := .seq (.ops 0 [⟨(some 11), .mv (.t 0), none⟩, ⟨(some 12), .bin .geq (.t 11) (.k (.lf (.int .i64 1))), none⟩, ⟨(some 13), .mv (.t 12), none⟩, ⟨(some 14), .mv (.t 0), (some (13, true))⟩, ⟨(some 15), .bin .leq (.t 14) (.k (.lf (.int .i64 6))), (some (13, true))⟩, ⟨(some 16), .pk (.t 13) (.t 15) (.k (.lf (.bool false))), none⟩, ⟨(some 17), .mv (.t 16), none⟩, ⟨(some 18), .mv (.t 0), (some (17, false))⟩, ⟨(some 19), .bin .eql (.t 18) (.k (.lf (.int .i64 17))), (some (17, false))⟩, ⟨(some 20), .pk (.t 17) (.k (.lf (.bool true))) (.t 19), none⟩, ⟨(some 10), .as 0 0 (.t 20), none⟩] [0, 10]) c33_5
abbrev c33_7 : AC := .cond (.t 3) c33_0 c33_6
abbrev c33_8 : AC := .seq (.ops 0 [⟨(some 4), .mv (.t 0), none⟩, ⟨(some 5), .bin .eql (.t 4) (.k (.lf (.int .i64 7))), none⟩, ⟨(some 6), .mv (.t 5), none⟩, ⟨(some 7), .mv (.t 0), (some (6, false))⟩, ⟨(some 8), .bin .eql (.t 7) (.k (.lf (.int .i64 8))), (some (6, false))⟩, ⟨(some 9), .pk (.t 6) (.k (.lf (.bool true))) (.t 8), none⟩, ⟨(some 3), .as 0 0 (.t 9), none⟩] [0, 3]) c33_7
abbrev c33_9 : AC := .block 0 c33_8
abbrev c33_10 : AC := .seq (.ops 0 [⟨(some 2), .as 0 0 (.k (.lf (.int .i64 (-1)))), none⟩] [2]) .ret
abbrev c33_11 : AC := .seq c33_9 c33_10
abbrev c33_12 : AC := .seq (.ops 0 [⟨(some 2), .as 0 0 (.k (.lf (.int .i64 0))), none⟩] [0]) c33_11
abbrev c33 : AC := c33_12
theorem c33_ok : compileFn Tryd.prog 33 = some (28, AC.strip c33, [.t 2]) := by kernel_rfl
abbrev c26_0 : AC := .seq (.ops 0 [⟨(some 3), .mv (.t 0), none⟩, ⟨(some 4), .nc (.t 3), none⟩, ⟨(some 5), .fa (.t 4) 1, none⟩, ⟨(some 6), .ld (.t 5) 1 false, none⟩, ⟨(some 7), .len (.t 6), none⟩, ⟨(some 2), .as 0 0 (.t 7), none⟩] [2]) .ret
abbrev c26_1 : AC := .seq (.ops 0 [⟨(some 2), .as 0 0 (.k (.lf (.int .i64 0))), none⟩] [0]) c26_0
abbrev c26 : AC := c26_1
theorem c26_ok : compileFn Tryd.prog 26 = some (8, AC.strip c26, [.t 2]) := by kernel_rfl
abbrev c27_0 : AC := .seq (.ops 0 [⟨(some 17), .mv (.t 1), none⟩, ⟨(some 18), .lns (.t 17), none⟩, ⟨(some 4), .as 0 0 (.t 18), none⟩, ⟨(some 5), .as 0 0 (.k (.lf (.nili))), none⟩] [4, 5]) .ret
abbrev c27_1 : AC := .seq (.ops 0 [⟨(some 8), .mv (.t 0), none⟩, ⟨(some 9), .mv (.t 0), none⟩, ⟨(some 10), .nc (.t 9), none⟩, ⟨(some 11), .fa (.t 10) 1, none⟩, ⟨(some 12), .ld (.t 11) 1 false, none⟩, ⟨(some 13), .mv (.t 1), none⟩, ⟨(some 14), .aps 5 (.t 12) (.t 13), none⟩, ⟨(some 15), .nc (.t 8), none⟩, ⟨(some 16), .fa (.t 15) 1, none⟩, ⟨none, .st (.t 16) (.t 14) 1, none⟩] [1]) c27_0
abbrev c27_2 : AC := .seq (.ops 0 [⟨(some 6), .mv (.t 0), none⟩, ⟨(some 7), .callp 45 0 [(.t 6)], none⟩] [0, 1]) c27_1
abbrev c27_3 : AC := .seq (.ops 0 [⟨(some 4), .as 0 0 (.k (.lf (.int .i64 0))), none⟩, ⟨(some 5), .as 0 0 (.k (.lf (.nili))), none⟩] [0, 1]) c27_2
abbrev c27 : AC := c27_3
theorem c27_ok : compileFn Tryd.prog 27 = some (19, AC.strip c27, [.t 4, .t 5]) := by kernel_rfl
abbrev c34_0 : AC := .seq (.reg [⟨(some 3), .mv (.t 0), none⟩, ⟨(some 4), .nc (.t 3), none⟩, ⟨(some 5), .fa (.t 4) 1, none⟩, ⟨(some 6), .ld (.t 5) 1 false, none⟩, ⟨(some 7), .usd (.t 6), none⟩, ⟨(some 8), .mv (.t 0), none⟩, ⟨(some 9), .nc (.t 8), none⟩, ⟨(some 10), .fa (.t 9) 1, none⟩, ⟨(some 11), .ld (.t 10) 1 false, none⟩, ⟨(some 12), .len (.t 11), none⟩] [⟨(some 13), .ust 5 (.t 7) (.t 12), none⟩, ⟨(some 2), .as 0 0 (.t 13), none⟩] [2]) .ret
abbrev c34_1 : AC := .seq (.ops 0 [⟨(some 2), .as 0 0 (.k (.lf (.str ⟨#[]⟩))), none⟩] [0]) c34_0
abbrev c34 : AC := c34_1
theorem c34_ok : compileFn Tryd.prog 34 = some (14, AC.strip c34, [.t 2]) := by kernel_rfl
abbrev c45_0 : AC := .cond (.t 19) .bad .skip
abbrev c45_1 : AC := .seq (.ops 0 [⟨(some 14), .mv (.t 0), none⟩, ⟨(some 15), .nc (.t 14), none⟩, ⟨(some 16), .fa (.t 15) 0, none⟩, ⟨(some 17), .ld (.t 16) 1 false, none⟩, ⟨(some 18), .mv (.t 0), none⟩, ⟨(some 19), .peq true (.t 17) (.t 18), none⟩] [19]) c45_0
abbrev c45_2 : AC := .cond (.t 6) (.ops 0 [⟨(some 7), .mv (.t 0), none⟩, ⟨(some 8), .mv (.t 0), none⟩, ⟨(some 9), .p2u (.t 8), none⟩, ⟨(some 10), .ex 0 [(.t 9)], none⟩, ⟨(some 11), .u2p 44 (.t 10), none⟩, ⟨(some 12), .nc (.t 7), none⟩, ⟨(some 13), .fa (.t 12) 0, none⟩, ⟨none, .st (.t 13) (.t 11) 1, none⟩] []) c45_1
abbrev c45_3 : AC := .seq (.ops 0 [⟨(some 2), .mv (.t 0), none⟩, ⟨(some 3), .nc (.t 2), none⟩, ⟨(some 4), .fa (.t 3) 0, none⟩, ⟨(some 5), .ld (.t 4) 1 false, none⟩, ⟨(some 6), .peq false (.t 5) (.k (.lf (.nilp))), none⟩] [0, 6]) c45_2
abbrev c45 : AC := c45_3
theorem c45_ok : compileFn Tryd.prog 45 = some (20, AC.strip c45, []) := by kernel_rfl
abbrev c64_0 : AC := .seq (.ops 0 [⟨(some 4), .as 0 0 (.k (.lf (.nili))), none⟩] [4]) .ret
abbrev c64_1 : AC := .seq (.ops 0 [⟨(some 7), .mv (.t 0), none⟩, ⟨(some 8), .mv (.t 0), none⟩, ⟨(some 9), .nc (.t 8), none⟩, ⟨(some 10), .fa (.t 9) 1, none⟩, ⟨(some 11), .ld (.t 10) 1 false, none⟩, ⟨(some 12), .mv (.t 1), none⟩, ⟨(some 13), .bs 5 1 1 [.int .u8 0] [(0, (.t 12))], none⟩, ⟨(some 14), .app 5 1 1 (.t 11) (.t 13), none⟩, ⟨(some 15), .nc (.t 7), none⟩, ⟨(some 16), .fa (.t 15) 1, none⟩, ⟨none, .st (.t 16) (.t 14) 1, none⟩] []) c64_0
abbrev c64_2 : AC := .seq (.ops 0 [⟨(some 5), .mv (.t 0), none⟩, ⟨(some 6), .callp 45 0 [(.t 5)], none⟩] [0, 1]) c64_1
abbrev c64_3 : AC := .seq (.ops 0 [⟨(some 4), .as 0 0 (.k (.lf (.nili))), none⟩] [0, 1]) c64_2
abbrev c64 : AC := c64_3
theorem c64_ok : compileFn Tryd.prog 64 = some (17, AC.strip c64, [.t 4]) := by kernel_rfl
end Go.Proofs.YtdoefdmaecaacaaDoor.S
set_option maxRecDepth 100000
namespace Go.Proofs.YtdoefdmaecaacaaDoor.S
open Go Go.Proofs.YtdoefdmaecaacaaDoor.AM
abbrev c13_0 : AC := .seq (.ops 0 [⟨(some 2), .as 0 0 (.k (.lf (.int .i64 3))), none⟩] [2]) .ret
abbrev c13_1 : AC := .cond (.t 11) c13_0 .skip
abbrev c13_2 : AC := .seq (.ops 0 [⟨(some 8), .fa (.t 1) 0, none⟩, ⟨(some 9), .ld (.t 8) 1 false, none⟩, ⟨(some 10), .len (.t 9), none⟩, ⟨(some 11), .bin .eql (.t 10) (.k (.lf (.int .i64 0))), none⟩] [1, 11]) c13_1
abbrev c13_3 : AC := .seq (.ops 0 [⟨(some 2), .as 0 0 (.k (.lf (.int .i64 2))), none⟩] [2]) .ret
abbrev c13_4 : AC := .cond (.t 15) c13_3 .skip
abbrev c13_5 : AC := .seq (.ops 0 [⟨(some 12), .fa (.t 1) 0, none⟩, ⟨(some 13), .ld (.t 12) 1 false, none⟩, ⟨(some 14), .len (.t 13), none⟩, ⟨(some 15), .bin .gtr (.t 14) (.k (.lf (.int .i64 200))), none⟩] [1, 15]) c13_4
abbrev c13_6 : AC := .cond (.t 20) .skip (.exit 0)
abbrev c13_7 : AC := .seq (.ops 0 [⟨(some 2), .as 0 0 (.k (.lf (.int .i64 6))), none⟩] [2]) .ret
abbrev c13_8 : AC := .cond (.t 37) c13_7 .skip
abbrev c13_9 : AC := .seq (.ops 0 [⟨(some 23), .fa (.t 5) 0, none⟩, ⟨(some 24), .ld (.t 23) 1 false, none⟩, ⟨(some 25), .call 25 [(.t 24)], none⟩, ⟨(some 26), .un .not (.t 25), none⟩, ⟨(some 27), .mv (.t 26), none⟩, ⟨(some 28), .fa (.t 5) 0, (some (27, true))⟩, ⟨(some 29), .ld (.t 28) 1 false, (some (27, true))⟩, ⟨(some 30), .bin .neq (.t 29) (.k (.lf (.str ⟨#[]⟩))), (some (27, true))⟩, ⟨(some 31), .mv (.t 30), (some (27, true))⟩, ⟨(some 32), .fa (.t 1) 0, (some (31, false))⟩, ⟨(some 33), .ld (.t 32) 1 false, (some (31, false))⟩, ⟨(some 34), .len (.t 33), (some (31, false))⟩, ⟨(some 35), .bin .gtr (.t 34) (.k (.lf (.int .i64 1))), (some (31, false))⟩, ⟨(some 36), .pk (.t 31) (.k (.lf (.bool true))) (.t 35), (some (27, true))⟩, ⟨(some 37), .pk (.t 27) (.t 36) (.k (.lf (.bool false))), none⟩] [1, 3, 5, 17, 18, 19, 37]) c13_8
abbrev c13_10 : AC := .seq (.ops 0 [⟨(some 46), .mv (.t 7), none⟩, ⟨(some 2), .as 0 0 (.t 46), none⟩] [2]) .ret
abbrev c13_11 : AC := .cond (.t 45) c13_10 .skip
abbrev c13_12 : AC := .seq (.ops 0 [⟨(some 44), .mv (.t 7), none⟩, ⟨(some 45), .bin .neq (.t 44) (.k (.lf (.int .i64 0))), none⟩] [1, 3, 5, 7, 17, 18, 19, 45]) c13_11
abbrev c13_13 : AC := .seq (.ops 0 [⟨(some 39), .fa (.t 5) 1, none⟩, ⟨(some 40), .ld (.t 39) 1 false, none⟩, ⟨(some 41), .call 22 [(.t 40)], none⟩, ⟨(some 38), .mv (.t 41), none⟩, ⟨(some 42), .ext (.t 38) 0, none⟩, ⟨(some 43), .ext (.t 38) 1, none⟩, ⟨(some 6), .as 0 0 (.t 42), none⟩, ⟨(some 7), .as 0 0 (.t 43), none⟩] [1, 3, 5, 7, 17, 18, 19]) c13_12
abbrev c13_14 : AC := .seq (.ops 0 [⟨(some 2), .as 0 0 (.k (.lf (.int .i64 2))), none⟩] [2]) .ret
abbrev c13_15 : AC := .cond (.t 53) c13_14 .skip
abbrev c13_16 : AC := .seq (.ops 0 [⟨(some 52), .mv (.t 3), none⟩, ⟨(some 53), .bin .gtr (.t 52) (.k (.lf (.int .i64 2048))), none⟩] [1, 3, 17, 18, 19, 53]) c13_15
abbrev c13_17 : AC := .seq (.ops 0 [⟨(some 47), .mv (.t 3), none⟩, ⟨(some 48), .fa (.t 5) 1, none⟩, ⟨(some 49), .ld (.t 48) 1 false, none⟩, ⟨(some 50), .len (.t 49), none⟩, ⟨(some 51), .bin .add (.t 47) (.t 50), none⟩, ⟨(some 3), .as 0 0 (.t 51), none⟩] [1, 3, 17, 18, 19]) c13_16
abbrev c13_18 : AC := .seq c13_13 c13_17
abbrev c13_19 : AC := .seq c13_9 c13_18
abbrev c13_20 : AC := .seq (.ops 0 [⟨(some 21), .ia (.t 17) (.t 19) 2, none⟩, ⟨(some 22), .ld (.t 21) 2 true, none⟩, ⟨(some 5), .al [.str ⟨#[]⟩, .lst (.own 643 58) 7 [] []], none⟩, ⟨none, .st (.t 5) (.t 22) 2, none⟩] [1, 3, 5, 17, 18, 19]) c13_19
abbrev c13_21 : AC := .block 1 c13_20
abbrev c13_22 : AC := .seq c13_21 (.ops 0 [⟨(some 54), .bin .add (.t 19) (.k (.lf (.int .i64 1))), none⟩, ⟨(some 19), .mv (.t 54), none⟩] [1, 3, 17, 18, 19])
abbrev c13_23 : AC := .seq c13_6 c13_22
abbrev c13_24 : AC := .seq (.ops 0 [⟨(some 20), .bin .lss (.t 19) (.t 18), none⟩] [1, 3, 17, 18, 19, 20]) c13_23
abbrev c13_25 : AC := .loop c13_24 [1, 3, 17, 18, 19]
abbrev c13_26 : AC := .block 0 c13_25
abbrev c13_27 : AC := .seq (.ops 0 [⟨(some 16), .fa (.t 1) 0, none⟩, ⟨(some 17), .ld (.t 16) 1 false, none⟩, ⟨(some 18), .len (.t 17), none⟩, ⟨(some 19), .mv (.k (.lf (.int .i64 0))), none⟩] [1, 3, 17, 18, 19]) c13_26
abbrev c13_28 : AC := .seq (.ops 0 [⟨(some 2), .as 0 0 (.k (.lf (.int .i64 0))), none⟩] [2]) .ret
abbrev c13_29 : AC := .seq c13_27 c13_28
abbrev c13_30 : AC := .seq (.ops 0 [⟨(some 3), .as 0 0 (.k (.lf (.int .i64 0))), none⟩] [1, 3]) c13_29
abbrev c13_31 : AC := .seq c13_5 c13_30
abbrev c13_32 : AC := .seq c13_2 c13_31
abbrev c13_33 : AC := .seq (.ops 0 [⟨(some 1), .bx (.t 0), none⟩, ⟨(some 2), .as 0 0 (.k (.lf (.int .i64 0))), none⟩] [1]) c13_32
abbrev c13 : AC := c13_33
theorem c13_ok : compileFn Tryd.prog 13 = some (55, AC.strip c13, [.t 2]) := by kernel_rfl
abbrev c22_0 : AC := .seq (.ops 0 [⟨(some 2), .as 0 0 (.k (.lf (.int .i64 0))), none⟩, ⟨(some 3), .as 0 0 (.k (.lf (.int .i64 2))), none⟩] [2, 3]) .ret
abbrev c22_1 : AC := .cond (.t 6) c22_0 .skip
abbrev c22_2 : AC := .seq (.ops 0 [⟨(some 4), .mv (.t 0), none⟩, ⟨(some 5), .len (.t 4), none⟩, ⟨(some 6), .bin .gtr (.t 5) (.k (.lf (.int .i64 2048))), none⟩] [0, 6]) c22_1
abbrev c22_3 : AC := .seq (.ops 0 [⟨(some 7), .mv (.t 0), none⟩, ⟨(some 8), .call 40 [(.t 7), (.k (.lf (.fn 41 [] [])))], none⟩, ⟨(some 9), .ext (.t 8) 0, none⟩, ⟨(some 10), .ext (.t 8) 1, none⟩, ⟨(some 2), .as 0 0 (.t 9), none⟩, ⟨(some 3), .as 0 0 (.t 10), none⟩] [2, 3]) .ret
abbrev c22_4 : AC := .seq c22_2 c22_3
abbrev c22_5 : AC := .seq (.ops 0 [⟨(some 2), .as 0 0 (.k (.lf (.int .i64 0))), none⟩, ⟨(some 3), .as 0 0 (.k (.lf (.int .i64 0))), none⟩] [0]) c22_4
abbrev c22 : AC := c22_5
theorem c22_ok : compileFn Tryd.prog 22 = some (11, AC.strip c22, [.t 2, .t 3]) := by kernel_rfl
abbrev c25_0 : AC := .seq (.ops 0 [⟨(some 12), .mv (.t 4), none⟩, ⟨(some 13), .bin .eql (.t 12) (.k (.lf (.int .i64 0))), none⟩, ⟨(some 2), .as 0 0 (.t 13), none⟩] [2]) .ret
abbrev c25_1 : AC := .seq (.ops 0 [⟨(some 6), .mv (.t 0), none⟩, ⟨(some 7), .bd [.int .i64 0, .int .i64 0, .str ⟨#[]⟩, .int .u64 0, .int .u64 0, .int .u64 0, .int .u64 0] [(0, 1, (.k (.lf (.int .i64 6)))), (2, 1, (.t 6))], none⟩, ⟨(some 8), .bs 58 7 1 [.int .i64 0, .int .i64 0, .str ⟨#[]⟩, .int .u64 0, .int .u64 0, .int .u64 0, .int .u64 0] [(0, (.t 7))], none⟩, ⟨(some 9), .call 22 [(.t 8)], none⟩, ⟨(some 5), .mv (.t 9), none⟩, ⟨(some 10), .ext (.t 5) 0, none⟩, ⟨(some 11), .ext (.t 5) 1, none⟩, ⟨(some 3), .as 0 0 (.t 10), none⟩, ⟨(some 4), .as 0 0 (.t 11), none⟩] [4]) c25_0
abbrev c25_2 : AC := .seq (.ops 0 [⟨(some 2), .as 0 0 (.k (.lf (.bool false))), none⟩] [0]) c25_1
abbrev c25 : AC := c25_2
theorem c25_ok : compileFn Tryd.prog 25 = some (14, AC.strip c25, [.t 2]) := by kernel_rfl
abbrev c40_0 : AC := .cond (.t 19) .skip (.exit 0)
abbrev c40_1 : AC := .seq (.ops 0 [⟨(some 28), .mv (.t 7), none⟩, ⟨(some 4), .as 0 0 (.t 28), none⟩, ⟨(some 5), .as 0 0 (.k (.lf (.int .i64 40))), none⟩] [4, 5]) .ret
abbrev c40_2 : AC := .cond (.t 27) c40_1 .skip
abbrev c40_3 : AC := .seq (.ops 0 [⟨(some 26), .mv (.t 9), none⟩, ⟨(some 27), .bin .lss (.t 26) (.k (.lf (.int .i64 0))), none⟩] [0, 1, 6, 7, 8, 9, 16, 17, 18, 27]) c40_2
abbrev c40_4 : AC := .seq (.ops 0 [⟨(some 32), .mv (.t 7), none⟩, ⟨(some 4), .as 0 0 (.t 32), none⟩, ⟨(some 5), .as 0 0 (.k (.lf (.int .i64 41))), none⟩] [4, 5]) .ret
abbrev c40_5 : AC := .cond (.t 31) c40_4 .skip
abbrev c40_6 : AC := .seq (.ops 0 [⟨(some 29), .ld (.t 8) 7 true, none⟩, ⟨(some 30), .call 57 [(.t 29)], none⟩, ⟨(some 31), .un .not (.t 30), none⟩] [0, 1, 6, 7, 8, 9, 16, 17, 18, 31]) c40_5
abbrev c40_7 : AC := .cond (.t 37) .skip (.exit 2)
abbrev c40_8 : AC := .seq (.ops 0 [⟨(some 42), .mv (.t 7), none⟩, ⟨(some 4), .as 0 0 (.t 42), none⟩, ⟨(some 5), .as 0 0 (.k (.lf (.int .i64 42))), none⟩] [4, 5]) .ret
abbrev c40_9 : AC := .cond (.t 41) c40_8 .skip
abbrev c40_10 : AC := .seq (.ops 0 [⟨(some 39), .fa (.t 10) 0, none⟩, ⟨(some 40), .ld (.t 39) 1 false, none⟩, ⟨(some 41), .bin .eql (.t 40) (.k (.lf (.int .i64 0))), none⟩] [0, 1, 6, 7, 8, 10, 11, 16, 17, 18, 35, 36, 41]) c40_9
abbrev c40_11 : AC := .cond (.t 62) (.ops 0 [⟨(some 63), .fa (.t 12) 1, none⟩, ⟨(some 64), .ld (.t 63) 1 false, none⟩, ⟨(some 65), .bin .sub (.t 64) (.k (.lf (.int .i64 1))), none⟩, ⟨(some 66), .fa (.t 12) 1, none⟩, ⟨none, .st (.t 66) (.t 65) 1, none⟩] [0, 1, 6, 7, 8, 10, 12, 16, 17, 18, 35, 36]) .skip
abbrev c40_12 : AC := .seq (.ops 2 [⟨(some 49), .mv (.t 11), none⟩, ⟨(some 50), .bin .eql (.t 49) (.k (.lf (.int .i64 1))), none⟩, ⟨(some 51), .mv (.t 50), none⟩, ⟨(some 52), .mv (.t 0), (some (51, true))⟩, ⟨(some 53), .fa (.t 10) 0, (some (51, true))⟩, ⟨(some 54), .ld (.t 53) 1 false, (some (51, true))⟩, ⟨(some 55), .bin .sub (.t 54) (.k (.lf (.int .i64 1))), (some (51, true))⟩, ⟨(some 56), .ia (.t 52) (.t 55) 7, (some (51, true))⟩, ⟨(some 57), .fa (.t 56) 0, (some (51, true))⟩, ⟨(some 58), .ld (.t 57) 1 false, (some (51, true))⟩, ⟨(some 59), .fa (.t 8) 0, (some (51, true))⟩, ⟨(some 60), .ld (.t 59) 1 false, (some (51, true))⟩, ⟨(some 61), .bin .eql (.t 58) (.t 60), (some (51, true))⟩, ⟨(some 62), .pk (.t 51) (.t 61) (.k (.lf (.bool false))), none⟩] [0, 1, 6, 7, 8, 10, 12, 16, 17, 18, 35, 36, 62]) c40_11
abbrev c40_13 : AC := .seq c40_12 (.ops 0 [⟨(some 67), .fa (.t 12) 0, none⟩, ⟨(some 68), .ld (.t 67) 1 false, none⟩, ⟨(some 69), .fa (.t 10) 1, none⟩, ⟨(some 70), .ld (.t 69) 1 false, none⟩, ⟨(some 71), .fa (.t 12) 1, none⟩, ⟨(some 72), .ld (.t 71) 1 false, none⟩, ⟨(some 73), .mm true (.t 70) (.t 72), none⟩, ⟨(some 74), .bd [.int .i64 0, .int .i64 0] [(0, 1, (.t 68)), (1, 1, (.t 73))], none⟩, ⟨none, .st (.t 10) (.t 74) 2, none⟩] [0, 1, 6, 7, 8, 10, 16, 17, 18, 35, 36])
abbrev c40_14 : AC := .seq (.ops 0 [⟨(some 43), .mv (.t 6), none⟩, ⟨(some 44), .fa (.t 10) 0, none⟩, ⟨(some 45), .ld (.t 44) 1 false, none⟩, ⟨(some 46), .bin .sub (.t 45) (.k (.lf (.int .i64 1))), none⟩, ⟨(some 47), .ia (.t 43) (.t 46) 2, none⟩, ⟨(some 48), .ld (.t 47) 2 true, none⟩, ⟨(some 12), .al [.int .i64 0, .int .i64 0], none⟩, ⟨none, .st (.t 12) (.t 48) 2, none⟩] [0, 1, 6, 7, 8, 10, 11, 12, 16, 17, 18, 35, 36]) c40_13
abbrev c40_15 : AC := .seq c40_10 c40_14
abbrev c40_16 : AC := .seq (.ops 0 [⟨(some 38), .mv (.t 36), none⟩, ⟨(some 11), .as 0 0 (.t 38), none⟩] [0, 1, 6, 7, 8, 10, 11, 16, 17, 18, 35, 36]) c40_15
abbrev c40_17 : AC := .block 3 c40_16
abbrev c40_18 : AC := .seq c40_17 (.ops 0 [⟨(some 75), .bin .add (.t 36) (.k (.lf (.int .i64 1))), none⟩, ⟨(some 36), .mv (.t 75), none⟩] [0, 1, 6, 7, 8, 10, 16, 17, 18, 35, 36])
abbrev c40_19 : AC := .seq c40_7 c40_18
abbrev c40_20 : AC := .seq (.ops 0 [⟨(some 37), .bin .lss (.t 36) (.t 35), none⟩] [0, 1, 6, 7, 8, 10, 16, 17, 18, 35, 36, 37]) c40_19
abbrev c40_21 : AC := .loop c40_20 [0, 1, 6, 7, 8, 10, 16, 17, 18, 35, 36]
abbrev c40_22 : AC := .block 2 c40_21
abbrev c40_23 : AC := .seq (.ops 0 [⟨(some 35), .mv (.t 9), none⟩, ⟨(some 36), .mv (.k (.lf (.int .i64 0))), none⟩] [0, 1, 6, 7, 8, 10, 16, 17, 18, 35, 36]) c40_22
abbrev c40_24 : AC := .seq (.ops 0 [⟨(some 83), .mv (.t 7), none⟩, ⟨(some 4), .as 0 0 (.t 83), none⟩, ⟨(some 5), .as 0 0 (.k (.lf (.int .i64 4))), none⟩] [4, 5]) .ret
abbrev c40_25 : AC := .cond (.t 82) c40_24 .skip
abbrev c40_26 : AC := .seq (.ops 0 [⟨(some 80), .fa (.t 10) 1, none⟩, ⟨(some 81), .ld (.t 80) 1 false, none⟩, ⟨(some 82), .bin .gtr (.t 81) (.k (.lf (.int .i64 60))), none⟩] [0, 1, 6, 7, 10, 16, 17, 18, 82]) c40_25
abbrev c40_27 : AC := .seq (.ops 0 [⟨(some 84), .mv (.t 6), none⟩, ⟨(some 85), .ld (.t 10) 2 true, none⟩, ⟨(some 86), .bs 86 2 1 [.int .i64 0, .int .i64 0] [(0, (.t 85))], none⟩, ⟨(some 87), .app 86 2 16 (.t 84) (.t 86), none⟩, ⟨(some 6), .as 86 2 (.t 87), none⟩] [0, 1, 6, 7, 10, 16, 17, 18]) (.ops 0 [⟨(some 88), .mv (.t 1), none⟩, ⟨(some 89), .mv (.t 7), none⟩, ⟨(some 90), .ld (.t 10) 2 true, none⟩, ⟨(some 91), .cald (.t 88) [(.t 89), (.t 90)], none⟩] [0, 1, 6, 16, 17, 18])
abbrev c40_28 : AC := .seq c40_26 c40_27
abbrev c40_29 : AC := .seq (.ops 0 [⟨(some 76), .fa (.t 10) 1, none⟩, ⟨(some 77), .ld (.t 76) 1 false, none⟩, ⟨(some 78), .bin .add (.t 77) (.k (.lf (.int .i64 1))), none⟩, ⟨(some 79), .fa (.t 10) 1, none⟩, ⟨none, .st (.t 79) (.t 78) 1, none⟩] [0, 1, 6, 7, 10, 16, 17, 18]) c40_28
abbrev c40_30 : AC := .seq c40_23 c40_29
abbrev c40_31 : AC := .seq (.ops 0 [⟨(some 33), .mv (.t 7), none⟩, ⟨(some 34), .bd [.int .i64 0, .int .i64 0] [(0, 1, (.t 33))], none⟩, ⟨(some 10), .al [.int .i64 0, .int .i64 0], none⟩, ⟨none, .st (.t 10) (.t 34) 2, none⟩] [0, 1, 6, 7, 8, 9, 10, 16, 17, 18]) c40_30
abbrev c40_32 : AC := .seq c40_6 c40_31
abbrev c40_33 : AC := .seq c40_3 c40_32
abbrev c40_34 : AC := .seq (.ops 0 [⟨(some 23), .fa (.t 8) 0, none⟩, ⟨(some 24), .ld (.t 23) 1 false, none⟩, ⟨(some 25), .call 33 [(.t 24)], none⟩, ⟨(some 9), .as 0 0 (.t 25), none⟩] [0, 1, 6, 7, 8, 9, 16, 17, 18]) c40_33
abbrev c40_35 : AC := .seq (.ops 0 [⟨(some 20), .mv (.t 18), none⟩, ⟨(some 21), .ia (.t 16) (.t 18) 7, none⟩, ⟨(some 22), .ld (.t 21) 7 true, none⟩, ⟨(some 8), .al [.int .i64 0, .int .i64 0, .str ⟨#[]⟩, .int .u64 0, .int .u64 0, .int .u64 0, .int .u64 0], none⟩, ⟨(some 7), .as 0 0 (.t 20), none⟩, ⟨none, .st (.t 8) (.t 22) 7, none⟩] [0, 1, 6, 7, 8, 16, 17, 18]) c40_34
abbrev c40_36 : AC := .block 1 c40_35
abbrev c40_37 : AC := .seq c40_36 (.ops 0 [⟨(some 92), .bin .add (.t 18) (.k (.lf (.int .i64 1))), none⟩, ⟨(some 18), .mv (.t 92), none⟩] [0, 1, 6, 16, 17, 18])
abbrev c40_38 : AC := .seq c40_0 c40_37
abbrev c40_39 : AC := .seq (.ops 0 [⟨(some 19), .bin .lss (.t 18) (.t 17), none⟩] [0, 1, 6, 16, 17, 18, 19]) c40_38
abbrev c40_40 : AC := .loop c40_39 [0, 1, 6, 16, 17, 18]
abbrev c40_41 : AC := .block 0 c40_40
abbrev c40_42 : AC := .seq (.ops 0 [⟨(some 16), .mv (.t 0), none⟩, ⟨(some 17), .len (.t 16), none⟩, ⟨(some 18), .mv (.k (.lf (.int .i64 0))), none⟩] [0, 1, 6, 16, 17, 18]) c40_41
abbrev c40_43 : AC := .seq (.ops 0 [⟨(some 106), .mv (.t 0), none⟩, ⟨(some 107), .len (.t 106), none⟩, ⟨(some 4), .as 0 0 (.t 107), none⟩, ⟨(some 5), .as 0 0 (.k (.lf (.int .i64 42))), none⟩] [4, 5]) .ret
abbrev c40_44 : AC := .cond (.t 105) c40_43 .skip
abbrev c40_45 : AC := .seq (.ops 0 [⟨(some 93), .mv (.t 0), none⟩, ⟨(some 94), .len (.t 93), none⟩, ⟨(some 95), .bin .eql (.t 94) (.k (.lf (.int .i64 0))), none⟩, ⟨(some 96), .mv (.t 95), none⟩, ⟨(some 97), .mv (.t 6), (some (96, false))⟩, ⟨(some 98), .mv (.t 0), (some (96, false))⟩, ⟨(some 99), .len (.t 98), (some (96, false))⟩, ⟨(some 100), .bin .sub (.t 99) (.k (.lf (.int .i64 1))), (some (96, false))⟩, ⟨(some 101), .ia (.t 97) (.t 100) 2, (some (96, false))⟩, ⟨(some 102), .fa (.t 101) 0, (some (96, false))⟩, ⟨(some 103), .ld (.t 102) 1 false, (some (96, false))⟩, ⟨(some 104), .bin .neq (.t 103) (.k (.lf (.int .i64 0))), (some (96, false))⟩, ⟨(some 105), .pk (.t 96) (.k (.lf (.bool true))) (.t 104), none⟩] [0, 105]) c40_44
abbrev c40_46 : AC := .seq (.ops 0 [⟨(some 4), .as 0 0 (.k (.lf (.int .i64 0))), none⟩, ⟨(some 5), .as 0 0 (.k (.lf (.int .i64 0))), none⟩] [4, 5]) .ret
abbrev c40_47 : AC := .seq c40_45 c40_46
abbrev c40_48 : AC := .seq c40_42 c40_47
abbrev c40_49 : AC := .seq (.ops 0 [⟨(some 13), .mv (.t 0), none⟩, ⟨(some 14), .len (.t 13), none⟩, ⟨(some 15), .ms 86 2 16 [.int .i64 0, .int .i64 0] (.k (.lf (.int .i64 0))) (.t 14), none⟩, ⟨(some 6), .as 86 2 (.t 15), none⟩] [0, 1, 6]) c40_48
abbrev c40_50 : AC := .seq (.ops 0 [⟨(some 4), .as 0 0 (.k (.lf (.int .i64 0))), none⟩, ⟨(some 5), .as 0 0 (.k (.lf (.int .i64 0))), none⟩] [0, 1]) c40_49
abbrev c40 : AC := c40_50
theorem c40_ok : compileFn Tryd.prog 40 = some (108, AC.strip c40, [.t 4, .t 5]) := by kernel_rfl
abbrev c41 : AC := (.ops 0 [⟨(some 3), .bx (.t 1), none⟩] [])
theorem c41_ok : compileFn Tryd.prog 41 = some (4, AC.strip c41, []) := by kernel_rfl
abbrev c57_0 : AC := .seq (.ops 0 [⟨(some 2), .as 0 0 (.k (.lf (.bool false))), none⟩] [2]) .ret
abbrev c57_1 : AC := .cond (.t 11) c57_0 .skip
abbrev c57_2 : AC := .seq (.ops 0 [⟨(some 3), .fa (.t 1) 0, none⟩, ⟨(some 4), .ld (.t 3) 1 false, none⟩, ⟨(some 5), .bin .neq (.t 4) (.k (.lf (.int .i64 5))), none⟩, ⟨(some 6), .mv (.t 5), none⟩, ⟨(some 7), .fa (.t 1) 3, (some (6, true))⟩, ⟨(some 8), .ld (.t 7) 4 true, (some (6, true))⟩, ⟨(some 9), .bd [.int .u64 0, .int .u64 0, .int .u64 0, .int .u64 0] [], (some (6, true))⟩, ⟨(some 10), .beq true [2, 2, 2, 2] (.t 8) (.t 9), (some (6, true))⟩, ⟨(some 11), .pk (.t 6) (.t 10) (.k (.lf (.bool false))), none⟩] [1, 11]) c57_1
abbrev c57_3 : AC := .seq (.ops 0 [⟨(some 2), .as 0 0 (.k (.lf (.bool false))), none⟩] [2]) .ret
abbrev c57_4 : AC := .cond (.t 30) c57_3 .skip
abbrev c57_5 : AC := .seq (.ops 0 [⟨(some 12), .fa (.t 1) 1, none⟩, ⟨(some 13), .ld (.t 12) 1 false, none⟩, ⟨(some 14), .bin .lss (.t 13) (.k (.lf (.int .i64 0))), none⟩, ⟨(some 15), .mv (.t 14), none⟩, ⟨(some 16), .fa (.t 1) 1, (some (15, false))⟩, ⟨(some 17), .ld (.t 16) 1 false, (some (15, false))⟩, ⟨(some 18), .bin .gtr (.t 17) (.k (.lf (.int .i64 50))), (some (15, false))⟩, ⟨(some 19), .pk (.t 15) (.k (.lf (.bool true))) (.t 18), none⟩, ⟨(some 20), .mv (.t 19), none⟩, ⟨(some 21), .fa (.t 1) 1, (some (20, false))⟩, ⟨(some 22), .ld (.t 21) 1 false, (some (20, false))⟩, ⟨(some 23), .bin .gtr (.t 22) (.k (.lf (.int .i64 0))), (some (20, false))⟩, ⟨(some 24), .mv (.t 23), (some (20, false))⟩, ⟨(some 25), .fa (.t 1) 0, (some (24, true))⟩, ⟨(some 26), .ld (.t 25) 1 false, (some (24, true))⟩, ⟨(some 27), .call 78 [(.t 26)], (some (24, true))⟩, ⟨(some 28), .un .not (.t 27), (some (24, true))⟩, ⟨(some 29), .pk (.t 24) (.t 28) (.k (.lf (.bool false))), (some (20, false))⟩, ⟨(some 30), .pk (.t 20) (.k (.lf (.bool true))) (.t 29), none⟩] [1, 30]) c57_4
abbrev c57_6 : AC := .seq (.ops 0 [⟨(some 35), .fa (.t 1) 2, none⟩, ⟨(some 36), .ld (.t 35) 1 false, none⟩, ⟨(some 37), .bin .neq (.t 36) (.k (.lf (.str ⟨#[]⟩))), none⟩, ⟨(some 38), .mv (.t 37), none⟩, ⟨(some 39), .fa (.t 1) 2, (some (38, true))⟩, ⟨(some 40), .ld (.t 39) 1 false, (some (38, true))⟩, ⟨(some 41), .lns (.t 40), (some (38, true))⟩, ⟨(some 42), .bin .leq (.t 41) (.k (.lf (.int .i64 255))), (some (38, true))⟩, ⟨(some 43), .pk (.t 38) (.t 42) (.k (.lf (.bool false))), none⟩, ⟨(some 2), .as 0 0 (.t 43), none⟩] [2]) .ret
abbrev c57_7 : AC := .seq (.ops 0 [⟨(some 46), .fa (.t 1) 2, none⟩, ⟨(some 47), .ld (.t 46) 1 false, none⟩, ⟨(some 48), .call 79 [(.t 47)], none⟩, ⟨(some 2), .as 0 0 (.t 48), none⟩] [2]) .ret
abbrev c57_8 : AC := .seq (.ops 0 [⟨(some 51), .fa (.t 1) 2, none⟩, ⟨(some 52), .ld (.t 51) 1 false, none⟩, ⟨(some 53), .bin .eql (.t 52) (.k (.lf (.str ⟨#[]⟩))), none⟩, ⟨(some 54), .mv (.t 53), none⟩, ⟨(some 55), .fa (.t 1) 2, (some (54, false))⟩, ⟨(some 56), .ld (.t 55) 1 false, (some (54, false))⟩, ⟨(some 57), .call 79 [(.t 56)], (some (54, false))⟩, ⟨(some 58), .pk (.t 54) (.k (.lf (.bool true))) (.t 57), none⟩, ⟨(some 2), .as 0 0 (.t 58), none⟩] [2]) .ret
abbrev c57_9 : AC := .seq (.ops 0 [⟨(some 61), .fa (.t 1) 2, none⟩, ⟨(some 62), .ld (.t 61) 1 false, none⟩, ⟨(some 63), .call 80 [(.t 62)], none⟩, ⟨(some 2), .as 0 0 (.t 63), none⟩] [2]) .ret
abbrev c57_10 : AC := .cond (.t 59) c57_9 .skip
abbrev c57_11 : AC := .seq (.ops 0 [⟨(some 60), .bin .eql (.t 32) (.k (.lf (.int .i64 22))), none⟩, ⟨(some 59), .as 0 0 (.t 60), none⟩] [1, 59]) c57_10
abbrev c57_12 : AC := .cond (.t 49) c57_8 c57_11
abbrev c57_13 : AC := .seq (.ops 0 [⟨(some 50), .bin .eql (.t 32) (.k (.lf (.int .i64 19))), none⟩, ⟨(some 49), .as 0 0 (.t 50), none⟩] [1, 32, 49]) c57_12
abbrev c57_14 : AC := .cond (.t 44) c57_7 c57_13
abbrev c57_15 : AC := .seq (.ops 0 [⟨(some 45), .bin .eql (.t 32) (.k (.lf (.int .i64 6))), none⟩, ⟨(some 44), .as 0 0 (.t 45), none⟩] [1, 32, 44]) c57_14
abbrev c57_16 : AC := .cond (.t 33) c57_6 c57_15
abbrev c57_17 : AC := .seq (.ops 0 [⟨(some 34), .bin .eql (.t 32) (.k (.lf (.int .i64 4))), none⟩, ⟨(some 33), .as 0 0 (.t 34), none⟩] [1, 32, 33]) c57_16
abbrev c57_18 : AC := .block 0 c57_17
abbrev c57_19 : AC := .seq (.ops 0 [⟨(some 31), .fa (.t 1) 0, none⟩, ⟨(some 32), .ld (.t 31) 1 false, none⟩] [1, 32]) c57_18
abbrev c57_20 : AC := .seq (.ops 0 [⟨(some 64), .fa (.t 1) 2, none⟩, ⟨(some 65), .ld (.t 64) 1 false, none⟩, ⟨(some 66), .bin .eql (.t 65) (.k (.lf (.str ⟨#[]⟩))), none⟩, ⟨(some 2), .as 0 0 (.t 66), none⟩] [2]) .ret
abbrev c57_21 : AC := .seq c57_19 c57_20
abbrev c57_22 : AC := .seq c57_5 c57_21
abbrev c57_23 : AC := .seq c57_2 c57_22
abbrev c57_24 : AC := .seq (.ops 0 [⟨(some 1), .bx (.t 0), none⟩, ⟨(some 2), .as 0 0 (.k (.lf (.bool false))), none⟩] [1]) c57_23
abbrev c57 : AC := c57_24
theorem c57_ok : compileFn Tryd.prog 57 = some (67, AC.strip c57, [.t 2]) := by kernel_rfl
abbrev c78_0 : AC := .seq (.ops 0 [⟨(some 3), .mv (.t 0), none⟩, ⟨(some 4), .bin .geq (.t 3) (.k (.lf (.int .i64 14))), none⟩, ⟨(some 5), .mv (.t 4), none⟩, ⟨(some 6), .mv (.t 0), (some (5, true))⟩, ⟨(some 7), .bin .leq (.t 6) (.k (.lf (.int .i64 16))), (some (5, true))⟩, ⟨(some 8), .pk (.t 5) (.t 7) (.k (.lf (.bool false))), none⟩, ⟨(some 9), .mv (.t 8), none⟩, ⟨(some 10), .mv (.t 0), (some (9, false))⟩, ⟨(some 11), .bin .eql (.t 10) (.k (.lf (.int .i64 23))), (some (9, false))⟩, ⟨(some 12), .pk (.t 9) (.k (.lf (.bool true))) (.t 11), none⟩, ⟨(some 2), .as 0 0 (.t 12), none⟩] [2]) .ret
abbrev c78_1 : AC := .seq (.ops 0 [⟨(some 2), .as 0 0 (.k (.lf (.bool false))), none⟩] [0]) c78_0
abbrev c78 : AC := c78_1
theorem c78_ok : compileFn Tryd.prog 78 = some (13, AC.strip c78, [.t 2]) := by kernel_rfl
abbrev c79_0 : AC := .seq (.ops 0 [⟨(some 2), .as 0 0 (.k (.lf (.bool false))), none⟩] [2]) .ret
abbrev c79_1 : AC := .cond (.t 16) c79_0 .skip
abbrev c79_2 : AC := .seq (.ops 0 [⟨(some 4), .mv (.t 0), none⟩, ⟨(some 5), .bin .eql (.t 4) (.k (.lf (.str ⟨#[]⟩))), none⟩, ⟨(some 6), .mv (.t 5), none⟩, ⟨(some 7), .mv (.t 0), (some (6, false))⟩, ⟨(some 8), .lns (.t 7), (some (6, false))⟩, ⟨(some 9), .bin .gtr (.t 8) (.k (.lf (.int .i64 32))), (some (6, false))⟩, ⟨(some 10), .pk (.t 6) (.k (.lf (.bool true))) (.t 9), none⟩, ⟨(some 11), .mv (.t 10), none⟩, ⟨(some 12), .mv (.t 0), (some (11, false))⟩, ⟨(some 13), .ixs (.t 12) (.k (.lf (.int .i64 0))), (some (11, false))⟩, ⟨(some 14), .call 96 [(.t 13)], (some (11, false))⟩, ⟨(some 15), .un .not (.t 14), (some (11, false))⟩, ⟨(some 16), .pk (.t 11) (.k (.lf (.bool true))) (.t 15), none⟩] [0, 16]) c79_1
abbrev c79_3 : AC := .cond (.t 20) .skip (.exit 0)
abbrev c79_4 : AC := .seq (.ops 0 [⟨(some 2), .as 0 0 (.k (.lf (.bool false))), none⟩] [2]) .ret
abbrev c79_5 : AC := .cond (.t 38) c79_4 .skip
abbrev c79_6 : AC := .seq (.ops 0 [⟨(some 22), .mv (.t 0), none⟩, ⟨(some 23), .mv (.t 3), none⟩, ⟨(some 24), .ixs (.t 22) (.t 23), none⟩, ⟨(some 25), .call 96 [(.t 24)], none⟩, ⟨(some 26), .un .not (.t 25), none⟩, ⟨(some 27), .mv (.t 26), none⟩, ⟨(some 28), .mv (.t 0), (some (27, true))⟩, ⟨(some 29), .mv (.t 3), (some (27, true))⟩, ⟨(some 30), .ixs (.t 28) (.t 29), (some (27, true))⟩, ⟨(some 31), .bin .lss (.t 30) (.k (.lf (.int .u8 48))), (some (27, true))⟩, ⟨(some 32), .mv (.t 31), (some (27, true))⟩, ⟨(some 33), .mv (.t 0), (some (32, false))⟩, ⟨(some 34), .mv (.t 3), (some (32, false))⟩, ⟨(some 35), .ixs (.t 33) (.t 34), (some (32, false))⟩, ⟨(some 36), .bin .gtr (.t 35) (.k (.lf (.int .u8 57))), (some (32, false))⟩, ⟨(some 37), .pk (.t 32) (.k (.lf (.bool true))) (.t 36), (some (27, true))⟩, ⟨(some 38), .pk (.t 27) (.t 37) (.k (.lf (.bool false))), none⟩] [0, 18, 19, 38]) c79_5
abbrev c79_7 : AC := .seq (.ops 0 [⟨(some 21), .mv (.t 19), none⟩, ⟨(some 3), .as 0 0 (.t 21), none⟩] [0, 3, 18, 19]) c79_6
abbrev c79_8 : AC := .block 1 c79_7
abbrev c79_9 : AC := .seq c79_8 (.ops 0 [⟨(some 39), .bin .add (.t 19) (.k (.lf (.int .i64 1))), none⟩, ⟨(some 19), .mv (.t 39), none⟩] [0, 18, 19])
abbrev c79_10 : AC := .seq c79_3 c79_9
abbrev c79_11 : AC := .seq (.ops 0 [⟨(some 20), .bin .lss (.t 19) (.t 18), none⟩] [0, 18, 19, 20]) c79_10
abbrev c79_12 : AC := .loop c79_11 [0, 18, 19]
abbrev c79_13 : AC := .block 0 c79_12
abbrev c79_14 : AC := .seq (.ops 0 [⟨(some 17), .mv (.t 0), none⟩, ⟨(some 18), .lns (.t 17), none⟩, ⟨(some 19), .mv (.k (.lf (.int .i64 0))), none⟩] [0, 18, 19]) c79_13
abbrev c79_15 : AC := .seq (.ops 0 [⟨(some 2), .as 0 0 (.k (.lf (.bool true))), none⟩] [2]) .ret
abbrev c79_16 : AC := .seq c79_14 c79_15
abbrev c79_17 : AC := .seq c79_2 c79_16
abbrev c79_18 : AC := .seq (.ops 0 [⟨(some 2), .as 0 0 (.k (.lf (.bool false))), none⟩] [0]) c79_17
abbrev c79 : AC := c79_18
theorem c79_ok : compileFn Tryd.prog 79 = some (40, AC.strip c79, [.t 2]) := by kernel_rfl
abbrev c80_0 : AC := .seq (.ops 0 [⟨(some 2), .as 0 0 (.k (.lf (.bool false))), none⟩] [2]) .ret
abbrev c80_1 : AC := .cond (.t 6) c80_0 .skip
abbrev c80_2 : AC := .seq (.ops 0 [⟨(some 4), .mv (.t 0), none⟩, ⟨(some 5), .lns (.t 4), none⟩, ⟨(some 6), .bin .gtr (.t 5) (.k (.lf (.int .i64 255))), none⟩] [0, 6]) c80_1
abbrev c80_3 : AC := .cond (.t 10) .skip (.exit 0)
abbrev c80_4 : AC := .seq (.ops 0 [⟨(some 7), .mv (.t 3), none⟩, ⟨(some 8), .mv (.t 0), none⟩, ⟨(some 9), .lns (.t 8), none⟩, ⟨(some 10), .bin .lss (.t 7) (.t 9), none⟩] [0, 3, 10]) c80_3
abbrev c80_5 : AC := .cond (.t 16) (.exit 1) .skip
abbrev c80_6 : AC := .seq (.ops 0 [⟨(some 13), .mv (.t 0), none⟩, ⟨(some 14), .mv (.t 3), none⟩, ⟨(some 15), .ixs (.t 13) (.t 14), none⟩, ⟨(some 16), .bin .neq (.t 15) (.k (.lf (.int .u8 37))), none⟩] [0, 3, 16]) c80_5
abbrev c80_7 : AC := .seq (.ops 0 [⟨(some 2), .as 0 0 (.k (.lf (.bool false))), none⟩] [2]) .ret
abbrev c80_8 : AC := .cond (.t 40) c80_7 .skip
abbrev c80_9 : AC := .seq (.ops 0 [⟨(some 19), .mv (.t 3), none⟩, ⟨(some 20), .mv (.t 0), none⟩, ⟨(some 21), .lns (.t 20), none⟩, ⟨(some 22), .bin .eql (.t 19) (.t 21), none⟩, ⟨(some 23), .mv (.t 22), none⟩, ⟨(some 24), .mv (.t 0), (some (23, false))⟩, ⟨(some 25), .mv (.t 3), (some (23, false))⟩, ⟨(some 26), .ixs (.t 24) (.t 25), (some (23, false))⟩, ⟨(some 27), .bin .neq (.t 26) (.k (.lf (.int .u8 37))), (some (23, false))⟩, ⟨(some 28), .mv (.t 27), (some (23, false))⟩, ⟨(some 29), .mv (.t 0), (some (28, true))⟩, ⟨(some 30), .mv (.t 3), (some (28, true))⟩, ⟨(some 31), .ixs (.t 29) (.t 30), (some (28, true))⟩, ⟨(some 32), .bin .lss (.t 31) (.k (.lf (.int .u8 48))), (some (28, true))⟩, ⟨(some 33), .mv (.t 32), (some (28, true))⟩, ⟨(some 34), .mv (.t 0), (some (33, false))⟩, ⟨(some 35), .mv (.t 3), (some (33, false))⟩, ⟨(some 36), .ixs (.t 34) (.t 35), (some (33, false))⟩, ⟨(some 37), .bin .gtr (.t 36) (.k (.lf (.int .u8 57))), (some (33, false))⟩, ⟨(some 38), .pk (.t 33) (.k (.lf (.bool true))) (.t 37), (some (28, true))⟩, ⟨(some 39), .pk (.t 28) (.t 38) (.k (.lf (.bool false))), (some (23, false))⟩, ⟨(some 40), .pk (.t 23) (.k (.lf (.bool true))) (.t 39), none⟩] [0, 3, 40]) c80_8
abbrev c80_10 : AC := .seq (.ops 0 [⟨(some 17), .mv (.t 3), none⟩, ⟨(some 18), .bin .add (.t 17) (.k (.lf (.int .i64 1))), none⟩, ⟨(some 3), .as 0 0 (.t 18), none⟩] [0, 3]) c80_9
abbrev c80_11 : AC := .seq c80_6 c80_10
abbrev c80_12 : AC := .block 1 c80_11
abbrev c80_13 : AC := .seq c80_12 (.ops 0 [⟨(some 11), .mv (.t 3), none⟩, ⟨(some 12), .bin .add (.t 11) (.k (.lf (.int .i64 1))), none⟩, ⟨(some 3), .as 0 0 (.t 12), none⟩] [0, 3])
abbrev c80_14 : AC := .seq c80_4 c80_13
abbrev c80_15 : AC := .loop c80_14 [0, 3]
abbrev c80_16 : AC := .block 0 c80_15
abbrev c80_17 : AC := .seq (.ops 0 [⟨(some 3), .as 0 0 (.k (.lf (.int .i64 0))), none⟩] [0, 3]) c80_16
abbrev c80_18 : AC := .seq (.ops 0 [⟨(some 2), .as 0 0 (.k (.lf (.bool true))), none⟩] [2]) .ret
abbrev c80_19 : AC := .seq c80_17 c80_18
abbrev c80_20 : AC := .seq c80_2 c80_19
abbrev c80_21 : AC := .seq (.ops 0 [⟨(some 2), .as 0 0 (.k (.lf (.bool false))), none⟩] [0]) c80_20
abbrev c80 : AC := c80_21
theorem c80_ok : compileFn Tryd.prog 80 = some (41, AC.strip c80, [.t 2]) := by kernel_rfl
abbrev c96_0 : AC := .seq (.ops 0 [⟨(some 3), .mv (.t 0), none⟩, ⟨(some 4), .bin .or (.t 3) (.k (.lf (.int .u8 32))), none⟩, ⟨(some 5), .bin .geq (.t 4) (.k (.lf (.int .u8 97))), none⟩, ⟨(some 6), .mv (.t 5), none⟩, ⟨(some 7), .mv (.t 0), (some (6, true))⟩, ⟨(some 8), .bin .or (.t 7) (.k (.lf (.int .u8 32))), (some (6, true))⟩, ⟨(some 9), .bin .leq (.t 8) (.k (.lf (.int .u8 122))), (some (6, true))⟩, ⟨(some 10), .pk (.t 6) (.t 9) (.k (.lf (.bool false))), none⟩, ⟨(some 11), .mv (.t 10), none⟩, ⟨(some 12), .mv (.t 0), (some (11, true))⟩, ⟨(some 13), .bin .lss (.t 12) (.k (.lf (.int .u8 128))), (some (11, true))⟩, ⟨(some 14), .pk (.t 11) (.t 13) (.k (.lf (.bool false))), none⟩, ⟨(some 15), .mv (.t 14), none⟩, ⟨(some 16), .mv (.t 0), (some (15, false))⟩, ⟨(some 17), .bin .eql (.t 16) (.k (.lf (.int .u8 95))), (some (15, false))⟩, ⟨(some 18), .pk (.t 15) (.k (.lf (.bool true))) (.t 17), none⟩, ⟨(some 2), .as 0 0 (.t 18), none⟩] [2]) .ret
abbrev c96_1 : AC := .seq (.ops 0 [⟨(some 2), .as 0 0 (.k (.lf (.bool false))), none⟩] [0]) c96_0
abbrev c96 : AC := c96_1
theorem c96_ok : compileFn Tryd.prog 96 = some (19, AC.strip c96, [.t 2]) := by kernel_rfl
end Go.Proofs.YtdoefdmaecaacaaDoor.S
set_option maxRecDepth 100000
namespace Go.Proofs.YtdoefdmaecaacaaDoor.S
open Go Go.Proofs.YtdoefdmaecaacaaDoor.AM
abbrev c19_0 : AC := .seq (.gdt (.one ⟨(some 18), .mv (.t 0), none⟩ (.one ⟨(some 19), .mv (.t 6), none⟩ (.one ⟨(some 20), .nc (.t 19), none⟩ (.one ⟨(some 21), .fa (.t 20) 2, none⟩ (.alt (.one ⟨(some 22), .ld (.t 21) 1 false, none⟩ (.alt (.one ⟨(some 23), .un .not (.t 22), none⟩ (.one ⟨(some 4), .as 5 1 (.t 18), none⟩ (.one ⟨(some 5), .as 0 0 (.t 23), none⟩ .nil))) (.one ⟨(some 4), .as 5 1 (.t 18), none⟩ (.one ⟨(some 23), .un .not (.t 22), none⟩ (.one ⟨(some 5), .as 0 0 (.t 23), none⟩ .nil))))) (.one ⟨(some 4), .as 5 1 (.t 18), none⟩ (.one ⟨(some 22), .ld (.t 21) 1 false, none⟩ (.one ⟨(some 23), .un .not (.t 22), none⟩ (.one ⟨(some 5), .as 0 0 (.t 23), none⟩ .nil))))))))) [4, 5]) .ret
abbrev c19_1 : AC := .seq (.ops 0 [⟨(some 12), .mv (.t 6), none⟩, ⟨(some 13), .mv (.t 0), none⟩, ⟨(some 14), .mv (.t 1), none⟩, ⟨(some 15), .len (.t 14), none⟩, ⟨(some 16), .bin .sub (.t 15) (.k (.lf (.int .i64 1))), none⟩, ⟨(some 17), .callg 38 0 [(.t 12), (.t 13), (.t 16), (.k (.lf (.int .i64 0)))], none⟩, ⟨(some 0), .as 5 1 (.t 17), none⟩] [0, 6]) c19_0
abbrev c19_2 : AC := .seq (.ops 0 [⟨(some 7), .mv (.t 1), none⟩, ⟨(some 8), .mv (.t 1), none⟩, ⟨(some 9), .call 37 [(.t 8)], none⟩, ⟨(some 10), .bd [.lst .nl 7 [] [], .lst .nl 1 [] [], .bool false] [(0, 1, (.t 7)), (1, 1, (.t 9))], none⟩, ⟨(some 11), .bx (.t 10), none⟩, ⟨(some 6), .as 0 0 (.t 11), none⟩] [0, 1, 6]) c19_1
abbrev c19_3 : AC := .seq (.ops 0 [⟨(some 4), .as 5 1 (.k (.lf (.lst .nl 1 [] []))), none⟩, ⟨(some 5), .as 0 0 (.k (.lf (.bool false))), none⟩] [0, 1]) c19_2
abbrev c19 : AC := c19_3
abbrev c74_0 : AC := .cond (.t 12) .skip (.exit 0)
abbrev c74_1 : AC := .seq (.ops 0 [⟨(some 7), .mv (.t 0), none⟩, ⟨(some 8), .bin .gtr (.t 7) (.k (.lf (.int .i64 0))), none⟩, ⟨(some 9), .mv (.t 8), none⟩, ⟨(some 10), .mv (.t 5), (some (9, false))⟩, ⟨(some 11), .bin .eql (.t 10) (.k (.lf (.str ⟨#[]⟩))), (some (9, false))⟩, ⟨(some 12), .pk (.t 9) (.k (.lf (.bool true))) (.t 11), none⟩] [0, 1, 5, 12]) c74_0
abbrev c74_2 : AC := .seq (.ops 0 [⟨(some 16), .mv (.t 0), none⟩, ⟨(some 17), .mv (.t 1), none⟩, ⟨(some 18), .bin .rem (.t 16) (.t 17), none⟩, ⟨(some 6), .as 0 0 (.t 18), none⟩] [0, 1, 5, 6]) (.ops 0 [⟨(some 19), .mv (.t 6), none⟩, ⟨(some 20), .mv (.t 6), none⟩, ⟨(some 21), .bin .add (.t 20) (.k (.lf (.int .i64 1))), none⟩, ⟨(some 22), .sls (.k (.lf (.str ⟨#[48, 49, 50, 51, 52, 53, 54, 55, 56, 57, 97, 98, 99, 100, 101, 102]⟩))) (some (.t 19)) (some (.t 21)), none⟩, ⟨(some 23), .mv (.t 5), none⟩, ⟨(some 24), .bin .add (.t 22) (.t 23), none⟩, ⟨(some 5), .as 0 0 (.t 24), none⟩] [0, 1, 5])
abbrev c74_3 : AC := .block 1 c74_2
abbrev c74_4 : AC := .seq c74_3 (.ops 0 [⟨(some 13), .mv (.t 0), none⟩, ⟨(some 14), .mv (.t 1), none⟩, ⟨(some 15), .bin .quo (.t 13) (.t 14), none⟩, ⟨(some 0), .as 0 0 (.t 15), none⟩] [0, 1, 5])
abbrev c74_5 : AC := .seq c74_1 c74_4
abbrev c74_6 : AC := .loop c74_5 [0, 1, 5]
abbrev c74_7 : AC := .block 0 c74_6
abbrev c74_8 : AC := .seq (.ops 0 [⟨(some 25), .mv (.t 5), none⟩, ⟨(some 4), .as 0 0 (.t 25), none⟩] [4]) .ret
abbrev c74_9 : AC := .seq c74_7 c74_8
abbrev c74_10 : AC := .seq (.ops 0 [⟨(some 5), .as 0 0 (.k (.lf (.str ⟨#[]⟩))), none⟩] [0, 1, 5]) c74_9
abbrev c74_11 : AC := .seq (.ops 0 [⟨(some 4), .as 0 0 (.k (.lf (.str ⟨#[]⟩))), none⟩] [0, 1]) c74_10
abbrev c74 : AC := c74_11
theorem c74_ok : compileFn Tryd.prog 74 = some (26, AC.strip c74, [.t 4]) := by kernel_rfl
abbrev c75_0 : AC := .cond (.t 9) .skip (.exit 0)
abbrev c75_1 : AC := .seq (.ops 0 [⟨(some 6), .mv (.t 4), none⟩, ⟨(some 7), .mv (.t 0), none⟩, ⟨(some 8), .lns (.t 7), none⟩, ⟨(some 9), .bin .lss (.t 6) (.t 8), none⟩] [0, 3, 4, 9]) c75_0
abbrev c75_2 : AC := .cond (.t 47) (.ops 0 [⟨(some 54), .mv (.t 3), none⟩, ⟨(some 55), .mv (.t 5), none⟩, ⟨(some 56), .bs 5 1 1 [.int .u8 0] [(0, (.t 55))], none⟩, ⟨(some 57), .app 5 1 1 (.t 54) (.t 56), none⟩, ⟨(some 3), .as 5 1 (.t 57), none⟩] [0, 3, 4]) (.ops 0 [⟨(some 15), .mv (.t 3), none⟩, ⟨(some 16), .mv (.t 5), none⟩, ⟨(some 17), .cvi .i64 (.t 16), none⟩, ⟨(some 18), .call 92 [(.t 17)], none⟩, ⟨(some 19), .bin .add (.k (.lf (.str ⟨#[92, 120]⟩))) (.t 18), none⟩, ⟨(some 20), .aps 5 (.t 15) (.t 19), none⟩, ⟨(some 3), .as 5 1 (.t 20), none⟩] [0, 3, 4])
abbrev c75_3 : AC := .seq (.ops 0 [⟨(some 48), .mv (.t 5), none⟩, ⟨(some 49), .bin .geq (.t 48) (.k (.lf (.int .u8 32))), none⟩, ⟨(some 50), .mv (.t 49), none⟩, ⟨(some 51), .mv (.t 5), (some (50, true))⟩, ⟨(some 52), .bin .leq (.t 51) (.k (.lf (.int .u8 126))), (some (50, true))⟩, ⟨(some 53), .pk (.t 50) (.t 52) (.k (.lf (.bool false))), none⟩, ⟨(some 47), .as 0 0 (.t 53), none⟩] [0, 3, 4, 5, 47]) c75_2
abbrev c75_4 : AC := .cond (.t 36) (.ops 0 [⟨(some 43), .mv (.t 3), none⟩, ⟨(some 44), .mv (.t 5), none⟩, ⟨(some 45), .bs 5 1 2 [.int .u8 0] [(0, (.k (.lf (.int .u8 92)))), (1, (.t 44))], none⟩, ⟨(some 46), .app 5 1 1 (.t 43) (.t 45), none⟩, ⟨(some 3), .as 5 1 (.t 46), none⟩] [0, 3, 4]) c75_3
abbrev c75_5 : AC := .seq (.ops 0 [⟨(some 37), .mv (.t 5), none⟩, ⟨(some 38), .bin .eql (.t 37) (.k (.lf (.int .u8 92))), none⟩, ⟨(some 39), .mv (.t 38), none⟩, ⟨(some 40), .mv (.t 5), (some (39, false))⟩, ⟨(some 41), .bin .eql (.t 40) (.k (.lf (.int .u8 39))), (some (39, false))⟩, ⟨(some 42), .pk (.t 39) (.k (.lf (.bool true))) (.t 41), none⟩, ⟨(some 36), .as 0 0 (.t 42), none⟩] [0, 3, 4, 5, 36]) c75_4
abbrev c75_6 : AC := .cond (.t 31) (.ops 0 [⟨(some 34), .mv (.t 3), none⟩, ⟨(some 35), .aps 5 (.t 34) (.k (.lf (.str ⟨#[92, 116]⟩))), none⟩, ⟨(some 3), .as 5 1 (.t 35), none⟩] [0, 3, 4]) c75_5
abbrev c75_7 : AC := .seq (.ops 0 [⟨(some 32), .mv (.t 5), none⟩, ⟨(some 33), .bin .eql (.t 32) (.k (.lf (.int .u8 9))), none⟩, ⟨(some 31), .as 0 0 (.t 33), none⟩] [0, 3, 4, 5, 31]) c75_6
abbrev c75_8 : AC := .cond (.t 26) (.ops 0 [⟨(some 29), .mv (.t 3), none⟩, ⟨(some 30), .aps 5 (.t 29) (.k (.lf (.str ⟨#[92, 114]⟩))), none⟩, ⟨(some 3), .as 5 1 (.t 30), none⟩] [0, 3, 4]) c75_7
abbrev c75_9 : AC := .seq (.ops 0 [⟨(some 27), .mv (.t 5), none⟩, ⟨(some 28), .bin .eql (.t 27) (.k (.lf (.int .u8 13))), none⟩, ⟨(some 26), .as 0 0 (.t 28), none⟩] [0, 3, 4, 5, 26]) c75_8
abbrev c75_10 : AC := .cond (.t 21) (.ops 0 [⟨(some 24), .mv (.t 3), none⟩, ⟨(some 25), .aps 5 (.t 24) (.k (.lf (.str ⟨#[92, 110]⟩))), none⟩, ⟨(some 3), .as 5 1 (.t 25), none⟩] [0, 3, 4]) c75_9
abbrev c75_11 : AC := .seq (.ops 0 [⟨(some 22), .mv (.t 5), none⟩, ⟨(some 23), .bin .eql (.t 22) (.k (.lf (.int .u8 10))), none⟩, ⟨(some 21), .as 0 0 (.t 23), none⟩] [0, 3, 4, 5, 21]) c75_10
abbrev c75_12 : AC := .block 2 c75_11
abbrev c75_13 : AC := .seq (.ops 0 [⟨(some 12), .mv (.t 0), none⟩, ⟨(some 13), .mv (.t 4), none⟩, ⟨(some 14), .ixs (.t 12) (.t 13), none⟩, ⟨(some 5), .as 0 0 (.t 14), none⟩] [0, 3, 4, 5]) c75_12
abbrev c75_14 : AC := .block 1 c75_13
abbrev c75_15 : AC := .seq c75_14 (.ops 0 [⟨(some 10), .mv (.t 4), none⟩, ⟨(some 11), .bin .add (.t 10) (.k (.lf (.int .i64 1))), none⟩, ⟨(some 4), .as 0 0 (.t 11), none⟩] [0, 3, 4])
abbrev c75_16 : AC := .seq c75_1 c75_15
abbrev c75_17 : AC := .loop c75_16 [0, 3, 4]
abbrev c75_18 : AC := .block 0 c75_17
abbrev c75_19 : AC := .seq (.ops 0 [⟨(some 4), .as 0 0 (.k (.lf (.int .i64 0))), none⟩] [0, 3, 4]) c75_18
abbrev c75_20 : AC := .seq (.ops 0 [⟨(some 58), .mv (.t 3), none⟩, ⟨(some 59), .cbs (.t 58), none⟩, ⟨(some 60), .bin .add (.k (.lf (.str ⟨#[39]⟩))) (.t 59), none⟩, ⟨(some 61), .bin .add (.t 60) (.k (.lf (.str ⟨#[39]⟩))), none⟩, ⟨(some 2), .as 0 0 (.t 61), none⟩] [2]) .ret
abbrev c75_21 : AC := .seq c75_19 c75_20
abbrev c75_22 : AC := .seq (.ops 0 [⟨(some 3), .as 5 1 (.k (.lf (.lst .nl 1 [] []))), none⟩] [0, 3]) c75_21
abbrev c75_23 : AC := .seq (.ops 0 [⟨(some 2), .as 0 0 (.k (.lf (.str ⟨#[]⟩))), none⟩] [0]) c75_22
abbrev c75 : AC := c75_23
theorem c75_ok : compileFn Tryd.prog 75 = some (62, AC.strip c75, [.t 2]) := by kernel_rfl
end Go.Proofs.YtdoefdmaecaacaaDoor.S
set_option maxRecDepth 100000
namespace Go.Proofs.YtdoefdmaecaacaaDoor.S
open Go Go.Proofs.YtdoefdmaecaacaaDoor.AM
abbrev c5_0 : AC := .cond (.t 9) .skip (.exit 0)
abbrev c5_1 : AC := .seq (.ops 0 [⟨(some 5), .mv (.t 4), none⟩, ⟨(some 6), .fa (.t 1) 0, none⟩, ⟨(some 7), .ld (.t 6) 1 false, none⟩, ⟨(some 8), .len (.t 7), none⟩, ⟨(some 9), .bin .lss (.t 5) (.t 8), none⟩] [1, 2, 3, 4, 9]) c5_0
abbrev c5_2 : AC := .block 1 (.gdt (.one ⟨(some 12), .mv (.t 3), none⟩ (.one ⟨(some 13), .fa (.t 1) 0, none⟩ (.one ⟨(some 15), .mv (.t 4), none⟩ (.one ⟨(some 19), .fa (.t 1) 0, none⟩ (.one ⟨(some 21), .mv (.t 4), none⟩ (.alt (.one ⟨(some 14), .ld (.t 13) 1 false, none⟩ (.one ⟨(some 16), .ia (.t 14) (.t 15) 2, none⟩ (.one ⟨(some 17), .fa (.t 16) 0, none⟩ (.alt (.one ⟨(some 18), .ld (.t 17) 1 false, none⟩ (.one ⟨(some 20), .ld (.t 19) 1 false, none⟩ (.one ⟨(some 22), .ia (.t 20) (.t 21) 2, none⟩ (.one ⟨(some 23), .fa (.t 22) 1, none⟩ (.one ⟨(some 24), .ld (.t 23) 1 false, none⟩ (.one ⟨(some 25), .call 12 [(.t 24)], none⟩ (.one ⟨(some 26), .bd [.str ⟨#[]⟩, .lst .nl 7 [] []] [(0, 1, (.t 18)), (1, 1, (.t 25))], none⟩ (.one ⟨(some 27), .bs 37 2 1 [.str ⟨#[]⟩, .lst .ro 7 [] []] [(0, (.t 26))], none⟩ (.one ⟨(some 28), .app 37 2 40 (.t 12) (.t 27), none⟩ (.one ⟨(some 3), .as 37 2 (.t 28), none⟩ .nil)))))))))) (.one ⟨(some 20), .ld (.t 19) 1 false, none⟩ (.one ⟨(some 22), .ia (.t 20) (.t 21) 2, none⟩ (.one ⟨(some 23), .fa (.t 22) 1, none⟩ (.alt (.one ⟨(some 18), .ld (.t 17) 1 false, none⟩ (.one ⟨(some 24), .ld (.t 23) 1 false, none⟩ (.one ⟨(some 25), .call 12 [(.t 24)], none⟩ (.one ⟨(some 26), .bd [.str ⟨#[]⟩, .lst .nl 7 [] []] [(0, 1, (.t 18)), (1, 1, (.t 25))], none⟩ (.one ⟨(some 27), .bs 37 2 1 [.str ⟨#[]⟩, .lst .ro 7 [] []] [(0, (.t 26))], none⟩ (.one ⟨(some 28), .app 37 2 40 (.t 12) (.t 27), none⟩ (.one ⟨(some 3), .as 37 2 (.t 28), none⟩ .nil))))))) (.one ⟨(some 24), .ld (.t 23) 1 false, none⟩ (.alt (.one ⟨(some 18), .ld (.t 17) 1 false, none⟩ (.one ⟨(some 25), .call 12 [(.t 24)], none⟩ (.one ⟨(some 26), .bd [.str ⟨#[]⟩, .lst .nl 7 [] []] [(0, 1, (.t 18)), (1, 1, (.t 25))], none⟩ (.one ⟨(some 27), .bs 37 2 1 [.str ⟨#[]⟩, .lst .ro 7 [] []] [(0, (.t 26))], none⟩ (.one ⟨(some 28), .app 37 2 40 (.t 12) (.t 27), none⟩ (.one ⟨(some 3), .as 37 2 (.t 28), none⟩ .nil)))))) (.one ⟨(some 25), .call 12 [(.t 24)], none⟩ (.one ⟨(some 18), .ld (.t 17) 1 false, none⟩ (.one ⟨(some 26), .bd [.str ⟨#[]⟩, .lst .nl 7 [] []] [(0, 1, (.t 18)), (1, 1, (.t 25))], none⟩ (.one ⟨(some 27), .bs 37 2 1 [.str ⟨#[]⟩, .lst .ro 7 [] []] [(0, (.t 26))], none⟩ (.one ⟨(some 28), .app 37 2 40 (.t 12) (.t 27), none⟩ (.one ⟨(some 3), .as 37 2 (.t 28), none⟩ .nil)))))))))))))))) (.one ⟨(some 20), .ld (.t 19) 1 false, none⟩ (.one ⟨(some 22), .ia (.t 20) (.t 21) 2, none⟩ (.one ⟨(some 23), .fa (.t 22) 1, none⟩ (.alt (.one ⟨(some 14), .ld (.t 13) 1 false, none⟩ (.one ⟨(some 16), .ia (.t 14) (.t 15) 2, none⟩ (.one ⟨(some 17), .fa (.t 16) 0, none⟩ (.alt (.one ⟨(some 18), .ld (.t 17) 1 false, none⟩ (.one ⟨(some 24), .ld (.t 23) 1 false, none⟩ (.one ⟨(some 25), .call 12 [(.t 24)], none⟩ (.one ⟨(some 26), .bd [.str ⟨#[]⟩, .lst .nl 7 [] []] [(0, 1, (.t 18)), (1, 1, (.t 25))], none⟩ (.one ⟨(some 27), .bs 37 2 1 [.str ⟨#[]⟩, .lst .ro 7 [] []] [(0, (.t 26))], none⟩ (.one ⟨(some 28), .app 37 2 40 (.t 12) (.t 27), none⟩ (.one ⟨(some 3), .as 37 2 (.t 28), none⟩ .nil))))))) (.one ⟨(some 24), .ld (.t 23) 1 false, none⟩ (.alt (.one ⟨(some 18), .ld (.t 17) 1 false, none⟩ (.one ⟨(some 25), .call 12 [(.t 24)], none⟩ (.one ⟨(some 26), .bd [.str ⟨#[]⟩, .lst .nl 7 [] []] [(0, 1, (.t 18)), (1, 1, (.t 25))], none⟩ (.one ⟨(some 27), .bs 37 2 1 [.str ⟨#[]⟩, .lst .ro 7 [] []] [(0, (.t 26))], none⟩ (.one ⟨(some 28), .app 37 2 40 (.t 12) (.t 27), none⟩ (.one ⟨(some 3), .as 37 2 (.t 28), none⟩ .nil)))))) (.one ⟨(some 25), .call 12 [(.t 24)], none⟩ (.one ⟨(some 18), .ld (.t 17) 1 false, none⟩ (.one ⟨(some 26), .bd [.str ⟨#[]⟩, .lst .nl 7 [] []] [(0, 1, (.t 18)), (1, 1, (.t 25))], none⟩ (.one ⟨(some 27), .bs 37 2 1 [.str ⟨#[]⟩, .lst .ro 7 [] []] [(0, (.t 26))], none⟩ (.one ⟨(some 28), .app 37 2 40 (.t 12) (.t 27), none⟩ (.one ⟨(some 3), .as 37 2 (.t 28), none⟩ .nil)))))))))))) (.one ⟨(some 24), .ld (.t 23) 1 false, none⟩ (.alt (.one ⟨(some 14), .ld (.t 13) 1 false, none⟩ (.one ⟨(some 16), .ia (.t 14) (.t 15) 2, none⟩ (.one ⟨(some 17), .fa (.t 16) 0, none⟩ (.alt (.one ⟨(some 18), .ld (.t 17) 1 false, none⟩ (.one ⟨(some 25), .call 12 [(.t 24)], none⟩ (.one ⟨(some 26), .bd [.str ⟨#[]⟩, .lst .nl 7 [] []] [(0, 1, (.t 18)), (1, 1, (.t 25))], none⟩ (.one ⟨(some 27), .bs 37 2 1 [.str ⟨#[]⟩, .lst .ro 7 [] []] [(0, (.t 26))], none⟩ (.one ⟨(some 28), .app 37 2 40 (.t 12) (.t 27), none⟩ (.one ⟨(some 3), .as 37 2 (.t 28), none⟩ .nil)))))) (.one ⟨(some 25), .call 12 [(.t 24)], none⟩ (.one ⟨(some 18), .ld (.t 17) 1 false, none⟩ (.one ⟨(some 26), .bd [.str ⟨#[]⟩, .lst .nl 7 [] []] [(0, 1, (.t 18)), (1, 1, (.t 25))], none⟩ (.one ⟨(some 27), .bs 37 2 1 [.str ⟨#[]⟩, .lst .ro 7 [] []] [(0, (.t 26))], none⟩ (.one ⟨(some 28), .app 37 2 40 (.t 12) (.t 27), none⟩ (.one ⟨(some 3), .as 37 2 (.t 28), none⟩ .nil)))))))))) (.one ⟨(some 25), .call 12 [(.t 24)], none⟩ (.one ⟨(some 14), .ld (.t 13) 1 false, none⟩ (.one ⟨(some 16), .ia (.t 14) (.t 15) 2, none⟩ (.one ⟨(some 17), .fa (.t 16) 0, none⟩ (.one ⟨(some 18), .ld (.t 17) 1 false, none⟩ (.one ⟨(some 26), .bd [.str ⟨#[]⟩, .lst .nl 7 [] []] [(0, 1, (.t 18)), (1, 1, (.t 25))], none⟩ (.one ⟨(some 27), .bs 37 2 1 [.str ⟨#[]⟩, .lst .ro 7 [] []] [(0, (.t 26))], none⟩ (.one ⟨(some 28), .app 37 2 40 (.t 12) (.t 27), none⟩ (.one ⟨(some 3), .as 37 2 (.t 28), none⟩ .nil))))))))))))))))))))) [1, 2, 3, 4])
abbrev c5_3 : AC := .seq c5_2 (.ops 0 [⟨(some 10), .mv (.t 4), none⟩, ⟨(some 11), .bin .add (.t 10) (.k (.lf (.int .i64 1))), none⟩, ⟨(some 4), .as 0 0 (.t 11), none⟩] [1, 2, 3, 4])
abbrev c5_4 : AC := .seq c5_1 c5_3
abbrev c5_5 : AC := .loop c5_4 [1, 2, 3, 4]
abbrev c5_6 : AC := .block 0 c5_5
abbrev c5_7 : AC := .seq (.ops 0 [⟨(some 4), .as 0 0 (.k (.lf (.int .i64 0))), none⟩] [1, 2, 3, 4]) c5_6
abbrev c5_8 : AC := .seq (.ops 0 [⟨(some 29), .mv (.t 3), none⟩, ⟨(some 30), .bd [.str ⟨#[]⟩, .lst .nl 7 [] []] [(0, 1, (.k (.lf (.str ⟨#[115, 112, 97, 114, 101, 32, 114, 111, 111, 109]⟩))))], none⟩, ⟨(some 31), .bs 37 2 1 [.str ⟨#[]⟩, .lst .ro 7 [] []] [(0, (.t 30))], none⟩, ⟨(some 32), .app 37 2 40 (.t 29) (.t 31), none⟩, ⟨(some 33), .mv (.t 3), none⟩, ⟨(some 34), .len (.t 33), none⟩, ⟨(some 35), .sll 2 (.t 32) none (some (.t 34)), none⟩, ⟨(some 36), .bd [.lst .nl 2 [] []] [(0, 1, (.t 35))], none⟩, ⟨none, .st (.t 2) (.t 36) 1, none⟩] [2]) .ret
abbrev c5_9 : AC := .seq c5_7 c5_8
abbrev c5_10 : AC := .seq (.ops 0 [⟨(some 3), .as 37 2 (.k (.lf (.lst .nl 2 [] []))), none⟩] [1, 2, 3]) c5_9
abbrev c5_11 : AC := .seq (.ops 0 [⟨(some 1), .bx (.t 0), none⟩, ⟨(some 2), .al [.lst (.own 257 37) 2 [] []], none⟩] [1, 2]) c5_10
abbrev c5 : AC := c5_11
abbrev c6_0 : AC := .seq (.ops 0 [⟨(some 12), .mv (.t 4), none⟩, ⟨(some 2), .as 0 0 (.k (.lf (.str ⟨#[]⟩))), none⟩, ⟨(some 3), .as 0 0 (.t 12), none⟩] [2, 3]) .ret
abbrev c6_1 : AC := .cond (.t 11) c6_0 .skip
abbrev c6_2 : AC := .seq (.ops 0 [⟨(some 10), .mv (.t 4), none⟩, ⟨(some 11), .bin .neq (.t 10) (.k (.lf (.int .i64 0))), none⟩] [1, 4, 11]) c6_1
abbrev c6_3 : AC := .seq (.ops 0 [⟨(some 8), .ld (.t 1) 1 true, none⟩, ⟨(some 9), .call 13 [(.t 8)], none⟩, ⟨(some 4), .as 0 0 (.t 9), none⟩] [1, 4]) c6_2
abbrev c6_4 : AC := .cond (.t 19) .skip (.exit 0)
abbrev c6_5 : AC := .cond (.t 24) (.ops 0 [⟨(some 25), .mv (.t 5), none⟩, ⟨(some 26), .fa (.t 7) 0, none⟩, ⟨(some 27), .ld (.t 26) 1 false, none⟩, ⟨(some 28), .bin .add (.t 27) (.k (.lf (.str ⟨#[32, 60, 45, 32]⟩))), none⟩, ⟨(some 29), .callp 14 0 [(.t 25), (.t 28)], none⟩] [5, 7, 16, 17, 18]) .skip
abbrev c6_6 : AC := .seq (.ops 0 [⟨(some 22), .fa (.t 7) 0, none⟩, ⟨(some 23), .ld (.t 22) 1 false, none⟩, ⟨(some 24), .bin .neq (.t 23) (.k (.lf (.str ⟨#[]⟩))), none⟩] [5, 7, 16, 17, 18, 24]) c6_5
abbrev c6_7 : AC := .seq (.ops 0 [⟨(some 30), .mv (.t 5), none⟩, ⟨(some 31), .fa (.t 7) 1, none⟩, ⟨(some 32), .ld (.t 31) 1 false, none⟩, ⟨(some 33), .call 16 [(.t 32)], none⟩, ⟨(some 34), .callp 15 0 [(.t 30), (.t 33)], none⟩] [5, 16, 17, 18]) (.ops 0 [⟨(some 35), .mv (.t 5), none⟩, ⟨(some 36), .callp 14 0 [(.t 35), (.k (.lf (.str ⟨#[10]⟩)))], none⟩] [5, 16, 17, 18])
abbrev c6_8 : AC := .seq c6_6 c6_7
abbrev c6_9 : AC := .seq (.ops 0 [⟨(some 20), .ia (.t 16) (.t 18) 2, none⟩, ⟨(some 21), .ld (.t 20) 2 true, none⟩, ⟨(some 7), .al [.str ⟨#[]⟩, .lst (.own 899 58) 7 [] []], none⟩, ⟨none, .st (.t 7) (.t 21) 2, none⟩] [5, 7, 16, 17, 18]) c6_8
abbrev c6_10 : AC := .block 1 c6_9
abbrev c6_11 : AC := .seq c6_10 (.ops 0 [⟨(some 37), .bin .add (.t 18) (.k (.lf (.int .i64 1))), none⟩, ⟨(some 18), .mv (.t 37), none⟩] [5, 16, 17, 18])
abbrev c6_12 : AC := .seq c6_4 c6_11
abbrev c6_13 : AC := .seq (.ops 0 [⟨(some 19), .bin .lss (.t 18) (.t 17), none⟩] [5, 16, 17, 18, 19]) c6_12
abbrev c6_14 : AC := .loop c6_13 [5, 16, 17, 18]
abbrev c6_15 : AC := .block 0 c6_14
abbrev c6_16 : AC := .seq (.ops 0 [⟨(some 15), .fa (.t 1) 0, none⟩, ⟨(some 16), .ld (.t 15) 1 false, none⟩, ⟨(some 17), .len (.t 16), none⟩, ⟨(some 18), .mv (.k (.lf (.int .i64 0))), none⟩] [5, 16, 17, 18]) c6_15
abbrev c6_17 : AC := .seq (.ops 0 [⟨(some 38), .mv (.t 5), none⟩, ⟨(some 39), .callp 17 0 [(.t 38)], none⟩, ⟨(some 40), .ext (.t 39) 0, none⟩, ⟨(some 41), .ext (.t 39) 1, none⟩, ⟨(some 2), .as 0 0 (.t 40), none⟩, ⟨(some 3), .as 0 0 (.t 41), none⟩] [2, 3]) .ret
abbrev c6_18 : AC := .seq c6_16 c6_17
abbrev c6_19 : AC := .seq (.ops 0 [⟨(some 13), .bd [.nilp, .lst .nl 1 [] [], .bool false] [], none⟩, ⟨(some 14), .bxt 46 (.t 13), none⟩, ⟨(some 5), .as 0 0 (.t 14), none⟩] [1, 5]) c6_18
abbrev c6_20 : AC := .seq c6_3 c6_19
abbrev c6_21 : AC := .seq (.ops 0 [⟨(some 1), .bx (.t 0), none⟩, ⟨(some 2), .as 0 0 (.k (.lf (.str ⟨#[]⟩))), none⟩, ⟨(some 3), .as 0 0 (.k (.lf (.int .i64 0))), none⟩] [1]) c6_20
abbrev c6 : AC := c6_21
theorem c6_ok : compileFn Tryd.prog 6 = some (42, AC.strip c6, [.t 2, .t 3]) := by kernel_rfl
abbrev c9_0 : AC := .seq (.ops 0 [⟨(some 41), .mv (.t 3), none⟩, ⟨(some 42), .bin .eql (.t 41) (.k (.lf (.str ⟨#[40, 39, 97, 39, 32, 39, 98, 39, 41, 42]⟩))), none⟩, ⟨(some 43), .mv (.t 42), none⟩, ⟨(some 44), .mv (.t 4), (some (43, true))⟩, ⟨(some 45), .bin .eql (.t 44) (.k (.lf (.int .i64 0))), (some (43, true))⟩, ⟨(some 46), .pk (.t 43) (.t 45) (.k (.lf (.bool false))), none⟩, ⟨(some 47), .mv (.t 46), none⟩, ⟨(some 48), .mv (.t 5), (some (47, true))⟩, ⟨(some 49), .bin .eql (.t 48) (.k (.lf (.str ⟨#[33, 39, 97, 39, 42]⟩))), (some (47, true))⟩, ⟨(some 50), .pk (.t 47) (.t 49) (.k (.lf (.bool false))), none⟩, ⟨(some 51), .mv (.t 50), none⟩, ⟨(some 52), .mv (.t 6), (some (51, true))⟩, ⟨(some 53), .bin .eql (.t 52) (.k (.lf (.int .i64 0))), (some (51, true))⟩, ⟨(some 54), .pk (.t 51) (.t 53) (.k (.lf (.bool false))), none⟩, ⟨(some 55), .mv (.t 54), none⟩, ⟨(some 56), .mv (.t 7), (some (55, true))⟩, ⟨(some 57), .bin .eql (.t 56) (.k (.lf (.str ⟨#[115, 32, 60, 45, 32, 39, 97, 39, 32, 115, 32, 47, 32, 37, 101, 10]⟩))), (some (55, true))⟩, ⟨(some 58), .pk (.t 55) (.t 57) (.k (.lf (.bool false))), none⟩, ⟨(some 59), .mv (.t 58), none⟩, ⟨(some 60), .mv (.t 8), (some (59, true))⟩, ⟨(some 61), .bin .eql (.t 60) (.k (.lf (.int .i64 0))), (some (59, true))⟩, ⟨(some 62), .pk (.t 59) (.t 61) (.k (.lf (.bool false))), none⟩, ⟨(some 0), .as 0 0 (.t 62), none⟩] [0]) .ret
abbrev c9_1 : AC := .seq (.ops 0 [⟨(some 29), .ld (.t 1) 7 true, none⟩, ⟨(some 30), .bd [.int .i64 0, .int .i64 0, .str ⟨#[]⟩, .int .u64 0, .int .u64 0, .int .u64 0, .int .u64 0] [(0, 1, (.k (.lf (.int .i64 6)))), (2, 1, (.k (.lf (.str ⟨#[115]⟩))))], none⟩, ⟨(some 31), .bd [.int .i64 0, .int .i64 0, .str ⟨#[]⟩, .int .u64 0, .int .u64 0, .int .u64 0, .int .u64 0] [(0, 1, (.k (.lf (.int .i64 7))))], none⟩, ⟨(some 32), .bd [.int .i64 0, .int .i64 0, .str ⟨#[]⟩, .int .u64 0, .int .u64 0, .int .u64 0, .int .u64 0] [(0, 1, (.k (.lf (.int .i64 1))))], none⟩, ⟨(some 33), .bd [.int .i64 0, .int .i64 0, .str ⟨#[]⟩, .int .u64 0, .int .u64 0, .int .u64 0, .int .u64 0] [(0, 1, (.k (.lf (.int .i64 8))))], none⟩, ⟨(some 34), .bs 58 7 5 [.int .i64 0, .int .i64 0, .str ⟨#[]⟩, .int .u64 0, .int .u64 0, .int .u64 0, .int .u64 0] [(0, (.t 29)), (1, (.t 30)), (2, (.t 31)), (3, (.t 32)), (4, (.t 33))], none⟩, ⟨(some 35), .bd [.str ⟨#[]⟩, .lst .nl 7 [] []] [(0, 1, (.k (.lf (.str ⟨#[115]⟩)))), (1, 1, (.t 34))], none⟩, ⟨(some 36), .bs 37 2 1 [.str ⟨#[]⟩, .lst .ro 7 [] []] [(0, (.t 35))], none⟩, ⟨(some 37), .bd [.lst .nl 2 [] []] [(0, 1, (.t 36))], none⟩, ⟨(some 38), .call 6 [(.t 37)], none⟩, ⟨(some 28), .mv (.t 38), none⟩, ⟨(some 39), .ext (.t 28) 0, none⟩, ⟨(some 40), .ext (.t 28) 1, none⟩, ⟨(some 7), .as 0 0 (.t 39), none⟩, ⟨(some 8), .as 0 0 (.t 40), none⟩] [3, 4, 5, 6, 7, 8]) c9_0
abbrev c9_2 : AC := .seq (.ops 0 [⟨(some 21), .ld (.t 1) 7 true, none⟩, ⟨(some 22), .bd [.int .i64 0, .int .i64 0, .str ⟨#[]⟩, .int .u64 0, .int .u64 0, .int .u64 0, .int .u64 0] [(0, 1, (.k (.lf (.int .i64 9))))], none⟩, ⟨(some 23), .bd [.int .i64 0, .int .i64 0, .str ⟨#[]⟩, .int .u64 0, .int .u64 0, .int .u64 0, .int .u64 0] [(0, 1, (.k (.lf (.int .i64 13))))], none⟩, ⟨(some 24), .bs 58 7 3 [.int .i64 0, .int .i64 0, .str ⟨#[]⟩, .int .u64 0, .int .u64 0, .int .u64 0, .int .u64 0] [(0, (.t 21)), (1, (.t 22)), (2, (.t 23))], none⟩, ⟨(some 25), .call 21 [(.t 24)], none⟩, ⟨(some 20), .mv (.t 25), none⟩, ⟨(some 26), .ext (.t 20) 0, none⟩, ⟨(some 27), .ext (.t 20) 1, none⟩, ⟨(some 5), .as 0 0 (.t 26), none⟩, ⟨(some 6), .as 0 0 (.t 27), none⟩] [1, 3, 4, 5, 6]) c9_1
abbrev c9_3 : AC := .seq (.ops 0 [⟨(some 12), .ld (.t 1) 7 true, none⟩, ⟨(some 13), .ld (.t 2) 7 true, none⟩, ⟨(some 14), .bd [.int .i64 0, .int .i64 0, .str ⟨#[]⟩, .int .u64 0, .int .u64 0, .int .u64 0, .int .u64 0] [(0, 1, (.k (.lf (.int .i64 7))))], none⟩, ⟨(some 15), .bd [.int .i64 0, .int .i64 0, .str ⟨#[]⟩, .int .u64 0, .int .u64 0, .int .u64 0, .int .u64 0] [(0, 1, (.k (.lf (.int .i64 9))))], none⟩, ⟨(some 16), .bs 58 7 4 [.int .i64 0, .int .i64 0, .str ⟨#[]⟩, .int .u64 0, .int .u64 0, .int .u64 0, .int .u64 0] [(0, (.t 12)), (1, (.t 13)), (2, (.t 14)), (3, (.t 15))], none⟩, ⟨(some 17), .call 21 [(.t 16)], none⟩, ⟨(some 11), .mv (.t 17), none⟩, ⟨(some 18), .ext (.t 11) 0, none⟩, ⟨(some 19), .ext (.t 11) 1, none⟩, ⟨(some 3), .as 0 0 (.t 18), none⟩, ⟨(some 4), .as 0 0 (.t 19), none⟩] [1, 3, 4]) c9_2
abbrev c9_4 : AC := .seq (.ops 0 [⟨(some 9), .bd [.int .i64 0, .int .i64 0, .str ⟨#[]⟩, .int .u64 0, .int .u64 0, .int .u64 0, .int .u64 0] [(0, 1, (.k (.lf (.int .i64 4)))), (2, 1, (.k (.lf (.str ⟨#[97]⟩))))], none⟩, ⟨(some 10), .bd [.int .i64 0, .int .i64 0, .str ⟨#[]⟩, .int .u64 0, .int .u64 0, .int .u64 0, .int .u64 0] [(0, 1, (.k (.lf (.int .i64 4)))), (2, 1, (.k (.lf (.str ⟨#[98]⟩))))], none⟩, ⟨(some 1), .al [.int .i64 0, .int .i64 0, .str ⟨#[]⟩, .int .u64 0, .int .u64 0, .int .u64 0, .int .u64 0], none⟩, ⟨(some 2), .al [.int .i64 0, .int .i64 0, .str ⟨#[]⟩, .int .u64 0, .int .u64 0, .int .u64 0, .int .u64 0], none⟩, ⟨none, .st (.t 1) (.t 9) 7, none⟩, ⟨none, .st (.t 2) (.t 10) 7, none⟩] [1, 2]) c9_3
abbrev c9_5 : AC := .seq (.ops 0 [⟨(some 0), .as 0 0 (.k (.lf (.bool false))), none⟩] []) c9_4
abbrev c9 : AC := c9_5
theorem c9_ok : compileFn Tryd.prog 9 = some (63, AC.strip c9, [.t 0]) := by kernel_rfl
abbrev c21_0 : AC := .seq (.ops 0 [⟨(some 14), .mv (.t 5), none⟩, ⟨(some 2), .as 0 0 (.k (.lf (.str ⟨#[]⟩))), none⟩, ⟨(some 3), .as 0 0 (.t 14), none⟩] [2, 3]) .ret
abbrev c21_1 : AC := .cond (.t 13) c21_0 .skip
abbrev c21_2 : AC := .seq (.ops 0 [⟨(some 12), .mv (.t 5), none⟩, ⟨(some 13), .bin .neq (.t 12) (.k (.lf (.int .i64 0))), none⟩] [0, 5, 13]) c21_1
abbrev c21_3 : AC := .seq (.ops 0 [⟨(some 8), .mv (.t 0), none⟩, ⟨(some 9), .call 22 [(.t 8)], none⟩, ⟨(some 7), .mv (.t 9), none⟩, ⟨(some 10), .ext (.t 7) 0, none⟩, ⟨(some 11), .ext (.t 7) 1, none⟩, ⟨(some 4), .as 0 0 (.t 10), none⟩, ⟨(some 5), .as 0 0 (.t 11), none⟩] [0, 5]) c21_2
abbrev c21_4 : AC := .seq (.ops 0 [⟨(some 21), .mv (.t 6), none⟩, ⟨(some 22), .callp 17 0 [(.t 21)], none⟩, ⟨(some 23), .ext (.t 22) 0, none⟩, ⟨(some 24), .ext (.t 22) 1, none⟩, ⟨(some 2), .as 0 0 (.t 23), none⟩, ⟨(some 3), .as 0 0 (.t 24), none⟩] [2, 3]) .ret
abbrev c21_5 : AC := .seq (.ops 0 [⟨(some 17), .mv (.t 6), none⟩, ⟨(some 18), .mv (.t 0), none⟩, ⟨(some 19), .call 16 [(.t 18)], none⟩, ⟨(some 20), .callp 15 0 [(.t 17), (.t 19)], none⟩] [6]) c21_4
abbrev c21_6 : AC := .seq (.ops 0 [⟨(some 15), .bd [.nilp, .lst .nl 1 [] [], .bool false] [], none⟩, ⟨(some 16), .bxt 46 (.t 15), none⟩, ⟨(some 6), .as 0 0 (.t 16), none⟩] [0, 6]) c21_5
abbrev c21_7 : AC := .seq c21_3 c21_6
abbrev c21_8 : AC := .seq (.ops 0 [⟨(some 2), .as 0 0 (.k (.lf (.str ⟨#[]⟩))), none⟩, ⟨(some 3), .as 0 0 (.k (.lf (.int .i64 0))), none⟩] [0]) c21_7
abbrev c21 : AC := c21_8
theorem c21_ok : compileFn Tryd.prog 21 = some (25, AC.strip c21, [.t 2, .t 3]) := by kernel_rfl
abbrev c4_0 : AC := .seq (.ops 0 [⟨(some 4), .as 0 0 (.k (.lf (.bool false))), none⟩] [4]) .ret
abbrev c4_1 : AC := .cond (.t 12) c4_0 .skip
abbrev c4_2 : AC := .seq (.ops 0 [⟨(some 11), .call 9 [], none⟩, ⟨(some 12), .un .not (.t 11), none⟩] [0, 1, 12]) c4_1
abbrev c4_3 : AC := .seq (.ops 0 [⟨(some 25), .mv (.t 5), none⟩, ⟨(some 26), .bin .eql (.t 25) (.k (.lf (.str ⟨#[]⟩))), none⟩, ⟨(some 4), .as 0 0 (.t 26), none⟩] [4]) .ret
abbrev c4_4 : AC := .cond (.t 24) c4_3 .skip
abbrev c4_5 : AC := .seq (.ops 0 [⟨(some 23), .mv (.t 6), none⟩, ⟨(some 24), .bin .neq (.t 23) (.k (.lf (.int .i64 0))), none⟩] [0, 1, 5, 7, 8, 24]) c4_4
abbrev c4_6 : AC := .cond (.t 30) .skip (.exit 0)
abbrev c4_7 : AC := .seq (.ops 0 [⟨(some 27), .mv (.t 10), none⟩, ⟨(some 28), .mv (.t 5), none⟩, ⟨(some 29), .lns (.t 28), none⟩, ⟨(some 30), .bin .lss (.t 27) (.t 29), none⟩] [0, 1, 5, 7, 8, 9, 10, 30]) c4_6
abbrev c4_8 : AC := .cond (.t 36) (.ops 0 [⟨(some 37), .mv (.t 9), none⟩, ⟨(some 38), .bin .add (.t 37) (.k (.lf (.int .i64 1))), none⟩, ⟨(some 9), .as 0 0 (.t 38), none⟩] [0, 1, 5, 7, 8, 9, 10]) .skip
abbrev c4_9 : AC := .seq (.ops 0 [⟨(some 33), .mv (.t 5), none⟩, ⟨(some 34), .mv (.t 10), none⟩, ⟨(some 35), .ixs (.t 33) (.t 34), none⟩, ⟨(some 36), .bin .eql (.t 35) (.k (.lf (.int .u8 10))), none⟩] [0, 1, 5, 7, 8, 9, 10, 36]) c4_8
abbrev c4_10 : AC := .block 1 c4_9
abbrev c4_11 : AC := .seq c4_10 (.ops 0 [⟨(some 31), .mv (.t 10), none⟩, ⟨(some 32), .bin .add (.t 31) (.k (.lf (.int .i64 1))), none⟩, ⟨(some 10), .as 0 0 (.t 32), none⟩] [0, 1, 5, 7, 8, 9, 10])
abbrev c4_12 : AC := .seq c4_7 c4_11
abbrev c4_13 : AC := .loop c4_12 [0, 1, 5, 7, 8, 9, 10]
abbrev c4_14 : AC := .block 0 c4_13
abbrev c4_15 : AC := .seq (.ops 0 [⟨(some 10), .as 0 0 (.k (.lf (.int .i64 0))), none⟩] [0, 1, 5, 7, 8, 9, 10]) c4_14
abbrev c4_16 : AC := .seq (.ops 0 [⟨(some 39), .mv (.t 9), none⟩, ⟨(some 40), .mv (.t 0), none⟩, ⟨(some 41), .len (.t 40), none⟩, ⟨(some 42), .bin .eql (.t 39) (.t 41), none⟩, ⟨(some 43), .mv (.t 42), none⟩, ⟨(some 44), .mv (.t 8), (some (43, true))⟩, ⟨(some 45), .bin .neq (.t 44) (.k (.lf (.int .i64 0))), (some (43, true))⟩, ⟨(some 46), .mv (.t 45), (some (43, true))⟩, ⟨(some 47), .mv (.t 5), (some (46, false))⟩, ⟨(some 48), .mv (.t 7), (some (46, false))⟩, ⟨(some 49), .bin .eql (.t 47) (.t 48), (some (46, false))⟩, ⟨(some 50), .mv (.t 0), (some (46, false))⟩, ⟨(some 51), .mv (.t 1), (some (46, false))⟩, ⟨(some 52), .call 11 [(.t 50), (.t 51)], (some (46, false))⟩, ⟨(some 53), .bqb false (.t 49) (.t 52), (some (46, false))⟩, ⟨(some 54), .pk (.t 46) (.k (.lf (.bool true))) (.t 53), (some (43, true))⟩, ⟨(some 55), .pk (.t 43) (.t 54) (.k (.lf (.bool false))), none⟩, ⟨(some 4), .as 0 0 (.t 55), none⟩] [4]) .ret
abbrev c4_17 : AC := .seq c4_15 c4_16
abbrev c4_18 : AC := .seq (.ops 0 [⟨(some 9), .as 0 0 (.k (.lf (.int .i64 0))), none⟩] [0, 1, 5, 7, 8, 9]) c4_17
abbrev c4_19 : AC := .seq c4_5 c4_18
abbrev c4_20 : AC := .seq (.ops 0 [⟨(some 19), .mv (.t 1), none⟩, ⟨(some 20), .call 10 [(.t 19)], none⟩, ⟨(some 18), .mv (.t 20), none⟩, ⟨(some 21), .ext (.t 18) 0, none⟩, ⟨(some 22), .ext (.t 18) 1, none⟩, ⟨(some 7), .as 0 0 (.t 21), none⟩, ⟨(some 8), .as 0 0 (.t 22), none⟩] [0, 1, 5, 6, 7, 8]) c4_19
abbrev c4_21 : AC := .seq (.ops 0 [⟨(some 14), .mv (.t 0), none⟩, ⟨(some 15), .call 10 [(.t 14)], none⟩, ⟨(some 13), .mv (.t 15), none⟩, ⟨(some 16), .ext (.t 13) 0, none⟩, ⟨(some 17), .ext (.t 13) 1, none⟩, ⟨(some 5), .as 0 0 (.t 16), none⟩, ⟨(some 6), .as 0 0 (.t 17), none⟩] [0, 1, 5, 6]) c4_20
abbrev c4_22 : AC := .seq c4_2 c4_21
abbrev c4_23 : AC := .seq (.ops 0 [⟨(some 4), .as 0 0 (.k (.lf (.bool false))), none⟩] [0, 1]) c4_22
abbrev c4 : AC := c4_23
theorem c4_ok : compileFn Tryd.prog 4 = some (56, AC.strip c4, [.t 4]) := by kernel_rfl
abbrev c10_0 : AC := .seq (.ops 0 [⟨(some 14), .mv (.t 5), none⟩, ⟨(some 2), .as 0 0 (.k (.lf (.str ⟨#[]⟩))), none⟩, ⟨(some 3), .as 0 0 (.t 14), none⟩] [2, 3]) .ret
abbrev c10_1 : AC := .cond (.t 13) c10_0 .skip
abbrev c10_2 : AC := .seq (.ops 0 [⟨(some 12), .mv (.t 5), none⟩, ⟨(some 13), .bin .neq (.t 12) (.k (.lf (.int .i64 0))), none⟩] [0, 5, 13]) c10_1
abbrev c10_3 : AC := .seq (.ops 0 [⟨(some 8), .mv (.t 0), none⟩, ⟨(some 9), .call 22 [(.t 8)], none⟩, ⟨(some 7), .mv (.t 9), none⟩, ⟨(some 10), .ext (.t 7) 0, none⟩, ⟨(some 11), .ext (.t 7) 1, none⟩, ⟨(some 4), .as 0 0 (.t 10), none⟩, ⟨(some 5), .as 0 0 (.t 11), none⟩] [0, 5]) c10_2
abbrev c10_4 : AC := .seq (.ops 0 [⟨(some 21), .mv (.t 6), none⟩, ⟨(some 22), .callp 17 0 [(.t 21)], none⟩, ⟨(some 23), .ext (.t 22) 0, none⟩, ⟨(some 24), .ext (.t 22) 1, none⟩, ⟨(some 2), .as 0 0 (.t 23), none⟩, ⟨(some 3), .as 0 0 (.t 24), none⟩] [2, 3]) .ret
abbrev c10_5 : AC := .seq (.ops 0 [⟨(some 17), .mv (.t 6), none⟩, ⟨(some 18), .mv (.t 0), none⟩, ⟨(some 19), .call 16 [(.t 18)], none⟩, ⟨(some 20), .callp 23 0 [(.t 17), (.t 19), (.k (.lf (.int .i64 0)))], none⟩] [6]) c10_4
abbrev c10_6 : AC := .seq (.ops 0 [⟨(some 15), .bd [.nilp, .lst .nl 1 [] [], .bool false] [], none⟩, ⟨(some 16), .bxt 46 (.t 15), none⟩, ⟨(some 6), .as 0 0 (.t 16), none⟩] [0, 6]) c10_5
abbrev c10_7 : AC := .seq c10_3 c10_6
abbrev c10_8 : AC := .seq (.ops 0 [⟨(some 2), .as 0 0 (.k (.lf (.str ⟨#[]⟩))), none⟩, ⟨(some 3), .as 0 0 (.k (.lf (.int .i64 0))), none⟩] [0]) c10_7
abbrev c10 : AC := c10_8
theorem c10_ok : compileFn Tryd.prog 10 = some (25, AC.strip c10, [.t 2, .t 3]) := by kernel_rfl
abbrev c11_0 : AC := .seq (.ops 0 [⟨(some 5), .mv (.t 0), none⟩, ⟨(some 6), .mv (.t 1), none⟩, ⟨(some 7), .call 24 [(.t 5), (.t 6)], none⟩, ⟨(some 4), .as 0 0 (.t 7), none⟩] [4]) .ret
abbrev c11_1 : AC := .seq (.ops 0 [⟨(some 4), .as 0 0 (.k (.lf (.bool false))), none⟩] [0, 1]) c11_0
abbrev c11 : AC := c11_1
theorem c11_ok : compileFn Tryd.prog 11 = some (8, AC.strip c11, [.t 4]) := by kernel_rfl
abbrev c23_0 : AC := .cond (.t 12) .ret .skip
abbrev c23_1 : AC := .seq (.ops 0 [⟨(some 9), .mv (.t 0), none⟩, ⟨(some 10), .nc (.t 9), none⟩, ⟨(some 11), .fa (.t 10) 2, none⟩, ⟨(some 12), .ld (.t 11) 1 false, none⟩] [0, 1, 2, 12]) c23_0
abbrev c23_2 : AC := .cond (.t 27) .skip (.ops 0 [⟨(some 29), .bin .eql (.t 26) (.k (.lf (.int .i64 22))), none⟩, ⟨(some 27), .as 0 0 (.t 29), none⟩] [0, 1, 2, 6, 26, 27])
abbrev c23_3 : AC := .seq (.ops 0 [⟨(some 28), .bin .eql (.t 26) (.k (.lf (.int .i64 4))), none⟩, ⟨(some 27), .as 0 0 (.t 28), none⟩] [0, 1, 2, 6, 26, 27]) c23_2
abbrev c23_4 : AC := .cond (.t 67) (.ops 0 [⟨(some 68), .mv (.t 6), none⟩, ⟨(some 69), .mv (.t 1), none⟩, ⟨(some 70), .nc (.t 69), none⟩, ⟨(some 71), .fa (.t 70) 0, none⟩, ⟨(some 72), .fa (.t 71) 2, none⟩, ⟨(some 73), .ld (.t 72) 1 false, none⟩, ⟨(some 74), .bin .add (.k (.lf (.str ⟨#[32]⟩))) (.t 73), none⟩, ⟨(some 75), .bin .add (.t 68) (.t 74), none⟩, ⟨(some 6), .as 0 0 (.t 75), none⟩] [0, 1, 2, 6]) .skip
abbrev c23_5 : AC := .seq (.ops 0 [⟨(some 62), .mv (.t 1), none⟩, ⟨(some 63), .nc (.t 62), none⟩, ⟨(some 64), .fa (.t 63) 0, none⟩, ⟨(some 65), .fa (.t 64) 2, none⟩, ⟨(some 66), .ld (.t 65) 1 false, none⟩, ⟨(some 67), .bin .neq (.t 66) (.k (.lf (.str ⟨#[]⟩))), none⟩] [0, 1, 2, 6, 67]) c23_4
abbrev c23_6 : AC := .cond (.t 76) .skip (.ops 0 [⟨(some 80), .bin .eql (.t 26) (.k (.lf (.int .i64 23))), none⟩, ⟨(some 76), .as 0 0 (.t 80), none⟩] [0, 1, 2, 6, 76])
abbrev c23_7 : AC := .seq (.ops 0 [⟨(some 79), .bin .eql (.t 26) (.k (.lf (.int .i64 16))), none⟩, ⟨(some 76), .as 0 0 (.t 79), none⟩] [0, 1, 2, 6, 26, 76]) c23_6
abbrev c23_8 : AC := .cond (.t 76) .skip c23_7
abbrev c23_9 : AC := .seq (.ops 0 [⟨(some 78), .bin .eql (.t 26) (.k (.lf (.int .i64 15))), none⟩, ⟨(some 76), .as 0 0 (.t 78), none⟩] [0, 1, 2, 6, 26, 76]) c23_8
abbrev c23_10 : AC := .cond (.t 76) .skip c23_9
abbrev c23_11 : AC := .seq (.ops 0 [⟨(some 77), .bin .eql (.t 26) (.k (.lf (.int .i64 14))), none⟩, ⟨(some 76), .as 0 0 (.t 77), none⟩] [0, 1, 2, 6, 26, 76]) c23_10
abbrev c23_12 : AC := .cond (.t 76) (.ops 0 [⟨(some 81), .mv (.t 6), none⟩, ⟨(some 82), .mv (.t 1), none⟩, ⟨(some 83), .nc (.t 82), none⟩, ⟨(some 84), .fa (.t 83) 0, none⟩, ⟨(some 85), .fa (.t 84) 1, none⟩, ⟨(some 86), .ld (.t 85) 1 false, none⟩, ⟨(some 87), .call 44 [(.t 86)], none⟩, ⟨(some 88), .bin .add (.k (.lf (.str ⟨#[32]⟩))) (.t 87), none⟩, ⟨(some 89), .bin .add (.t 81) (.t 88), none⟩, ⟨(some 6), .as 0 0 (.t 89), none⟩] [0, 1, 2, 6]) .skip
abbrev c23_13 : AC := .seq c23_11 c23_12
abbrev c23_14 : AC := .cond (.t 60) c23_5 c23_13
abbrev c23_15 : AC := .seq (.ops 0 [⟨(some 61), .bin .eql (.t 26) (.k (.lf (.int .i64 19))), none⟩, ⟨(some 60), .as 0 0 (.t 61), none⟩] [0, 1, 2, 6, 26, 60]) c23_14
abbrev c23_16 : AC := .cond (.t 50) (.ops 0 [⟨(some 52), .mv (.t 6), none⟩, ⟨(some 53), .mv (.t 1), none⟩, ⟨(some 54), .nc (.t 53), none⟩, ⟨(some 55), .fa (.t 54) 0, none⟩, ⟨(some 56), .fa (.t 55) 2, none⟩, ⟨(some 57), .ld (.t 56) 1 false, none⟩, ⟨(some 58), .bin .add (.k (.lf (.str ⟨#[32]⟩))) (.t 57), none⟩, ⟨(some 59), .bin .add (.t 52) (.t 58), none⟩, ⟨(some 6), .as 0 0 (.t 59), none⟩] [0, 1, 2, 6]) c23_15
abbrev c23_17 : AC := .seq (.ops 0 [⟨(some 51), .bin .eql (.t 26) (.k (.lf (.int .i64 6))), none⟩, ⟨(some 50), .as 0 0 (.t 51), none⟩] [0, 1, 2, 6, 26, 50]) c23_16
abbrev c23_18 : AC := .cond (.t 39) (.ops 0 [⟨(some 41), .mv (.t 6), none⟩, ⟨(some 42), .mv (.t 1), none⟩, ⟨(some 43), .nc (.t 42), none⟩, ⟨(some 44), .fa (.t 43) 0, none⟩, ⟨(some 45), .fa (.t 44) 3, none⟩, ⟨(some 46), .ld (.t 45) 4 true, none⟩, ⟨(some 47), .call 29 [(.t 46)], none⟩, ⟨(some 48), .bin .add (.k (.lf (.str ⟨#[32]⟩))) (.t 47), none⟩, ⟨(some 49), .bin .add (.t 41) (.t 48), none⟩, ⟨(some 6), .as 0 0 (.t 49), none⟩] [0, 1, 2, 6]) c23_17
abbrev c23_19 : AC := .seq (.ops 0 [⟨(some 40), .bin .eql (.t 26) (.k (.lf (.int .i64 5))), none⟩, ⟨(some 39), .as 0 0 (.t 40), none⟩] [0, 1, 2, 6, 26, 39]) c23_18
abbrev c23_20 : AC := .cond (.t 27) (.ops 0 [⟨(some 30), .mv (.t 6), none⟩, ⟨(some 31), .mv (.t 1), none⟩, ⟨(some 32), .nc (.t 31), none⟩, ⟨(some 33), .fa (.t 32) 0, none⟩, ⟨(some 34), .fa (.t 33) 2, none⟩, ⟨(some 35), .ld (.t 34) 1 false, none⟩, ⟨(some 36), .call 28 [(.t 35)], none⟩, ⟨(some 37), .bin .add (.k (.lf (.str ⟨#[32]⟩))) (.t 36), none⟩, ⟨(some 38), .bin .add (.t 30) (.t 37), none⟩, ⟨(some 6), .as 0 0 (.t 38), none⟩] [0, 1, 2, 6]) c23_19
abbrev c23_21 : AC := .seq c23_3 c23_20
abbrev c23_22 : AC := .block 0 c23_21
abbrev c23_23 : AC := .seq (.ops 0 [⟨(some 22), .mv (.t 1), none⟩, ⟨(some 23), .nc (.t 22), none⟩, ⟨(some 24), .fa (.t 23) 0, none⟩, ⟨(some 25), .fa (.t 24) 0, none⟩, ⟨(some 26), .ld (.t 25) 1 false, none⟩] [0, 1, 2, 6, 26]) c23_22
abbrev c23_24 : AC := .cond (.t 100) .skip (.exit 1)
abbrev c23_25 : AC := .seq (.ops 0 [⟨(some 101), .ia (.t 97) (.t 99) 1, none⟩, ⟨(some 102), .ld (.t 101) 1 false, none⟩, ⟨(some 8), .as 0 0 (.t 102), none⟩] [0, 2, 8, 97, 98, 99]) (.ops 0 [⟨(some 103), .mv (.t 0), none⟩, ⟨(some 104), .mv (.t 8), none⟩, ⟨(some 105), .mv (.t 2), none⟩, ⟨(some 106), .bin .add (.t 105) (.k (.lf (.int .i64 2))), none⟩, ⟨(some 107), .callp 23 0 [(.t 103), (.t 104), (.t 106)], none⟩] [0, 2, 97, 98, 99])
abbrev c23_26 : AC := .block 2 c23_25
abbrev c23_27 : AC := .seq c23_26 (.ops 0 [⟨(some 108), .bin .add (.t 99) (.k (.lf (.int .i64 1))), none⟩, ⟨(some 99), .mv (.t 108), none⟩] [0, 2, 97, 98, 99])
abbrev c23_28 : AC := .seq c23_24 c23_27
abbrev c23_29 : AC := .seq (.ops 0 [⟨(some 100), .bin .lss (.t 99) (.t 98), none⟩] [0, 2, 97, 98, 99, 100]) c23_28
abbrev c23_30 : AC := .loop c23_29 [0, 2, 97, 98, 99]
abbrev c23_31 : AC := .block 1 c23_30
abbrev c23_32 : AC := .seq (.ops 0 [⟨(some 94), .mv (.t 1), none⟩, ⟨(some 95), .nc (.t 94), none⟩, ⟨(some 96), .fa (.t 95) 7, none⟩, ⟨(some 97), .ld (.t 96) 1 false, none⟩, ⟨(some 98), .len (.t 97), none⟩, ⟨(some 99), .mv (.k (.lf (.int .i64 0))), none⟩] [0, 2, 97, 98, 99]) c23_31
abbrev c23_33 : AC := .seq (.ops 0 [⟨(some 90), .mv (.t 0), none⟩, ⟨(some 91), .mv (.t 6), none⟩, ⟨(some 92), .bin .add (.t 91) (.k (.lf (.str ⟨#[10]⟩))), none⟩, ⟨(some 93), .callp 14 0 [(.t 90), (.t 92)], none⟩] [0, 1, 2]) c23_32
abbrev c23_34 : AC := .seq c23_23 c23_33
abbrev c23_35 : AC := .seq (.ops 1 [⟨(some 13), .mv (.t 2), none⟩, ⟨(some 14), .call 42 [(.k (.lf (.str ⟨#[32]⟩))), (.t 13)], none⟩, ⟨(some 15), .mv (.t 1), none⟩, ⟨(some 16), .nc (.t 15), none⟩, ⟨(some 17), .fa (.t 16) 0, none⟩, ⟨(some 18), .fa (.t 17) 0, none⟩, ⟨(some 19), .ld (.t 18) 1 false, none⟩, ⟨(some 20), .call 43 [(.t 19)], none⟩, ⟨(some 21), .bin .add (.t 14) (.t 20), none⟩, ⟨(some 6), .as 0 0 (.t 21), none⟩] [0, 1, 2, 6]) c23_34
abbrev c23_36 : AC := .seq c23_1 c23_35
abbrev c23 : AC := c23_36
theorem c23_ok : compileFn Tryd.prog 23 = some (109, AC.strip c23, []) := by kernel_rfl
abbrev c24_0 : AC := .seq (.ops 0 [⟨(some 4), .as 0 0 (.k (.lf (.bool false))), none⟩] [4]) .ret
abbrev c24_1 : AC := .cond (.t 10) c24_0 .skip
abbrev c24_2 : AC := .seq (.ops 0 [⟨(some 6), .mv (.t 0), none⟩, ⟨(some 7), .len (.t 6), none⟩, ⟨(some 8), .mv (.t 1), none⟩, ⟨(some 9), .len (.t 8), none⟩, ⟨(some 10), .bin .neq (.t 7) (.t 9), none⟩] [0, 1, 10]) c24_1
abbrev c24_3 : AC := .cond (.t 14) .skip (.exit 0)
abbrev c24_4 : AC := .seq (.ops 0 [⟨(some 4), .as 0 0 (.k (.lf (.bool false))), none⟩] [4]) .ret
abbrev c24_5 : AC := .cond (.t 24) c24_4 .skip
abbrev c24_6 : AC := .seq (.ops 2 [⟨(some 16), .mv (.t 0), none⟩, ⟨(some 17), .mv (.t 5), none⟩, ⟨(some 18), .ia (.t 16) (.t 17) 7, none⟩, ⟨(some 19), .ld (.t 18) 7 true, none⟩, ⟨(some 20), .mv (.t 1), none⟩, ⟨(some 21), .mv (.t 5), none⟩, ⟨(some 22), .ia (.t 20) (.t 21) 7, none⟩, ⟨(some 23), .ld (.t 22) 7 true, none⟩, ⟨(some 24), .beq true [2, 2, 3, 2, 2, 2, 2] (.t 19) (.t 23), none⟩] [0, 1, 12, 13, 24]) c24_5
abbrev c24_7 : AC := .seq (.ops 0 [⟨(some 15), .mv (.t 13), none⟩, ⟨(some 5), .as 0 0 (.t 15), none⟩] [0, 1, 5, 12, 13]) c24_6
abbrev c24_8 : AC := .block 1 c24_7
abbrev c24_9 : AC := .seq c24_8 (.ops 0 [⟨(some 25), .bin .add (.t 13) (.k (.lf (.int .i64 1))), none⟩, ⟨(some 13), .mv (.t 25), none⟩] [0, 1, 12, 13])
abbrev c24_10 : AC := .seq c24_3 c24_9
abbrev c24_11 : AC := .seq (.ops 0 [⟨(some 14), .bin .lss (.t 13) (.t 12), none⟩] [0, 1, 12, 13, 14]) c24_10
abbrev c24_12 : AC := .loop c24_11 [0, 1, 12, 13]
abbrev c24_13 : AC := .block 0 c24_12
abbrev c24_14 : AC := .seq (.ops 0 [⟨(some 11), .mv (.t 0), none⟩, ⟨(some 12), .len (.t 11), none⟩, ⟨(some 13), .mv (.k (.lf (.int .i64 0))), none⟩] [0, 1, 12, 13]) c24_13
abbrev c24_15 : AC := .seq (.ops 0 [⟨(some 4), .as 0 0 (.k (.lf (.bool true))), none⟩] [4]) .ret
abbrev c24_16 : AC := .seq c24_14 c24_15
abbrev c24_17 : AC := .seq c24_2 c24_16
abbrev c24_18 : AC := .seq (.ops 0 [⟨(some 4), .as 0 0 (.k (.lf (.bool false))), none⟩] [0, 1]) c24_17
abbrev c24 : AC := c24_18
theorem c24_ok : compileFn Tryd.prog 24 = some (26, AC.strip c24, [.t 4]) := by kernel_rfl
abbrev c43_0 : AC := .seq (.ops 0 [⟨(some 3), .call 61 [(.k (.lf (.str ⟨#[110, 111, 110, 101, 32, 101, 109, 112, 116, 121, 32, 102, 97, 105, 108, 32, 97, 110, 121, 32, 116, 101, 120, 116, 32, 115, 101, 116, 32, 99, 97, 108, 108, 32, 115, 101, 113, 32, 99, 104, 111, 105, 99, 101, 32, 115, 116, 97, 114, 32, 112, 108, 117, 115, 32, 111, 112, 116, 32, 97, 110, 100, 32, 110, 111, 116, 32, 116, 105, 109, 101, 115, 32, 108, 101, 97, 115, 116, 32, 109, 111, 115, 116, 32, 112, 108, 97, 99, 101, 32, 115, 117, 98, 32, 103, 114, 111, 117, 112, 32, 108, 105, 115, 116, 32, 115, 117, 98, 115, 116, 32, 115, 116, 114, 105, 110, 103, 32, 112, 105, 99, 107]⟩)))], none⟩, ⟨(some 4), .mv (.t 0), none⟩, ⟨(some 5), .ia (.t 3) (.t 4) 1, none⟩, ⟨(some 6), .ld (.t 5) 1 false, none⟩, ⟨(some 2), .as 0 0 (.t 6), none⟩] [2]) .ret
abbrev c43_1 : AC := .seq (.ops 0 [⟨(some 2), .as 0 0 (.k (.lf (.str ⟨#[]⟩))), none⟩] [0]) c43_0
abbrev c43 : AC := c43_1
theorem c43_ok : compileFn Tryd.prog 43 = some (7, AC.strip c43, [.t 2]) := by kernel_rfl
end Go.Proofs.YtdoefdmaecaacaaDoor.S
set_option maxRecDepth 100000
namespace Go.Proofs.YtdoefdmaecaacaaDoor.S
open Go Go.Proofs.YtdoefdmaecaacaaDoor.AM
abbrev c28_0 : AC := .seq (.ops 0 [⟨(some 10), .mv (.t 3), none⟩, ⟨(some 2), .as 0 0 (.t 10), none⟩] [2]) .ret
abbrev c28_1 : AC := .seq (.ops 0 [⟨(some 6), .mv (.t 0), none⟩, ⟨(some 7), .call 46 [(.t 6)], none⟩, ⟨(some 5), .mv (.t 7), none⟩, ⟨(some 8), .ext (.t 5) 0, none⟩, ⟨(some 9), .ext (.t 5) 1, none⟩, ⟨(some 3), .as 0 0 (.t 8), none⟩, ⟨(some 4), .as 0 0 (.t 9), none⟩] [3]) c28_0
abbrev c28_2 : AC := .seq (.ops 0 [⟨(some 2), .as 0 0 (.k (.lf (.str ⟨#[]⟩))), none⟩] [0]) c28_1
abbrev c28 : AC := c28_2
theorem c28_ok : compileFn Tryd.prog 28 = some (11, AC.strip c28, [.t 2]) := by kernel_rfl
abbrev c29_0 : AC := .seq (.ops 0 [⟨(some 2), .as 0 0 (.k (.lf (.str ⟨#[91, 94, 93]⟩))), none⟩] [2]) .ret
abbrev c29_1 : AC := .cond (.t 7) c29_0 .skip
abbrev c29_2 : AC := .seq (.ops 0 [⟨(some 6), .ld (.t 1) 4 true, none⟩, ⟨(some 7), .call 47 [(.t 6)], none⟩] [1, 7]) c29_1
abbrev c29_3 : AC := .cond (.t 13) .skip (.exit 0)
abbrev c29_4 : AC := .cond (.t 25) (.ops 0 [⟨(some 26), .callp 27 0 [(.t 3), (.k (.lf (.str ⟨#[45]⟩)))], none⟩] [3, 5, 10, 11, 12]) .skip
abbrev c29_5 : AC := .seq (.ops 0 [⟨(some 20), .fa (.t 5) 1, none⟩, ⟨(some 21), .ld (.t 20) 1 false, none⟩, ⟨(some 22), .fa (.t 5) 0, none⟩, ⟨(some 23), .ld (.t 22) 1 false, none⟩, ⟨(some 24), .bin .add (.t 23) (.k (.lf (.int .i64 1))), none⟩, ⟨(some 25), .bin .gtr (.t 21) (.t 24), none⟩] [3, 5, 10, 11, 12, 25]) c29_4
abbrev c29_6 : AC := .cond (.t 31) (.ops 0 [⟨(some 32), .fa (.t 5) 1, none⟩, ⟨(some 33), .ld (.t 32) 1 false, none⟩, ⟨(some 34), .call 49 [(.t 33)], none⟩, ⟨(some 35), .callp 27 0 [(.t 3), (.t 34)], none⟩] [3, 10, 11, 12]) .skip
abbrev c29_7 : AC := .seq (.ops 0 [⟨(some 27), .fa (.t 5) 1, none⟩, ⟨(some 28), .ld (.t 27) 1 false, none⟩, ⟨(some 29), .fa (.t 5) 0, none⟩, ⟨(some 30), .ld (.t 29) 1 false, none⟩, ⟨(some 31), .bin .gtr (.t 28) (.t 30), none⟩] [3, 5, 10, 11, 12, 31]) c29_6
abbrev c29_8 : AC := .seq c29_5 c29_7
abbrev c29_9 : AC := .seq (.ops 0 [⟨(some 16), .fa (.t 5) 0, none⟩, ⟨(some 17), .ld (.t 16) 1 false, none⟩, ⟨(some 18), .call 49 [(.t 17)], none⟩, ⟨(some 19), .callp 27 0 [(.t 3), (.t 18)], none⟩] [3, 5, 10, 11, 12]) c29_8
abbrev c29_10 : AC := .seq (.ops 0 [⟨(some 14), .ia (.t 10) (.t 12) 2, none⟩, ⟨(some 15), .ld (.t 14) 2 true, none⟩, ⟨(some 5), .al [.int .i64 0, .int .i64 0], none⟩, ⟨none, .st (.t 5) (.t 15) 2, none⟩] [3, 5, 10, 11, 12]) c29_9
abbrev c29_11 : AC := .block 1 c29_10
abbrev c29_12 : AC := .seq c29_11 (.ops 0 [⟨(some 36), .bin .add (.t 12) (.k (.lf (.int .i64 1))), none⟩, ⟨(some 12), .mv (.t 36), none⟩] [3, 10, 11, 12])
abbrev c29_13 : AC := .seq c29_3 c29_12
abbrev c29_14 : AC := .seq (.ops 0 [⟨(some 13), .bin .lss (.t 12) (.t 11), none⟩] [3, 10, 11, 12, 13]) c29_13
abbrev c29_15 : AC := .loop c29_14 [3, 10, 11, 12]
abbrev c29_16 : AC := .block 0 c29_15
abbrev c29_17 : AC := .seq (.ops 0 [⟨(some 9), .ld (.t 1) 4 true, none⟩, ⟨(some 10), .call 48 [(.t 9)], none⟩, ⟨(some 11), .len (.t 10), none⟩, ⟨(some 12), .mv (.k (.lf (.int .i64 0))), none⟩] [3, 10, 11, 12]) c29_16
abbrev c29_18 : AC := .seq (.ops 0 [⟨(some 38), .callp 34 0 [(.t 3)], none⟩, ⟨(some 2), .as 0 0 (.t 38), none⟩] [2]) .ret
abbrev c29_19 : AC := .seq (.ops 0 [⟨(some 37), .callp 27 0 [(.t 3), (.k (.lf (.str ⟨#[93]⟩)))], none⟩] [3]) c29_18
abbrev c29_20 : AC := .seq c29_17 c29_19
abbrev c29_21 : AC := .seq (.ops 0 [⟨(some 8), .callp 27 0 [(.t 3), (.k (.lf (.str ⟨#[91]⟩)))], none⟩] [1, 3]) c29_20
abbrev c29_22 : AC := .seq (.ops 0 [⟨(some 3), .alt 44 [.nilp, .lst (.own 387 5) 1 [] []], none⟩] [1, 3]) c29_21
abbrev c29_23 : AC := .seq c29_2 c29_22
abbrev c29_24 : AC := .seq (.ops 0 [⟨(some 1), .bx (.t 0), none⟩, ⟨(some 2), .as 0 0 (.k (.lf (.str ⟨#[]⟩))), none⟩] [1]) c29_23
abbrev c29 : AC := c29_24
theorem c29_ok : compileFn Tryd.prog 29 = some (39, AC.strip c29, [.t 2]) := by kernel_rfl
abbrev c46_0 : AC := .seq (.ops 0 [⟨(some 2), .as 0 0 (.k (.lf (.str ⟨#[]⟩))), none⟩, ⟨(some 3), .as 0 0 (.k (.lf (.int .i64 2))), none⟩] [2, 3]) .ret
abbrev c46_1 : AC := .cond (.t 8) c46_0 .skip
abbrev c46_2 : AC := .seq (.ops 0 [⟨(some 6), .mv (.t 0), none⟩, ⟨(some 7), .lns (.t 6), none⟩, ⟨(some 8), .bin .gtr (.t 7) (.k (.lf (.int .i64 65536))), none⟩] [0, 8]) c46_1
abbrev c46_3 : AC := .cond (.t 13) .skip (.exit 0)
abbrev c46_4 : AC := .seq (.ops 0 [⟨(some 14), .mv (.t 12), none⟩, ⟨(some 5), .as 0 0 (.t 14), none⟩] [0, 4, 5, 11, 12]) (.ops 0 [⟨(some 15), .mv (.t 0), none⟩, ⟨(some 16), .mv (.t 5), none⟩, ⟨(some 17), .ixs (.t 15) (.t 16), none⟩, ⟨(some 18), .callp 65 0 [(.t 4), (.t 17)], none⟩] [0, 4, 11, 12])
abbrev c46_5 : AC := .block 1 c46_4
abbrev c46_6 : AC := .seq c46_5 (.ops 0 [⟨(some 19), .bin .add (.t 12) (.k (.lf (.int .i64 1))), none⟩, ⟨(some 12), .mv (.t 19), none⟩] [0, 4, 11, 12])
abbrev c46_7 : AC := .seq c46_3 c46_6
abbrev c46_8 : AC := .seq (.ops 0 [⟨(some 13), .bin .lss (.t 12) (.t 11), none⟩] [0, 4, 11, 12, 13]) c46_7
abbrev c46_9 : AC := .loop c46_8 [0, 4, 11, 12]
abbrev c46_10 : AC := .block 0 c46_9
abbrev c46_11 : AC := .seq (.ops 0 [⟨(some 10), .mv (.t 0), none⟩, ⟨(some 11), .lns (.t 10), none⟩, ⟨(some 12), .mv (.k (.lf (.int .i64 0))), none⟩] [0, 4, 11, 12]) c46_10
abbrev c46_12 : AC := .seq (.ops 0 [⟨(some 2), .as 0 0 (.k (.lf (.str ⟨#[]⟩))), none⟩, ⟨(some 3), .as 0 0 (.k (.lf (.int .i64 2))), none⟩] [2, 3]) .ret
abbrev c46_13 : AC := .cond (.t 22) c46_12 .skip
abbrev c46_14 : AC := .seq (.ops 0 [⟨(some 21), .callp 26 0 [(.t 4)], none⟩, ⟨(some 22), .bin .gtr (.t 21) (.k (.lf (.int .i64 65536))), none⟩] [4, 22]) c46_13
abbrev c46_15 : AC := .seq (.ops 0 [⟨(some 23), .callp 34 0 [(.t 4)], none⟩, ⟨(some 2), .as 0 0 (.t 23), none⟩, ⟨(some 3), .as 0 0 (.k (.lf (.int .i64 0))), none⟩] [2, 3]) .ret
abbrev c46_16 : AC := .seq c46_14 c46_15
abbrev c46_17 : AC := .seq (.ops 0 [⟨(some 20), .callp 64 0 [(.t 4), (.k (.lf (.int .u8 39)))], none⟩] [4]) c46_16
abbrev c46_18 : AC := .seq c46_11 c46_17
abbrev c46_19 : AC := .seq (.ops 0 [⟨(some 9), .callp 64 0 [(.t 4), (.k (.lf (.int .u8 39)))], none⟩] [0, 4]) c46_18
abbrev c46_20 : AC := .seq (.ops 0 [⟨(some 4), .alt 44 [.nilp, .lst (.own 515 5) 1 [] []], none⟩] [0, 4]) c46_19
abbrev c46_21 : AC := .seq c46_2 c46_20
abbrev c46_22 : AC := .seq (.ops 0 [⟨(some 2), .as 0 0 (.k (.lf (.str ⟨#[]⟩))), none⟩, ⟨(some 3), .as 0 0 (.k (.lf (.int .i64 0))), none⟩] [0]) c46_21
abbrev c46 : AC := c46_22
theorem c46_ok : compileFn Tryd.prog 46 = some (24, AC.strip c46, [.t 2, .t 3]) := by kernel_rfl
abbrev c47_0 : AC := .seq (.ops 0 [⟨(some 3), .ld (.t 1) 4 true, none⟩, ⟨(some 4), .call 66 [(.t 3)], none⟩, ⟨(some 5), .bd [.int .u64 0, .int .u64 0, .int .u64 0, .int .u64 0] [], none⟩, ⟨(some 6), .beq false [2, 2, 2, 2] (.t 4) (.t 5), none⟩, ⟨(some 2), .as 0 0 (.t 6), none⟩] [2]) .ret
abbrev c47_1 : AC := .seq (.ops 0 [⟨(some 1), .bx (.t 0), none⟩, ⟨(some 2), .as 0 0 (.k (.lf (.bool false))), none⟩] [1]) c47_0
abbrev c47 : AC := c47_1
theorem c47_ok : compileFn Tryd.prog 47 = some (7, AC.strip c47, [.t 2]) := by kernel_rfl
abbrev c49_0 : AC := .seq (.ops 0 [⟨(some 2), .as 0 0 (.k (.lf (.str ⟨#[92, 110]⟩))), none⟩] [2]) .ret
abbrev c49_1 : AC := .seq (.ops 0 [⟨(some 2), .as 0 0 (.k (.lf (.str ⟨#[92, 114]⟩))), none⟩] [2]) .ret
abbrev c49_2 : AC := .seq (.ops 0 [⟨(some 2), .as 0 0 (.k (.lf (.str ⟨#[92, 116]⟩))), none⟩] [2]) .ret
abbrev c49_3 : AC := .cond (.t 10) .skip (.ops 0 [⟨(some 16), .bin .eql (.t 3) (.k (.lf (.int .i64 37))), none⟩, ⟨(some 10), .as 0 0 (.t 16), none⟩] [0, 10])
abbrev c49_4 : AC := .seq (.ops 0 [⟨(some 15), .bin .eql (.t 3) (.k (.lf (.int .i64 45))), none⟩, ⟨(some 10), .as 0 0 (.t 15), none⟩] [0, 3, 10]) c49_3
abbrev c49_5 : AC := .cond (.t 10) .skip c49_4
abbrev c49_6 : AC := .seq (.ops 0 [⟨(some 14), .bin .eql (.t 3) (.k (.lf (.int .i64 94))), none⟩, ⟨(some 10), .as 0 0 (.t 14), none⟩] [0, 3, 10]) c49_5
abbrev c49_7 : AC := .cond (.t 10) .skip c49_6
abbrev c49_8 : AC := .seq (.ops 0 [⟨(some 13), .bin .eql (.t 3) (.k (.lf (.int .i64 91))), none⟩, ⟨(some 10), .as 0 0 (.t 13), none⟩] [0, 3, 10]) c49_7
abbrev c49_9 : AC := .cond (.t 10) .skip c49_8
abbrev c49_10 : AC := .seq (.ops 0 [⟨(some 12), .bin .eql (.t 3) (.k (.lf (.int .i64 93))), none⟩, ⟨(some 10), .as 0 0 (.t 12), none⟩] [0, 3, 10]) c49_9
abbrev c49_11 : AC := .cond (.t 10) .skip c49_10
abbrev c49_12 : AC := .seq (.ops 0 [⟨(some 11), .bin .eql (.t 3) (.k (.lf (.int .i64 92))), none⟩, ⟨(some 10), .as 0 0 (.t 11), none⟩] [0, 3, 10]) c49_11
abbrev c49_13 : AC := .seq (.ops 0 [⟨(some 17), .mv (.t 0), none⟩, ⟨(some 18), .cvi .u8 (.t 17), none⟩, ⟨(some 19), .bs 5 1 1 [.int .u8 0] [(0, (.t 18))], none⟩, ⟨(some 20), .cbs (.t 19), none⟩, ⟨(some 21), .bin .add (.k (.lf (.str ⟨#[92]⟩))) (.t 20), none⟩, ⟨(some 2), .as 0 0 (.t 21), none⟩] [2]) .ret
abbrev c49_14 : AC := .cond (.t 10) c49_13 .skip
abbrev c49_15 : AC := .seq c49_12 c49_14
abbrev c49_16 : AC := .cond (.t 8) c49_2 c49_15
abbrev c49_17 : AC := .seq (.ops 0 [⟨(some 9), .bin .eql (.t 3) (.k (.lf (.int .i64 9))), none⟩, ⟨(some 8), .as 0 0 (.t 9), none⟩] [0, 3, 8]) c49_16
abbrev c49_18 : AC := .cond (.t 6) c49_1 c49_17
abbrev c49_19 : AC := .seq (.ops 0 [⟨(some 7), .bin .eql (.t 3) (.k (.lf (.int .i64 13))), none⟩, ⟨(some 6), .as 0 0 (.t 7), none⟩] [0, 3, 6]) c49_18
abbrev c49_20 : AC := .cond (.t 4) c49_0 c49_19
abbrev c49_21 : AC := .seq (.ops 0 [⟨(some 5), .bin .eql (.t 3) (.k (.lf (.int .i64 10))), none⟩, ⟨(some 4), .as 0 0 (.t 5), none⟩] [0, 3, 4]) c49_20
abbrev c49_22 : AC := .block 0 c49_21
abbrev c49_23 : AC := .seq (.ops 0 [⟨(some 3), .mv (.t 0), none⟩] [0, 3]) c49_22
abbrev c49_24 : AC := .seq (.ops 0 [⟨(some 28), .mv (.t 0), none⟩, ⟨(some 29), .cvi .u8 (.t 28), none⟩, ⟨(some 30), .bs 5 1 1 [.int .u8 0] [(0, (.t 29))], none⟩, ⟨(some 31), .cbs (.t 30), none⟩, ⟨(some 2), .as 0 0 (.t 31), none⟩] [2]) .ret
abbrev c49_25 : AC := .cond (.t 27) c49_24 .skip
abbrev c49_26 : AC := .seq (.ops 0 [⟨(some 22), .mv (.t 0), none⟩, ⟨(some 23), .bin .geq (.t 22) (.k (.lf (.int .i64 32))), none⟩, ⟨(some 24), .mv (.t 23), none⟩, ⟨(some 25), .mv (.t 0), (some (24, true))⟩, ⟨(some 26), .bin .leq (.t 25) (.k (.lf (.int .i64 126))), (some (24, true))⟩, ⟨(some 27), .pk (.t 24) (.t 26) (.k (.lf (.bool false))), none⟩] [0, 27]) c49_25
abbrev c49_27 : AC := .seq (.reg [⟨(some 32), .mv (.t 0), none⟩, ⟨(some 33), .bin .quo (.t 32) (.k (.lf (.int .i64 16))), none⟩, ⟨(some 34), .ixs (.k (.lf (.str ⟨#[48, 49, 50, 51, 52, 53, 54, 55, 56, 57, 97, 98, 99, 100, 101, 102]⟩))) (.t 33), none⟩, ⟨(some 35), .mv (.t 0), none⟩, ⟨(some 36), .bin .rem (.t 35) (.k (.lf (.int .i64 16))), none⟩, ⟨(some 37), .ixs (.k (.lf (.str ⟨#[48, 49, 50, 51, 52, 53, 54, 55, 56, 57, 97, 98, 99, 100, 101, 102]⟩))) (.t 36), none⟩] [⟨(some 38), .bs 5 1 2 [.int .u8 0] [(0, (.t 34)), (1, (.t 37))], none⟩, ⟨(some 39), .cbs (.t 38), none⟩, ⟨(some 40), .bin .add (.k (.lf (.str ⟨#[92, 120]⟩))) (.t 39), none⟩, ⟨(some 2), .as 0 0 (.t 40), none⟩] [2]) .ret
abbrev c49_28 : AC := .seq c49_26 c49_27
abbrev c49_29 : AC := .seq c49_23 c49_28
abbrev c49_30 : AC := .seq (.ops 0 [⟨(some 2), .as 0 0 (.k (.lf (.str ⟨#[]⟩))), none⟩] [0]) c49_29
abbrev c49 : AC := c49_30
theorem c49_ok : compileFn Tryd.prog 49 = some (41, AC.strip c49, [.t 2]) := by kernel_rfl
abbrev c65_0 : AC := .seq (.ops 0 [⟨(some 38), .mv (.t 0), none⟩, ⟨(some 39), .callp 64 0 [(.t 38), (.k (.lf (.int .u8 92)))], none⟩] [0, 1]) (.ops 0 [⟨(some 40), .mv (.t 0), none⟩, ⟨(some 41), .mv (.t 1), none⟩, ⟨(some 42), .callp 64 0 [(.t 40), (.t 41)], none⟩] [])
abbrev c65_1 : AC := .seq (.ops 0 [⟨(some 6), .mv (.t 0), none⟩, ⟨(some 7), .mv (.t 1), none⟩, ⟨(some 8), .bin .shr (.t 7) (.k (.lf (.int .u64 4))), none⟩, ⟨(some 9), .ixs (.k (.lf (.str ⟨#[48, 49, 50, 51, 52, 53, 54, 55, 56, 57, 97, 98, 99, 100, 101, 102]⟩))) (.t 8), none⟩, ⟨(some 10), .callp 64 0 [(.t 6), (.t 9)], none⟩] [0, 1]) (.ops 0 [⟨(some 11), .mv (.t 0), none⟩, ⟨(some 12), .mv (.t 1), none⟩, ⟨(some 13), .bin .and (.t 12) (.k (.lf (.int .u8 15))), none⟩, ⟨(some 14), .ixs (.k (.lf (.str ⟨#[48, 49, 50, 51, 52, 53, 54, 55, 56, 57, 97, 98, 99, 100, 101, 102]⟩))) (.t 13), none⟩, ⟨(some 15), .callp 64 0 [(.t 11), (.t 14)], none⟩] [])
abbrev c65_2 : AC := .seq (.ops 0 [⟨(some 4), .mv (.t 0), none⟩, ⟨(some 5), .callp 27 0 [(.t 4), (.k (.lf (.str ⟨#[92, 120]⟩)))], none⟩] [0, 1]) c65_1
abbrev c65_3 : AC := .cond (.t 43) (.ops 0 [⟨(some 50), .mv (.t 0), none⟩, ⟨(some 51), .mv (.t 1), none⟩, ⟨(some 52), .callp 64 0 [(.t 50), (.t 51)], none⟩] []) c65_2
abbrev c65_4 : AC := .seq (.ops 0 [⟨(some 44), .mv (.t 1), none⟩, ⟨(some 45), .bin .geq (.t 44) (.k (.lf (.int .u8 32))), none⟩, ⟨(some 46), .mv (.t 45), none⟩, ⟨(some 47), .mv (.t 1), (some (46, true))⟩, ⟨(some 48), .bin .leq (.t 47) (.k (.lf (.int .u8 126))), (some (46, true))⟩, ⟨(some 49), .pk (.t 46) (.t 48) (.k (.lf (.bool false))), none⟩, ⟨(some 43), .as 0 0 (.t 49), none⟩] [0, 1, 43]) c65_3
abbrev c65_5 : AC := .cond (.t 31) c65_0 c65_4
abbrev c65_6 : AC := .seq (.ops 0 [⟨(some 32), .mv (.t 1), none⟩, ⟨(some 33), .bin .eql (.t 32) (.k (.lf (.int .u8 39))), none⟩, ⟨(some 34), .mv (.t 33), none⟩, ⟨(some 35), .mv (.t 1), (some (34, false))⟩, ⟨(some 36), .bin .eql (.t 35) (.k (.lf (.int .u8 92))), (some (34, false))⟩, ⟨(some 37), .pk (.t 34) (.k (.lf (.bool true))) (.t 36), none⟩, ⟨(some 31), .as 0 0 (.t 37), none⟩] [0, 1, 31]) c65_5
abbrev c65_7 : AC := .cond (.t 26) (.ops 0 [⟨(some 29), .mv (.t 0), none⟩, ⟨(some 30), .callp 27 0 [(.t 29), (.k (.lf (.str ⟨#[92, 116]⟩)))], none⟩] []) c65_6
abbrev c65_8 : AC := .seq (.ops 0 [⟨(some 27), .mv (.t 1), none⟩, ⟨(some 28), .bin .eql (.t 27) (.k (.lf (.int .u8 9))), none⟩, ⟨(some 26), .as 0 0 (.t 28), none⟩] [0, 1, 26]) c65_7
abbrev c65_9 : AC := .cond (.t 21) (.ops 0 [⟨(some 24), .mv (.t 0), none⟩, ⟨(some 25), .callp 27 0 [(.t 24), (.k (.lf (.str ⟨#[92, 114]⟩)))], none⟩] []) c65_8
abbrev c65_10 : AC := .seq (.ops 0 [⟨(some 22), .mv (.t 1), none⟩, ⟨(some 23), .bin .eql (.t 22) (.k (.lf (.int .u8 13))), none⟩, ⟨(some 21), .as 0 0 (.t 23), none⟩] [0, 1, 21]) c65_9
abbrev c65_11 : AC := .cond (.t 16) (.ops 0 [⟨(some 19), .mv (.t 0), none⟩, ⟨(some 20), .callp 27 0 [(.t 19), (.k (.lf (.str ⟨#[92, 110]⟩)))], none⟩] []) c65_10
abbrev c65_12 : AC := .seq (.ops 0 [⟨(some 17), .mv (.t 1), none⟩, ⟨(some 18), .bin .eql (.t 17) (.k (.lf (.int .u8 10))), none⟩, ⟨(some 16), .as 0 0 (.t 18), none⟩] [0, 1, 16]) c65_11
abbrev c65_13 : AC := .block 0 c65_12
abbrev c65 : AC := c65_13
theorem c65_ok : compileFn Tryd.prog 65 = some (53, AC.strip c65, []) := by kernel_rfl
abbrev c66_0 : AC := .cond (.t 5) .skip (.exit 0)
abbrev c66_1 : AC := .seq (.ops 0 [⟨(some 6), .mv (.t 4), none⟩, ⟨(some 3), .as 0 0 (.t 6), none⟩] [1, 2, 3, 4]) (.ops 0 [⟨(some 7), .mv (.t 3), none⟩, ⟨(some 8), .mv (.t 3), none⟩, ⟨(some 9), .iaa (.t 1) (.t 8) 4 1, none⟩, ⟨(some 10), .ld (.t 9) 1 false, none⟩, ⟨(some 11), .un .xor (.t 10), none⟩, ⟨(some 12), .iaa (.t 1) (.t 7) 4 1, none⟩, ⟨none, .st (.t 12) (.t 11) 1, none⟩] [1, 2, 4])
abbrev c66_2 : AC := .block 1 c66_1
abbrev c66_3 : AC := .seq c66_2 (.ops 0 [⟨(some 13), .bin .add (.t 4) (.k (.lf (.int .i64 1))), none⟩, ⟨(some 4), .mv (.t 13), none⟩] [1, 2, 4])
abbrev c66_4 : AC := .seq c66_0 c66_3
abbrev c66_5 : AC := .seq (.ops 0 [⟨(some 5), .bin .lss (.t 4) (.k (.lf (.int .i64 4))), none⟩] [1, 2, 4, 5]) c66_4
abbrev c66_6 : AC := .loop c66_5 [1, 2, 4]
abbrev c66_7 : AC := .block 0 c66_6
abbrev c66_8 : AC := .seq (.ops 0 [⟨(some 4), .mv (.k (.lf (.int .i64 0))), none⟩] [1, 2, 4]) c66_7
abbrev c66_9 : AC := .seq (.ops 0 [⟨(some 14), .ld (.t 1) 4 true, none⟩, ⟨none, .st (.t 2) (.t 14) 4, none⟩] [2]) .ret
abbrev c66_10 : AC := .seq c66_8 c66_9
abbrev c66_11 : AC := .seq (.ops 0 [⟨(some 1), .bx (.t 0), none⟩, ⟨(some 2), .al [.int .u64 0, .int .u64 0, .int .u64 0, .int .u64 0], none⟩] [1, 2]) c66_10
abbrev c66 : AC := c66_11
theorem c66_ok : compileFn Tryd.prog 66 = some (15, AC.strip c66, [.c 2 4 true]) := by kernel_rfl
abbrev c76_0 : AC := .seq (.ops 0 [⟨(some 2), .as 0 0 (.k (.lf (.str ⟨#[91, 94, 93]⟩))), none⟩] [2]) .ret
abbrev c76_1 : AC := .cond (.t 8) c76_0 .skip
abbrev c76_2 : AC := .seq (.ops 0 [⟨(some 6), .ld (.t 1) 4 true, none⟩, ⟨(some 7), .call 93 [(.t 6)], none⟩, ⟨(some 8), .bin .eql (.t 7) (.k (.lf (.int .i64 256))), none⟩] [1, 8]) c76_1
abbrev c76_3 : AC := .cond (.t 14) .skip (.exit 0)
abbrev c76_4 : AC := .seq (.ops 0 [⟨(some 11), .mv (.t 5), none⟩, ⟨(some 12), .mv (.t 3), none⟩, ⟨(some 13), .len (.t 12), none⟩, ⟨(some 14), .bin .lss (.t 11) (.t 13), none⟩] [3, 4, 5, 14]) c76_3
abbrev c76_5 : AC := .cond (.t 36) (.ops 0 [⟨(some 37), .mv (.t 4), none⟩, ⟨(some 38), .bin .add (.t 37) (.k (.lf (.str ⟨#[45]⟩))), none⟩, ⟨(some 4), .as 0 0 (.t 38), none⟩] [3, 4, 5]) .skip
abbrev c76_6 : AC := .seq (.ops 2 [⟨(some 25), .mv (.t 3), none⟩, ⟨(some 26), .mv (.t 5), none⟩, ⟨(some 27), .ia (.t 25) (.t 26) 2, none⟩, ⟨(some 28), .fa (.t 27) 1, none⟩, ⟨(some 29), .ld (.t 28) 1 false, none⟩, ⟨(some 30), .mv (.t 3), none⟩, ⟨(some 31), .mv (.t 5), none⟩, ⟨(some 32), .ia (.t 30) (.t 31) 2, none⟩, ⟨(some 33), .fa (.t 32) 0, none⟩, ⟨(some 34), .ld (.t 33) 1 false, none⟩, ⟨(some 35), .bin .add (.t 34) (.k (.lf (.int .i64 1))), none⟩, ⟨(some 36), .bin .gtr (.t 29) (.t 35), none⟩] [3, 4, 5, 36]) c76_5
abbrev c76_7 : AC := .cond (.t 49) (.ops 0 [⟨(some 50), .mv (.t 4), none⟩, ⟨(some 51), .mv (.t 3), none⟩, ⟨(some 52), .mv (.t 5), none⟩, ⟨(some 53), .ia (.t 51) (.t 52) 2, none⟩, ⟨(some 54), .fa (.t 53) 1, none⟩, ⟨(some 55), .ld (.t 54) 1 false, none⟩, ⟨(some 56), .call 95 [(.t 55)], none⟩, ⟨(some 57), .bin .add (.t 50) (.t 56), none⟩, ⟨(some 4), .as 0 0 (.t 57), none⟩] [3, 4, 5]) .skip
abbrev c76_8 : AC := .seq (.ops 2 [⟨(some 39), .mv (.t 3), none⟩, ⟨(some 40), .mv (.t 5), none⟩, ⟨(some 41), .ia (.t 39) (.t 40) 2, none⟩, ⟨(some 42), .fa (.t 41) 1, none⟩, ⟨(some 43), .ld (.t 42) 1 false, none⟩, ⟨(some 44), .mv (.t 3), none⟩, ⟨(some 45), .mv (.t 5), none⟩, ⟨(some 46), .ia (.t 44) (.t 45) 2, none⟩, ⟨(some 47), .fa (.t 46) 0, none⟩, ⟨(some 48), .ld (.t 47) 1 false, none⟩, ⟨(some 49), .bin .gtr (.t 43) (.t 48), none⟩] [3, 4, 5, 49]) c76_7
abbrev c76_9 : AC := .seq c76_6 c76_8
abbrev c76_10 : AC := .seq (.ops 0 [⟨(some 17), .mv (.t 4), none⟩, ⟨(some 18), .mv (.t 3), none⟩, ⟨(some 19), .mv (.t 5), none⟩, ⟨(some 20), .ia (.t 18) (.t 19) 2, none⟩, ⟨(some 21), .fa (.t 20) 0, none⟩, ⟨(some 22), .ld (.t 21) 1 false, none⟩, ⟨(some 23), .call 95 [(.t 22)], none⟩, ⟨(some 24), .bin .add (.t 17) (.t 23), none⟩, ⟨(some 4), .as 0 0 (.t 24), none⟩] [3, 4, 5]) c76_9
abbrev c76_11 : AC := .block 1 c76_10
abbrev c76_12 : AC := .seq c76_11 (.ops 0 [⟨(some 15), .mv (.t 5), none⟩, ⟨(some 16), .bin .add (.t 15) (.k (.lf (.int .i64 1))), none⟩, ⟨(some 5), .as 0 0 (.t 16), none⟩] [3, 4, 5])
abbrev c76_13 : AC := .seq c76_4 c76_12
abbrev c76_14 : AC := .loop c76_13 [3, 4, 5]
abbrev c76_15 : AC := .block 0 c76_14
abbrev c76_16 : AC := .seq (.ops 0 [⟨(some 5), .as 0 0 (.k (.lf (.int .i64 0))), none⟩] [3, 4, 5]) c76_15
abbrev c76_17 : AC := .seq (.ops 0 [⟨(some 58), .mv (.t 4), none⟩, ⟨(some 59), .bin .add (.t 58) (.k (.lf (.str ⟨#[93]⟩))), none⟩, ⟨(some 2), .as 0 0 (.t 59), none⟩] [2]) .ret
abbrev c76_18 : AC := .seq c76_16 c76_17
abbrev c76_19 : AC := .seq (.ops 0 [⟨(some 4), .as 0 0 (.k (.lf (.str ⟨#[91]⟩))), none⟩] [3, 4]) c76_18
abbrev c76_20 : AC := .seq (.ops 0 [⟨(some 9), .ld (.t 1) 4 true, none⟩, ⟨(some 10), .call 94 [(.t 9)], none⟩, ⟨(some 3), .as 95 2 (.t 10), none⟩] [3]) c76_19
abbrev c76_21 : AC := .seq c76_2 c76_20
abbrev c76_22 : AC := .seq (.ops 0 [⟨(some 1), .bx (.t 0), none⟩, ⟨(some 2), .as 0 0 (.k (.lf (.str ⟨#[]⟩))), none⟩] [1]) c76_21
abbrev c76 : AC := c76_22
theorem c76_ok : compileFn Tryd.prog 76 = some (60, AC.strip c76, [.t 2]) := by kernel_rfl
abbrev c92_0 : AC := .seq (.ops 1 [⟨(some 3), .mv (.t 0), none⟩, ⟨(some 4), .bin .quo (.t 3) (.k (.lf (.int .i64 16))), none⟩, ⟨(some 5), .mv (.t 0), none⟩, ⟨(some 6), .bin .quo (.t 5) (.k (.lf (.int .i64 16))), none⟩, ⟨(some 7), .bin .add (.t 6) (.k (.lf (.int .i64 1))), none⟩, ⟨(some 8), .sls (.k (.lf (.str ⟨#[48, 49, 50, 51, 52, 53, 54, 55, 56, 57, 97, 98, 99, 100, 101, 102]⟩))) (some (.t 4)) (some (.t 7)), none⟩, ⟨(some 9), .mv (.t 0), none⟩, ⟨(some 10), .bin .rem (.t 9) (.k (.lf (.int .i64 16))), none⟩, ⟨(some 11), .mv (.t 0), none⟩, ⟨(some 12), .bin .rem (.t 11) (.k (.lf (.int .i64 16))), none⟩, ⟨(some 13), .bin .add (.t 12) (.k (.lf (.int .i64 1))), none⟩, ⟨(some 14), .sls (.k (.lf (.str ⟨#[48, 49, 50, 51, 52, 53, 54, 55, 56, 57, 97, 98, 99, 100, 101, 102]⟩))) (some (.t 10)) (some (.t 13)), none⟩, ⟨(some 15), .bin .add (.t 8) (.t 14), none⟩, ⟨(some 2), .as 0 0 (.t 15), none⟩] [2]) .ret
abbrev c92_1 : AC := .seq (.ops 0 [⟨(some 2), .as 0 0 (.k (.lf (.str ⟨#[]⟩))), none⟩] [0]) c92_0
abbrev c92 : AC := c92_1
theorem c92_ok : compileFn Tryd.prog 92 = some (16, AC.strip c92, [.t 2]) := by kernel_rfl
abbrev c93_0 : AC := .seq (.ops 0 [⟨(some 3), .ld (.t 1) 4 true, none⟩, ⟨(some 4), .call 103 [(.t 3)], none⟩, ⟨(some 5), .lns (.t 4), none⟩, ⟨(some 2), .as 0 0 (.t 5), none⟩] [2]) .ret
abbrev c93_1 : AC := .seq (.ops 0 [⟨(some 1), .bx (.t 0), none⟩, ⟨(some 2), .as 0 0 (.k (.lf (.int .i64 0))), none⟩] [1]) c93_0
abbrev c93 : AC := c93_1
theorem c93_ok : compileFn Tryd.prog 93 = some (6, AC.strip c93, [.t 2]) := by kernel_rfl
abbrev c94_0 : AC := .cond (.t 6) .skip (.exit 0)
abbrev c94_1 : AC := .seq (.ops 0 [⟨(some 5), .mv (.t 4), none⟩, ⟨(some 6), .bin .leq (.t 5) (.k (.lf (.int .i64 255))), none⟩] [1, 3, 4, 6]) c94_0
abbrev c94_2 : AC := .cond (.t 12) (.exit 1) .skip
abbrev c94_3 : AC := .seq (.ops 0 [⟨(some 9), .ld (.t 1) 4 true, none⟩, ⟨(some 10), .mv (.t 4), none⟩, ⟨(some 11), .call 104 [(.t 9), (.t 10)], none⟩, ⟨(some 12), .un .not (.t 11), none⟩] [1, 3, 4, 12]) c94_2
abbrev c94_4 : AC := .cond (.t 16) (.ops 0 [⟨(some 17), .mv (.t 3), none⟩, ⟨(some 18), .mv (.t 3), none⟩, ⟨(some 19), .len (.t 18), none⟩, ⟨(some 20), .bin .sub (.t 19) (.k (.lf (.int .i64 1))), none⟩, ⟨(some 21), .mv (.t 4), none⟩, ⟨(some 22), .ia (.t 17) (.t 20) 2, none⟩, ⟨(some 23), .fa (.t 22) 1, none⟩, ⟨none, .st (.t 23) (.t 21) 1, none⟩] [1, 3, 4]) (.ops 0 [⟨(some 24), .mv (.t 3), none⟩, ⟨(some 25), .mv (.t 4), none⟩, ⟨(some 26), .mv (.t 4), none⟩, ⟨(some 27), .bd [.int .i64 0, .int .i64 0] [(0, 1, (.t 25)), (1, 1, (.t 26))], none⟩, ⟨(some 28), .bs 95 2 1 [.int .i64 0, .int .i64 0] [(0, (.t 27))], none⟩, ⟨(some 29), .app 95 2 16 (.t 24) (.t 28), none⟩, ⟨(some 3), .as 95 2 (.t 29), none⟩] [1, 3, 4])
abbrev c94_5 : AC := .seq (.ops 0 [⟨(some 13), .ld (.t 1) 4 true, none⟩, ⟨(some 14), .mv (.t 4), none⟩, ⟨(some 15), .bin .sub (.t 14) (.k (.lf (.int .i64 1))), none⟩, ⟨(some 16), .call 104 [(.t 13), (.t 15)], none⟩] [1, 3, 4, 16]) c94_4
abbrev c94_6 : AC := .seq c94_3 c94_5
abbrev c94_7 : AC := .block 1 c94_6
abbrev c94_8 : AC := .seq c94_7 (.ops 0 [⟨(some 7), .mv (.t 4), none⟩, ⟨(some 8), .bin .add (.t 7) (.k (.lf (.int .i64 1))), none⟩, ⟨(some 4), .as 0 0 (.t 8), none⟩] [1, 3, 4])
abbrev c94_9 : AC := .seq c94_1 c94_8
abbrev c94_10 : AC := .loop c94_9 [1, 3, 4]
abbrev c94_11 : AC := .block 0 c94_10
abbrev c94_12 : AC := .seq (.ops 0 [⟨(some 4), .as 0 0 (.k (.lf (.int .i64 0))), none⟩] [1, 3, 4]) c94_11
abbrev c94_13 : AC := .seq (.ops 0 [⟨(some 30), .mv (.t 3), none⟩, ⟨(some 2), .as 95 2 (.t 30), none⟩] [2]) .ret
abbrev c94_14 : AC := .seq c94_12 c94_13
abbrev c94_15 : AC := .seq (.ops 0 [⟨(some 3), .as 95 2 (.k (.lf (.lst .nl 2 [] []))), none⟩] [1, 3]) c94_14
abbrev c94_16 : AC := .seq (.ops 0 [⟨(some 1), .bx (.t 0), none⟩, ⟨(some 2), .as 95 2 (.k (.lf (.lst .nl 2 [] []))), none⟩] [1]) c94_15
abbrev c94 : AC := c94_16
theorem c94_ok : compileFn Tryd.prog 94 = some (31, AC.strip c94, [.t 2]) := by kernel_rfl
abbrev c95_0 : AC := .seq (.ops 0 [⟨(some 2), .as 0 0 (.k (.lf (.str ⟨#[92, 110]⟩))), none⟩] [2]) .ret
abbrev c95_1 : AC := .seq (.ops 0 [⟨(some 2), .as 0 0 (.k (.lf (.str ⟨#[92, 114]⟩))), none⟩] [2]) .ret
abbrev c95_2 : AC := .seq (.ops 0 [⟨(some 2), .as 0 0 (.k (.lf (.str ⟨#[92, 116]⟩))), none⟩] [2]) .ret
abbrev c95_3 : AC := .seq (.ops 0 [⟨(some 15), .mv (.t 0), none⟩, ⟨(some 16), .cvi .u8 (.t 15), none⟩, ⟨(some 17), .bs 5 1 1 [.int .u8 0] [(0, (.t 16))], none⟩, ⟨(some 18), .cbs (.t 17), none⟩, ⟨(some 19), .bin .add (.k (.lf (.str ⟨#[92]⟩))) (.t 18), none⟩, ⟨(some 2), .as 0 0 (.t 19), none⟩] [2]) .ret
abbrev c95_4 : AC := .seq (.ops 0 [⟨(some 27), .mv (.t 0), none⟩, ⟨(some 28), .cvi .u8 (.t 27), none⟩, ⟨(some 29), .bs 5 1 1 [.int .u8 0] [(0, (.t 28))], none⟩, ⟨(some 30), .cbs (.t 29), none⟩, ⟨(some 2), .as 0 0 (.t 30), none⟩] [2]) .ret
abbrev c95_5 : AC := .cond (.t 20) c95_4 .skip
abbrev c95_6 : AC := .seq (.ops 0 [⟨(some 21), .mv (.t 0), none⟩, ⟨(some 22), .bin .geq (.t 21) (.k (.lf (.int .i64 32))), none⟩, ⟨(some 23), .mv (.t 22), none⟩, ⟨(some 24), .mv (.t 0), (some (23, true))⟩, ⟨(some 25), .bin .leq (.t 24) (.k (.lf (.int .i64 126))), (some (23, true))⟩, ⟨(some 26), .pk (.t 23) (.t 25) (.k (.lf (.bool false))), none⟩, ⟨(some 20), .as 0 0 (.t 26), none⟩] [0, 20]) c95_5
abbrev c95_7 : AC := .cond (.t 12) c95_3 c95_6
abbrev c95_8 : AC := .seq (.ops 0 [⟨(some 13), .mv (.t 0), none⟩, ⟨(some 14), .call 105 [(.t 13)], none⟩, ⟨(some 12), .as 0 0 (.t 14), none⟩] [0, 12]) c95_7
abbrev c95_9 : AC := .cond (.t 9) c95_2 c95_8
abbrev c95_10 : AC := .seq (.ops 0 [⟨(some 10), .mv (.t 0), none⟩, ⟨(some 11), .bin .eql (.t 10) (.k (.lf (.int .i64 9))), none⟩, ⟨(some 9), .as 0 0 (.t 11), none⟩] [0, 9]) c95_9
abbrev c95_11 : AC := .cond (.t 6) c95_1 c95_10
abbrev c95_12 : AC := .seq (.ops 0 [⟨(some 7), .mv (.t 0), none⟩, ⟨(some 8), .bin .eql (.t 7) (.k (.lf (.int .i64 13))), none⟩, ⟨(some 6), .as 0 0 (.t 8), none⟩] [0, 6]) c95_11
abbrev c95_13 : AC := .cond (.t 3) c95_0 c95_12
abbrev c95_14 : AC := .seq (.ops 0 [⟨(some 4), .mv (.t 0), none⟩, ⟨(some 5), .bin .eql (.t 4) (.k (.lf (.int .i64 10))), none⟩, ⟨(some 3), .as 0 0 (.t 5), none⟩] [0, 3]) c95_13
abbrev c95_15 : AC := .block 0 c95_14
abbrev c95_16 : AC := .seq (.ops 0 [⟨(some 31), .mv (.t 0), none⟩, ⟨(some 32), .call 92 [(.t 31)], none⟩, ⟨(some 33), .bin .add (.k (.lf (.str ⟨#[92, 120]⟩))) (.t 32), none⟩, ⟨(some 2), .as 0 0 (.t 33), none⟩] [2]) .ret
abbrev c95_17 : AC := .seq c95_15 c95_16
abbrev c95_18 : AC := .seq (.ops 0 [⟨(some 2), .as 0 0 (.k (.lf (.str ⟨#[]⟩))), none⟩] [0]) c95_17
abbrev c95 : AC := c95_18
theorem c95_ok : compileFn Tryd.prog 95 = some (34, AC.strip c95, [.t 2]) := by kernel_rfl
abbrev c103_0 : AC := .cond (.t 6) .skip (.exit 0)
abbrev c103_1 : AC := .seq (.ops 0 [⟨(some 5), .mv (.t 4), none⟩, ⟨(some 6), .bin .leq (.t 5) (.k (.lf (.int .i64 255))), none⟩] [1, 3, 4, 6]) c103_0
abbrev c103_2 : AC := .cond (.t 11) (.ops 0 [⟨(some 12), .mv (.t 3), none⟩, ⟨(some 13), .mv (.t 4), none⟩, ⟨(some 14), .cvi .u8 (.t 13), none⟩, ⟨(some 15), .bs 5 1 1 [.int .u8 0] [(0, (.t 14))], none⟩, ⟨(some 16), .app 5 1 1 (.t 12) (.t 15), none⟩, ⟨(some 3), .as 5 1 (.t 16), none⟩] [1, 3, 4]) .skip
abbrev c103_3 : AC := .seq (.ops 0 [⟨(some 9), .ld (.t 1) 4 true, none⟩, ⟨(some 10), .mv (.t 4), none⟩, ⟨(some 11), .call 104 [(.t 9), (.t 10)], none⟩] [1, 3, 4, 11]) c103_2
abbrev c103_4 : AC := .block 1 c103_3
abbrev c103_5 : AC := .seq c103_4 (.ops 0 [⟨(some 7), .mv (.t 4), none⟩, ⟨(some 8), .bin .add (.t 7) (.k (.lf (.int .i64 1))), none⟩, ⟨(some 4), .as 0 0 (.t 8), none⟩] [1, 3, 4])
abbrev c103_6 : AC := .seq c103_1 c103_5
abbrev c103_7 : AC := .loop c103_6 [1, 3, 4]
abbrev c103_8 : AC := .block 0 c103_7
abbrev c103_9 : AC := .seq (.ops 0 [⟨(some 4), .as 0 0 (.k (.lf (.int .i64 0))), none⟩] [1, 3, 4]) c103_8
abbrev c103_10 : AC := .seq (.ops 0 [⟨(some 17), .mv (.t 3), none⟩, ⟨(some 18), .cbs (.t 17), none⟩, ⟨(some 2), .as 0 0 (.t 18), none⟩] [2]) .ret
abbrev c103_11 : AC := .seq c103_9 c103_10
abbrev c103_12 : AC := .seq (.ops 0 [⟨(some 3), .as 5 1 (.k (.lf (.lst .nl 1 [] []))), none⟩] [1, 3]) c103_11
abbrev c103_13 : AC := .seq (.ops 0 [⟨(some 1), .bx (.t 0), none⟩, ⟨(some 2), .as 0 0 (.k (.lf (.str ⟨#[]⟩))), none⟩] [1]) c103_12
abbrev c103 : AC := c103_13
theorem c103_ok : compileFn Tryd.prog 103 = some (19, AC.strip c103, [.t 2]) := by kernel_rfl
abbrev c104_0 : AC := .seq (.ops 0 [⟨(some 5), .mv (.t 1), none⟩, ⟨(some 6), .bin .geq (.t 5) (.k (.lf (.int .i64 0))), none⟩, ⟨(some 7), .mv (.t 6), none⟩, ⟨(some 8), .mv (.t 1), (some (7, true))⟩, ⟨(some 9), .bin .leq (.t 8) (.k (.lf (.int .i64 255))), (some (7, true))⟩, ⟨(some 10), .pk (.t 7) (.t 9) (.k (.lf (.bool false))), none⟩, ⟨(some 11), .mv (.t 10), none⟩, ⟨(some 12), .mv (.t 1), (some (11, true))⟩, ⟨(some 13), .bin .quo (.t 12) (.k (.lf (.int .i64 64))), (some (11, true))⟩, ⟨(some 14), .iaa (.t 2) (.t 13) 4 1, (some (11, true))⟩, ⟨(some 15), .ld (.t 14) 1 false, (some (11, true))⟩, ⟨(some 16), .mv (.t 1), (some (11, true))⟩, ⟨(some 17), .bin .rem (.t 16) (.k (.lf (.int .i64 64))), (some (11, true))⟩, ⟨(some 18), .bin .shr (.t 15) (.t 17), (some (11, true))⟩, ⟨(some 19), .bin .and (.t 18) (.k (.lf (.int .u64 1))), (some (11, true))⟩, ⟨(some 20), .bin .eql (.t 19) (.k (.lf (.int .u64 1))), (some (11, true))⟩, ⟨(some 21), .pk (.t 11) (.t 20) (.k (.lf (.bool false))), none⟩, ⟨(some 4), .as 0 0 (.t 21), none⟩] [4]) .ret
abbrev c104_1 : AC := .seq (.ops 0 [⟨(some 2), .bx (.t 0), none⟩, ⟨(some 4), .as 0 0 (.k (.lf (.bool false))), none⟩] [1, 2]) c104_0
abbrev c104 : AC := c104_1
theorem c104_ok : compileFn Tryd.prog 104 = some (22, AC.strip c104, [.t 4]) := by kernel_rfl
abbrev c105_0 : AC := .seq (.ops 0 [⟨(some 3), .mv (.t 0), none⟩, ⟨(some 4), .bin .eql (.t 3) (.k (.lf (.int .i64 92))), none⟩, ⟨(some 5), .mv (.t 4), none⟩, ⟨(some 6), .mv (.t 0), (some (5, false))⟩, ⟨(some 7), .bin .eql (.t 6) (.k (.lf (.int .i64 93))), (some (5, false))⟩, ⟨(some 8), .pk (.t 5) (.k (.lf (.bool true))) (.t 7), none⟩, ⟨(some 9), .mv (.t 8), none⟩, ⟨(some 10), .mv (.t 0), (some (9, false))⟩, ⟨(some 11), .bin .eql (.t 10) (.k (.lf (.int .i64 91))), (some (9, false))⟩, ⟨(some 12), .pk (.t 9) (.k (.lf (.bool true))) (.t 11), none⟩, ⟨(some 13), .mv (.t 12), none⟩, ⟨(some 14), .mv (.t 0), (some (13, false))⟩, ⟨(some 15), .bin .eql (.t 14) (.k (.lf (.int .i64 94))), (some (13, false))⟩, ⟨(some 16), .pk (.t 13) (.k (.lf (.bool true))) (.t 15), none⟩, ⟨(some 17), .mv (.t 16), none⟩, ⟨(some 18), .mv (.t 0), (some (17, false))⟩, ⟨(some 19), .bin .eql (.t 18) (.k (.lf (.int .i64 45))), (some (17, false))⟩, ⟨(some 20), .pk (.t 17) (.k (.lf (.bool true))) (.t 19), none⟩, ⟨(some 21), .mv (.t 20), none⟩, ⟨(some 22), .mv (.t 0), (some (21, false))⟩, ⟨(some 23), .bin .eql (.t 22) (.k (.lf (.int .i64 37))), (some (21, false))⟩, ⟨(some 24), .pk (.t 21) (.k (.lf (.bool true))) (.t 23), none⟩, ⟨(some 2), .as 0 0 (.t 24), none⟩] [2]) .ret
abbrev c105_1 : AC := .seq (.ops 0 [⟨(some 2), .as 0 0 (.k (.lf (.bool false))), none⟩] [0]) c105_0
abbrev c105 : AC := c105_1
theorem c105_ok : compileFn Tryd.prog 105 = some (25, AC.strip c105, [.t 2]) := by kernel_rfl
end Go.Proofs.YtdoefdmaecaacaaDoor.S
set_option linter.unusedVariables false
set_option linter.unusedSimpArgs false
namespace Go.Proofs.YtdoefdmaecaacaaDoor.S
open Go Go.Proofs.YtdoefdmaecaacaaDoor.AM
variable {X : Cx}
theorem w8 {x : Int} (h0 : 0 ≤ x) (h1 : x ≤ 255) : IntKind.wrap .u8 x = x := by
  simp only [IntKind.wrap, IntKind.bits, IntKind.signed]; simp; omega
theorem w64 {x : Int} (h0 : -9223372036854775808 ≤ x) (h1 : x ≤ 9223372036854775807) : IntKind.wrap .i64 x = x := by
  simp only [IntKind.wrap, IntKind.bits, IntKind.signed]; simp; omega
theorem ite_pr {p : Prop} [Decidable p] {A B : Prop} (h1 : p → A) (h2 : ¬ p → B) : if p then A else B := by split <;> simp_all
theorem bytesL_ub (s : ByteArray) : bytesL s = ub s.data.toList := rfl
theorem v_ms {σ : St} {t e n bytes : Nat} {zero : List L} {k k' : IntKind} {l c : Int} {K : St → Prop} : msK σ t e n bytes zero (.lf (.int k l)) (.lf (.int k' c)) K = (zero.length = n ∧ (0 ≤ l ∧ l ≤ c ∧ c * bytes ≤ 140737488355328 ∧ c ≤ 9223372036854775807) ∧ K ((σ.mapAll (killP (plT t 0))).put (some t) (.lf (.lst (.own (plT t 0) e) n (List.replicate l.toNat zero) (List.replicate (c - l).toNat zero))))) := rfl
structure Nd where
  op : Int
  n : Int
  t : ByteArray
  s0 : Int
  s1 : Int
  s2 : Int
  s3 : Int
abbrev Nd.c (x : Nd) : List L := [.int .i64 x.op, .int .i64 x.n, .str x.t, .int .u64 x.s0, .int .u64 x.s1, .int .u64 x.s2, .int .u64 x.s3]
def arF (op : Int) : Int := if op = 7 ∨ op = 8 then 2 else if (1 ≤ op ∧ op ≤ 6) ∨ op = 17 then 0 else if 8 < op ∧ op ≤ 23 then 1 else -1
theorem r33 (op : Int) : R X Tryd.prog 33 [.lf (.int .i64 op)] [] (.lf (.int .i64 (arF op))) [] := by
  refine R_i [] [] c33_ok rfl (by simp) ?_
  unfold arF
  simp -implicitDefEqProofs (maxSteps := 2000000) only [c33, ↓reduceIte, S0, v_leq, v_geq, St.init, enum, Nat.reduceEqDiff, reduceCtorEq, cond_false, Bool.not_true, Bool.not_false, Bool.true_eq_false, decide_eq_false_iff_not, Int.reduceNeg, ite_not]
  (repeat' split) <;> first | trivial | omega
end Go.Proofs.YtdoefdmaecaacaaDoor.S
set_option linter.unusedVariables false
set_option linter.unusedSimpArgs false
namespace Go.Proofs.YtdoefdmaecaacaaDoor.S
open Go Go.Proofs.YtdoefdmaecaacaaDoor.AM
variable {X : Cx}
abbrev wl (p : L) (l : List UInt8) (g : Bool) : List L := [p, .lst (.own 3 5) 1 (ub l) [], .bool g]
def frw (x : L) : Prop := x = .nilp ∨ x = .tptr 0 0 46
theorem r45w (x : L) (hx : frw x) (y : List UInt8) (g : Bool) : R X Tryd.prog 45 [.lf (.tptr 0 0 46)] [wl x y g] (.tp []) [wl (.tptr 0 0 46) y g] := by
  refine R_i [(3, 3)] [] c45_ok rfl (by simp) ?_
  rcases hx with rfl | rfl
  · simp -implicitDefEqProofs (maxSteps := 2000000) only [c45, ↓reduceIte, S0, St.init, enum, Nat.reduceEqDiff, Nat.reduceAdd, reduceCtorEq, Bool.not_false, t_ln, t_lc, t_l, t_oo, List.all_cons, List.all_nil, PV.cells, cellL, fillL, Nat.reduceLeDiff, List.take_zero, List.drop_zero, List.drop_succ_cons, Nat.reduceLT, Nat.lt_add_one, true_or, or_true, st_t1, o_peq, v_peq_nn, o_p2u, v_p2u, v_p2uK, o_u2p, v_u2p, v_u2pK, o_ex, v_exK, v_ex0, v_st_t, t_tr]
    kernel_rfl
  · simp -implicitDefEqProofs (maxSteps := 2000000) only [c45, ↓reduceIte, S0, St.init, enum, Nat.reduceEqDiff, reduceCtorEq, Bool.not_true, t_ln, t_lc, t_l, t_oo, Nat.lt_add_one, true_or, or_true, o_peq, v_peq_tn, v_peq_tt, t_tr]
theorem r27w (x : L) (hx : frw x) (y : List UInt8) (g : Bool) (s : ByteArray) (hs : y.length + s.size ≤ 140737488355328) : R X Tryd.prog 27 [.lf (.tptr 0 0 46), .lf (.str s)] [wl x y g] (.tp [.lf (.int .i64 s.size), .lf .nili]) [wl (.tptr 0 0 46) (y ++ s.data.toList) g] := by
  refine R_i [(3, 3)] [] c27_ok rfl (by simp) ?_
  rcases hx with rfl | rfl
  all_goals
    simp -implicitDefEqProofs (maxSteps := 2000000) only [c27, ↓reduceIte, S0, St.init, enum, Nat.reduceEqDiff, reduceCtorEq, PV.leaves, e_asg_ni]
    refine pcall_i (r45w _ (by simp [frw, toC]) y g) rfl rfl ?_
    simp -implicitDefEqProofs (maxSteps := 2000000) only [c27, ↓reduceIte, S0, o_lns, v_lns, o_aps, v_aps_o, Nat.reduceEqDiff, Nat.reduceAdd, reduceCtorEq, t_ln, t_lc, t_ni, t_l, t_oo, outV, ownsV, List.any_nil, List.all_cons, List.all_nil, PV.cells, cellL, fillL, Nat.reduceMul, Nat.reduceBEq, Nat.reduceLeDiff, List.take_zero, List.drop_zero, List.take_succ_cons, List.drop_succ_cons, kp_b, kp_s, kp_u, rk_b, rk_s, rk_u, kp_lo, e_asg_ni, st_lo, plT, plC, Nat.lt_add_one, true_or, or_true, kp_t, rk_t, fc_b, fc_lo, fc_t, kl_np, ub_len, v_st_t, t_tr, isC, cplc, Nat.reduceMod, Nat.reduceDiv]
    exact ⟨hs, by rw [bytesL_ub, ub_app]⟩
theorem r26w (x : L) (hx : frw x) (y : List UInt8) (g : Bool) : R X Tryd.prog 26 [.lf (.tptr 0 0 46)] [wl x y g] (.lf (.int .i64 y.length)) [wl x y g] := by
  refine R_i [(3, 3)] [] c26_ok rfl (by simp) ?_
  rcases hx with rfl | rfl
  all_goals
    simp -implicitDefEqProofs (maxSteps := 2000000) only [c26, ↓reduceIte, S0, St.init, enum, reduceCtorEq, t_ln, t_lc, t_np, t_l, t_oo, Nat.lt_add_one, true_or, or_true, implies_true, ub_len, t_tr]
theorem r34w (x : L) (hx : frw x) (y : List UInt8) (g : Bool) (hy : 0 < y.length) : R X Tryd.prog 34 [.lf (.tptr 0 0 46)] [wl x y g] (.lf (.str ⟨y.toArray⟩)) [[x, .undef, .bool g]] := by
  refine R_i [] [] c34_ok rfl (by simp) ?_
  rcases hx with rfl | rfl
  all_goals
    simp -implicitDefEqProofs (maxSteps := 2000000) only [c34, ↓reduceIte, S0, s_wopsqK, s_qnil, s_qcons, q_fa, q_ld, q_nc, q_len, St.init, enum, Nat.reduceEqDiff, reduceCtorEq, t_ln, t_lc, t_np, t_u, kp_b, kp_np, kp_lo, Nat.lt_add_one, implies_true, kp_t, kp_eo, o_usd, v_usd, ub_len, o_ust, v_ust, s_reg, q_usd, t_tr]
    exact hy
structure W where
  x : L
  y : List UInt8
  g : Bool
def W.c (w : W) : List L := wl w.x w.y w.g
def putW (s : ByteArray) (w : W) : W := if w.g = true ∨ 65536 < w.y.length + s.size then { w with g := true } else ⟨.tptr 0 0 46, w.y ++ s.data.toList, false⟩
structure W.ok (w : W) : Prop where
  x : frw w.x
  y : w.y.length ≤ 65536
theorem W.toC {w : W} (h : w.ok) : w.c.map (AM.toC 0) = w.c := by
  obtain ⟨x, y, g⟩ := w
  rcases h.x with h | h <;> (simp only at h; subst h; rfl)
theorem W.fromC {w : W} (h : w.ok) : w.c.map (AM.fromC 0) = w.c := by
  obtain ⟨x, y, g⟩ := w
  rcases h.x with h | h <;> (simp only at h; subst h; rfl)
theorem W.killP {w : W} (h : w.ok) {p : Nat} (hp : (3 == p) = false) : w.c.map (AM.killP p) = w.c := by
  obtain ⟨x, y, g⟩ := w
  have e : AM.killP p (.lst (.own 3 5) 1 (ub y) []) = .lst (.own 3 5) 1 (ub y) [] := by simp only [AM.killP, tagK, hp]; rfl
  rcases h.x with h | h <;> (simp only at h; subst h; simp only [W.c, wl, List.map_cons, List.map_nil, e]; rfl)
theorem W.lnP {w : W} (h : w.ok) {p : Nat} (hp : (3 == p) = false) : w.c.map (AM.lnP p) = w.c := by
  obtain ⟨x, y, g⟩ := w
  have e : AM.lnP p (.lst (.own 3 5) 1 (ub y) []) = .lst (.own 3 5) 1 (ub y) [] := by simp only [AM.lnP, hp]; rfl
  rcases h.x with h | h <;> (simp only at h; subst h; simp only [W.c, wl, List.map_cons, List.map_nil, e]; rfl)
theorem W.renK {w : W} (h : w.ok) {q p : Nat} (hp : (3 == p) = false) (hq : (3 == q) = false) : w.c.map (AM.renK q p) = w.c := by
  obtain ⟨x, y, g⟩ := w
  have e : AM.renK q p (.lst (.own 3 5) 1 (ub y) []) = .lst (.own 3 5) 1 (ub y) [] := by simp only [AM.renK, AM.killP, tagK, hp, Bool.false_eq_true, if_false, renP, tagR, hq]
  rcases h.x with h | h <;> (simp only at h; subst h; simp only [W.c, wl, List.map_cons, List.map_nil, e]; rfl)
theorem W.to {w : W} (h : w.ok) : leavesTo 1 [(3, 3)] [] w.c w.c := by
  obtain ⟨x, y, g⟩ := w
  rcases h.x with h | h <;> (simp only at h; subst h; simp [W.c, wl, t_lc, leavesTo, leafTo, datL, tagTo, AM.get])
theorem putW_ok {s : ByteArray} {w : W} (h : w.ok) : (putW s w).ok := by
  unfold putW
  split
  · exact ⟨h.x, h.y⟩
  · rename_i h1
    refine ⟨.inr rfl, ?_⟩
    simp only [not_or, Nat.not_lt] at h1
    simpa using h1.2
def putsW : List ByteArray → W → W
  | [], w => w
  | s :: r, w => putsW r (putW s w)
theorem putsW_app (a b : List ByteArray) (w : W) : putsW (a ++ b) w = putsW b (putsW a w) := by
  induction a generalizing w with
  | nil => rfl
  | cons s r ih => exact ih _
theorem putsW_ok : ∀ (l : List ByteArray) {w : W}, w.ok → (putsW l w).ok
  | [], _, h => h
  | s :: r, w, h => putsW_ok r (w := putW s w) (putW_ok h)
theorem putsW_g : ∀ (l : List ByteArray) (w : W), w.g = true → putsW l w = w
  | [], _, _ => rfl
  | s :: r, w, h => by
    have : putW s w = w := by cases w; simp only at h; subst h; simp [putW]
    simp only [putsW, this]; exact putsW_g r w h
theorem r14 (w : W) (hw : w.ok) (s : ByteArray) (hs : s.size ≤ 1073741824) : R X Tryd.prog 14 [.lf (.tptr 0 0 46), .lf (.str s)] [w.c] (.tp []) [(putW s w).c] := by
  obtain ⟨x, y, g⟩ := w
  have hx := hw.x
  have hy := hw.y
  simp only at hx hy
  have w1 : IntKind.i64.wrap ((y.length : Int) + (s.size : Int)) = (y.length : Int) + (s.size : Int) := w64 (by omega) (by omega)
  refine R_i [(3, 3)] [] c14_ok rfl (by simp) ?_
  unfold putW W.c
  cases g
  · simp only [Bool.false_eq_true, false_or]
    rcases hx with rfl | rfl
    all_goals
      simp -implicitDefEqProofs (maxSteps := 2000000) only [c14, ↓reduceIte, S0, q_fa, q_nc, St.init, enum, Nat.reduceEqDiff, reduceCtorEq, cond_false, PV.leaves]
      refine pcall_i (r26w _ (by simp [frw, toC]) y false) rfl rfl ?_
      simp -implicitDefEqProofs (maxSteps := 2000000) only [c14, w1, ↓reduceIte, S0, q_lns, o_lns, v_lns, Nat.reduceEqDiff, Nat.reduceAdd, reduceCtorEq, cond_false, t_ln, t_lc, t_l, t_oo, outV, ownsV, owns1, ownL, PV.leaves, List.all_cons, List.all_nil, PV.cells, cellL, fillL, Nat.reduceMul, Nat.le_refl, List.take_zero, List.take_succ_cons, List.drop_succ_cons, List.drop_nil, st_b1, Nat.lt_add_one, true_or, or_true, tc_np, tc_t, fc_b, fc_np, fc_lo, fc_t, kl_np, v_st_t, isC, cplc, Nat.reduceMod, Nat.reduceDiv]
      with_reducible refine ite_pr (fun h1 => ?_) (fun h1 => ?_)
      · rw [if_pos (by omega)]
        trivial
      · rw [if_neg (by omega)]
        refine pcall_i (r27w _ (by simp [frw, toC]) y false s (by omega)) rfl rfl ?_
        simp -implicitDefEqProofs (maxSteps := 2000000) only [c14, ↓reduceIte, S0, Nat.reduceAdd, t_ln, t_lc, t_l, t_oo, outV, ownsV, owns1, ownL, List.any_cons, List.any_nil, Bool.or_self, Nat.reduceMul, ol_ni, Nat.lt_add_one, true_or, or_true, fc_b, fc_lo, fc_t, kl_np, t_tr, isC, cplc, Nat.reduceMod, Nat.reduceDiv]
  · rcases hx with rfl | rfl
    all_goals
      simp only [true_or, if_true]
      simp -implicitDefEqProofs (maxSteps := 2000000) only [c14, ↓reduceIte, S0, St.init, enum, Nat.reduceEqDiff, Nat.reduceAdd, reduceCtorEq, Bool.not_false, Bool.true_eq_false, t_ln, t_lc, t_np, t_l, t_oo, List.all_cons, List.all_nil, PV.cells, cellL, fillL, Nat.le_refl, List.take_zero, List.take_succ_cons, List.drop_succ_cons, List.drop_nil, st_b1, Nat.lt_add_one, true_or, or_true, v_st_t, t_tr]
end Go.Proofs.YtdoefdmaecaacaaDoor.S
set_option linter.unusedVariables false
set_option linter.unusedSimpArgs false
namespace Go.Proofs.YtdoefdmaecaacaaDoor.S
open Go Go.Proofs.YtdoefdmaecaacaaDoor.AM
variable {X : Cx}
inductive Tr where
  | l0 (x : Nd)
  | l1 (x : Nd) (a : Tr)
  | l2 (x : Nd) (a b : Tr)
def Tr.x : Tr → Nd
  | .l0 x => x
  | .l1 x _ => x
  | .l2 x _ _ => x
def Tr.c : Tr → List L
  | .l0 x => x.c ++ [.lst .ro 1 [] []]
  | .l1 x a => x.c ++ [.lst .ro 1 [[.rp a.c 0]] []]
  | .l2 x a b => x.c ++ [.lst .ro 1 [[.rp a.c 0], [.rp b.c 0]] []]
abbrev Tr.r (t : Tr) : List L := [.rp t.c 0]
def stepT (x : Nd) (st : List Tr) : Option (List Tr) :=
  if arF x.op = 0 then some (.l0 x :: st)
  else if arF x.op = 1 then (match st with
    | a :: r => some (.l1 x a :: r)
    | _ => none)
  else if arF x.op = 2 then (match st with
    | b :: a :: r => some (.l2 x a b :: r)
    | _ => none)
  else none
def buildT : List Nd → List Tr → Option (List Tr)
  | [], st => some st
  | x :: p, st => (stepT x st).bind (buildT p)
abbrev stL (st : List Tr) : List (List L) := st.reverse.map Tr.r
theorem step_len {x : Nd} {st st' : List Tr} (h : stepT x st = some st') : st'.length ≤ st.length + 1 := by
  unfold stepT at h
  split at h
  · cases h; simp
  · split at h
    · split at h
      · cases h; simp
      · cases h
    · split at h
      · split at h
        · cases h; simp only [List.length_cons]; omega
        · cases h
      · cases h
theorem step_cases {x : Nd} {st st' : List Tr} (h : stepT x st = some st') :
    (arF x.op = 0 ∧ st' = .l0 x :: st) ∨ (∃ a r, arF x.op = 1 ∧ st = a :: r ∧ st' = .l1 x a :: r) ∨ (∃ a b r, arF x.op = 2 ∧ st = b :: a :: r ∧ st' = .l2 x a b :: r) := by
  unfold stepT at h
  split at h
  · cases h; exact .inl ⟨‹_›, rfl⟩
  · split at h
    · split at h
      · cases h; exact .inr (.inl ⟨_, _, ‹_›, rfl, rfl⟩)
      · cases h
    · split at h
      · split at h
        · cases h; exact .inr (.inr ⟨_, _, _, ‹_›, rfl, rfl⟩)
        · cases h
      · cases h
theorem r16 (p : List Nd) (sp : List (List L)) (hp : p.length ≤ 1000000000) (t : Tr) (r : List Tr) (hb : buildT p [] = some (r ++ [t])) : R X Tryd.prog 16 [.lf (.lst .ro 7 (p.map Nd.c) sp)] [] (.lf (.rp t.c 0)) [] := by
  refine R_i [] [] c16_ok rfl (by simp) ?_
  simp -implicitDefEqProofs (maxSteps := 2000000) only [c16, ↓reduceIte, S0, St.init, enum, Nat.reduceEqDiff, reduceCtorEq, Nat.reduceMul, kp_lro, e_asg_n, e_asg_np, List.range_zero, plT]
  have hml : (List.map Nd.c p).length = p.length := List.length_map _
  rw [hml]
  intro _
  have key : ∀ (q d : List Nd) (st : List Tr), d ++ q = p → buildT q st = some (r ++ [t]) → st.length ≤ d.length →
      LoopAt X Tryd.prog c16_8 [3, 8, 9, 10] (blkK 0 (seqK X Tryd.prog c16_12 (retS [] [] 0 [RV.t 2] (.lf (.rp t.c 0)) [])))
        { m := 0, tm := [(3, .lf (.lst (.own 384 49) 1 (stL st) [])), (8, .lf (.lst .ro 7 (p.map Nd.c) sp)), (9, .lf (.int .i64 p.length)), (10, .lf (.int .i64 d.length))], ce := [] } := by
    intro q
    induction q with
    | nil =>
      intro d st hd hq hl
      simp only [List.append_nil] at hd
      subst hd
      simp only [buildT, Option.some.injEq] at hq
      subst hq
      have hg : (stL (r ++ [t])) = [.rp t.c 0] :: stL r := by simp [stL]
      have hlt : ¬ (d.length : Int) < d.length := by omega
      intro Z hZ; apply hZ
      have hg0 : ([L.rp t.c 0] :: stL r).getD (Int.toNat 0) [] = [.rp t.c 0] := rfl
      simp -implicitDefEqProofs (maxSteps := 2000000) only [c16, hg, hlt, decide_false, v_ld_e, hg0, ↓reduceIte, S0, Nat.reduceEqDiff, e_asg_rp, t_rp]
      exact ⟨⟨by decide, by simp⟩, by simp⟩
    | cons x q ih =>
      intro d st hd hq hl
      have hdl : d.length < p.length := by rw [← hd]; simp
      have hlt : (d.length : Int) < p.length := by omega
      obtain ⟨op, n, tx, s0, s1, s2, s3⟩ := x
      have hx : (p.map Nd.c).getD ((d.length : Nat) : Int).toNat [] = [.int .i64 op, .int .i64 n, .str tx, .int .u64 s0, .int .u64 s1, .int .u64 s2, .int .u64 s3] := by
        rw [Int.toNat_natCast, List.getD_eq_getElem?_getD, List.getElem?_map, ← hd]; simp
      have wi : IntKind.i64.wrap ((d.length : Int) + 1) = (((d ++ [(⟨op, n, tx, s0, s1, s2, s3⟩ : Nd)]).length : Nat) : Int) := by rw [w64 (by omega) (by omega)]; simp
      simp only [buildT] at hq
      obtain ⟨st', hs, hq⟩ := Option.bind_eq_some_iff.1 hq
      have ihn := ih (d ++ [(⟨op, n, tx, s0, s1, s2, s3⟩ : Nd)]) st' (by simp [← hd]) hq (by have := step_len hs; simp; omega)
      intro Z hZ; apply hZ
      simp -implicitDefEqProofs (maxSteps := 2000000) only [c16, hlt, decide_true, hx, v_ld_e, wi, ↓reduceIte, S0, o_al, o_bx, o_bd, v_agK, v_bd_n, v_bd_c, Nat.reduceEqDiff, Nat.reduceAdd, reduceCtorEq, PV.leaves, List.all_cons, List.all_nil, PV.cells, cellL, fillL, Nat.reduceBEq, Nat.reduceLeDiff, Nat.zero_le, Nat.le_refl, List.take_zero, List.drop_zero, List.take_succ_cons, List.drop_succ_cons, List.drop_nil, List.take_nil, kc_b, kc_s, kc_p, kc_l, e_asg_p, st_b, ne_eq, not_false_eq_true, kc_er, v_bx_a]
      have hll : (stL st).length = st.length := by simp [stL]
      rw [hll]
      refine ⟨⟨by omega, by rw [hml]; omega⟩, by rw [hml]; omega, fun _ => wcall_s (r33 op) rfl rfl ?_⟩
      have h1 : st.length ≤ 1000000000 := by omega
      rcases step_cases hs with ⟨ha, rfl⟩ | ⟨a, r', ha, rfl, rfl⟩ | ⟨a, b, r', ha, rfl, rfl⟩
      · simp only at ha
        rw [ha]
        have hw : IntKind.i64.wrap (((st.length : Nat) : Int) - 0) = ((st.length : Nat) : Int) := by (try simp only [List.length_cons] at h1); rw [w64 (by omega) (by omega)]; omega
        have e1 : (((st.length : Nat) : Int)).toNat = st.length := Int.toNat_natCast _
        have h_d : (stL (st)).drop (((st.length : Nat) : Int)).toNat = [] := by rw [e1]; simp [stL]
        have h_t : (stL (st)).take (((st.length : Nat) : Int)).toNat = stL st := by rw [e1]; exact List.take_of_length_le (by simp [stL])
        have hfin : stL st ++ [[.rp (Tr.c (.l0 ⟨op, n, tx, s0, s1, s2, s3⟩)) 0]] = stL ((.l0 ⟨op, n, tx, s0, s1, s2, s3⟩) :: st) := by simp [stL, Tr.r]
        have hle : st.length ≤ (stL (st)).length := by rw [hll]; exact Nat.le_refl _
        simp -implicitDefEqProofs (maxSteps := 2000000) only [c16, hw, h_d, h_t, ↓reduceIte, S0, v_sub, v_nc_p, o_app, v_app_n, o_sll, v_sll_b, v_sll_c, Option.map_some, Option.map_none, Nat.reduceEqDiff, Nat.reduceAdd, Bool.not_false, St.clr, outV, ownsV, owns1, ownL, List.all_cons, List.all_nil, PV.cells, cellL, fillL, Nat.reduceMul, Nat.reduceBEq, Nat.zero_le, Nat.le_refl, List.take_zero, List.take_succ_cons, List.drop_succ_cons, List.drop_nil, kp_s, rk_i, rk_s, kp_p, kp_lro, kp_lnl, rk_p, rk_lro, rk_lnl, kp_lo, st_lo, plT, plC, or_true, s_gdq, s_gqn, s_gqc, s_gqK, s_gqE, s_gq1, s_gq2, s_gqF, s_gqT, pv_p, sv_l, lk_mv, lk_fa, ns_fa, lk_nc, ns_nc, lk_ld, ns_app, o_bsf]
        refine ⟨rfl, ⟨by omega, by rw [e1]; exact hle⟩, ?_⟩
        first
          | refine ⟨⟨by omega, by rw [e1]; exact hle⟩, ?_⟩
          | refine ⟨by simp, ⟨by omega, by rw [e1]; exact hle⟩, ?_⟩
          | refine ⟨by simp, by simp, ⟨by omega, by rw [e1]; exact hle⟩, ?_⟩
        refine wbsf_f [16] ?_
        simp -implicitDefEqProofs (maxSteps := 2000000) only [c16, hw, h_d, h_t, wi, ↓reduceIte, S0, v_bsK, v_lit_n, v_lit_c, o_app, v_app_o, Nat.reduceEqDiff, reduceCtorEq, Bool.or_false, List.all_cons, List.all_nil, PV.cells, datL, Nat.reduceMul, Nat.reduceBEq, Nat.reduceLeDiff, Nat.zero_le, kp_s, ro_i, ro_s, rk_i, rk_s, kp_lro, ro_p, ro_lro, rk_lro, kp_lo, ro_lo, e_asg_o, dw_lo, List.range_zero, plT, lit_n, lit_c, List.reduceReplicate, List.set_cons_zero, List.length_append, Nat.lt_add_one, or_false, kp_rp, rk_rp, rl_rp, fz_i, fz_s, fz_p, fz_lr, fz_lo, fD_i, fD_s, fD_lr, e_frz, wfd_n, wfd_c, wfd_o, wfd_p, wfd_q, s_bsC, kp_lk, rk_lk, lp_i, lp_s, lp_lr, lp_lo, lp_rp]
        have hl2 : (stL st).length = st.length := by simp [stL]
        refine ⟨by (try simp only [List.length_cons] at h1); omega, ?_⟩
        have hz := ihn Z hZ
        rw [← hfin] at hz
        simp only [List.length_append, List.length_cons, List.length_nil, Nat.zero_add, Tr.c, List.cons_append, List.nil_append] at hz
        exact hz
      · simp only at ha
        rw [ha]
        have hw : IntKind.i64.wrap (((r'.length + 1 : Nat) : Int) - 1) = ((r'.length : Nat) : Int) := by (try simp only [List.length_cons] at h1); rw [w64 (by omega) (by omega)]; omega
        have e1 : (((r'.length : Nat) : Int)).toNat = r'.length := Int.toNat_natCast _
        have h_d : (stL (a :: r')).drop (((r'.length : Nat) : Int)).toNat = [[.rp a.c 0]] := by rw [e1]; simp [stL]
        have h_t : (stL (a :: r')).take (((r'.length : Nat) : Int)).toNat = stL r' := by rw [e1]; simp [stL]
        have hfin : stL r' ++ [[.rp (Tr.c (.l1 ⟨op, n, tx, s0, s1, s2, s3⟩ a)) 0]] = stL ((.l1 ⟨op, n, tx, s0, s1, s2, s3⟩ a) :: r') := by simp [stL, Tr.r]
        have hle : r'.length ≤ (stL (a :: r')).length := by rw [hll]; simp only [List.length_cons]; omega
        simp -implicitDefEqProofs (maxSteps := 2000000) only [c16, hw, h_d, h_t, ↓reduceIte, S0, v_sub, v_nc_p, o_app, v_app_n, o_sll, v_sll_b, v_sll_c, Option.map_some, Option.map_none, Nat.reduceEqDiff, Nat.reduceAdd, reduceCtorEq, Bool.not_false, St.clr, outV, ownsV, owns1, ownL, Bool.or_false, List.all_cons, List.all_nil, PV.cells, cellL, fillL, Nat.reduceMul, Nat.reduceBEq, Nat.reduceLeDiff, Nat.le_refl, List.take_zero, List.take_succ_cons, List.drop_succ_cons, List.drop_nil, kp_s, rk_i, rk_s, kp_p, kp_lro, kp_lnl, rk_p, rk_lro, rk_lnl, kp_lo, st_lo, plT, plC, or_false, s_gdq, s_gqn, s_gqc, s_gqK, s_gqE, s_gq1, s_gq2, s_gqF, s_gqT, pv_p, sv_l, lk_mv, lk_fa, ns_fa, lk_nc, ns_nc, lk_ld, ns_app, o_bsf]
        refine ⟨rfl, ⟨by omega, by rw [e1]; exact hle⟩, ?_⟩
        first
          | refine ⟨⟨by omega, by rw [e1]; exact hle⟩, ?_⟩
          | refine ⟨by simp, ⟨by omega, by rw [e1]; exact hle⟩, ?_⟩
          | refine ⟨by simp, by simp, ⟨by omega, by rw [e1]; exact hle⟩, ?_⟩
        refine wbsf_f [16] ?_
        simp -implicitDefEqProofs (maxSteps := 2000000) only [c16, hw, h_d, h_t, wi, ↓reduceIte, S0, v_bsK, v_lit_n, v_lit_c, o_app, v_app_o, Nat.reduceEqDiff, reduceCtorEq, Bool.or_false, List.all_cons, List.all_nil, PV.cells, datL, Nat.reduceMul, Nat.reduceBEq, Nat.reduceLeDiff, Nat.zero_le, kp_s, ro_i, ro_s, rk_i, rk_s, kp_lro, ro_p, ro_lro, rk_lro, kp_lo, ro_lo, e_asg_o, dw_lo, List.range_zero, plT, lit_n, lit_c, List.reduceReplicate, List.set_cons_zero, List.length_append, Nat.lt_add_one, or_false, kp_rp, rk_rp, rl_rp, fz_i, fz_s, fz_p, fz_lr, fz_lo, fD_i, fD_s, fD_lr, e_frz, wfd_n, wfd_c, wfd_o, wfd_p, wfd_q, s_bsC, kp_lk, rk_lk, lp_i, lp_s, lp_lr, lp_lo, lp_rp]
        have hl2 : (stL r').length = r'.length := by simp [stL]
        refine ⟨by (try simp only [List.length_cons] at h1); omega, ?_⟩
        have hz := ihn Z hZ
        rw [← hfin] at hz
        simp only [List.length_append, List.length_cons, List.length_nil, Nat.zero_add, Tr.c, List.cons_append, List.nil_append] at hz
        exact hz
      · simp only at ha
        rw [ha]
        have hw : IntKind.i64.wrap (((r'.length + 1 + 1 : Nat) : Int) - 2) = ((r'.length : Nat) : Int) := by (try simp only [List.length_cons] at h1); rw [w64 (by omega) (by omega)]; omega
        have e1 : (((r'.length : Nat) : Int)).toNat = r'.length := Int.toNat_natCast _
        have h_d : (stL (b :: a :: r')).drop (((r'.length : Nat) : Int)).toNat = [[.rp a.c 0], [.rp b.c 0]] := by rw [e1]; simp [stL]
        have h_t : (stL (b :: a :: r')).take (((r'.length : Nat) : Int)).toNat = stL r' := by rw [e1]; simp [stL]
        have hfin : stL r' ++ [[.rp (Tr.c (.l2 ⟨op, n, tx, s0, s1, s2, s3⟩ a b)) 0]] = stL ((.l2 ⟨op, n, tx, s0, s1, s2, s3⟩ a b) :: r') := by simp [stL, Tr.r]
        have hle : r'.length ≤ (stL (b :: a :: r')).length := by rw [hll]; simp only [List.length_cons]; omega
        simp -implicitDefEqProofs (maxSteps := 2000000) only [c16, hw, h_d, h_t, ↓reduceIte, S0, v_sub, v_nc_p, o_app, v_app_n, o_sll, v_sll_b, v_sll_c, Option.map_some, Option.map_none, Nat.reduceEqDiff, Nat.reduceAdd, reduceCtorEq, Bool.not_false, St.clr, outV, ownsV, owns1, ownL, Bool.or_false, List.all_cons, List.all_nil, PV.cells, cellL, fillL, Nat.reduceMul, Nat.reduceBEq, Nat.reduceLeDiff, Nat.le_refl, List.take_zero, List.take_succ_cons, List.drop_succ_cons, List.drop_nil, kp_s, rk_i, rk_s, kp_p, kp_lro, kp_lnl, rk_p, rk_lro, rk_lnl, kp_lo, st_lo, plT, plC, or_false, s_gdq, s_gqn, s_gqc, s_gqK, s_gqE, s_gq1, s_gq2, s_gqF, s_gqT, pv_p, sv_l, lk_mv, lk_fa, ns_fa, lk_nc, ns_nc, lk_ld, ns_app, o_bsf]
        refine ⟨rfl, ⟨by omega, by rw [e1]; exact hle⟩, ?_⟩
        first
          | refine ⟨⟨by omega, by rw [e1]; exact hle⟩, ?_⟩
          | refine ⟨by simp, ⟨by omega, by rw [e1]; exact hle⟩, ?_⟩
          | refine ⟨by simp, by simp, ⟨by omega, by rw [e1]; exact hle⟩, ?_⟩
        refine wbsf_f [16] ?_
        simp -implicitDefEqProofs (maxSteps := 2000000) only [c16, hw, h_d, h_t, wi, ↓reduceIte, S0, v_bsK, v_lit_n, v_lit_c, o_app, v_app_o, Nat.reduceEqDiff, reduceCtorEq, Bool.or_false, List.all_cons, List.all_nil, PV.cells, datL, Nat.reduceMul, Nat.reduceBEq, Nat.reduceLeDiff, Nat.zero_le, kp_s, ro_i, ro_s, rk_i, rk_s, kp_lro, ro_p, ro_lro, rk_lro, kp_lo, ro_lo, e_asg_o, dw_lo, List.range_zero, plT, lit_n, lit_c, List.reduceReplicate, List.set_cons_zero, List.length_append, Nat.lt_add_one, or_false, kp_rp, rk_rp, rl_rp, fz_i, fz_s, fz_p, fz_lr, fz_lo, fD_i, fD_s, fD_lr, e_frz, wfd_n, wfd_c, wfd_o, wfd_p, wfd_q, s_bsC, kp_lk, rk_lk, lp_i, lp_s, lp_lr, lp_lo, lp_rp]
        have hl2 : (stL r').length = r'.length := by simp [stL]
        refine ⟨by (try simp only [List.length_cons] at h1); omega, ?_⟩
        have hz := ihn Z hZ
        rw [← hfin] at hz
        simp only [List.length_append, List.length_cons, List.length_nil, Nat.zero_add, Tr.c, List.cons_append, List.nil_append] at hz
        exact hz
  exact key p [] [] rfl hb (by simp)
end Go.Proofs.YtdoefdmaecaacaaDoor.S
