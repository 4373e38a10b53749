/- Contracts, part IX8. -/
import Derived.Test.YthcpaohmajjopaaDoorProg
import Derived.Test.YthcpaohmajjopaaDoorAmLeaf2
import Derived.Test.YthcpaohmajjopaaDoorIX3
import Derived.Test.YthcpaohmajjopaaDoorIX5
import Derived.Test.YthcpaohmajjopaaDoorIX6
import Derived.Test.YthcpaohmajjopaaDoorIX1
import Derived.Test.YthcpaohmajjopaaDoorIX4
import Derived.Test.YthcpaohmajjopaaDoorIX7
set_option maxRecDepth 100000
namespace Go.Proofs.YthcpaohmajjopaaDoor.I
open Go Go.Proofs.YthcpaohmajjopaaDoor.AM
/-- harrow/harrowref16.Bytes -/
abbrev c23_0 : AC := .seq (.ops 0 [⟨(some 19), .mv (.t 5), none⟩, ⟨(some 2), .as 0 0 (.k (.lf (.str ⟨#[]⟩))), none⟩, ⟨(some 3), .as 0 0 (.t 19), none⟩] [2, 3]) .ret
abbrev c23_1 : AC := .cond (.t 18) c23_0 .skip
abbrev c23_2 : AC := .seq (.ops 0 [⟨(some 17), .mv (.t 5), none⟩, ⟨(some 18), .bin .neq (.t 17) (.k (.lf (.int .i64 0))), none⟩] [0, 5, 18]) c23_1
abbrev c23_3 : AC := .seq (.ops 0 [⟨(some 13), .mv (.t 0), none⟩, ⟨(some 14), .call 35 [(.t 13)], none⟩, ⟨(some 12), .mv (.t 14), none⟩, ⟨(some 15), .ext (.t 12) 0, none⟩, ⟨(some 16), .ext (.t 12) 1, none⟩, ⟨(some 4), .as 0 0 (.t 15), none⟩, ⟨(some 5), .as 0 0 (.t 16), none⟩] [0, 5]) c23_2
abbrev c23_4 : AC := .cond (.t 31) .skip (.exit 0)
abbrev c23_5 : AC := .seq (.ops 0 [⟨(some 23), .mv (.t 7), none⟩, ⟨(some 24), .mv (.t 0), none⟩, ⟨(some 25), .len (.t 24), none⟩, ⟨(some 26), .bin .lss (.t 23) (.t 25), none⟩, ⟨(some 27), .mv (.t 26), none⟩, ⟨(some 28), .mv (.t 6), (some (27, true))⟩, ⟨(some 29), .len (.t 28), (some (27, true))⟩, ⟨(some 30), .bin .leq (.t 29) (.k (.lf (.int .i64 1048576))), (some (27, true))⟩, ⟨(some 31), .pk (.t 27) (.t 30) (.k (.lf (.bool false))), none⟩] [0, 6, 7, 31]) c23_4
abbrev c23_6 : AC := .cond (.t 56) (.ops 0 [⟨(some 57), .mv (.t 6), none⟩, ⟨(some 58), .fa (.t 8) 1, none⟩, ⟨(some 59), .ld (.t 58) 1 false, none⟩, ⟨(some 60), .call 39 [(.t 59)], none⟩, ⟨(some 61), .app 5 1 1 (.t 57) (.t 60), none⟩, ⟨(some 6), .as 5 1 (.t 61), none⟩] [0, 6, 7, 8, 9]) .skip
abbrev c23_7 : AC := .seq (.ops 0 [⟨(some 51), .mv (.t 9), none⟩, ⟨(some 52), .call 41 [(.t 51), (.k (.lf (.int .i64 1)))], none⟩, ⟨(some 53), .mv (.t 52), none⟩, ⟨(some 54), .mv (.t 9), (some (53, false))⟩, ⟨(some 55), .call 41 [(.t 54), (.k (.lf (.int .i64 2)))], (some (53, false))⟩, ⟨(some 56), .pk (.t 53) (.k (.lf (.bool true))) (.t 55), none⟩] [0, 6, 7, 8, 9, 56]) c23_6
abbrev c23_8 : AC := .cond (.t 63) (.ops 0 [⟨(some 64), .mv (.t 6), none⟩, ⟨(some 65), .fa (.t 8) 2, none⟩, ⟨(some 66), .ld (.t 65) 1 false, none⟩, ⟨(some 67), .cvi .u8 (.t 66), none⟩, ⟨(some 68), .bs 5 1 1 [.int .u8 0] [(0, (.t 67))], none⟩, ⟨(some 69), .app 5 1 1 (.t 64) (.t 68), none⟩, ⟨(some 6), .as 5 1 (.t 69), none⟩] [0, 6, 7, 8, 9]) .skip
abbrev c23_9 : AC := .seq (.ops 0 [⟨(some 62), .mv (.t 9), none⟩, ⟨(some 63), .call 41 [(.t 62), (.k (.lf (.int .i64 4)))], none⟩] [0, 6, 7, 8, 9, 63]) c23_8
abbrev c23_10 : AC := .seq (.ops 0 [⟨(some 72), .mv (.t 6), none⟩, ⟨(some 73), .fa (.t 8) 2, none⟩, ⟨(some 74), .ld (.t 73) 1 false, none⟩, ⟨(some 75), .cvi .u8 (.t 74), none⟩, ⟨(some 76), .fa (.t 8) 3, none⟩, ⟨(some 77), .ld (.t 76) 1 false, none⟩, ⟨(some 78), .cvi .u8 (.t 77), none⟩, ⟨(some 79), .fa (.t 8) 4, none⟩, ⟨(some 80), .ld (.t 79) 1 false, none⟩, ⟨(some 81), .lns (.t 80), none⟩, ⟨(some 82), .cvi .u8 (.t 81), none⟩, ⟨(some 83), .bs 5 1 3 [.int .u8 0] [(0, (.t 75)), (1, (.t 78)), (2, (.t 82))], none⟩, ⟨(some 84), .app 5 1 1 (.t 72) (.t 83), none⟩, ⟨(some 6), .as 5 1 (.t 84), none⟩] [0, 6, 7, 8, 9]) (.ops 0 [⟨(some 85), .mv (.t 6), none⟩, ⟨(some 86), .fa (.t 8) 4, none⟩, ⟨(some 87), .ld (.t 86) 1 false, none⟩, ⟨(some 88), .aps 5 (.t 85) (.t 87), none⟩, ⟨(some 6), .as 5 1 (.t 88), none⟩] [0, 6, 7, 8, 9])
abbrev c23_11 : AC := .cond (.t 71) c23_10 .skip
abbrev c23_12 : AC := .seq (.ops 0 [⟨(some 70), .mv (.t 9), none⟩, ⟨(some 71), .call 41 [(.t 70), (.k (.lf (.int .i64 8)))], none⟩] [0, 6, 7, 8, 9, 71]) c23_11
abbrev c23_13 : AC := .cond (.t 90) (.ops 0 [⟨(some 91), .mv (.t 6), none⟩, ⟨(some 92), .fa (.t 8) 5, none⟩, ⟨(some 93), .ld (.t 92) 4 true, none⟩, ⟨(some 94), .call 42 [(.t 93)], none⟩, ⟨(some 95), .app 5 1 1 (.t 91) (.t 94), none⟩, ⟨(some 6), .as 5 1 (.t 95), none⟩] [0, 6, 7]) .skip
abbrev c23_14 : AC := .seq (.ops 0 [⟨(some 89), .mv (.t 9), none⟩, ⟨(some 90), .call 41 [(.t 89), (.k (.lf (.int .i64 16)))], none⟩] [0, 6, 7, 8, 90]) c23_13
abbrev c23_15 : AC := .seq c23_12 c23_14
abbrev c23_16 : AC := .seq c23_9 c23_15
abbrev c23_17 : AC := .seq c23_7 c23_16
abbrev c23_18 : AC := .seq (.ops 0 [⟨(some 45), .mv (.t 6), none⟩, ⟨(some 46), .fa (.t 8) 0, none⟩, ⟨(some 47), .ld (.t 46) 1 false, none⟩, ⟨(some 48), .cvi .u8 (.t 47), none⟩, ⟨(some 49), .bs 5 1 1 [.int .u8 0] [(0, (.t 48))], none⟩, ⟨(some 50), .app 5 1 1 (.t 45) (.t 49), none⟩, ⟨(some 6), .as 5 1 (.t 50), none⟩] [0, 6, 7, 8, 9]) c23_17
abbrev c23_19 : AC := .seq (.ops 0 [⟨(some 39), .fa (.t 8) 0, none⟩, ⟨(some 40), .ld (.t 39) 1 false, none⟩, ⟨(some 41), .call 40 [(.t 40)], none⟩, ⟨(some 38), .mv (.t 41), none⟩, ⟨(some 42), .ext (.t 38) 0, none⟩, ⟨(some 43), .ext (.t 38) 1, none⟩, ⟨(some 44), .ext (.t 38) 2, none⟩, ⟨(some 9), .as 0 0 (.t 42), none⟩, ⟨(some 10), .as 0 0 (.t 43), none⟩, ⟨(some 11), .as 0 0 (.t 44), none⟩] [0, 6, 7, 8, 9]) c23_18
abbrev c23_20 : AC := .seq (.ops 0 [⟨(some 34), .mv (.t 0), none⟩, ⟨(some 35), .mv (.t 7), none⟩, ⟨(some 36), .ia (.t 34) (.t 35) 9, none⟩, ⟨(some 37), .ld (.t 36) 9 true, none⟩, ⟨(some 8), .al [.int .i64 0, .int .i64 0, .int .i64 0, .int .i64 0, .str ⟨#[]⟩, .int .u64 0, .int .u64 0, .int .u64 0, .int .u64 0], none⟩, ⟨none, .st (.t 8) (.t 37) 9, none⟩] [0, 6, 7, 8]) c23_19
abbrev c23_21 : AC := .block 1 c23_20
abbrev c23_22 : AC := .seq c23_21 (.ops 0 [⟨(some 32), .mv (.t 7), none⟩, ⟨(some 33), .bin .add (.t 32) (.k (.lf (.int .i64 1))), none⟩, ⟨(some 7), .as 0 0 (.t 33), none⟩] [0, 6, 7])
abbrev c23_23 : AC := .seq c23_5 c23_22
abbrev c23_24 : AC := .loop c23_23 [0, 6, 7]
abbrev c23_25 : AC := .block 0 c23_24
abbrev c23_26 : AC := .seq (.ops 0 [⟨(some 7), .as 0 0 (.k (.lf (.int .i64 0))), none⟩] [0, 6, 7]) c23_25
abbrev c23_27 : AC := .seq (.ops 0 [⟨(some 2), .as 0 0 (.k (.lf (.str ⟨#[]⟩))), none⟩, ⟨(some 3), .as 0 0 (.k (.lf (.int .i64 2))), none⟩] [2, 3]) .ret
abbrev c23_28 : AC := .cond (.t 98) c23_27 .skip
abbrev c23_29 : AC := .seq (.ops 0 [⟨(some 96), .mv (.t 6), none⟩, ⟨(some 97), .len (.t 96), none⟩, ⟨(some 98), .bin .gtr (.t 97) (.k (.lf (.int .i64 1048576))), none⟩] [6, 98]) c23_28
abbrev c23_30 : AC := .seq (.ops 0 [⟨(some 99), .mv (.t 6), none⟩, ⟨(some 100), .cbs (.t 99), none⟩, ⟨(some 2), .as 0 0 (.t 100), none⟩, ⟨(some 3), .as 0 0 (.k (.lf (.int .i64 0))), none⟩] [2, 3]) .ret
abbrev c23_31 : AC := .seq c23_29 c23_30
abbrev c23_32 : AC := .seq c23_26 c23_31
abbrev c23_33 : AC := .seq (.ops 0 [⟨(some 20), .mv (.t 0), none⟩, ⟨(some 21), .len (.t 20), none⟩, ⟨(some 22), .call 39 [(.t 21)], none⟩, ⟨(some 6), .as 5 1 (.t 22), none⟩] [0, 6]) c23_32
abbrev c23_34 : AC := .seq c23_3 c23_33
abbrev c23_35 : AC := .seq (.ops 0 [⟨(some 2), .as 0 0 (.k (.lf (.str ⟨#[]⟩))), none⟩, ⟨(some 3), .as 0 0 (.k (.lf (.int .i64 0))), none⟩] [0]) c23_34
abbrev c23 : AC := c23_35
theorem c23_ok : compileFn Tryd.prog 23 = some (101, AC.strip c23, [.t 2, .t 3]) := by kernel_rfl
/-- harrow/harrowref16.number -/
abbrev c39_0 : AC := .seq (.ops 0 [⟨(some 3), .mv (.t 0), none⟩, ⟨(some 4), .bin .shr (.t 3) (.k (.lf (.int .u64 8))), none⟩, ⟨(some 5), .cvi .u8 (.t 4), none⟩, ⟨(some 6), .mv (.t 0), none⟩, ⟨(some 7), .cvi .u8 (.t 6), none⟩, ⟨(some 8), .bs 5 1 2 [.int .u8 0] [(0, (.t 5)), (1, (.t 7))], none⟩, ⟨(some 2), .as 5 1 (.t 8), none⟩] [2]) .ret
abbrev c39_1 : AC := .seq (.ops 0 [⟨(some 2), .as 5 1 (.k (.lf (.lst .nl 1 [] []))), none⟩] [0]) c39_0
abbrev c39 : AC := c39_1
theorem c39_ok : compileFn Tryd.prog 39 = some (9, AC.strip c39, [.t 2]) := by kernel_rfl
/-- harrow/harrowref16.members -/
abbrev c42_0 : AC := .cond (.t 8) .skip (.exit 0)
abbrev c42_1 : AC := .seq (.ops 0 [⟨(some 7), .mv (.t 4), none⟩, ⟨(some 8), .bin .lss (.t 7) (.k (.lf (.int .i64 32))), none⟩] [1, 3, 4, 8]) c42_0
abbrev c42_2 : AC := .cond (.t 12) .skip (.exit 2)
abbrev c42_3 : AC := .seq (.ops 0 [⟨(some 11), .mv (.t 6), none⟩, ⟨(some 12), .bin .geq (.t 11) (.k (.lf (.int .i64 0))), none⟩] [1, 3, 4, 5, 6, 12]) c42_2
abbrev c42_4 : AC := .cond (.t 22) (.ops 0 [⟨(some 23), .mv (.t 5), none⟩, ⟨(some 24), .bin .add (.t 23) (.k (.lf (.int .i64 1))), none⟩, ⟨(some 5), .as 0 0 (.t 24), none⟩] [1, 3, 4, 5, 6]) .skip
abbrev c42_5 : AC := .seq (.ops 0 [⟨(some 17), .ld (.t 1) 4 true, none⟩, ⟨(some 18), .mv (.t 4), none⟩, ⟨(some 19), .bin .mul (.k (.lf (.int .i64 8))) (.t 18), none⟩, ⟨(some 20), .mv (.t 6), none⟩, ⟨(some 21), .bin .add (.t 19) (.t 20), none⟩, ⟨(some 22), .call 57 [(.t 17), (.t 21)], none⟩] [1, 3, 4, 5, 6, 22]) c42_4
abbrev c42_6 : AC := .seq (.ops 0 [⟨(some 15), .mv (.t 5), none⟩, ⟨(some 16), .bin .mul (.t 15) (.k (.lf (.int .i64 2))), none⟩, ⟨(some 5), .as 0 0 (.t 16), none⟩] [1, 3, 4, 5, 6]) c42_5
abbrev c42_7 : AC := .block 3 c42_6
abbrev c42_8 : AC := .seq c42_7 (.ops 0 [⟨(some 13), .mv (.t 6), none⟩, ⟨(some 14), .bin .sub (.t 13) (.k (.lf (.int .i64 1))), none⟩, ⟨(some 6), .as 0 0 (.t 14), none⟩] [1, 3, 4, 5, 6])
abbrev c42_9 : AC := .seq c42_3 c42_8
abbrev c42_10 : AC := .loop c42_9 [1, 3, 4, 5, 6]
abbrev c42_11 : AC := .block 2 c42_10
abbrev c42_12 : AC := .seq (.ops 0 [⟨(some 6), .as 0 0 (.k (.lf (.int .i64 7))), none⟩] [1, 3, 4, 5, 6]) c42_11
abbrev c42_13 : AC := .seq c42_12 (.ops 0 [⟨(some 25), .mv (.t 3), none⟩, ⟨(some 26), .mv (.t 5), none⟩, ⟨(some 27), .cvi .u8 (.t 26), none⟩, ⟨(some 28), .bs 5 1 1 [.int .u8 0] [(0, (.t 27))], none⟩, ⟨(some 29), .app 5 1 1 (.t 25) (.t 28), none⟩, ⟨(some 3), .as 5 1 (.t 29), none⟩] [1, 3, 4])
abbrev c42_14 : AC := .seq (.ops 0 [⟨(some 5), .as 0 0 (.k (.lf (.int .i64 0))), none⟩] [1, 3, 4, 5]) c42_13
abbrev c42_15 : AC := .block 1 c42_14
abbrev c42_16 : AC := .seq c42_15 (.ops 0 [⟨(some 9), .mv (.t 4), none⟩, ⟨(some 10), .bin .add (.t 9) (.k (.lf (.int .i64 1))), none⟩, ⟨(some 4), .as 0 0 (.t 10), none⟩] [1, 3, 4])
abbrev c42_17 : AC := .seq c42_1 c42_16
abbrev c42_18 : AC := .loop c42_17 [1, 3, 4]
abbrev c42_19 : AC := .block 0 c42_18
abbrev c42_20 : AC := .seq (.ops 0 [⟨(some 4), .as 0 0 (.k (.lf (.int .i64 0))), none⟩] [1, 3, 4]) c42_19
abbrev c42_21 : AC := .seq (.ops 0 [⟨(some 30), .mv (.t 3), none⟩, ⟨(some 2), .as 5 1 (.t 30), none⟩] [2]) .ret
abbrev c42_22 : AC := .seq c42_20 c42_21
abbrev c42_23 : AC := .seq (.ops 0 [⟨(some 3), .as 5 1 (.k (.lf (.lst .nl 1 [] []))), none⟩] [1, 3]) c42_22
abbrev c42_24 : AC := .seq (.ops 0 [⟨(some 1), .bx (.t 0), none⟩, ⟨(some 2), .as 5 1 (.k (.lf (.lst .nl 1 [] []))), none⟩] [1]) c42_23
abbrev c42 : AC := c42_24
theorem c42_ok : compileFn Tryd.prog 42 = some (31, AC.strip c42, [.t 2]) := by kernel_rfl
/-- harrow/harrowref01.Has -/
abbrev c57_0 : AC := .seq (.ops 0 [⟨(some 5), .mv (.t 1), none⟩, ⟨(some 6), .bin .geq (.t 5) (.k (.lf (.int .i64 0))), none⟩, ⟨(some 7), .mv (.t 6), none⟩, ⟨(some 8), .mv (.t 1), (some (7, true))⟩, ⟨(some 9), .bin .leq (.t 8) (.k (.lf (.int .i64 255))), (some (7, true))⟩, ⟨(some 10), .pk (.t 7) (.t 9) (.k (.lf (.bool false))), none⟩, ⟨(some 11), .mv (.t 10), none⟩, ⟨(some 12), .mv (.t 1), (some (11, true))⟩, ⟨(some 13), .bin .quo (.t 12) (.k (.lf (.int .i64 64))), (some (11, true))⟩, ⟨(some 14), .iaa (.t 2) (.t 13) 4 1, (some (11, true))⟩, ⟨(some 15), .ld (.t 14) 1 false, (some (11, true))⟩, ⟨(some 16), .mv (.t 1), (some (11, true))⟩, ⟨(some 17), .bin .rem (.t 16) (.k (.lf (.int .i64 64))), (some (11, true))⟩, ⟨(some 18), .bin .shr (.t 15) (.t 17), (some (11, true))⟩, ⟨(some 19), .bin .and (.t 18) (.k (.lf (.int .u64 1))), (some (11, true))⟩, ⟨(some 20), .bin .eql (.t 19) (.k (.lf (.int .u64 1))), (some (11, true))⟩, ⟨(some 21), .pk (.t 11) (.t 20) (.k (.lf (.bool false))), none⟩, ⟨(some 4), .as 0 0 (.t 21), none⟩] [4]) .ret
abbrev c57_1 : AC := .seq (.ops 0 [⟨(some 2), .bx (.t 0), none⟩, ⟨(some 4), .as 0 0 (.k (.lf (.bool false))), none⟩] [1, 2]) c57_0
abbrev c57 : AC := c57_1
theorem c57_ok : compileFn Tryd.prog 57 = some (22, AC.strip c57, [.t 4]) := by kernel_rfl
end Go.Proofs.YthcpaohmajjopaaDoor.I
set_option linter.unusedVariables false
set_option linter.unusedSimpArgs false
namespace Go.Proofs.YthcpaohmajjopaaDoor.I
open Go Go.Proofs.YthcpaohmajjopaaDoor.AM
variable {X : Cx}
def byI (z : Int) : UInt8 := UInt8.ofNat (z % 256).toNat
theorem byI_nat (z : Int) : ((byI z).toNat : Int) = z % 256 := by
  unfold byI
  rw [UInt8.toNat_ofNat']
  omega
theorem wrap_u8 (z : Int) : IntKind.u8.wrap z = ((byI z).toNat : Int) := by
  rw [byI_nat]
  simp [IntKind.wrap, IntKind.bits, IntKind.signed]
/-- a number's two bytes -/
def numB (n : Int) : List UInt8 := [byI (n / 256), byI n]
theorem r39 (n : Int) : R X Tryd.prog 39 [.lf (.int .i64 n)] [] (.lf (.lst (.own 0 5) 1 (ub (numB n)) [])) [] := by
  refine R_i [(0, 256)] [] c39_ok rfl (by simp) ?_
  simp -implicitDefEqProofs (maxSteps := 2000000) only [c39, wrap_u8, ↓reduceIte, s_ret, s_ops0, s_seq, s_opsK, s_seqK_n, s_nil, s_cons, s_wopsK, s_putK, o_mv, o_as, o_bin, v_shr, o_cvi, v_cvi, o_bs, v_bsK, v_lit_n, v_lit_c, e_t, e_k, e_put, e_get, e_res, e_keep_n, e_keep_c, e_keep1_s, St.init, enum, List.length_nil, List.length_cons, Option.getD_some, Nat.reduceEqDiff, Nat.reduceAdd, reduceCtorEq, true_and, and_true, Bool.false_eq_true, s_ret_r, s_retX, s_cells_n, t_lf, t_l, t_oo, r_n, r_t, r_cons, one_1, List.map_cons, List.map_nil, List.append_nil, List.cons_append, List.nil_append, List.all_cons, List.all_nil, Bool.and_true, Bool.true_and, Bool.and_self, PV.cells, datL, Nat.reduceMul, Nat.reduceBEq, Nat.reduceLeDiff, BEq.rfl, kp_i, rk_i, rl_i, rk_lo, m_lf, m_n, m_c, m_all, e_asg_n, e_asg_o, dw_n, dw_i, plT, lit_n, lit_c, List.reduceReplicate, List.set_cons_zero, List.set_cons_succ, Nat.reduceLT, Nat.lt_add_one, Nat.zero_add, Nat.add_zero, true_or, or_true]
  refine ⟨by omega, ?_⟩
  have e : n.fdiv (2 ^ min (Int.toNat 8) IntKind.i64.bits) = n / 256 := by
    rw [show IntKind.i64.bits = 64 from rfl]
    exact Int.fdiv_eq_ediv_of_nonneg _ (by decide)
  rw [e]
  rfl
/-- a set's words -/
def wd (s0 s1 s2 s3 : Nat) (q : Nat) : Nat := if q = 0 then s0 else if q = 1 then s1 else if q = 2 then s2 else s3
def hasN (s0 s1 s2 s3 : Nat) (k : Nat) : Bool := decide (wd s0 s1 s2 s3 (k / 64) / 2 ^ (k % 64) % 2 = 1)
theorem and_one {x : Nat} (hx : x < 2 ^ 64) : bits .and .u64 (x : Int) 1 = ((x % 2 : Nat) : Int) := by
  have h1 : (BitVec.ofInt 64 (x : Int)).toNat = x := by simp [BitVec.toNat_ofInt]; omega
  have h2 : (BitVec.ofInt 64 (1 : Int)).toNat = 1 := rfl
  unfold bits
  simp only [BitVec.toNat_and]
  show IntKind.u64.wrap (((BitVec.ofInt 64 (x : Int)).toNat &&& (BitVec.ofInt 64 (1 : Int)).toNat : Nat) : Int) = _
  rw [h1, h2, Nat.and_one_is_mod]
  exact wrap_u64 (by omega)
theorem has_one {s k : Nat} (hs : s < 2 ^ 64) : bits .and .u64 ((s : Int).fdiv (2 ^ min ((k : Int).tmod 64).toNat IntKind.u64.bits)) 1 = ((s / 2 ^ (k % 64) % 2 : Nat) : Int) := by
  rw [Int.tmod_eq_emod_of_nonneg (show (0 : Int) ≤ (k : Int) by omega), show ((k : Int) % 64).toNat = k % 64 by omega, show IntKind.u64.bits = 64 from rfl, show min (k % 64) 64 = k % 64 by omega, show (2 : Int) ^ (k % 64) = ((2 ^ (k % 64) : Nat) : Int) by rw [Int.natCast_pow]; rfl, Int.fdiv_eq_ediv_of_nonneg _ (Int.natCast_nonneg _), ← Int.natCast_ediv]
  exact and_one (Nat.lt_of_le_of_lt (Nat.div_le_self _ _) hs)
theorem r57 (s0 s1 s2 s3 : Nat) (h0 : s0 < 2 ^ 64) (h1 : s1 < 2 ^ 64) (h2 : s2 < 2 ^ 64) (h3 : s3 < 2 ^ 64) (k : Nat) (hk : k < 256) : R X Tryd.prog 57 [.ag [.int .u64 s0, .int .u64 s1, .int .u64 s2, .int .u64 s3], .lf (.int .i64 k)] [] (.lf (.bool (hasN s0 s1 s2 s3 k))) [] := by
  have hq : ∃ q : Nat, q < 4 ∧ IntKind.i64.wrap ((k : Int).tdiv 64) = (q : Int) ∧ k / 64 = q := ⟨k / 64, by omega, by rw [w64] <;> simp [Int.tdiv_eq_ediv] <;> omega, rfl⟩
  obtain ⟨q, hq4, e1, e2⟩ := hq
  have hm : 0 ≤ (k : Int).tmod 64 := Int.tmod_nonneg _ (by omega)
  have g0 : (0 : Int) ≤ k := by omega
  have g1 : (k : Int) ≤ 255 := by omega
  have b0 := has_one (k := k) h0
  have b1 := has_one (k := k) h1
  have b2 := has_one (k := k) h2
  have b3 := has_one (k := k) h3
  have fin : ∀ s : Nat, decide (((s / 2 ^ (k % 64) % 2 : Nat) : Int) = 1) = decide (s / 2 ^ (k % 64) % 2 = 1) := fun s => decide_eq_decide.2 (by omega)
  refine R_i [] [] c57_ok rfl (by simp) ?_
  unfold hasN wd
  rcases (show q = 0 ∨ q = 1 ∨ q = 2 ∨ q = 3 by omega) with rfl | rfl | rfl | rfl
  all_goals (simp only [e2]; simp -implicitDefEqProofs (maxSteps := 2000000) only [c57, g0, g1, e1, b0, b1, b2, b3, fin, Int.toNat_natCast, Nat.reduceMul, Nat.mul_one, List.getElem?_cons_zero, List.getElem?_cons_succ, ↓reduceIte, s_ret, s_ops0, s_seq, s_opsK, s_seqK_n, s_nil, s_cons, s_guard, s_wopsK, s_putK, s_grd, q_mv, q_bin, q_iaa, q_ld, o_mv, o_as, o_pk, v_pk, o_bin, v_quo, v_rem, v_and, v_shr, v_eql, v_leq, v_geq, v_part_f, v_atK, o_bx, o_iaa, v_iaa_p, o_ld, v_ld_p, v_ldC, e_t, e_k, e_put, e_get, e_res, e_keep_n, e_keep_c, e_keep1_s, e_asg_b, St.init, enum, List.length_nil, Option.getD_some, Nat.reduceEqDiff, reduceCtorEq, true_and, and_true, cond_false, decide_eq_true_eq, s_ret_r, s_retX, s_cells_n, t_lf, t_b, r_n, r_t, r_cons, one_1, List.map_cons, List.map_nil, Bool.and_true, Bool.true_and, Nat.zero_le, List.getElem?_cons_zero, List.getElem?_cons_succ, kc_i, m_lf, m_ag, m_n, m_c, m_all, d_n, ne_eq, Nat.zero_add, Nat.add_zero, v_bx_a])
  all_goals exact ⟨by decide, ⟨by decide, by decide⟩, by decide, hm⟩
end Go.Proofs.YthcpaohmajjopaaDoor.I
set_option linter.unusedVariables false
set_option linter.unusedSimpArgs false
namespace Go.Proofs.YthcpaohmajjopaaDoor.I
open Go Go.Proofs.YthcpaohmajjopaaDoor.AM
variable {X : Cx}
/-- a set's bytes, from the k-th on -/
def memB (s0 s1 s2 s3 : Nat) : Nat → List UInt8
  | 0 => []
  | m + 1 => memB s0 s1 s2 s3 m ++ [byI ((wd s0 s1 s2 s3 (m / 8) / 2 ^ (8 * (m % 8)) % 256 : Nat) : Int)]
theorem memB_len (s0 s1 s2 s3 : Nat) : ∀ m, (memB s0 s1 s2 s3 m).length = m
  | 0 => rfl
  | m + 1 => by rw [memB, List.length_append, memB_len]; rfl
theorem r42 (s0 s1 s2 s3 : Nat) (h0 : s0 < 2 ^ 64) (h1 : s1 < 2 ^ 64) (h2 : s2 < 2 ^ 64) (h3 : s3 < 2 ^ 64) : R X Tryd.prog 42 [.ag [.int .u64 s0, .int .u64 s1, .int .u64 s2, .int .u64 s3]] [] (.lf (.lst (.own 0 5) 1 (ub (memB s0 s1 s2 s3 32)) [])) [] := by
  generalize hr : ub (memB s0 s1 s2 s3 32) = r
  refine R_i [(0, 256)] [] c42_ok rfl (by simp) ?_
  have h57 := fun k hk => r57 (X := X) s0 s1 s2 s3 h0 h1 h2 h3 k hk
  have key : ∀ (j m : Nat) (xs : List (List L)), m + j = 32 → xs = ub (memB s0 s1 s2 s3 m) → LoopAt X Tryd.prog c42_17 [1, 3, 4]
      (blkK 0 (seqK X Tryd.prog c42_21 (retS [(0, 256)] [] 0 [RV.t 2] (PV.lf (L.lst (Tag.own 0 5) 1 r [])) [])))
      { m := 0, tm := [(1, PV.lf (L.ptr 1 0)), (3, PV.lf (L.lst (Tag.own 384 5) 1 xs [])), (4, PV.lf (L.int IntKind.i64 m))], ce := [(1, [L.int IntKind.u64 ↑s0, L.int IntKind.u64 ↑s1, L.int IntKind.u64 ↑s2, L.int IntKind.u64 ↑s3])] } := by
    intro j
    induction j with
    | zero =>
      intro m xs hm hxs
      obtain rfl : m = 32 := by omega
      intro Z hZ; apply hZ
      have hn : ¬ ((32 : Nat) : Int) < 32 := by omega
      simp -implicitDefEqProofs (maxSteps := 2000000) only [c42, hn, ↓reduceIte, s_exit, s_ret, s_ops0, s_seq, s_cond, s_opsK, s_seqK_n, s_seqK_e, s_blkK_e, s_loopK_e, s_cnd, s_nil, s_cons, s_wopsK, s_putK, o_mv, o_as, o_bin, v_lss, e_t, e_k, e_put, e_get, e_res, e_keep_n, e_keep_c, e_keep1_s, Option.getD_some, Nat.reduceEqDiff, true_and, and_true, Bool.false_eq_true, decide_eq_true_eq, s_ret_r, s_retX, s_cells_n, t_lf, t_l, t_oo, r_n, r_t, r_cons, one_1, List.map_cons, List.map_nil, Bool.and_true, Bool.true_and, Nat.reduceMul, Nat.reduceBEq, BEq.rfl, rk_b, rk_i, rk_p, rk_lo, m_lf, m_n, m_c, m_all, e_asg_o, plT, Nat.add_zero, true_or, or_true]
      rw [hxs, hr]
      first | done | trivial
    | succ j ih =>
      intro m xs hm hxs
      intro Z hZ; apply hZ
      have hn : ((m : Nat) : Int) < 32 := by omega
      have hw1 : IntKind.i64.wrap ((m : Int) + 1) = ((m + 1 : Nat) : Int) := by rw [w64 (by omega) (by omega)]; omega
      generalize hWd : wd s0 s1 s2 s3 (m / 8) = w
      have inn : ∀ (Q : Out → St → Prop) (d n : Nat), d ≤ 8 → n = w / 2 ^ (8 * (m % 8) + d) % 2 ^ (8 - d) →
          Q .nrm { m := 0, tm := [(1, PV.lf (L.ptr 1 0)), (3, PV.lf (L.lst (Tag.own 384 5) 1 xs [])), (4, PV.lf (L.int IntKind.i64 m)), (5, PV.lf (L.int IntKind.i64 ((w / 2 ^ (8 * (m % 8)) % 256 : Nat) : Int))), (6, PV.lf (L.int IntKind.i64 (-1))), (12, PV.lf (L.bool false))], ce := [(1, [L.int IntKind.u64 ↑s0, L.int IntKind.u64 ↑s1, L.int IntKind.u64 ↑s2, L.int IntKind.u64 ↑s3])] } →
          LoopAt X Tryd.prog c42_9 [1, 3, 4, 5, 6] (blkK 2 Q)
            { m := 0, tm := [(1, PV.lf (L.ptr 1 0)), (3, PV.lf (L.lst (Tag.own 384 5) 1 xs [])), (4, PV.lf (L.int IntKind.i64 m)), (5, PV.lf (L.int IntKind.i64 n)), (6, PV.lf (L.int IntKind.i64 ((d : Int) - 1)))], ce := [(1, [L.int IntKind.u64 ↑s0, L.int IntKind.u64 ↑s1, L.int IntKind.u64 ↑s2, L.int IntKind.u64 ↑s3])] } := by
        intro Q d
        induction d with
        | zero =>
          intro n _ hn hQ
          intro Z2 hZ2; apply hZ2
          have hd : ¬ (0 : Int) ≤ ((0 : Nat) : Int) - 1 := by omega
          have hd2 : ((0 : Nat) : Int) - 1 = -1 := by omega
          have hd3 : ¬ (0 : Int) ≤ -1 := by omega
          rw [hd2]
          subst hn
          simp -implicitDefEqProofs (maxSteps := 2000000) only [c42, hd3, decide_false, ↓reduceIte, s_exit, s_ops0, s_seq, s_cond, s_opsK, s_seqK_n, s_seqK_e, s_blkK_e, s_loopK_e, s_cnd, s_nil, s_cons, s_wopsK, s_putK, o_mv, o_bin, v_geq, e_t, e_k, e_put, e_get, e_res, e_keep_n, e_keep_c, e_keep1_s, Option.getD_some, Nat.reduceEqDiff, Bool.false_eq_true, Nat.reduceSub, Int.reduceNeg, Nat.add_zero]
          exact hQ
        | succ d ihd =>
          intro n hd8 hnn hQ
          intro Z2 hZ2; apply hZ2
          have hd2 : ((d + 1 : Nat) : Int) - 1 = (d : Int) := by omega
          have hd3 : (0 : Int) ≤ (d : Int) := by omega
          have hnb : n < 256 := by rw [hnn]; exact Nat.lt_of_lt_of_le (Nat.mod_lt _ (Nat.two_pow_pos _)) (show 2 ^ (8 - (d + 1)) ≤ 2 ^ 8 from Nat.pow_le_pow_right (by omega) (by omega))
          have v1 : IntKind.i64.wrap ((n : Int) * 2) = ((2 * n : Nat) : Int) := by rw [w64 (by omega) (by omega)]; omega
          have v2 : IntKind.i64.wrap (8 * (m : Int)) = ((8 * m : Nat) : Int) := by rw [w64 (by omega) (by omega)]; omega
          have v3 : IntKind.i64.wrap (((8 * m : Nat) : Int) + d) = ((8 * m + d : Nat) : Int) := by rw [w64 (by omega) (by omega)]; omega
          have v4 : IntKind.i64.wrap (((2 * n : Nat) : Int) + 1) = ((2 * n + 1 : Nat) : Int) := by rw [w64 (by omega) (by omega)]; omega
          have v5 : IntKind.i64.wrap ((d : Int) - 1) = (d : Int) - 1 := w64 (by omega) (by omega)
          have hbit : hasN s0 s1 s2 s3 (8 * m + d) = decide (w / 2 ^ (8 * (m % 8) + d) % 2 = 1) := by
            unfold hasN
            rw [show (8 * m + d) / 64 = m / 8 by omega, show (8 * m + d) % 64 = 8 * (m % 8) + d by omega, hWd]
          have hstep : w / 2 ^ (8 * (m % 8) + d) % 2 ^ (8 - d) = w / 2 ^ (8 * (m % 8) + d) % 2 + 2 * n := by
            rw [hnn, show 8 - d = (8 - (d + 1)) + 1 by omega, Nat.pow_succ, Nat.mul_comm (2 ^ (8 - (d + 1))) 2, Nat.mod_mul, Nat.div_div_eq_div_mul, ← Nat.pow_succ]
            rfl
          rw [hd2]
          simp -implicitDefEqProofs (maxSteps := 2000000) only [c42, hd3, decide_true, v1, v2, v3, ↓reduceIte, s_skip, s_ops0, s_seq, s_cond, s_block, s_opsK, s_seqK_n, s_cnd, s_nil, s_cons, s_wopsK, s_putK, o_mv, o_as, o_bin, v_add, v_mul, v_geq, v_part_t, o_ld, v_ld_p, v_ldC, o_call, e_t, e_k, e_put, e_get, e_res, e_keep_n, e_keep_c, e_keep1_s, e_asg_i, List.length_nil, List.length_cons, Option.getD_some, Nat.reduceEqDiff, Nat.reduceAdd, true_and, List.map_cons, List.map_nil, PV.leaves, List.flatMap_cons, List.flatMap_nil, List.append_nil, List.cons_append, List.nil_append, Bool.true_and, Nat.le_refl, List.drop_zero, List.take_succ_cons, List.take_nil, rl_i, m_lf, m_ag, Nat.zero_add]
          refine wcall_s (h57 (8 * m + d) (by omega)) rfl rfl ?_
          rw [hbit]
          simp -implicitDefEqProofs (maxSteps := 2000000) only [c42, v4, v5, ↓reduceIte, s_skip, s_ops0, s_cond, s_opsK, s_seqK_n, s_blkK_n, s_loopK_n, s_cnd, s_nil, s_cons, s_wopsK, s_putK, o_mv, o_as, o_bin, v_add, v_sub, e_t, e_k, e_put, e_get, e_res, e_keep_n, e_keep_c, e_keep1_s, e_asg_i, Option.getD_some, Nat.reduceEqDiff, Bool.false_eq_true, decide_eq_true_eq, St.clr, outV, ownsV, owns1, ownL, List.nil_append, ol_b, m_lf, e_head, e_headK, kC_n, kC_c, pO_n, pO_p, pO_i, pO_l, List.range_zero]
          with_reducible refine ite_pr (fun hb => ?_) (fun hb => ?_)
          · exact ihd (2 * n + 1) (by omega) (by rw [hstep, hb]; omega) hQ Z2 hZ2
          · exact ihd (2 * n) (by omega) (by rw [hstep]; omega) hQ Z2 hZ2
      simp -implicitDefEqProofs (maxSteps := 2000000) only [c42, hn, ↓reduceIte, s_skip, s_ops0, s_seq, s_cond, s_block, s_loop, s_opsK, s_seqK_n, s_cnd, s_nil, s_cons, s_wopsK, s_putK, o_mv, o_as, o_bin, v_lss, e_t, e_k, e_put, e_get, e_res, e_keep_n, e_keep_c, e_keep1_s, e_asg_i, Option.getD_some, Nat.reduceEqDiff, decide_eq_true_eq, List.nil_append, e_head, e_headK, kC_n, kC_c, pO_n, pO_p, pO_i, pO_l, List.range_zero]
      refine inn _ 8 0 (Nat.le_refl _) (by simp [Nat.mod_one]) ?_
      simp -implicitDefEqProofs (maxSteps := 2000000) only [c42, hw1, wrap_u8, ↓reduceIte, s_ops0, s_opsK, s_seqK_n, s_blkK_n, s_loopK_n, s_nil, s_cons, s_wopsK, s_putK, o_mv, o_as, o_bin, v_add, o_cvi, v_cvi, o_bs, v_bsK, v_lit_n, v_lit_c, o_app, v_app_o, e_t, e_k, e_put, e_get, e_res, e_keep_n, e_keep_c, e_keep1_s, e_asg_i, List.length_nil, List.length_cons, Option.getD_some, Nat.reduceEqDiff, reduceCtorEq, true_and, Bool.false_eq_true, List.map_cons, List.map_nil, Bool.or_false, List.append_nil, List.nil_append, List.all_cons, List.all_nil, Bool.true_and, Bool.and_self, PV.cells, datL, Nat.reduceMul, Nat.reduceBEq, Nat.reduceLeDiff, BEq.rfl, kp_b, kp_i, kp_u, rk_b, rk_i, rk_u, rl_i, kp_p, rk_p, kp_lo, rk_lo, m_lf, m_n, m_c, m_all, e_asg_o, e_head, e_headK, kC_n, kC_c, pO_n, pO_p, pO_i, pO_l, dw_n, dw_i, List.range_zero, plT, Int.reduceNeg, lit_n, lit_c, List.reduceReplicate, List.set_cons_zero, Nat.lt_add_one, Nat.zero_add, Nat.add_zero, or_false]
      have hxl : xs.length = m := by rw [hxs, ub_len, memB_len]
      refine ⟨by omega, ?_⟩
      exact ih (m + 1) _ (by omega) (by rw [hxs, ub_snoc, memB, hWd]) Z hZ
  simp -implicitDefEqProofs (maxSteps := 2000000) only [c42, ↓reduceIte, s_ops0, s_seq, s_block, s_loop, s_opsK, s_seqK_n, s_nil, s_cons, s_wopsK, o_as, o_bx, e_t, e_k, e_put, e_get, e_res, e_keep_n, e_keep_c, e_keep1_s, e_asg_i, St.init, enum, List.length_nil, Option.getD_some, Nat.reduceEqDiff, true_and, List.map_cons, List.map_nil, List.nil_append, Bool.true_and, Nat.reduceMul, Nat.zero_le, kp_i, kc_i, kp_p, m_lf, m_ag, m_n, m_c, m_all, e_asg_n, e_head, e_headK, kC_n, kC_c, pO_n, pO_p, pO_i, pO_l, d_n, List.range_zero, plT, Nat.add_zero, v_bx_a]
  exact key 32 0 [] rfl rfl
end Go.Proofs.YthcpaohmajjopaaDoor.I
set_option linter.unusedVariables false
set_option linter.unusedSimpArgs false
namespace Go.Proofs.YthcpaohmajjopaaDoor.I
open Go Go.Proofs.YthcpaohmajjopaaDoor.AM
variable {X : Cx}
/-- what the check leaves of an instruction -/
structure FitI (x : Ins) : Prop where
  op : 1 ≤ x.op ∧ x.op ≤ 20
  pl : x = x.plain x.op.toNat
  a : hasB x.op.toNat 1 = true → -32768 ≤ x.a ∧ x.a ≤ 32767
  b : hasB x.op.toNat 2 = true → 0 ≤ x.b ∧ x.b ≤ 255
  n : hasB x.op.toNat 4 = true → 0 ≤ x.n ∧ x.n ≤ 255
  t : x.t.size ≤ 255
theorem fit_tab : ∀ k : Fin 21, (hasB k.val 1 = true → hasB k.val 32 = true ∨ k.val = 20) ∧ (hasB k.val 2 = true → k.val = 2 ∨ k.val = 5 ∨ k.val = 18 ∨ k.val = 20) ∧ (hasB k.val 4 = true → k.val = 18 ∨ k.val = 20) ∧ (hasB k.val 8 = true → k.val = 18 ∨ k.val = 20) := by decide +kernel
theorem cap_fit {b n : Int} {t : ByteArray} (h : capB b n t = true) : 0 ≤ n ∧ n ≤ 50 ∧ t.size ≤ 255 := by
  unfold capB at h
  split at h
  · simp only [Bool.and_eq_true, decide_eq_true_eq] at h
    rw [h.1, h.2]
    exact ⟨by omega, by omega, by decide⟩
  · unfold fldB at h
    simp only [Bool.and_eq_true, decide_eq_true_eq] at h
    refine ⟨h.1.1, h.1.2.1, ?_⟩
    have h2 := h.2
    split at h2
    · simp only [Bool.or_eq_true, decide_eq_true_eq] at h2
      rcases h2 with h2 | h2
      · rw [h2]; decide
      · have := h2.2.1; omega
    · split at h2
      · unfold tempB at h2
        simp only [Bool.and_eq_true, decide_eq_true_eq] at h2
        exact h2.1
      · simp only [decide_eq_true_eq] at h2
        rw [h2]; decide
theorem fit_of {len i : Nat} {x : Ins} (hlen : len ≤ 8192) (hi : i < len) (h : errAt capX len i x = 0) : FitI x := by
  unfold errAt at h
  split at h
  · cases h
  rename_i h1
  have hop : 1 ≤ x.op ∧ x.op ≤ 20 := by omega
  split at h
  · cases h
  rename_i h2
  split at h
  · cases h
  rename_i h3
  have hf : fitB (capX x) x.op.toNat x = true := by simpa using h2
  unfold fitB at hf
  simp only [Bool.and_eq_true] at hf
  have hpl := Ins.same_eq.1 hf.1
  have harg := hf.2
  obtain ⟨t1, t2, t3, t4⟩ := fit_tab ⟨x.op.toNat, by omega⟩
  simp only at t1 t2 t3 t4
  have hcap : x.op.toNat = 18 ∨ x.op.toNat = 20 → capB x.b x.n x.t = true ∧ 1 ≤ x.b ∧ x.b ≤ 7 ∧ (x.op.toNat = 20 → 0 ≤ x.a ∧ x.a ≤ 255) := by
    intro hk
    unfold argB at harg
    rcases hk with hk | hk <;> rw [hk] at harg ⊢
    · simp at harg
      exact ⟨harg.2, by omega, by omega, by omega⟩
    · simp at harg
      exact ⟨harg.2, by omega, by omega, by omega⟩
  refine ⟨hop, hpl, fun ha => ?_, fun hb => ?_, fun hn => ?_, ?_⟩
  · rcases t1 ha with h32 | h20
    · have : ¬ (x.a < -(i : Int) ∨ (len : Int) - i ≤ x.a) := fun h => h3 ⟨h32, h⟩
      omega
    · have := (hcap (.inr h20)).2.2.2 h20
      omega
  · rcases t2 hb with hk | hk | hk | hk
    · unfold argB at harg; rw [hk] at harg; simp at harg; exact harg
    · unfold argB at harg; rw [hk] at harg; simp at harg; exact harg
    · have := hcap (.inl hk); omega
    · have := hcap (.inr hk); omega
  · have := cap_fit (hcap (t3 hn)).1
    omega
  · by_cases h8 : hasB x.op.toNat 8 = true
    · exact (cap_fit (hcap (t4 h8)).1).2.2
    · rw [hpl]; simp only [Ins.plain, if_neg h8]; decide
theorem fit_all {code : List Ins} (h : (chk capX code).2 = 0) : ∀ x ∈ code, FitI x := by
  have hc := chk_ok h
  intro x hx
  obtain ⟨i, hi⟩ := List.getElem?_of_mem hx
  have hil := (List.getElem?_eq_some_iff.1 hi).1
  unfold chk at h
  split at h
  · cases h
  split at h
  · cases h
  cases hg : chkGo capX code.length 0 code with
  | some p =>
    rw [hg] at h
    exact absurd h (chkGo_ne _ _ _ _ _ hg)
  | none =>
    have := chkGo_ok _ _ _ _ hg i x hi
    rw [Nat.zero_add] at this
    exact fit_of hc.len hil this
end Go.Proofs.YthcpaohmajjopaaDoor.I
set_option linter.unusedVariables false
set_option linter.unusedSimpArgs false
namespace Go.Proofs.YthcpaohmajjopaaDoor.I
open Go Go.Proofs.YthcpaohmajjopaaDoor.AM
variable {X : Cx}
theorem flat_ub (l : List UInt8) : Flat (.lf (.lst (.own 0 5) 1 (ub l) [])) := by
  refine ⟨fun x hx c hc => ?_, rfl⟩
  obtain ⟨y, _, rfl⟩ := List.mem_map.1 hx
  simp at hc; subst hc; rfl
def insBF (f1 f2 f4 f8 f16 : Bool) (x : Ins) : List UInt8 :=
  [byI x.op] ++ (if f1 || f2 then numB x.a else []) ++ (if f4 then [byI x.b] else []) ++ (if f8 then [byI x.b, byI x.n, byI x.t.size] ++ x.t.data.toList else []) ++ (if f16 then memB x.s0.toNat x.s1.toNat x.s2.toNat x.s3.toNat 32 else [])
/-- an instruction's bytes -/
def insB (x : Ins) : List UInt8 := insBF (refB (refF x.op.toNat) 1) (refB (refF x.op.toNat) 2) (refB (refF x.op.toNat) 4) (refB (refF x.op.toNat) 8) (refB (refF x.op.toNat) 16) x
def goB : List Ins → List UInt8 → List UInt8
  | [], acc => acc
  | x :: q, acc => if acc.length ≤ 1048576 then goB q (acc ++ insB x) else acc
/-- the reference's Bytes -/
def bytesA (code : List Ins) : ByteArray × Int := if ¬ (chk capX code).2 = 0 then (⟨#[]⟩, (chk capX code).2) else
  if 1048576 < (goB code (numB code.length)).length then (⟨#[]⟩, 2) else (⟨(goB code (numB code.length)).toArray⟩, 0)
theorem insB_len {x : Ins} (h : FitI x) : (insB x).length ≤ 400 := by
  have := h.t
  unfold insB insBF
  simp only [List.length_append, List.length_cons, List.length_nil]
  have e1 : x.t.data.toList.length = x.t.size := size_len _
  split <;> split <;> split <;> split <;> simp only [List.length_append, List.length_cons, List.length_nil, numB, memB_len] <;> omega
set_option maxHeartbeats 4000000 in
theorem r23 (code : List Ins) (hok : ∀ x ∈ code, x.ok) (sp : List (List L)) (r : ByteArray × Int) (hr : bytesA code = r) :
    R X Tryd.prog 23 [.lf (.lst .ro 9 (code.map Ins.c) sp)] [] (.tp [.lf (.str r.1), .lf (.int .i64 r.2)]) [] := by
  have h35 := r35 (X := X) code sp
  have hl : (code.map Ins.c).length = code.length := List.length_map _
  unfold bytesA at hr
  by_cases h : (chk capX code).2 = 0
  · rw [if_neg (by omega)] at hr
    have hfit := fit_all h
    have hlen := (chk_ok h).len
    generalize hG : goB code (numB code.length) = G at hr
    have key : ∀ (q : List Ins) (i : Nat) (acc : List UInt8) (xs : List (List L)), code.drop i = q → xs = ub acc → acc.length ≤ 1100000 → goB q acc = G → LoopAt X Tryd.prog c23_23 [0, 6, 7]
        (blkK 0 (seqK X Tryd.prog c23_31 (retS [] [] 0 [RV.t 2, RV.t 3] (PV.tp [PV.lf (L.str r.fst), PV.lf (L.int IntKind.i64 r.snd)]) [])))
        { m := 0, tm := [(0, PV.lf (L.lst Tag.ro 9 (List.map Ins.c code) sp)), (6, PV.lf (L.lst (Tag.own 768 5) 1 xs [])), (7, PV.lf (L.int IntKind.i64 i))], ce := [] } := by
      intro q
      have fin : ∀ (acc : List UInt8) (xs : List (List L)), xs = ub acc → acc = G → xs.length = acc.length ∧ (1048576 < acc.length → r = (⟨#[]⟩, 2)) ∧ (¬ 1048576 < acc.length → r = (⟨acc.toArray⟩, 0)) := by
        intro acc xs hxs hG'
        subst hG'
        refine ⟨by rw [hxs, ub_len], fun h => ?_, fun h => ?_⟩
        · rw [if_pos h] at hr; exact hr.symm
        · rw [if_neg h] at hr; exact hr.symm
      induction q with
      | nil =>
        intro i acc xs hq hxs ha hg
        obtain ⟨f1, f2, f3⟩ := fin acc xs hxs (by simpa [goB] using hg)
        have hi : code.length ≤ i := by simpa using hq
        have hn : ¬ (i : Int) < (code.length : Int) := by omega
        intro Z hZ; apply hZ
        simp -implicitDefEqProofs (maxSteps := 2000000) only [c23, hl, hn, f1, decide_false, ↓reduceIte, s_skip, s_exit, s_ret, s_ops0, s_seq, s_cond, s_opsK, s_seqK_n, s_seqK_e, s_seqK_r, s_blkK_e, s_loopK_e, s_cnd, s_nil, s_cons, s_guard, s_wopsK, s_putK, s_grd, o_mv, o_as, o_pk, v_pk, o_bin, v_lss, v_gtr, o_cbs, o_len, v_len, e_t, e_k, e_put, e_get, e_res, e_keep_n, e_keep_c, e_keep1_s, e_asg_i, e_asg_s, Option.getD_some, Nat.reduceEqDiff, reduceCtorEq, true_and, and_true, Bool.not_true, Bool.false_eq_true, decide_eq_true_eq, s_ret_r, s_retX, s_cells_n, t_tp, t_n, t_c, t_1l, t_i, t_s, r_n, r_t, r_cons, one_2, Bool.and_true, Bool.true_and]
        intro _ _
        with_reducible refine ite_pr (fun h1 => ?_) (fun h1 => ?_)
        · rw [f2 (by omega)]; exact ⟨rfl, rfl⟩
        · rw [f3 (by omega), hxs, v_cbs_ub]
          simp -implicitDefEqProofs (maxSteps := 2000000) only [c23, ↓reduceIte, s_ret, s_opsK, s_seqK_n, s_nil, s_cons, s_wopsK, s_putK, o_as, e_t, e_k, e_put, e_get, e_res, e_keep_n, e_keep_c, e_keep1_s, e_asg_i, e_asg_s, Option.getD_some, Nat.reduceEqDiff, and_true, s_ret_r, s_retX, s_cells_n, t_tp, t_n, t_c, t_1l, t_i, t_s, r_n, r_t, r_cons, one_2, Bool.and_true]
          done
      | cons x q ih =>
        intro i acc xs hq hxs ha hg
        have hi : i < code.length := by
          rcases Nat.lt_or_ge i code.length with h | h
          · exact h
          · rw [List.drop_eq_nil_of_le h] at hq; cases hq
        have hx : code[i]? = some x := by rw [← List.head?_drop, hq]; rfl
        have hq' : code.drop (i + 1) = q := by rw [← List.tail_drop, hq]; rfl
        have hmem := List.mem_of_getElem? hx
        have hf := hfit x hmem
        have hk := hok x hmem
        have hlt : (i : Int) < (code.length : Int) := by omega
        have hxl : xs.length = acc.length := by rw [hxs, ub_len]
        simp only [goB] at hg
        by_cases hacc : acc.length ≤ 1048576
        · rw [if_pos hacc] at hg
          have hbl := insB_len hf
          have hacc2 : (acc.length : Int) ≤ 1048576 := by omega
          have hget : (code.map Ins.c).getD i [] = x.c := by rw [List.getD_eq_getElem?_getD, List.getElem?_map, hx]; rfl
          have w1 : IntKind.i64.wrap ((i : Int) + 1) = ((i + 1 : Nat) : Int) := by rw [w64 (by omega) (by omega)]; omega
          obtain ⟨p, hp, e1, e2, e3, e4, e5⟩ := pat' (k := x.op.toNat) (by have := hf.op; omega)
          have hins : insB x = insBF p.1 p.2.1 p.2.2.1 p.2.2.2.1 p.2.2.2.2 x := by unfold insB; rw [e1, e2, e3, e4, e5]
          rw [hins] at hg hbl
          have h40 := r40 (X := X) x.op
          have a1 := r41 (X := X) (refF x.op.toNat) 1 (by decide)
          have a2 := r41 (X := X) (refF x.op.toNat) 2 (by decide)
          have a3 := r41 (X := X) (refF x.op.toNat) 4 (by decide)
          have a4 := r41 (X := X) (refF x.op.toNat) 8 (by decide)
          have a5 := r41 (X := X) (refF x.op.toNat) 16 (by decide)
          rw [e1] at a1
          rw [e2] at a2
          rw [e3] at a3
          rw [e4] at a4
          rw [e5] at a5
          clear e1 e2 e3 e4 e5 hins hq hmem
          have hts := hf.t
          have hs0 := hk.s0
          have hs1 := hk.s1
          have hs2 := hk.s2
          have hs3 := hk.s3
          generalize refF x.op.toNat = v at *
          generalize nameF x.op.toNat = nm at *
          generalize nextF x.op.toNat = nx at *
          clear hf hk
          obtain ⟨xop, xa, xb, xn, xt, s0, s1, s2, s3⟩ := x
          try simp only at *
          obtain ⟨s0, rfl⟩ : ∃ n : Nat, s0 = n := ⟨s0.toNat, by omega⟩
          obtain ⟨s1, rfl⟩ : ∃ n : Nat, s1 = n := ⟨s1.toNat, by omega⟩
          obtain ⟨s2, rfl⟩ : ∃ n : Nat, s2 = n := ⟨s2.toNat, by omega⟩
          obtain ⟨s3, rfl⟩ : ∃ n : Nat, s3 = n := ⟨s3.toNat, by omega⟩
          have h39 := r39 (X := X) xa
          have h42 := r42 (X := X) s0 s1 s2 s3 (by omega) (by omega) (by omega) (by omega)
          simp only [insBF, Int.toNat_natCast] at hg hbl
          have hget' : (code.map Ins.c).getD i [] = [.int .i64 xop, .int .i64 xa, .int .i64 xb, .int .i64 xn, .str xt, .int .u64 s0, .int .u64 s1, .int .u64 s2, .int .u64 s3] := hget
          clear hget
          have ihk := fun acc' xs' h1 h2 h3 => ih (i + 1) acc' xs' hq' h1 h2 h3
          clear ih hr hG
          have hmb : (memB s0 s1 s2 s3 32).length = 32 := memB_len _ _ _ _ _
          have hnb : (numB xa).length = 2 := rfl
          have hts2 : xt.data.toList.length = xt.size := size_len _
          generalize memB s0 s1 s2 s3 32 = mb at *
          generalize numB xa = nb at *
          intro Z hZ; apply hZ
          simp -implicitDefEqProofs (maxSteps := 2000000) only [c23, hl, hlt, hxl, hacc2, Int.toNat_natCast, v_ld_e, hget', decide_true, ↓reduceIte, s_skip, s_ops0, s_seq, s_cond, s_block, s_opsK, s_seqK_n, s_cnd, s_nil, s_cons, s_guard, s_wopsK, s_putK, s_grd, q_mv, q_bin, q_len, o_mv, o_pk, v_pk, o_bin, v_lss, v_leq, v_part_t, v_part_f, v_atK, o_al, o_fa, v_fa_p, o_ia, v_ia, o_ld, v_ld_p, v_ldC, o_st, v_st_p, v_stCK, o_len, v_len, o_call, e_t, e_k, e_put, e_get, e_res, e_keep_n, e_keep_c, e_keep1_s, List.length_nil, List.length_cons, Option.getD_some, Nat.reduceEqDiff, Nat.reduceAdd, reduceCtorEq, true_and, cond_false, List.map_cons, List.map_nil, PV.leaves, List.flatMap_cons, List.flatMap_nil, List.append_nil, List.nil_append, List.all_cons, List.all_nil, Bool.true_and, Bool.and_self, PV.cells, cellL, fillL, Nat.zero_le, Nat.le_refl, List.take_zero, List.drop_zero, List.take_succ_cons, List.drop_succ_cons, List.drop_nil, List.take_nil, List.getElem?_cons_zero, kc_b, kc_i, kc_s, rl_i, kc_l, m_lf, m_ag, m_n, m_c, m_all, st_b, d_n, d_c, Nat.zero_add, Nat.add_zero, kc_er]
          intro _ _
          refine ⟨⟨by omega, by omega⟩, by omega, ?_⟩
          refine wcall_s h40 rfl rfl ?_
          simp -implicitDefEqProofs (maxSteps := 2000000) only [c23, hxl, ↓reduceIte, s_ops0, s_seq, s_opsK, s_seqK_n, s_nil, s_cons, s_wopsK, s_putK, o_mv, o_as, o_cvi, v_cvi, o_ext, v_ext0, v_ext1, v_ext2, v_part_f, v_atK, o_fa, v_fa_p, o_ld, v_ld_p, v_ldC, o_bs, v_bsK, v_lit_n, v_lit_c, o_app, v_app_o, o_call, e_t, e_k, e_put, e_get, e_res, e_keep_n, e_keep_c, e_keep1_s, e_asg_b, e_asg_i, e_asg_s, List.length_nil, List.length_cons, Option.getD_some, Nat.reduceEqDiff, reduceCtorEq, true_and, Bool.false_eq_true, St.clr, outV, ownsV, owns1, ownL, List.map_cons, List.map_nil, List.any_cons, List.any_nil, Bool.or_false, Bool.or_self, PV.leaves, List.flatMap_cons, List.flatMap_nil, List.append_nil, List.cons_append, List.nil_append, List.all_cons, List.all_nil, Bool.true_and, Bool.and_self, PV.cells, datL, Nat.reduceMul, Nat.reduceBEq, Nat.reduceLeDiff, BEq.rfl, List.getElem?_cons_zero, kp_i, kp_s, kp_u, rk_i, rk_s, rk_u, rl_i, ol_b, ol_i, ol_s, kp_p, kp_lro, rk_p, rk_lro, kp_lo, rk_lo, m_lf, m_tp, m_1l, m_n, m_c, m_all, e_asg_o, dw_n, dw_i, plT, lit_n, lit_c, List.reduceReplicate, List.set_cons_zero, Nat.lt_add_one, Nat.zero_add, Nat.add_zero, or_false]
          clear h40
          simp only [List.mem_cons, List.mem_nil_iff, or_false] at hp
          have k1 : [12032, 12034, 12036].contains 768 = false := by decide
          have k2 : [7680, 7682, 7684].contains 768 = false := by decide
          rcases hp with rfl | rfl | rfl | rfl | rfl | rfl | rfl | rfl
          all_goals
            simp only [Bool.or_true, Bool.or_false, Bool.true_or, Bool.false_or, Bool.false_eq_true, if_true, if_false] at hg hbl
            repeat' (first
              | (refine ⟨by (simp only [List.length_append, List.length_cons, List.length_nil, ub_len] at *; omega), ?_⟩)
              | (refine wcall_s a1 rfl rfl ?_)
              | (refine wcall_s a2 rfl rfl ?_)
              | (refine wcall_s a3 rfl rfl ?_)
              | (refine wcall_s a4 rfl rfl ?_)
              | (refine wcall_s a5 rfl rfl ?_)
              | (refine wcall_flat h39 rfl (flat_ub _) ?_)
              | (refine wcall_flat h42 rfl (flat_ub _) ?_)
              | (simp -implicitDefEqProofs (maxSteps := 2000000) only [c23, w1, List.length_append, ub_len, hxl, hts2, k1, k2, ↓reduceIte, s_skip, s_ops0, s_seq, s_cond, s_opsK, s_seqK_n, s_blkK_n, s_loopK_n, s_cnd, s_nil, s_cons, s_guard, s_wopsK, s_putK, s_grd, q_call, q_mv, o_mv, o_as, o_pk, v_pk, o_bin, v_add, o_cvi, v_cvi, v_part_t, v_part_f, v_atK, o_fa, v_fa_p, o_ld, v_ld_p, v_ldC, o_bs, v_bsK, v_lit_n, v_lit_c, o_lns, v_lns, o_app, v_app_o, o_aps, v_aps_o, o_call, e_t, e_k, e_put, e_get, e_res, e_keep_n, e_keep_c, e_keep1_s, e_asg_i, List.length_nil, List.length_cons, Option.getD_some, Nat.reduceEqDiff, Nat.reduceAdd, reduceCtorEq, true_and, cond_false, Bool.not_false, Bool.true_eq_false, Bool.false_eq_true, St.clr, outV, ownsV, owns1, ownL, List.map_cons, List.map_nil, Bool.or_false, PV.leaves, List.flatMap_cons, List.flatMap_nil, List.append_nil, List.cons_append, List.nil_append, List.all_cons, List.all_nil, Bool.true_and, Bool.and_self, PV.cells, datL, Nat.reduceMul, Nat.reduceBEq, Nat.reduceLeDiff, Nat.le_refl, BEq.rfl, List.drop_zero, List.take_succ_cons, List.drop_succ_cons, List.take_nil, List.getElem?_cons_zero, List.getElem?_cons_succ, kp_b, kp_i, kp_s, kp_u, kps_b, kps_i, kps_s, rk_b, rk_i, rk_s, rk_u, rl_i, ol_b, kp_p, kp_lro, kps_p, kps_lro, rk_p, rk_lro, kp_lo, kps_lo, rk_lo, ol_lo, m_lf, m_ag, m_n, m_c, m_all, e_asg_o, e_head, e_headK, kC_n, pO_n, pO_i, pO_l, dw_n, dw_i, List.range_zero, plT, lit_n, lit_c, List.reduceReplicate, List.set_cons_zero, List.set_cons_succ, List.length_append, Nat.reduceLT, Nat.lt_add_one, Nat.zero_add, Nat.add_zero, true_or, or_false, ub_len]))
            exact ihk _ _ (by rw [hxs]; simp [ub, wrap_u8, bytesL]) (by simp only [List.length_append, List.length_cons, List.length_nil] at *; omega) hg Z hZ
        · rw [if_neg hacc] at hg
          obtain ⟨f1, f2, f3⟩ := fin acc xs hxs hg
          have hacc2 : ¬ (acc.length : Int) ≤ 1048576 := by omega
          have hacc3 : 1048576 < (acc.length : Int) := by omega
          intro Z hZ; apply hZ
          simp -implicitDefEqProofs (maxSteps := 2000000) only [c23, hl, hlt, hxl, hacc2, hacc3, decide_true, decide_false, ↓reduceIte, s_exit, s_ret, s_ops0, s_seq, s_cond, s_opsK, s_seqK_n, s_seqK_e, s_seqK_r, s_blkK_e, s_loopK_e, s_cnd, s_nil, s_cons, s_guard, s_wopsK, s_putK, s_grd, q_mv, q_bin, q_len, o_mv, o_as, o_pk, v_pk, o_bin, v_lss, v_leq, v_gtr, o_len, v_len, e_t, e_k, e_put, e_get, e_res, e_keep_n, e_keep_c, e_keep1_s, e_asg_i, e_asg_s, Option.getD_some, Nat.reduceEqDiff, reduceCtorEq, true_and, and_true, cond_false, Bool.false_eq_true, s_ret_r, s_retX, s_cells_n, t_tp, t_n, t_c, t_1l, t_i, t_s, r_n, r_t, r_cons, one_2, Bool.and_true, Bool.true_and]
          intro _ _
          rw [f2 (by omega)]
          exact fun _ => ⟨rfl, rfl⟩
    refine R_i [] [] c23_ok rfl (by simp) ?_
    simp -implicitDefEqProofs (maxSteps := 2000000) only [c23, ↓reduceIte, s_ops0, s_seq, s_opsK, s_seqK_n, s_nil, s_cons, s_wopsK, o_mv, o_as, o_call, e_t, e_k, e_put, e_get, e_res, e_keep_n, e_keep_c, e_keep1_s, e_asg_i, e_asg_s, St.init, enum, List.length_nil, Option.getD_some, reduceCtorEq, List.map_cons, List.map_nil, PV.leaves, List.flatMap_cons, List.flatMap_nil, List.append_nil, rl_l, m_lf]
    refine wcall_s h35 rfl rfl ?_
    simp -implicitDefEqProofs (maxSteps := 2000000) only [c23, h, hl, ↓reduceIte, s_skip, s_ret, s_ops0, s_seq, s_cond, s_opsK, s_seqK_n, s_seqK_r, s_cnd, s_nil, s_cons, s_wopsK, s_putK, o_mv, o_as, o_bin, v_neq, o_ext, v_ext0, v_ext1, o_len, v_len, o_call, e_t, e_k, e_put, e_get, e_res, e_keep_n, e_keep_c, e_keep1_s, e_asg_i, e_asg_s, Option.getD_some, Nat.reduceEqDiff, reduceCtorEq, true_and, and_true, Bool.false_eq_true, decide_eq_true_eq, s_ret_r, s_retX, s_cells_n, t_tp, t_n, t_c, t_1l, t_i, t_s, r_n, r_t, r_cons, one_2, St.clr, outV, ownsV, owns1, ownL, List.map_cons, List.map_nil, List.any_cons, List.any_nil, Bool.or_self, PV.leaves, List.flatMap_cons, List.flatMap_nil, List.append_nil, Bool.and_true, Bool.true_and, rl_i, ol_i, m_lf, m_tp, m_1l, ne_eq, ite_not]
    intro _
    refine wcall_flat (r39 _) rfl (flat_ub _) ?_
    simp -implicitDefEqProofs (maxSteps := 2000000) only [c23, ↓reduceIte, s_ops0, s_seq, s_block, s_loop, s_opsK, s_seqK_n, s_nil, s_cons, s_wopsK, o_as, e_t, e_k, e_put, e_get, e_res, e_keep_n, e_keep_c, e_keep1_s, e_asg_i, Option.getD_some, Nat.reduceEqDiff, Nat.reduceAdd, reduceCtorEq, Bool.false_eq_true, St.clr, outV, ownsV, owns1, ownL, List.append_nil, Nat.reduceMul, Nat.reduceBEq, BEq.rfl, kps_b, kps_i, rk_b, rk_i, kps_lro, rk_lro, rk_lo, ol_lo, m_lf, m_n, m_c, m_all, e_asg_o, e_head, e_headK, kC_n, pO_n, pO_i, pO_l, List.range_zero, plT, Nat.add_zero]
    exact key code 0 (numB code.length) _ rfl rfl (by simp [numB]) hG
  · rw [if_pos h] at hr
    subst hr
    refine R_i [] [] c23_ok rfl (by simp) ?_
    simp -implicitDefEqProofs (maxSteps := 2000000) only [c23, ↓reduceIte, s_ops0, s_seq, s_opsK, s_seqK_n, s_nil, s_cons, s_wopsK, o_mv, o_as, o_call, e_t, e_k, e_put, e_get, e_res, e_keep_n, e_keep_c, e_keep1_s, e_asg_i, e_asg_s, St.init, enum, List.length_nil, Option.getD_some, reduceCtorEq, List.map_cons, List.map_nil, PV.leaves, List.flatMap_cons, List.flatMap_nil, List.append_nil, rl_l, m_lf]
    refine wcall_s h35 rfl rfl ?_
    simp -implicitDefEqProofs (maxSteps := 2000000) only [c23, h, ↓reduceIte, s_ret, s_ops0, s_seq, s_cond, s_opsK, s_seqK_n, s_seqK_r, s_cnd, s_nil, s_cons, s_wopsK, s_putK, o_mv, o_as, o_bin, v_neq, o_ext, v_ext0, v_ext1, e_t, e_k, e_put, e_get, e_res, e_keep_n, e_keep_c, e_keep1_s, e_asg_i, e_asg_s, Option.getD_some, Nat.reduceEqDiff, reduceCtorEq, and_true, Bool.false_eq_true, decide_eq_true_eq, s_ret_r, s_retX, s_cells_n, t_tp, t_n, t_c, t_1l, t_i, t_s, r_n, r_t, r_cons, one_2, St.clr, outV, ownsV, owns1, ownL, List.map_cons, List.map_nil, List.any_cons, List.any_nil, Bool.or_self, Bool.and_true, ol_i, m_tp, m_1l, ne_eq, not_false_eq_true]
    done
end Go.Proofs.YthcpaohmajjopaaDoor.I
set_option linter.unusedVariables false
set_option linter.unusedSimpArgs false
namespace Go.Proofs.YthcpaohmajjopaaDoor.I
open Go Go.Proofs.YthcpaohmajjopaaDoor.AM
variable {X : Cx}
theorem flat_ins (code : List Ins) (a b : Int) : Flat (.tp [.lf (.lst (.own 0 52) 9 (code.map Ins.c) []), .ag [.int .i64 a, .int .i64 b]]) := by
  intro v hv
  simp only [List.mem_cons, List.mem_nil_iff, or_false] at hv
  rcases hv with rfl | rfl
  · refine ⟨fun x hx c hc => ?_, rfl⟩
    obtain ⟨y, _, rfl⟩ := List.mem_map.1 hx
    simp only [Ins.c, List.mem_cons, List.mem_nil_iff, or_false] at hc
    rcases hc with rfl | rfl | rfl | rfl | rfl | rfl | rfl | rfl | rfl <;> rfl
  · intro c hc
    simp only [List.mem_cons, List.mem_nil_iff, or_false] at hc
    rcases hc with rfl | rfl <;> rfl
theorem r33o (hX : X.G 1 = some usesL) (code : List Ins) (pl : List Int) (hp : pl.length = code.length) (sp' : List (List L)) :
    R X Tryd.prog 33 [.lf (.lst (.own 0 52) 9 (code.map Ins.c) []), .lf (.lst .ro 1 (pl.map fun n => [.int .i64 n]) sp')] []
      (.tp [.lf (.lst (.own 0 52) 9 ((chkAns code pl).1.map Ins.c) []), .ag [.int .i64 (chkAns code pl).2.1, .int .i64 (chkAns code pl).2.2]]) [] := by
  have h28 := r28x hX code []
  have hrg := chk_range capX code
  generalize hA : chkAns code pl = A
  simp only [chkAns] at hA
  refine R_i [(0, 512)] [] c33_ok rfl (by simp) ?_
  generalize chk capX code = r at *
  simp -implicitDefEqProofs (maxSteps := 2000000) only [c33, ↓reduceIte, s_ops0, s_seq, s_opsK, s_seqK_n, s_nil, s_cons, s_wopsK, o_mv, o_as, o_al, o_call, e_t, e_k, e_put, e_get, e_res, e_keep_n, e_keep_c, e_keep1_s, St.init, enum, List.length_nil, Option.getD_some, Nat.reduceEqDiff, reduceCtorEq, true_and, Bool.false_eq_true, List.map_cons, List.map_nil, PV.leaves, List.flatMap_cons, List.flatMap_nil, List.append_nil, Bool.true_and, Nat.reduceMul, Nat.reduceBEq, Nat.zero_le, kp_lro, kc_l, kp_lo, rl_l, m_lf, m_n, m_c, m_all, e_asg_n, d_n, plT, Nat.zero_add, Nat.add_zero]
  refine wcall_s h28 rfl rfl ?_
  simp -implicitDefEqProofs (maxSteps := 2000000) only [c33, ↓reduceIte, s_skip, s_ret, s_ops0, s_ops1, s_seq, s_cond, s_block, s_opsK, s_seqK_n, s_seqK_r, s_blkK_n, s_blkK_r, s_cnd, s_nil, s_cons, s_wopsK, s_wopsTK, s_putK, s_tone, s_tcons, q_as, q_mv, q_ia, q_ld, q_bd, o_mv, o_as, o_bin, v_eql, o_ext, v_ext0, v_ext1, v_part_f, v_atK, o_ia, v_ia, o_ld, v_ld_m, o_st, v_st_p, v_stCK, o_bd, v_agK, v_bd_n, v_bd_c, e_t, e_k, e_put, e_get, e_res, e_keep_n, e_keep_c, e_keep1_s, e_asg_b, e_asg_i, List.length_nil, List.length_cons, Option.getD_some, Nat.reduceEqDiff, Nat.reduceAdd, reduceCtorEq, true_and, and_true, Bool.false_eq_true, decide_eq_true_eq, s_ret_r, s_retX, s_cells_n, t_tp, t_n, t_c, t_1l, t_1a, t_ln, t_lc, t_i, t_l, t_oo, t_no, r_n, r_t, r_c, r_cons, r_cell, r_part_t, one_2, St.clr, outV, ownsV, owns1, ownL, List.map_cons, List.map_nil, List.any_cons, List.any_nil, Bool.or_self, List.append_nil, List.cons_append, List.nil_append, List.all_cons, List.all_nil, Bool.and_true, Bool.true_and, Bool.and_self, PV.cells, cellL, fillL, Nat.reduceMul, Nat.reduceBEq, Nat.reduceLeDiff, Nat.le_refl, BEq.rfl, List.take_zero, List.drop_zero, List.take_succ_cons, List.drop_succ_cons, List.drop_nil, List.take_nil, List.getElem?_cons_zero, Option.bind_some, kp_b, kp_i, rk_b, rk_i, ol_i, kp_p, kp_lro, rk_p, rk_lro, rk_lo, m_lf, m_ag, m_tp, m_1l, m_n, m_c, m_all, e_asg_n, e_asg_o, st_b, d_n, d_c, plT, nO_ln, ne_eq, not_false_eq_true, Nat.zero_add, Nat.add_zero, true_or, or_true]
  iterate 3 (all_goals try (with_reducible refine ite_pr (fun _ => ?_) (fun _ => ?_)))
  all_goals try contradiction
  · rw [if_pos (by assumption)] at hA
    subst hA
    first | exact ⟨rfl, rfl, rfl⟩ | exact ⟨⟨rfl, rfl⟩, rfl, rfl⟩ | exact ⟨rfl, rfl⟩
  · rw [if_neg (by assumption), if_pos (by omega)] at hA
    subst hA
    first | exact ⟨rfl, rfl, rfl⟩ | exact ⟨⟨rfl, rfl⟩, rfl, rfl⟩ | exact ⟨rfl, rfl⟩
  · rw [if_neg (by assumption), if_pos (by omega)] at hA
    subst hA
    first | exact ⟨rfl, rfl, rfl⟩ | exact ⟨⟨rfl, rfl⟩, rfl, rfl⟩ | exact ⟨rfl, rfl⟩
  · rw [if_neg (by assumption), if_neg (by omega)] at hA
    subst hA
    have := hrg (by assumption) (by assumption) (by assumption)
    refine ⟨⟨by omega, by simp; omega⟩, by omega, ?_⟩
    first | exact ⟨rfl, rfl, rfl⟩ | exact ⟨⟨rfl, rfl⟩, rfl, rfl⟩ | exact ⟨rfl, rfl⟩
theorem r12o (hX : X.G 1 = some usesL) (b : ByteArray) (hb : b.size ≤ 140737488351232) (hc : 0 ≤ cntR b ∧ cntR b ≤ 65535) (r : List Ins × Int × Int) (hr : readA b = r) : R X Tryd.prog 12 [.lf (.str b)] []
      (.tp [.lf (.lst (.own 0 52) 9 (r.1.map Ins.c) []), .ag [.int .i64 r.2.1, .int .i64 r.2.2]]) [] := by
  unfold readA at hr
  have hnn : bits .or .i64 (IntKind.i64.wrap (nxV b 0 * 2 ^ min (Int.toNat 8) IntKind.i64.bits)) (nxV b (nxP b 0)) = cntR b := rfl
  generalize cntR b = n at *
  obtain ⟨n, rfl⟩ : ∃ n' : Nat, n = n' := ⟨n.toNat, by omega⟩
  rw [Int.toNat_natCast] at hr
  have key : ∀ (m i : Nat) (p : Nat) (code : List Ins) (pl : List Int) (ls ps : List (List L)), ls = code.map Ins.c → ps = (pl.map fun x => [L.int .i64 x]) → i + m = n → p ≤ b.size → pl.length = code.length → code.length ≤ i → rd b m p code pl = r →
      LoopAt X Tryd.prog c12_20 [0, 3, 4, 7, 8, 25, 26] (blkK 0 (seqK X Tryd.prog c12_32 (retS [(0, 256)] [] 0 [RV.t 2, RV.c 3 2 true] (PV.tp [PV.lf (L.lst (Tag.own 0 52) 9 (List.map Ins.c r.fst) []), PV.ag [L.int IntKind.i64 r.snd.fst, L.int IntKind.i64 r.snd.snd]]) [])))
        { m := 0, tm := [(0, PV.lf (L.str b)), (3, PV.lf (L.ptr 3 0)), (4, PV.lf (L.ptr 17 0)), (7, PV.lf (L.lst (Tag.own 896 52) 9 ls [])), (8, PV.lf (L.lst (Tag.own 1024 3) 1 ps [])), (25, PV.lf (L.int IntKind.i64 (n : Int))), (26, PV.lf (L.int IntKind.i64 (i : Int)))],
          ce := [(3, [L.int IntKind.i64 0, L.int IntKind.i64 0]), (17, [L.str b, L.int IntKind.i64 (p : Int), L.bool false])] } := by
    clear hr hnn
    intro m
    induction m with
    | zero =>
      intro i p code pl ls ps hls hps hi hp hl hcl hr
      obtain rfl : i = n := by omega
      have hnl : ¬ ((i : Nat) : Int) < (i : Int) := by omega
      intro Z hZ; apply hZ
      simp -implicitDefEqProofs (maxSteps := 2000000) only [c12, hnl, ↓reduceIte, s_skip, s_exit, s_ret, s_ops0, s_ops1, s_seq, s_cond, s_opsK, s_seqK_n, s_seqK_e, s_seqK_r, s_blkK_e, s_loopK_e, s_cnd, s_nil, s_cons, s_wopsK, s_wopsTK, s_putK, s_tone, s_tcons, q_as, q_mv, q_fa, q_ld, q_nc, q_bd, o_mv, o_bin, v_lss, v_part_f, v_atK, o_fa, v_fa_p, o_ld, v_ld_p, v_ldC, o_st, v_st_p, v_stCK, o_nc, v_nc_p, o_bd, v_agK, v_bd_n, v_bd_c, o_lns, v_lns, o_call, e_t, e_k, e_put, e_get, e_res, e_keep_n, e_keep_c, e_keep1_s, List.length_nil, List.length_cons, Option.getD_some, Nat.reduceEqDiff, Nat.reduceAdd, reduceCtorEq, true_and, and_true, Bool.false_eq_true, decide_eq_true_eq, s_ret_r, s_retX, s_cells_n, t_tp, t_n, t_c, t_1l, t_1a, t_ln, t_lc, t_i, t_l, t_no, r_n, r_t, r_c, r_cons, r_cell, r_part_t, one_2, List.map_cons, List.map_nil, PV.leaves, List.flatMap_cons, List.flatMap_nil, List.append_nil, List.cons_append, List.nil_append, List.all_cons, List.all_nil, Bool.and_true, Bool.true_and, Bool.and_self, PV.cells, cellL, fillL, Nat.reduceLeDiff, Nat.le_refl, List.take_zero, List.drop_zero, List.take_succ_cons, List.drop_succ_cons, List.drop_nil, List.take_nil, List.getElem?_cons_zero, List.getElem?_cons_succ, Option.bind_some, rl_l, m_lf, st_b, d_n, d_c, nO_ln, ne_eq, not_false_eq_true, Nat.zero_add, true_or, or_true]
      simp only [rd] at hr
      with_reducible refine ite_pr (fun h => ?_) (fun h => ?_)
      · rw [if_pos (by omega)] at hr
        subst hr
        all_goals first | exact ⟨rfl, rfl, rfl⟩ | exact ⟨⟨rfl, rfl⟩, rfl, rfl⟩ | exact ⟨rfl, rfl⟩
      · rw [if_neg (by omega)] at hr
        subst hr
        subst hls hps
        refine wcall_m [L.lst (Tag.own 1024 3) 1 (List.map (fun x => [L.int IntKind.i64 x]) pl) []] 0 rfl rfl (r33o hX code pl hl []) rfl rfl (flat_ins _ _ _) ?_
        simp -implicitDefEqProofs (maxSteps := 2000000) only [c12, ↓reduceIte, s_ret, s_opsK, s_seqK_n, s_nil, s_cons, s_wopsK, s_putK, o_as, o_ext, v_ext0, v_ext1, o_st, v_st_p, v_stCK, e_t, e_put, e_get, e_res, e_keep_n, e_keep_c, e_keep1_s, List.length_nil, List.length_cons, Option.getD_some, Nat.reduceEqDiff, Nat.reduceAdd, true_and, and_true, Bool.false_eq_true, s_ret_r, s_retX, s_cells_n, t_tp, t_n, t_c, t_1l, t_1a, t_ln, t_lc, t_i, t_l, t_oo, r_n, r_t, r_c, r_cons, r_cell, r_part_t, one_2, St.clr, outV, ownsV, owns1, ownL, List.map_cons, List.map_nil, List.any_cons, List.any_nil, Bool.or_false, Bool.or_self, List.append_nil, List.nil_append, List.all_cons, List.all_nil, Bool.and_true, Bool.true_and, Bool.and_self, PV.cells, cellL, fillL, Nat.reduceMul, Nat.reduceBEq, Nat.le_refl, BEq.rfl, List.take_zero, List.drop_zero, List.take_succ_cons, List.drop_succ_cons, List.drop_nil, List.take_nil, Option.bind_some, kp_b, kp_i, kp_s, kps_b, kps_i, kps_s, kps_u, ro_b, ro_i, ro_s, rk_b, rk_i, rk_s, rk_u, ol_i, kp_p, kp_lro, kps_p, kps_lro, ro_p, rk_p, rk_lro, kp_lo, ro_lo, rk_lo, ol_lo, m_lf, m_ag, m_tp, m_1l, m_1a, m_n, m_c, m_all, e_asg_o, st_b, d_n, d_c, dw_n, dw_lo, plT, Nat.zero_add, Nat.add_zero, true_or, or_true, or_false]
    | succ m ih =>
      intro i p code pl ls ps hls hps hi hp hl hcl hr
      have hlt : ((i : Nat) : Int) < (n : Int) := by omega
      have hw : IntKind.i64.wrap ((i : Int) + 1) = ((i + 1 : Nat) : Int) := by rw [w64 (by omega) (by omega)]; omega
      intro Z hZ; apply hZ
      simp -implicitDefEqProofs (maxSteps := 2000000) only [c12, hlt, hw, ↓reduceIte, s_skip, s_ops0, s_seq, s_cond, s_block, s_opsK, s_seqK_n, s_cnd, s_nil, s_cons, s_wopsK, s_putK, o_mv, o_as, o_bin, v_lss, v_part_f, v_atK, o_fa, v_fa_p, o_ld, v_ld_p, v_ldC, o_nc, v_nc_p, e_t, e_put, e_get, e_res, e_keep_n, e_keep_c, e_keep1_s, e_asg_i, Option.getD_some, Nat.reduceEqDiff, reduceCtorEq, decide_eq_true_eq, List.map_cons, List.map_nil, PV.leaves, List.flatMap_cons, List.flatMap_nil, List.append_nil, List.getElem?_cons_zero, List.getElem?_cons_succ, Option.bind_some, m_lf, dw_n, dw_p, Nat.zero_add, ta_p, pc_p, o_callp, v_callp]
      refine pcall_i (r30 (X := X) b p false hb) rfl rfl ?_
      simp only [rd] at hr
      by_cases hp2 : b.size ≤ p
      · rw [if_pos hp2] at hr
        subst hr
        have e : nxS b p false = true := by unfold nxS; rw [if_neg (by omega)]
        simp -implicitDefEqProofs (maxSteps := 2000000) only [c12, hlt, hw, e, ↓reduceIte, s_exit, s_ret, s_ops0, s_seq, s_cond, s_opsK, s_seqK_n, s_seqK_e, s_seqK_r, s_blkK_e, s_loopK_e, s_cnd, s_nil, s_cons, s_wopsK, s_putK, o_mv, o_as, v_part_f, v_atK, o_fa, v_fa_p, o_ld, v_ld_p, v_ldC, o_st, v_st_p, v_stCK, o_nc, v_nc_p, o_bd, v_agK, v_bd_n, v_bd_c, o_lns, v_lns, e_t, e_k, e_put, e_get, e_res, e_keep_n, e_keep_c, e_keep1_s, e_asg_i, List.length_nil, List.length_cons, Option.getD_some, Nat.reduceEqDiff, Nat.reduceAdd, reduceCtorEq, true_and, and_true, Bool.false_eq_true, s_ret_r, s_retX, s_cells_n, t_tp, t_n, t_c, t_1l, t_1a, t_ln, t_lc, t_i, t_l, t_oo, r_n, r_t, r_c, r_cons, r_cell, r_part_t, one_2, outV, ownsV, owns1, ownL, List.map_cons, List.map_nil, List.append_nil, List.cons_append, List.nil_append, List.all_cons, List.all_nil, Bool.and_true, Bool.true_and, Bool.and_self, PV.cells, cellL, fillL, Nat.reduceMul, Nat.reduceBEq, Nat.reduceLeDiff, Nat.le_refl, List.take_zero, List.drop_zero, List.take_succ_cons, List.drop_succ_cons, List.drop_nil, List.take_nil, List.getElem?_cons_zero, List.getElem?_cons_succ, Option.bind_some, kp_b, kp_i, kp_s, ol_i, kp_p, kp_lo, m_lf, m_ag, m_n, m_c, m_all, e_asg_n, st_b, d_n, d_c, plT, ne_eq, not_false_eq_true, Nat.zero_add, Nat.add_zero, true_or, or_true, fc_b, fc_i, fc_s, kl_b, kl_i, kl_s, kl_p, kl_lo, kf_s, cp_st, isC, Nat.reduceMod, Nat.reduceDiv]
        all_goals first | rfl | trivial
      · rw [if_neg hp2] at hr
        have e : nxS b p false = false := by unfold nxS; rw [if_pos (by omega)]
        have e2 : nxV b p = byteAt b p := by unfold nxV; rw [if_pos (by omega)]
        have e3 : nxP b p = p + 1 := by unfold nxP; rw [if_pos (by omega)]
        have h31 := r31 (X := X) (byteAt b p)
        simp -implicitDefEqProofs (maxSteps := 2000000) only [c12, hlt, hw, e, e2, e3, ↓reduceIte, s_skip, s_ops0, s_seq, s_cond, s_opsK, s_seqK_n, s_cnd, s_nil, s_cons, s_wopsK, s_putK, o_mv, o_as, v_part_f, v_atK, o_fa, v_fa_p, o_ld, v_ld_p, v_ldC, o_nc, v_nc_p, o_call, e_t, e_put, e_get, e_res, e_keep_n, e_keep_c, e_keep1_s, e_asg_i, Option.getD_some, Nat.reduceEqDiff, reduceCtorEq, Bool.false_eq_true, outV, ownsV, owns1, ownL, List.map_cons, List.map_nil, PV.leaves, List.flatMap_cons, List.flatMap_nil, List.append_nil, Bool.and_self, Nat.reduceBEq, List.getElem?_cons_zero, List.getElem?_cons_succ, rl_i, ol_i, m_lf, m_n, m_c, d_n, d_c, Nat.zero_add, fc_b, fc_i, fc_s, kl_b, kl_i, kl_s, kl_p, kl_lo, kf_s, cp_st, isC, Nat.reduceMod, Nat.reduceDiv]
        refine wcall_s h31 rfl rfl ?_
        by_cases hop : byteAt b p < 1 ∨ 20 < byteAt b p
        · rw [if_pos hop] at hr
          subst hr
          rw [decide_eq_false (by omega)]
          simp -implicitDefEqProofs (maxSteps := 2000000) only [c12, ↓reduceIte, s_ret, s_ops0, s_seq, s_cond, s_opsK, s_seqK_n, s_seqK_r, s_blkK_r, s_loopK_r, s_cnd, s_nil, s_cons, s_wopsK, s_putK, o_mv, o_as, o_un, v_not, o_st, v_st_p, v_stCK, o_bd, v_agK, v_bd_n, v_bd_c, e_t, e_k, e_put, e_get, e_res, e_keep_n, e_keep_c, e_keep1_s, List.length_nil, List.length_cons, Option.getD_some, Nat.reduceEqDiff, Nat.reduceAdd, reduceCtorEq, true_and, and_true, Bool.not_false, Bool.false_eq_true, s_ret_r, s_retX, s_cells_n, t_tp, t_n, t_c, t_1l, t_1a, t_ln, t_lc, t_i, t_l, t_oo, r_n, r_t, r_c, r_cons, r_cell, r_part_t, one_2, St.clr, outV, ownsV, owns1, ownL, List.map_cons, List.map_nil, List.append_nil, List.cons_append, List.nil_append, List.all_cons, List.all_nil, Bool.and_true, Bool.true_and, Bool.and_self, PV.cells, cellL, fillL, Nat.reduceMul, Nat.reduceBEq, Nat.reduceLeDiff, Nat.le_refl, List.take_zero, List.drop_zero, List.take_succ_cons, List.drop_succ_cons, List.drop_nil, List.take_nil, Option.bind_some, kp_b, kp_i, kp_s, ol_b, kp_p, kp_lo, m_lf, m_ag, m_n, m_c, m_all, e_asg_n, st_b, d_n, d_c, plT, ne_eq, not_false_eq_true, Nat.zero_add, Nat.add_zero, true_or, or_true]
          all_goals first | rfl | trivial
        · rw [if_neg hop] at hr
          rw [decide_eq_true (by omega)]
          have h32 := r32 hX b (p + 1) false hb (by omega) (byteAt b p).toNat (by omega) _ rfl
          have hle : (insK b p).2.1 ≤ b.size := insR_le (by omega)
          rw [show insR (hasB (byteAt b p).toNat 1) (hasB (byteAt b p).toNat 2) (hasB (byteAt b p).toNat 4) (hasB (byteAt b p).toNat 8) (hasB (byteAt b p).toNat 16) (byteAt b p).toNat b (p + 1) false = insK b p from rfl] at h32
          rw [Int.toNat_of_nonneg (by omega)] at h32
          generalize insK b p = I at *
          simp -implicitDefEqProofs (maxSteps := 2000000) only [c12, ↓reduceIte, s_skip, s_ops0, s_seq, s_cond, s_opsK, s_seqK_n, s_cnd, s_nil, s_cons, s_wopsK, s_putK, o_mv, o_as, o_un, v_not, o_bs, v_bsK, v_lit_n, v_lit_c, o_app, v_app_o, e_t, e_put, e_get, e_res, e_keep_n, e_keep_c, e_keep1_s, List.length_nil, List.length_cons, Option.getD_some, Nat.reduceEqDiff, reduceCtorEq, true_and, Bool.not_true, Bool.false_eq_true, St.clr, outV, ownsV, owns1, ownL, List.map_cons, List.map_nil, Bool.or_false, PV.leaves, List.flatMap_cons, List.flatMap_nil, List.append_nil, List.cons_append, List.nil_append, List.all_cons, List.all_nil, Bool.true_and, Bool.and_self, PV.cells, datL, Nat.reduceMul, Nat.reduceBEq, Nat.reduceLeDiff, BEq.rfl, List.getElem?_cons_zero, Option.bind_some, kp_b, kp_i, kp_s, kp_u, rk_b, rk_i, rk_s, rk_u, rl_i, ol_b, kp_p, rk_p, kp_lo, rk_lo, m_lf, m_n, m_c, m_all, e_asg_o, dw_n, dw_i, dw_p, plT, lit_n, lit_c, List.reduceReplicate, List.set_cons_zero, Nat.lt_add_one, Nat.zero_add, Nat.add_zero, or_false, ta_i, ta_p, pc_p, o_callp, v_callp]
          refine ⟨by simp only [hps, List.length_map]; omega, ?_⟩
          refine pcall_i h32 rfl rfl ?_
          cases hs : I.2.2 with
          | true =>
            rw [hs] at hr
            rw [if_pos rfl] at hr
            subst hr
            simp -implicitDefEqProofs (maxSteps := 2000000) only [c12, hs, Ins.c, ↓reduceIte, s_exit, s_ret, s_ops0, s_seq, s_cond, s_opsK, s_seqK_n, s_seqK_e, s_seqK_r, s_blkK_e, s_loopK_e, s_cnd, s_nil, s_cons, s_wopsK, s_putK, o_mv, o_as, v_part_f, v_atK, o_fa, v_fa_p, o_ld, v_ld_p, v_ldC, o_st, v_st_p, v_stCK, o_nc, v_nc_p, o_bd, v_agK, v_bd_n, v_bd_c, o_bs, v_bsK, v_lit_n, v_lit_c, o_lns, v_lns, o_app, v_app_o, e_t, e_k, e_put, e_get, e_res, e_keep_n, e_keep_c, e_keep1_s, List.length_nil, List.length_cons, Option.getD_some, Nat.reduceEqDiff, Nat.reduceAdd, reduceCtorEq, true_and, and_true, Bool.false_eq_true, s_ret_r, s_retX, s_cells_n, t_tp, t_n, t_c, t_1l, t_1a, t_ln, t_lc, t_i, t_l, t_oo, r_n, r_t, r_c, r_cons, r_cell, r_part_t, one_2, outV, ownsV, owns1, ownL, List.map_cons, List.map_nil, List.any_cons, List.any_nil, Bool.or_false, Bool.or_self, List.append_nil, List.cons_append, List.nil_append, List.all_cons, List.all_nil, Bool.and_true, Bool.true_and, Bool.and_self, PV.cells, cellL, datL, fillL, Nat.reduceMul, Nat.reduceBEq, Nat.reduceLeDiff, Nat.le_refl, BEq.rfl, List.take_zero, List.drop_zero, List.take_succ_cons, List.drop_succ_cons, List.drop_nil, List.take_nil, List.getElem?_cons_zero, List.getElem?_cons_succ, Option.bind_some, kp_b, kp_i, kp_s, kp_u, rk_b, rk_i, rk_s, rk_u, rl_i, rl_s, ol_i, ol_s, kp_p, rk_p, kp_lo, rk_lo, m_lf, m_ag, m_n, m_c, m_all, e_asg_n, e_asg_o, st_b, d_n, d_c, dw_n, dw_i, dw_s, plT, ne_eq, not_false_eq_true, lit_n, lit_c, List.reduceReplicate, List.set_cons_zero, Nat.lt_add_one, Nat.zero_add, Nat.add_zero, true_or, or_true, or_false, fc_b, fc_i, fc_s, kl_b, kl_i, kl_s, kl_p, kl_lo, kf_s, cp_st, isC, Nat.reduceMod, Nat.reduceDiv]
            first | exact ⟨by rw [hls, List.length_map]; omega, rfl⟩ | (rw [hls, List.length_map]; omega)
          | false =>
            rw [hs] at hr
            rw [if_neg (by decide)] at hr
            simp -implicitDefEqProofs (maxSteps := 2000000) only [c12, hs, hw, Ins.c, ↓reduceIte, s_skip, s_ops0, s_seq, s_cond, s_opsK, s_seqK_n, s_blkK_n, s_loopK_n, s_cnd, s_nil, s_cons, s_wopsK, s_putK, o_mv, o_as, o_bin, v_add, v_part_f, v_atK, o_fa, v_fa_p, o_ld, v_ld_p, v_ldC, o_nc, v_nc_p, o_bs, v_bsK, v_lit_n, v_lit_c, o_app, v_app_o, e_t, e_k, e_put, e_get, e_res, e_keep_n, e_keep_c, e_keep1_s, List.length_nil, List.length_cons, Option.getD_some, Nat.reduceEqDiff, Nat.reduceAdd, reduceCtorEq, true_and, Bool.false_eq_true, outV, ownsV, owns1, ownL, List.map_cons, List.map_nil, List.any_cons, List.any_nil, Bool.or_false, Bool.or_self, List.append_nil, List.nil_append, List.all_cons, List.all_nil, Bool.true_and, Bool.and_self, PV.cells, datL, Nat.reduceMul, Nat.reduceBEq, Nat.reduceLeDiff, BEq.rfl, List.getElem?_cons_zero, List.getElem?_cons_succ, kp_b, kp_i, kp_s, kp_u, rk_b, rk_i, rk_s, rk_u, rl_i, rl_s, ol_i, ol_s, kp_p, rk_p, kp_lo, rk_lo, m_lf, m_ag, m_n, m_c, m_all, e_asg_o, e_head, e_headK, kC_n, kC_c, pO_n, pO_p, pO_i, pO_s, pO_l, d_n, d_c, dw_n, dw_i, dw_s, List.range_zero, plT, lit_n, lit_c, List.reduceReplicate, List.set_cons_zero, Nat.lt_add_one, Nat.zero_add, Nat.add_zero, or_false, fc_b, fc_i, fc_s, kl_b, kl_i, kl_s, kl_p, kl_lo, kf_s, cp_st, isC, Nat.reduceMod, Nat.reduceDiv]
            exact ⟨by rw [hls, List.length_map]; omega, ih (i + 1) I.2.1 (code ++ [I.1]) (pl ++ [(p : Int)]) _ _ (by simp [Ins.c, hls]) (by simp [hps]) (by omega) hle (by simp [hl]) (by simp; omega) hr Z hZ⟩
  refine R_i [(0, 256)] [] c12_ok rfl (by simp) ?_
  simp -implicitDefEqProofs (maxSteps := 2000000) only [c12, ↓reduceIte, s_skip, s_ret, s_ops0, s_seq, s_cond, s_opsK, s_seqK_n, s_seqK_r, s_cnd, s_nil, s_cons, s_wopsK, s_putK, o_mv, o_as, o_bin, v_gtr, o_al, o_bx, o_st, v_st_p, v_stCK, o_bd, v_agK, v_bd_n, v_bd_c, o_lns, v_lns, e_t, e_k, e_put, e_get, e_res, e_keep_n, e_keep_c, e_keep1_s, St.init, enum, List.length_nil, List.length_cons, Option.getD_some, Nat.reduceEqDiff, Nat.reduceAdd, reduceCtorEq, true_and, and_true, Bool.false_eq_true, decide_eq_true_eq, s_ret_r, s_retX, s_cells_n, t_tp, t_n, t_c, t_1l, t_1a, t_ln, t_lc, t_i, t_l, t_oo, r_n, r_t, r_c, r_cons, r_cell, r_part_t, one_2, List.map_cons, List.map_nil, PV.leaves, List.flatMap_cons, List.flatMap_nil, List.append_nil, List.cons_append, List.nil_append, List.all_cons, List.all_nil, Bool.and_true, Bool.true_and, Bool.and_self, PV.cells, cellL, fillL, Nat.reduceMul, Nat.reduceBEq, Nat.reduceLeDiff, Nat.zero_le, Nat.le_refl, List.take_zero, List.drop_zero, List.take_succ_cons, List.drop_succ_cons, List.drop_nil, List.take_nil, List.getElem?_cons_zero, Option.bind_some, kp_b, kp_i, kp_s, kc_b, kc_i, kc_s, kp_p, kc_p, kc_l, m_lf, m_ag, m_n, m_c, m_all, e_asg_n, e_asg_p, st_b, d_n, d_c, dw_n, dw_p, plT, ne_eq, not_false_eq_true, Nat.zero_add, Nat.add_zero, true_or, or_true, ta_p, pc_p, o_callp, v_callp, v_bx_a]
  with_reducible refine ite_pr (fun h => ?_) (fun h => ?_)
  · rw [if_pos (by omega)] at hr
    subst hr
    all_goals first | exact ⟨rfl, rfl, rfl⟩ | exact ⟨⟨rfl, rfl⟩, rfl, rfl⟩ | exact ⟨rfl, rfl⟩
  rw [if_neg (by omega)] at hr
  refine pcall_i (r30 (X := X) b 0 false hb) rfl rfl ?_
  simp -implicitDefEqProofs (maxSteps := 2000000) only [c12, ↓reduceIte, s_ops0, s_seq, s_opsK, s_seqK_n, s_nil, s_cons, s_wopsK, s_putK, o_mv, o_as, o_bin, v_shl, e_t, e_k, e_put, e_get, e_res, e_keep_n, e_keep_c, e_keep1_s, e_asg_i, Option.getD_some, Nat.reduceEqDiff, reduceCtorEq, Bool.false_eq_true, outV, ownsV, owns1, ownL, List.map_cons, List.map_nil, PV.leaves, List.flatMap_cons, List.flatMap_nil, List.append_nil, List.getElem?_cons_zero, Option.bind_some, ol_i, m_lf, m_n, m_c, d_n, d_c, dw_n, dw_p, ta_p, fc_b, fc_i, fc_s, kl_b, kl_i, kl_s, kl_p, kf_s, cp_st, pc_p, o_callp, v_callp]
  refine ⟨by decide, ?_⟩
  refine pcall_i (r30 (X := X) b (nxP b 0) (nxS b 0 false) hb) rfl rfl ?_
  simp -implicitDefEqProofs (maxSteps := 2000000) only [c12, hnn, ↓reduceIte, s_ops0, s_seq, s_block, s_loop, s_opsK, s_seqK_n, s_nil, s_cons, s_wopsK, s_putK, o_mv, o_as, o_bin, v_or, e_t, e_k, e_put, e_get, e_res, e_keep_n, e_keep_c, e_keep1_s, e_asg_i, Option.getD_some, Nat.reduceEqDiff, reduceCtorEq, Bool.false_eq_true, outV, ownsV, owns1, ownL, List.map_cons, List.map_nil, List.nil_append, Nat.reduceMul, Nat.reduceBEq, kp_b, kp_i, kp_s, ol_i, kp_p, kp_lo, m_lf, m_n, m_c, m_all, e_asg_n, e_head, e_headK, kC_n, kC_c, pO_n, pO_p, pO_i, pO_s, pO_l, d_n, d_c, List.range_zero, plT, Nat.add_zero, fc_b, fc_i, fc_s, kl_b, kl_i, kl_s, kl_p, kf_s, cp_st]
  by_cases h2 : b.size < 2
  · rw [if_pos h2] at hr
    subst hr
    have e : nxS b (nxP b 0) (nxS b 0 false) = true := by unfold nxS nxP; (repeat' split) <;> first | rfl | omega
    rw [e]
    intro Z hZ; apply hZ
    simp -implicitDefEqProofs (maxSteps := 2000000) only [c12, ↓reduceIte, s_skip, s_exit, s_ret, s_ops0, s_seq, s_cond, s_block, s_opsK, s_seqK_n, s_seqK_e, s_seqK_r, s_blkK_e, s_loopK_e, s_cnd, s_nil, s_cons, s_wopsK, s_putK, o_mv, o_as, o_bin, v_lss, v_part_f, v_atK, o_fa, v_fa_p, o_ld, v_ld_p, v_ldC, o_st, v_st_p, v_stCK, o_nc, v_nc_p, o_bd, v_agK, v_bd_n, v_bd_c, o_lns, v_lns, e_t, e_k, e_put, e_get, e_res, e_keep_n, e_keep_c, e_keep1_s, e_asg_i, List.length_nil, List.length_cons, Option.getD_some, Nat.reduceEqDiff, Nat.reduceAdd, reduceCtorEq, true_and, and_true, Bool.false_eq_true, decide_eq_true_eq, s_ret_r, s_retX, s_cells_n, t_tp, t_n, t_c, t_1l, t_1a, t_ln, t_lc, t_i, t_l, t_oo, r_n, r_t, r_c, r_cons, r_cell, r_part_t, one_2, List.map_cons, List.map_nil, PV.leaves, List.flatMap_cons, List.flatMap_nil, List.append_nil, List.cons_append, List.nil_append, List.all_cons, List.all_nil, Bool.and_true, Bool.true_and, Bool.and_self, PV.cells, cellL, fillL, Nat.reduceMul, Nat.reduceBEq, Nat.reduceLeDiff, Nat.le_refl, List.take_zero, List.drop_zero, List.take_succ_cons, List.drop_succ_cons, List.drop_nil, List.take_nil, List.getElem?_cons_zero, List.getElem?_cons_succ, Option.bind_some, kp_b, kp_i, kp_s, kp_p, kp_lo, m_lf, m_ag, m_n, m_c, m_all, e_asg_n, st_b, d_n, d_c, dw_n, dw_p, plT, ne_eq, not_false_eq_true, Nat.zero_add, Nat.add_zero, true_or, or_true, ta_p, pc_p, o_callp, v_callp]
    with_reducible refine ite_pr (fun h => ?_) (fun h => ?_)
    · refine pcall_i (r30 (X := X) b _ true hb) rfl rfl ?_
      have e : nxS b (nxP b (nxP b 0)) true = true := by unfold nxS; split <;> rfl
      rw [e]
      simp -implicitDefEqProofs (maxSteps := 2000000) only [c12, ↓reduceIte, s_exit, s_ret, s_ops0, s_seq, s_cond, s_opsK, s_seqK_n, s_seqK_e, s_seqK_r, s_blkK_e, s_loopK_e, s_cnd, s_nil, s_cons, s_wopsK, s_putK, o_mv, o_as, v_part_f, v_atK, o_fa, v_fa_p, o_ld, v_ld_p, v_ldC, o_st, v_st_p, v_stCK, o_nc, v_nc_p, o_bd, v_agK, v_bd_n, v_bd_c, o_lns, v_lns, e_t, e_k, e_put, e_get, e_res, e_keep_n, e_keep_c, e_keep1_s, e_asg_i, List.length_nil, List.length_cons, Option.getD_some, Nat.reduceEqDiff, Nat.reduceAdd, reduceCtorEq, true_and, and_true, Bool.false_eq_true, s_ret_r, s_retX, s_cells_n, t_tp, t_n, t_c, t_1l, t_1a, t_ln, t_lc, t_i, t_l, t_oo, r_n, r_t, r_c, r_cons, r_cell, r_part_t, one_2, outV, ownsV, owns1, ownL, List.map_cons, List.map_nil, List.append_nil, List.cons_append, List.nil_append, List.all_cons, List.all_nil, Bool.and_true, Bool.true_and, Bool.and_self, PV.cells, cellL, fillL, Nat.reduceMul, Nat.reduceBEq, Nat.reduceLeDiff, Nat.le_refl, List.take_zero, List.drop_zero, List.take_succ_cons, List.drop_succ_cons, List.drop_nil, List.take_nil, List.getElem?_cons_zero, List.getElem?_cons_succ, Option.bind_some, kp_b, kp_i, kp_s, ol_i, kp_p, kp_lo, m_lf, m_ag, m_n, m_c, m_all, e_asg_n, st_b, d_n, d_c, plT, ne_eq, not_false_eq_true, Nat.zero_add, Nat.add_zero, true_or, or_true, fc_b, fc_i, fc_s, kl_b, kl_i, kl_s, kl_p, kl_lo, kf_s, cp_st, isC, Nat.reduceMod, Nat.reduceDiv]
      all_goals first | rfl | trivial
    · first | rfl | trivial
  · rw [if_neg h2] at hr
    have e : nxS b (nxP b 0) (nxS b 0 false) = false := by unfold nxS nxP; (repeat' split) <;> first | rfl | omega
    have e2 : nxP b (nxP b 0) = 2 := by unfold nxP; (repeat' split) <;> omega
    rw [e, e2]
    exact key n 0 2 [] [] [] [] rfl rfl (by omega) (by omega) rfl (Nat.le_refl _) hr
end Go.Proofs.YthcpaohmajjopaaDoor.I
set_option linter.unusedVariables false
set_option linter.unusedSimpArgs false
namespace Go.Proofs.YthcpaohmajjopaaDoor.I
open Go Go.Proofs.YthcpaohmajjopaaDoor.AM
variable {X : Cx}
theorem rep_len {v : List L} : ∀ i : Nat, (List.replicate i v).flatten.length = i * v.length := by
  intro i
  simp
theorem fill_step (C v : List L) (i : Nat) : fillL ((List.replicate i v).flatten ++ C.drop (i * v.length)) (i * v.length) v = (List.replicate (i + 1) v).flatten ++ C.drop ((i + 1) * v.length) := by
  unfold fillL
  rw [List.take_left' (rep_len i), ← List.drop_drop, List.drop_left' (rep_len i), List.drop_drop, List.replicate_succ', List.flatten_append, show (i + 1) * v.length = i * v.length + v.length by rw [Nat.add_mul, Nat.one_mul]]
  simp
theorem flat_len {sz : Nat} : ∀ (xs : List (List L)), (∀ y ∈ xs, y.length = sz) → xs.flatten.length = xs.length * sz
  | [], _ => by simp
  | x :: r, h => by
    rw [List.flatten_cons, List.length_append, flat_len r (fun y hy => h y (List.mem_cons_of_mem _ hy)), h x (List.mem_cons_self ..), List.length_cons, Nat.add_mul, Nat.one_mul, Nat.add_comm]
def okL (x : L) : Prop := flatL x = true ∨ x = .undef
theorem okL_kill {x : L} (h : okL x) (p : Nat) : killP p x = x := by
  rcases h with h | rfl
  · cases x <;> first | rfl | (simp [flatL] at h)
  · rfl
theorem okLs_kill {l : List L} (h : ∀ x ∈ l, okL x) (p : Nat) : l.map (killP p) = l := by
  rw [List.map_congr_left (fun x hx => okL_kill (h x hx) p), List.map_id']
theorem okLs_to {m : Nat} {ρ : List (Nat × Nat)} {dn : List Nat} : ∀ {l : List L}, (∀ x ∈ l, okL x) → leavesTo m ρ dn l l
  | [], _ => trivial
  | x :: l, h => by
    refine ⟨?_, okLs_to (fun y hy => h y (List.mem_cons_of_mem _ hy))⟩
    rcases h x (List.mem_cons_self ..) with h1 | rfl
    · cases x <;> first | exact ⟨rfl, rfl⟩ | (simp [flatL] at h1)
    · trivial
/-- a row that is spoilt bit by bit -/
theorem spoil_cs (v : List L) (hv : ∀ x ∈ v, okL x) (xs : List (List L)) (hx : ∀ x ∈ xs, x.length = v.length) (hf : ∀ x ∈ xs, ∀ c ∈ x, okL c) (k : Nat) : ∃ cs : Nat → List L, cs 0 = xs.flatten ++ List.replicate k L.undef ∧ (∀ i, (cs i).take (i * v.length) ++ v ++ (cs i).drop (i * v.length + v.length) = cs (i + 1)) ∧ (∀ i, i ≤ xs.length → (cs i).length = xs.length * v.length + k) ∧
    cs xs.length = (List.replicate xs.length v).flatten ++ List.replicate k L.undef ∧ (∀ i, ∀ x ∈ cs i, okL x) := by
  have hl := flat_len xs hx
  generalize hC : xs.flatten ++ List.replicate k L.undef = C
  have hCl : C.length = xs.length * v.length + k := by rw [← hC, List.length_append, hl, List.length_replicate]
  have hCo : ∀ x ∈ C, okL x := by
    intro x hx
    rw [← hC] at hx
    rcases List.mem_append.1 hx with h | h
    · obtain ⟨y, h1, h2⟩ := List.mem_flatten.1 h
      exact hf y h1 x h2
    · exact .inr (List.eq_of_mem_replicate h)
  refine ⟨fun i => (List.replicate i v).flatten ++ C.drop (i * v.length), by simp, fun i => fill_step C v i, fun i hi => ?_, ?_, fun i x hx => ?_⟩
  · have : i * v.length ≤ xs.length * v.length := Nat.mul_le_mul_right _ hi
    simp only [List.length_append, rep_len, List.length_drop, hCl]
    omega
  · simp only
    rw [← hC, List.drop_left' hl]
  · rcases List.mem_append.1 hx with h | h
    · obtain ⟨y, h1, h2⟩ := List.mem_flatten.1 h
      rw [List.eq_of_mem_replicate h1] at h2
      exact hv x h2
    · exact hCo x (List.mem_of_mem_drop h)
theorem undef_drop {A : List L} {k n : Nat} (h : A.length = n) : ∀ x ∈ (A ++ List.replicate k L.undef).drop n, x = L.undef := by
  rw [List.drop_left' h]
  intro x hx
  exact List.eq_of_mem_replicate hx
theorem r26 (m : Int) (xs : List (List L)) (hx : ∀ x ∈ xs, x.length = 1) (hf : ∀ x ∈ xs, ∀ c ∈ x, okL c) (hn : xs.length ≤ 100000) (k cap : Nat) (h1 : xs.length ≤ cap) (h2 : cap * 1 ≤ xs.length * 1 + k) :
    R X Tryd.prog 26 [.lf (.sl 0 0 1 xs.length cap), .lf (.int .i64 m)] [xs.flatten ++ List.replicate k .undef] (.tp []) [(List.replicate xs.length [L.int .i64 m]).flatten ++ List.replicate k .undef] := by
  obtain ⟨cs, c0, c1, c2, c3, c6⟩ := spoil_cs [L.int .i64 m] (by intro x hx; simp at hx; subst hx; exact .inl rfl) xs hx hf k
  have c4 := undef_drop (A := (List.replicate xs.length [L.int .i64 m]).flatten) (k := k) (n := xs.length) (by rw [rep_len]; simp)
  rw [← c3] at c4
  rw [← c0, ← c3]
  simp only [List.length_cons, List.length_nil, Nat.zero_add, Nat.mul_one] at c1 c2 h2
  have c5 := c2 xs.length (Nat.le_refl _)
  have c7 := fun i p => okLs_kill (c6 i) p
  generalize hN : xs.length = n at *
  clear c0 c3 hx hf
  have key : ∀ (j i : Nat) (ce : List (Nat × List L)), i + j = n → (ce = [(0, cs i)] ∨ ce = [(0, cs i), (0, cs i)]) → LoopAt X Tryd.prog c26_4 [0, 1, 4]
      (blkK 0 (seqK X Tryd.prog (AC.ops 0 [⟨some 15, .mv (.t 0), none⟩, ⟨some 16, .mv (.t 1), none⟩, ⟨some 17, .bs 3 1 1 [.int .i64 0] [(0, .t 16)], none⟩, ⟨some 18, .app 3 1 8 (.t 15) (.t 17), none⟩] []) (retS [] [] 1 [] (PV.tp []) [cs n])))
      { m := 1, tm := [(0, PV.lf (L.sl 0 0 1 n cap)), (1, PV.lf (L.int IntKind.i64 m)), (4, PV.lf (L.int IntKind.i64 i))], ce := ce } := by
    intro j
    induction j with
    | zero =>
      intro i ce hi hce
      obtain rfl : i = n := by omega
      intro Z hZ; apply hZ
      have hlt : ¬ (i : Int) < (i : Int) := by omega
      rcases hce with rfl | rfl
      all_goals
        simp -implicitDefEqProofs (maxSteps := 2000000) only [c26, hlt, c7, Nat.mul_one, ↓reduceIte, s_exit, s_ops0, s_seq, s_cond, s_opsK, s_seqK_n, s_seqK_e, s_blkK_e, s_loopK_e, s_cnd, s_nil, s_cons, s_wopsK, s_putK, o_mv, o_bin, v_lss, o_bs, v_bsK, v_lit_n, v_lit_c, o_len, o_app, e_t, e_put, e_get, e_res, e_keep_n, e_keep_c, e_keep1_s, List.length_nil, List.length_cons, Option.getD_some, Nat.reduceEqDiff, reduceCtorEq, true_and, and_true, Bool.false_eq_true, decide_eq_true_eq, s_ret_n, s_retX, s_cells_n, t_tp, t_n, r_n, List.map_cons, List.map_nil, List.append_nil, List.all_cons, List.all_nil, Bool.and_true, Bool.true_and, Bool.and_self, PV.cells, datL, Nat.reduceMul, Nat.reduceBEq, Nat.reduceLeDiff, kp_b, kp_i, rl_i, kp_lo, m_lf, m_n, m_c, m_all, dw_n, dw_i, plT, lit_n, lit_c, List.reduceReplicate, List.set_cons_zero, Nat.lt_add_one, Nat.zero_add, Nat.add_zero, s_cells_c, t_some, one_0, kp_sl, v_len_s, v_app_sl]
        exact ⟨by omega, cs i, rfl, by omega, c4, okLs_to (c6 i)⟩
    | succ j ih =>
      intro i ce hi hce
      intro Z hZ; apply hZ
      have hlt : (i : Int) < (n : Int) := by omega
      have w1 : IntKind.i64.wrap ((i : Int) + 1) = ((i + 1 : Nat) : Int) := by rw [w64 (by omega) (by omega)]; omega
      have c1i := c1 i
      have c2i := c2 i (by omega)
      rcases hce with rfl | rfl
      all_goals
        simp -implicitDefEqProofs (maxSteps := 2000000) only [c26, hlt, w1, Int.toNat_natCast, c1i, c2i, Nat.zero_add, Nat.mul_one, ↓reduceIte, s_skip, s_ops0, s_seq, s_cond, s_block, s_opsK, s_seqK_n, s_blkK_n, s_loopK_n, s_cnd, s_nil, s_cons, s_wopsK, s_putK, o_mv, o_as, o_bin, v_add, v_lss, o_ia, o_st, v_st_p, v_stCK, o_len, e_t, e_k, e_put, e_get, e_res, e_keep_n, e_keep_c, e_keep1_s, e_asg_i, List.length_nil, List.length_cons, Option.getD_some, Nat.reduceEqDiff, reduceCtorEq, true_and, decide_eq_true_eq, List.cons_append, List.nil_append, List.all_cons, List.all_nil, Bool.true_and, Bool.and_self, PV.cells, cellL, fillL, e_head, e_headK, kC_n, kC_c, pO_n, pO_i, st_i1, d_n, d_c, Nat.zero_add, rg_1, pO_sl, v_ia_s, v_len_s]
        first
          | exact ⟨⟨by omega, by omega⟩, by omega, ih (i + 1) _ (by omega) (.inl rfl) Z hZ⟩
          | exact ⟨⟨by omega, by omega⟩, by omega, ih (i + 1) _ (by omega) (.inr rfl) Z hZ⟩
  refine R_i [] [] c26_ok rfl (by simp) ?_
  simp -implicitDefEqProofs (maxSteps := 2000000) only [c26, ↓reduceIte, s_ops0, s_seq, s_block, s_loop, s_opsK, s_seqK_n, s_nil, s_cons, s_wopsK, o_as, e_k, e_get, e_res, e_keep_n, e_keep_c, e_keep1_s, e_asg_i, St.init, enum, List.length_nil, List.length_cons, Nat.reduceEqDiff, reduceCtorEq, List.cons_append, List.nil_append, e_head, e_headK, kC_n, kC_c, pO_n, pO_i, Nat.zero_add, rg_1, pO_sl]
  exact key n 0 _ (by omega) (.inr rfl)
theorem r26n (m : Int) : R X Tryd.prog 26 [.lf (.lst .nl 1 [] []), .lf (.int .i64 m)] [] (.tp []) [] := by
  refine R_i [] [] c26_ok rfl (by simp) ?_
  simp -implicitDefEqProofs (maxSteps := 2000000) only [c26, ↓reduceIte, s_ops0, s_seq, s_block, s_loop, s_opsK, s_seqK_n, s_nil, s_cons, s_wopsK, o_as, e_k, e_get, e_res, e_keep_n, e_keep_c, e_keep1_s, e_asg_i, St.init, enum, List.length_nil, Nat.reduceEqDiff, reduceCtorEq, List.append_nil, e_head, e_headK, kC_n, pO_n, pO_i, pO_l, List.range_zero, Nat.zero_add]
  intro Z hZ; apply hZ
  have hlt : ¬ (0 : Int) < ((0 : Nat) : Int) := by omega
  simp -implicitDefEqProofs (maxSteps := 2000000) only [c26, hlt, ↓reduceIte, s_exit, s_ops0, s_seq, s_cond, s_opsK, s_seqK_n, s_seqK_e, s_blkK_e, s_loopK_e, s_cnd, s_nil, s_cons, s_wopsK, s_putK, o_mv, o_bin, v_lss, o_bs, v_bsK, v_lit_n, v_lit_c, o_len, v_len, o_app, v_app_n, e_t, e_put, e_get, e_res, e_keep_n, e_keep_c, e_keep1_s, List.length_nil, List.length_cons, Option.getD_some, Nat.reduceEqDiff, reduceCtorEq, and_true, Bool.false_eq_true, decide_eq_true_eq, s_ret_n, s_retX, s_cells_n, t_tp, t_n, r_n, List.map_cons, List.map_nil, Bool.or_false, List.append_nil, List.all_cons, List.all_nil, Bool.and_true, Bool.and_self, PV.cells, datL, Nat.reduceMul, Nat.reduceBEq, Nat.reduceLeDiff, Nat.zero_le, kp_b, kp_i, rl_i, kp_lnl, kp_lo, m_lf, m_n, m_c, m_all, dw_n, dw_i, plT, lit_n, lit_c, List.reduceReplicate, List.set_cons_zero, Nat.lt_add_one, Nat.zero_add, Nat.add_zero, or_false, implies_true, one_0]
  done
/-- an instruction that is spoilt -/
def spV (m : Int) : List L := [.int .i64 m, .int .i64 0, .int .i64 0, .int .i64 0, .str ⟨#[]⟩, .int .u64 0, .int .u64 0, .int .u64 0, .int .u64 0]
theorem r27 (m : Int) (xs : List (List L)) (hx : ∀ x ∈ xs, x.length = 9) (hf : ∀ x ∈ xs, ∀ c ∈ x, okL c) (hn : xs.length ≤ 100000) (k cap : Nat) (h1 : xs.length ≤ cap) (h2 : cap * 9 ≤ xs.length * 9 + k) :
    R X Tryd.prog 27 [.lf (.sl 0 0 9 xs.length cap), .lf (.int .i64 m)] [xs.flatten ++ List.replicate k .undef] (.tp []) [(List.replicate xs.length (spV m)).flatten ++ List.replicate k .undef] := by
  obtain ⟨cs, c0, c1, c2, c3, c6⟩ := spoil_cs (spV m) (by intro x hx; simp [spV] at hx; rcases hx with rfl | rfl | rfl | rfl <;> exact .inl rfl) xs hx hf k
  have c4 := undef_drop (A := (List.replicate xs.length (spV m)).flatten) (k := k) (n := xs.length * 9) (by rw [rep_len]; rfl)
  rw [← c3] at c4
  rw [← c0, ← c3]
  simp only [show (spV m).length = 9 from rfl] at c1 c2 h2
  unfold spV at c1
  have c5 := c2 xs.length (Nat.le_refl _)
  have c7 := fun i p => okLs_kill (c6 i) p
  generalize hN : xs.length = n at *
  clear c0 c3 hx hf
  have key : ∀ (j i : Nat) (ce : List (Nat × List L)), i + j = n → (ce = [(0, cs i)] ∨ ce = [(0, cs i), (0, cs i)]) → LoopAt X Tryd.prog c27_4 [0, 1, 4]
      (blkK 0 (seqK X Tryd.prog (AC.ops 0 [⟨some 16, .mv (.t 0), none⟩, ⟨some 17, .mv (.t 1), none⟩, ⟨some 18, .bd [.int .i64 0, .int .i64 0, .int .i64 0, .int .i64 0, .str ⟨#[]⟩, .int .u64 0, .int .u64 0, .int .u64 0, .int .u64 0] [(0, 1, .t 17)], none⟩, ⟨some 19, .bs 52 9 1 [.int .i64 0, .int .i64 0, .int .i64 0, .int .i64 0, .str ⟨#[]⟩, .int .u64 0, .int .u64 0, .int .u64 0, .int .u64 0] [(0, .t 18)], none⟩, ⟨some 20, .app 52 9 80 (.t 16) (.t 19), none⟩] []) (retS [] [] 1 [] (PV.tp []) [cs n])))
      { m := 1, tm := [(0, PV.lf (L.sl 0 0 9 n cap)), (1, PV.lf (L.int IntKind.i64 m)), (4, PV.lf (L.int IntKind.i64 i))], ce := ce } := by
    intro j
    induction j with
    | zero =>
      intro i ce hi hce
      obtain rfl : i = n := by omega
      intro Z hZ; apply hZ
      have hlt : ¬ (i : Int) < (i : Int) := by omega
      rcases hce with rfl | rfl
      all_goals
        simp -implicitDefEqProofs (maxSteps := 2000000) only [c27, hlt, c7, Nat.zero_add, ↓reduceIte, s_exit, s_ops0, s_seq, s_cond, s_opsK, s_seqK_n, s_seqK_e, s_blkK_e, s_loopK_e, s_cnd, s_nil, s_cons, s_wopsK, s_putK, o_mv, o_bin, v_lss, o_bd, v_agK, v_bd_n, v_bd_c, o_bs, v_bsK, v_lit_n, v_lit_c, o_len, o_app, e_t, e_put, e_get, e_res, e_keep_n, e_keep_c, e_keep1_s, List.length_nil, List.length_cons, Option.getD_some, Nat.reduceEqDiff, Nat.reduceAdd, reduceCtorEq, true_and, and_true, Bool.false_eq_true, decide_eq_true_eq, s_ret_n, s_retX, s_cells_n, t_tp, t_n, r_n, List.map_cons, List.map_nil, List.append_nil, List.cons_append, List.nil_append, List.all_cons, List.all_nil, Bool.and_true, Bool.true_and, Bool.and_self, PV.cells, cellL, datL, fillL, Nat.reduceMul, Nat.reduceBEq, Nat.reduceLeDiff, List.take_zero, List.drop_zero, List.drop_succ_cons, kp_b, kp_i, kp_s, rl_i, rl_s, kp_lo, m_lf, m_ag, m_n, m_c, m_all, dw_n, dw_i, dw_s, plT, ne_eq, not_false_eq_true, lit_n, lit_c, List.reduceReplicate, List.set_cons_zero, Nat.lt_add_one, Nat.zero_add, Nat.add_zero, s_cells_c, t_some, one_0, kp_sl, v_len_s, v_app_sl]
        exact ⟨by omega, cs i, rfl, by omega, c4, okLs_to (c6 i)⟩
    | succ j ih =>
      intro i ce hi hce
      intro Z hZ; apply hZ
      have hlt : (i : Int) < (n : Int) := by omega
      have w1 : IntKind.i64.wrap ((i : Int) + 1) = ((i + 1 : Nat) : Int) := by rw [w64 (by omega) (by omega)]; omega
      have c1i := c1 i
      have c2i := c2 i (by omega)
      rcases hce with rfl | rfl
      all_goals
        simp -implicitDefEqProofs (maxSteps := 2000000) only [c27, hlt, w1, Int.toNat_natCast, c1i, c2i, Nat.zero_add, ↓reduceIte, s_skip, s_ops0, s_seq, s_cond, s_block, s_opsK, s_seqK_n, s_blkK_n, s_loopK_n, s_cnd, s_nil, s_cons, s_wopsK, s_putK, o_mv, o_as, o_bin, v_add, v_lss, o_ia, o_st, v_st_p, v_stCK, o_bd, v_agK, v_bd_n, v_bd_c, o_len, e_t, e_k, e_put, e_get, e_res, e_keep_n, e_keep_c, e_keep1_s, e_asg_i, List.length_nil, List.length_cons, Option.getD_some, Nat.reduceEqDiff, Nat.reduceAdd, reduceCtorEq, true_and, decide_eq_true_eq, List.cons_append, List.nil_append, List.all_cons, List.all_nil, Bool.true_and, Bool.and_self, PV.cells, cellL, fillL, Nat.reduceLeDiff, List.take_zero, List.drop_zero, List.drop_succ_cons, e_head, e_headK, kC_n, kC_c, pO_n, pO_i, st_b, d_n, d_c, ne_eq, not_false_eq_true, Nat.zero_add, rg_1, pO_sl, v_ia_s, v_len_s]
        first
          | exact ⟨⟨by omega, by omega⟩, by omega, ih (i + 1) _ (by omega) (.inl rfl) Z hZ⟩
          | exact ⟨⟨by omega, by omega⟩, by omega, ih (i + 1) _ (by omega) (.inr rfl) Z hZ⟩
  refine R_i [] [] c27_ok rfl (by simp) ?_
  simp -implicitDefEqProofs (maxSteps := 2000000) only [c27, ↓reduceIte, s_ops0, s_seq, s_block, s_loop, s_opsK, s_seqK_n, s_nil, s_cons, s_wopsK, o_as, e_k, e_get, e_res, e_keep_n, e_keep_c, e_keep1_s, e_asg_i, St.init, enum, List.length_nil, List.length_cons, Nat.reduceEqDiff, reduceCtorEq, List.cons_append, List.nil_append, e_head, e_headK, kC_n, kC_c, pO_n, pO_i, Nat.zero_add, rg_1, pO_sl]
  exact key n 0 _ (by omega) (.inr rfl)
end Go.Proofs.YthcpaohmajjopaaDoor.I
set_option linter.unusedVariables false
set_option linter.unusedSimpArgs false
namespace Go.Proofs.YthcpaohmajjopaaDoor.I
open Go Go.Proofs.YthcpaohmajjopaaDoor.AM
/-! what is written is read back -/
def At (b : ByteArray) (p : Nat) (l : List UInt8) : Prop := ∃ post, b.data.toList.drop p = l ++ post
theorem At.app {b : ByteArray} {p : Nat} {l1 l2 : List UInt8} (h : At b p (l1 ++ l2)) : At b p l1 ∧ At b (p + l1.length) l2 := by
  obtain ⟨post, h⟩ := h
  refine ⟨⟨l2 ++ post, by rw [h, List.append_assoc]⟩, ⟨post, ?_⟩⟩
  rw [← List.drop_drop, h, List.append_assoc, List.drop_left' rfl]
theorem At.get {b : ByteArray} {p : Nat} {l : List UInt8} (h : At b p l) {j : Nat} {y : UInt8} (hy : l[j]? = some y) : byteAt b ((p + j : Nat) : Int) = y.toNat ∧ p + j < b.size := by
  obtain ⟨post, h⟩ := h
  have h1 : b.data.toList[p + j]? = some y := by
    rw [← List.getElem?_drop, h, List.getElem?_append_left (List.getElem?_eq_some_iff.1 hy).1, hy]
  have h2 : p + j < b.data.toList.length := (List.getElem?_eq_some_iff.1 h1).1
  refine ⟨?_, by rw [size_len] at h2; exact h2⟩
  unfold byteAt
  rw [Int.toNat_natCast, List.getD_eq_getElem?_getD, h1]; rfl
theorem At.le {b : ByteArray} {p : Nat} {l : List UInt8} (h : At b p l) (hl : 0 < l.length) : p + l.length ≤ b.size := by
  have := (h.get (j := l.length - 1) (y := l[l.length - 1]) (List.getElem?_eq_getElem (by omega))).2
  omega
theorem At.ext {b : ByteArray} {p : Nat} {l : List UInt8} (h : At b p l) : (b.extract p (p + l.length)).data.toList = l := by
  obtain ⟨post, h⟩ := h
  rw [ba_ext, List.drop_take, h, show p + l.length - p = l.length by omega, List.take_left' rfl]
theorem ba_eq {a b : ByteArray} (h : a.data.toList = b.data.toList) : a = b := by
  cases a; cases b
  simp only at h
  rw [Array.ext' h]
theorem gA_at {b : ByteArray} {p : Nat} {a : Int} (h : At b p (numB a)) (h1 : -32768 ≤ a) (h2 : a ≤ 32767) (sh : Bool) : gA true b p sh = (a, p + 2, sh) := by
  have k0 := h.get (j := 0) rfl
  have k1 := h.get (j := 1) rfl
  rw [gA_ok sh (by omega)]
  have e0 : byteAt b (p : Int) = (a / 256) % 256 := by rw [← byI_nat]; exact k0.1
  have e1 : byteAt b ((p : Int) + 1) = a % 256 := by rw [← byI_nat]; exact k1.1
  unfold twoF
  rw [e0, e1]
  split
  · rw [show a / 256 % 256 * 256 + a % 256 - 65536 = a by omega]
  · rw [show a / 256 % 256 * 256 + a % 256 = a by omega]
theorem gB_at {b : ByteArray} {p : Nat} {v : Int} (h : At b p [byI v]) (h1 : 0 ≤ v) (h2 : v ≤ 255) (sh : Bool) : gB true b p sh = (v, p + 1, sh) := by
  have k0 := h.get (j := 0) rfl
  rw [gB_ok sh (by omega)]
  have e0 : byteAt b (p : Int) = v % 256 := by rw [← byI_nat]; exact k0.1
  rw [e0, show v % 256 = v by omega]
theorem gT_at {b : ByteArray} {p : Nat} {t : ByteArray} (h : At b p ([byI t.size] ++ t.data.toList)) (h2 : t.size ≤ 255) (sh : Bool) : gT true b p sh = (t, p + 1 + t.size, sh) := by
  have k0 := h.app.1.get (j := 0) rfl
  have e0 : byteAt b (p : Int) = (t.size : Int) % 256 := by rw [← byI_nat]; exact k0.1
  have e1 : (byteAt b (p : Int)).toNat = t.size := by rw [e0]; omega
  have hle := h.le (by simp)
  have hx := h.app.2.ext
  simp only [List.length_append, List.length_cons, List.length_nil, size_len] at hle hx
  rw [gT_ok sh (by rw [e1]; omega), e1, show b.extract (p + 1) (p + 1 + t.size) = t from ba_eq hx]
theorem memB_get (s0 s1 s2 s3 : Nat) : ∀ (m j : Nat), j < m → (memB s0 s1 s2 s3 m)[j]? = some (byI ((wd s0 s1 s2 s3 (j / 8) / 2 ^ (8 * (j % 8)) % 256 : Nat) : Int))
  | 0, j, h => by omega
  | m + 1, j, h => by
    rw [memB]
    by_cases e : j = m
    · subst e
      rw [List.getElem?_append_right (by rw [memB_len]; exact Nat.le_refl _), memB_len, Nat.sub_self]; rfl
    · rw [List.getElem?_append_left (by rw [memB_len]; omega)]
      exact memB_get s0 s1 s2 s3 m j (by omega)
theorem W_wd {B : Nat → Nat} {q s : Nat} (hB : ∀ i, i < 8 → B (8 * q + i) = s / 2 ^ (8 * i) % 256) : ∀ i, i ≤ 8 → W B q i = s % 2 ^ (8 * i)
  | 0, _ => by simp [W, Nat.mod_one]
  | i + 1, h => by
    rw [W, W_wd hB i (by omega), hB i (by omega), show 8 * (i + 1) = 8 * i + 8 by omega, Nat.pow_add, Nat.mod_mul, show (2 : Nat) ^ 8 = 256 from rfl, Nat.mul_comm (2 ^ (8 * i))]
theorem gSet_at {b : ByteArray} {p : Nat} {s0 s1 s2 s3 : Nat} (h : At b p (memB s0 s1 s2 s3 32)) (h0 : s0 < 2 ^ 64) (h1 : s1 < 2 ^ 64) (h2 : s2 < 2 ^ 64) (h3 : s3 < 2 ^ 64) (sh : Bool) : gSet true b p sh = (((s0 : Int), (s1 : Int), (s2 : Int), (s3 : Int)), p + 32, sh) := by
  have hle := h.le (by rw [memB_len]; omega)
  rw [memB_len] at hle
  have hbt : ∀ j, j < 32 → bt b p j = wd s0 s1 s2 s3 (j / 8) / 2 ^ (8 * (j % 8)) % 256 := by
    intro j hj
    have k := (h.get (memB_get s0 s1 s2 s3 32 j hj)).1
    rw [byI_nat, ← bt_eq] at k
    omega
  have hW : ∀ q, q < 4 → W (bt b p) q 8 = wd s0 s1 s2 s3 q % 2 ^ (8 * 8) := by
    intro q hq
    refine W_wd (fun i hi => ?_) 8 (Nat.le_refl _)
    rw [hbt _ (by omega), show (8 * q + i) / 8 = q by omega, show (8 * q + i) % 8 = i by omega]
  have z : ∀ q, W (bt b p) q 8 % 2 ^ (min 64 (0 - 64 * q)) = 0 := fun q => by rw [show min 64 (0 - 64 * q) = 0 by omega, Nat.pow_zero, Nat.mod_one]
  have hr := rS_ok b p 256 0 rfl
  rw [z, z, z, z] at hr
  rw [sets_eq b p hle sh]
  refine congrArg (fun t => (t, p + 32, sh)) (hr.trans ?_)
  rw [hW 0 (by omega), hW 1 (by omega), hW 2 (by omega), hW 3 (by omega)]
  simp only [wd, if_true, Nat.one_ne_zero, if_false, Nat.reduceEqDiff]
  rw [Nat.mod_eq_of_lt h0, Nat.mod_eq_of_lt h1, Nat.mod_eq_of_lt h2, Nat.mod_eq_of_lt h3]
end Go.Proofs.YthcpaohmajjopaaDoor.I
set_option linter.unusedVariables false
set_option linter.unusedSimpArgs false
namespace Go.Proofs.YthcpaohmajjopaaDoor.I
open Go Go.Proofs.YthcpaohmajjopaaDoor.AM
theorem ins_back (f1 f2 f4 f8 f16 : Bool) (h48 : f4 = true → f8 = false) (b : ByteArray) (p : Nat) (x : Ins) (hat : At b p (insBF f1 f2 f4 f8 f16 x))
    (ha : (f1 || f2) = true → -32768 ≤ x.a ∧ x.a ≤ 32767) (ha0 : (f1 || f2) = false → x.a = 0)
    (hb : (f4 || f8) = true → 0 ≤ x.b ∧ x.b ≤ 255) (hb0 : (f4 || f8) = false → x.b = 0)
    (hn : f8 = true → 0 ≤ x.n ∧ x.n ≤ 255) (hn0 : f8 = false → x.n = 0) (ht : x.t.size ≤ 255) (ht0 : f8 = false → x.t = ⟨#[]⟩)
    (hs : ∃ n0 n1 n2 n3 : Nat, x.s0 = n0 ∧ x.s1 = n1 ∧ x.s2 = n2 ∧ x.s3 = n3 ∧ n0 < 2 ^ 64 ∧ n1 < 2 ^ 64 ∧ n2 < 2 ^ 64 ∧ n3 < 2 ^ 64)
    (hs0 : f16 = false → x.s0 = 0 ∧ x.s1 = 0 ∧ x.s2 = 0 ∧ x.s3 = 0) :
    insR (f1 || f2) (f4 || f8) f8 f8 f16 x.op b (p + 1) false = (x, p + (insBF f1 f2 f4 f8 f16 x).length, false) := by
  obtain ⟨op, a, bb, n, t, s0, s1, s2, s3⟩ := x
  obtain ⟨n0, n1, n2, n3, e0, e1, e2, e3, l0, l1, l2, l3⟩ := hs
  simp only at *
  subst e0 e1 e2 e3
  unfold insBF at hat ⊢
  simp only [Int.toNat_natCast] at hat ⊢
  generalize (f1 || f2) = F at *
  obtain ⟨q3, hS⟩ := hat.app
  obtain ⟨q2, hT⟩ := q3.app
  obtain ⟨q1, hB⟩ := q2.app
  obtain ⟨_, hA⟩ := q1.app
  clear hat q1 q2 q3
  have eA : gA F b (p + 1) false = (a, p + 1 + (if F = true then numB a else []).length, false) := by
    cases F
    · rw [ha0 rfl]; rfl
    · exact gA_at hA (ha rfl).1 (ha rfl).2 false
  generalize (if F = true then numB a else []) = SA at *
  have hmb : (memB n0 n1 n2 n3 32).length = 32 := memB_len _ _ _ _ _
  have eS : ∀ q, q = p + ([byI op] ++ SA ++ (if f4 = true then [byI bb] else []) ++ (if f8 = true then [byI bb, byI n, byI t.size] ++ t.data.toList else [])).length → gSet f16 b q false = (((n0 : Int), (n1 : Int), (n2 : Int), (n3 : Int)), q + (if f16 = true then memB n0 n1 n2 n3 32 else []).length, false) := by
    intro q hq
    subst hq
    cases f16
    · obtain ⟨z0, z1, z2, z3⟩ := hs0 rfl
      rw [z0, z1, z2, z3]; rfl
    · rw [gSet_at hS l0 l1 l2 l3 false, if_pos rfl, hmb]
  generalize (if f16 = true then memB n0 n1 n2 n3 32 else []) = SS at *
  have hpos : ∀ l : List UInt8, l.length = l.length := fun _ => rfl
  cases f8
  · have g1 : ∀ q, gB false b q false = (0, q, false) := fun q => rfl
    have g2 : ∀ q, gT false b q false = (⟨#[]⟩, q, false) := fun q => rfl
    rw [hn0 rfl, ht0 rfl]
    cases f4
    · rw [hb0 rfl] at *
      simp only [insR, eA, g1, g2, Bool.or_false, eS (p + 1 + SA.length) (by simp; omega)]
      simp
      omega
    · simp only [if_true, List.length_append, List.length_cons, List.length_nil] at hB
      have eB : gB true b (p + 1 + SA.length) false = (bb, p + 1 + SA.length + 1, false) := gB_at (by rwa [show p + (0 + 1 + SA.length) = p + 1 + SA.length by omega] at hB) (hb rfl).1 (hb rfl).2 false
      simp only [insR, eA, eB, g1, g2, Bool.or_false, eS (p + 1 + SA.length + 1) (by simp; omega)]
      simp
      omega
  · have h4 : f4 = false := by
      cases f4
      · rfl
      · exact absurd (h48 rfl) (by decide)
    subst h4
    have hT' : At b (p + 1 + SA.length) ([byI bb] ++ ([byI n] ++ ([byI t.size] ++ t.data.toList))) := by
      have e : p + ([byI op] ++ SA ++ (if false = true then [byI bb] else [])).length = p + 1 + SA.length := by simp; omega
      rw [e] at hT
      exact hT
    obtain ⟨h1, hT1⟩ := hT'.app
    obtain ⟨h2, h3⟩ := hT1.app
    simp only [List.length_cons, List.length_nil, Nat.zero_add] at hT1 h2 h3
    have eB : gB true b (p + 1 + SA.length) false = (bb, p + 1 + SA.length + 1, false) := gB_at h1 (hb rfl).1 (hb rfl).2 false
    have eN : gB true b (p + 1 + SA.length + 1) false = (n, p + 1 + SA.length + 1 + 1, false) := gB_at h2 (hn rfl).1 (hn rfl).2 false
    have eT : gT true b (p + 1 + SA.length + 1 + 1) false = (t, p + 1 + SA.length + 1 + 1 + 1 + t.size, false) := gT_at h3 ht false
    have hts : t.data.toList.length = t.size := size_len _
    simp only [insR, eA, eB, eN, eT, Bool.or_true, eS (p + 1 + SA.length + 1 + 1 + 1 + t.size) (by simp only [if_true, Bool.false_eq_true, if_false, List.length_append, List.length_cons, List.length_nil, hts]; omega)]
    simp only [if_true, Bool.false_eq_true, if_false, List.length_append, List.length_cons, List.length_nil, hts, Prod.mk.injEq, true_and, and_true]
    omega
theorem insK_back {b : ByteArray} {p : Nat} {x : Ins} (h : FitI x) (hk : x.ok) (hat : At b p (insB x)) : byteAt b (p : Int) = x.op ∧ insK b p = (x, p + (insB x).length, false) := by
  have hop := h.op
  have hb0 : byteAt b (p : Int) = x.op := by
    have h0 : At b p ([byI x.op] ++ ((if refB (refF x.op.toNat) 1 || refB (refF x.op.toNat) 2 then numB x.a else []) ++ ((if refB (refF x.op.toNat) 4 then [byI x.b] else []) ++ ((if refB (refF x.op.toNat) 8 then [byI x.b, byI x.n, byI x.t.size] ++ x.t.data.toList else []) ++ (if refB (refF x.op.toNat) 16 then memB x.s0.toNat x.s1.toNat x.s2.toNat x.s3.toNat 32 else []))))) := by
      unfold insB insBF at hat
      simpa only [List.append_assoc] using hat
    have := (h0.app.1.get (j := 0) rfl).1
    rw [byI_nat] at this
    have e : byteAt b ((p + 0 : Nat) : Int) = byteAt b (p : Int) := rfl
    rw [e] at this
    omega
  refine ⟨hb0, ?_⟩
  obtain ⟨g1, g2, g4, g8, g16, g48⟩ := flags_tab ⟨x.op.toNat, by omega⟩ (by show 1 ≤ x.op.toNat; omega)
  simp only at g1 g2 g4 g8 g16 g48
  have hpl := h.pl
  have ha := h.a
  have hb := h.b
  have hn := h.n
  have ht := h.t
  unfold insK insB at *
  rw [hb0, Int.toNat_of_nonneg (by omega)]
  rw [g1] at ha
  rw [g2] at hb
  rw [g4] at hn
  rw [g1, g2, g4, g8, g16]
  have pa : x.a = if (refB (refF x.op.toNat) 1 || refB (refF x.op.toNat) 2) = true then x.a else 0 := by rw [← g1]; exact congrArg Ins.a hpl
  have pb : x.b = if (refB (refF x.op.toNat) 4 || refB (refF x.op.toNat) 8) = true then x.b else 0 := by rw [← g2]; exact congrArg Ins.b hpl
  have pn : x.n = if refB (refF x.op.toNat) 8 = true then x.n else 0 := by rw [← g4]; exact congrArg Ins.n hpl
  have pt : x.t = if refB (refF x.op.toNat) 8 = true then x.t else ⟨#[]⟩ := by rw [← g8]; exact congrArg Ins.t hpl
  have p0 : x.s0 = if refB (refF x.op.toNat) 16 = true then x.s0 else 0 := by rw [← g16]; exact congrArg Ins.s0 hpl
  have p1 : x.s1 = if refB (refF x.op.toNat) 16 = true then x.s1 else 0 := by rw [← g16]; exact congrArg Ins.s1 hpl
  have p2 : x.s2 = if refB (refF x.op.toNat) 16 = true then x.s2 else 0 := by rw [← g16]; exact congrArg Ins.s2 hpl
  have p3 : x.s3 = if refB (refF x.op.toNat) 16 = true then x.s3 else 0 := by rw [← g16]; exact congrArg Ins.s3 hpl
  generalize refF x.op.toNat = v at *
  refine ins_back (refB v 1) (refB v 2) (refB v 4) (refB v 8) (refB v 16) g48 b p x hat ha (fun e => ?_) hb (fun e => ?_) hn (fun e => ?_) ht (fun e => ?_) ⟨x.s0.toNat, x.s1.toNat, x.s2.toNat, x.s3.toNat, by have := hk.s0; omega, by have := hk.s1; omega, by have := hk.s2; omega, by have := hk.s3; omega, by have := hk.s0; omega, by have := hk.s1; omega, by have := hk.s2; omega, by have := hk.s3; omega⟩ (fun e => ?_)
  · rw [pa, e]; rfl
  · rw [pb, e]; rfl
  · rw [pn, e]; rfl
  · rw [pt, e]; rfl
  · rw [p0, p1, p2, p3, e]; exact ⟨rfl, rfl, rfl, rfl⟩
theorem rd_back {b : ByteArray} : ∀ (q : List Ins) (p : Nat) (code : List Ins) (pl : List Int), (∀ x ∈ q, FitI x ∧ x.ok) → At b p (q.flatMap insB) → p + (q.flatMap insB).length = b.size → (chk capX (code ++ q)).2 = 0 → rd b q.length p code pl = (code ++ q, 0, 0)
  | [], p, code, pl, _, _, hsz, hc => by
    simp only [List.flatMap_nil, List.length_nil, Nat.add_zero] at hsz
    rw [List.append_nil] at hc
    simp only [List.length_nil, rd]
    rw [if_neg (by omega), List.append_nil]
    unfold chkAns
    simp only [hc, if_true]
  | x :: q, p, code, pl, hall, hat, hsz, hc => by
    rw [List.flatMap_cons] at hat hsz
    obtain ⟨h1, h2⟩ := hat.app
    have hx := hall x (List.mem_cons_self ..)
    obtain ⟨k1, k2⟩ := insK_back hx.1 hx.2 h1
    have hlen : 0 < (insB x).length := by unfold insB insBF; simp only [List.length_append, List.length_cons, List.length_nil]; omega
    rw [List.length_append] at hsz
    have hop := hx.1.op
    simp only [List.length_cons, rd]
    rw [if_neg (by omega), if_neg (by omega), k2]
    simp only [Bool.false_eq_true, if_false]
    rw [rd_back q (p + (insB x).length) (code ++ [x]) (pl ++ [(p : Int)]) (fun y hy => hall y (List.mem_cons_of_mem _ hy)) h2 (by omega) (by rw [List.append_assoc]; exact hc), List.append_assoc]
    rfl
theorem goB_all : ∀ (q : List Ins) (acc : List UInt8), (goB q acc).length ≤ 1048576 → goB q acc = acc ++ q.flatMap insB
  | [], acc, _ => by simp [goB]
  | x :: q, acc, h => by
    simp only [goB] at h ⊢
    split at h
    · rename_i h1
      rw [if_pos h1, goB_all q _ h, List.flatMap_cons, List.append_assoc]
    · rename_i h1
      exact absurd h h1
/-- what Bytes writes is read as the code -/
theorem read_back {code : List Ins} (hok : ∀ x ∈ code, x.ok) (h : (bytesA code).2 = 0) : readA (bytesA code).1 = (code, 0, 0) ∧ (bytesA code).1.size ≤ 1048576 ∧ (chk capX code).2 = 0 := by
  unfold bytesA at h ⊢
  by_cases hc : (chk capX code).2 = 0
  · rw [if_neg (by omega)] at h ⊢
    split at h
    · cases h
    rename_i hle
    rw [if_neg hle]
    have hg := goB_all code (numB code.length) (by omega)
    rw [hg] at hle ⊢
    generalize hb : (⟨(numB code.length ++ code.flatMap insB).toArray⟩ : ByteArray) = b
    have hbl : b.data.toList = numB code.length ++ code.flatMap insB := by rw [← hb]
    have hbs : b.size = 2 + (code.flatMap insB).length := by rw [← hb, ba_size, List.length_append]; rfl
    have hlen := (chk_ok hc).len
    have hAt : At b 0 (numB code.length ++ code.flatMap insB) := ⟨[], by rw [List.drop_zero, hbl, List.append_nil]⟩
    obtain ⟨h1, h2⟩ := hAt.app
    have k0 := (h1.get (j := 0) rfl).1
    have k1 := (h1.get (j := 1) rfl).1
    rw [byI_nat] at k0 k1
    have e0 : byteAt b ((0 + 0 : Nat) : Int) = byteAt b 0 := rfl
    have e1 : byteAt b ((0 + 1 : Nat) : Int) = byteAt b 1 := rfl
    rw [e0] at k0
    rw [e1] at k1
    show readA b = (code, 0, 0) ∧ b.size ≤ 1048576 ∧ (chk capX code).2 = 0
    refine ⟨?_, ?_, hc⟩
    · unfold readA
      rw [List.length_append, show (numB (code.length : Int)).length = 2 from rfl] at hle
      rw [if_neg (by omega), if_neg (by omega), cntR_eq (by omega), k0, k1, show ((code.length : Int) / 256 % 256 * 256 + (code.length : Int) % 256).toNat = code.length by omega]
      have hfit := fit_all hc
      exact rd_back code 2 [] [] (fun x hx => ⟨hfit x hx, hok x hx⟩) h2 (by omega) hc
    · rw [List.length_append, show (numB (code.length : Int)).length = 2 from rfl] at hle
      omega
  · rw [if_pos hc] at h
    exact absurd h hc
end Go.Proofs.YthcpaohmajjopaaDoor.I
set_option linter.unusedVariables false
set_option linter.unusedSimpArgs false
namespace Go.Proofs.YthcpaohmajjopaaDoor.I
open Go Go.Proofs.YthcpaohmajjopaaDoor.AM
variable {X : Cx}
theorem rowOK_rep {n sz : Nat} {v : List L} (h : (v.length == sz && v.all flatL) = true) : rowOK sz (List.replicate n v) = true := by
  unfold rowOK
  rw [List.all_eq_true]
  intro x hx
  rw [List.eq_of_mem_replicate hx]
  exact h
theorem goesA_len (code : List Ins) (at' : Int) : (goesA code at').1.length ≤ 2 := by
  unfold goesA
  split
  · simp
  · split
    · simp
    · exact gAt_len _ _
theorem r8 (hX : X.G 1 = some usesL) (code : List Ins) (hok : ∀ x ∈ code, x.ok) (sp : List (List L)) (at' : Int) (hl80 : code.length * 80 ≤ 140737488351232) :
    R X Tryd.prog 8 [.lf (.lst .ro 9 (code.map Ins.c) sp), .lf (.int .i64 at')] [] (.lf (.bool true)) [] := by
  have h5 := r5 hX code sp at' hl80
  have h14 := r14 (X := X) code sp hl80
  have h15 := r15 hX code [spI] at' _ rfl
  have hgl := goesA_len code at'
  have h17 := r17 hX code [spI] _ rfl
  have h21 := r21 (X := X) code [] sp hl80
  have h23 := r23 (X := X) code hok sp _ rfl
  have hrb := read_back hok
  have hcd := fun h => chk_ok (code := code) h
  have hc11 := fun s s' => r11 (X := X) code code s s'
  rw [sameL_self] at hc11
  generalize goesA code at' = g at h15 hgl
  have hll : (if (chk capX code).2 = 0 then (liveL code, (0 : Int)) else ([], (chk capX code).2)).1.length ≤ code.length := by
    split
    · simp [liveL]
    · simp
  generalize (if (chk capX code).2 = 0 then (liveL code, (0 : Int)) else ([], (chk capX code).2)) = l at h17 hll
  generalize bytesA code = B at h23 hrb
  obtain ⟨b, e⟩ := B
  simp only at h23 hrb
  have inn : ∀ (i : Nat) (Q : Out → St → Prop) (jj k : Nat) (bs : List Bool) (ms : List (List L)), ms = (bs.map fun b => [L.bool b]) → bs.length ≤ l.1.length → k + jj = bs.length →
      (∀ ms' : List (List L), Q .nrm { m := 0, tm := [(0, PV.lf (L.lst Tag.ro 9 (List.map Ins.c code) sp)), (1, PV.lf (L.int IntKind.i64 at')), (5, PV.lf (L.lst (Tag.own 640 52) 9 (List.map Ins.c code) [spI])), (6, PV.lf (L.str b)), (7, PV.lf (L.int IntKind.i64 e)), (8, PV.lf (L.int IntKind.i64 i)), (11, PV.lf (L.lst (Tag.own 1408 4) 1 ms' [])), (13, PV.lf (L.int IntKind.i64 bs.length)), (43, PV.lf (L.bool false))], ce := [] }) →
      LoopAt X Tryd.prog c8_6 [0, 1, 5, 6, 7, 8, 11, 13] (blkK 2 Q)
        { m := 0, tm := [(0, PV.lf (L.lst Tag.ro 9 (List.map Ins.c code) sp)), (1, PV.lf (L.int IntKind.i64 at')), (5, PV.lf (L.lst (Tag.own 640 52) 9 (List.map Ins.c code) [spI])), (6, PV.lf (L.str b)), (7, PV.lf (L.int IntKind.i64 e)), (8, PV.lf (L.int IntKind.i64 i)), (11, PV.lf (L.lst (Tag.own 1408 4) 1 ms [])), (13, PV.lf (L.int IntKind.i64 k))], ce := [] } := by
    intro i Q jj
    induction jj with
    | zero =>
      intro k bs ms hms hbl hk hQ
      obtain rfl : k = bs.length := by omega
      have hml : ms.length = bs.length := by rw [hms, List.length_map]
      have hn : ¬ (bs.length : Int) < (bs.length : Int) := by omega
      intro Z2 hZ2; apply hZ2
      simp -implicitDefEqProofs (maxSteps := 2000000) only [c8, hml, hn, decide_false, ↓reduceIte, s_exit, s_ops0, s_seq, s_cond, s_opsK, s_seqK_n, s_seqK_e, s_blkK_e, s_loopK_e, s_cnd, s_nil, s_cons, s_wopsK, s_putK, o_mv, o_bin, v_lss, o_len, v_len, e_t, e_put, e_get, e_res, e_keep_n, e_keep_c, e_keep1_s, Option.getD_some, Nat.reduceEqDiff, reduceCtorEq, Bool.false_eq_true]
      intro _
      exact hQ ms
    | succ jj ihj =>
      intro k bs ms hms hbl hk hQ
      have hml : ms.length = bs.length := by rw [hms, List.length_map]
      have hn : (k : Int) < (bs.length : Int) := by omega
      have hkb : k < bs.length := by omega
      have hg : ms.getD k [] = [L.bool (bs[k]'hkb)] := by rw [hms]; simp [List.getD_eq_getElem?_getD, hkb]
      have w1 : IntKind.i64.wrap ((k : Int) + 1) = ((k + 1 : Nat) : Int) := by rw [w64 (by omega) (by omega)]; omega
      have hws : ∀ v, wrS k 0 [v] bs.length [] = [] := fun v => by unfold wrS; rw [if_pos hkb]
      intro Z2 hZ2; apply hZ2
      simp -implicitDefEqProofs (maxSteps := 2000000) only [c8, hml, hn, decide_true, v_ld_e, hg, w1, hws, Int.toNat_natCast, ↓reduceIte, s_skip, s_ops0, s_seq, s_cond, s_block, s_opsK, s_seqK_n, s_blkK_n, s_loopK_n, s_cnd, s_nil, s_cons, s_wopsK, s_putK, o_mv, o_as, o_bin, v_add, v_lss, o_un, v_not, v_part_f, v_atK, o_ia, v_ia, o_ld, o_st, v_st_e, o_len, v_len, e_t, e_k, e_put, e_get, e_res, e_keep_n, e_keep_c, e_keep1_s, e_asg_i, List.length_nil, List.length_cons, Option.getD_some, Nat.reduceEqDiff, reduceCtorEq, true_and, Bool.false_eq_true, List.map_cons, List.map_nil, List.append_nil, List.all_cons, List.all_nil, Bool.true_and, Bool.and_self, PV.cells, cellL, datL, placeOf, Nat.reduceBEq, Nat.le_refl, BEq.rfl, List.getElem?_cons_zero, wr_b, wr_i, wr_s, rl_b, wr_lro, wr_lo, m_lf, m_n, m_c, m_all, e_head, e_headK, kC_n, pO_n, pO_i, pO_s, pO_l, dw_n, dw_b, List.range_zero, ne_eq, Nat.zero_add]
      intro _
      refine ⟨⟨by omega, hkb⟩, hkb, ⟨by omega, hkb⟩, (by intro x hx; simp at hx; subst hx; simp), ?_⟩
      exact ihj (k + 1) (bs.set k (!bs[k])) _ (by rw [hms, wrX_boolv]) (by rw [List.length_set]; exact hbl) (by rw [List.length_set]; omega) (by rw [List.length_set]; exact hQ) Z2 hZ2
  have key : ∀ (j i : Nat), i + j = 2 → LoopAt X Tryd.prog c8_23 [0, 1, 5, 6, 7, 8]
      (blkK 0 (seqK X Tryd.prog c8_27 (retS [] [] 0 [RV.t 4] (PV.lf (L.bool true)) [])))
      { m := 0, tm := [(0, PV.lf (L.lst Tag.ro 9 (List.map Ins.c code) sp)), (1, PV.lf (L.int IntKind.i64 at')), (5, PV.lf (L.lst (Tag.own 640 52) 9 (List.map Ins.c code) [spI])), (6, PV.lf (L.str b)), (7, PV.lf (L.int IntKind.i64 e)), (8, PV.lf (L.int IntKind.i64 i))], ce := [] } := by
    intro j
    induction j with
    | zero =>
      intro i hi
      obtain rfl : i = 2 := by omega
      intro Z hZ; apply hZ
      have hlt : ¬ ((2 : Nat) : Int) < 2 := by omega
      simp -implicitDefEqProofs (maxSteps := 2000000) only [c8, hlt, ↓reduceIte, s_exit, s_ops0, s_seq, s_cond, s_opsK, s_seqK_n, s_seqK_e, s_blkK_e, s_loopK_e, s_cnd, s_nil, s_cons, s_wopsK, s_putK, o_mv, o_bin, v_lss, o_call, e_t, e_k, e_put, e_get, e_res, e_keep_n, e_keep_c, e_keep1_s, Option.getD_some, Nat.reduceEqDiff, reduceCtorEq, decide_eq_true_eq, List.map_cons, List.map_nil, PV.leaves, List.flatMap_cons, List.flatMap_nil, List.append_nil, List.cons_append, List.nil_append, rl_i, rl_l, m_lf]
      refine wcall_s h5 rfl rfl ?_
      simp -implicitDefEqProofs (maxSteps := 2000000) only [c8, ↓reduceIte, s_cons, s_guard, s_wopsK, s_grd, q_call, q_mv, o_mv, o_call, e_t, e_put, e_get, Option.getD_some, Nat.reduceEqDiff, reduceCtorEq, cond_false, Bool.false_eq_true, St.clr, outV, ownsV, owns1, ownL, List.map_cons, List.map_nil, PV.leaves, List.flatMap_cons, List.flatMap_nil, List.append_nil, List.cons_append, List.nil_append, ol_b, rl_l, m_lf]
      refine wcall_s h21 rfl rfl ?_
      simp -implicitDefEqProofs (maxSteps := 2000000) only [c8, ↓reduceIte, s_ret, s_opsK, s_seqK_n, s_nil, s_cons, s_wopsK, s_putK, o_as, o_pk, v_pk, e_t, e_k, e_put, e_get, e_res, e_keep_n, e_keep_c, e_keep1_s, e_asg_b, Option.getD_some, Nat.reduceEqDiff, and_true, Bool.false_eq_true, s_ret_r, s_retX, s_cells_n, t_lf, t_b, r_n, r_t, r_cons, one_1, St.clr, outV, ownsV, owns1, ownL, Bool.and_true, ol_b, m_lf]
      done
    | succ j ih =>
      intro i hi
      intro Z hZ; apply hZ
      have hlt : (i : Int) < 2 := by omega
      have w1 : IntKind.i64.wrap ((i : Int) + 1) = ((i + 1 : Nat) : Int) := by rw [w64 (by omega) (by omega)]; omega
      simp -implicitDefEqProofs (maxSteps := 2000000) only [c8, hlt, ↓reduceIte, s_skip, s_ops0, s_seq, s_cond, s_block, s_opsK, s_seqK_n, s_cnd, s_nil, s_cons, s_wopsK, s_putK, o_mv, o_bin, v_lss, o_call, e_t, e_k, e_put, e_get, e_res, e_keep_n, e_keep_c, e_keep1_s, Option.getD_some, Nat.reduceEqDiff, reduceCtorEq, decide_eq_true_eq, List.map_cons, List.map_nil, PV.leaves, List.flatMap_cons, List.flatMap_nil, List.append_nil, List.cons_append, List.nil_append, rl_i, rl_l, m_lf]
      refine wcall_flat h15 rfl (flat_ints _ _) ?_
      simp -implicitDefEqProofs (maxSteps := 2000000) only [c8, ↓reduceIte, s_ops0, s_seq, s_opsK, s_seqK_n, s_nil, s_cons, s_wopsK, s_putK, o_mv, o_as, o_ext, v_ext0, v_ext1, o_call, e_t, e_k, e_put, e_get, e_res, e_keep_n, e_keep_c, e_keep1_s, e_asg_i, Option.getD_some, Nat.reduceEqDiff, Nat.reduceAdd, reduceCtorEq, Bool.false_eq_true, St.clr, outV, ownsV, owns1, ownL, List.map_cons, List.map_nil, List.any_cons, List.any_nil, Bool.or_false, Bool.or_self, PV.leaves, List.flatMap_cons, List.flatMap_nil, List.append_nil, List.cons_append, List.nil_append, Nat.reduceMul, Nat.reduceBEq, BEq.rfl, kps_b, kps_i, kps_s, rk_b, rk_i, rk_s, rl_i, ol_i, kps_lro, rk_lro, kps_lo, rk_lo, rl_l, ol_lo, m_lf, m_tp, m_1l, m_n, m_c, m_all, e_asg_o, plT, Int.reduceNeg, Nat.add_zero, or_false]
      refine wcall_v 0 (ys := List.replicate (g.1.map fun x => [L.int .i64 x]).length [L.int .i64 (-4)]) rfl rfl (fun _ => r26n (-4)) rfl (fun k cap k1 k2 => r26 (-4) (g.1.map fun x => [L.int .i64 x]) (by simp) (by intro x hx c hc; obtain ⟨y, _, rfl⟩ := List.mem_map.1 hx; simp at hc; subst hc; exact .inl rfl) (by simp; omega) k cap k1 k2) (fun cap => rfl) rfl (by simp) (rowOK_rep rfl) ?_
      have k1 : [3840, 3842, 3844].contains 640 = false := by decide
      have k2 : [4736, 4738, 4740].contains 640 = false := by decide
      have k3 : [7424, 7426, 7428].contains 640 = false := by decide
      simp -implicitDefEqProofs (maxSteps := 2000000) only [c8, k1, ↓reduceIte, s_ops0, s_seq, s_opsK, s_seqK_n, s_nil, s_cons, s_wopsK, o_mv, o_call, e_t, e_put, e_get, e_res, e_keep_n, e_keep_c, e_keep1_s, Option.getD_some, Nat.reduceEqDiff, reduceCtorEq, and_true, Bool.false_eq_true, List.map_cons, List.map_nil, PV.leaves, List.flatMap_cons, List.flatMap_nil, List.append_nil, Bool.and_true, Nat.reduceBEq, BEq.rfl, rk_lo, rl_l, m_lf, m_n, m_c, m_all, Int.reduceNeg, uw_i, uw_s, uw_lr, uw_lo]
      refine wcall_flat h17 rfl (flat_bools _ _) ?_
      simp -implicitDefEqProofs (maxSteps := 2000000) only [c8, k2, ↓reduceIte, s_ops0, s_seq, s_block, s_loop, s_opsK, s_seqK_n, s_nil, s_cons, s_wopsK, s_putK, o_mv, o_as, o_ext, v_ext0, v_ext1, e_t, e_k, e_put, e_get, e_res, e_keep_n, e_keep_c, e_keep1_s, e_asg_i, Option.getD_some, Nat.reduceEqDiff, Nat.reduceAdd, reduceCtorEq, Bool.false_eq_true, St.clr, outV, ownsV, owns1, ownL, List.map_cons, List.map_nil, List.any_cons, List.any_nil, Bool.or_false, Bool.or_self, List.append_nil, Nat.reduceMul, Nat.reduceBEq, BEq.rfl, kps_i, kps_s, rk_i, rk_s, ol_i, kps_lro, rk_lro, kps_lo, rk_lo, ol_lo, m_lf, m_tp, m_1l, m_n, m_c, m_all, e_asg_o, e_head, e_headK, kC_n, pO_n, pO_i, pO_s, pO_l, List.range_zero, plT, Nat.add_zero, or_false]
      refine inn i _ l.1.length 0 l.1 _ rfl (Nat.le_refl _) (by omega) (fun ms' => ?_)
      simp -implicitDefEqProofs (maxSteps := 2000000) only [c8, ↓reduceIte, s_skip, s_ops0, s_seq, s_cond, s_opsK, s_seqK_n, s_blkK_n, s_loopK_n, s_cnd, s_nil, s_cons, s_wopsK, s_putK, o_mv, o_as, o_bin, v_add, v_eql, o_call, e_t, e_k, e_put, e_get, e_res, e_keep_n, e_keep_c, e_keep1_s, e_asg_i, Option.getD_some, Nat.reduceEqDiff, reduceCtorEq, decide_eq_true_eq, List.map_cons, List.map_nil, PV.leaves, List.flatMap_cons, List.flatMap_nil, List.append_nil, rl_s, m_lf, e_head, e_headK, kC_n, pO_n, pO_i, pO_s, pO_l, List.range_zero]
      with_reducible refine ite_pr (fun he => ?_) (fun he => ?_)
      · obtain ⟨hrd, hbs, hck⟩ := hrb he
        have hc := hcd hck
        have hlen := hc.len
        have hpos := hc.pos
        have h12 := r12o hX b (by omega) (cntR_bd b) _ hrd
        refine wcall_flat h12 rfl (flat_ins _ _ _) ?_
        simp -implicitDefEqProofs (maxSteps := 2000000) only [c8, k3, ↓reduceIte, s_ops0, s_seq, s_opsK, s_seqK_n, s_nil, s_cons, s_guard, s_wopsK, s_putK, s_grd, q_call, q_mv, o_mv, o_as, o_bin, v_neq, o_ext, v_ext0, v_ext1, v_part_f, v_atK, o_al, o_fa, v_fa_p, o_ld, v_ld_p, v_ldC, o_st, v_st_p, v_stCK, o_call, e_t, e_k, e_put, e_get, e_res, e_keep_n, e_keep_c, e_keep1_s, List.length_nil, List.length_cons, Option.getD_some, Nat.reduceEqDiff, Nat.reduceAdd, reduceCtorEq, true_and, cond_false, Bool.false_eq_true, decide_eq_false_iff_not, St.clr, outV, ownsV, owns1, ownL, List.map_cons, List.map_nil, List.any_cons, List.any_nil, Bool.or_false, Bool.or_self, PV.leaves, List.flatMap_cons, List.flatMap_nil, List.append_nil, List.cons_append, List.nil_append, List.all_cons, List.all_nil, Bool.true_and, Bool.and_self, PV.cells, cellL, fillL, Nat.reduceMul, Nat.reduceBEq, Nat.zero_le, Nat.le_refl, BEq.rfl, List.take_zero, List.drop_succ_cons, List.drop_nil, List.getElem?_cons_zero, List.getElem?_cons_succ, kps_b, kps_i, kps_s, kc_b, kc_i, kc_s, rk_b, rk_i, rk_s, ol_i, kps_lro, rk_p, rk_lro, kc_l, kps_lo, rk_lo, rl_l, ol_lo, m_lf, m_ag, m_tp, m_1l, m_1a, m_n, m_c, m_all, e_asg_o, st_b, d_n, d_c, plT, ne_eq, Int.reduceNeg, Nat.zero_add, Nat.add_zero, or_false, Decidable.not_not]
        refine wcall_s (hc11 _ _) rfl rfl ?_
        simp -implicitDefEqProofs (maxSteps := 2000000) only [c8, ↓reduceIte, s_skip, s_ops0, s_cond, s_opsK, s_seqK_n, s_cnd, s_nil, s_cons, s_guard, s_wopsK, s_putK, s_grd, q_un, o_mv, o_pk, v_pk, o_un, v_not, o_call, e_t, e_k, e_put, e_get, e_res, e_keep_n, e_keep_c, e_keep1_s, Option.getD_some, Nat.reduceEqDiff, reduceCtorEq, cond_false, Bool.not_true, Bool.false_eq_true, St.clr, outV, ownsV, owns1, ownL, List.map_cons, List.map_nil, PV.leaves, List.flatMap_cons, List.flatMap_nil, List.append_nil, List.cons_append, List.nil_append, rl_i, ol_b, rl_l, m_lf, Int.reduceNeg]
        refine wcall_v 0 (ys := List.replicate (code.map Ins.c).length (spV (-5))) rfl rfl (fun e0 => absurd (congrArg List.length e0) (by rw [List.length_map]; intro h0; simp only [List.length_nil] at h0; omega)) rfl (fun k cap k1 k2 => r27 (-5) (code.map Ins.c) (by intro x hx; obtain ⟨y, _, rfl⟩ := List.mem_map.1 hx; rfl) (by intro x hx c hc; obtain ⟨y, _, rfl⟩ := List.mem_map.1 hx; simp only [Ins.c, List.mem_cons, List.mem_nil_iff, or_false] at hc; rcases hc with rfl | rfl | rfl | rfl | rfl | rfl | rfl | rfl | rfl <;> exact .inl rfl) (by simp; omega) k cap k1 k2) (fun cap => rfl) rfl (by simp) (rowOK_rep rfl) ?_
        simp -implicitDefEqProofs (maxSteps := 2000000) only [c8, w1, ↓reduceIte, s_ops0, s_opsK, s_seqK_n, s_blkK_n, s_loopK_n, s_nil, s_cons, s_wopsK, s_putK, o_mv, o_as, o_bin, v_add, e_t, e_k, e_put, e_get, e_res, e_keep_n, e_keep_c, e_keep1_s, e_asg_i, Option.getD_some, Nat.reduceEqDiff, reduceCtorEq, and_true, Bool.false_eq_true, List.map_cons, List.map_nil, List.append_nil, Bool.and_true, Nat.reduceBEq, BEq.rfl, m_lf, m_n, m_c, m_all, e_head, e_headK, kC_n, pO_n, pO_i, pO_s, pO_l, List.range_zero, Int.reduceNeg, uw_b, uw_i, uw_s, uw_lr, uw_lo]
        exact ih (i + 1) (by omega) Z hZ
      · simp -implicitDefEqProofs (maxSteps := 2000000) only [c8, w1, ↓reduceIte]
        exact ih (i + 1) (by omega) Z hZ
  refine R_i [] [] c8_ok rfl (by simp) ?_
  simp -implicitDefEqProofs (maxSteps := 2000000) only [c8, ↓reduceIte, s_ops0, s_seq, s_opsK, s_seqK_n, s_nil, s_cons, s_wopsK, o_mv, o_as, o_call, e_t, e_k, e_put, e_get, e_res, e_keep_n, e_keep_c, e_keep1_s, e_asg_b, St.init, enum, List.length_nil, Option.getD_some, Nat.reduceEqDiff, reduceCtorEq, List.map_cons, List.map_nil, PV.leaves, List.flatMap_cons, List.flatMap_nil, List.append_nil, rl_l, m_lf, Nat.zero_add]
  refine wcall_down h14 rfl ?_
  simp -implicitDefEqProofs (maxSteps := 2000000) only [c8, ↓reduceIte, s_ops0, s_seq, s_opsK, s_seqK_n, s_nil, s_cons, s_wopsK, o_mv, o_as, o_call, e_t, e_put, e_get, e_res, e_keep_n, e_keep_c, e_keep1_s, Option.getD_some, Nat.reduceEqDiff, Nat.reduceAdd, reduceCtorEq, Bool.false_eq_true, St.clr, outV, ownsV, owns1, ownL, List.map_cons, List.map_nil, PV.leaves, List.flatMap_cons, List.flatMap_nil, List.append_nil, Nat.reduceMul, Nat.reduceBEq, BEq.rfl, kps_i, rk_i, kps_lro, rk_lro, rk_lo, rl_l, ol_lo, m_lf, m_n, m_c, m_all, e_asg_o, dw_n, dw_lr, plT, Nat.add_zero]
  refine wcall_s h23 rfl rfl ?_
  simp -implicitDefEqProofs (maxSteps := 2000000) only [c8, ↓reduceIte, s_ops0, s_seq, s_block, s_loop, s_opsK, s_seqK_n, s_nil, s_cons, s_wopsK, s_putK, o_mv, o_as, o_ext, v_ext0, v_ext1, e_t, e_k, e_put, e_get, e_res, e_keep_n, e_keep_c, e_keep1_s, e_asg_i, e_asg_s, Option.getD_some, Nat.reduceEqDiff, reduceCtorEq, Bool.false_eq_true, St.clr, outV, ownsV, owns1, ownL, List.map_cons, List.map_nil, List.any_cons, List.any_nil, Bool.or_self, List.append_nil, ol_i, ol_s, m_tp, m_1l, e_head, e_headK, kC_n, pO_n, pO_i, pO_s, pO_l, List.range_zero]
  exact key 2 0 rfl
end Go.Proofs.YthcpaohmajjopaaDoor.I
