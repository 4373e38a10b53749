/- Contracts, part W7. -/
import Derived.Test.YthcpaohmajjopaaDoorW1
import Derived.Test.YthcpaohmajjopaaDoorW6
import Derived.Shelf.LaysM
import Derived.Shelf.Strconv.Itoa3
import Derived.Shelf.Spec.TrailingZeros
import Derived.Test.YthcpaohmajjopaaDoorProg
import Derived.RangeFuncBox
import Derived.RangeFuncNested
import Derived.RangeFuncLeaves
import Derived.Shelf.Abstract
import Derived.WalkKit
import Derived.OwnWalkIn
import Derived.TacticsInMore
import Derived.LoopNIn
import Derived.LoopIn
import Derived.Maps.AppendAt
import Derived.Test.YthcpaohmajjopaaDoorW5
set_option linter.unusedVariables false
set_option linter.unusedSimpArgs false
namespace Go.Proofs.YthcpaohmajjopaaDoor.I
open Go Go.Proofs.YthcpaohmajjopaaDoor.AM
variable {X : Cx}
/-- A builder's cells: what its first cell holds, its bytes. -/
abbrev bl (p : L) (l : List UInt8) : List L := [p, .lst (.own 3 5) 1 (ub l) []]
theorem bytesL_ub (s : ByteArray) : bytesL s = ub s.data.toList := rfl
def frsh (x : L) : Prop := x = .nilp ∨ x = .tptr 0 0 73
theorem r58 (x : L) (hx : frsh x) (y : List UInt8) : R X Tryd.prog 58 [.lf (.tptr 0 0 73)] [bl x y] (.tp []) [bl (.tptr 0 0 73) y] := by
  refine R_i [(3, 3)] [] c58_ok rfl (by simp) ?_
  rcases hx with rfl | rfl
  · simp -implicitDefEqProofs (maxSteps := 2000000) only [c58, ↓reduceIte, s_ops0, s_seq, s_cond, s_opsK, s_seqK_n, s_cnd, s_nil, s_cons, s_wopsK, s_putK, o_mv, v_part_f, v_atK, o_fa, o_ld, v_ldC, o_st, v_stCK, o_nc, e_t, e_k, e_put, e_get, e_res, e_keep_n, e_keep_c, e_keep1_s, St.init, enum, List.length_nil, List.length_cons, Option.getD_some, Nat.reduceEqDiff, Nat.reduceAdd, reduceCtorEq, true_and, and_true, Bool.not_false, s_ret_n, s_retX, s_cells_n, t_tp, t_n, t_ln, t_lc, t_l, t_oo, r_n, List.map_cons, List.map_nil, List.cons_append, List.nil_append, List.all_cons, List.all_nil, Bool.and_true, Bool.true_and, Bool.and_self, PV.cells, cellL, fillL, Nat.reduceLeDiff, List.take_zero, List.drop_zero, List.drop_succ_cons, List.getElem?_cons_zero, d_n, d_c, Nat.reduceLT, Nat.lt_add_one, Nat.zero_add, Nat.add_zero, true_or, or_true, st_t1, o_peq, v_peq_nn, o_p2u, v_p2u, v_p2uK, o_u2p, v_u2p, v_u2pK, o_ex, v_exK, v_ex0, v_fa_t, v_ld_t, v_st_t, v_nc_t, t_tr, s_cells_c, t_some, one_0]
    kernel_rfl
  · simp -implicitDefEqProofs (maxSteps := 2000000) only [c58, ↓reduceIte, s_skip, s_ops0, s_seq, s_cond, s_opsK, s_seqK_n, s_cnd, s_nil, s_cons, s_wopsK, s_putK, o_mv, v_part_f, v_atK, o_fa, o_ld, v_ldC, o_nc, e_t, e_k, e_put, e_get, e_res, e_keep_n, e_keep_c, e_keep1_s, St.init, enum, List.length_nil, List.length_cons, Option.getD_some, Nat.reduceEqDiff, reduceCtorEq, true_and, and_true, Bool.not_true, Bool.false_eq_true, s_ret_n, s_retX, s_cells_n, t_tp, t_n, t_ln, t_lc, t_l, t_oo, r_n, Bool.and_true, Bool.true_and, List.getElem?_cons_zero, Nat.lt_add_one, Nat.zero_add, Nat.add_zero, true_or, or_true, o_peq, v_peq_tn, v_peq_tt, v_fa_t, v_ld_t, v_nc_t, t_tr, s_cells_c, t_some, one_0]
theorem r43 (x : L) (hx : frsh x) (y : List UInt8) (s : ByteArray) (hs : y.length + s.size ≤ 140737488355328) : R X Tryd.prog 43 [.lf (.tptr 0 0 73), .lf (.str s)] [bl x y] (.tp [.lf (.int .i64 s.size), .lf .nili]) [bl (.tptr 0 0 73) (y ++ s.data.toList)] := by
  refine R_i [(3, 3)] [] c43_ok rfl (by simp) ?_
  rcases hx with rfl | rfl
  all_goals
    simp -implicitDefEqProofs (maxSteps := 2000000) only [c43, ↓reduceIte, s_ops0, s_seq, s_opsK, s_seqK_n, s_nil, s_cons, s_wopsK, o_mv, o_as, e_t, e_k, e_put, e_get, e_res, e_keep_n, e_keep_c, e_keep1_s, e_asg_i, St.init, enum, List.length_nil, List.length_cons, Option.getD_some, Nat.reduceEqDiff, reduceCtorEq, List.map_cons, List.map_nil, PV.leaves, List.flatMap_cons, List.flatMap_nil, List.append_nil, List.getElem?_cons_zero, Option.bind_some, m_lf, e_asg_ni, dw_n, Nat.zero_add, ta_t, dw_t0, pc_t, o_callp, v_callp]
    refine pcall_i (r58 _ (by simp [frsh, toC]) y) rfl rfl ?_
    simp -implicitDefEqProofs (maxSteps := 2000000) only [c43, ↓reduceIte, s_ret, s_ops0, s_seq, s_opsK, s_seqK_n, s_nil, s_cons, s_wopsK, s_putK, o_mv, o_as, v_part_f, v_atK, o_fa, o_ld, v_ldC, o_st, v_stCK, o_nc, o_lns, v_lns, o_aps, v_aps_o, e_t, e_k, e_put, e_get, e_res, e_keep_n, e_keep_c, e_keep1_s, e_asg_i, List.length_nil, List.length_cons, Option.getD_some, Nat.reduceEqDiff, Nat.reduceAdd, reduceCtorEq, true_and, and_true, Bool.false_eq_true, s_ret_r, s_retX, s_cells_n, t_tp, t_n, t_c, t_1l, t_ln, t_lc, t_i, t_ni, t_l, t_oo, r_n, r_t, r_cons, one_2, outV, ownsV, List.map_cons, List.map_nil, List.any_nil, List.append_nil, List.cons_append, List.nil_append, List.all_cons, List.all_nil, Bool.and_true, Bool.true_and, Bool.and_self, PV.cells, cellL, fillL, Nat.reduceMul, Nat.reduceBEq, Nat.le_refl, BEq.rfl, List.take_zero, List.take_succ_cons, List.drop_succ_cons, List.drop_nil, List.getElem?_cons_zero, List.getElem?_cons_succ, kp_s, kp_u, rk_s, rk_u, kp_lo, rk_lo, m_lf, m_tp, m_n, m_c, m_all, e_asg_ni, st_lo, d_n, d_c, plT, plC, Nat.lt_add_one, Nat.zero_add, Nat.add_zero, true_or, or_true, kp_t, rk_t, fc_lo, fc_t, kl_s, kl_np, kl_lo, kl_t, kf_s, cp_st, ub_len, v_fa_t, v_ld_t, v_st_t, v_nc_t, t_tr, s_cells_c, t_some, isC, cplc, Nat.reduceMod, Nat.reduceDiv]
    exact ⟨hs, by rw [bytesL_ub, ub_app]⟩
def b8 (c : Int) : UInt8 := UInt8.ofNat c.toNat
theorem b8_int {c : Int} (h0 : 0 ≤ c) (h1 : c ≤ 255) : ((b8 c).toNat : Int) = c := by
  have : (b8 c).toNat = c.toNat % 256 := rfl
  rw [this]; omega
theorem b8_of (c : UInt8) : b8 (c.toNat : Int) = c := by simp [b8]
theorem r45 (x : L) (hx : frsh x) (y : List UInt8) (c : Int) (h0 : 0 ≤ c) (h1 : c ≤ 255) (hs : y.length < 140737488355328) : R X Tryd.prog 45 [.lf (.tptr 0 0 73), .lf (.int .u8 c)] [bl x y] (.lf .nili) [bl (.tptr 0 0 73) (y ++ [b8 c])] := by
  refine R_i [(3, 3)] [] c45_ok rfl (by simp) ?_
  rw [← b8_int h0 h1, b8_of]
  rcases hx with rfl | rfl
  all_goals
    simp -implicitDefEqProofs (maxSteps := 2000000) only [c45, ↓reduceIte, s_ops0, s_seq, s_opsK, s_seqK_n, s_nil, s_cons, s_wopsK, o_mv, o_as, e_t, e_k, e_put, e_get, e_res, e_keep_n, e_keep_c, e_keep1_s, St.init, enum, List.length_nil, List.length_cons, Option.getD_some, Nat.reduceEqDiff, reduceCtorEq, List.map_cons, List.map_nil, PV.leaves, List.flatMap_cons, List.flatMap_nil, List.append_nil, List.getElem?_cons_zero, Option.bind_some, m_lf, e_asg_ni, dw_n, Nat.zero_add, ta_t, dw_t0, pc_t, o_callp, v_callp]
    refine pcall_i (r58 _ (by simp [frsh, toC]) y) rfl rfl ?_
    simp -implicitDefEqProofs (maxSteps := 2000000) only [c45, ↓reduceIte, s_ret, s_ops0, s_seq, s_opsK, s_seqK_n, s_nil, s_cons, s_wopsK, s_putK, o_mv, o_as, v_part_f, v_atK, o_fa, o_ld, v_ldC, o_st, v_stCK, o_nc, o_bs, v_bsK, v_lit_n, v_lit_c, o_app, v_app_o, e_t, e_k, e_put, e_get, e_res, e_keep_n, e_keep_c, e_keep1_s, List.length_nil, List.length_cons, Option.getD_some, Nat.reduceEqDiff, Nat.reduceAdd, reduceCtorEq, true_and, and_true, Bool.false_eq_true, s_ret_r, s_retX, s_cells_n, t_lf, t_ln, t_lc, t_ni, t_l, t_oo, r_n, r_t, r_cons, one_1, outV, ownsV, List.map_cons, List.map_nil, List.any_nil, Bool.or_false, List.append_nil, List.cons_append, List.nil_append, List.all_cons, List.all_nil, Bool.and_true, Bool.true_and, Bool.and_self, PV.cells, cellL, datL, fillL, Nat.reduceMul, Nat.reduceBEq, Nat.reduceLeDiff, Nat.le_refl, BEq.rfl, List.take_zero, List.take_succ_cons, List.drop_succ_cons, List.drop_nil, List.getElem?_cons_zero, List.getElem?_cons_succ, kp_i, kp_u, rk_i, rk_u, rl_i, kp_lo, rk_lo, m_lf, m_tp, m_n, m_c, m_all, e_asg_ni, st_lo, d_n, d_c, dw_n, dw_i, plT, plC, lit_n, lit_c, List.reduceReplicate, List.set_cons_zero, Nat.lt_add_one, Nat.zero_add, Nat.add_zero, true_or, or_true, or_false, kp_t, rk_t, fc_lo, fc_t, kl_i, kl_np, kl_lo, kl_t, kf_s, cp_st, ub_len, ub_snoc, v_fa_t, v_ld_t, v_st_t, v_nc_t, t_tr, s_cells_c, t_some, isC, cplc, Nat.reduceMod, Nat.reduceDiv]
    omega
theorem r46 (x : L) (hx : frsh x) (y : List UInt8) : R X Tryd.prog 46 [.lf (.tptr 0 0 73)] [bl x y] (.lf (.int .i64 y.length)) [bl x y] := by
  refine R_i [(3, 3)] [] c46_ok rfl (by simp) ?_
  rcases hx with rfl | rfl
  all_goals
    simp -implicitDefEqProofs (maxSteps := 2000000) only [c46, ↓reduceIte, s_ret, s_ops0, s_seq, s_opsK, s_seqK_n, s_nil, s_cons, s_wopsK, s_putK, o_mv, o_as, v_part_f, v_atK, o_fa, o_ld, v_ldC, o_nc, o_len, v_len, e_t, e_k, e_put, e_get, e_res, e_keep_n, e_keep_c, e_keep1_s, e_asg_i, St.init, enum, List.length_nil, List.length_cons, Option.getD_some, reduceCtorEq, true_and, and_true, s_ret_r, s_retX, s_cells_n, t_lf, t_ln, t_lc, t_i, t_np, t_l, t_oo, r_n, r_t, r_cons, one_1, Bool.and_true, Bool.true_and, List.getElem?_cons_zero, List.getElem?_cons_succ, Nat.lt_add_one, Nat.zero_add, true_or, or_true, implies_true, ub_len, v_fa_t, v_ld_t, v_nc_t, t_tr, s_cells_c, t_some]
theorem r47 (x : L) (hx : frsh x) (y : List UInt8) (hy : 0 < y.length) : R X Tryd.prog 47 [.lf (.tptr 0 0 73)] [bl x y] (.lf (.str ⟨y.toArray⟩)) [[x, .undef]] := by
  refine R_i [] [] c47_ok rfl (by simp) ?_
  rcases hx with rfl | rfl
  all_goals
    simp -implicitDefEqProofs (maxSteps := 2000000) only [c47, ↓reduceIte, s_ret, s_ops0, s_seq, s_opsK, s_seqK_n, s_nil, s_cons, s_wopsK, s_wopsqK, s_putK, s_qnil, s_qcons, q_mv, q_fa, q_ld, q_nc, q_len, o_as, v_part_f, v_atK, o_fa, o_ld, v_ldC, o_nc, o_len, v_len, e_t, e_k, e_put, e_get, e_res, e_keep_n, e_keep_c, e_keep1_s, e_asg_s, St.init, enum, List.length_nil, List.length_cons, Option.getD_some, Nat.reduceEqDiff, reduceCtorEq, and_true, s_ret_r, s_retX, s_cells_n, t_lf, t_ln, t_lc, t_s, t_np, t_u, r_n, r_t, r_cons, one_1, List.map_cons, List.map_nil, Bool.and_true, BEq.rfl, List.getElem?_cons_zero, List.getElem?_cons_succ, kp_i, kp_np, kp_lo, m_lf, m_n, m_c, m_all, Nat.lt_add_one, Nat.zero_add, implies_true, kp_t, kp_eo, o_usd, v_usd, ub_len, o_ust, v_ust, s_reg, q_usd, v_fa_t, v_ld_t, v_nc_t, t_tr, s_cells_c, t_some]
    exact hy
def hd (n : UInt8) : UInt8 := if n < 10 then 48 + n else 87 + n
/-- How a byte is written. -/
def wb (c : UInt8) : List UInt8 :=
  if c = 10 then [92, 110] else if c = 13 then [92, 114] else if c = 9 then [92, 116] else if c = 39 ∨ c = 92 then [92, c]
  else if 32 ≤ c ∧ c ≤ 126 then [c] else [92, 120, hd (c / 16), hd (c % 16)]
theorem all8 {p : UInt8 → Prop} (h : ∀ n : Fin 256, p (UInt8.ofNat n.val)) (c : UInt8) : p c := by
  have := h ⟨c.toNat, c.toNat_lt⟩
  simpa using this
theorem sh4 : ∀ c : UInt8, ((c.toNat : Int).fdiv (2 ^ min (Int.toNat 4) IntKind.u8.bits)) = ((c / 16).toNat : Int) := all8 (by decide +kernel)
theorem an15 : ∀ c : UInt8, Go.bits .and .u8 (c.toNat : Int) 15 = ((c % 16).toNat : Int) := all8 (by decide +kernel)
theorem digs : ∀ c : UInt8, c < 16 → byteAt ⟨#[48, 49, 50, 51, 52, 53, 54, 55, 56, 57, 97, 98, 99, 100, 101, 102]⟩ (c.toNat : Int) = ((hd c).toNat : Int) := all8 (by decide +kernel)
theorem d16 : ∀ c : UInt8, c / 16 < 16 ∧ c % 16 < 16 ∧ (c / 16).toNat < 16 ∧ (c % 16).toNat < 16 := all8 (by decide +kernel)
theorem wb_int : ∀ c : UInt8, wb c = if (c.toNat : Int) = 10 then [92, 110] else if (c.toNat : Int) = 13 then [92, 114] else if (c.toNat : Int) = 9 then [92, 116] else if (c.toNat : Int) = 39 ∨ (c.toNat : Int) = 92 then [92, c]
      else if 32 ≤ (c.toNat : Int) ∧ (c.toNat : Int) ≤ 126 then [c] else [92, 120, hd (c / 16), hd (c % 16)] := all8 (by decide +kernel)
theorem b8_92 : b8 92 = 92 := rfl
theorem r72 (x : L) (hx : frsh x) (y : List UInt8) (c : UInt8) (hs : y.length < 140737488355000) : R X Tryd.prog 72 [.lf (.tptr 0 0 73), .lf (.int .u8 c.toNat)] [bl x y] (.tp []) [bl (.tptr 0 0 73) (y ++ wb c)] := by
  refine R_i [(3, 3)] [] c72_ok rfl (by simp) ?_
  have hc := c.toNat_lt
  have hw := wb_int c
  rw [hw]
  have q := d16 c
  have qa := digs (c / 16) q.1
  have qb := digs (c % 16) q.2.1
  have qc := (hd (c / 16)).toNat_lt
  have qd := (hd (c % 16)).toNat_lt
  rcases hx with rfl | rfl
  all_goals
    simp -implicitDefEqProofs (maxSteps := 2000000) only [c72, ↓reduceIte, s_ops0, s_seq, s_cond, s_block, s_opsK, s_seqK_n, s_cnd, s_nil, s_cons, s_guard, s_wopsK, s_putK, s_grd, q_mv, q_bin, o_mv, o_as, o_pk, v_pk, o_bin, v_eql, v_leq, v_geq, e_t, e_k, e_put, e_get, e_res, e_keep_n, e_keep_c, e_keep1_s, e_asg_b, St.init, enum, List.length_nil, List.length_cons, Option.getD_some, Nat.reduceEqDiff, reduceCtorEq, cond_false, Bool.not_true, Bool.not_false, Bool.true_eq_false, Bool.false_eq_true, decide_eq_true_eq, decide_eq_false_iff_not, List.map_cons, List.map_nil, PV.leaves, List.flatMap_cons, List.flatMap_nil, List.append_nil, List.cons_append, List.nil_append, List.getElem?_cons_zero, Option.bind_some, m_lf, dw_n, dw_i, dw_s, Nat.zero_add, ite_not, ta_i, ta_s, ta_t, dw_t0, pc_t, o_callp, v_callp]
    repeat' (with_reducible refine ite_pr (fun _ => ?_) (fun _ => ?_))
    iterate 4
      all_goals try (first | refine pcall_i (r43 _ ?_ y _ ?_) rfl rfl ?_ | refine pcall_i (r45 _ ?_ _ _ ?_ ?_ ?_) rfl rfl ?_)
      all_goals try (first | exact Or.inl rfl | exact Or.inr rfl | omega | (simp only [ByteArray.size]; simp; omega) | (simp; omega))
      all_goals try simp -implicitDefEqProofs (maxSteps := 2000000) only [c72, sh4, an15, qa, qb, ↓reduceIte, s_ops0, s_seq, s_opsK, s_seqK_n, s_blkK_n, s_nil, s_cons, s_wopsK, s_putK, o_mv, o_bin, v_and, v_shr, o_ixs, v_ixs, e_t, e_k, e_put, e_get, e_res, e_keep_n, e_keep_c, e_keep1_s, List.length_nil, List.length_cons, Option.getD_some, Nat.reduceEqDiff, Nat.reduceAdd, reduceCtorEq, true_and, and_true, Bool.false_eq_true, s_ret_n, s_retX, s_cells_n, t_tp, t_n, t_ln, t_lc, t_l, t_oo, r_n, outV, ownsV, owns1, ownL, List.map_cons, List.map_nil, List.any_cons, List.any_nil, Bool.or_self, PV.leaves, List.flatMap_cons, List.flatMap_nil, List.append_nil, List.cons_append, List.nil_append, Bool.and_true, Bool.true_and, Bool.and_self, Nat.reduceMul, BEq.rfl, List.getElem?_cons_zero, Option.bind_some, ol_i, ol_ni, m_lf, m_tp, m_1l, m_n, m_c, d_n, d_c, dw_n, dw_i, Nat.lt_add_one, Nat.zero_add, true_or, or_true, ta_i, ta_t, fc_lo, fc_t, kl_b, kl_i, kl_np, kl_lo, kl_t, kf_s, cp_st, dw_t0, pc_t, t_tr, s_cells_c, t_some, o_callp, v_callp, isC, cplc, Nat.reduceMod, Nat.reduceDiv, one_0, ba_size]
      all_goals try (refine ⟨by omega, ⟨by omega, ?_⟩, ?_⟩)
      all_goals try (refine ⟨⟨by omega, ?_⟩, ?_⟩)
      all_goals try (simp [ByteArray.size]; omega)
    all_goals try (congr 1; simp [*, b8_of, b8_92]; done)
    all_goals try (congr 1; simp [*, b8_of, b8_92]; apply UInt8.toNat_inj.1; simp [b8]; omega)
end Go.Proofs.YthcpaohmajjopaaDoor.I
set_option linter.unusedVariables false
set_option linter.unusedSimpArgs false
namespace Go.Proofs.YthcpaohmajjopaaDoor.I
open Go Go.Proofs.YthcpaohmajjopaaDoor.AM
variable {X : Cx}
def body (l : List UInt8) : List UInt8 := l.flatMap wb
/-- A literal of bytes; and the error. -/
def quo (s : ByteArray) : ByteArray × Int :=
  if 65536 < s.size then (⟨#[]⟩, 2) else if 65536 < (39 :: body s.data.toList ++ [39]).length then (⟨#[]⟩, 2) else (⟨(39 :: body s.data.toList ++ [39]).toArray⟩, 0)
/-- The k-th byte. -/
def btq (s : ByteArray) (k : Nat) : UInt8 := s.data.toList.getD k 0
theorem btq_int (s : ByteArray) (k : Nat) : byteAt s (k : Int) = ((btq s k).toNat : Int) := rfl
theorem body_take {s : ByteArray} {k : Nat} (h : k < s.size) : body (s.data.toList.take (k + 1)) = body (s.data.toList.take k) ++ wb (btq s k) := by
  have hl : k < s.data.toList.length := by simpa using h
  rw [List.take_succ_eq_append_getElem hl]
  simp [body, btq, List.getD_eq_getElem?_getD, List.getElem?_eq_getElem hl]
theorem wb_len : ∀ c : UInt8, 1 ≤ (wb c).length ∧ (wb c).length ≤ 4 := all8 (by decide +kernel)
theorem body_len : ∀ l : List UInt8, l.length ≤ (body l).length ∧ (body l).length ≤ 4 * l.length
  | [] => by simp [body]
  | c :: l => by
    have := body_len l
    have := wb_len c
    simp only [body, List.flatMap_cons, List.length_append, List.length_cons] at *
    omega
theorem b8_39 : b8 39 = 39 := rfl
theorem r60 (s : ByteArray) : R X Tryd.prog 60 [.lf (.str s)] [] (.tp [.lf (.str (quo s).1), .lf (.int .i64 (quo s).2)]) [] := by
  refine R_i [] [] c60_ok rfl (by simp) ?_
  simp -implicitDefEqProofs (maxSteps := 2000000) only [c60, ↓reduceIte, s_skip, s_ret, s_ops0, s_seq, s_cond, s_opsK, s_seqK_n, s_seqK_r, s_cnd, s_nil, s_cons, s_wopsK, s_putK, o_mv, o_as, o_bin, v_gtr, o_lns, v_lns, e_t, e_k, e_put, e_get, e_res, e_keep_n, e_keep_c, e_keep1_s, e_asg_i, e_asg_s, St.init, enum, List.length_nil, Option.getD_some, Nat.reduceEqDiff, reduceCtorEq, true_and, and_true, decide_eq_true_eq, s_ret_r, s_retX, s_cells_n, t_tp, t_n, t_c, t_1l, t_i, t_s, r_n, r_t, r_cons, one_2, List.map_cons, List.map_nil, PV.leaves, List.flatMap_cons, List.flatMap_nil, List.append_nil, List.cons_append, List.nil_append, Bool.and_true, Bool.true_and, Nat.zero_le, List.getElem?_cons_zero, Option.bind_some, kc_b, kc_s, m_lf, m_n, m_c, m_all, d_n, dw_n, dw_i, ta_i, ta_t, dw_t0, pc_t, o_alt, o_callp, v_callp]
  refine ite_pr (fun hbig => ?_) (fun hsm => ?_)
  · have : 65536 < s.size := by omega
    simp [quo, this]
  refine pcall_i (r45 _ (Or.inl rfl) [] _ (by omega) (by omega) (by simp)) rfl rfl ?_
  simp -implicitDefEqProofs (maxSteps := 2000000) only [c60, ↓reduceIte, s_ops0, s_seq, s_block, s_loop, s_opsK, s_seqK_n, s_nil, s_cons, s_wopsK, s_putK, o_mv, o_lns, v_lns, e_t, e_k, e_put, e_get, e_res, e_keep_n, e_keep_c, e_keep1_s, Option.getD_some, Nat.reduceEqDiff, Nat.reduceAdd, reduceCtorEq, Bool.false_eq_true, outV, ownsV, owns1, ownL, List.map_cons, List.map_nil, List.nil_append, Bool.and_self, Nat.reduceMul, BEq.rfl, ol_ni, m_lf, m_n, m_c, e_head, e_headK, kC_n, kC_c, pO_n, pO_i, pO_s, d_n, d_c, List.range_zero, fc_lo, fc_t, kl_s, kl_np, kl_lo, kl_t, kf_s, cp_st, pO_tt, isC, cplc, Nat.reduceMod, Nat.reduceDiv]
  have hz : ∀ k, (body (s.data.toList.take k)).length ≤ 262144 := fun k => by
    have h1 := body_len (s.data.toList.take k)
    have h2 : (s.data.toList.take k).length ≤ s.size := by simp; omega
    omega
  have key : ∀ (n k : Nat), k + n = s.size → LoopAt X Tryd.prog c60_8 [0, 4, 11, 12] (blkK 0 (seqK X Tryd.prog c60_17 (retS [] [] 0 [RV.t 2, RV.t 3] (.tp [.lf (.str (quo s).1), .lf (.int .i64 (quo s).2)]) [])))
      { m := 0, tm := [(0, PV.lf (L.str s)), (4, PV.lf (L.tptr 4 0 73)), (11, PV.lf (L.int IntKind.i64 ↑s.size)), (12, PV.lf (L.int IntKind.i64 (k : Int)))],
        ce := [(4, [L.tptr 4 0 73, L.lst (Tag.own 515 5) 1 (ub (39 :: body (s.data.toList.take k))) []])] } := by
    intro n
    induction n with
    | zero =>
      intro k hk Z hZ
      apply hZ
      simp -implicitDefEqProofs (maxSteps := 2000000) only [c60, ↓reduceIte, s_skip, s_exit, s_ops0, s_seq, s_cond, s_block, s_opsK, s_seqK_n, s_seqK_e, s_blkK_e, s_loopK_e, s_cnd, s_nil, s_cons, s_wopsK, s_putK, o_mv, o_as, o_bin, v_lss, o_ixs, v_ixs, e_t, e_k, e_put, e_get, e_res, e_keep_n, e_keep_c, e_keep1_s, e_asg_i, Option.getD_some, Nat.reduceEqDiff, reduceCtorEq, decide_eq_true_eq, List.map_cons, List.map_nil, PV.leaves, List.flatMap_cons, List.flatMap_nil, List.append_nil, List.cons_append, List.nil_append, List.getElem?_cons_zero, Option.bind_some, m_lf, dw_n, dw_i, ta_i, ta_t, dw_t0, pc_t, o_callp, v_callp]
      rw [if_neg (by omega)]
      refine pcall_i (r45 _ (Or.inr rfl) _ _ (by omega) (by omega) ?_) rfl rfl ?_
      · have := hz k; simp; omega
      simp -implicitDefEqProofs (maxSteps := 2000000) only [c60, ↓reduceIte, s_ops0, s_seq, s_opsK, s_seqK_n, s_nil, s_cons, s_wopsK, e_t, e_put, e_get, e_res, e_keep_n, e_keep_c, e_keep1_s, Option.getD_some, Nat.reduceEqDiff, Nat.reduceAdd, reduceCtorEq, Bool.false_eq_true, outV, ownsV, owns1, ownL, List.map_cons, List.map_nil, PV.leaves, List.flatMap_cons, List.flatMap_nil, List.append_nil, List.cons_append, Bool.and_self, Nat.reduceMul, BEq.rfl, List.getElem?_cons_zero, Option.bind_some, ol_ni, m_lf, m_n, m_c, d_n, d_c, dw_n, ta_t, fc_lo, fc_t, kl_b, kl_i, kl_s, kl_lo, kl_t, kf_s, cp_st, dw_t0, pc_t, o_callp, v_callp, isC, cplc, Nat.reduceMod, Nat.reduceDiv]
      refine pcall_i (r46 _ (Or.inr rfl) _) rfl rfl ?_
      simp -implicitDefEqProofs (maxSteps := 2000000) only [c60, ↓reduceIte, s_skip, s_ret, s_ops0, s_seq, s_cond, s_opsK, s_seqK_n, s_seqK_r, s_cnd, s_nil, s_cons, s_wopsK, s_putK, o_as, o_bin, v_gtr, e_t, e_k, e_put, e_get, e_res, e_keep_n, e_keep_c, e_keep1_s, e_asg_i, e_asg_s, List.length_nil, List.length_cons, Option.getD_some, Nat.reduceEqDiff, Nat.reduceAdd, true_and, and_true, Bool.false_eq_true, decide_eq_true_eq, s_ret_r, s_retX, s_cells_n, t_tp, t_n, t_c, t_1l, t_i, t_s, r_n, r_t, r_cons, one_2, outV, ownsV, owns1, ownL, List.map_cons, List.map_nil, PV.leaves, List.flatMap_cons, List.flatMap_nil, List.append_nil, Bool.and_true, Bool.true_and, Bool.and_self, Nat.reduceMul, BEq.rfl, List.getElem?_cons_zero, Option.bind_some, ol_i, m_lf, m_n, m_c, d_n, d_c, dw_n, List.length_append, Nat.zero_add, ta_t, fc_lo, fc_t, kl_lo, kl_t, kf_s, cp_st, dw_t0, pc_t, o_callp, v_callp, isC, cplc, Nat.reduceMod, Nat.reduceDiv]
      have ek : k = s.size := by omega
      have et : s.data.toList.take k = s.data.toList := List.take_of_length_le (by subst ek; simp)
      rw [et, b8_39]
      refine ite_pr (fun hb => ?_) (fun hb => ?_)
      · have h1 : 65536 < (39 :: body s.data.toList ++ [39]).length := by simp; omega
        unfold quo
        rw [if_neg (by omega), if_pos h1]; exact ⟨rfl, rfl⟩
      · refine pcall_i (r47 _ (Or.inr rfl) _ (by simp)) rfl rfl ?_
        simp -implicitDefEqProofs (maxSteps := 2000000) only [c60, ↓reduceIte, s_ret, s_opsK, s_seqK_n, s_nil, s_cons, s_wopsK, o_as, e_t, e_k, e_put, e_get, e_res, e_keep_n, e_keep_c, e_keep1_s, e_asg_i, e_asg_s, Option.getD_some, Nat.reduceEqDiff, true_and, and_true, Bool.false_eq_true, s_ret_r, s_retX, s_cells_n, t_tp, t_n, t_c, t_1l, t_i, t_s, r_n, r_t, r_cons, one_2, outV, ownsV, owns1, ownL, List.map_cons, List.map_nil, Bool.and_true, Bool.true_and, Bool.and_self, BEq.rfl, ol_s, m_lf, m_n, m_c, d_n, d_c, fc_u, fc_t, kl_b, kl_lo, kl_t, kf_s, cp_st, isC, Nat.reduceMod, Nat.reduceDiv]
        have h1 : ¬ 65536 < (39 :: body s.data.toList ++ [39]).length := by simp; omega
        unfold quo
        rw [if_neg (by omega), if_neg h1]; exact ⟨rfl, rfl⟩
    | succ n ih =>
      intro k hk Z hZ
      apply hZ
      simp -implicitDefEqProofs (maxSteps := 2000000) only [c60, btq_int, ↓reduceIte, s_skip, s_exit, s_ops0, s_seq, s_cond, s_block, s_opsK, s_seqK_n, s_seqK_e, s_blkK_e, s_loopK_e, s_cnd, s_nil, s_cons, s_wopsK, s_putK, o_mv, o_as, o_bin, v_lss, o_ixs, v_ixs, e_t, e_k, e_put, e_get, e_res, e_keep_n, e_keep_c, e_keep1_s, e_asg_i, Option.getD_some, Nat.reduceEqDiff, reduceCtorEq, decide_eq_true_eq, List.map_cons, List.map_nil, PV.leaves, List.flatMap_cons, List.flatMap_nil, List.append_nil, List.cons_append, List.nil_append, List.getElem?_cons_zero, Option.bind_some, m_lf, dw_n, dw_i, ta_i, ta_t, dw_t0, pc_t, o_callp, v_callp]
      rw [if_pos (by omega)]
      refine ⟨by omega, pcall_i (r72 _ (Or.inr rfl) _ _ ?_) rfl rfl ?_⟩
      · have := hz k; simp; omega
      simp -implicitDefEqProofs (maxSteps := 2000000) only [c60, ↓reduceIte, s_ops0, s_opsK, s_seqK_n, s_blkK_n, s_loopK_n, s_nil, s_cons, s_wopsK, s_putK, o_mv, o_bin, v_add, e_t, e_k, e_put, e_get, e_res, e_keep_n, e_keep_c, e_keep1_s, Option.getD_some, Nat.reduceEqDiff, Nat.reduceAdd, reduceCtorEq, Bool.false_eq_true, outV, ownsV, List.map_cons, List.map_nil, List.any_nil, List.cons_append, List.nil_append, Bool.and_self, Nat.reduceMul, BEq.rfl, m_lf, m_tp, m_n, m_c, e_head, e_headK, kC_n, kC_c, pO_n, pO_i, pO_s, d_n, d_c, List.range_zero, fc_lo, fc_t, kl_i, kl_s, kl_lo, kl_t, kf_s, cp_st, pO_tt, isC, cplc, Nat.reduceMod, Nat.reduceDiv]
      rw [w64 (by omega) (by omega)]
      have := ih (k + 1) (by omega) Z hZ
      rw [body_take (by omega)] at this
      exact this
  exact key s.size 0 (by omega)
theorem hd_int : ∀ c : UInt8, c < 16 → (if (c.toNat : Int) < 10 then IntKind.wrap .u8 (IntKind.wrap .i64 (48 + (c.toNat : Int))) else IntKind.wrap .u8 (IntKind.wrap .i64 (IntKind.wrap .i64 (97 + (c.toNat : Int)) - 10))) = ((hd c).toNat : Int) := all8 (by decide +kernel)
theorem r76 (c : UInt8) (hc : c < 16) : R X Tryd.prog 76 [.lf (.int .i64 c.toNat)] [] (.lf (.int .u8 (hd c).toNat)) [] := by
  refine R_i [] [] c76_ok rfl (by simp) ?_
  have h := hd_int c hc
  simp -implicitDefEqProofs (maxSteps := 2000000) only [c76, ↓reduceIte, s_skip, s_ret, s_ops0, s_seq, s_cond, s_opsK, s_seqK_n, s_seqK_r, s_cnd, s_nil, s_cons, s_wopsK, s_putK, o_mv, o_as, o_bin, v_add, v_sub, v_lss, o_cvi, v_cvi, e_t, e_k, e_put, e_get, e_res, e_keep_n, e_keep_c, e_keep1_s, e_asg_i, St.init, enum, List.length_nil, Option.getD_some, reduceCtorEq, true_and, and_true, decide_eq_true_eq, s_ret_r, s_retX, s_cells_n, t_lf, t_i, r_n, r_t, r_cons, one_1, Bool.and_true, Bool.true_and]
  split at h <;> simp [*]
theorem q16 : ∀ c : UInt8, IntKind.wrap .i64 ((IntKind.wrap .i64 (c.toNat : Int)).tdiv 16) = ((c / 16).toNat : Int) ∧ (IntKind.wrap .i64 (c.toNat : Int)).tmod 16 = ((c % 16).toNat : Int) := all8 (by decide +kernel)
theorem body_mono (l : List UInt8) (k : Nat) : (body (l.take k)).length ≤ (body l).length := by
  have : body l = body (l.take k) ++ body (l.drop k) := by
    simp only [body, ← List.flatMap_append, List.take_append_drop]
  rw [this, List.length_append]; omega
set_option maxRecDepth 20000 in
theorem r63 (s : ByteArray) : R X Tryd.prog 63 [.lf (.str s)] [] (.tp [.lf (.str (quo s).1), .lf (.int .i64 (quo s).2)]) [] := by
  refine R_i [] [] c63_ok rfl (by simp) ?_
  have hz : ∀ k, (body (s.data.toList.take k)).length ≤ 4 * s.size := fun k => by
    have h1 := body_len (s.data.toList.take k)
    have h2 : (s.data.toList.take k).length ≤ s.size := by simp; omega
    omega
  have fin : ∀ k, k = s.size ∨ 65536 < (body (s.data.toList.take k)).length + 1 → s.size ≤ 65536 → awp X Tryd.prog c63_28 (retS [] [] 0 [RV.t 2, RV.t 3] (PV.tp [PV.lf (L.str (quo s).1), PV.lf (L.int IntKind.i64 (quo s).2)]) [])
      { m := 0, tm := [(4, PV.lf (L.lst (Tag.own 512 5) 1 (ub (39 :: body (s.data.toList.take k))) []))], ce := [] } := by
    intro k hk hsm
    have h1 := hz k
    have h2 := body_mono s.data.toList k
    simp -implicitDefEqProofs (maxSteps := 2000000) only [c63, ↓reduceIte, s_skip, s_ret, s_ops0, s_seq, s_cond, s_opsK, s_seqK_n, s_seqK_r, s_cnd, s_nil, s_cons, s_wopsK, s_putK, o_mv, o_as, o_bin, v_gtr, o_cbs, o_bs, v_bsK, v_lit_n, v_lit_c, o_len, v_len, o_app, v_app_o, e_t, e_k, e_put, e_get, e_res, e_keep_n, e_keep_c, e_keep1_s, e_asg_i, e_asg_s, List.length_nil, List.length_cons, Option.getD_some, Nat.reduceEqDiff, reduceCtorEq, true_and, and_true, Bool.false_eq_true, decide_eq_true_eq, s_ret_r, s_retX, s_cells_n, t_tp, t_n, t_c, t_1l, t_i, t_s, r_n, r_t, r_cons, one_2, List.map_cons, List.map_nil, Bool.or_false, List.append_nil, List.all_cons, List.all_nil, Bool.and_true, Bool.true_and, Bool.and_self, PV.cells, datL, Nat.reduceMul, Nat.reduceBEq, Nat.reduceLeDiff, BEq.rfl, kp_u, rk_u, rl_i, kp_lo, rk_lo, m_lf, m_n, m_c, m_all, e_asg_o, dw_n, dw_i, plT, lit_n, lit_c, List.reduceReplicate, List.set_cons_zero, List.length_append, Nat.lt_add_one, Nat.zero_add, Nat.add_zero, or_false, ub_len]
    refine ⟨by omega, fun _ => ?_⟩
    have e39 : ub (39 :: body (s.data.toList.take k)) ++ [[L.int IntKind.u8 39]] = ub (39 :: body (s.data.toList.take k) ++ [39]) := by simp [ub]
    refine ite_pr (fun hb => ?_) (fun hb => ?_)
    · have h1 : 65536 < (39 :: body s.data.toList ++ [39]).length := by simp; omega
      unfold quo
      rw [if_neg (by omega), if_pos h1]; exact ⟨rfl, rfl⟩
    · have ek : k = s.size := by omega
      have et : s.data.toList.take k = s.data.toList := List.take_of_length_le (by subst ek; simp)
      rw [e39, v_cbs_ub, et]
      rw [et] at hb
      have h1 : ¬ 65536 < (39 :: body s.data.toList ++ [39]).length := by simp; omega
      simp -implicitDefEqProofs (maxSteps := 2000000) only [c63, ↓reduceIte, s_ret, s_opsK, s_seqK_n, s_nil, s_cons, s_wopsK, s_putK, o_as, e_t, e_k, e_put, e_get, e_res, e_keep_n, e_keep_c, e_keep1_s, e_asg_i, e_asg_s, Option.getD_some, Nat.reduceEqDiff, true_and, and_true, s_ret_r, s_retX, s_cells_n, t_tp, t_n, t_c, t_1l, t_i, t_s, r_n, r_t, r_cons, one_2, List.cons_append, Bool.and_true, Bool.true_and]
      unfold quo
      rw [if_neg (by omega), if_neg h1]; exact ⟨rfl, rfl⟩
  have key : s.size ≤ 65536 → ∀ (n k : Nat), k + n = s.size → LoopAt X Tryd.prog c63_19 [0, 4, 5] (blkK 0 (seqK X Tryd.prog c63_28 (retS [] [] 0 [RV.t 2, RV.t 3] (PV.tp [PV.lf (L.str (quo s).1), PV.lf (L.int IntKind.i64 (quo s).2)]) [])))
      { m := 0, tm := [(0, PV.lf (L.str s)), (4, PV.lf (L.lst (Tag.own 512 5) 1 (ub (39 :: body (s.data.toList.take k))) [])), (5, PV.lf (L.int IntKind.i64 (k : Int)))], ce := [] } := by
    intro hsm n
    induction n with
    | zero =>
      intro k hk Z hZ
      apply hZ
      simp -implicitDefEqProofs (maxSteps := 2000000) only [c63, ↓reduceIte, s_skip, s_exit, s_ret, s_ops0, s_seq, s_cond, s_block, s_opsK, s_seqK_n, s_seqK_e, s_seqK_r, s_blkK_n, s_blkK_e, s_loopK_n, s_loopK_e, s_cnd, s_nil, s_cons, s_guard, s_wopsK, s_putK, s_grd, q_mv, q_bin, q_len, o_mv, o_as, o_pk, v_pk, o_bin, v_add, v_quo, v_eql, v_lss, v_leq, v_gtr, v_geq, o_cvi, v_cvi, o_cbs, o_ixs, v_ixs, o_bs, v_bsK, v_lit_n, v_lit_c, o_len, v_len, o_lns, v_lns, o_app, v_app_o, o_call, e_t, e_k, e_put, e_get, e_res, e_keep_n, e_keep_c, e_keep1_s, e_asg_b, e_asg_i, e_asg_s, List.length_nil, List.length_cons, Option.getD_some, Nat.reduceEqDiff, Nat.reduceAdd, reduceCtorEq, true_and, and_true, cond_false, Bool.not_true, Bool.not_false, Bool.true_eq_false, Bool.false_eq_true, decide_eq_true_eq, decide_eq_false_iff_not, s_ret_r, s_retX, s_cells_n, t_tp, t_n, t_c, t_1l, t_i, t_s, r_n, r_t, r_cons, one_2, List.map_cons, List.map_nil, Bool.or_false, PV.leaves, List.flatMap_cons, List.flatMap_nil, List.append_nil, List.cons_append, List.nil_append, List.all_cons, List.all_nil, Bool.and_true, Bool.true_and, Bool.and_self, PV.cells, datL, Nat.reduceMul, Nat.reduceBEq, Nat.reduceLeDiff, BEq.rfl, kp_b, kp_i, kp_s, kp_u, rk_b, rk_i, rk_s, rk_u, rl_i, kp_lo, rk_lo, m_lf, m_n, m_c, m_all, e_asg_o, e_head, e_headK, kC_n, pO_n, pO_i, pO_s, pO_l, dw_n, dw_i, List.range_zero, plT, ne_eq, lit_n, lit_c, List.reduceReplicate, List.set_cons_zero, List.set_cons_succ, List.length_append, Nat.reduceLT, Nat.lt_add_one, Nat.zero_add, Nat.add_zero, or_false, ite_not, ub_len]
      rw [if_neg (by omega)]
      have h := fin k (Or.inl (by omega)) hsm
      simp -implicitDefEqProofs (maxSteps := 2000000) only [c63, ↓reduceIte, s_skip, s_ret, s_ops0, s_seq, s_cond, s_opsK, s_seqK_n, s_seqK_r, s_cnd, s_nil, s_cons, s_wopsK, s_putK, o_mv, o_as, o_bin, v_gtr, o_cbs, o_bs, v_bsK, v_lit_n, v_lit_c, o_len, v_len, o_app, v_app_o, e_t, e_k, e_put, e_get, e_res, e_keep_n, e_keep_c, e_keep1_s, e_asg_i, e_asg_s, List.length_nil, List.length_cons, Option.getD_some, Nat.reduceEqDiff, reduceCtorEq, true_and, and_true, Bool.false_eq_true, decide_eq_true_eq, s_ret_r, s_retX, s_cells_n, t_tp, t_n, t_c, t_1l, t_i, t_s, r_n, r_t, r_cons, one_2, List.map_cons, List.map_nil, Bool.or_false, List.append_nil, List.all_cons, List.all_nil, Bool.and_true, Bool.true_and, Bool.and_self, PV.cells, datL, Nat.reduceMul, Nat.reduceBEq, Nat.reduceLeDiff, BEq.rfl, kp_u, rk_u, rl_i, kp_lo, rk_lo, m_lf, m_n, m_c, m_all, e_asg_o, dw_n, dw_i, plT, lit_n, lit_c, List.reduceReplicate, List.set_cons_zero, List.length_append, Nat.lt_add_one, Nat.zero_add, Nat.add_zero, or_false, ub_len] at h
      exact h
    | succ n ih =>
      intro k hk Z hZ
      apply hZ
      simp -implicitDefEqProofs (maxSteps := 2000000) only [c63, btq_int, ↓reduceIte, s_skip, s_exit, s_ret, s_ops0, s_seq, s_cond, s_block, s_opsK, s_seqK_n, s_seqK_e, s_seqK_r, s_blkK_n, s_blkK_e, s_loopK_n, s_loopK_e, s_cnd, s_nil, s_cons, s_guard, s_wopsK, s_putK, s_grd, q_mv, q_bin, q_len, o_mv, o_as, o_pk, v_pk, o_bin, v_add, v_quo, v_eql, v_lss, v_leq, v_gtr, v_geq, o_cvi, v_cvi, o_cbs, o_ixs, v_ixs, o_bs, v_bsK, v_lit_n, v_lit_c, o_len, v_len, o_lns, v_lns, o_app, v_app_o, o_call, e_t, e_k, e_put, e_get, e_res, e_keep_n, e_keep_c, e_keep1_s, e_asg_b, e_asg_i, e_asg_s, List.length_nil, List.length_cons, Option.getD_some, Nat.reduceEqDiff, Nat.reduceAdd, reduceCtorEq, true_and, and_true, cond_false, Bool.not_true, Bool.not_false, Bool.true_eq_false, Bool.false_eq_true, decide_eq_true_eq, decide_eq_false_iff_not, s_ret_r, s_retX, s_cells_n, t_tp, t_n, t_c, t_1l, t_i, t_s, r_n, r_t, r_cons, one_2, List.map_cons, List.map_nil, Bool.or_false, PV.leaves, List.flatMap_cons, List.flatMap_nil, List.append_nil, List.cons_append, List.nil_append, List.all_cons, List.all_nil, Bool.and_true, Bool.true_and, Bool.and_self, PV.cells, datL, Nat.reduceMul, Nat.reduceBEq, Nat.reduceLeDiff, BEq.rfl, kp_b, kp_i, kp_s, kp_u, rk_b, rk_i, rk_s, rk_u, rl_i, kp_lo, rk_lo, m_lf, m_n, m_c, m_all, e_asg_o, e_head, e_headK, kC_n, pO_n, pO_i, pO_s, pO_l, dw_n, dw_i, List.range_zero, plT, ne_eq, lit_n, lit_c, List.reduceReplicate, List.set_cons_zero, List.set_cons_succ, List.length_append, Nat.reduceLT, Nat.lt_add_one, Nat.zero_add, Nat.add_zero, or_false, ite_not, ub_len, ub_snoc]
      rw [if_pos (by omega)]
      intro _
      with_reducible refine ite_pr (fun hb => ?_) (fun hb => ?_)
      case refine_2 =>
        have h := fin k (Or.inr (by omega)) hsm
        simp -implicitDefEqProofs (maxSteps := 2000000) only [c63, ↓reduceIte, s_skip, s_ret, s_ops0, s_seq, s_cond, s_opsK, s_seqK_n, s_seqK_r, s_cnd, s_nil, s_cons, s_wopsK, s_putK, o_mv, o_as, o_bin, v_gtr, o_cbs, o_bs, v_bsK, v_lit_n, v_lit_c, o_len, v_len, o_app, v_app_o, e_t, e_k, e_put, e_get, e_res, e_keep_n, e_keep_c, e_keep1_s, e_asg_i, e_asg_s, List.length_nil, List.length_cons, Option.getD_some, Nat.reduceEqDiff, reduceCtorEq, true_and, and_true, Bool.false_eq_true, decide_eq_true_eq, s_ret_r, s_retX, s_cells_n, t_tp, t_n, t_c, t_1l, t_i, t_s, r_n, r_t, r_cons, one_2, List.map_cons, List.map_nil, Bool.or_false, List.append_nil, List.all_cons, List.all_nil, Bool.and_true, Bool.true_and, Bool.and_self, PV.cells, datL, Nat.reduceMul, Nat.reduceBEq, Nat.reduceLeDiff, BEq.rfl, kp_u, rk_u, rl_i, kp_lo, rk_lo, m_lf, m_n, m_c, m_all, e_asg_o, dw_n, dw_i, plT, lit_n, lit_c, List.reduceReplicate, List.set_cons_zero, List.length_append, Nat.lt_add_one, Nat.zero_add, Nat.add_zero, or_false, ub_len] at h
        exact h
      have ih' := ih (k + 1) (by omega) Z hZ
      have hw := wb_int (btq s k)
      rw [body_take (by omega)] at ih'
      clear ih fin hZ
      generalize btq s k = c at ih' hw ⊢
      have hc := c.toNat_lt
      have q := d16 c
      refine ⟨by omega, ?_⟩
      repeat' (with_reducible first | refine ite_pr (fun _ => ?_) (fun _ => ?_) | refine And.intro ?_ ?_)
      all_goals try omega
      all_goals try (rw [(q16 c).1]; refine wcall_s (r76 _ q.1) rfl rfl ?_; simp -implicitDefEqProofs (maxSteps := 2000000) only [c63, ↓reduceIte, s_cons, s_wopsK, s_putK, o_mv, o_bin, v_rem, o_cvi, v_cvi, o_call, e_t, e_k, e_put, e_get, Option.getD_some, Nat.reduceEqDiff, reduceCtorEq, Bool.false_eq_true, St.clr, outV, ownsV, owns1, ownL, List.map_cons, List.map_nil, PV.leaves, List.flatMap_cons, List.flatMap_nil, List.append_nil, rl_i, ol_i, m_lf, ne_eq]; rw [(q16 c).2]; refine ⟨by omega, wcall_s (r76 _ q.2.1) rfl rfl ?_⟩; simp -implicitDefEqProofs (maxSteps := 2000000) only [c63, ↓reduceIte, s_ops0, s_opsK, s_seqK_n, s_blkK_n, s_loopK_n, s_nil, s_cons, s_wopsK, s_putK, o_mv, o_as, o_bin, v_add, o_bs, v_bsK, v_lit_n, v_lit_c, o_app, v_app_o, e_t, e_k, e_put, e_get, e_res, e_keep_n, e_keep_c, e_keep1_s, e_asg_i, List.length_nil, List.length_cons, Option.getD_some, Nat.reduceEqDiff, Nat.reduceAdd, reduceCtorEq, true_and, Bool.false_eq_true, St.clr, outV, ownsV, owns1, ownL, List.map_cons, List.map_nil, Bool.or_false, List.append_nil, List.cons_append, List.nil_append, List.all_cons, List.all_nil, Bool.true_and, Bool.and_self, PV.cells, datL, Nat.reduceMul, Nat.reduceBEq, Nat.reduceLeDiff, BEq.rfl, kp_b, kp_i, kp_s, kp_u, rk_b, rk_i, rk_s, rk_u, rl_i, ol_i, kp_lo, rk_lo, m_lf, m_n, m_c, m_all, e_asg_o, e_head, e_headK, kC_n, pO_n, pO_i, pO_s, pO_l, dw_n, dw_i, List.range_zero, plT, lit_n, lit_c, List.reduceReplicate, List.set_cons_zero, List.set_cons_succ, Nat.reduceLT, Nat.lt_add_one, Nat.zero_add, Nat.add_zero, or_false, ub_len]; refine ⟨by omega, ?_⟩)
      all_goals rw [w64 (by omega) (by omega)]
      all_goals
        have hZs : ∀ l', l' = ub (39 :: (body (s.data.toList.take k) ++ wb c)) → Z { m := 0, tm := [(0, PV.lf (L.str s)), (4, PV.lf (L.lst (Tag.own 512 5) 1 l' [])), (5, PV.lf (L.int IntKind.i64 ((k : Int) + 1)))], ce := [] } := fun l' e => e ▸ ih'
        refine hZs _ ?_
        rw [hw]
        simp [ub, *]
  simp -implicitDefEqProofs (maxSteps := 2000000) only [c63, ↓reduceIte, s_skip, s_ret, s_ops0, s_seq, s_cond, s_block, s_loop, s_opsK, s_seqK_n, s_seqK_r, s_cnd, s_nil, s_cons, s_wopsK, s_putK, o_mv, o_as, o_bin, v_gtr, o_bs, v_bsK, v_lit_n, v_lit_c, o_lns, v_lns, e_t, e_k, e_put, e_get, e_res, e_keep_n, e_keep_c, e_keep1_s, e_asg_i, e_asg_s, St.init, enum, List.length_nil, List.length_cons, Option.getD_some, Nat.reduceEqDiff, reduceCtorEq, true_and, and_true, Bool.false_eq_true, decide_eq_true_eq, s_ret_r, s_retX, s_cells_n, t_tp, t_n, t_c, t_1l, t_i, t_s, r_n, r_t, r_cons, one_2, List.map_cons, List.map_nil, List.append_nil, List.all_cons, List.all_nil, Bool.and_true, Bool.true_and, Bool.and_self, PV.cells, datL, Nat.reduceMul, Nat.reduceBEq, Nat.reduceLeDiff, BEq.rfl, kp_b, kp_s, rk_b, rk_s, rl_i, rk_lo, m_lf, m_n, m_c, m_all, e_asg_o, e_head, e_headK, kC_n, pO_n, pO_i, pO_s, pO_l, dw_n, dw_i, List.range_zero, plT, lit_n, lit_c, List.reduceReplicate, List.set_cons_zero, Nat.lt_add_one, Nat.zero_add, Nat.add_zero]
  with_reducible refine ite_pr (fun hb => ?_) (fun hb => ?_)
  · have : 65536 < s.size := by omega
    simp [quo, this]
  · exact key (by omega) s.size 0 (by omega)
end Go.Proofs.YthcpaohmajjopaaDoor.I
namespace Go.Proofs.YthcpaohmajjopaaDoor.I
open Go Go.Shelf Go.Proofs
def laysM171_ren : Go.Shelf.Ren := ⟨fun | 171 => 59 | 243 => 71 | 246 => 94 | 283 => 110 | 284 => 111 | 285 => 112 | 286 => 113 | 129 => 93 | 317 => 122 | 318 => 123 | 319 => 124 | 320 => 125 | 337 => 127 | 338 => 115 | n => n, fun | 3 => 3 | 9 => 9 | 2 => 2 | 4 => 4 | 171 => 141 | 0 => 0 | 53 => 48 | 37 => 64 | 5 => 5 | 173 => 143 | 212 => 153 | 51 => 123 | 20 => 20 | 213 => 154 | 46 => 57 | 232 => 158 | 233 => 155 | n => n, fun | 17 => 2 | 18 => 4 | 19 => 3 | n => n⟩
theorem laysM171 : Go.Proofs.LaysM.n171 Tryd.prog laysM171_ren := {
  mixed := by kernel_rfl
  f129 := Tryd.func93.trans (congrArg some (by kernel_rfl))
  f171 := Tryd.func59.trans (congrArg some (by kernel_rfl))
  f243 := Tryd.func71.trans (congrArg some (by kernel_rfl))
  f246 := Tryd.func94.trans (congrArg some (by kernel_rfl))
  f283 := Tryd.func110.trans (congrArg some (by kernel_rfl))
  f284 := Tryd.func111.trans (congrArg some (by kernel_rfl))
  f285 := Tryd.func112.trans (congrArg some (by kernel_rfl))
  f286 := Tryd.func113.trans (congrArg some (by kernel_rfl))
  f317 := Tryd.func122.trans (congrArg some (by kernel_rfl))
  f318 := Tryd.func123.trans (congrArg some (by kernel_rfl))
  f319 := Tryd.func124.trans (congrArg some (by kernel_rfl))
  f320 := Tryd.func125.trans (congrArg some (by kernel_rfl))
  f337 := Tryd.func127.trans (congrArg some (by kernel_rfl))
  f338 := Tryd.func115.trans (congrArg some (by kernel_rfl))
  t0 := Tryd.underlying0
  a0 := Tryd.isAgg0
  z0 := Tryd.sizeOf0
  v0 := Tryd.zeroValue0
  t2 := Tryd.underlying2
  a2 := Tryd.isAgg2
  z2 := Tryd.sizeOf2
  v2 := Tryd.zeroValue2
  t3 := Tryd.underlying3
  a3 := Tryd.isAgg3
  z3 := Tryd.sizeOf3
  v3 := Tryd.zeroValue3
  t4 := Tryd.underlying4
  a4 := Tryd.isAgg4
  z4 := Tryd.sizeOf4
  v4 := Tryd.zeroValue4
  t5 := Tryd.underlying5
  a5 := Tryd.isAgg5
  z5 := Tryd.sizeOf5
  v5 := Tryd.zeroValue5
  t9 := Tryd.underlying9
  a9 := Tryd.isAgg9
  z9 := Tryd.sizeOf9
  v9 := Tryd.zeroValue9
  t20 := Tryd.underlying20
  a20 := Tryd.isAgg20
  z20 := Tryd.sizeOf20
  v20 := Tryd.zeroValue20
  t37 := Tryd.underlying64
  a37 := Tryd.isAgg64
  z37 := Tryd.sizeOf64
  v37 := Tryd.zeroValue64
  t46 := Tryd.underlying57
  a46 := Tryd.isAgg57
  z46 := Tryd.sizeOf57
  v46 := Tryd.zeroValue57
  t51 := Tryd.underlying123
  a51 := Tryd.isAgg123
  z51 := Tryd.sizeOf123
  v51 := Tryd.zeroValue123
  t53 := Tryd.underlying48
  a53 := Tryd.isAgg48
  z53 := Tryd.sizeOf48
  v53 := Tryd.zeroValue48
  t171 := Tryd.underlying141
  a171 := Tryd.isAgg141
  z171 := Tryd.sizeOf141
  v171 := Tryd.zeroValue141
  t173 := Tryd.underlying143
  a173 := Tryd.isAgg143
  z173 := Tryd.sizeOf143
  v173 := Tryd.zeroValue143
  t212 := Tryd.underlying153
  a212 := Tryd.isAgg153
  z212 := Tryd.sizeOf153
  v212 := Tryd.zeroValue153
  t213 := Tryd.underlying154
  a213 := Tryd.isAgg154
  z213 := Tryd.sizeOf154
  t232 := Tryd.underlying158
  a232 := Tryd.isAgg158
  z232 := Tryd.sizeOf158
  v232 := Tryd.zeroValue158
  t233 := Tryd.underlying155
  a233 := Tryd.isAgg155
  z233 := Tryd.sizeOf155
  v233 := Tryd.zeroValue155
  g17 := by kernel_rfl
  g18 := by kernel_rfl
  g19 := by kernel_rfl
  i0 := by kernel_rfl
  i2 := by kernel_rfl
  i3 := by kernel_rfl
  i4 := by kernel_rfl
  i5 := by kernel_rfl
  i9 := by kernel_rfl
  i20 := by kernel_rfl
  i37 := by kernel_rfl
  i46 := by kernel_rfl
  i51 := by kernel_rfl
  i53 := by kernel_rfl
  i171 := by kernel_rfl
  i173 := by kernel_rfl
  i212 := by kernel_rfl
  i232 := by kernel_rfl
  i233 := by kernel_rfl
  m17 := by kernel_rfl
  m18 := by kernel_rfl
  m19 := by kernel_rfl }
def lays729_ren : Go.Shelf.Ren := ⟨fun | 29 => 115 | n => n, fun | 22 => 48 | 3 => 3 | 4 => 4 | 25 => 57 | 54 => 155 | 0 => 0 | 5 => 5 | n => n, fun | 1 => 3 | n => n⟩
theorem lays729 : Go.Proofs.Lays7.n29 Tryd.prog lays729_ren := {
  mixed := by kernel_rfl
  f29 := Tryd.func115.trans (congrArg some (by kernel_rfl))
  t0 := Tryd.underlying0
  a0 := Tryd.isAgg0
  z0 := Tryd.sizeOf0
  v0 := Tryd.zeroValue0
  i0 := by kernel_rfl
  t3 := Tryd.underlying3
  a3 := Tryd.isAgg3
  z3 := Tryd.sizeOf3
  v3 := Tryd.zeroValue3
  i3 := by kernel_rfl
  t4 := Tryd.underlying4
  a4 := Tryd.isAgg4
  z4 := Tryd.sizeOf4
  v4 := Tryd.zeroValue4
  i4 := by kernel_rfl
  t5 := Tryd.underlying5
  a5 := Tryd.isAgg5
  z5 := Tryd.sizeOf5
  v5 := Tryd.zeroValue5
  i5 := by kernel_rfl
  t22 := Tryd.underlying48
  a22 := Tryd.isAgg48
  z22 := Tryd.sizeOf48
  v22 := Tryd.zeroValue48
  i22 := by kernel_rfl
  t25 := Tryd.underlying57
  a25 := Tryd.isAgg57
  z25 := Tryd.sizeOf57
  v25 := Tryd.zeroValue57
  i25 := by kernel_rfl
  t54 := Tryd.underlying155
  a54 := Tryd.isAgg155
  z54 := Tryd.sizeOf155
  g1 := by kernel_rfl }
theorem itoa59 (n : Int) (h0 : -9223372036854775808 ≤ n) (h1 : n ≤ 9223372036854775807) (w : World) (htab : Lib.TabIs Tryd.prog w "internal/strconv.uint64pow10" .u64 Lib.pow10Tab) :
    Calls Tryd.prog 59 #[.int .i64 n] w fun e w' => e = .returned (.string ⟨(Lib.itoa n).toArray⟩) ∧ ∃ k os, w' = Go.Sort.grow (w.drewN k) os := Any.strconv_Itoa laysM171 n h0 h1 w htab
theorem tz115 (x : Nat) (hx : x < 18446744073709551616) (w : World) (hT : x ≠ 0 → TabAt 3 Lib.deBruijn64tab w) :
    Calls Tryd.prog 115 #[.int .u64 x] w fun e w' => e = .returned (.int .i64 (Lib.ctz 64 x)) ∧ w' = w := Any7.bits_TrailingZeros64 lays729 x hx w hT
end Go.Proofs.YthcpaohmajjopaaDoor.I
namespace Go.Proofs.YthcpaohmajjopaaDoor.I
open Go Go.Proofs Go.RowKit Go.Shelf
set_option linter.unusedVariables false
set_option linter.unusedSimpArgs false
attribute [local go_sem] Oper.semAt_some

/-- the bits of a word, rising -/
def bitsW (i w : Nat) : List Int := if h : w = 0 then [] else (((64 * i : Nat) : Int) + ((Lib.ctz 64 w : Nat) : Int)) :: bitsW i (w &&& (w - 1))
termination_by w
decreasing_by have := @Nat.and_le_right w (w - 1); omega
theorem idx0 (a b c d : Nat) (w : World) : (Instr.index 50 (.agg #[.int .u64 a, .int .u64 b, .int .u64 c, .int .u64 d]) (.int .i64 0)).run Tryd.prog w = .ok (.int .u64 a) w := by
  simp [Instr.index, run_underlying Tryd.underlying50, asIntOf, go_sem, Tryd.isAgg48, Tryd.sizeOf48]
theorem idx1 (a b c d : Nat) (w : World) : (Instr.index 50 (.agg #[.int .u64 a, .int .u64 b, .int .u64 c, .int .u64 d]) (.int .i64 1)).run Tryd.prog w = .ok (.int .u64 b) w := by
  simp [Instr.index, run_underlying Tryd.underlying50, asIntOf, go_sem, Tryd.isAgg48, Tryd.sizeOf48]
theorem idx2 (a b c d : Nat) (w : World) : (Instr.index 50 (.agg #[.int .u64 a, .int .u64 b, .int .u64 c, .int .u64 d]) (.int .i64 2)).run Tryd.prog w = .ok (.int .u64 c) w := by
  simp [Instr.index, run_underlying Tryd.underlying50, asIntOf, go_sem, Tryd.isAgg48, Tryd.sizeOf48]
theorem idx3 (a b c d : Nat) (w : World) : (Instr.index 50 (.agg #[.int .u64 a, .int .u64 b, .int .u64 c, .int .u64 d]) (.int .i64 3)).run Tryd.prog w = .ok (.int .u64 d) w := by
  simp [Instr.index, run_underlying Tryd.underlying50, asIntOf, go_sem, Tryd.isAgg48, Tryd.sizeOf48]
def restL4 (a b c d : Nat) : Nat → List Int
  | 0 => bitsW 0 a ++ (bitsW 1 b ++ (bitsW 2 c ++ bitsW 3 d))
  | 1 => bitsW 1 b ++ (bitsW 2 c ++ bitsW 3 d)
  | 2 => bitsW 2 c ++ bitsW 3 d
  | 3 => bitsW 3 d
  | _ => []
set_option maxRecDepth 100000 in
set_option maxHeartbeats 4000000 in
theorem each1_in (F : Fence) (n : Nat) (h114 : F.fn 114) (h115 : F.fn 115) (hro : F.round = none) (hn : 1 ≤ n) (l Bn n₀ : Nat) (a b c d : Nat) (ha : a < 18446744073709551616) (hb : b < 18446744073709551616) (hc : c < 18446744073709551616) (hd : d < 18446744073709551616) (xs : List Int) (hxs : xs = restL4 a b c d 0) (J Jx : List Int → World → Prop)
    (hT0 : ∀ W W', Below n₀ W W' → TabAt 3 Lib.deBruijn64tab W → TabAt 3 Lib.deBruijn64tab W')
    (hwide : ∀ (x : Nat) (w : World), x < 18446744073709551616 → TabAt 3 Lib.deBruijn64tab w → CallsIn F (n - 1) Tryd.prog 115 #[.int .u64 x] w fun e w' => e = .returned (.int .i64 (Lib.ctz 64 x)) ∧ w' = w)
    (hY : ∀ pre x W, J pre W → (pre ++ [x]) <+: xs → YieldAt F (n - 1) Tryd.prog l #[.int .i64 x] W fun e W' =>
      (e = .returned (.bool true) ∧ J (pre ++ [x]) W' ∧ Below n₀ W W') ∨ (e = .returned (.bool false) ∧ Jx (pre ++ [x]) W'))
    (W : World) (b0 : W.cell? ⟨Bn, 0, none⟩ = some (.int .u64 a)) (b1 : W.cell? ⟨Bn, 1, none⟩ = some (.int .u64 b)) (b2 : W.cell? ⟨Bn, 2, none⟩ = some (.int .u64 c)) (b3 : W.cell? ⟨Bn, 3, none⟩ = some (.int .u64 d)) (hT : TabAt 3 Lib.deBruijn64tab W) (h0 : J [] W) :
    CallsIn F n Tryd.prog 114 #[.func (.yield l) #[] #[], .pointer (some ⟨Bn, 0, none⟩)] W fun e W' => (∃ v, e = .returned v) ∧
      ((∃ ys, ys = xs ∧ J ys W') ∨ (∃ pre, pre <+: xs ∧ Jx pre W')) := by
  refine callsIn_of_wp Tryd.func114 rfl h114 ?_ hro
  simp only [Tryd.ntmps114, List.size_toArray, List.length_cons, List.length_nil, Nat.reduceAdd, Nat.reduceSub, Array.replicate_succ, Array.replicate_zero, List.push_toArray, List.append_toArray, List.nil_append, List.cons_append]
  gi_wp2
  clear b0 b1 b2 b3
  gi_loopw [6] (fun v wr => ∃ (k : Nat) (pre : List Int), v = .int .i64 (k : Int) ∧ k ≤ 4 ∧ xs = pre ++ restL4 a b c d k ∧ J pre wr ∧ TabAt 3 Lib.deBruijn64tab wr) (fun v _ => 4 - (intOf v).toNat)
  case atStart => exact ⟨0, [], rfl, by omega, by rw [hxs]; rfl, h0, hT⟩
  case round =>
    obtain ⟨k, pre, rfl, hk4, hx, hJ, hTw⟩ := hrel
    have i0 := idx0 a b c d wr
    have i1 := idx1 a b c d wr
    have i2 := idx2 a b c d wr
    have i3 := idx3 a b c d wr
    obtain ⟨wo, rfl⟩ : ∃ wo : World, wo = wr := ⟨_, rfl⟩
    rcases (show k = 0 ∨ k = 1 ∨ k = 2 ∨ k = 3 ∨ k = 4 by omega) with rfl | rfl | rfl | rfl | rfl
    case inr.inr.inr.inr =>
      gi_wp2
      go_end0
      exact ⟨⟨_, rfl⟩, .inl ⟨pre, by rw [hx]; simp [restL4], hJ⟩⟩
    case inl =>
      gi_wp2
      gi_loopw [4] (fun v wr => ∃ (w : Nat) (pre : List Int), v = .int .u64 (w : Int) ∧ w < 18446744073709551616 ∧ xs = pre ++ (bitsW 0 w ++ restL4 a b c d 1) ∧ J pre wr ∧ TabAt 3 Lib.deBruijn64tab wr) (fun v _ => (intOf v).toNat)
      case atStart => exact ⟨a, pre, rfl, ha, by rw [hx]; simp [restL4], hJ, hTw⟩
      case round =>
        obtain ⟨w, pre, rfl, hw, hx, hJ, hTw⟩ := hrel
        by_cases hw0 : w = 0
        · subst hw0
          gi_wp2
          refine ⟨⟨1, pre, rfl, by omega, by rw [hx]; simp [bitsW], hJ, hTw⟩, by simp [intOf]⟩
        · have hc64 : Lib.ctz 64 w < 64 := (Lib.lowest_bit 64 w hw0 hw).2
          have hb1 : bitsW 0 w = ((Lib.ctz 64 w : Nat) : Int) :: bitsW 0 (w &&& (w - 1)) := by
            rw [bitsW]; simp [hw0]
          have hle : w &&& (w - 1) ≤ w - 1 := Nat.and_le_right
          have hand : bits BinOp.and IntKind.u64 (w : Int) ((w : Int) - 1) = ((w &&& (w - 1) : Nat) : Int) := by
            rw [← bits_and_u64_nat w (w - 1) hw (by omega)]
            congr 1; omega
          obtain ⟨fn, tmps, assign, body, hy, hR⟩ := hY pre ((Lib.ctz 64 w : Nat) : Int) wr hJ ⟨bitsW 0 (w &&& (w - 1)) ++ restL4 a b c d 1, by rw [hx, hb1]; simp⟩
          gi_wp2_with (gi_at_call 115; refine (hwide w wr hw hTw).mono ?_; rintro e w' ⟨rfl, rfl⟩)
          refine hR.mono ?_
          rintro e W3 (⟨rfl, hJ3, hk3⟩ | ⟨rfl, hJx3⟩)
          · gi_wp2
            go_roundw
            case rel => (first | exact ⟨w &&& (w - 1), pre ++ [((Lib.ctz 64 w : Nat) : Int)], rfl, by omega, by rw [hx, hb1]; simp, hJ3, hT0 _ _ hk3 hTw⟩ | ((repeat apply Exists.intro); exact ⟨⟨w &&& (w - 1), pre ++ [((Lib.ctz 64 w : Nat) : Int)], rfl, by omega, by rw [hx, hb1]; simp, hJ3, hT0 _ _ hk3 hTw⟩, rfl⟩))
            case measure => simp [intOf]; omega
          · gi_wp2
            refine bodyPost_ret (results_none rfl _ _ _) rfl ?_
            exact ⟨⟨_, rfl⟩, .inr ⟨pre ++ [((Lib.ctz 64 w : Nat) : Int)], ⟨bitsW 0 (w &&& (w - 1)) ++ restL4 a b c d 1, by rw [hx, hb1]; simp⟩, hJx3⟩⟩
    case inr.inl =>
      gi_wp2
      gi_loopw [4] (fun v wr => ∃ (w : Nat) (pre : List Int), v = .int .u64 (w : Int) ∧ w < 18446744073709551616 ∧ xs = pre ++ (bitsW 1 w ++ restL4 a b c d 2) ∧ J pre wr ∧ TabAt 3 Lib.deBruijn64tab wr) (fun v _ => (intOf v).toNat)
      case atStart => exact ⟨b, pre, rfl, hb, by rw [hx]; simp [restL4], hJ, hTw⟩
      case round =>
        obtain ⟨w, pre, rfl, hw, hx, hJ, hTw⟩ := hrel
        by_cases hw0 : w = 0
        · subst hw0
          gi_wp2
          refine ⟨⟨2, pre, rfl, by omega, by rw [hx]; simp [bitsW], hJ, hTw⟩, by simp [intOf]⟩
        · have hc64 : Lib.ctz 64 w < 64 := (Lib.lowest_bit 64 w hw0 hw).2
          have hb1 : bitsW 1 w = (64 + ((Lib.ctz 64 w : Nat) : Int)) :: bitsW 1 (w &&& (w - 1)) := by
            rw [bitsW]; simp [hw0]
          have hle : w &&& (w - 1) ≤ w - 1 := Nat.and_le_right
          have hand : bits BinOp.and IntKind.u64 (w : Int) ((w : Int) - 1) = ((w &&& (w - 1) : Nat) : Int) := by
            rw [← bits_and_u64_nat w (w - 1) hw (by omega)]
            congr 1; omega
          obtain ⟨fn, tmps, assign, body, hy, hR⟩ := hY pre (64 + ((Lib.ctz 64 w : Nat) : Int)) wr hJ ⟨bitsW 1 (w &&& (w - 1)) ++ restL4 a b c d 2, by rw [hx, hb1]; simp⟩
          gi_wp2_with (gi_at_call 115; refine (hwide w wr hw hTw).mono ?_; rintro e w' ⟨rfl, rfl⟩)
          refine hR.mono ?_
          rintro e W3 (⟨rfl, hJ3, hk3⟩ | ⟨rfl, hJx3⟩)
          · gi_wp2
            go_roundw
            case rel => (first | exact ⟨w &&& (w - 1), pre ++ [(64 + ((Lib.ctz 64 w : Nat) : Int))], rfl, by omega, by rw [hx, hb1]; simp, hJ3, hT0 _ _ hk3 hTw⟩ | ((repeat apply Exists.intro); exact ⟨⟨w &&& (w - 1), pre ++ [(64 + ((Lib.ctz 64 w : Nat) : Int))], rfl, by omega, by rw [hx, hb1]; simp, hJ3, hT0 _ _ hk3 hTw⟩, rfl⟩))
            case measure => simp [intOf]; omega
          · gi_wp2
            refine bodyPost_ret (results_none rfl _ _ _) rfl ?_
            exact ⟨⟨_, rfl⟩, .inr ⟨pre ++ [(64 + ((Lib.ctz 64 w : Nat) : Int))], ⟨bitsW 1 (w &&& (w - 1)) ++ restL4 a b c d 2, by rw [hx, hb1]; simp⟩, hJx3⟩⟩
    case inr.inr.inl =>
      gi_wp2
      gi_loopw [4] (fun v wr => ∃ (w : Nat) (pre : List Int), v = .int .u64 (w : Int) ∧ w < 18446744073709551616 ∧ xs = pre ++ (bitsW 2 w ++ restL4 a b c d 3) ∧ J pre wr ∧ TabAt 3 Lib.deBruijn64tab wr) (fun v _ => (intOf v).toNat)
      case atStart => exact ⟨c, pre, rfl, hc, by rw [hx]; simp [restL4], hJ, hTw⟩
      case round =>
        obtain ⟨w, pre, rfl, hw, hx, hJ, hTw⟩ := hrel
        by_cases hw0 : w = 0
        · subst hw0
          gi_wp2
          refine ⟨⟨3, pre, rfl, by omega, by rw [hx]; simp [bitsW], hJ, hTw⟩, by simp [intOf]⟩
        · have hc64 : Lib.ctz 64 w < 64 := (Lib.lowest_bit 64 w hw0 hw).2
          have hb1 : bitsW 2 w = (128 + ((Lib.ctz 64 w : Nat) : Int)) :: bitsW 2 (w &&& (w - 1)) := by
            rw [bitsW]; simp [hw0]
          have hle : w &&& (w - 1) ≤ w - 1 := Nat.and_le_right
          have hand : bits BinOp.and IntKind.u64 (w : Int) ((w : Int) - 1) = ((w &&& (w - 1) : Nat) : Int) := by
            rw [← bits_and_u64_nat w (w - 1) hw (by omega)]
            congr 1; omega
          obtain ⟨fn, tmps, assign, body, hy, hR⟩ := hY pre (128 + ((Lib.ctz 64 w : Nat) : Int)) wr hJ ⟨bitsW 2 (w &&& (w - 1)) ++ restL4 a b c d 3, by rw [hx, hb1]; simp⟩
          gi_wp2_with (gi_at_call 115; refine (hwide w wr hw hTw).mono ?_; rintro e w' ⟨rfl, rfl⟩)
          refine hR.mono ?_
          rintro e W3 (⟨rfl, hJ3, hk3⟩ | ⟨rfl, hJx3⟩)
          · gi_wp2
            go_roundw
            case rel => (first | exact ⟨w &&& (w - 1), pre ++ [(128 + ((Lib.ctz 64 w : Nat) : Int))], rfl, by omega, by rw [hx, hb1]; simp, hJ3, hT0 _ _ hk3 hTw⟩ | ((repeat apply Exists.intro); exact ⟨⟨w &&& (w - 1), pre ++ [(128 + ((Lib.ctz 64 w : Nat) : Int))], rfl, by omega, by rw [hx, hb1]; simp, hJ3, hT0 _ _ hk3 hTw⟩, rfl⟩))
            case measure => simp [intOf]; omega
          · gi_wp2
            refine bodyPost_ret (results_none rfl _ _ _) rfl ?_
            exact ⟨⟨_, rfl⟩, .inr ⟨pre ++ [(128 + ((Lib.ctz 64 w : Nat) : Int))], ⟨bitsW 2 (w &&& (w - 1)) ++ restL4 a b c d 3, by rw [hx, hb1]; simp⟩, hJx3⟩⟩
    case inr.inr.inr.inl =>
      gi_wp2
      gi_loopw [4] (fun v wr => ∃ (w : Nat) (pre : List Int), v = .int .u64 (w : Int) ∧ w < 18446744073709551616 ∧ xs = pre ++ (bitsW 3 w ++ restL4 a b c d 4) ∧ J pre wr ∧ TabAt 3 Lib.deBruijn64tab wr) (fun v _ => (intOf v).toNat)
      case atStart => exact ⟨d, pre, rfl, hd, by rw [hx]; simp [restL4], hJ, hTw⟩
      case round =>
        obtain ⟨w, pre, rfl, hw, hx, hJ, hTw⟩ := hrel
        by_cases hw0 : w = 0
        · subst hw0
          gi_wp2
          refine ⟨⟨4, pre, rfl, by omega, by rw [hx]; simp [bitsW], hJ, hTw⟩, by simp [intOf]⟩
        · have hc64 : Lib.ctz 64 w < 64 := (Lib.lowest_bit 64 w hw0 hw).2
          have hb1 : bitsW 3 w = (192 + ((Lib.ctz 64 w : Nat) : Int)) :: bitsW 3 (w &&& (w - 1)) := by
            rw [bitsW]; simp [hw0]
          have hle : w &&& (w - 1) ≤ w - 1 := Nat.and_le_right
          have hand : bits BinOp.and IntKind.u64 (w : Int) ((w : Int) - 1) = ((w &&& (w - 1) : Nat) : Int) := by
            rw [← bits_and_u64_nat w (w - 1) hw (by omega)]
            congr 1; omega
          obtain ⟨fn, tmps, assign, body, hy, hR⟩ := hY pre (192 + ((Lib.ctz 64 w : Nat) : Int)) wr hJ ⟨bitsW 3 (w &&& (w - 1)) ++ restL4 a b c d 4, by rw [hx, hb1]; simp⟩
          gi_wp2_with (gi_at_call 115; refine (hwide w wr hw hTw).mono ?_; rintro e w' ⟨rfl, rfl⟩)
          refine hR.mono ?_
          rintro e W3 (⟨rfl, hJ3, hk3⟩ | ⟨rfl, hJx3⟩)
          · gi_wp2
            go_roundw
            case rel => (first | exact ⟨w &&& (w - 1), pre ++ [(192 + ((Lib.ctz 64 w : Nat) : Int))], rfl, by omega, by rw [hx, hb1]; simp, hJ3, hT0 _ _ hk3 hTw⟩ | ((repeat apply Exists.intro); exact ⟨⟨w &&& (w - 1), pre ++ [(192 + ((Lib.ctz 64 w : Nat) : Int))], rfl, by omega, by rw [hx, hb1]; simp, hJ3, hT0 _ _ hk3 hTw⟩, rfl⟩))
            case measure => simp [intOf]; omega
          · gi_wp2
            refine bodyPost_ret (results_none rfl _ _ _) rfl ?_
            exact ⟨⟨_, rfl⟩, .inr ⟨pre ++ [(192 + ((Lib.ctz 64 w : Nat) : Int))], ⟨bitsW 3 (w &&& (w - 1)) ++ restL4 a b c d 4, by rw [hx, hb1]; simp⟩, hJx3⟩⟩

set_option maxHeartbeats 1000000 in
theorem each_in (F : Fence) (n : Nat) (h96 : F.fn 96) (hro : F.round = none) (a b c d : Nat) (w : World) :
    CallsIn F n Tryd.prog 96 #[.agg #[.int .u64 a, .int .u64 b, .int .u64 c, .int .u64 d]] w fun e w' => e = .returned (.func (.func 114) #[] #[.pointer (some ⟨w.heap.size, 0, none⟩)]) ∧ w' = w.alloc (.cells #[.int .u64 a, .int .u64 b, .int .u64 c, .int .u64 d] 50) := by
  refine callsIn_of_wp Tryd.func96 rfl h96 ?_ hro
  simp only [Tryd.ntmps96, List.size_toArray, List.length_cons, List.length_nil, Nat.reduceAdd, Nat.reduceSub, Array.replicate_succ, Array.replicate_zero, List.push_toArray, List.append_toArray, List.nil_append, List.cons_append]
  gi_wp2
  go_ret
  exact ⟨rfl, rfl⟩

abbrev By := { x : Int // 0 ≤ x ∧ x < 256 }
theorem bitsW_range (i : Nat) (hi : i < 4) (w : Nat) (hw : w < 18446744073709551616) : ∀ x ∈ bitsW i w, 0 ≤ x ∧ x < 256 := by
  induction w using Nat.strongRecOn with
  | _ w ih =>
    intro x hx
    rw [bitsW] at hx
    split at hx
    · cases hx
    · rename_i h0
      have hc64 : Lib.ctz 64 w < 64 := (Lib.lowest_bit 64 w h0 hw).2
      have hle : w &&& (w - 1) ≤ w - 1 := Nat.and_le_right
      rcases List.mem_cons.1 hx with rfl | hx
      · omega
      · exact ih _ (by omega) (by omega) x hx
theorem rest_range {a b c d : Nat} (ha : a < 18446744073709551616) (hb : b < 18446744073709551616) (hc : c < 18446744073709551616) (hd : d < 18446744073709551616) : ∀ x ∈ restL4 a b c d 0, 0 ≤ x ∧ x < 256 := by
  intro x hx
  simp only [restL4, List.mem_append] at hx
  rcases hx with h | h | h | h
  · exact bitsW_range 0 (by omega) a ha x h
  · exact bitsW_range 1 (by omega) b hb x h
  · exact bitsW_range 2 (by omega) c hc x h
  · exact bitsW_range 3 (by omega) d hd x h

theorem tab_below {n₀ : Nat} (h : 3 < n₀) {W W' : World} (hB : Below n₀ W W') (hT : TabAt 3 Lib.deBruijn64tab W) : TabAt 3 Lib.deBruijn64tab W' := fun j hj => (hB.cell (p := ⟨3, j, none⟩) h).trans (hT j hj)

theorem each_stops (F : Fence) (n : Nat) (h114 : F.fn 114) (h115 : F.fn 115) (hro : F.round = none) (hn : 1 ≤ n) (Bn n₀ : Nat) (a b c d : Nat) (ha : a < 18446744073709551616) (hb : b < 18446744073709551616) (hc : c < 18446744073709551616) (hd : d < 18446744073709551616)
    (hwide : ∀ (x : Nat) (w : World), x < 18446744073709551616 → TabAt 3 Lib.deBruijn64tab w → CallsIn F (n - 1) Tryd.prog 115 #[.int .u64 x] w fun e w' => e = .returned (.int .i64 (Lib.ctz 64 x)) ∧ w' = w)
    (w : World) (hBn : Bn < w.heap.size) (hn₀ : n₀ ≤ w.heap.size) (h3 : 3 < n₀) (hT : TabAt 3 Lib.deBruijn64tab w)
    (b0 : w.cell? ⟨Bn, 0, none⟩ = some (.int .u64 a)) (b1 : w.cell? ⟨Bn, 1, none⟩ = some (.int .u64 b)) (b2 : w.cell? ⟨Bn, 2, none⟩ = some (.int .u64 c)) (b3 : w.cell? ⟨Bn, 3, none⟩ = some (.int .u64 d)) :
    SeqStopsK F n Tryd.prog 114 #[.pointer (some ⟨Bn, 0, none⟩)] (fun x : By => #[Value.int .i64 x.1]) (Below n₀) (fun ys => ys.map (·.1) = restL4 a b c d 0) (fun pre => pre.map (·.1) <+: restL4 a b c d 0) (restL4 a b c d 0).length w := by
  intro l J Jx W hW _ _ hY h0
  have key := each1_in F n h114 h115 hro hn l Bn n₀ a b c d ha hb hc hd _ rfl (fun pre W => ∃ p : List By, p.map (·.1) = pre ∧ J p W) (fun pre W => ∃ p : List By, p.map (·.1) = pre ∧ Jx p W)
    (fun W W' hB hT => tab_below h3 hB hT) hwide (fun pre x W1 hJ hpre => ?_) W ((hW.cell (p := ⟨Bn, 0, none⟩) hBn).trans b0) ((hW.cell (p := ⟨Bn, 1, none⟩) hBn).trans b1) ((hW.cell (p := ⟨Bn, 2, none⟩) hBn).trans b2) ((hW.cell (p := ⟨Bn, 3, none⟩) hBn).trans b3) (tab_below h3 (hW.mono hn₀) hT) ⟨[], rfl, h0⟩
  · refine key.mono ?_
    rintro e W' ⟨hv, ⟨ys, hys, p, hp, hJ⟩ | ⟨pre, hpre, p, hp, hJ⟩⟩
    · exact ⟨hv, .inl ⟨p, hp.trans hys, hJ⟩⟩
    · exact ⟨hv, .inr ⟨p, (show p.map (·.1) <+: _ by rw [hp]; exact hpre), hJ⟩⟩
  · obtain ⟨p, hp, hJ⟩ := hJ
    have hx := rest_range ha hb hc hd x (by
      obtain ⟨r, hr⟩ := hpre
      rw [← hr]; simp)
    have hlen : p.length < (restL4 a b c d 0).length := by
      have := hpre.length_le
      rw [← hp] at this
      simp at this
      omega
    obtain ⟨fn, tmps, assign, body, hy, hR⟩ := hY p ⟨x, hx⟩ W1 hJ hlen
    refine ⟨fn, tmps, assign, body, hy, hR.mono ?_⟩
    rintro e W' (⟨he, hJ', hB⟩ | ⟨he, hJ'⟩)
    · exact .inl ⟨he, ⟨p ++ [⟨x, hx⟩], by simp [hp], hJ'⟩, hB⟩
    · exact .inr ⟨he, ⟨p ++ [⟨x, hx⟩], by simp [hp], hJ'⟩⟩

/-- spans, as the program gathers them -/
def stepS (acc : List (Int × Int)) (b : Int) : List (Int × Int) :=
  match acc.getLast? with
  | some (lo, hi) => if hi = b - 1 then acc.dropLast ++ [(lo, b)] else acc ++ [(b, b)]
  | none => [(b, b)]
def spansF (xs : List Int) : List (Int × Int) := xs.foldl stepS []
def spC (l : List (Int × Int)) : List Value := l.flatMap fun p => [.int .i64 p.1, .int .i64 p.2]
theorem spC_len (l : List (Int × Int)) : (spC l).length = l.length * 2 := by
  induction l with
  | nil => rfl
  | cons x l ih => simp only [spC, List.flatMap_cons, List.length_append] at ih ⊢; simp [ih]; omega
theorem spC_app (l m : List (Int × Int)) : spC (l ++ m) = spC l ++ spC m := by simp [spC]
theorem stepS_len (acc : List (Int × Int)) (b : Int) : (stepS acc b).length ≤ acc.length + 1 := by
  unfold stepS
  split
  · split
    · rename_i h _
      have : acc ≠ [] := by intro e; rw [e] at h; simp at h
      have := List.length_pos_iff.2 this
      simp only [List.length_append, List.length_dropLast, List.length_cons, List.length_nil]
      omega
    · simp
  · simp
theorem spansF_snoc (xs : List Int) (b : Int) : spansF (xs ++ [b]) = stepS (spansF xs) b := by simp [spansF]
theorem spansF_len (xs : List Int) : (spansF xs).length ≤ xs.length := by
  have gen : ∀ (xs : List Int) (acc : List (Int × Int)), (xs.foldl stepS acc).length ≤ acc.length + xs.length := by
    intro xs
    induction xs with
    | nil => intro acc; simp
    | cons x xs ih =>
      intro acc
      have := ih (stepS acc x)
      have := stepS_len acc x
      simp only [List.foldl_cons, List.length_cons]
      omega
  have := gen xs []
  simp only [List.length_nil, Nat.zero_add] at this
  exact this
theorem cell_two_new (w : World) (x y : Value) (t : TypeId) : ∀ j u, [x, y][j]? = some u → (w.alloc (.cells #[x, y] t)).cell? ((⟨w.heap.size, 0, none⟩ : Addr).add j) = some u := by
  intro j u hj
  match j, hj with
  | 0, hj =>
    simp at hj
    subst hj
    simp [Addr.add]
  | 1, hj =>
    simp at hj
    subst hj
    simp [Addr.add]
theorem info105 : (Tryd.prog.info? 105).map (fun i => (i.zero, i.size, i.bytes)) = some (some (.agg #[.int .i64 0, .int .i64 0]), 2, 16) := by kernel_rfl
set_option maxRecDepth 100000 in
set_option maxHeartbeats 4000000 in
theorem spans_in (F : Fence) (n : Nat) (h74 : F.fn 74) (h96 : F.fn 96) (h114 : F.fn 114) (h115 : F.fn 115) (hro : F.round = none) (hn : 3 ≤ n) (a b c d : Nat) (ha : a < 18446744073709551616) (hb : b < 18446744073709551616) (hc : c < 18446744073709551616) (hd : d < 18446744073709551616)
    (hwide : ∀ (m x : Nat) (w : World), x < 18446744073709551616 → TabAt 3 Lib.deBruijn64tab w → CallsIn F m Tryd.prog 115 #[.int .u64 x] w fun e w' => e = .returned (.int .i64 (Lib.ctz 64 x)) ∧ w' = w)
    (hN : (restL4 a b c d 0).length ≤ 256)
    (w : World) (h3 : 3 < w.heap.size) (hT : TabAt 3 Lib.deBruijn64tab w) :
    CallsIn F n Tryd.prog 74 #[.agg #[.int .u64 a, .int .u64 b, .int .u64 c, .int .u64 d]] w fun e W' => ∃ v, e = .returned v ∧ W'.ownsRow w.heap.size 105 2 v (spansF (restL4 a b c d 0)).length (spC (spansF (restL4 a b c d 0))) ∧ (v = .slice none 0 0 ↔ spansF (restL4 a b c d 0) = []) ∧ Below w.heap.size w W' := by
  have h1 : 1 ≤ n := by omega
  obtain ⟨i0, hi, hz0, hz1, hz2⟩ := info_parts info105
  refine callsIn_of_wp_marks Tryd.func74 rfl h74 ?_ hro
  simp only [Tryd.ntmps74, List.size_toArray, List.length_cons, List.length_nil, Nat.reduceAdd, Nat.reduceSub, Array.replicate_succ, Array.replicate_zero, List.push_toArray, List.append_toArray, List.nil_append, List.cons_append]
  gi_wp2_with (gi_at_call 96; refine (each_in F (n - 1) h96 hro a b c d _).mono ?_; rintro e w' ⟨rfl, rfl⟩)
  have bO := (Boxed.new (w.alloc (.cells #[.int .u64 a, .int .u64 b, .int .u64 c, .int .u64 d] 50)) 102 (.slice none 0 0))
  rw [World.size_alloc] at bO
  obtain ⟨w2, hw2⟩ : ∃ w2, (w.alloc (.cells #[.int .u64 a, .int .u64 b, .int .u64 c, .int .u64 d] 50)).alloc (.cells #[.slice none 0 0] 102) = w2 := ⟨_, rfl⟩
  have hB2 : Below w.heap.size w w2 := by rw [← hw2]; exact ((Below.refl _ w).alloc (Nat.le_refl _) _).alloc (by simp) _
  have hs2 : w2.heap.size = w.heap.size + 1 + 1 := by rw [← hw2]; simp
  rw [hw2] at bO ⊢
  have hB3 : Below w.heap.size w (w2.alloc (.cells #[.int .u64 a, .int .u64 b, .int .u64 c, .int .u64 d] 50)) := hB2.alloc (by omega) _
  have cB : ∀ j, j < 4 → (w2.alloc (.cells #[.int .u64 a, .int .u64 b, .int .u64 c, .int .u64 d] 50)).cell? ⟨w.heap.size + 1 + 1, j, none⟩ = (#[Value.int .u64 a, .int .u64 b, .int .u64 c, .int .u64 d])[j]? := by
    intro j hj
    rw [← hs2]
    have := World.alloc_heap_new w2 (.cells #[.int .u64 a, .int .u64 b, .int .u64 c, .int .u64 d] 50)
    simp only [World.cell?, this]
    simp
  refine wpIn_rangeFunc_ownG hro h1 (gf := 114) (lb := #[.pointer (some ⟨w.heap.size + 1 + 1, 0, none⟩)]) rfl h114 (enters_of Tryd.func114 (by kernel_rfl) rfl)
    (each_stops F (n - 1) h114 h115 hro (by omega) (w.heap.size + 1 + 1) w.heap.size a b c d ha hb hc hd (hwide _) _ (by simp; omega) (by simp; omega) h3 (tab_below h3 hB3 hT) (cB 0 (by omega)) (cB 1 (by omega)) (cB 2 (by omega)) (cB 3 (by omega)))
    belowK_t (belowK_b (by simp; omega)) (Below.refl _ _) (fun _ => rfl)
    (fun (pre : List By) W => (∃ v, Boxed W (w.heap.size + 1) 102 v ∧ W.ownsRow w.heap.size 105 2 v (spansF (pre.map (·.1))).length (spC (spansF (pre.map (·.1)))) ∧ (v = .slice none 0 0 ↔ spansF (pre.map (·.1)) = [])) ∧ Below w.heap.size w W)
    (fun _ _ _ => False)
    (OwnFrom.and (Own.from (holdsRow_own w.heap.size (w.heap.size + 1) 102 105 2 (fun (pre : List By) => (spansF (pre.map (·.1))).length) (fun (pre : List By) => spC (spansF (pre.map (·.1)))) (fun (pre : List By) v => v = .slice none 0 0 ↔ spansF (pre.map (·.1)) = [])) _) (ownFrom_below (Nat.le_refl _) (by simp; omega)))
    (fun _ _ _ _ _ hs _ _ => hs)
    ⟨⟨_, bO.alloc _, World.ownsRow_nil _ _ _ _, by simp [spansF]⟩, hB3⟩
    (fun (x : By) => { tmps := #[Value.agg #[.int .u64 a, .int .u64 b, .int .u64 c, .int .u64 d], .pointer (some ⟨w.heap.size, 0, none⟩), .slice none 0 0, .pointer (some ⟨w.heap.size + 1, 0, none⟩), .int .i64 x.1, undef, Value.agg #[.int .u64 a, .int .u64 b, .int .u64 c, .int .u64 d], .func (.func 114) #[] #[.pointer (some ⟨w.heap.size + 1 + 1, 0, none⟩)], .int .i64 x.1, undef, undef, undef, undef, undef, undef, undef, undef, undef, undef, undef, undef, undef, undef, undef, undef, undef, undef, undef, undef, undef, undef, undef, undef, undef, undef, undef, undef], defers := [] }) ?assign ?body ?done ?stop
  case assign =>
    intro l x W K hK
    gi_wp2
    exact hK
  case body =>
    rintro l pre ⟨x, hx0, hx1⟩ W ⟨⟨v, hv, hrow, hnil⟩, hB⟩ hlt
    have hc := hv.cell
    have hpl : (spansF (pre.map (·.1))).length ≤ pre.length := by have := spansF_len (pre.map (·.1)); simpa using this
    have hsn : spansF ((pre ++ [(⟨x, hx0, hx1⟩ : By)]).map (·.1)) = stepS (spansF (pre.map (·.1))) x := by rw [List.map_append]; exact spansF_snoc _ _
    generalize hL : spansF (pre.map (·.1)) = L at *
    have hlen : L.length ≤ 256 := by omega
    clear hL
    obtain rfl | ⟨M, ⟨lo, hi'⟩, rfl⟩ : L = [] ∨ ∃ M p, L = M ++ [p] := by
      rcases List.eq_nil_or_concat L with h | ⟨M, p, h⟩
      · exact .inl h
      · exact .inr ⟨M, p, by rw [h, List.concat_eq_append]⟩
    · obtain rfl : v = .slice none 0 0 := hnil.2 rfl
      have hst : stepS [] x = [(x, x)] := rfl
      rw [hst] at hsn
      gi_wp2_with (gi_at_builtin; refine wpListIn_append_own _ rfl _ _ 102 rfl w.heap.size 105 i0 (.agg #[.int .i64 0, .int .i64 0]) 2 16 Tryd.underlying102 hi hz0 hz1 hz2 rfl (by decide) _ _ _ rfl (hrow.alloc _) ⟨W.heap.size, 0, none⟩ 1 1 [.int .i64 x, .int .i64 x] rfl rfl (cell_two_new _ _ _ _) (by simp [Value.oneCell']) (by unfold maxLen; omega) (by omega) (by have := hB.size; simp; omega) ?_; intro v' w1 hown' hgrow _; obtain ⟨g', cap', rfl⟩ := ownsRow_succ hown'; obtain ⟨hv1, hv2, hr2, hk2, hb2⟩ := hv.appended (by decide) hrow hB.size (by omega) hown' hgrow; have hc1 := hv1.cell; have hf1 := hv1.frozen)
      have hsn' : spansF (List.unattach (pre ++ [(⟨x, hx0, hx1⟩ : By)])) = [(x, x)] := hsn
      refine ⟨hk2.from _, hb2, ⟨_, hv2, ?_, ?_⟩, hB.trans hb2⟩
      · show World.ownsRow _ _ _ _ _ (spansF (List.unattach (pre ++ [(⟨x, hx0, hx1⟩ : By)]))).length (spC (spansF (List.unattach (pre ++ [(⟨x, hx0, hx1⟩ : By)]))))
        rw [hsn']; simpa [spC] using hr2
      · show _ ↔ spansF (List.unattach (pre ++ [(⟨x, hx0, hx1⟩ : By)])) = []
        rw [hsn']; simp
    · have hml : (M ++ [(lo, hi')]).length = M.length + 1 := by simp
      rw [hml] at hrow hlen
      obtain ⟨g, cap, rfl⟩ := ownsRow_succ hrow
      have hgl : M.length * 2 + 1 < (M.length + 1) * 2 := by omega
      have hcell : W.cell? ⟨g, M.length * 2 + 1, none⟩ = some (.int .i64 hi') := by
        rw [hrow.cellAt _ hgl, spC_app, List.getElem?_append_right (by rw [spC_len]; omega), spC_len]
        simp [spC]
      have hfz := hrow.frozenAt (M.length * 2 + 1)
      generalize hm : M.length = m at *
      by_cases heq : hi' = x - 1
      · subst heq
        gi_wp2
        have hst : stepS (M ++ [(lo, x - 1)]) x = M ++ [(lo, x)] := by simp [stepS]
        rw [hst] at hsn
        have hg := hrow.lt g rfl
        have hsr := hrow.stored (m * 2 + 1) (.int .i64 x)
        have hset : (spC (M ++ [(lo, x - 1)])).set (m * 2 + 1) (.int .i64 x) = spC (M ++ [(lo, x)]) := by
          rw [spC_app, spC_app, List.set_append_right _ _ (by rw [spC_len]; omega), spC_len, hm]
          simp [spC]
        rw [hset] at hsr
        refine ⟨(KeepsOthers.setCell _ _ _).from _, (Below.refl _ W).setCell (p := ⟨g, m * 2 + 1, none⟩) hg.1 _, ⟨_, hv.kept hsr.2 (hv.not_row (by decide) hrow), ?_, ?_⟩, (hB.setCell (p := ⟨g, m * 2 + 1, none⟩) hg.1 _)⟩
        · show World.ownsRow _ _ _ _ _ (spansF ((pre ++ [(⟨x, hx0, hx1⟩ : By)]).map (·.1))).length (spC (spansF ((pre ++ [(⟨x, hx0, hx1⟩ : By)]).map (·.1))))
          rw [hsn]
          simpa [hm] using hsr.1
        · show _ ↔ spansF ((pre ++ [(⟨x, hx0, hx1⟩ : By)]).map (·.1)) = []
          rw [hsn]; simp
      · gi_wp2_with (gi_at_builtin; refine wpListIn_append_own _ rfl _ _ 102 rfl w.heap.size 105 i0 (.agg #[.int .i64 0, .int .i64 0]) 2 16 Tryd.underlying102 hi hz0 hz1 hz2 rfl (by decide) _ _ _ rfl (hrow.alloc _) ⟨W.heap.size, 0, none⟩ 1 1 [.int .i64 x, .int .i64 x] rfl rfl (cell_two_new _ _ _ _) (by simp [Value.oneCell']) (by unfold maxLen; omega) (by omega) (by have := hB.size; simp; omega) ?_; intro v' w1 hown' hgrow _; obtain ⟨g', cap', rfl⟩ := ownsRow_succ hown'; obtain ⟨hv1, hv2, hr2, hk2, hb2⟩ := hv.appended (by decide) hrow hB.size (by omega) hown' hgrow; have hc1 := hv1.cell; have hf1 := hv1.frozen)
        have hst : stepS (M ++ [(lo, hi')]) x = M ++ [(lo, hi')] ++ [(x, x)] := by simp [stepS, heq]
        rw [hst] at hsn
        refine ⟨hk2.from _, hb2, ⟨_, hv2, ?_, ?_⟩, hB.trans hb2⟩
        · show World.ownsRow _ _ _ _ _ (spansF ((pre ++ [(⟨x, hx0, hx1⟩ : By)]).map (·.1))).length (spC (spansF ((pre ++ [(⟨x, hx0, hx1⟩ : By)]).map (·.1))))
          rw [hsn, spC_app (M ++ [(lo, hi')])]
          simpa [hm, spC] using hr2
        · show _ ↔ spansF ((pre ++ [(⟨x, hx0, hx1⟩ : By)]).map (·.1)) = []
          rw [hsn]; simp
  case done =>
    rintro D ys W hD hys ⟨⟨v, hv, hrow, hnil⟩, hB⟩ hK
    rw [hys] at hrow hnil
    have hc := hv.cell
    gi_wp2
    refine ⟨by simp, .inl ⟨_, _, rfl, run_takeDeferred hK, ?_⟩⟩
    exact ⟨_, results_tmp rfl _ _ _, v, rfl, ownsRow_putObj hrow _ hK rfl, hnil, hB.trans (belowK_b (w := w) (Nat.le_refl _) W D _ _ (by simp at hD; omega) hK rfl rfl)⟩
  case stop =>
    rintro D c pre W _ _ h _
    exact h.elim
end Go.Proofs.YthcpaohmajjopaaDoor.I
namespace Go.Proofs.YthcpaohmajjopaaDoor.I
open Go Go.Proofs Go.Proofs.YthcpaohmajjopaaDoor.AM
set_option linter.unusedVariables false
set_option linter.unusedSimpArgs false
variable {X : Cx}
/-- tables that the program reads -/
def deBL : List L := Lib.deBruijn64tab.map fun n => .int .u8 (n : Nat)
def powL : List L := Lib.pow10Tab.map fun n => .int .u64 n
theorem glob_var : Tryd.prog.globalNamed "internal/strconv.uint64pow10" = some 2 := by kernel_rfl
/-- a contract that grows the world alone, its answer flat -/
theorem R_grow {f : Nat} {args : List PV} {r : PV} {rv : Value} (hr : detPV r = some rv) (h : ∀ (E : Env) (w : World) (vs : List Value), CxOK X E w → All2 (V E w) args vs → Calls Tryd.prog f vs.toArray w fun e w' => e = .returned rv ∧ Unch (fun _ => False) w w') :
    R X Tryd.prog f args [] r [] := by
  intro E w vs hX hI _ ha _
  refine (h E w vs hX ha).mono ?_
  rintro e w' ⟨rfl, hU⟩
  exact ⟨rv, E, rfl, (ext_step hI hU).1, det_V E w' hr, fun c cs h => by simp at h⟩
theorem var_of_cells {w : World} {n : String} {g : Nat} {k : IntKind} {zs : List Int} (hg : Tryd.prog.globalNamed n = some g) (h0 : 0 < zs.length) (hend : w.cell? ⟨g, zs.length, none⟩ = none) (hc : ∀ j z, zs[j]? = some z → w.cell? ⟨g, j, none⟩ = some (Value.int k z)) : w.var? Tryd.prog n = some (zs.map fun z => Value.int k z).toArray := by
  have c0 := hc 0 zs[0] (List.getElem?_eq_getElem h0)
  unfold World.var?
  rw [hg, Option.bind_some]
  cases hh : w.heap[g]? with
  | none => simp [World.cell?, hh] at c0
  | some o =>
    cases o <;> simp [World.cell?, hh] at c0
    rename_i cs e f
    have hall : ∀ j z, zs[j]? = some z → cs[j]? = some (Value.int k z) := fun j z hz => by
      have := hc j z hz
      rwa [cell_of_cells hh] at this
    have hend' : cs[zs.length]? = none := by rwa [cell_of_cells hh] at hend
    simp only [Option.some.injEq]
    apply Array.ext_getElem?
    intro i
    by_cases hi : i < zs.length
    · rw [hall i zs[i] (List.getElem?_eq_getElem hi)]
      simp [hi]
    · rw [Array.getElem?_eq_none (by have := Array.getElem?_eq_none_iff.1 hend'; omega), Array.getElem?_eq_none (by simp; omega)]
theorem pow_tab (hX : X.G 2 = some powL) {E : Env} {w : World} (h : CxOK X E w) : Lib.TabIs Tryd.prog w "internal/strconv.uint64pow10" .u64 Lib.pow10Tab := by
  obtain ⟨_, hlt, hend, hc⟩ := h 2 _ hX
  refine var_of_cells glob_var (by decide) (by simpa [powL] using hend) (fun j z hz => ?_)
  obtain ⟨u, h1, h2⟩ := hc j (.int .u64 z) (by rw [powL, List.getElem?_map, hz]; rfl)
  cases h2
  exact h1
theorem r59 (hX : X.G 2 = some powL) (n : Int) (h0 : -9223372036854775808 ≤ n) (h1 : n ≤ 9223372036854775807) : R X Tryd.prog 59 [.lf (.int .i64 n)] [] (.lf (.str ⟨(Lib.itoa n).toArray⟩)) [] := by
  refine R_grow rfl fun E w vs hC ha => ?_
  cases ha with
  | cons a1 a2 =>
    cases a2
    cases a1
    refine (itoa59 n h0 h1 w (pow_tab hX hC)).mono ?_
    rintro e w' ⟨rfl, k, os, rfl⟩
    refine ⟨rfl, rfl, rfl, rfl, by simp [Go.Sort.grow], fun b hb _ => ?_⟩
    simp only [Go.Sort.grow, World.heap_drewN]
    rw [Array.getElem?_append_left hb]
theorem deB_tab (hX : X.G 3 = some deBL) {E : Env} {w : World} (h : CxOK X E w) : 3 < w.heap.size ∧ TabAt 3 Lib.deBruijn64tab w := by
  obtain ⟨_, hlt, _, hc⟩ := h 3 _ hX
  refine ⟨hlt, fun j hj => ?_⟩
  obtain ⟨u, h1, h2⟩ := hc j (.int .u8 (Lib.deBruijn64tab.getD j 0 : Nat)) (by
    rw [deBL, List.getElem?_map, List.getElem?_eq_getElem hj, List.getD_eq_getElem?_getD, List.getElem?_eq_getElem hj]; rfl)
  cases h2
  exact h1
end Go.Proofs.YthcpaohmajjopaaDoor.I
namespace Go.Proofs.YthcpaohmajjopaaDoor.I
open Go Go.Proofs
set_option linter.unusedVariables false
set_option linter.unusedSimpArgs false
theorem low_bit {w : Nat} (h0 : w ≠ 0) (h : w < 2 ^ 64) : w.testBit (Lib.ctz 64 w) = true ∧ (∀ t, t < Lib.ctz 64 w → w.testBit t = false) ∧ ∀ t, (w &&& (w - 1)).testBit t = (decide (Lib.ctz 64 w < t) && w.testBit t) := by
  obtain ⟨m, hm, hk⟩ := Lib.ctzFrom_spec 64 w (by omega) h
  have e : Lib.ctz 64 w = Lib.ctzFrom 64 w := by simp [Lib.ctz, h0]
  rw [e]
  generalize Lib.ctzFrom 64 w = c at *
  have hp : 0 < 2 ^ c := Nat.two_pow_pos c
  have tw : ∀ t, w.testBit t = if t < c then false else (2 * m + 1).testBit (t - c) := fun t => by
    have := Nat.testBit_two_pow_mul_add (i := c) (a := 2 * m + 1) (b := 0) hp t
    rw [Nat.add_zero, ← hm] at this
    rw [this]; simp
  have ew : w - 1 = 2 ^ c * (2 * m) + (2 ^ c - 1) := by
    rw [hm, Nat.mul_add]; omega
  have tw1 : ∀ t, (w - 1).testBit t = if t < c then (2 ^ c - 1).testBit t else (2 * m).testBit (t - c) := fun t => by
    rw [ew]; exact Nat.testBit_two_pow_mul_add (i := c) (a := 2 * m) (b := 2 ^ c - 1) (by omega) t
  refine ⟨by rw [tw]; simp, fun t ht => by rw [tw, if_pos ht], fun t => ?_⟩
  rw [Nat.testBit_and, tw, tw1]
  by_cases h1 : t < c
  · simp [h1]
  · rw [if_neg h1, if_neg h1]
    by_cases h2 : t = c
    · subst h2; simp
    · have : c < t := by omega
      obtain ⟨d, hd⟩ : ∃ d, t - c = d + 1 := ⟨t - c - 1, by omega⟩
      simp only [hd, this, decide_true, Bool.true_and]
      rw [Nat.testBit_succ, Nat.testBit_succ, show (2 * m + 1) / 2 = m by omega, show 2 * m / 2 = m by omega, Bool.and_self]
theorem bits_fb (i : Nat) : ∀ (n j w : Nat), n + j = 64 → w < 2 ^ 64 → (∀ t, t < j → w.testBit t = false) → bitsW i w = ((List.range' j n).filter w.testBit).map (fun t => ((64 * i + t : Nat) : Int)) := by
  intro n
  induction n with
  | zero =>
    intro j w hj hw ht
    have : w = 0 := by
      apply Nat.eq_of_testBit_eq
      intro t
      rw [Nat.zero_testBit]
      by_cases h : t < j
      · exact ht t h
      · exact Nat.testBit_lt_two_pow (Nat.lt_of_lt_of_le hw (Nat.pow_le_pow_right (by decide) (by omega)))
    subst this
    rw [bitsW]; simp
  | succ n ih =>
    intro j w hj hw ht
    rw [List.range'_succ]
    cases hb : w.testBit j with
    | false =>
      rw [List.filter_cons_of_neg (by simp [hb])]
      exact ih (j + 1) w (by omega) hw (fun t h => by
        by_cases e : t = j
        · rw [e, hb]
        · exact ht t (by omega))
    | true =>
      have h0 : w ≠ 0 := by intro e; subst e; simp at hb
      obtain ⟨l1, l2, l3⟩ := low_bit h0 hw
      have hc : Lib.ctz 64 w = j := by
        rcases Nat.lt_trichotomy (Lib.ctz 64 w) j with h | h | h
        · rw [ht _ h] at l1; cases l1
        · exact h
        · rw [l2 _ h] at hb; cases hb
      rw [hc] at l3
      have hle : w &&& (w - 1) ≤ w - 1 := Nat.and_le_right
      rw [List.filter_cons_of_pos hb, List.map_cons, bitsW, dif_neg h0, hc, ih (j + 1) (w &&& (w - 1)) (by omega) (by omega) (fun t h => by
        rw [l3, show decide (j < t) = false from decide_eq_false (by omega)]; rfl)]
      congr 1
      congr 1
      apply List.filter_congr
      intro t hmem
      have : j + 1 ≤ t := by
        have := List.mem_range'.1 hmem
        obtain ⟨k, _, rfl⟩ := this
        omega
      rw [l3, show decide (j < t) = true from decide_eq_true (by omega), Bool.true_and]
/-- the members of a set, rising -/
def mems (a b c d : Nat) : List Nat := (List.range 256).filter (hasN a b c d)
theorem mems_eq {a b c d : Nat} (ha : a < 18446744073709551616) (hb : b < 18446744073709551616) (hc : c < 18446744073709551616) (hd : d < 18446744073709551616) : restL4 a b c d 0 = (mems a b c d).map (fun (t : Nat) => (t : Int)) := by
  have one : ∀ (i w : Nat), (∀ t, t < 64 → hasN a b c d (64 * i + t) = w.testBit t) → w < 2 ^ 64 → bitsW i w = ((List.range' (64 * i) 64).filter (hasN a b c d)).map (fun (t : Nat) => (t : Int)) := by
    intro i w hh hw
    rw [bits_fb i 64 0 w rfl hw (fun _ h => by omega), show List.range' (64 * i) 64 = (List.range' 0 64).map (64 * i + ·) by rw [List.map_add_range']; rfl, List.filter_map, List.map_map]
    have : (List.range' 0 64).filter w.testBit = (List.range' 0 64).filter (hasN a b c d ∘ (64 * i + ·)) := by
      apply List.filter_congr
      intro t hmem
      obtain ⟨k, hk, rfl⟩ := List.mem_range'.1 hmem
      exact (hh _ (by omega)).symm
    rw [this]
    rfl
  have tb : ∀ (i w : Nat), i < 4 → wd a b c d i = w → ∀ t, t < 64 → hasN a b c d (64 * i + t) = w.testBit t := by
    intro i w hi hw t ht
    unfold hasN
    rw [show (64 * i + t) / 64 = i by omega, show (64 * i + t) % 64 = t by omega, hw, Nat.testBit_eq_decide_div_mod_eq]
  have sp : List.range 256 = List.range' (64 * 0) 64 ++ (List.range' (64 * 1) 64 ++ (List.range' (64 * 2) 64 ++ List.range' (64 * 3) 64)) := by decide +kernel
  unfold mems
  rw [sp, List.filter_append, List.filter_append, List.filter_append, List.map_append, List.map_append, List.map_append]
  simp only [restL4]
  rw [one 0 a (tb 0 a (by omega) rfl) ha, one 1 b (tb 1 b (by omega) rfl) hb, one 2 c (tb 2 c (by omega) rfl) hc, one 3 d (tb 3 d (by omega) rfl) hd]
theorem mems_len (a b c d : Nat) : (mems a b c d).length ≤ 256 := by
  have := List.length_filter_le (hasN a b c d) (List.range 256)
  simpa [mems] using this
end Go.Proofs.YthcpaohmajjopaaDoor.I
set_option linter.unusedVariables false
set_option linter.unusedSimpArgs false
namespace Go.Proofs.YthcpaohmajjopaaDoor.I
open Go Go.Proofs.YthcpaohmajjopaaDoor.AM
variable {X : Cx}
/-- a byte as a class text has it -/
def itemL (c : UInt8) : List UInt8 :=
  if c = 10 then [92, 110] else if c = 13 then [92, 114] else if c = 9 then [92, 116] else if c = 92 ∨ c = 93 ∨ c = 91 ∨ c = 94 ∨ c = 45 ∨ c = 37 then [92, c]
  else if 32 ≤ c ∧ c ≤ 126 then [c] else [92, 120, hd (c / 16), hd (c % 16)]
theorem itemL_int : ∀ c : UInt8, itemL c = if (c.toNat : Int) = 10 then [92, 110] else if (c.toNat : Int) = 13 then [92, 114] else if (c.toNat : Int) = 9 then [92, 116] else
    if (c.toNat : Int) = 92 ∨ (c.toNat : Int) = 93 ∨ (c.toNat : Int) = 91 ∨ (c.toNat : Int) = 94 ∨ (c.toNat : Int) = 45 ∨ (c.toNat : Int) = 37 then [92, c]
      else if 32 ≤ (c.toNat : Int) ∧ (c.toNat : Int) ≤ 126 then [c] else [92, 120, hd (c / 16), hd (c % 16)] := all8 (by decide +kernel)
theorem w8c : ∀ c : UInt8, IntKind.wrap .u8 (c.toNat : Int) = (c.toNat : Int) := all8 (by decide +kernel)
theorem q16' : ∀ c : UInt8, IntKind.wrap .i64 ((c.toNat : Int).tdiv 16) = ((c / 16).toNat : Int) ∧ (c.toNat : Int).tmod 16 = ((c % 16).toNat : Int) ∧ IntKind.wrap .i64 ((c.toNat : Int).tmod 16) = ((c % 16).toNat : Int) := all8 (by decide +kernel)
theorem itemL_len : ∀ c : UInt8, 1 ≤ (itemL c).length ∧ (itemL c).length ≤ 4 := all8 (by decide +kernel)
theorem ba_app (a b : Array UInt8) : (⟨a⟩ : ByteArray) ++ ⟨b⟩ = ⟨a ++ b⟩ := by
  apply ByteArray.ext; simp [ByteArray.data_append]
theorem ub1 (c : UInt8) : [[L.int .u8 (c.toNat : Int)]] = ub [c] := rfl
theorem ubc (c : UInt8) (l : List UInt8) : [L.int .u8 (c.toNat : Int)] :: ub l = ub (c :: l) := rfl
theorem r75 (c : UInt8) : R X Tryd.prog 75 [.lf (.int .i64 c.toNat)] [] (.lf (.str ⟨(itemL c).toArray⟩)) [] := by
  refine R_i [] [] c75_ok rfl (by simp) ?_
  have hc := c.toNat_lt
  have q := d16 c
  have qa := digs (c / 16) q.1
  have qb := digs (c % 16) q.2.1
  obtain ⟨z1, z2, z3⟩ := q16' c
  rw [itemL_int c]
  simp -implicitDefEqProofs (maxSteps := 2000000) only [c75, w8c, z1, z2, z3, qa, qb, ub1, ubc, v_cbs_ub, ↓reduceIte, s_skip, s_ret, s_ops0, s_seq, s_cond, s_block, s_opsK, s_seqK_n, s_seqK_r, s_blkK_n, s_blkK_r, s_cnd, s_nil, s_cons, s_guard, s_wopsK, s_wopsqK, s_putK, s_grd, s_qnil, s_qcons, q_mv, q_bin, q_ixs, o_mv, o_as, o_pk, v_pk, o_bin, v_quo, v_rem, v_eql, v_leq, v_geq, v_sadd, o_cvi, v_cvi, o_cbs, o_ixs, v_ixs, o_bs, v_bsK, v_lit_n, v_lit_c, e_t, e_k, e_put, e_get, e_res, e_keep_n, e_keep_c, e_keep1_s, e_asg_b, e_asg_s, St.init, enum, List.length_nil, List.length_cons, Option.getD_some, Nat.reduceEqDiff, Nat.reduceAdd, reduceCtorEq, true_and, and_true, cond_false, Bool.not_true, Bool.false_eq_true, decide_eq_true_eq, s_ret_r, s_retX, s_cells_n, t_lf, t_s, r_n, r_t, r_cons, one_1, List.map_cons, List.map_nil, List.append_nil, List.cons_append, List.nil_append, List.all_cons, List.all_nil, Bool.and_true, Bool.true_and, Bool.and_self, PV.cells, datL, Nat.reduceMul, Nat.reduceLeDiff, kp_b, kp_i, rl_i, m_lf, m_n, m_c, m_all, dw_n, dw_i, plT, ne_eq, lit_n, lit_c, List.reduceReplicate, List.set_cons_zero, List.set_cons_succ, Nat.reduceLT, Nat.lt_add_one, Nat.zero_add, Nat.add_zero, v_cbs_ub, s_reg, ba_size]
  repeat' (with_reducible refine ite_pr (fun h => ?_) (fun h => ?_))
  all_goals (simp_all [ba_app]; try omega)
theorem r98 (c : UInt8) : R X Tryd.prog 98 [.lf (.int .i64 c.toNat)] [] (.lf (.bool (decide ((c.toNat : Int) = 92 ∨ (c.toNat : Int) = 93 ∨ (c.toNat : Int) = 91 ∨ (c.toNat : Int) = 94 ∨ (c.toNat : Int) = 45 ∨ (c.toNat : Int) = 37)))) [] := by
  refine R_i [] [] c98_ok rfl (by simp) ?_
  simp -implicitDefEqProofs (maxSteps := 2000000) only [c98, ↓reduceIte, s_ret, s_ops0, s_seq, s_opsK, s_seqK_n, s_nil, s_cons, s_guard, s_wopsK, s_putK, s_grd, q_mv, q_bin, o_mv, o_as, o_pk, v_pk, o_bin, v_eql, e_t, e_k, e_put, e_get, e_res, e_keep_n, e_keep_c, e_keep1_s, e_asg_b, St.init, enum, List.length_nil, Option.getD_some, Nat.reduceEqDiff, reduceCtorEq, true_and, and_true, cond_false, Bool.not_false, Bool.true_eq_false, Bool.false_eq_true, decide_eq_false_iff_not, s_ret_r, s_retX, s_cells_n, t_lf, t_b, r_n, r_t, r_cons, one_1, Bool.and_true, Bool.true_and, ite_not]
  revert c
  exact all8 (by decide +kernel)
theorem r99 (c : UInt8) : R X Tryd.prog 99 [.lf (.int .i64 c.toNat)] [] (.lf (.str ⟨#[hd (c / 16), hd (c % 16)]⟩)) [] := by
  refine R_i [] [] c99_ok rfl (by simp) ?_
  have q := d16 c
  obtain ⟨z1, z2, z3⟩ := q16' c
  simp -implicitDefEqProofs (maxSteps := 2000000) only [c99, z1, z2, z3, ↓reduceIte, s_ret, s_ops0, s_ops1, s_seq, s_opsK, s_seqK_n, s_nil, s_cons, s_wopsK, s_wopsTK, s_putK, s_tone, s_tcons, q_mv, q_bin, q_sls, o_as, o_bin, v_add, v_quo, v_rem, v_sadd, o_sls, v_sls_d, e_t, e_k, e_put, e_get, e_res, e_keep_n, e_keep_c, e_keep1_s, e_asg_s, St.init, enum, List.length_nil, List.length_cons, Option.getD_some, Option.map_some, Nat.reduceEqDiff, Nat.reduceAdd, reduceCtorEq, true_and, and_true, s_ret_r, s_retX, s_cells_n, t_lf, t_s, r_n, r_t, r_cons, one_1, Bool.and_true, Bool.true_and, ne_eq, Nat.zero_add, ba_size]
  clear q z1 z2 z3
  revert c
  exact all8 (by decide +kernel)
theorem r79 (c : UInt8) : R X Tryd.prog 79 [.lf (.int .i64 c.toNat)] [] (.lf (.str ⟨(itemL c).toArray⟩)) [] := by
  refine R_i [] [] c79_ok rfl (by simp) ?_
  have a98 := r98 (X := X) c
  have a99 := r99 (X := X) c
  rw [itemL_int c]
  simp -implicitDefEqProofs (maxSteps := 2000000) only [c79, ↓reduceIte, s_ret, s_ops0, s_seq, s_cond, s_block, s_opsK, s_seqK_n, s_seqK_r, s_blkK_r, s_cnd, s_nil, s_cons, s_wopsK, s_putK, o_mv, o_as, o_bin, v_eql, o_call, e_t, e_k, e_put, e_get, e_res, e_keep_n, e_keep_c, e_keep1_s, e_asg_b, e_asg_s, St.init, enum, List.length_nil, Option.getD_some, reduceCtorEq, true_and, and_true, decide_eq_true_eq, s_ret_r, s_retX, s_cells_n, t_lf, t_s, r_n, r_t, r_cons, one_1, List.map_cons, List.map_nil, PV.leaves, List.flatMap_cons, List.flatMap_nil, List.append_nil, Bool.and_true, Bool.true_and, rl_i, m_lf]
  repeat' (first
    | (with_reducible refine ite_pr (fun h => ?_) (fun h => ?_))
    | (refine wcall_s a98 rfl rfl ?_)
    | (refine wcall_s a99 rfl rfl ?_)
    | (simp -implicitDefEqProofs (maxSteps := 2000000) only [c79, w8c, ub1, ubc, v_cbs_ub, ↓reduceIte, s_skip, s_ret, s_ops0, s_seq, s_cond, s_opsK, s_seqK_n, s_seqK_r, s_blkK_n, s_blkK_r, s_cnd, s_nil, s_cons, s_guard, s_wopsK, s_putK, s_grd, q_mv, q_bin, o_mv, o_as, o_pk, v_pk, o_bin, v_leq, v_geq, v_sadd, o_cvi, v_cvi, o_cbs, o_bs, v_bsK, v_lit_n, v_lit_c, o_call, e_t, e_k, e_put, e_get, e_res, e_keep_n, e_keep_c, e_keep1_s, e_asg_b, e_asg_s, List.length_nil, List.length_cons, Option.getD_some, Nat.reduceEqDiff, Nat.reduceAdd, reduceCtorEq, true_and, and_true, cond_false, Bool.not_true, Bool.false_eq_true, decide_eq_true_eq, s_ret_r, s_retX, s_cells_n, t_lf, t_s, r_n, r_t, r_cons, one_1, St.clr, outV, ownsV, owns1, ownL, List.map_cons, List.map_nil, PV.leaves, List.flatMap_cons, List.flatMap_nil, List.append_nil, List.all_cons, List.all_nil, Bool.and_true, Bool.true_and, Bool.and_self, PV.cells, datL, Nat.reduceMul, Nat.reduceLeDiff, kp_b, kp_i, rl_i, ol_b, ol_s, m_lf, m_n, m_c, m_all, dw_n, dw_i, plT, lit_n, lit_c, List.reduceReplicate, List.set_cons_zero, Nat.lt_add_one, Nat.zero_add, Nat.add_zero, v_cbs_ub, ba_size]))
  all_goals (clear a98 a99; simp_all [ba_app]; try omega)
/-! words turned -/
def notW (s : Nat) : Nat := 18446744073709551615 - s
theorem xor_max (s : Nat) (h : s < 2 ^ 64) : Go.bits .xor .u64 IntKind.u64.max (s : Int) = ((notW s : Nat) : Int) := by
  have h1 : (BitVec.ofInt 64 (s : Int)).toNat = s := by simp [BitVec.toNat_ofInt]; omega
  have h2 : BitVec.ofInt 64 IntKind.u64.max = BitVec.allOnes 64 := by decide
  have h3 : (BitVec.ofInt 64 IntKind.u64.max ^^^ BitVec.ofInt 64 (s : Int)).toNat = 18446744073709551615 - s := by
    rw [h2, BitVec.allOnes_xor, BitVec.toNat_not, h1]
  show IntKind.u64.wrap ((BitVec.ofInt 64 IntKind.u64.max ^^^ BitVec.ofInt 64 (s : Int)).toNat : Int) = _
  rw [h3]
  exact wrap_u64 (by omega)
theorem r95 (a b c d : Nat) (ha : a < 2 ^ 64) (hb : b < 2 ^ 64) (hc : c < 2 ^ 64) (hd : d < 2 ^ 64) :
    R X Tryd.prog 95 [.ag [.int .u64 a, .int .u64 b, .int .u64 c, .int .u64 d]] [] (.ag [.int .u64 (notW a), .int .u64 (notW b), .int .u64 (notW c), .int .u64 (notW d)]) [] := by
  have xa := xor_max a ha
  have xb := xor_max b hb
  have xc := xor_max c hc
  have xd := xor_max d hd
  have w1 : IntKind.i64.wrap 1 = 1 := by decide
  have w2 : IntKind.i64.wrap 2 = 2 := by decide
  have w3 : IntKind.i64.wrap 3 = 3 := by decide
  have w4 : IntKind.i64.wrap 4 = 4 := by decide
  have sg : (if IntKind.u64.signed = true then (-1 : Int) else IntKind.u64.max) = IntKind.u64.max := by decide
  refine R_i [] [] c95_ok rfl (by simp) ?_
  simp -implicitDefEqProofs (maxSteps := 2000000) only [c95, ↓reduceIte, s_ops0, s_seq, s_block, s_loop, s_opsK, s_seqK_n, s_nil, s_cons, s_wopsK, o_mv, o_al, o_bx, e_t, e_k, e_put, e_get, e_res, e_keep_n, e_keep_c, e_keep1_s, St.init, enum, List.length_nil, Option.getD_some, Nat.reduceEqDiff, true_and, Bool.false_eq_true, List.map_cons, List.map_nil, List.nil_append, Bool.true_and, Nat.reduceBEq, Nat.zero_le, kc_i, kc_p, m_lf, m_ag, m_n, m_c, m_all, e_head, e_headK, kC_n, kC_c, pO_n, pO_p, pO_i, d_n, d_c, List.range_zero, v_bx_a]
  intro Z hZ; apply hZ
  simp -implicitDefEqProofs (maxSteps := 2000000) only [c95, sg, xa, xb, xc, xd, w1, w2, w3, w4, Int.reduceLT, Int.reduceAdd, Int.reduceToNat, Int.reduceLE, decide_true, decide_false, Nat.reduceLT, Nat.reduceAdd, ↓reduceIte, s_skip, s_ops0, s_seq, s_cond, s_block, s_opsK, s_seqK_n, s_blkK_n, s_loopK_n, s_cnd, s_nil, s_cons, s_wopsK, s_putK, o_mv, o_as, o_bin, v_add, v_lss, o_un, v_cmp, v_part_f, v_atK, o_iaa, v_iaa_p, o_ld, v_ld_p, v_ldC, o_st, v_st_p, v_stCK, e_t, e_k, e_put, e_get, e_res, e_keep_n, e_keep_c, e_keep1_s, e_asg_i, List.length_nil, List.length_cons, Option.getD_some, Nat.reduceEqDiff, Nat.reduceAdd, true_and, List.cons_append, List.nil_append, List.all_cons, List.all_nil, Bool.true_and, Bool.and_self, PV.cells, cellL, fillL, Nat.reduceMul, Nat.reduceLeDiff, List.take_zero, List.drop_zero, List.drop_succ_cons, List.getElem?_cons_zero, e_head, e_headK, kC_n, kC_c, pO_n, pO_p, pO_i, st_i1, d_n, d_c, List.range_zero, Int.reduceNeg, Nat.reduceLT, Nat.zero_add, Nat.add_zero]
  refine ⟨by omega, by omega, ?_⟩; apply hZ
  simp -implicitDefEqProofs (maxSteps := 2000000) only [c95, sg, xa, xb, xc, xd, w1, w2, w3, w4, Int.reduceLT, Int.reduceAdd, Int.reduceToNat, Int.reduceLE, decide_true, decide_false, Nat.reduceLT, Nat.reduceAdd, ↓reduceIte, s_skip, s_ops0, s_seq, s_cond, s_block, s_opsK, s_seqK_n, s_blkK_n, s_loopK_n, s_cnd, s_nil, s_cons, s_wopsK, s_putK, o_mv, o_as, o_bin, v_add, v_lss, o_un, v_cmp, v_part_f, v_atK, o_iaa, v_iaa_p, o_ld, v_ld_p, v_ldC, o_st, v_st_p, v_stCK, e_t, e_k, e_put, e_get, e_res, e_keep_n, e_keep_c, e_keep1_s, e_asg_i, List.length_nil, List.length_cons, Option.getD_some, Nat.reduceEqDiff, Nat.reduceAdd, true_and, List.cons_append, List.nil_append, List.all_cons, List.all_nil, Bool.true_and, Bool.and_self, PV.cells, cellL, fillL, Nat.reduceMul, Nat.reduceLeDiff, List.take_zero, List.drop_zero, List.take_succ_cons, List.drop_succ_cons, List.getElem?_cons_zero, List.getElem?_cons_succ, e_head, e_headK, kC_n, kC_c, pO_n, pO_p, pO_i, st_i1, d_n, d_c, List.range_zero, Int.reduceNeg, Nat.reduceLT, Nat.zero_add]
  refine ⟨by omega, by omega, ?_⟩; apply hZ
  simp -implicitDefEqProofs (maxSteps := 2000000) only [c95, sg, xa, xb, xc, xd, w1, w2, w3, w4, Int.reduceLT, Int.reduceAdd, Int.reduceToNat, Int.reduceLE, decide_true, decide_false, Nat.reduceLT, Nat.reduceAdd, ↓reduceIte, s_skip, s_ops0, s_seq, s_cond, s_block, s_opsK, s_seqK_n, s_blkK_n, s_loopK_n, s_cnd, s_nil, s_cons, s_wopsK, s_putK, o_mv, o_as, o_bin, v_add, v_lss, o_un, v_cmp, v_part_f, v_atK, o_iaa, v_iaa_p, o_ld, v_ld_p, v_ldC, o_st, v_st_p, v_stCK, e_t, e_k, e_put, e_get, e_res, e_keep_n, e_keep_c, e_keep1_s, e_asg_i, List.length_nil, List.length_cons, Option.getD_some, Nat.reduceEqDiff, Nat.reduceAdd, true_and, List.cons_append, List.nil_append, List.all_cons, List.all_nil, Bool.true_and, Bool.and_self, PV.cells, cellL, fillL, Nat.reduceMul, Nat.reduceLeDiff, List.take_zero, List.drop_zero, List.take_succ_cons, List.drop_succ_cons, List.getElem?_cons_zero, List.getElem?_cons_succ, e_head, e_headK, kC_n, kC_c, pO_n, pO_p, pO_i, st_i1, d_n, d_c, List.range_zero, Int.reduceNeg, Nat.reduceLT, Nat.zero_add]
  refine ⟨by omega, by omega, ?_⟩; apply hZ
  simp -implicitDefEqProofs (maxSteps := 2000000) only [c95, sg, xa, xb, xc, xd, w1, w2, w3, w4, Int.reduceLT, Int.reduceAdd, Int.reduceToNat, Int.reduceLE, decide_true, decide_false, Nat.reduceLT, Nat.reduceAdd, ↓reduceIte, s_skip, s_ops0, s_seq, s_cond, s_block, s_opsK, s_seqK_n, s_blkK_n, s_loopK_n, s_cnd, s_nil, s_cons, s_wopsK, s_putK, o_mv, o_as, o_bin, v_add, v_lss, o_un, v_cmp, v_part_f, v_atK, o_iaa, v_iaa_p, o_ld, v_ld_p, v_ldC, o_st, v_st_p, v_stCK, e_t, e_k, e_put, e_get, e_res, e_keep_n, e_keep_c, e_keep1_s, e_asg_i, List.length_nil, List.length_cons, Option.getD_some, Nat.reduceEqDiff, Nat.reduceAdd, true_and, List.append_nil, List.cons_append, List.nil_append, List.all_cons, List.all_nil, Bool.true_and, Bool.and_self, PV.cells, cellL, fillL, Nat.reduceMul, Nat.le_refl, List.take_zero, List.take_succ_cons, List.drop_succ_cons, List.drop_nil, List.getElem?_cons_zero, List.getElem?_cons_succ, e_head, e_headK, kC_n, kC_c, pO_n, pO_p, pO_i, st_i1, d_n, d_c, List.range_zero, Int.reduceNeg, Nat.reduceLT, Nat.zero_add]
  refine ⟨by omega, by omega, ?_⟩; apply hZ
  simp -implicitDefEqProofs (maxSteps := 2000000) only [c95, sg, xa, xb, xc, xd, w1, w2, w3, w4, Int.reduceLT, Int.reduceAdd, Int.reduceToNat, Int.reduceLE, decide_true, decide_false, Nat.reduceLT, Nat.reduceAdd, ↓reduceIte, s_exit, s_ret, s_ops0, s_seq, s_cond, s_opsK, s_seqK_n, s_seqK_e, s_blkK_e, s_loopK_e, s_cnd, s_nil, s_cons, s_wopsK, s_putK, o_bin, v_lss, v_part_t, o_ld, v_ld_p, v_ldC, o_st, v_st_p, v_stCK, e_t, e_k, e_put, e_get, e_res, e_keep_n, e_keep_c, e_keep1_s, List.length_nil, List.length_cons, Option.getD_some, Nat.reduceEqDiff, Nat.reduceAdd, and_true, Bool.false_eq_true, s_ret_r, s_retX, s_cells_n, t_ag, t_ln, t_lc, t_i, r_n, r_c, r_cons, r_cell, r_part_t, one_1, List.append_nil, List.nil_append, List.all_cons, List.all_nil, Bool.and_true, Bool.and_self, PV.cells, cellL, fillL, Nat.le_refl, List.take_zero, List.drop_zero, List.take_succ_cons, List.drop_succ_cons, List.drop_nil, List.take_nil, Option.bind_some, st_b, d_n, d_c, Nat.reduceLT, Nat.zero_add]
  done
/-- is every byte in it? -/
def fullN (a b c d : Nat) : Bool := decide (a = 18446744073709551615 ∧ b = 18446744073709551615 ∧ c = 18446744073709551615 ∧ d = 18446744073709551615)
theorem r73 (a b c d : Nat) (ha : a < 2 ^ 64) (hb : b < 2 ^ 64) (hc : c < 2 ^ 64) (hd : d < 2 ^ 64) :
    R X Tryd.prog 73 [.ag [.int .u64 a, .int .u64 b, .int .u64 c, .int .u64 d]] [] (.lf (.bool (fullN a b c d))) [] := by
  refine R_i [] [] c73_ok rfl (by simp) ?_
  simp -implicitDefEqProofs (maxSteps := 2000000) only [c73, ↓reduceIte, s_ops0, s_seq, s_opsK, s_seqK_n, s_nil, s_cons, s_wopsK, s_putK, o_as, v_part_t, o_bx, o_ld, v_ld_p, v_ldC, o_call, e_t, e_k, e_put, e_get, e_res, e_keep_n, e_keep_c, e_keep1_s, e_asg_b, St.init, enum, List.length_nil, List.length_cons, Option.getD_some, Nat.reduceEqDiff, Nat.reduceAdd, true_and, List.map_cons, List.map_nil, PV.leaves, List.flatMap_cons, List.flatMap_nil, List.append_nil, Bool.true_and, Nat.zero_le, Nat.le_refl, List.drop_zero, List.take_succ_cons, List.take_nil, kc_i, rl_i, m_ag, m_n, m_c, m_all, d_n, Nat.zero_add, v_bx_a]
  refine wcall_s (r95 a b c d ha hb hc hd) rfl rfl ?_
  simp -implicitDefEqProofs (maxSteps := 2000000) only [c73, ↓reduceIte, s_ret, s_opsK, s_seqK_n, s_nil, s_cons, s_wopsK, s_putK, o_as, o_beq, o_bd, v_agK, v_bd_n, e_t, e_put, e_get, e_res, e_keep_n, e_keep_c, e_keep1_s, e_asg_b, Option.getD_some, Nat.reduceEqDiff, true_and, and_true, Bool.false_eq_true, s_ret_r, s_retX, s_cells_n, t_lf, t_b, r_n, r_t, r_cons, one_1, St.clr, outV, ownsV, owns1, ownL, List.map_cons, List.map_nil, List.any_cons, List.any_nil, Bool.or_self, Bool.and_true, Bool.true_and, ol_i, m_ag, v_beqK, v_andO, v_beqA, q_i, q_1, q_c, kd_i]
  rw [Bool.eq_iff_iff]
  simp only [Bool.and_eq_true, decide_eq_true_eq, fullN]
  have e1 : notW a = 18446744073709551615 - a := rfl
  have e2 : notW b = 18446744073709551615 - b := rfl
  have e3 : notW c = 18446744073709551615 - c := rfl
  have e4 : notW d = 18446744073709551615 - d := rfl
  constructor
  · rintro ⟨h1, h2, h3, h4⟩
    exact ⟨by omega, by omega, by omega, by omega⟩
  · rintro ⟨rfl, rfl, rfl, rfl⟩
    exact ⟨by decide, by decide, by decide, by decide⟩
theorem r97 (a b c d : Nat) (ha : a < 2 ^ 64) (hb : b < 2 ^ 64) (hc : c < 2 ^ 64) (hd : d < 2 ^ 64) :
    R X Tryd.prog 97 [.ag [.int .u64 a, .int .u64 b, .int .u64 c, .int .u64 d]] [] (.lf (.str ⟨((mems a b c d).map fun (t : Nat) => byI (t : Int)).toArray⟩)) [] := by
  have h57 := fun k hk => r57 (X := X) a b c d ha hb hc hd k hk
  have key : ∀ (n k : Nat) (xs : List (List L)), k + n = 256 → xs = ub (((List.range k).filter (hasN a b c d)).map fun (t : Nat) => byI (t : Int)) → LoopAt X Tryd.prog c97_6 [1, 3, 4] (blkK 0 (seqK X Tryd.prog c97_10 (retS [] [] 0 [RV.t 2] (.lf (.str ⟨((mems a b c d).map fun (t : Nat) => byI (t : Int)).toArray⟩)) [])))
      { m := 0, tm := [(1, PV.lf (L.ptr 1 0)), (3, PV.lf (L.lst (Tag.own 384 5) 1 xs [])), (4, PV.lf (L.int IntKind.i64 (k : Int)))],
        ce := [(1, [.int .u64 a, .int .u64 b, .int .u64 c, .int .u64 d])] } := by
    intro n
    induction n with
    | zero =>
      intro k xs hk hxs
      obtain rfl : k = 256 := by omega
      intro Z hZ; apply hZ
      have hn : ¬ ((256 : Nat) : Int) ≤ 255 := by omega
      simp -implicitDefEqProofs (maxSteps := 2000000) only [c97, hn, decide_false, ↓reduceIte, s_exit, s_ops0, s_seq, s_cond, s_opsK, s_seqK_n, s_seqK_e, s_blkK_e, s_loopK_e, s_cnd, s_nil, s_cons, s_wopsK, s_putK, o_mv, o_bin, v_leq, o_cbs, e_t, e_k, e_put, e_get, e_res, e_keep_n, e_keep_c, e_keep1_s, Option.getD_some, Nat.reduceEqDiff, Bool.false_eq_true]
      rw [hxs, v_cbs_ub]
      simp -implicitDefEqProofs (maxSteps := 2000000) only [c97, ↓reduceIte, s_ret, s_opsK, s_seqK_n, s_nil, s_cons, s_wopsK, s_putK, o_as, e_t, e_put, e_get, e_res, e_keep_n, e_keep_c, e_keep1_s, e_asg_s, Option.getD_some, true_and, and_true, s_ret_r, s_retX, s_cells_n, t_lf, t_s, r_n, r_t, r_cons, one_1, Bool.and_true, Bool.true_and]
      rfl
    | succ n ih =>
      intro k xs hk hxs
      have hn : (k : Int) ≤ 255 := by omega
      have w1 : IntKind.i64.wrap ((k : Int) + 1) = ((k + 1 : Nat) : Int) := by rw [w64 (by omega) (by omega)]; omega
      have hxl : xs.length ≤ 256 := by
        rw [hxs, ub_len, List.length_map]
        have := List.length_filter_le (hasN a b c d) (List.range k)
        simp at this; omega
      intro Z hZ; apply hZ
      simp -implicitDefEqProofs (maxSteps := 2000000) only [c97, hn, decide_true, ↓reduceIte, s_skip, s_ops0, s_seq, s_cond, s_block, s_opsK, s_seqK_n, s_cnd, s_nil, s_cons, s_wopsK, s_putK, o_mv, o_bin, v_leq, v_part_t, o_ld, v_ld_p, v_ldC, o_call, e_t, e_k, e_put, e_get, e_res, e_keep_n, e_keep_c, e_keep1_s, List.length_nil, List.length_cons, Option.getD_some, Nat.reduceEqDiff, Nat.reduceAdd, true_and, List.map_cons, List.map_nil, PV.leaves, List.flatMap_cons, List.flatMap_nil, List.append_nil, List.cons_append, List.nil_append, Bool.true_and, Nat.le_refl, List.drop_zero, List.take_succ_cons, List.take_nil, rl_i, m_lf, m_ag, Nat.zero_add]
      refine wcall_s (h57 k (by omega)) rfl rfl ?_
      have hs : (List.range (k + 1)).filter (hasN a b c d) = if hasN a b c d k = true then (List.range k).filter (hasN a b c d) ++ [k] else (List.range k).filter (hasN a b c d) := by
        rw [List.range_succ, List.filter_append]
        split <;> rename_i h <;> simp [h]
      cases hh : hasN a b c d k with
      | false =>
        rw [hh] at hs
        simp -implicitDefEqProofs (maxSteps := 2000000) only [c97, w1, ↓reduceIte, s_skip, s_ops0, s_cond, s_opsK, s_seqK_n, s_blkK_n, s_loopK_n, s_cnd, s_nil, s_cons, s_wopsK, s_putK, o_mv, o_as, o_bin, v_add, e_t, e_k, e_put, e_get, e_res, e_keep_n, e_keep_c, e_keep1_s, e_asg_i, Option.getD_some, Nat.reduceEqDiff, Bool.false_eq_true, St.clr, outV, ownsV, owns1, ownL, List.nil_append, ol_b, m_lf, e_head, e_headK, kC_n, kC_c, pO_n, pO_p, pO_i, pO_l, List.range_zero]
        exact ih (k + 1) xs (by omega) (by rw [hxs, hs]; simp) Z hZ
      | true =>
        rw [hh] at hs
        simp -implicitDefEqProofs (maxSteps := 2000000) only [c97, w1, wrap_u8, ↓reduceIte, s_ops0, s_cond, s_opsK, s_seqK_n, s_blkK_n, s_loopK_n, s_cnd, s_nil, s_cons, s_wopsK, s_putK, o_mv, o_as, o_bin, v_add, o_cvi, v_cvi, o_bs, v_bsK, v_lit_n, v_lit_c, o_app, v_app_o, e_t, e_k, e_put, e_get, e_res, e_keep_n, e_keep_c, e_keep1_s, e_asg_i, List.length_nil, List.length_cons, Option.getD_some, Nat.reduceEqDiff, reduceCtorEq, true_and, Bool.false_eq_true, St.clr, outV, ownsV, owns1, ownL, List.map_cons, List.map_nil, Bool.or_false, List.append_nil, List.nil_append, List.all_cons, List.all_nil, Bool.true_and, Bool.and_self, PV.cells, datL, Nat.reduceMul, Nat.reduceBEq, Nat.reduceLeDiff, BEq.rfl, kp_b, kp_i, kp_u, rk_b, rk_i, rk_u, rl_i, ol_b, kp_p, rk_p, kp_lo, rk_lo, m_lf, m_n, m_c, m_all, e_asg_o, e_head, e_headK, kC_n, kC_c, pO_n, pO_p, pO_i, pO_l, dw_n, dw_i, List.range_zero, plT, lit_n, lit_c, List.reduceReplicate, List.set_cons_zero, Nat.lt_add_one, Nat.zero_add, Nat.add_zero, or_false]
        refine ⟨by omega, ih (k + 1) _ (by omega) ?_ Z hZ⟩
        rw [hxs, hs]
        simp [ub]
  refine R_i [] [] c97_ok rfl (by simp) ?_
  simp -implicitDefEqProofs (maxSteps := 2000000) only [c97, ↓reduceIte, s_ops0, s_seq, s_block, s_loop, s_opsK, s_seqK_n, s_nil, s_cons, s_wopsK, o_as, o_bx, e_t, e_k, e_put, e_get, e_res, e_keep_n, e_keep_c, e_keep1_s, e_asg_i, e_asg_s, St.init, enum, List.length_nil, Option.getD_some, Nat.reduceEqDiff, true_and, List.map_cons, List.map_nil, List.nil_append, Bool.true_and, Nat.reduceMul, Nat.zero_le, kp_i, kc_i, kp_p, m_lf, m_ag, m_n, m_c, m_all, e_asg_n, e_head, e_headK, kC_n, kC_c, pO_n, pO_p, pO_i, pO_l, d_n, List.range_zero, plT, Nat.add_zero, v_bx_a]
  exact key 256 0 _ rfl rfl
theorem r77 (a b c d : Nat) (ha : a < 2 ^ 64) (hb : b < 2 ^ 64) (hc : c < 2 ^ 64) (hd : d < 2 ^ 64) :
    R X Tryd.prog 77 [.ag [.int .u64 a, .int .u64 b, .int .u64 c, .int .u64 d]] [] (.lf (.int .i64 (mems a b c d).length)) [] := by
  refine R_i [] [] c77_ok rfl (by simp) ?_
  simp -implicitDefEqProofs (maxSteps := 2000000) only [c77, ↓reduceIte, s_ops0, s_seq, s_opsK, s_seqK_n, s_nil, s_cons, s_wopsK, s_putK, o_as, v_part_t, o_bx, o_ld, v_ld_p, v_ldC, o_call, e_t, e_k, e_put, e_get, e_res, e_keep_n, e_keep_c, e_keep1_s, e_asg_i, St.init, enum, List.length_nil, List.length_cons, Option.getD_some, Nat.reduceEqDiff, Nat.reduceAdd, true_and, List.map_cons, List.map_nil, PV.leaves, List.flatMap_cons, List.flatMap_nil, List.append_nil, Bool.true_and, Nat.zero_le, Nat.le_refl, List.drop_zero, List.take_succ_cons, List.take_nil, kc_i, rl_i, m_ag, m_n, m_c, m_all, d_n, Nat.zero_add, v_bx_a]
  refine wcall_s (r97 a b c d ha hb hc hd) rfl rfl ?_
  simp -implicitDefEqProofs (maxSteps := 2000000) only [c77, ba_size, List.length_map, ↓reduceIte, s_ret, s_opsK, s_seqK_n, s_nil, s_cons, s_wopsK, s_putK, o_as, o_lns, v_lns, e_t, e_put, e_get, e_res, e_keep_n, e_keep_c, e_keep1_s, e_asg_i, Option.getD_some, and_true, Bool.false_eq_true, s_ret_r, s_retX, s_cells_n, t_lf, t_i, r_n, r_t, r_cons, one_1, St.clr, outV, ownsV, owns1, ownL, Bool.and_true, ol_s, m_lf, ba_size]
  done
end Go.Proofs.YthcpaohmajjopaaDoor.I
set_option linter.unusedVariables false
set_option linter.unusedSimpArgs false
namespace Go.Proofs.YthcpaohmajjopaaDoor.I
open Go Go.Proofs.YthcpaohmajjopaaDoor.AM
variable {X : Cx}
/-! spans of numbers -/
def stepN (acc : List (Nat × Nat)) (b : Nat) : List (Nat × Nat) :=
  match acc.getLast? with
  | some (lo, hi) => if hi + 1 = b then acc.dropLast ++ [(lo, b)] else acc ++ [(b, b)]
  | none => [(b, b)]
def spN (xs : List Nat) : List (Nat × Nat) := xs.foldl stepN []
theorem stepN_map (acc : List (Nat × Nat)) (b : Nat) : stepS (acc.map fun p => ((p.1 : Int), (p.2 : Int))) (b : Int) = (stepN acc b).map fun p => ((p.1 : Int), (p.2 : Int)) := by
  unfold stepS stepN
  rw [List.getLast?_map]
  cases h : acc.getLast? with
  | none => simp
  | some p =>
    obtain ⟨lo, hi⟩ := p
    simp only [Option.map_some]
    by_cases e : hi + 1 = b
    · rw [if_pos (show (hi : Int) = (b : Int) - 1 by omega), if_pos e]
      simp [List.map_dropLast]
    · rw [if_neg (show ¬ (hi : Int) = (b : Int) - 1 by omega), if_neg e]
      simp
theorem spN_map (xs : List Nat) : spansF (xs.map fun (t : Nat) => (t : Int)) = (spN xs).map fun p => ((p.1 : Int), (p.2 : Int)) := by
  have gen : ∀ (xs : List Nat) (acc : List (Nat × Nat)), (xs.map fun (t : Nat) => (t : Int)).foldl stepS (acc.map fun p => ((p.1 : Int), (p.2 : Int))) = (xs.foldl stepN acc).map fun p => ((p.1 : Int), (p.2 : Int)) := by
    intro xs
    induction xs with
    | nil => intro acc; rfl
    | cons x xs ih => intro acc; simp only [List.map_cons, List.foldl_cons]; rw [stepN_map, ih]
  exact gen xs []
theorem spN_snoc (xs : List Nat) (b : Nat) : spN (xs ++ [b]) = stepN (spN xs) b := by simp [spN]
theorem stepN_last (acc : List (Nat × Nat)) (b : Nat) : ((stepN acc b).getLast?).map (·.2) = some b := by
  unfold stepN
  split
  · split <;> simp
  · simp
theorem spN_last (xs : List Nat) : ((spN xs).getLast?).map (·.2) = xs.getLast? := by
  rcases List.eq_nil_or_concat xs with h | ⟨m, b, h⟩
  · subst h; rfl
  · rw [h, List.concat_eq_append, spN_snoc, stepN_last]; simp
def rowP (p : Nat × Nat) : List L := [.int .i64 (p.1 : Int), .int .i64 (p.2 : Int)]
/-- members below b -/
def memsB (s0 s1 s2 s3 b : Nat) : List Nat := (List.range b).filter (hasN s0 s1 s2 s3)
theorem memsB_s (s0 s1 s2 s3 b : Nat) : memsB s0 s1 s2 s3 (b + 1) = if hasN s0 s1 s2 s3 b = true then memsB s0 s1 s2 s3 b ++ [b] else memsB s0 s1 s2 s3 b := by
  unfold memsB
  rw [List.range_succ, List.filter_append]
  split <;> rename_i h <;> simp [h]
theorem spN_bound (xs : List Nat) (n : Nat) (h : ∀ x ∈ xs, x < n) : ∀ p ∈ spN xs, p.1 < n ∧ p.2 < n := by
  have gen : ∀ (xs : List Nat) (acc : List (Nat × Nat)), (∀ x ∈ xs, x < n) → (∀ p ∈ acc, p.1 < n ∧ p.2 < n) → ∀ p ∈ xs.foldl stepN acc, p.1 < n ∧ p.2 < n := by
    intro xs
    induction xs with
    | nil => intro acc _ h; exact h
    | cons x xs ih =>
      intro acc hx ha
      refine ih _ (fun y hy => hx y (List.mem_cons_of_mem _ hy)) ?_
      have hxn := hx x (List.mem_cons_self ..)
      intro p hp
      unfold stepN at hp
      split at hp
      · rename_i lo hi hl
        have hm := List.mem_of_getLast? hl
        split at hp
        · rcases List.mem_append.1 hp with hp | hp
          · exact ha p (List.dropLast_subset _ hp)
          · simp at hp; subst hp; exact ⟨(ha _ hm).1, hxn⟩
        · rcases List.mem_append.1 hp with hp | hp
          · exact ha p hp
          · simp at hp; subst hp; exact ⟨hxn, hxn⟩
      · simp at hp; subst hp; exact ⟨hxn, hxn⟩
  exact gen xs [] h (fun _ h => by cases h)
theorem spC_get : ∀ (l : List (Int × Int)) (i : Nat) (p : Int × Int), l[i]? = some p → (spC l)[i * 2 + 0]? = some (.int .i64 p.1) ∧ (spC l)[i * 2 + 1]? = some (.int .i64 p.2)
  | [], i, p, h => by simp at h
  | q :: l, 0, p, h => by
    simp at h; subst h; simp [spC]
  | q :: l, i + 1, p, h => by
    have := spC_get l i p (by simpa using h)
    simp only [spC, List.flatMap_cons] at this ⊢
    rw [show (i + 1) * 2 + 0 = (i * 2 + 0) + 2 by omega, show (i + 1) * 2 + 1 = (i * 2 + 1) + 2 by omega]
    simpa using this
theorem r74 (hX : X.G 3 = some deBL) (a b c d : Nat) (ha : a < 18446744073709551616) (hb : b < 18446744073709551616) (hc : c < 18446744073709551616) (hd : d < 18446744073709551616) :
    R X Tryd.prog 74 [.ag [.int .u64 a, .int .u64 b, .int .u64 c, .int .u64 d]] [] (.lf (.lst (.own 0 105) 2 ((spN (mems a b c d)).map rowP) [])) [] := by
  intro E w vs hC hI _ hargs _
  obtain ⟨h3, hT⟩ := deB_tab hX hC
  cases hargs with
  | cons a1 a2 =>
    cases a2
    obtain ⟨us, rfl, hall⟩ := a1
    have hus : us = [.int .u64 a, .int .u64 b, .int .u64 c, .int .u64 d] := by
      cases hall with
      | cons q1 q2 => cases q2 with
        | cons q3 q4 => cases q4 with
          | cons q5 q6 => cases q6 with
            | cons q7 q8 => cases q8; cases q1; cases q3; cases q5; cases q7; rfl
    subst hus
    have hlen : (restL4 a b c d 0).length ≤ 256 := by rw [mems_eq ha hb hc hd, List.length_map]; exact mems_len a b c d
    refine (callsIn_wide.1 (spans_in Fence.wide 3 trivial trivial trivial trivial rfl (Nat.le_refl _) a b c d ha hb hc hd (fun m x w hx hT => callsIn_wide.2 (tz115 x hx w (fun _ => hT))) hlen w h3 hT)).mono ?_
    rintro e w' ⟨v, rfl, hrow, _, hB⟩
    rw [mems_eq ha hb hc hd, spN_map] at hrow
    have hU : Unch (fun _ => False) w w' := ⟨hB.os, hB.tape, hB.output, hB.size, fun k hk _ => hB.block k hk⟩
    generalize spN (mems a b c d) = sp at hrow ⊢
    rcases hrow.2 with ⟨rfl, h0⟩ | ⟨g, cap, cur, rfl, hg, hh, hcap, hmx, hsz, htk⟩
    · have : sp = [] := by simpa using h0
      subst this
      exact ⟨_, E, rfl, (ext_step hI hU).1, ⟨none, 0, rfl, .inl ⟨rfl, rfl, rfl, rfl⟩⟩, fun c cs h => by simp at h⟩
    · have hlt : g < w'.heap.size := (Array.getElem?_eq_some_iff.1 hh).1
      refine ⟨_, E.own 0 g, rfl, (own_step hI hU hg hlt).1, ⟨some ⟨g, 0, none⟩, cap, by simp, .inr ⟨g, cur, rfl, by simp [Env.own, upd], hh, by simpa using hcap, hmx, hsz, ?_⟩⟩, fun c cs h => by simp at h⟩
      intro i x hx
      rw [List.append_nil, List.getElem?_map] at hx
      obtain ⟨p, hp, rfl⟩ := Option.map_eq_some_iff.1 hx
      refine ⟨rfl, fun j cc hj => ?_⟩
      obtain ⟨g1, g2⟩ := spC_get _ i ((p.1 : Int), (p.2 : Int)) (by rw [List.getElem?_map, hp]; rfl)
      rw [← htk] at g1 g2
      have up : ∀ k u, (cur.toList.take ((sp.map fun p => ((p.1 : Int), (p.2 : Int))).length * 2))[k]? = some u → cur.toList[k]? = some u := fun k u h => by
        rw [List.getElem?_take] at h
        split at h
        · exact h
        · cases h
      match j, hj with
      | 0, hj => simp [rowP] at hj; subst hj; exact ⟨_, up _ _ g1, .int _ _⟩
      | 1, hj => simp [rowP] at hj; subst hj; exact ⟨_, up _ _ g2, .int _ _⟩
      | j + 2, hj => simp [rowP] at hj
end Go.Proofs.YthcpaohmajjopaaDoor.I
set_option linter.unusedVariables false
set_option linter.unusedSimpArgs false
namespace Go.Proofs.YthcpaohmajjopaaDoor.I
open Go Go.Proofs.YthcpaohmajjopaaDoor.AM
variable {X : Cx}
theorem r57m (a b c d : Nat) : R X Tryd.prog 57 [.ag [.int .u64 a, .int .u64 b, .int .u64 c, .int .u64 d], .lf (.int .i64 (-1))] [] (.lf (.bool false)) [] := by
  have g0 : ¬ (0 : Int) ≤ -1 := by decide
  refine R_i [] [] c57_ok rfl (by simp) ?_
  simp -implicitDefEqProofs (maxSteps := 2000000) only [c57, g0, decide_false, ↓reduceIte, s_ret, s_ops0, s_seq, s_opsK, s_seqK_n, s_nil, s_cons, s_guard, s_wopsK, s_putK, s_grd, o_mv, o_as, o_pk, v_pk, o_bin, v_geq, o_bx, e_t, e_k, e_put, e_get, e_res, e_keep_n, e_keep_c, e_keep1_s, e_asg_b, St.init, enum, List.length_nil, Option.getD_some, Nat.reduceEqDiff, reduceCtorEq, and_true, Bool.not_true, Bool.false_eq_true, s_ret_r, s_retX, s_cells_n, t_lf, t_b, r_n, r_t, r_cons, one_1, List.map_cons, List.map_nil, Bool.and_true, Nat.zero_le, kc_i, m_lf, m_ag, m_n, m_c, m_all, d_n, Int.reduceNeg, Nat.zero_add, v_bx_a]
  done
theorem last_hi {acc : List (Nat × Nat)} {xs : List Nat} (h : acc = spN xs) {b : Nat} (hb : xs.getLast? = some b) : ∃ M lo, acc = M ++ [(lo, b)] := by
  have h1 := spN_last xs
  rw [← h, hb] at h1
  rcases List.eq_nil_or_concat acc with e | ⟨M, ⟨lo, hi⟩, e⟩
  · rw [e] at h1; simp at h1
  · rw [List.concat_eq_append] at e
    rw [e] at h1
    simp at h1
    exact ⟨M, lo, by rw [e, h1]⟩
theorem modify_last {α : Type} (f : α → α) : ∀ (l : List α) (x : α), (l ++ [x]).modify l.length f = l ++ [f x]
  | [], x => rfl
  | y :: l, x => by
    have := modify_last f l x
    simp only [List.cons_append, List.length_cons, List.modify_succ_cons, this]
theorem row_set (M : List (Nat × Nat)) (lo hi b : Nat) : wrX M.length 1 [L.int .i64 (b : Int)] ((M ++ [(lo, hi)]).map rowP) = (M ++ [(lo, b)]).map rowP := by
  unfold wrX
  rw [List.map_append, List.map_append, show M.length = (M.map rowP).length by simp]
  exact modify_last _ _ _
theorem r78 (a b c d : Nat) (ha : a < 2 ^ 64) (hb : b < 2 ^ 64) (hc : c < 2 ^ 64) (hd : d < 2 ^ 64) :
    R X Tryd.prog 78 [.ag [.int .u64 a, .int .u64 b, .int .u64 c, .int .u64 d]] [] (.lf (.lst (.own 0 105) 2 ((spN (mems a b c d)).map rowP) [])) [] := by
  have h57 := fun k hk => r57 (X := X) a b c d ha hb hc hd k hk
  have key : ∀ (n k : Nat) (xs : List (List L)), k + n = 256 → xs = (spN (memsB a b c d k)).map rowP → LoopAt X Tryd.prog c78_9 [1, 3, 4] (blkK 0 (seqK X Tryd.prog c78_13 (retS [(0, 256)] [] 0 [RV.t 2] (.lf (.lst (.own 0 105) 2 ((spN (mems a b c d)).map rowP) [])) [])))
      { m := 0, tm := [(1, PV.lf (L.ptr 1 0)), (3, PV.lf (L.lst (Tag.own 384 105) 2 xs [])), (4, PV.lf (L.int IntKind.i64 (k : Int)))],
        ce := [(1, [.int .u64 a, .int .u64 b, .int .u64 c, .int .u64 d])] } := by
    intro n
    induction n with
    | zero =>
      intro k xs hk hxs
      obtain rfl : k = 256 := by omega
      intro Z hZ; apply hZ
      have hn : ¬ ((256 : Nat) : Int) ≤ 255 := by omega
      simp -implicitDefEqProofs (maxSteps := 2000000) only [c78, hn, decide_false, ↓reduceIte, s_exit, s_ret, s_ops0, s_seq, s_cond, s_opsK, s_seqK_n, s_seqK_e, s_blkK_e, s_loopK_e, s_cnd, s_nil, s_cons, s_wopsK, s_putK, o_mv, o_as, o_bin, v_leq, e_t, e_k, e_put, e_get, e_res, e_keep_n, e_keep_c, e_keep1_s, Option.getD_some, Nat.reduceEqDiff, true_and, and_true, Bool.false_eq_true, s_ret_r, s_retX, s_cells_n, t_lf, t_l, t_oo, r_n, r_t, r_cons, one_1, List.map_cons, List.map_nil, Bool.and_true, Bool.true_and, Nat.reduceMul, Nat.reduceBEq, BEq.rfl, rk_b, rk_i, rk_p, rk_lo, m_lf, m_n, m_c, m_all, e_asg_o, plT, Nat.add_zero, true_or, or_true]
      rw [hxs]
      rfl
    | succ n ih =>
      intro k xs hk hxs
      have hn : (k : Int) ≤ 255 := by omega
      have w1 : IntKind.i64.wrap ((k : Int) + 1) = ((k + 1 : Nat) : Int) := by rw [w64 (by omega) (by omega)]; omega
      have hbd : ∀ x ∈ memsB a b c d k, x < k := by
        intro x hx
        have := (List.mem_filter.1 hx).1
        simpa using this
      have hsl : (spN (memsB a b c d k)).length ≤ 256 := by
        have h1 : (spansF ((memsB a b c d k).map fun (t : Nat) => (t : Int))).length ≤ ((memsB a b c d k).map fun (t : Nat) => (t : Int)).length := spansF_len _
        rw [spN_map, List.length_map, List.length_map] at h1
        have h2 := List.length_filter_le (hasN a b c d) (List.range k)
        simp only [List.length_range] at h2
        have h3 : (memsB a b c d k).length = ((List.range k).filter (hasN a b c d)).length := rfl
        omega
      have hxl : xs.length ≤ 256 := by rw [hxs, List.length_map]; exact hsl
      intro Z hZ; apply hZ
      simp -implicitDefEqProofs (maxSteps := 2000000) only [c78, hn, decide_true, ↓reduceIte, s_skip, s_ops0, s_seq, s_cond, s_block, s_opsK, s_seqK_n, s_cnd, s_nil, s_cons, s_wopsK, s_putK, o_mv, o_bin, v_leq, v_part_t, o_ld, v_ld_p, v_ldC, o_call, e_t, e_k, e_put, e_get, e_res, e_keep_n, e_keep_c, e_keep1_s, List.length_nil, List.length_cons, Option.getD_some, Nat.reduceEqDiff, Nat.reduceAdd, true_and, List.map_cons, List.map_nil, PV.leaves, List.flatMap_cons, List.flatMap_nil, List.append_nil, List.cons_append, List.nil_append, Bool.true_and, Nat.le_refl, List.drop_zero, List.take_succ_cons, List.take_nil, rl_i, m_lf, m_ag, Nat.zero_add]
      refine wcall_s (h57 k (by omega)) rfl rfl ?_
      have hs := memsB_s a b c d k
      cases hh : hasN a b c d k with
      | false =>
        rw [hh] at hs
        simp -implicitDefEqProofs (maxSteps := 2000000) only [c78, w1, Bool.not_false, ↓reduceIte, s_exit, s_ops0, s_cond, s_opsK, s_seqK_n, s_seqK_e, s_blkK_e, s_loopK_n, s_cnd, s_nil, s_cons, s_wopsK, s_putK, o_mv, o_as, o_bin, v_add, o_un, v_not, e_t, e_k, e_put, e_get, e_res, e_keep_n, e_keep_c, e_keep1_s, e_asg_i, Option.getD_some, Nat.reduceEqDiff, Bool.not_false, Bool.false_eq_true, St.clr, outV, ownsV, owns1, ownL, List.nil_append, ol_b, m_lf, e_head, e_headK, kC_n, kC_c, pO_n, pO_p, pO_i, pO_l, List.range_zero]
        exact ih (k + 1) xs (by omega) (by rw [hxs, hs]; simp) Z hZ
      | true =>
        rw [hh] at hs
        rw [if_pos rfl] at hs
        simp -implicitDefEqProofs (maxSteps := 2000000) only [c78, w1, Bool.not_true, ↓reduceIte, s_skip, s_ops0, s_seq, s_cond, s_opsK, s_seqK_n, s_cnd, s_nil, s_cons, s_wopsK, s_putK, o_mv, o_bin, v_sub, o_un, v_not, v_part_t, o_ld, v_ld_p, v_ldC, o_call, e_t, e_k, e_put, e_get, e_res, e_keep_n, e_keep_c, e_keep1_s, List.length_nil, List.length_cons, Option.getD_some, Nat.reduceEqDiff, Nat.reduceAdd, true_and, Bool.not_true, Bool.false_eq_true, St.clr, outV, ownsV, owns1, ownL, List.map_cons, List.map_nil, PV.leaves, List.flatMap_cons, List.flatMap_nil, List.append_nil, List.cons_append, List.nil_append, Bool.true_and, Nat.le_refl, List.drop_zero, List.take_succ_cons, List.take_nil, rl_i, ol_b, m_lf, m_ag, Nat.zero_add]
        by_cases hk0 : k = 0
        · subst hk0
          have w2 : IntKind.i64.wrap (((0 : Nat) : Int) - 1) = -1 := by decide
          rw [w2]
          refine wcall_s (r57m a b c d) rfl rfl ?_
          simp -implicitDefEqProofs (maxSteps := 2000000) only [c78, w1, ↓reduceIte, s_ops0, s_cond, s_opsK, s_seqK_n, s_blkK_n, s_loopK_n, s_cnd, s_nil, s_cons, s_wopsK, s_putK, o_mv, o_as, o_bin, v_add, o_bd, v_agK, v_bd_n, v_bd_c, o_bs, v_bsK, v_lit_n, v_lit_c, o_app, v_app_o, e_t, e_k, e_put, e_get, e_res, e_keep_n, e_keep_c, e_keep1_s, e_asg_i, List.length_nil, List.length_cons, Option.getD_some, Nat.reduceEqDiff, Nat.reduceAdd, reduceCtorEq, true_and, Bool.false_eq_true, St.clr, outV, ownsV, owns1, ownL, List.map_cons, List.map_nil, Bool.or_false, List.append_nil, List.cons_append, List.nil_append, List.all_cons, List.all_nil, Bool.true_and, Bool.and_self, PV.cells, cellL, datL, fillL, Nat.reduceMul, Nat.reduceBEq, Nat.reduceLeDiff, Nat.le_refl, BEq.rfl, List.take_zero, List.drop_zero, List.take_succ_cons, List.drop_succ_cons, List.drop_nil, kp_b, kp_i, kp_u, rk_b, rk_i, rk_u, rl_i, ol_b, kp_p, rk_p, kp_lo, rk_lo, m_lf, m_ag, m_n, m_c, m_all, e_asg_o, e_head, e_headK, kC_n, kC_c, pO_n, pO_p, pO_i, pO_l, dw_n, dw_i, List.range_zero, plT, ne_eq, not_false_eq_true, Int.reduceNeg, lit_n, lit_c, List.reduceReplicate, List.set_cons_zero, Nat.lt_add_one, Nat.zero_add, Nat.add_zero, or_false]
          refine ⟨by omega, ih 1 _ (by omega) ?_ Z hZ⟩
          rw [hxs, hs]
          simp [memsB, spN, stepN, rowP]
        · have w2 : IntKind.i64.wrap ((k : Int) - 1) = ((k - 1 : Nat) : Int) := by rw [w64 (by omega) (by omega)]; omega
          rw [w2]
          refine wcall_s (h57 (k - 1) (by omega)) rfl rfl ?_
          have hs1 := memsB_s a b c d (k - 1)
          rw [show k - 1 + 1 = k by omega] at hs1
          generalize hacc : spN (memsB a b c d k) = acc at *
          cases hp : hasN a b c d (k - 1) with
          | true =>
            rw [hp, if_pos rfl] at hs1
            obtain ⟨M, lo, hM⟩ := last_hi (acc := acc) hacc.symm (b := k - 1) (by rw [hs1]; simp)
            have hlm : xs.length = M.length + 1 := by rw [hxs, hM]; simp
            have w3 : IntKind.i64.wrap ((xs.length : Int) - 1) = (M.length : Int) := by rw [w64 (by omega) (by omega)]; omega
            simp -implicitDefEqProofs (maxSteps := 2000000) only [c78, w1, w3, ↓reduceIte, s_ops0, s_cond, s_opsK, s_seqK_n, s_blkK_n, s_loopK_n, s_cnd, s_nil, s_cons, s_wopsK, s_putK, o_mv, o_as, o_bin, v_add, v_sub, o_fa, v_fa_e, o_ia, v_ia, o_st, v_st_e, o_len, v_len, e_t, e_k, e_put, e_get, e_res, e_keep_n, e_keep_c, e_keep1_s, e_asg_i, List.length_nil, List.length_cons, Option.getD_some, Nat.reduceEqDiff, Nat.reduceAdd, true_and, Bool.false_eq_true, St.clr, outV, ownsV, owns1, ownL, List.map_cons, List.map_nil, List.nil_append, List.all_cons, List.all_nil, Bool.true_and, Bool.and_self, PV.cells, cellL, datL, placeOf, Nat.le_refl, BEq.rfl, wr_b, wr_i, rl_i, ol_b, wr_p, wr_lo, m_lf, m_n, m_c, m_all, e_head, e_headK, kC_n, kC_c, pO_n, pO_p, pO_i, pO_l, dw_n, dw_i, List.range_zero, ne_eq, Nat.zero_add]
            intro _
            refine ⟨⟨by omega, by omega⟩, by simp, ?_⟩
            rw [Int.toNat_natCast]
            have e1 : wrX M.length 1 [L.int IntKind.i64 (k : Int)] xs = (M ++ [(lo, k)]).map rowP := by rw [hxs, hM]; exact row_set M lo (k - 1) k
            have e2 : wrS M.length 1 [L.int IntKind.i64 (k : Int)] xs.length [] = ([] : List (List L)) := by unfold wrS; rw [if_pos (by omega)]
            rw [e1, e2]
            refine ih (k + 1) _ (by omega) ?_ Z hZ
            rw [hs, spN_snoc, hacc, hM]
            have : stepN (M ++ [(lo, k - 1)]) k = M ++ [(lo, k)] := by simp [stepN, show k - 1 + 1 = k by omega]
            rw [this]
          | false =>
            rw [hp] at hs1
            have hnl : ∀ h, (memsB a b c d k).getLast? = some h → ¬ h + 1 = k := by
              intro h hl e
              have := (List.mem_filter.1 (List.mem_of_getLast? hl)).2
              rw [show h = k - 1 by omega, hp] at this
              cases this
            simp -implicitDefEqProofs (maxSteps := 2000000) only [c78, w1, ↓reduceIte, s_ops0, s_cond, s_opsK, s_seqK_n, s_blkK_n, s_loopK_n, s_cnd, s_nil, s_cons, s_wopsK, s_putK, o_mv, o_as, o_bin, v_add, o_bd, v_agK, v_bd_n, v_bd_c, o_bs, v_bsK, v_lit_n, v_lit_c, o_app, v_app_o, e_t, e_k, e_put, e_get, e_res, e_keep_n, e_keep_c, e_keep1_s, e_asg_i, List.length_nil, List.length_cons, Option.getD_some, Nat.reduceEqDiff, Nat.reduceAdd, reduceCtorEq, true_and, Bool.false_eq_true, St.clr, outV, ownsV, owns1, ownL, List.map_cons, List.map_nil, Bool.or_false, List.append_nil, List.cons_append, List.nil_append, List.all_cons, List.all_nil, Bool.true_and, Bool.and_self, PV.cells, cellL, datL, fillL, Nat.reduceMul, Nat.reduceBEq, Nat.reduceLeDiff, Nat.le_refl, BEq.rfl, List.take_zero, List.drop_zero, List.take_succ_cons, List.drop_succ_cons, List.drop_nil, kp_b, kp_i, kp_u, rk_b, rk_i, rk_u, rl_i, ol_b, kp_p, rk_p, kp_lo, rk_lo, m_lf, m_ag, m_n, m_c, m_all, e_asg_o, e_head, e_headK, kC_n, kC_c, pO_n, pO_p, pO_i, pO_l, dw_n, dw_i, List.range_zero, plT, ne_eq, not_false_eq_true, lit_n, lit_c, List.reduceReplicate, List.set_cons_zero, Nat.lt_add_one, Nat.zero_add, Nat.add_zero, or_false]
            refine ⟨by omega, ?_⟩
            refine ih (k + 1) _ (by omega) ?_ Z hZ
            rw [hs, spN_snoc, hacc, hxs]
            have : stepN acc k = acc ++ [(k, k)] := by
              unfold stepN
              split
              · rename_i lo hi hl
                have h1 := spN_last (memsB a b c d k)
                rw [hacc, hl] at h1
                rw [if_neg (hnl hi h1.symm)]
              · rename_i hl
                rw [List.getLast?_eq_none_iff.1 hl]; rfl
            rw [this]
            simp [rowP]
  refine R_i [(0, 256)] [] c78_ok rfl (by simp) ?_
  simp -implicitDefEqProofs (maxSteps := 2000000) only [c78, ↓reduceIte, s_ops0, s_seq, s_block, s_loop, s_opsK, s_seqK_n, s_nil, s_cons, s_wopsK, o_as, o_bx, e_t, e_k, e_put, e_get, e_res, e_keep_n, e_keep_c, e_keep1_s, e_asg_i, St.init, enum, List.length_nil, Option.getD_some, Nat.reduceEqDiff, true_and, List.map_cons, List.map_nil, List.nil_append, Bool.true_and, Nat.reduceMul, Nat.zero_le, kp_i, kc_i, kp_p, m_lf, m_ag, m_n, m_c, m_all, e_asg_n, e_head, e_headK, kC_n, kC_c, pO_n, pO_p, pO_i, pO_l, d_n, List.range_zero, plT, Nat.add_zero, v_bx_a]
  exact key 256 0 _ rfl rfl
/-! a class text -/
def pieceL (p : Nat × Nat) : List UInt8 := itemL (UInt8.ofNat p.1) ++ (if p.1 + 1 < p.2 then [45] else []) ++ (if p.1 < p.2 then itemL (UInt8.ofNat p.2) else [])
def showL (a b c d : Nat) : List UInt8 := if fullN a b c d = true then [91, 94, 93] else 91 :: ((spN (mems a b c d)).flatMap pieceL ++ [93])
theorem pieceL_len (p : Nat × Nat) : (pieceL p).length ≤ 9 := by
  have h1 := (itemL_len (UInt8.ofNat p.1)).2
  have h2 := (itemL_len (UInt8.ofNat p.2)).2
  unfold pieceL
  split <;> split <;> simp only [List.length_append, List.length_cons, List.length_nil] <;> omega
theorem pieces_len : ∀ l : List (Nat × Nat), (l.flatMap pieceL).length ≤ 9 * l.length
  | [] => by simp
  | p :: l => by
    have := pieces_len l
    have := pieceL_len p
    simp only [List.flatMap_cons, List.length_append, List.length_cons]; omega
theorem sp_ok (a b c d : Nat) : (spN (mems a b c d)).length ≤ 256 ∧ ∀ p ∈ spN (mems a b c d), p.1 < 256 ∧ p.2 < 256 := by
  constructor
  · have h1 : (spansF ((mems a b c d).map fun (t : Nat) => (t : Int))).length ≤ ((mems a b c d).map fun (t : Nat) => (t : Int)).length := spansF_len _
    rw [spN_map, List.length_map, List.length_map] at h1
    have := mems_len a b c d
    omega
  · exact spN_bound _ 256 fun x hx => by
      have := (List.mem_filter.1 hx).1
      simpa using this
theorem of8 {n : Nat} (h : n < 256) : ((UInt8.ofNat n).toNat : Int) = (n : Int) := by rw [UInt8.toNat_ofNat']; omega
theorem flat_rows (l : List (Nat × Nat)) : Flat (.lf (.lst (.own 0 105) 2 (l.map rowP) [])) := by
  refine ⟨fun x hx c hc => ?_, rfl⟩
  obtain ⟨y, _, rfl⟩ := List.mem_map.1 hx
  simp [rowP] at hc
  rcases hc with rfl | rfl <;> rfl
theorem r61 (hX : X.G 3 = some deBL) (a b c d : Nat) (ha : a < 2 ^ 64) (hb : b < 2 ^ 64) (hc : c < 2 ^ 64) (hd : d < 2 ^ 64) :
    R X Tryd.prog 61 [.ag [.int .u64 a, .int .u64 b, .int .u64 c, .int .u64 d]] [] (.lf (.str ⟨(showL a b c d).toArray⟩)) [] := by
  refine R_i [] [] c61_ok rfl (by simp) ?_
  unfold showL
  obtain ⟨hsl, hsb⟩ := sp_ok a b c d
  simp -implicitDefEqProofs (maxSteps := 2000000) only [c61, ↓reduceIte, s_ops0, s_seq, s_opsK, s_seqK_n, s_nil, s_cons, s_wopsK, s_putK, o_as, v_part_t, o_bx, o_ld, v_ld_p, v_ldC, o_call, e_t, e_k, e_put, e_get, e_res, e_keep_n, e_keep_c, e_keep1_s, e_asg_s, St.init, enum, List.length_nil, List.length_cons, Option.getD_some, Nat.reduceEqDiff, Nat.reduceAdd, true_and, List.map_cons, List.map_nil, PV.leaves, List.flatMap_cons, List.flatMap_nil, List.append_nil, Bool.true_and, Nat.zero_le, Nat.le_refl, List.drop_zero, List.take_succ_cons, List.take_nil, kc_i, rl_i, m_ag, m_n, m_c, m_all, d_n, Nat.zero_add, v_bx_a]
  refine wcall_s (r73 a b c d ha hb hc hd) rfl rfl ?_
  cases hf : fullN a b c d with
  | true => simp -implicitDefEqProofs (maxSteps := 2000000) only [c61, ↓reduceIte, s_ret, s_ops0, s_seq, s_cond, s_opsK, s_seqK_n, s_seqK_r, s_cnd, s_nil, s_cons, s_wopsK, o_as, e_t, e_k, e_put, e_get, e_res, e_keep_n, e_keep_c, e_keep1_s, e_asg_s, Option.getD_some, Nat.reduceEqDiff, and_true, Bool.false_eq_true, s_ret_r, s_retX, s_cells_n, t_lf, t_s, r_n, r_t, r_cons, one_1, St.clr, outV, ownsV, owns1, ownL, Bool.and_true, ol_b, m_lf]
  | false =>
    simp -implicitDefEqProofs (maxSteps := 2000000) only [c61, ↓reduceIte, s_skip, s_ops0, s_seq, s_cond, s_opsK, s_seqK_n, s_cnd, s_nil, s_cons, s_wopsK, e_t, e_k, e_put, e_get, e_res, e_keep_n, e_keep_c, e_keep1_s, Option.getD_some, Nat.reduceEqDiff, true_and, Bool.false_eq_true, St.clr, outV, ownsV, owns1, ownL, List.map_cons, List.map_nil, PV.leaves, List.flatMap_cons, List.flatMap_nil, List.append_nil, List.cons_append, List.nil_append, Bool.true_and, Nat.reduceBEq, Nat.zero_le, List.getElem?_cons_zero, Option.bind_some, kc_b, kc_i, ol_b, kc_p, m_lf, m_n, m_c, m_all, d_n, d_c, dw_n, dw_s, ta_s, ta_t, dw_t0, pc_t, o_alt, o_callp, v_callp]
    refine pcall_i (r43 _ (Or.inl rfl) [] _ (by simp [ByteArray.size])) rfl rfl ?_
    simp -implicitDefEqProofs (maxSteps := 2000000) only [c61, ↓reduceIte, s_ops0, s_seq, s_opsK, s_seqK_n, s_nil, s_cons, s_wopsK, s_putK, v_part_t, o_ld, v_ld_p, v_ldC, o_call, e_t, e_put, e_get, e_res, e_keep_n, e_keep_c, e_keep1_s, List.length_nil, List.length_cons, Option.getD_some, Nat.reduceEqDiff, Nat.reduceAdd, true_and, Bool.false_eq_true, outV, ownsV, owns1, ownL, List.map_cons, List.map_nil, List.any_cons, List.any_nil, Bool.or_self, PV.leaves, List.flatMap_cons, List.flatMap_nil, List.append_nil, List.nil_append, Bool.true_and, Bool.and_self, Nat.reduceMul, Nat.le_refl, BEq.rfl, List.drop_zero, List.take_succ_cons, List.take_nil, rl_i, ol_i, ol_ni, m_lf, m_ag, m_tp, m_1l, m_n, m_c, d_n, d_c, Nat.zero_add, fc_lo, fc_t, kl_i, kl_np, kl_p, kl_lo, kl_t, kf_s, cp_st, isC, cplc, Nat.reduceMod, Nat.reduceDiv, ba_size]
    refine wcall_flat (r74 hX a b c d ha hb hc hd) rfl (flat_rows _) ?_
    have kc : [1280, 1282, 1284].contains 387 = false := by decide
    have h75 : ∀ n : Nat, n < 256 → R X Tryd.prog 75 [.lf (.int .i64 (n : Int))] [] (.lf (.str ⟨(itemL (UInt8.ofNat n)).toArray⟩)) [] := fun n hn => by
      have := r75 (X := X) (UInt8.ofNat n)
      rwa [of8 hn] at this
    generalize spN (mems a b c d) = sp at hsl hsb ⊢
    have key : ∀ (q : List (Nat × Nat)) (i : Nat) (y : List UInt8), sp.drop i = q → i ≤ sp.length → y ++ q.flatMap pieceL ++ [93] = 91 :: (sp.flatMap pieceL ++ [93]) → LoopAt X Tryd.prog c61_14 [3, 10, 11, 12]
      (blkK 0 (seqK X Tryd.prog c61_19 (retS [] [] 0 [RV.t 2] (PV.lf (L.str { data := (91 :: (sp.flatMap pieceL ++ [93])).toArray })) [])))
      { m := 0, tm := [(3, PV.lf (L.tptr 3 0 73)), (10, PV.lf (L.lst (Tag.own 1280 105) 2 (sp.map rowP) [])), (11, PV.lf (L.int IntKind.i64 sp.length)), (12, PV.lf (L.int IntKind.i64 (i : Int)))],
        ce := [(3, [L.tptr 3 0 73, L.lst (Tag.own 387 5) 1 (ub y) []])] } := by
      intro q
      induction q with
      | nil =>
        intro i y hq hil hy
        have hi : sp.length ≤ i := by simpa using hq
        have hn : ¬ (i : Int) < (sp.length : Int) := by omega
        intro Z hZ; apply hZ
        have hyl : y.length ≤ 3000 := by
          have h1 := congrArg List.length hy
          have h2 := pieces_len sp
          simp only [List.length_append, List.length_cons, List.length_nil] at h1
          omega
        simp -implicitDefEqProofs (maxSteps := 2000000) only [c61, hn, decide_false, ↓reduceIte, s_exit, s_ops0, s_seq, s_cond, s_opsK, s_seqK_n, s_seqK_e, s_blkK_e, s_loopK_e, s_cnd, s_nil, s_cons, s_wopsK, s_putK, o_bin, v_lss, e_t, e_k, e_put, e_get, e_res, e_keep_n, e_keep_c, e_keep1_s, Option.getD_some, Nat.reduceEqDiff, Bool.false_eq_true, List.map_cons, List.map_nil, PV.leaves, List.flatMap_cons, List.flatMap_nil, List.append_nil, List.cons_append, List.nil_append, List.getElem?_cons_zero, Option.bind_some, m_lf, dw_n, dw_s, ta_s, ta_t, dw_t0, pc_t, o_callp, v_callp]
        refine pcall_i (r43 _ (Or.inr rfl) y _ (by simp [ByteArray.size]; omega)) rfl rfl ?_
        simp -implicitDefEqProofs (maxSteps := 2000000) only [c61, ↓reduceIte, s_ops0, s_seq, s_opsK, s_seqK_n, s_nil, s_cons, s_wopsK, e_t, e_put, e_get, e_res, e_keep_n, e_keep_c, e_keep1_s, List.length_nil, List.length_cons, Option.getD_some, Nat.reduceEqDiff, Nat.reduceAdd, Bool.false_eq_true, outV, ownsV, owns1, ownL, List.map_cons, List.map_nil, List.any_cons, List.any_nil, Bool.or_self, PV.leaves, List.flatMap_cons, List.flatMap_nil, List.append_nil, Bool.and_self, Nat.reduceMul, Nat.reduceBEq, BEq.rfl, List.getElem?_cons_zero, Option.bind_some, ol_i, ol_ni, m_lf, m_tp, m_1l, m_n, m_c, d_n, d_c, dw_n, Nat.zero_add, ta_t, fc_lo, fc_t, kl_b, kl_i, kl_lo, kl_t, kf_s, cp_st, dw_t0, pc_t, o_callp, v_callp, isC, cplc, Nat.reduceMod, Nat.reduceDiv, ba_size]
        refine pcall_i (r47 _ (Or.inr rfl) _ (by simp)) rfl rfl ?_
        simp -implicitDefEqProofs (maxSteps := 2000000) only [c61, ↓reduceIte, s_ret, s_opsK, s_seqK_n, s_nil, s_cons, s_wopsK, o_as, e_t, e_put, e_get, e_res, e_keep_n, e_keep_c, e_keep1_s, e_asg_s, Option.getD_some, true_and, and_true, Bool.false_eq_true, s_ret_r, s_retX, s_cells_n, t_lf, t_s, r_n, r_t, r_cons, one_1, outV, ownsV, owns1, ownL, List.map_cons, List.map_nil, Bool.and_true, Bool.true_and, Bool.and_self, BEq.rfl, ol_s, m_lf, m_n, m_c, d_n, d_c, fc_u, fc_t, kl_lo, kl_t, kf_s, cp_st, isC, Nat.reduceMod, Nat.reduceDiv]
        rw [← hy]
        simp
      | cons p q ih =>
        intro i y hq hil hy
        have hi : i < sp.length := by
          rcases Nat.lt_or_ge i sp.length with h | h
          · exact h
          · rw [List.drop_eq_nil_of_le h] at hq; cases hq
        have hx : sp[i]? = some p := by rw [← List.head?_drop, hq]; rfl
        have hq' : sp.drop (i + 1) = q := by rw [← List.tail_drop, hq]; rfl
        obtain ⟨lo, hi'⟩ := p
        obtain ⟨b1, b2⟩ := hsb _ (List.mem_of_getElem? hx)
        simp only at b1 b2
        have hlt : (i : Int) < (sp.length : Int) := by omega
        have hget : (sp.map rowP).getD i [] = [.int .i64 (lo : Int), .int .i64 (hi' : Int)] := by rw [List.getD_eq_getElem?_getD, List.getElem?_map, hx]; rfl
        have w1 : IntKind.i64.wrap ((i : Int) + 1) = ((i + 1 : Nat) : Int) := by rw [w64 (by omega) (by omega)]; omega
        have w2 : IntKind.i64.wrap ((lo : Int) + 1) = ((lo + 1 : Nat) : Int) := by rw [w64 (by omega) (by omega)]; omega
        have hyl : y.length ≤ 3000 := by
          have h1 := congrArg List.length hy
          have h2 := pieces_len sp
          simp only [List.length_append, List.length_cons, List.length_nil] at h1
          omega
        have il1 := (itemL_len (UInt8.ofNat lo)).2
        have il2 := (itemL_len (UInt8.ofNat hi')).2
        intro Z hZ; apply hZ
        simp -implicitDefEqProofs (maxSteps := 2000000) only [c61, hlt, decide_true, v_ld_e, hget, Int.toNat_natCast, ↓reduceIte, s_skip, s_ops0, s_seq, s_cond, s_block, s_opsK, s_seqK_n, s_cnd, s_nil, s_cons, s_wopsK, s_putK, o_bin, v_lss, v_part_t, v_part_f, v_atK, o_al, o_fa, v_fa_p, o_ia, v_ia, o_ld, v_ld_p, v_ldC, o_st, v_st_p, v_stCK, o_call, e_t, e_put, e_get, e_res, e_keep_n, e_keep_c, e_keep1_s, List.length_nil, List.length_cons, Option.getD_some, Nat.reduceEqDiff, Nat.reduceAdd, true_and, Bool.false_eq_true, List.map_cons, List.map_nil, PV.leaves, List.flatMap_cons, List.flatMap_nil, List.append_nil, List.nil_append, List.all_cons, List.all_nil, Bool.true_and, Bool.and_self, PV.cells, cellL, fillL, Nat.reduceBEq, Nat.zero_le, Nat.le_refl, List.take_zero, List.drop_zero, List.take_succ_cons, List.drop_succ_cons, List.drop_nil, List.take_nil, List.getElem?_cons_zero, kc_b, kc_i, rl_i, kc_l, m_lf, m_ag, m_n, m_c, m_all, st_b, d_n, d_c, Nat.zero_add, Nat.add_zero, kc_t, kc_eo]
        refine ⟨⟨by omega, by simpa using hi⟩, by simpa using hi, ?_⟩
        refine wcall_s (h75 lo b1) rfl rfl ?_
        simp -implicitDefEqProofs (maxSteps := 2000000) only [c61, ↓reduceIte, s_cons, s_wopsK, e_t, e_put, e_get, Option.getD_some, Nat.reduceEqDiff, Bool.false_eq_true, St.clr, outV, ownsV, owns1, ownL, List.map_cons, List.map_nil, PV.leaves, List.flatMap_cons, List.flatMap_nil, List.append_nil, List.cons_append, List.nil_append, List.getElem?_cons_zero, Option.bind_some, ol_s, m_lf, dw_n, dw_s, ta_s, ta_t, dw_t0, pc_t, o_callp, v_callp]
        refine pcall_i (r43 _ (Or.inr rfl) y _ (by simp [ByteArray.size]; omega)) rfl rfl ?_
        simp -implicitDefEqProofs (maxSteps := 2000000) only [c61, w2, ↓reduceIte, s_skip, s_ops0, s_seq, s_cond, s_opsK, s_seqK_n, s_blkK_n, s_loopK_n, s_cnd, s_nil, s_cons, s_wopsK, s_putK, o_mv, o_bin, v_add, v_gtr, v_part_f, v_atK, o_fa, v_fa_p, o_ld, v_ld_p, v_ldC, o_call, e_t, e_k, e_put, e_get, e_res, e_keep_n, e_keep_c, e_keep1_s, Option.getD_some, Nat.reduceEqDiff, Nat.reduceAdd, Bool.false_eq_true, decide_eq_true_eq, outV, ownsV, owns1, ownL, List.map_cons, List.map_nil, List.any_cons, List.any_nil, Bool.or_self, PV.leaves, List.flatMap_cons, List.flatMap_nil, List.append_nil, List.cons_append, List.nil_append, Bool.and_self, Nat.reduceMul, Nat.reduceBEq, BEq.rfl, List.getElem?_cons_zero, List.getElem?_cons_succ, Option.bind_some, rl_i, ol_i, ol_ni, m_lf, m_tp, m_1l, m_n, m_c, e_head, e_headK, kC_n, kC_c, pO_n, pO_i, pO_l, d_n, d_c, dw_n, dw_s, List.range_zero, Nat.zero_add, Nat.add_zero, ta_s, ta_t, fc_lo, fc_t, kl_i, kl_s, kl_p, kl_lo, kl_t, kf_s, cp_st, pO_tt, dw_t0, pc_t, o_callp, v_callp, isC, cplc, Nat.reduceMod, Nat.reduceDiv, ba_size]
        have fin : ∀ y' : List UInt8, y' = y ++ pieceL (lo, hi') → Z { m := 0, tm := [(3, PV.lf (L.tptr 3 0 73)), (10, PV.lf (L.lst (Tag.own 1280 105) 2 (sp.map rowP) [])), (11, PV.lf (L.int IntKind.i64 sp.length)), (12, PV.lf (L.int IntKind.i64 ((i + 1 : Nat) : Int)))], ce := [(3, [L.tptr 3 0 73, L.lst (Tag.own 387 5) 1 (ub y') []])] } := fun y' e => ih (i + 1) y' hq' (by omega) (by rw [e, ← hy]; simp) Z hZ
        clear ih hy
        by_cases c1 : lo + 1 < hi'
        · have c1' : ((lo + 1 : Nat) : Int) < (hi' : Int) := by omega
          have c2' : (lo : Int) < (hi' : Int) := by omega
          simp -implicitDefEqProofs (maxSteps := 2000000) only [c61, c1', c2', decide_true, ↓reduceIte]
          refine pcall_i (r43 _ (Or.inr rfl) _ _ (by simp [ByteArray.size]; omega)) rfl rfl ?_
          simp -implicitDefEqProofs (maxSteps := 2000000) only [c61, c1', c2', decide_true, ↓reduceIte, s_ops0, s_seq, s_cond, s_opsK, s_seqK_n, s_cnd, s_nil, s_cons, s_wopsK, s_putK, o_bin, v_gtr, v_part_f, v_atK, o_fa, v_fa_p, o_ld, v_ld_p, v_ldC, o_call, e_t, e_put, e_get, e_res, e_keep_n, e_keep_c, e_keep1_s, List.length_nil, List.length_cons, Option.getD_some, Nat.reduceEqDiff, Nat.reduceAdd, Bool.false_eq_true, outV, ownsV, owns1, ownL, List.map_cons, List.map_nil, List.any_cons, List.any_nil, Bool.or_self, PV.leaves, List.flatMap_cons, List.flatMap_nil, List.append_nil, Bool.and_self, Nat.reduceMul, Nat.reduceBEq, BEq.rfl, List.getElem?_cons_zero, List.getElem?_cons_succ, rl_i, ol_i, ol_ni, m_lf, m_tp, m_1l, m_n, m_c, d_n, d_c, Nat.zero_add, Nat.add_zero, fc_lo, fc_t, kl_b, kl_i, kl_p, kl_lo, kl_t, kf_s, cp_st, isC, cplc, Nat.reduceMod, Nat.reduceDiv, ba_size]
          refine wcall_s (h75 hi' b2) rfl rfl ?_
          simp -implicitDefEqProofs (maxSteps := 2000000) only [c61, ↓reduceIte, s_cons, s_wopsK, e_t, e_put, e_get, Option.getD_some, Nat.reduceEqDiff, Bool.false_eq_true, St.clr, outV, ownsV, owns1, ownL, List.map_cons, List.map_nil, PV.leaves, List.flatMap_cons, List.flatMap_nil, List.append_nil, List.cons_append, List.nil_append, List.getElem?_cons_zero, Option.bind_some, ol_s, m_lf, dw_n, dw_s, ta_s, ta_t, dw_t0, pc_t, o_callp, v_callp]
          refine pcall_i (r43 _ (Or.inr rfl) _ _ (by simp [ByteArray.size]; omega)) rfl rfl ?_
          simp -implicitDefEqProofs (maxSteps := 2000000) only [c61, w1, ↓reduceIte, s_ops0, s_opsK, s_seqK_n, s_blkK_n, s_loopK_n, s_nil, s_cons, s_wopsK, s_putK, o_mv, o_bin, v_add, e_t, e_k, e_put, e_get, e_res, e_keep_n, e_keep_c, e_keep1_s, Option.getD_some, Nat.reduceEqDiff, Nat.reduceAdd, Bool.false_eq_true, outV, ownsV, owns1, ownL, List.map_cons, List.map_nil, List.any_cons, List.any_nil, Bool.or_self, List.nil_append, Bool.and_self, Nat.reduceMul, Nat.reduceBEq, BEq.rfl, ol_i, ol_ni, m_lf, m_tp, m_1l, m_n, m_c, e_head, e_headK, kC_n, kC_c, pO_n, pO_i, pO_l, d_n, d_c, List.range_zero, fc_lo, fc_t, kl_b, kl_i, kl_s, kl_p, kl_lo, kl_t, kf_s, cp_st, pO_tt, isC, cplc, Nat.reduceMod, Nat.reduceDiv, ba_size]
          exact fin _ (by simp [pieceL, c1, show lo < hi' by omega])
        · have c1' : ¬ ((lo + 1 : Nat) : Int) < (hi' : Int) := by omega
          by_cases c2 : lo < hi'
          · have c2' : (lo : Int) < (hi' : Int) := by omega
            simp -implicitDefEqProofs (maxSteps := 2000000) only [c61, c1', c2', decide_true, decide_false, ↓reduceIte]
            refine wcall_s (h75 hi' b2) rfl rfl ?_
            simp -implicitDefEqProofs (maxSteps := 2000000) only [c61, ↓reduceIte, s_cons, s_wopsK, e_t, e_put, e_get, Option.getD_some, Nat.reduceEqDiff, Bool.false_eq_true, St.clr, outV, ownsV, owns1, ownL, List.map_cons, List.map_nil, PV.leaves, List.flatMap_cons, List.flatMap_nil, List.append_nil, List.cons_append, List.nil_append, List.getElem?_cons_zero, Option.bind_some, ol_s, m_lf, dw_n, dw_s, ta_s, ta_t, dw_t0, pc_t, o_callp, v_callp]
            refine pcall_i (r43 _ (Or.inr rfl) _ _ (by simp [ByteArray.size]; omega)) rfl rfl ?_
            simp -implicitDefEqProofs (maxSteps := 2000000) only [c61, w1, ↓reduceIte, s_ops0, s_opsK, s_seqK_n, s_blkK_n, s_loopK_n, s_nil, s_cons, s_wopsK, s_putK, o_mv, o_bin, v_add, e_t, e_k, e_put, e_get, e_res, e_keep_n, e_keep_c, e_keep1_s, Option.getD_some, Nat.reduceEqDiff, Nat.reduceAdd, Bool.false_eq_true, outV, ownsV, owns1, ownL, List.map_cons, List.map_nil, List.any_cons, List.any_nil, Bool.or_self, List.nil_append, Bool.and_self, Nat.reduceMul, Nat.reduceBEq, BEq.rfl, ol_i, ol_ni, m_lf, m_tp, m_1l, m_n, m_c, e_head, e_headK, kC_n, kC_c, pO_n, pO_i, pO_l, d_n, d_c, List.range_zero, fc_lo, fc_t, kl_b, kl_i, kl_s, kl_p, kl_lo, kl_t, kf_s, cp_st, pO_tt, isC, cplc, Nat.reduceMod, Nat.reduceDiv, ba_size]
            exact fin _ (by simp [pieceL, c1, c2])
          · have c2' : ¬ (lo : Int) < (hi' : Int) := by omega
            simp -implicitDefEqProofs (maxSteps := 2000000) only [c61, c1', c2', decide_true, decide_false, w1, ↓reduceIte]
            exact fin _ (by simp [pieceL, c1, c2])
    simp -implicitDefEqProofs (maxSteps := 2000000) only [c61, List.length_map, kc, ↓reduceIte, s_block, s_loop, s_opsK, s_seqK_n, s_nil, s_cons, s_wopsK, s_putK, o_mv, o_len, v_len, e_t, e_k, e_put, e_get, e_res, e_keep_n, e_keep_c, e_keep1_s, Option.getD_some, Nat.reduceEqDiff, Nat.reduceAdd, Bool.false_eq_true, St.clr, outV, ownsV, owns1, ownL, List.map_cons, List.map_nil, List.nil_append, Nat.reduceMul, kps_i, kps_p, kps_lo, ol_lo, m_lf, m_ag, m_n, m_c, m_all, e_head, e_headK, kC_n, kC_c, pO_n, pO_i, pO_l, List.range_zero, plT, Nat.add_zero, kps_t, pO_tt]
    intro _
    exact key sp 0 [91] rfl (Nat.zero_le _) (by simp)
end Go.Proofs.YthcpaohmajjopaaDoor.I
