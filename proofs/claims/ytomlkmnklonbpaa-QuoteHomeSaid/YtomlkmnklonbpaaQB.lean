/- Contracts, part QB. -/
import Derived.Test.YtomlkmnklonbpaaQ2
import Derived.Test.YtomlkmnklonbpaaQ3
set_option linter.unusedVariables false
set_option linter.unusedSimpArgs false
namespace Go.Proofs.Ytomlkmnklonbpaa.Q
open Go Go.Proofs.Ytomlkmnklonbpaa.AM
/-- A builder's cells: what its first cell holds, its bytes. -/
abbrev bl (p : L) (l : List UInt8) : List L := [p, .lst (.own 3 5) 1 (ub l) []]
theorem bytesL_ub (s : ByteArray) : bytesL s = ub s.data.toList := rfl
def frsh (x : L) : Prop := x = .nilp ∨ x = .tptr 0 0 48
theorem r43 (x : L) (hx : frsh x) (y : List UInt8) : R cx0 Try.prog 43 [.lf (.tptr 0 0 48)] [bl x y] (.tp []) [bl (.tptr 0 0 48) y] := by
  refine R_i [(3, 3)] [] c43_ok rfl (by simp) ?_
  rcases hx with rfl | rfl
  · simp -implicitDefEqProofs (maxSteps := 2000000) only [c43, ↓reduceIte, s_ops0, s_seq, s_cond, s_opsK, s_seqK_n, s_cnd, s_nil, s_cons, s_wopsK, s_putK, o_mv, v_part_f, v_atK, o_fa, o_ld, v_ldC, o_st, v_stCK, o_nc, e_t, e_k, e_put, e_get, e_res, e_keep_n, e_keep_c, e_keep1_s, St.init, enum, List.length_nil, List.length_cons, Option.getD_some, Nat.reduceEqDiff, Nat.reduceAdd, reduceCtorEq, true_and, and_true, Bool.not_false, s_ret_n, s_retX, s_cells_n, t_tp, t_n, t_ln, t_lc, t_l, t_oo, r_n, List.map_cons, List.map_nil, List.cons_append, List.nil_append, List.all_cons, List.all_nil, Bool.and_true, Bool.true_and, Bool.and_self, PV.cells, cellL, fillL, Nat.reduceLeDiff, List.take_zero, List.drop_zero, List.drop_succ_cons, List.getElem?_cons_zero, d_n, d_c, Nat.reduceLT, Nat.lt_add_one, Nat.zero_add, Nat.add_zero, true_or, or_true, st_t1, o_peq, v_peq_nn, o_p2u, v_p2u, v_p2uK, o_u2p, v_u2p, v_u2pK, o_ex, v_exK, v_ex0, v_fa_t, v_ld_t, v_st_t, v_nc_t, t_tr, s_cells_c, t_some, one_0]
    kernel_rfl
  · simp -implicitDefEqProofs (maxSteps := 2000000) only [c43, ↓reduceIte, s_skip, s_ops0, s_seq, s_cond, s_opsK, s_seqK_n, s_cnd, s_nil, s_cons, s_wopsK, s_putK, o_mv, v_part_f, v_atK, o_fa, o_ld, v_ldC, o_nc, e_t, e_k, e_put, e_get, e_res, e_keep_n, e_keep_c, e_keep1_s, St.init, enum, List.length_nil, List.length_cons, Option.getD_some, Nat.reduceEqDiff, reduceCtorEq, true_and, and_true, Bool.not_true, Bool.false_eq_true, s_ret_n, s_retX, s_cells_n, t_tp, t_n, t_ln, t_lc, t_l, t_oo, r_n, Bool.and_true, Bool.true_and, List.getElem?_cons_zero, Nat.lt_add_one, Nat.zero_add, Nat.add_zero, true_or, or_true, o_peq, v_peq_tn, v_peq_tt, v_fa_t, v_ld_t, v_nc_t, t_tr, s_cells_c, t_some, one_0]
theorem r44 (x : L) (hx : frsh x) (y : List UInt8) (s : ByteArray) (hs : y.length + s.size ≤ 140737488355328) : R cx0 Try.prog 44 [.lf (.tptr 0 0 48), .lf (.str s)] [bl x y] (.tp [.lf (.int .i64 s.size), .lf .nili]) [bl (.tptr 0 0 48) (y ++ s.data.toList)] := by
  refine R_i [(3, 3)] [] c44_ok rfl (by simp) ?_
  rcases hx with rfl | rfl
  all_goals
    simp -implicitDefEqProofs (maxSteps := 2000000) only [c44, ↓reduceIte, s_ops0, s_seq, s_opsK, s_seqK_n, s_nil, s_cons, s_wopsK, o_mv, o_as, e_t, e_k, e_put, e_get, e_res, e_keep_n, e_keep_c, e_keep1_s, e_asg_i, St.init, enum, List.length_nil, List.length_cons, Option.getD_some, Nat.reduceEqDiff, reduceCtorEq, List.map_cons, List.map_nil, PV.leaves, List.flatMap_cons, List.flatMap_nil, List.append_nil, List.getElem?_cons_zero, Option.bind_some, m_lf, e_asg_ni, dw_n, Nat.zero_add, ta_t, dw_t0, pc_t, o_callp, v_callp]
    refine pcall_i (r43 _ (by simp [frsh, toC]) y) rfl rfl ?_
    simp -implicitDefEqProofs (maxSteps := 2000000) only [c44, ↓reduceIte, s_ret, s_ops0, s_seq, s_opsK, s_seqK_n, s_nil, s_cons, s_wopsK, s_putK, o_mv, o_as, v_part_f, v_atK, o_fa, o_ld, v_ldC, o_st, v_stCK, o_nc, o_lns, v_lns, o_aps, v_aps_o, e_t, e_k, e_put, e_get, e_res, e_keep_n, e_keep_c, e_keep1_s, e_asg_i, List.length_nil, List.length_cons, Option.getD_some, Nat.reduceEqDiff, Nat.reduceAdd, reduceCtorEq, true_and, and_true, Bool.false_eq_true, s_ret_r, s_retX, s_cells_n, t_tp, t_n, t_c, t_1l, t_ln, t_lc, t_i, t_ni, t_l, t_oo, r_n, r_t, r_cons, one_2, outV, ownsV, List.map_cons, List.map_nil, List.any_nil, List.append_nil, List.cons_append, List.nil_append, List.all_cons, List.all_nil, Bool.and_true, Bool.true_and, Bool.and_self, PV.cells, cellL, fillL, Nat.reduceMul, Nat.reduceBEq, Nat.le_refl, BEq.rfl, List.take_zero, List.take_succ_cons, List.drop_succ_cons, List.drop_nil, List.getElem?_cons_zero, List.getElem?_cons_succ, kp_s, kp_u, rk_s, rk_u, kp_lo, rk_lo, m_lf, m_tp, m_n, m_c, m_all, e_asg_ni, st_lo, d_n, d_c, plT, plC, Nat.lt_add_one, Nat.zero_add, Nat.add_zero, true_or, or_true, kp_t, rk_t, fc_lo, fc_t, kl_s, kl_np, kl_lo, kl_t, kf_s, cp_st, ub_len, v_fa_t, v_ld_t, v_st_t, v_nc_t, t_tr, s_cells_c, t_some, isC, cplc, Nat.reduceMod, Nat.reduceDiv]
    exact ⟨hs, by rw [bytesL_ub, ub_app]⟩
def b8 (c : Int) : UInt8 := UInt8.ofNat c.toNat
theorem b8_int {c : Int} (h0 : 0 ≤ c) (h1 : c ≤ 255) : ((b8 c).toNat : Int) = c := by
  have : (b8 c).toNat = c.toNat % 256 := rfl
  rw [this]; omega
theorem b8_of (c : UInt8) : b8 (c.toNat : Int) = c := by simp [b8]
theorem r28 (x : L) (hx : frsh x) (y : List UInt8) (c : Int) (h0 : 0 ≤ c) (h1 : c ≤ 255) (hs : y.length < 140737488355328) : R cx0 Try.prog 28 [.lf (.tptr 0 0 48), .lf (.int .u8 c)] [bl x y] (.lf .nili) [bl (.tptr 0 0 48) (y ++ [b8 c])] := by
  refine R_i [(3, 3)] [] c28_ok rfl (by simp) ?_
  rw [← b8_int h0 h1, b8_of]
  rcases hx with rfl | rfl
  all_goals
    simp -implicitDefEqProofs (maxSteps := 2000000) only [c28, ↓reduceIte, s_ops0, s_seq, s_opsK, s_seqK_n, s_nil, s_cons, s_wopsK, o_mv, o_as, e_t, e_k, e_put, e_get, e_res, e_keep_n, e_keep_c, e_keep1_s, St.init, enum, List.length_nil, List.length_cons, Option.getD_some, Nat.reduceEqDiff, reduceCtorEq, List.map_cons, List.map_nil, PV.leaves, List.flatMap_cons, List.flatMap_nil, List.append_nil, List.getElem?_cons_zero, Option.bind_some, m_lf, e_asg_ni, dw_n, Nat.zero_add, ta_t, dw_t0, pc_t, o_callp, v_callp]
    refine pcall_i (r43 _ (by simp [frsh, toC]) y) rfl rfl ?_
    simp -implicitDefEqProofs (maxSteps := 2000000) only [c28, ↓reduceIte, s_ret, s_ops0, s_seq, s_opsK, s_seqK_n, s_nil, s_cons, s_wopsK, s_putK, o_mv, o_as, v_part_f, v_atK, o_fa, o_ld, v_ldC, o_st, v_stCK, o_nc, o_bs, v_bsK, v_lit_n, v_lit_c, o_app, v_app_o, e_t, e_k, e_put, e_get, e_res, e_keep_n, e_keep_c, e_keep1_s, List.length_nil, List.length_cons, Option.getD_some, Nat.reduceEqDiff, Nat.reduceAdd, reduceCtorEq, true_and, and_true, Bool.false_eq_true, s_ret_r, s_retX, s_cells_n, t_lf, t_ln, t_lc, t_ni, t_l, t_oo, r_n, r_t, r_cons, one_1, outV, ownsV, List.map_cons, List.map_nil, List.any_nil, Bool.or_false, List.append_nil, List.cons_append, List.nil_append, List.all_cons, List.all_nil, Bool.and_true, Bool.true_and, Bool.and_self, PV.cells, cellL, datL, fillL, Nat.reduceMul, Nat.reduceBEq, Nat.reduceLeDiff, Nat.le_refl, BEq.rfl, List.take_zero, List.take_succ_cons, List.drop_succ_cons, List.drop_nil, List.getElem?_cons_zero, List.getElem?_cons_succ, kp_i, kp_u, rk_i, rk_u, rl_i, kp_lo, rk_lo, m_lf, m_tp, m_n, m_c, m_all, e_asg_ni, st_lo, d_n, d_c, dw_n, dw_i, plT, plC, lit_n, lit_c, List.reduceReplicate, List.set_cons_zero, Nat.lt_add_one, Nat.zero_add, Nat.add_zero, true_or, or_true, or_false, kp_t, rk_t, fc_lo, fc_t, kl_i, kl_np, kl_lo, kl_t, kf_s, cp_st, ub_len, ub_snoc, v_fa_t, v_ld_t, v_st_t, v_nc_t, t_tr, s_cells_c, t_some, isC, cplc, Nat.reduceMod, Nat.reduceDiv]
    omega
theorem r30 (x : L) (hx : frsh x) (y : List UInt8) : R cx0 Try.prog 30 [.lf (.tptr 0 0 48)] [bl x y] (.lf (.int .i64 y.length)) [bl x y] := by
  refine R_i [(3, 3)] [] c30_ok rfl (by simp) ?_
  rcases hx with rfl | rfl
  all_goals
    simp -implicitDefEqProofs (maxSteps := 2000000) only [c30, ↓reduceIte, s_ret, s_ops0, s_seq, s_opsK, s_seqK_n, s_nil, s_cons, s_wopsK, s_putK, o_mv, o_as, v_part_f, v_atK, o_fa, o_ld, v_ldC, o_nc, o_len, v_len, e_t, e_k, e_put, e_get, e_res, e_keep_n, e_keep_c, e_keep1_s, e_asg_i, St.init, enum, List.length_nil, List.length_cons, Option.getD_some, reduceCtorEq, true_and, and_true, s_ret_r, s_retX, s_cells_n, t_lf, t_ln, t_lc, t_i, t_np, t_l, t_oo, r_n, r_t, r_cons, one_1, Bool.and_true, Bool.true_and, List.getElem?_cons_zero, List.getElem?_cons_succ, Nat.lt_add_one, Nat.zero_add, true_or, or_true, implies_true, ub_len, v_fa_t, v_ld_t, v_nc_t, t_tr, s_cells_c, t_some]
theorem r31 (x : L) (hx : frsh x) (y : List UInt8) (hy : 0 < y.length) : R cx0 Try.prog 31 [.lf (.tptr 0 0 48)] [bl x y] (.lf (.str ⟨y.toArray⟩)) [[x, .undef]] := by
  refine R_i [] [] c31_ok rfl (by simp) ?_
  rcases hx with rfl | rfl
  all_goals
    simp -implicitDefEqProofs (maxSteps := 2000000) only [c31, ↓reduceIte, s_ret, s_ops0, s_seq, s_opsK, s_seqK_n, s_nil, s_cons, s_wopsK, s_wopsqK, s_putK, s_qnil, s_qcons, q_mv, q_fa, q_ld, q_nc, q_len, o_as, v_part_f, v_atK, o_fa, o_ld, v_ldC, o_nc, o_len, v_len, e_t, e_k, e_put, e_get, e_res, e_keep_n, e_keep_c, e_keep1_s, e_asg_s, St.init, enum, List.length_nil, List.length_cons, Option.getD_some, Nat.reduceEqDiff, reduceCtorEq, and_true, s_ret_r, s_retX, s_cells_n, t_lf, t_ln, t_lc, t_s, t_np, t_u, r_n, r_t, r_cons, one_1, List.map_cons, List.map_nil, Bool.and_true, BEq.rfl, List.getElem?_cons_zero, List.getElem?_cons_succ, kp_i, kp_np, kp_lo, m_lf, m_n, m_c, m_all, Nat.lt_add_one, Nat.zero_add, implies_true, kp_t, kp_eo, o_usd, v_usd, ub_len, o_ust, v_ust, s_reg, q_usd, v_fa_t, v_ld_t, v_nc_t, t_tr, s_cells_c, t_some]
    exact hy
def hd (n : UInt8) : UInt8 := if n < 10 then 48 + n else 87 + n
/-- How a byte is written. -/
def wb (c : UInt8) : List UInt8 :=
  if c = 10 then [92, 110] else if c = 13 then [92, 114] else if c = 9 then [92, 116] else if c = 39 ∨ c = 92 then [92, c]
  else if 32 ≤ c ∧ c ≤ 126 then [c] else [92, 120, hd (c / 16), hd (c % 16)]
theorem all8 {p : UInt8 → Prop} (h : ∀ n : Fin 256, p (UInt8.ofNat n.val)) (c : UInt8) : p c := by
  have := h ⟨c.toNat, c.toNat_lt⟩
  simpa using this
theorem sh4 : ∀ c : UInt8, ((c.toNat : Int).fdiv (2 ^ min (Int.toNat 4) IntKind.u8.bits)) = ((c / 16).toNat : Int) := all8 (by decide +kernel)
theorem an15 : ∀ c : UInt8, Go.bits .and .u8 (c.toNat : Int) 15 = ((c % 16).toNat : Int) := all8 (by decide +kernel)
theorem digs : ∀ c : UInt8, c < 16 → byteAt ⟨#[48, 49, 50, 51, 52, 53, 54, 55, 56, 57, 97, 98, 99, 100, 101, 102]⟩ (c.toNat : Int) = ((hd c).toNat : Int) := all8 (by decide +kernel)
theorem d16 : ∀ c : UInt8, c / 16 < 16 ∧ c % 16 < 16 ∧ (c / 16).toNat < 16 ∧ (c % 16).toNat < 16 := all8 (by decide +kernel)
theorem wb_int : ∀ c : UInt8, wb c = if (c.toNat : Int) = 10 then [92, 110] else if (c.toNat : Int) = 13 then [92, 114] else if (c.toNat : Int) = 9 then [92, 116] else if (c.toNat : Int) = 39 ∨ (c.toNat : Int) = 92 then [92, c]
      else if 32 ≤ (c.toNat : Int) ∧ (c.toNat : Int) ≤ 126 then [c] else [92, 120, hd (c / 16), hd (c % 16)] := all8 (by decide +kernel)
theorem b8_92 : b8 92 = 92 := rfl
theorem r29 (x : L) (hx : frsh x) (y : List UInt8) (c : UInt8) (hs : y.length < 140737488355000) : R cx0 Try.prog 29 [.lf (.tptr 0 0 48), .lf (.int .u8 c.toNat)] [bl x y] (.tp []) [bl (.tptr 0 0 48) (y ++ wb c)] := by
  refine R_i [(3, 3)] [] c29_ok rfl (by simp) ?_
  have hc := c.toNat_lt
  have hw := wb_int c
  rw [hw]
  have q := d16 c
  have qa := digs (c / 16) q.1
  have qb := digs (c % 16) q.2.1
  have qc := (hd (c / 16)).toNat_lt
  have qd := (hd (c % 16)).toNat_lt
  rcases hx with rfl | rfl
  all_goals
    simp -implicitDefEqProofs (maxSteps := 2000000) only [c29, ↓reduceIte, s_ops0, s_seq, s_cond, s_block, s_opsK, s_seqK_n, s_cnd, s_nil, s_cons, s_guard, s_wopsK, s_putK, s_grd, q_mv, q_bin, o_mv, o_as, o_pk, v_pk, o_bin, v_eql, v_leq, v_geq, e_t, e_k, e_put, e_get, e_res, e_keep_n, e_keep_c, e_keep1_s, e_asg_b, St.init, enum, List.length_nil, List.length_cons, Option.getD_some, Nat.reduceEqDiff, reduceCtorEq, cond_false, Bool.not_true, Bool.not_false, Bool.true_eq_false, Bool.false_eq_true, decide_eq_true_eq, decide_eq_false_iff_not, List.map_cons, List.map_nil, PV.leaves, List.flatMap_cons, List.flatMap_nil, List.append_nil, List.cons_append, List.nil_append, List.getElem?_cons_zero, Option.bind_some, m_lf, dw_n, dw_i, dw_s, Nat.zero_add, ite_not, ta_i, ta_s, ta_t, dw_t0, pc_t, o_callp, v_callp]
    repeat' (with_reducible refine ite_pr (fun _ => ?_) (fun _ => ?_))
    iterate 4
      all_goals try (first | refine pcall_i (r44 _ ?_ y _ ?_) rfl rfl ?_ | refine pcall_i (r28 _ ?_ _ _ ?_ ?_ ?_) rfl rfl ?_)
      all_goals try (first | exact Or.inl rfl | exact Or.inr rfl | omega | (simp only [ByteArray.size]; simp; omega) | (simp; omega))
      all_goals try simp -implicitDefEqProofs (maxSteps := 2000000) only [c29, sh4, an15, qa, qb, ↓reduceIte, s_ops0, s_seq, s_opsK, s_seqK_n, s_blkK_n, s_nil, s_cons, s_wopsK, s_putK, o_mv, o_bin, v_and, v_shr, o_ixs, v_ixs, e_t, e_k, e_put, e_get, e_res, e_keep_n, e_keep_c, e_keep1_s, List.length_nil, List.length_cons, Option.getD_some, Nat.reduceEqDiff, Nat.reduceAdd, reduceCtorEq, true_and, and_true, Bool.false_eq_true, s_ret_n, s_retX, s_cells_n, t_tp, t_n, t_ln, t_lc, t_l, t_oo, r_n, outV, ownsV, owns1, ownL, List.map_cons, List.map_nil, List.any_cons, List.any_nil, Bool.or_self, PV.leaves, List.flatMap_cons, List.flatMap_nil, List.append_nil, List.cons_append, List.nil_append, Bool.and_true, Bool.true_and, Bool.and_self, Nat.reduceMul, BEq.rfl, List.getElem?_cons_zero, Option.bind_some, ol_i, ol_ni, m_lf, m_tp, m_1l, m_n, m_c, d_n, d_c, dw_n, dw_i, Nat.lt_add_one, Nat.zero_add, true_or, or_true, ta_i, ta_t, fc_lo, fc_t, kl_b, kl_i, kl_np, kl_lo, kl_t, kf_s, cp_st, dw_t0, pc_t, t_tr, s_cells_c, t_some, o_callp, v_callp, isC, cplc, Nat.reduceMod, Nat.reduceDiv, one_0, ba_size]
      all_goals try (refine ⟨by omega, ⟨by omega, ?_⟩, ?_⟩)
      all_goals try (refine ⟨⟨by omega, ?_⟩, ?_⟩)
      all_goals try (simp [ByteArray.size]; omega)
    all_goals try (congr 1; simp [*, b8_of, b8_92]; done)
    all_goals try (congr 1; simp [*, b8_of, b8_92]; apply UInt8.toNat_inj.1; simp [b8]; omega)
end Go.Proofs.Ytomlkmnklonbpaa.Q
