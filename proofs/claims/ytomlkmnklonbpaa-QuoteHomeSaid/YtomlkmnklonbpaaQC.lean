/- Contracts, part QC. -/
import Derived.Test.YtomlkmnklonbpaaQB
set_option linter.unusedVariables false
set_option linter.unusedSimpArgs false
namespace Go.Proofs.Ytomlkmnklonbpaa.Q
open Go Go.Proofs.Ytomlkmnklonbpaa.AM
def body (l : List UInt8) : List UInt8 := l.flatMap wb
/-- A literal of bytes; and the error. -/
def quo (s : ByteArray) : ByteArray × Int :=
  if 65536 < s.size then (⟨#[]⟩, 2) else if 65536 < (39 :: body s.data.toList ++ [39]).length then (⟨#[]⟩, 2) else (⟨(39 :: body s.data.toList ++ [39]).toArray⟩, 0)
/-- The k-th byte. -/
def bt (s : ByteArray) (k : Nat) : UInt8 := s.data.toList.getD k 0
theorem bt_int (s : ByteArray) (k : Nat) : byteAt s (k : Int) = ((bt s k).toNat : Int) := rfl
theorem body_take {s : ByteArray} {k : Nat} (h : k < s.size) : body (s.data.toList.take (k + 1)) = body (s.data.toList.take k) ++ wb (bt s k) := by
  have hl : k < s.data.toList.length := by simpa using h
  rw [List.take_succ_eq_append_getElem hl]
  simp [body, bt, List.getD_eq_getElem?_getD, List.getElem?_eq_getElem hl]
theorem wb_len : ∀ c : UInt8, 1 ≤ (wb c).length ∧ (wb c).length ≤ 4 := all8 (by decide +kernel)
theorem body_len : ∀ l : List UInt8, l.length ≤ (body l).length ∧ (body l).length ≤ 4 * l.length
  | [] => by simp [body]
  | c :: l => by
    have := body_len l
    have := wb_len c
    simp only [body, List.flatMap_cons, List.length_append, List.length_cons] at *
    omega
theorem b8_39 : b8 39 = 39 := rfl
theorem r16 (s : ByteArray) : R cx0 Try.prog 16 [.lf (.str s)] [] (.tp [.lf (.str (quo s).1), .lf (.int .i64 (quo s).2)]) [] := by
  refine R_i [] [] c16_ok rfl (by simp) ?_
  simp -implicitDefEqProofs (maxSteps := 2000000) only [c16, ↓reduceIte, s_skip, s_ret, s_ops0, s_seq, s_cond, s_opsK, s_seqK_n, s_seqK_r, s_cnd, s_nil, s_cons, s_wopsK, s_putK, o_mv, o_as, o_bin, v_gtr, o_lns, v_lns, e_t, e_k, e_put, e_get, e_res, e_keep_n, e_keep_c, e_keep1_s, e_asg_i, e_asg_s, St.init, enum, List.length_nil, Option.getD_some, Nat.reduceEqDiff, reduceCtorEq, true_and, and_true, decide_eq_true_eq, s_ret_r, s_retX, s_cells_n, t_tp, t_n, t_c, t_1l, t_i, t_s, r_n, r_t, r_cons, one_2, List.map_cons, List.map_nil, PV.leaves, List.flatMap_cons, List.flatMap_nil, List.append_nil, List.cons_append, List.nil_append, Bool.and_true, Bool.true_and, Nat.zero_le, List.getElem?_cons_zero, Option.bind_some, kc_b, kc_s, m_lf, m_n, m_c, m_all, d_n, dw_n, dw_i, ta_i, ta_t, dw_t0, pc_t, o_alt, o_callp, v_callp]
  refine ite_pr (fun hbig => ?_) (fun hsm => ?_)
  · have : 65536 < s.size := by omega
    simp [quo, this]
  refine pcall_i (r28 _ (Or.inl rfl) [] _ (by omega) (by omega) (by simp)) rfl rfl ?_
  simp -implicitDefEqProofs (maxSteps := 2000000) only [c16, ↓reduceIte, s_ops0, s_seq, s_block, s_loop, s_opsK, s_seqK_n, s_nil, s_cons, s_wopsK, s_putK, o_mv, o_lns, v_lns, e_t, e_k, e_put, e_get, e_res, e_keep_n, e_keep_c, e_keep1_s, Option.getD_some, Nat.reduceEqDiff, Nat.reduceAdd, reduceCtorEq, Bool.false_eq_true, outV, ownsV, owns1, ownL, List.map_cons, List.map_nil, List.nil_append, Bool.and_self, Nat.reduceMul, BEq.rfl, ol_ni, m_lf, m_n, m_c, e_head, e_headK, kC_n, kC_c, pO_n, pO_i, pO_s, d_n, d_c, List.range_zero, fc_lo, fc_t, kl_s, kl_np, kl_lo, kl_t, kf_s, cp_st, pO_tt, isC, cplc, Nat.reduceMod, Nat.reduceDiv]
  have hz : ∀ k, (body (s.data.toList.take k)).length ≤ 262144 := fun k => by
    have h1 := body_len (s.data.toList.take k)
    have h2 : (s.data.toList.take k).length ≤ s.size := by simp; omega
    omega
  have key : ∀ (n k : Nat), k + n = s.size → LoopAt cx0 Try.prog c16_8 [0, 4, 11, 12] (blkK 0 (seqK cx0 Try.prog c16_17 (retS [] [] 0 [RV.t 2, RV.t 3] (.tp [.lf (.str (quo s).1), .lf (.int .i64 (quo s).2)]) [])))
      { m := 0, tm := [(0, PV.lf (L.str s)), (4, PV.lf (L.tptr 4 0 48)), (11, PV.lf (L.int IntKind.i64 ↑s.size)), (12, PV.lf (L.int IntKind.i64 (k : Int)))],
        ce := [(4, [L.tptr 4 0 48, L.lst (Tag.own 515 5) 1 (ub (39 :: body (s.data.toList.take k))) []])] } := by
    intro n
    induction n with
    | zero =>
      intro k hk Z hZ
      apply hZ
      simp -implicitDefEqProofs (maxSteps := 2000000) only [c16, ↓reduceIte, s_skip, s_exit, s_ops0, s_seq, s_cond, s_block, s_opsK, s_seqK_n, s_seqK_e, s_blkK_e, s_loopK_e, s_cnd, s_nil, s_cons, s_wopsK, s_putK, o_mv, o_as, o_bin, v_lss, o_ixs, v_ixs, e_t, e_k, e_put, e_get, e_res, e_keep_n, e_keep_c, e_keep1_s, e_asg_i, Option.getD_some, Nat.reduceEqDiff, reduceCtorEq, decide_eq_true_eq, List.map_cons, List.map_nil, PV.leaves, List.flatMap_cons, List.flatMap_nil, List.append_nil, List.cons_append, List.nil_append, List.getElem?_cons_zero, Option.bind_some, m_lf, dw_n, dw_i, ta_i, ta_t, dw_t0, pc_t, o_callp, v_callp]
      rw [if_neg (by omega)]
      refine pcall_i (r28 _ (Or.inr rfl) _ _ (by omega) (by omega) ?_) rfl rfl ?_
      · have := hz k; simp; omega
      simp -implicitDefEqProofs (maxSteps := 2000000) only [c16, ↓reduceIte, s_ops0, s_seq, s_opsK, s_seqK_n, s_nil, s_cons, s_wopsK, e_t, e_put, e_get, e_res, e_keep_n, e_keep_c, e_keep1_s, Option.getD_some, Nat.reduceEqDiff, Nat.reduceAdd, reduceCtorEq, Bool.false_eq_true, outV, ownsV, owns1, ownL, List.map_cons, List.map_nil, PV.leaves, List.flatMap_cons, List.flatMap_nil, List.append_nil, List.cons_append, Bool.and_self, Nat.reduceMul, BEq.rfl, List.getElem?_cons_zero, Option.bind_some, ol_ni, m_lf, m_n, m_c, d_n, d_c, dw_n, ta_t, fc_lo, fc_t, kl_b, kl_i, kl_s, kl_lo, kl_t, kf_s, cp_st, dw_t0, pc_t, o_callp, v_callp, isC, cplc, Nat.reduceMod, Nat.reduceDiv]
      refine pcall_i (r30 _ (Or.inr rfl) _) rfl rfl ?_
      simp -implicitDefEqProofs (maxSteps := 2000000) only [c16, ↓reduceIte, s_skip, s_ret, s_ops0, s_seq, s_cond, s_opsK, s_seqK_n, s_seqK_r, s_cnd, s_nil, s_cons, s_wopsK, s_putK, o_as, o_bin, v_gtr, e_t, e_k, e_put, e_get, e_res, e_keep_n, e_keep_c, e_keep1_s, e_asg_i, e_asg_s, List.length_nil, List.length_cons, Option.getD_some, Nat.reduceEqDiff, Nat.reduceAdd, true_and, and_true, Bool.false_eq_true, decide_eq_true_eq, s_ret_r, s_retX, s_cells_n, t_tp, t_n, t_c, t_1l, t_i, t_s, r_n, r_t, r_cons, one_2, outV, ownsV, owns1, ownL, List.map_cons, List.map_nil, PV.leaves, List.flatMap_cons, List.flatMap_nil, List.append_nil, Bool.and_true, Bool.true_and, Bool.and_self, Nat.reduceMul, BEq.rfl, List.getElem?_cons_zero, Option.bind_some, ol_i, m_lf, m_n, m_c, d_n, d_c, dw_n, List.length_append, Nat.zero_add, ta_t, fc_lo, fc_t, kl_lo, kl_t, kf_s, cp_st, dw_t0, pc_t, o_callp, v_callp, isC, cplc, Nat.reduceMod, Nat.reduceDiv]
      have ek : k = s.size := by omega
      have et : s.data.toList.take k = s.data.toList := List.take_of_length_le (by subst ek; simp)
      rw [et, b8_39]
      refine ite_pr (fun hb => ?_) (fun hb => ?_)
      · have h1 : 65536 < (39 :: body s.data.toList ++ [39]).length := by simp; omega
        unfold quo
        rw [if_neg (by omega), if_pos h1]; exact ⟨rfl, rfl⟩
      · refine pcall_i (r31 _ (Or.inr rfl) _ (by simp)) rfl rfl ?_
        simp -implicitDefEqProofs (maxSteps := 2000000) only [c16, ↓reduceIte, s_ret, s_opsK, s_seqK_n, s_nil, s_cons, s_wopsK, o_as, e_t, e_k, e_put, e_get, e_res, e_keep_n, e_keep_c, e_keep1_s, e_asg_i, e_asg_s, Option.getD_some, Nat.reduceEqDiff, true_and, and_true, Bool.false_eq_true, s_ret_r, s_retX, s_cells_n, t_tp, t_n, t_c, t_1l, t_i, t_s, r_n, r_t, r_cons, one_2, outV, ownsV, owns1, ownL, List.map_cons, List.map_nil, Bool.and_true, Bool.true_and, Bool.and_self, BEq.rfl, ol_s, m_lf, m_n, m_c, d_n, d_c, fc_u, fc_t, kl_b, kl_lo, kl_t, kf_s, cp_st, isC, Nat.reduceMod, Nat.reduceDiv]
        have h1 : ¬ 65536 < (39 :: body s.data.toList ++ [39]).length := by simp; omega
        unfold quo
        rw [if_neg (by omega), if_neg h1]; exact ⟨rfl, rfl⟩
    | succ n ih =>
      intro k hk Z hZ
      apply hZ
      simp -implicitDefEqProofs (maxSteps := 2000000) only [c16, bt_int, ↓reduceIte, s_skip, s_exit, s_ops0, s_seq, s_cond, s_block, s_opsK, s_seqK_n, s_seqK_e, s_blkK_e, s_loopK_e, s_cnd, s_nil, s_cons, s_wopsK, s_putK, o_mv, o_as, o_bin, v_lss, o_ixs, v_ixs, e_t, e_k, e_put, e_get, e_res, e_keep_n, e_keep_c, e_keep1_s, e_asg_i, Option.getD_some, Nat.reduceEqDiff, reduceCtorEq, decide_eq_true_eq, List.map_cons, List.map_nil, PV.leaves, List.flatMap_cons, List.flatMap_nil, List.append_nil, List.cons_append, List.nil_append, List.getElem?_cons_zero, Option.bind_some, m_lf, dw_n, dw_i, ta_i, ta_t, dw_t0, pc_t, o_callp, v_callp]
      rw [if_pos (by omega)]
      refine ⟨by omega, pcall_i (r29 _ (Or.inr rfl) _ _ ?_) rfl rfl ?_⟩
      · have := hz k; simp; omega
      simp -implicitDefEqProofs (maxSteps := 2000000) only [c16, ↓reduceIte, s_ops0, s_opsK, s_seqK_n, s_blkK_n, s_loopK_n, s_nil, s_cons, s_wopsK, s_putK, o_mv, o_bin, v_add, e_t, e_k, e_put, e_get, e_res, e_keep_n, e_keep_c, e_keep1_s, Option.getD_some, Nat.reduceEqDiff, Nat.reduceAdd, reduceCtorEq, Bool.false_eq_true, outV, ownsV, List.map_cons, List.map_nil, List.any_nil, List.cons_append, List.nil_append, Bool.and_self, Nat.reduceMul, BEq.rfl, m_lf, m_tp, m_n, m_c, e_head, e_headK, kC_n, kC_c, pO_n, pO_i, pO_s, d_n, d_c, List.range_zero, fc_lo, fc_t, kl_i, kl_s, kl_lo, kl_t, kf_s, cp_st, pO_tt, isC, cplc, Nat.reduceMod, Nat.reduceDiv]
      rw [w64 (by omega) (by omega)]
      have := ih (k + 1) (by omega) Z hZ
      rw [body_take (by omega)] at this
      exact this
  exact key s.size 0 (by omega)
theorem hd_int : ∀ c : UInt8, c < 16 → (if (c.toNat : Int) < 10 then IntKind.wrap .u8 (IntKind.wrap .i64 (48 + (c.toNat : Int))) else IntKind.wrap .u8 (IntKind.wrap .i64 (IntKind.wrap .i64 (97 + (c.toNat : Int)) - 10))) = ((hd c).toNat : Int) := all8 (by decide +kernel)
theorem r32 (c : UInt8) (hc : c < 16) : R cx0 Try.prog 32 [.lf (.int .i64 c.toNat)] [] (.lf (.int .u8 (hd c).toNat)) [] := by
  refine R_i [] [] c32_ok rfl (by simp) ?_
  have h := hd_int c hc
  simp -implicitDefEqProofs (maxSteps := 2000000) only [c32, ↓reduceIte, s_skip, s_ret, s_ops0, s_seq, s_cond, s_opsK, s_seqK_n, s_seqK_r, s_cnd, s_nil, s_cons, s_wopsK, s_putK, o_mv, o_as, o_bin, v_add, v_sub, v_lss, o_cvi, v_cvi, e_t, e_k, e_put, e_get, e_res, e_keep_n, e_keep_c, e_keep1_s, e_asg_i, St.init, enum, List.length_nil, Option.getD_some, reduceCtorEq, true_and, and_true, decide_eq_true_eq, s_ret_r, s_retX, s_cells_n, t_lf, t_i, r_n, r_t, r_cons, one_1, Bool.and_true, Bool.true_and]
  split at h <;> simp [*]
theorem q16 : ∀ c : UInt8, IntKind.wrap .i64 ((IntKind.wrap .i64 (c.toNat : Int)).tdiv 16) = ((c / 16).toNat : Int) ∧ (IntKind.wrap .i64 (c.toNat : Int)).tmod 16 = ((c % 16).toNat : Int) := all8 (by decide +kernel)
theorem body_mono (l : List UInt8) (k : Nat) : (body (l.take k)).length ≤ (body l).length := by
  have : body l = body (l.take k) ++ body (l.drop k) := by
    simp only [body, ← List.flatMap_append, List.take_append_drop]
  rw [this, List.length_append]; omega
set_option maxRecDepth 20000 in
theorem r17 (s : ByteArray) : R cx0 Try.prog 17 [.lf (.str s)] [] (.tp [.lf (.str (quo s).1), .lf (.int .i64 (quo s).2)]) [] := by
  refine R_i [] [] c17_ok rfl (by simp) ?_
  have hz : ∀ k, (body (s.data.toList.take k)).length ≤ 4 * s.size := fun k => by
    have h1 := body_len (s.data.toList.take k)
    have h2 : (s.data.toList.take k).length ≤ s.size := by simp; omega
    omega
  have fin : ∀ k, k = s.size ∨ 65536 < (body (s.data.toList.take k)).length + 1 → s.size ≤ 65536 → awp cx0 Try.prog c17_28 (retS [] [] 0 [RV.t 2, RV.t 3] (PV.tp [PV.lf (L.str (quo s).1), PV.lf (L.int IntKind.i64 (quo s).2)]) [])
      { m := 0, tm := [(4, PV.lf (L.lst (Tag.own 512 5) 1 (ub (39 :: body (s.data.toList.take k))) []))], ce := [] } := by
    intro k hk hsm
    have h1 := hz k
    have h2 := body_mono s.data.toList k
    simp -implicitDefEqProofs (maxSteps := 2000000) only [c17, ↓reduceIte, s_skip, s_ret, s_ops0, s_seq, s_cond, s_opsK, s_seqK_n, s_seqK_r, s_cnd, s_nil, s_cons, s_wopsK, s_putK, o_mv, o_as, o_bin, v_gtr, o_cbs, o_bs, v_bsK, v_lit_n, v_lit_c, o_len, v_len, o_app, v_app_o, e_t, e_k, e_put, e_get, e_res, e_keep_n, e_keep_c, e_keep1_s, e_asg_i, e_asg_s, List.length_nil, List.length_cons, Option.getD_some, Nat.reduceEqDiff, reduceCtorEq, true_and, and_true, Bool.false_eq_true, decide_eq_true_eq, s_ret_r, s_retX, s_cells_n, t_tp, t_n, t_c, t_1l, t_i, t_s, r_n, r_t, r_cons, one_2, List.map_cons, List.map_nil, Bool.or_false, List.append_nil, List.all_cons, List.all_nil, Bool.and_true, Bool.true_and, Bool.and_self, PV.cells, datL, Nat.reduceMul, Nat.reduceBEq, Nat.reduceLeDiff, BEq.rfl, kp_u, rk_u, rl_i, kp_lo, rk_lo, m_lf, m_n, m_c, m_all, e_asg_o, dw_n, dw_i, plT, lit_n, lit_c, List.reduceReplicate, List.set_cons_zero, List.length_append, Nat.lt_add_one, Nat.zero_add, Nat.add_zero, or_false, ub_len]
    refine ⟨by omega, fun _ => ?_⟩
    have e39 : ub (39 :: body (s.data.toList.take k)) ++ [[L.int IntKind.u8 39]] = ub (39 :: body (s.data.toList.take k) ++ [39]) := by simp [ub]
    refine ite_pr (fun hb => ?_) (fun hb => ?_)
    · have h1 : 65536 < (39 :: body s.data.toList ++ [39]).length := by simp; omega
      unfold quo
      rw [if_neg (by omega), if_pos h1]; exact ⟨rfl, rfl⟩
    · have ek : k = s.size := by omega
      have et : s.data.toList.take k = s.data.toList := List.take_of_length_le (by subst ek; simp)
      rw [e39, v_cbs_ub, et]
      rw [et] at hb
      have h1 : ¬ 65536 < (39 :: body s.data.toList ++ [39]).length := by simp; omega
      simp -implicitDefEqProofs (maxSteps := 2000000) only [c17, ↓reduceIte, s_ret, s_opsK, s_seqK_n, s_nil, s_cons, s_wopsK, s_putK, o_as, e_t, e_k, e_put, e_get, e_res, e_keep_n, e_keep_c, e_keep1_s, e_asg_i, e_asg_s, Option.getD_some, Nat.reduceEqDiff, true_and, and_true, s_ret_r, s_retX, s_cells_n, t_tp, t_n, t_c, t_1l, t_i, t_s, r_n, r_t, r_cons, one_2, List.cons_append, Bool.and_true, Bool.true_and]
      unfold quo
      rw [if_neg (by omega), if_neg h1]; exact ⟨rfl, rfl⟩
  have key : s.size ≤ 65536 → ∀ (n k : Nat), k + n = s.size → LoopAt cx0 Try.prog c17_19 [0, 4, 5] (blkK 0 (seqK cx0 Try.prog c17_28 (retS [] [] 0 [RV.t 2, RV.t 3] (PV.tp [PV.lf (L.str (quo s).1), PV.lf (L.int IntKind.i64 (quo s).2)]) [])))
      { m := 0, tm := [(0, PV.lf (L.str s)), (4, PV.lf (L.lst (Tag.own 512 5) 1 (ub (39 :: body (s.data.toList.take k))) [])), (5, PV.lf (L.int IntKind.i64 (k : Int)))], ce := [] } := by
    intro hsm n
    induction n with
    | zero =>
      intro k hk Z hZ
      apply hZ
      simp -implicitDefEqProofs (maxSteps := 2000000) only [c17, ↓reduceIte, s_skip, s_exit, s_ret, s_ops0, s_seq, s_cond, s_block, s_opsK, s_seqK_n, s_seqK_e, s_seqK_r, s_blkK_n, s_blkK_e, s_loopK_n, s_loopK_e, s_cnd, s_nil, s_cons, s_guard, s_wopsK, s_putK, s_grd, q_mv, q_bin, q_len, o_mv, o_as, o_pk, v_pk, o_bin, v_add, v_quo, v_eql, v_lss, v_leq, v_gtr, v_geq, o_cvi, v_cvi, o_cbs, o_ixs, v_ixs, o_bs, v_bsK, v_lit_n, v_lit_c, o_len, v_len, o_lns, v_lns, o_app, v_app_o, o_call, e_t, e_k, e_put, e_get, e_res, e_keep_n, e_keep_c, e_keep1_s, e_asg_b, e_asg_i, e_asg_s, List.length_nil, List.length_cons, Option.getD_some, Nat.reduceEqDiff, Nat.reduceAdd, reduceCtorEq, true_and, and_true, cond_false, Bool.not_true, Bool.not_false, Bool.true_eq_false, Bool.false_eq_true, decide_eq_true_eq, decide_eq_false_iff_not, s_ret_r, s_retX, s_cells_n, t_tp, t_n, t_c, t_1l, t_i, t_s, r_n, r_t, r_cons, one_2, List.map_cons, List.map_nil, Bool.or_false, PV.leaves, List.flatMap_cons, List.flatMap_nil, List.append_nil, List.cons_append, List.nil_append, List.all_cons, List.all_nil, Bool.and_true, Bool.true_and, Bool.and_self, PV.cells, datL, Nat.reduceMul, Nat.reduceBEq, Nat.reduceLeDiff, BEq.rfl, kp_b, kp_i, kp_s, kp_u, rk_b, rk_i, rk_s, rk_u, rl_i, kp_lo, rk_lo, m_lf, m_n, m_c, m_all, e_asg_o, e_head, e_headK, kC_n, pO_n, pO_i, pO_s, pO_l, dw_n, dw_i, List.range_zero, plT, ne_eq, lit_n, lit_c, List.reduceReplicate, List.set_cons_zero, List.set_cons_succ, List.length_append, Nat.reduceLT, Nat.lt_add_one, Nat.zero_add, Nat.add_zero, or_false, ite_not, ub_len]
      rw [if_neg (by omega)]
      have h := fin k (Or.inl (by omega)) hsm
      simp -implicitDefEqProofs (maxSteps := 2000000) only [c17, ↓reduceIte, s_skip, s_ret, s_ops0, s_seq, s_cond, s_opsK, s_seqK_n, s_seqK_r, s_cnd, s_nil, s_cons, s_wopsK, s_putK, o_mv, o_as, o_bin, v_gtr, o_cbs, o_bs, v_bsK, v_lit_n, v_lit_c, o_len, v_len, o_app, v_app_o, e_t, e_k, e_put, e_get, e_res, e_keep_n, e_keep_c, e_keep1_s, e_asg_i, e_asg_s, List.length_nil, List.length_cons, Option.getD_some, Nat.reduceEqDiff, reduceCtorEq, true_and, and_true, Bool.false_eq_true, decide_eq_true_eq, s_ret_r, s_retX, s_cells_n, t_tp, t_n, t_c, t_1l, t_i, t_s, r_n, r_t, r_cons, one_2, List.map_cons, List.map_nil, Bool.or_false, List.append_nil, List.all_cons, List.all_nil, Bool.and_true, Bool.true_and, Bool.and_self, PV.cells, datL, Nat.reduceMul, Nat.reduceBEq, Nat.reduceLeDiff, BEq.rfl, kp_u, rk_u, rl_i, kp_lo, rk_lo, m_lf, m_n, m_c, m_all, e_asg_o, dw_n, dw_i, plT, lit_n, lit_c, List.reduceReplicate, List.set_cons_zero, List.length_append, Nat.lt_add_one, Nat.zero_add, Nat.add_zero, or_false, ub_len] at h
      exact h
    | succ n ih =>
      intro k hk Z hZ
      apply hZ
      simp -implicitDefEqProofs (maxSteps := 2000000) only [c17, bt_int, ↓reduceIte, s_skip, s_exit, s_ret, s_ops0, s_seq, s_cond, s_block, s_opsK, s_seqK_n, s_seqK_e, s_seqK_r, s_blkK_n, s_blkK_e, s_loopK_n, s_loopK_e, s_cnd, s_nil, s_cons, s_guard, s_wopsK, s_putK, s_grd, q_mv, q_bin, q_len, o_mv, o_as, o_pk, v_pk, o_bin, v_add, v_quo, v_eql, v_lss, v_leq, v_gtr, v_geq, o_cvi, v_cvi, o_cbs, o_ixs, v_ixs, o_bs, v_bsK, v_lit_n, v_lit_c, o_len, v_len, o_lns, v_lns, o_app, v_app_o, o_call, e_t, e_k, e_put, e_get, e_res, e_keep_n, e_keep_c, e_keep1_s, e_asg_b, e_asg_i, e_asg_s, List.length_nil, List.length_cons, Option.getD_some, Nat.reduceEqDiff, Nat.reduceAdd, reduceCtorEq, true_and, and_true, cond_false, Bool.not_true, Bool.not_false, Bool.true_eq_false, Bool.false_eq_true, decide_eq_true_eq, decide_eq_false_iff_not, s_ret_r, s_retX, s_cells_n, t_tp, t_n, t_c, t_1l, t_i, t_s, r_n, r_t, r_cons, one_2, List.map_cons, List.map_nil, Bool.or_false, PV.leaves, List.flatMap_cons, List.flatMap_nil, List.append_nil, List.cons_append, List.nil_append, List.all_cons, List.all_nil, Bool.and_true, Bool.true_and, Bool.and_self, PV.cells, datL, Nat.reduceMul, Nat.reduceBEq, Nat.reduceLeDiff, BEq.rfl, kp_b, kp_i, kp_s, kp_u, rk_b, rk_i, rk_s, rk_u, rl_i, kp_lo, rk_lo, m_lf, m_n, m_c, m_all, e_asg_o, e_head, e_headK, kC_n, pO_n, pO_i, pO_s, pO_l, dw_n, dw_i, List.range_zero, plT, ne_eq, lit_n, lit_c, List.reduceReplicate, List.set_cons_zero, List.set_cons_succ, List.length_append, Nat.reduceLT, Nat.lt_add_one, Nat.zero_add, Nat.add_zero, or_false, ite_not, ub_len, ub_snoc]
      rw [if_pos (by omega)]
      intro _
      with_reducible refine ite_pr (fun hb => ?_) (fun hb => ?_)
      case refine_2 =>
        have h := fin k (Or.inr (by omega)) hsm
        simp -implicitDefEqProofs (maxSteps := 2000000) only [c17, ↓reduceIte, s_skip, s_ret, s_ops0, s_seq, s_cond, s_opsK, s_seqK_n, s_seqK_r, s_cnd, s_nil, s_cons, s_wopsK, s_putK, o_mv, o_as, o_bin, v_gtr, o_cbs, o_bs, v_bsK, v_lit_n, v_lit_c, o_len, v_len, o_app, v_app_o, e_t, e_k, e_put, e_get, e_res, e_keep_n, e_keep_c, e_keep1_s, e_asg_i, e_asg_s, List.length_nil, List.length_cons, Option.getD_some, Nat.reduceEqDiff, reduceCtorEq, true_and, and_true, Bool.false_eq_true, decide_eq_true_eq, s_ret_r, s_retX, s_cells_n, t_tp, t_n, t_c, t_1l, t_i, t_s, r_n, r_t, r_cons, one_2, List.map_cons, List.map_nil, Bool.or_false, List.append_nil, List.all_cons, List.all_nil, Bool.and_true, Bool.true_and, Bool.and_self, PV.cells, datL, Nat.reduceMul, Nat.reduceBEq, Nat.reduceLeDiff, BEq.rfl, kp_u, rk_u, rl_i, kp_lo, rk_lo, m_lf, m_n, m_c, m_all, e_asg_o, dw_n, dw_i, plT, lit_n, lit_c, List.reduceReplicate, List.set_cons_zero, List.length_append, Nat.lt_add_one, Nat.zero_add, Nat.add_zero, or_false, ub_len] at h
        exact h
      have ih' := ih (k + 1) (by omega) Z hZ
      have hw := wb_int (bt s k)
      rw [body_take (by omega)] at ih'
      clear ih fin hZ
      generalize bt s k = c at ih' hw ⊢
      have hc := c.toNat_lt
      have q := d16 c
      refine ⟨by omega, ?_⟩
      repeat' (with_reducible first | refine ite_pr (fun _ => ?_) (fun _ => ?_) | refine And.intro ?_ ?_)
      all_goals try omega
      all_goals try (rw [(q16 c).1]; refine wcall_s (r32 _ q.1) rfl rfl ?_; simp -implicitDefEqProofs (maxSteps := 2000000) only [c17, ↓reduceIte, s_cons, s_wopsK, s_putK, o_mv, o_bin, v_rem, o_cvi, v_cvi, o_call, e_t, e_k, e_put, e_get, Option.getD_some, Nat.reduceEqDiff, reduceCtorEq, Bool.false_eq_true, St.clr, outV, ownsV, owns1, ownL, List.map_cons, List.map_nil, PV.leaves, List.flatMap_cons, List.flatMap_nil, List.append_nil, rl_i, ol_i, m_lf, ne_eq]; rw [(q16 c).2]; refine ⟨by omega, wcall_s (r32 _ q.2.1) rfl rfl ?_⟩; simp -implicitDefEqProofs (maxSteps := 2000000) only [c17, ↓reduceIte, s_ops0, s_opsK, s_seqK_n, s_blkK_n, s_loopK_n, s_nil, s_cons, s_wopsK, s_putK, o_mv, o_as, o_bin, v_add, o_bs, v_bsK, v_lit_n, v_lit_c, o_app, v_app_o, e_t, e_k, e_put, e_get, e_res, e_keep_n, e_keep_c, e_keep1_s, e_asg_i, List.length_nil, List.length_cons, Option.getD_some, Nat.reduceEqDiff, Nat.reduceAdd, reduceCtorEq, true_and, Bool.false_eq_true, St.clr, outV, ownsV, owns1, ownL, List.map_cons, List.map_nil, Bool.or_false, List.append_nil, List.cons_append, List.nil_append, List.all_cons, List.all_nil, Bool.true_and, Bool.and_self, PV.cells, datL, Nat.reduceMul, Nat.reduceBEq, Nat.reduceLeDiff, BEq.rfl, kp_b, kp_i, kp_s, kp_u, rk_b, rk_i, rk_s, rk_u, rl_i, ol_i, kp_lo, rk_lo, m_lf, m_n, m_c, m_all, e_asg_o, e_head, e_headK, kC_n, pO_n, pO_i, pO_s, pO_l, dw_n, dw_i, List.range_zero, plT, lit_n, lit_c, List.reduceReplicate, List.set_cons_zero, List.set_cons_succ, Nat.reduceLT, Nat.lt_add_one, Nat.zero_add, Nat.add_zero, or_false, ub_len]; refine ⟨by omega, ?_⟩)
      all_goals rw [w64 (by omega) (by omega)]
      all_goals
        have hZs : ∀ l', l' = ub (39 :: (body (s.data.toList.take k) ++ wb c)) → Z { m := 0, tm := [(0, PV.lf (L.str s)), (4, PV.lf (L.lst (Tag.own 512 5) 1 l' [])), (5, PV.lf (L.int IntKind.i64 ((k : Int) + 1)))], ce := [] } := fun l' e => e ▸ ih'
        refine hZs _ ?_
        rw [hw]
        simp [ub, *]
  simp -implicitDefEqProofs (maxSteps := 2000000) only [c17, ↓reduceIte, s_skip, s_ret, s_ops0, s_seq, s_cond, s_block, s_loop, s_opsK, s_seqK_n, s_seqK_r, s_cnd, s_nil, s_cons, s_wopsK, s_putK, o_mv, o_as, o_bin, v_gtr, o_bs, v_bsK, v_lit_n, v_lit_c, o_lns, v_lns, e_t, e_k, e_put, e_get, e_res, e_keep_n, e_keep_c, e_keep1_s, e_asg_i, e_asg_s, St.init, enum, List.length_nil, List.length_cons, Option.getD_some, Nat.reduceEqDiff, reduceCtorEq, true_and, and_true, Bool.false_eq_true, decide_eq_true_eq, s_ret_r, s_retX, s_cells_n, t_tp, t_n, t_c, t_1l, t_i, t_s, r_n, r_t, r_cons, one_2, List.map_cons, List.map_nil, List.append_nil, List.all_cons, List.all_nil, Bool.and_true, Bool.true_and, Bool.and_self, PV.cells, datL, Nat.reduceMul, Nat.reduceBEq, Nat.reduceLeDiff, BEq.rfl, kp_b, kp_s, rk_b, rk_s, rl_i, rk_lo, m_lf, m_n, m_c, m_all, e_asg_o, e_head, e_headK, kC_n, pO_n, pO_i, pO_s, pO_l, dw_n, dw_i, List.range_zero, plT, lit_n, lit_c, List.reduceReplicate, List.set_cons_zero, Nat.lt_add_one, Nat.zero_add, Nat.add_zero]
  with_reducible refine ite_pr (fun hb => ?_) (fun hb => ?_)
  · have : 65536 < s.size := by omega
    simp [quo, this]
  · exact key (by omega) s.size 0 (by omega)
end Go.Proofs.Ytomlkmnklonbpaa.Q
