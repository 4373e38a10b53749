/- Contracts, part M4. -/
import Derived.Test.YtkmhoholblbbfaaDoorM3
set_option linter.unusedVariables false
set_option linter.unusedSimpArgs false
namespace Go.Proofs.YtkmhoholblbbfaaDoor.M
open Go Go.Proofs.YtkmhoholblbbfaaDoor.AM
variable {X : Cx}
def partialM (x : Ins) (m : MS) : MS :=
  { popM false m |>.2 with st := if (popM false m).2.bad = 0 then (popM false m).2.st ++ [⟨false, (popM false m).1.pc, (popM false m).2.at', (popM false m).2.lg.length⟩] else (popM false m).2.st, pc := W ((popM false m).2.pc + x.a) }
theorem pop_len (ret : Bool) (m : MS) : (popM ret m).2.st.length ≤ m.st.length := by
  unfold popM
  split
  · exact Nat.le_refl _
  · split
    · simp
    · exact Nat.le_refl _
theorem r35 (k : MC) (m : MS) (x : Ins) (h : m.st.length ≤ 1048576) : R X Tryd.prog 35 [.lf (.ptr 0 0), .ag x.c] [mst k m] (.tp []) [mst k (partialM x m)] := by
  have h34 := r34 (X := X) k m false h
  have hl := pop_len false m
  have h1l : ((popM false m).2.lg.map Nt.c).length = (popM false m).2.lg.length := List.length_map _
  have h2l : ((popM false m).2.st.map Ent.c).length = (popM false m).2.st.length := List.length_map _
  generalize hr : partialM x m = r
  unfold partialM at hr
  simp only [Ins.c]
  refine R_i [(15, 15), (17, 17), (23, 23)] [] c35_ok rfl (by simp) ?_
  simp -implicitDefEqProofs (maxSteps := 2000000) only [c35, ↓reduceIte, s_ops0, s_seq, s_opsK, s_seqK_n, s_nil, s_cons, s_wopsK, o_mv, o_bx, e_t, e_k, e_put, e_get, e_res, e_keep_n, e_keep_c, e_keep1_s, St.init, enum, List.length_nil, List.length_cons, Option.getD_some, reduceCtorEq, true_and, Bool.false_eq_true, List.map_cons, List.map_nil, PV.leaves, List.flatMap_cons, List.flatMap_nil, List.append_nil, List.cons_append, List.nil_append, Bool.true_and, Nat.reduceBEq, Nat.reduceLeDiff, List.getElem?_cons_zero, Option.bind_some, kc_i, kc_s, kc_p, kc_l, m_lf, m_ag, m_n, m_c, m_all, d_n, d_c, dw_n, dw_b, dw_p, Nat.zero_add, ta_b, ta_p, pc_p, o_callp, v_callp, v_bx_a]
  refine pcall_i h34 rfl rfl ?_
  generalize popM false m = p at *
  simp -implicitDefEqProofs (maxSteps := 2000000) only [c35, h1l, h2l, ↓reduceIte, s_skip, s_ops0, s_seq, s_cond, s_opsK, s_seqK_n, s_cnd, s_nil, s_cons, s_wopsK, s_wopsqK, s_putK, s_qnil, s_qcons, q_mv, q_bin, q_fa, q_ld, q_nc, o_mv, o_bin, v_add, v_eql, v_part_f, v_atK, o_al, o_fa, v_fa_p, o_ld, v_ld_p, v_ldC, o_st, v_st_p, v_stCK, o_nc, v_nc_p, o_bd, v_agK, v_bd_n, v_bd_c, o_bs, v_bsK, v_lit_n, v_lit_c, o_len, v_len, o_app, v_app_o, e_t, e_k, e_put, e_get, e_res, e_keep_n, e_keep_c, e_keep1_s, List.length_nil, List.length_cons, Option.getD_some, Nat.reduceEqDiff, Nat.reduceAdd, reduceCtorEq, true_and, and_true, Bool.not_false, Bool.false_eq_true, decide_eq_true_eq, s_ret_n, s_retX, s_cells_n, t_tp, t_n, t_ln, t_lc, t_i, t_s, t_l, t_oo, t_rr, r_n, outV, ownsV, owns1, ownL, List.map_cons, List.map_nil, List.any_cons, List.any_nil, Bool.or_false, Bool.or_self, List.append_nil, List.cons_append, List.nil_append, List.all_cons, List.all_nil, Bool.and_true, Bool.true_and, Bool.and_self, PV.cells, cellL, datL, fillL, Nat.reduceMul, Nat.reduceBEq, Nat.reduceLeDiff, Nat.le_refl, BEq.rfl, List.take_zero, List.drop_zero, List.take_succ_cons, List.drop_succ_cons, List.drop_nil, List.getElem?_cons_zero, List.getElem?_cons_succ, kp_b, kp_i, kp_s, kp_u, kc_b, kc_i, kc_s, rk_b, rk_i, rk_s, rk_u, rl_b, rl_i, ol_b, ol_i, kp_p, kp_lro, rk_p, rk_lro, kc_p, kc_l, kp_lo, rk_lo, m_lf, m_ag, m_n, m_c, m_all, st_b, st_i1, st_lo, d_n, d_c, dw_n, dw_b, dw_i, plT, plC, ne_eq, not_false_eq_true, lit_n, lit_c, List.reduceReplicate, List.set_cons_zero, Nat.lt_add_one, Nat.zero_add, Nat.add_zero, true_or, or_true, or_false, fc_i, fc_s, fc_lr, fc_lo, kl_i, kl_s, kl_p, kl_lr, kl_lo, kf_s, cp_st, s_reg, s_cells_c, t_some, isC, cplc, Nat.reduceMod, Nat.reduceDiv, one_0, s_gdq, s_gqn, s_gqc, s_gqK, s_gqE, s_gq1, s_gq2, s_gqF, s_gqT, pv_p, sv_l, lk_mv, lk_fa, ns_fa, lk_nc, ns_nc, ns_len, lk_ld, ns_bs, ns_bd, ns_app]
  with_reducible refine ite_pr (fun h1 => ?_) (fun h1 => ?_)
  · rw [if_pos h1] at hr
    subst hr
    intro _
    refine ⟨by omega, ?_⟩
    simp
  · rw [if_neg h1] at hr
    subst hr
    simp
theorem r25 (k : MC) (m : MS) (x : Ins) (g f : Nat) (cp : List L) (G : Int → Bool) (hg : fnOK Tryd.prog g = true) (hgR : R X Tryd.prog g [.ag x.c] [] (.lf (.fn f [] cp)) []) (hf : fnOK Tryd.prog f = true) (hp : pureL [] cp = true) (hG : ∀ b : Int, 0 ≤ b → b ≤ 255 → R X Tryd.prog f ([.lf (.int .u8 b)] ++ cp.map (fun x => .lf x)) [] (.lf (.bool (G b))) [])
    (ha : 0 ≤ m.at') : R X Tryd.prog 25 [.lf (.ptr 0 0), .ag x.c, .lf (.rp [.fn g [] []] 0)] [mst k m] (.tp []) [mst k (if seesB k G m = true then { m with pc := W (m.pc + 1) } else { m with pc := W (m.pc + x.a) })] := by
  have h22 := r22 (X := X) k m f cp G hf hp hG ha
  generalize hr : (if seesB k G m = true then ({ m with pc := W (m.pc + 1) } : MS) else { m with pc := W (m.pc + x.a) }) = r
  simp only [Ins.c] at hgR ⊢
  refine R_i [(15, 15), (17, 17), (23, 23)] [] c25_ok rfl (by simp) ?_
  simp -implicitDefEqProofs (maxSteps := 2000000) only [c25, ↓reduceIte, s_ops0, s_seq, s_opsK, s_seqK_n, s_nil, s_cons, s_wopsK, s_putK, o_mv, v_part_t, v_part_f, v_atK, o_bx, o_ld, v_ld_p, v_ldC, e_t, e_put, e_get, e_res, e_keep_n, e_keep_c, e_keep1_s, St.init, enum, List.length_nil, List.length_cons, Option.getD_some, Nat.reduceEqDiff, Nat.reduceAdd, reduceCtorEq, true_and, Bool.false_eq_true, List.map_cons, List.map_nil, PV.leaves, List.flatMap_cons, List.flatMap_nil, List.append_nil, Bool.true_and, Nat.reduceBEq, Nat.reduceLeDiff, Nat.le_refl, List.drop_zero, List.take_succ_cons, List.take_nil, List.getElem?_cons_zero, kc_i, kc_s, rl_i, rl_s, kc_p, kc_l, m_lf, m_ag, m_n, m_c, m_all, d_n, d_c, Nat.zero_add, o_cald, v_bx_a, kc_rp, v_ld_r]
  refine wcald_i hg rfl hgR rfl ?_
  simp -implicitDefEqProofs (maxSteps := 2000000) only [c25, hp, ↓reduceIte, s_cons, s_wopsK, e_t, e_put, e_get, Option.getD_some, Nat.reduceEqDiff, reduceCtorEq, Bool.false_eq_true, St.clr, outV, ownsV, owns1, ownL, List.map_cons, List.map_nil, PV.leaves, List.flatMap_cons, List.flatMap_nil, List.append_nil, List.cons_append, List.nil_append, List.getElem?_cons_zero, Option.bind_some, m_lf, dw_n, dw_i, dw_s, dw_p, ol_fn, ta_p, ta_fn, dw_fn0, pc_p, o_callp, v_callp]
  refine pcall_i h22 rfl rfl ?_
  simp -implicitDefEqProofs (maxSteps := 2000000) only [c25, ↓reduceIte, s_ops0, s_cond, s_opsK, s_seqK_n, s_cnd, s_nil, s_cons, s_wopsK, s_wopsqK, s_putK, s_qnil, s_qcons, q_mv, q_bin, q_fa, q_ld, q_nc, o_mv, o_bin, v_add, v_part_f, v_atK, o_fa, v_fa_p, o_ld, v_ld_p, v_ldC, o_st, v_st_p, v_stCK, o_nc, v_nc_p, e_t, e_k, e_put, e_get, e_res, e_keep_n, e_keep_c, e_keep1_s, List.length_nil, List.length_cons, Option.getD_some, Nat.reduceEqDiff, Nat.reduceAdd, reduceCtorEq, true_and, and_true, Bool.false_eq_true, s_ret_n, s_retX, s_cells_n, t_tp, t_n, t_ln, t_lc, t_i, t_s, t_l, t_oo, t_rr, r_n, outV, ownsV, owns1, ownL, List.map_cons, List.map_nil, List.cons_append, List.nil_append, List.all_cons, List.all_nil, Bool.and_true, Bool.true_and, Bool.and_self, PV.cells, cellL, fillL, Nat.reduceMul, Nat.reduceLeDiff, BEq.rfl, List.take_zero, List.drop_zero, List.take_succ_cons, List.drop_succ_cons, List.getElem?_cons_zero, List.getElem?_cons_succ, ol_b, m_lf, m_ag, m_n, m_c, st_i1, d_n, d_c, Nat.lt_add_one, Nat.zero_add, true_or, or_true, fc_i, fc_s, fc_lr, fc_lo, kl_i, kl_s, kl_p, kl_lr, kl_lo, kl_fn, kf_s, cp_st, s_reg, s_cells_c, t_some, isC, cplc, Nat.reduceMod, Nat.reduceDiv, one_0, kl_rp]
  with_reducible refine ite_pr (fun h1 => ?_) (fun h1 => ?_)
  · rw [if_pos h1] at hr
    subst hr
    simp
  · rw [if_neg h1] at hr
    subst hr
    simp
/-- how far a span goes -/
def spanN (k : MC) (G : Int → Bool) : Nat → Int → Int
  | 0, a => a
  | n + 1, a => if (decide (a < (k.s.size : Int)) && G (byteAt k.s a)) = true then spanN k G n (a + 1) else a
theorem r26 (k : MC) (m : MS) (x : Ins) (g f : Nat) (cp : List L) (G : Int → Bool) (hg : fnOK Tryd.prog g = true) (hgR : R X Tryd.prog g [.ag x.c] [] (.lf (.fn f [] cp)) []) (hf : fnOK Tryd.prog f = true) (hp : pureL [] cp = true) (hG : ∀ b : Int, 0 ≤ b → b ≤ 255 → R X Tryd.prog f ([.lf (.int .u8 b)] ++ cp.map (fun x => .lf x)) [] (.lf (.bool (G b))) [])
    (ha : 0 ≤ m.at') (hs : k.s.size ≤ 65536) (n : Nat) (hn : (k.s.size : Int) - m.at' < n) : R X Tryd.prog 26 [.lf (.ptr 0 0), .ag x.c, .lf (.rp [.fn g [] []] 0)] [mst k m] (.tp []) [mst k { m with at' := spanN k G n m.at', pc := W (m.pc + 1) }] := by
  obtain ⟨pc, a, st, lg, kind, steps, rs, rn, bad⟩ := m
  simp only at ha hn
  simp only [Ins.c] at hgR ⊢
  have key : ∀ (Q : Out → St → Prop) (e : Int), (Q .nrm { m := 1, tm := [(0, PV.lf (L.ptr 0 0)), (5, PV.lf (L.fn f [] cp)), (11, PV.lf (L.bool false))], ce := [(0, mst k ⟨pc, e, st, lg, kind, steps, rs, rn, bad⟩)] }) → ∀ (n : Nat) (a : Int) (ce : List (Nat × List L)), 0 ≤ a → (k.s.size : Int) - a < n → spanN k G n a = e → ce = [(0, mst k ⟨pc, a, st, lg, kind, steps, rs, rn, bad⟩), (0, mst k ⟨pc, a, st, lg, kind, steps, rs, rn, bad⟩)] →
      LoopAt X Tryd.prog c26_3 [0, 5] (blkK 0 Q) { m := 1, tm := [(0, PV.lf (L.ptr 0 0)), (5, PV.lf (L.fn f [] cp))], ce := ce } := by
    intro Q e hQ n
    induction n with
    | zero =>
      intro a ce ha hn hr hce
      subst hce
      simp only [spanN] at hr
      subst hr
      have h22 := r22 (X := X) k ⟨pc, a, st, lg, kind, steps, rs, rn, bad⟩ f cp G hf hp hG ha
      have hs0 : seesB k G ⟨pc, a, st, lg, kind, steps, rs, rn, bad⟩ = false := by
        unfold seesB
        have : ¬ a < (k.s.size : Int) := by omega
        simp [this]
      rw [hs0] at h22
      intro Z hZ; apply hZ
      simp -implicitDefEqProofs (maxSteps := 2000000) only [c26, hp, ↓reduceIte, s_ops0, s_seq, s_cons, s_wopsK, o_mv, e_t, e_put, e_get, Option.getD_some, Nat.reduceEqDiff, reduceCtorEq, List.map_cons, List.map_nil, PV.leaves, List.flatMap_cons, List.flatMap_nil, List.append_nil, List.cons_append, List.nil_append, List.getElem?_cons_zero, Option.bind_some, m_lf, dw_n, dw_p, ta_p, ta_fn, dw_fn0, pc_p, o_callp, v_callp]
      refine pcall_i h22 rfl rfl ?_
      simp -implicitDefEqProofs (maxSteps := 2000000) only [c26, hp, ↓reduceIte, s_exit, s_cond, s_opsK, s_seqK_n, s_seqK_e, s_blkK_e, s_loopK_e, s_cnd, s_nil, s_wopsK, e_t, e_put, e_get, e_res, e_keep_n, e_keep_c, e_keep1_s, Option.getD_some, Nat.reduceEqDiff, Nat.reduceAdd, reduceCtorEq, Bool.false_eq_true, outV, ownsV, owns1, ownL, List.map_cons, List.map_nil, Bool.and_self, Nat.reduceMul, BEq.rfl, ol_b, m_lf, m_n, m_c, d_n, d_c, Nat.zero_add, fc_i, fc_s, fc_lr, fc_lo, kl_i, kl_s, kl_p, kl_lr, kl_lo, kl_fn, kf_s, cp_st, isC, cplc, Nat.reduceMod, Nat.reduceDiv]
      exact hQ
    | succ n ih =>
      intro a ce ha hn hr hce
      subst hce
      simp only [spanN] at hr
      have h22 := r22 (X := X) k ⟨pc, a, st, lg, kind, steps, rs, rn, bad⟩ f cp G hf hp hG ha
      have hsb : seesB k G ⟨pc, a, st, lg, kind, steps, rs, rn, bad⟩ = (decide (a < (k.s.size : Int)) && G (byteAt k.s a)) := rfl
      rw [hsb] at h22
      cases hb : (decide (a < (k.s.size : Int)) && G (byteAt k.s a)) with
      | false =>
        rw [hb] at h22 hr
        rw [if_neg (by decide)] at hr
        subst hr
        intro Z hZ; apply hZ
        simp -implicitDefEqProofs (maxSteps := 2000000) only [c26, hp, ↓reduceIte, s_ops0, s_seq, s_cons, s_wopsK, o_mv, e_t, e_put, e_get, Option.getD_some, Nat.reduceEqDiff, reduceCtorEq, List.map_cons, List.map_nil, PV.leaves, List.flatMap_cons, List.flatMap_nil, List.append_nil, List.cons_append, List.nil_append, List.getElem?_cons_zero, Option.bind_some, m_lf, dw_n, dw_p, ta_p, ta_fn, dw_fn0, pc_p, o_callp, v_callp]
        refine pcall_i h22 rfl rfl ?_
        simp -implicitDefEqProofs (maxSteps := 2000000) only [c26, hp, ↓reduceIte, s_exit, s_cond, s_opsK, s_seqK_n, s_seqK_e, s_blkK_e, s_loopK_e, s_cnd, s_nil, s_wopsK, e_t, e_put, e_get, e_res, e_keep_n, e_keep_c, e_keep1_s, Option.getD_some, Nat.reduceEqDiff, Nat.reduceAdd, reduceCtorEq, Bool.false_eq_true, outV, ownsV, owns1, ownL, List.map_cons, List.map_nil, Bool.and_self, Nat.reduceMul, BEq.rfl, ol_b, m_lf, m_n, m_c, d_n, d_c, Nat.zero_add, fc_i, fc_s, fc_lr, fc_lo, kl_i, kl_s, kl_p, kl_lr, kl_lo, kl_fn, kf_s, cp_st, isC, cplc, Nat.reduceMod, Nat.reduceDiv]
        exact hQ
      | true =>
        rw [hb] at h22 hr
        rw [if_pos rfl] at hr
        have hlt : a < (k.s.size : Int) := by simp only [Bool.and_eq_true, decide_eq_true_eq] at hb; exact hb.1
        have w1 : IntKind.i64.wrap (a + 1) = a + 1 := w64 (by omega) (by omega)
        intro Z hZ; apply hZ
        simp -implicitDefEqProofs (maxSteps := 2000000) only [c26, hp, ↓reduceIte, s_ops0, s_seq, s_cons, s_wopsK, o_mv, e_t, e_put, e_get, Option.getD_some, Nat.reduceEqDiff, reduceCtorEq, List.map_cons, List.map_nil, PV.leaves, List.flatMap_cons, List.flatMap_nil, List.append_nil, List.cons_append, List.nil_append, List.getElem?_cons_zero, Option.bind_some, m_lf, dw_n, dw_p, ta_p, ta_fn, dw_fn0, pc_p, o_callp, v_callp]
        refine pcall_i h22 rfl rfl ?_
        simp -implicitDefEqProofs (maxSteps := 2000000) only [c26, hp, w1, ↓reduceIte, s_skip, s_ops0, s_cond, s_block, s_opsK, s_seqK_n, s_blkK_n, s_loopK_n, s_cnd, s_nil, s_cons, s_wopsK, s_putK, o_mv, o_bin, v_add, v_part_f, v_atK, o_fa, v_fa_p, o_ld, v_ld_p, v_ldC, o_st, v_st_p, v_stCK, o_nc, v_nc_p, e_t, e_k, e_put, e_get, e_res, e_keep_n, e_keep_c, e_keep1_s, List.length_nil, List.length_cons, Option.getD_some, Nat.reduceEqDiff, Nat.reduceAdd, reduceCtorEq, true_and, Bool.false_eq_true, outV, ownsV, owns1, ownL, List.map_cons, List.map_nil, List.cons_append, List.nil_append, List.all_cons, List.all_nil, Bool.true_and, Bool.and_self, PV.cells, cellL, fillL, Nat.reduceMul, Nat.reduceLeDiff, BEq.rfl, List.take_zero, List.drop_zero, List.take_succ_cons, List.drop_succ_cons, List.getElem?_cons_zero, List.getElem?_cons_succ, ol_b, m_lf, m_n, m_c, e_head, e_headK, kC_n, kC_c, pO_n, pO_p, st_i1, d_n, d_c, Nat.zero_add, fc_i, fc_s, fc_lr, fc_lo, kl_i, kl_s, kl_p, kl_lr, kl_lo, kl_fn, kf_s, cp_st, pO_fn, isC, cplc, Nat.reduceMod, Nat.reduceDiv, rg_1]
        exact ih (a + 1) _ (by omega) (by omega) hr rfl Z hZ
  refine R_i [(15, 15), (17, 17), (23, 23)] [] c26_ok rfl (by simp) ?_
  simp -implicitDefEqProofs (maxSteps := 2000000) only [c26, ↓reduceIte, s_ops0, s_seq, s_opsK, s_seqK_n, s_nil, s_cons, s_wopsK, s_putK, v_part_t, v_part_f, v_atK, o_bx, o_ld, v_ld_p, v_ldC, e_t, e_put, e_get, e_res, e_keep_n, e_keep_c, e_keep1_s, St.init, enum, List.length_nil, List.length_cons, Option.getD_some, Nat.reduceEqDiff, Nat.reduceAdd, reduceCtorEq, true_and, Bool.false_eq_true, List.map_cons, List.map_nil, PV.leaves, List.flatMap_cons, List.flatMap_nil, List.append_nil, Bool.true_and, Nat.reduceBEq, Nat.reduceLeDiff, Nat.le_refl, List.drop_zero, List.take_succ_cons, List.take_nil, List.getElem?_cons_zero, kc_i, kc_s, rl_i, rl_s, kc_p, kc_l, m_lf, m_ag, m_n, m_c, m_all, d_n, d_c, Nat.zero_add, o_cald, v_bx_a, kc_rp, v_ld_r]
  refine wcald_i hg rfl hgR rfl ?_
  simp -implicitDefEqProofs (maxSteps := 2000000) only [c26, hp, ↓reduceIte, s_block, s_loop, s_opsK, s_seqK_n, s_nil, s_cons, s_wopsK, o_as, e_t, e_put, e_get, e_res, e_keep_n, e_keep_c, e_keep1_s, Option.getD_some, reduceCtorEq, Bool.false_eq_true, St.clr, outV, ownsV, owns1, ownL, List.cons_append, List.nil_append, m_lf, e_head, e_headK, kC_n, kC_c, pO_n, pO_p, dw_n, dw_i, dw_s, ol_fn, pO_fn, e_asg_fn, rg_1]
  refine key _ (spanN k G n a) ?_ n a _ ha hn rfl rfl
  simp -implicitDefEqProofs (maxSteps := 2000000) only [c26, ↓reduceIte, s_ops0, s_opsK, s_seqK_n, s_nil, s_cons, s_wopsK, s_putK, o_mv, o_bin, v_add, v_part_f, v_atK, o_fa, v_fa_p, o_ld, v_ld_p, v_ldC, o_st, v_st_p, v_stCK, o_nc, v_nc_p, e_t, e_k, e_put, e_get, e_res, e_keep_n, List.length_nil, List.length_cons, Option.getD_some, Nat.reduceEqDiff, Nat.reduceAdd, true_and, and_true, s_ret_n, s_retX, s_cells_n, t_tp, t_n, t_ln, t_lc, t_i, t_s, t_l, t_oo, t_rr, r_n, List.cons_append, List.nil_append, List.all_cons, List.all_nil, Bool.and_true, Bool.true_and, Bool.and_self, PV.cells, cellL, fillL, Nat.reduceLeDiff, List.take_zero, List.drop_zero, List.take_succ_cons, List.drop_succ_cons, List.getElem?_cons_zero, List.getElem?_cons_succ, st_i1, d_n, d_c, Nat.lt_add_one, Nat.zero_add, true_or, or_true, s_cells_c, t_some, one_0]
  done
end Go.Proofs.YtkmhoholblbbfaaDoor.M
set_option linter.unusedVariables false
set_option linter.unusedSimpArgs false
namespace Go.Proofs.YtkmhoholblbbfaaDoor.M
open Go Go.Proofs.YtkmhoholblbbfaaDoor.AM
variable {X : Cx}
abbrev fnc (f : Nat) : L := .fn f [] []
theorem i8 : Int.toNat 8 = 8 := rfl
theorem i9 : Int.toNat 9 = 9 := rfl
theorem i10 : Int.toNat 10 = 10 := rfl
theorem i11 : Int.toNat 11 = 11 := rfl
theorem i12 : Int.toNat 12 = 12 := rfl
theorem i13 : Int.toNat 13 = 13 := rfl
theorem i14 : Int.toNat 14 = 14 := rfl
theorem i15 : Int.toNat 15 = 15 := rfl
theorem i16 : Int.toNat 16 = 16 := rfl
theorem i17 : Int.toNat 17 = 17 := rfl
theorem i18 : Int.toNat 18 = 18 := rfl
theorem i19 : Int.toNat 19 = 19 := rfl
theorem i20 : Int.toNat 20 = 20 := rfl
abbrev tk (g : Nat) : L := .fn 21 [] [.rp [fnc g] 0]
abbrev ts (g : Nat) : L := .fn 25 [] [.rp [fnc g] 0]
abbrev spn : L := .fn 26 [] [.rp [fnc 18] 0]
theorem pl_rp {cs : List L} {o : Nat} : pureL [] [.rp cs o] = true := rfl
/-- what each kind of instruction does -/
abbrev tab0 : List L := [.nilf, tk 14, tk 16, tk 18, ts 14, ts 16, ts 18, spn, .nilf, .nilf, .nilf, .nilf, .nilf, .nilf, .nilf, .nilf, .nilf, .nilf, .nilf, .nilf, .nilf]
abbrev tab1 : List L := [.nilf, tk 14, tk 16, tk 18, ts 14, ts 16, ts 18, spn, fnc 31, fnc 33, fnc 35, fnc 36, fnc 37, fnc 38, fnc 39, fnc 40, fnc 41, fnc 42, .nilf, .nilf, .nilf]
abbrev tab2 : List L := [.nilf, tk 14, tk 16, tk 18, ts 14, ts 16, ts 18, spn, fnc 31, fnc 33, fnc 35, fnc 36, fnc 37, fnc 38, fnc 39, fnc 40, fnc 41, fnc 42, fnc 43, fnc 45, fnc 46]
theorem r27 (k cap : Nat) : R X Tryd.prog 27 [.lf (.sl 0 0 1 21 cap)] [tab0 ++ List.replicate k .undef] (.tp []) [tab1 ++ List.replicate k .undef] := by
  refine R_i [] [] c27_ok rfl (by simp) ?_
  simp -implicitDefEqProofs (maxSteps := 2000000) only [c27, v_ia_s, i8, i9, i10, i11, i12, i13, i14, i15, i16, i17, Nat.zero_add, Nat.mul_one, t_f, pl_rp, pl_nn, ↓reduceIte, s_ops0, s_seq, s_opsK, s_seqK_n, s_nil, s_cons, s_wopsK, s_putK, o_mv, o_ia, o_st, v_st_p, v_stCK, e_t, e_k, e_put, e_get, e_res, e_keep_n, e_keep_c, e_keep1_s, St.init, enum, List.length_nil, List.length_cons, Option.getD_some, Nat.reduceAdd, reduceCtorEq, true_and, and_true, s_ret_n, s_retX, s_cells_n, t_tp, t_n, t_lc, r_n, List.cons_append, List.nil_append, List.all_cons, List.all_nil, Bool.and_true, Bool.true_and, Bool.and_self, PV.cells, cellL, fillL, Nat.reduceLeDiff, List.take_zero, List.drop_zero, List.take_succ_cons, List.drop_succ_cons, d_n, d_c, List.length_replicate, Nat.reduceLT, Nat.lt_add_one, Nat.zero_add, pl_nn, st_fn1, t_f, s_cells_c, t_some, one_0, v_ia_s, lv_rep, t_nf]
  simp
theorem r28 (k cap : Nat) : R X Tryd.prog 28 [.lf (.sl 0 0 1 21 cap)] [tab1 ++ List.replicate k .undef] (.tp []) [tab2 ++ List.replicate k .undef] := by
  refine R_i [] [] c28_ok rfl (by simp) ?_
  simp -implicitDefEqProofs (maxSteps := 2000000) only [c28, v_ia_s, i18, i19, i20, Nat.zero_add, Nat.mul_one, t_f, pl_rp, pl_nn, ↓reduceIte, s_ops0, s_seq, s_opsK, s_seqK_n, s_nil, s_cons, s_wopsK, s_putK, o_mv, o_ia, o_st, v_st_p, v_stCK, e_t, e_k, e_put, e_get, e_res, e_keep_n, e_keep_c, e_keep1_s, St.init, enum, List.length_nil, List.length_cons, Option.getD_some, Nat.reduceAdd, reduceCtorEq, true_and, and_true, s_ret_n, s_retX, s_cells_n, t_tp, t_n, t_lc, r_n, List.cons_append, List.nil_append, List.all_cons, List.all_nil, Bool.and_true, Bool.true_and, Bool.and_self, PV.cells, cellL, fillL, Nat.reduceLeDiff, List.take_zero, List.drop_zero, List.take_succ_cons, List.drop_succ_cons, d_n, d_c, List.length_replicate, Nat.reduceLT, Nat.lt_add_one, Nat.zero_add, pl_nn, st_fn1, t_f, s_cells_c, t_some, one_0, v_ia_s, lv_rep, t_nf]
  simp
theorem v_msK {σ : St} {t e n bytes : Nat} {zero : List L} {k k' : IntKind} {l c : Int} {K : St → Prop} : msK σ t e n bytes zero (.lf (.int k l)) (.lf (.int k' c)) K = (zero.length = n ∧ (0 ≤ l ∧ l ≤ c ∧ c * bytes ≤ 140737488355328 ∧ c ≤ 9223372036854775807) ∧ K ((σ.mapAll (killP (plT t 0))).put (some t) (.lf (.lst (.own (plT t 0) e) n (List.replicate l.toNat zero) (List.replicate (c - l).toNat zero))))) := rfl
theorem p_1fn {f : Nat} {a b : List L} : ptr1 (some (.lf (.fn f a b))) = none := rfl
theorem k_fn {σ0 σ' : St} {t f : Nat} {a b : List L} : keepO σ0 σ' t (some (.lf (.fn f a b))) = True := rfl
theorem wx1 {o : Nat} {vs : List L} {a0 a1 : List L} {r : List (List L)} : wrX 1 o vs (a0 :: a1 :: r) = a0 :: fillL a1 o vs :: r := rfl
theorem j1 : Int.toNat 1 = 1 := rfl
theorem wx2 {o : Nat} {vs : List L} {a0 a1 a2 : List L} {r : List (List L)} : wrX 2 o vs (a0 :: a1 :: a2 :: r) = a0 :: a1 :: fillL a2 o vs :: r := rfl
theorem j2 : Int.toNat 2 = 2 := rfl
theorem wx3 {o : Nat} {vs : List L} {a0 a1 a2 a3 : List L} {r : List (List L)} : wrX 3 o vs (a0 :: a1 :: a2 :: a3 :: r) = a0 :: a1 :: a2 :: fillL a3 o vs :: r := rfl
theorem j3 : Int.toNat 3 = 3 := rfl
theorem wx4 {o : Nat} {vs : List L} {a0 a1 a2 a3 a4 : List L} {r : List (List L)} : wrX 4 o vs (a0 :: a1 :: a2 :: a3 :: a4 :: r) = a0 :: a1 :: a2 :: a3 :: fillL a4 o vs :: r := rfl
theorem j4 : Int.toNat 4 = 4 := rfl
theorem wx5 {o : Nat} {vs : List L} {a0 a1 a2 a3 a4 a5 : List L} {r : List (List L)} : wrX 5 o vs (a0 :: a1 :: a2 :: a3 :: a4 :: a5 :: r) = a0 :: a1 :: a2 :: a3 :: a4 :: fillL a5 o vs :: r := rfl
theorem j5 : Int.toNat 5 = 5 := rfl
theorem wx6 {o : Nat} {vs : List L} {a0 a1 a2 a3 a4 a5 a6 : List L} {r : List (List L)} : wrX 6 o vs (a0 :: a1 :: a2 :: a3 :: a4 :: a5 :: a6 :: r) = a0 :: a1 :: a2 :: a3 :: a4 :: a5 :: fillL a6 o vs :: r := rfl
theorem j6 : Int.toNat 6 = 6 := rfl
theorem wx7 {o : Nat} {vs : List L} {a0 a1 a2 a3 a4 a5 a6 a7 : List L} {r : List (List L)} : wrX 7 o vs (a0 :: a1 :: a2 :: a3 :: a4 :: a5 :: a6 :: a7 :: r) = a0 :: a1 :: a2 :: a3 :: a4 :: a5 :: a6 :: fillL a7 o vs :: r := rfl
theorem j7 : Int.toNat 7 = 7 := rfl
theorem wsnil {i o n : Nat} {vs : List L} : wrS i o vs n [] = [] := by unfold wrS; split <;> simp
theorem fn20 : fnOK Tryd.prog 20 = true := by kernel_rfl
theorem fn24 : fnOK Tryd.prog 24 = true := by kernel_rfl
theorem r9 : R X Tryd.prog 9 [] [] (.lf (.lst (.own 0 52) 1 (tab2.map fun v => [v]) [])) [] := by
  refine R_i [(0, 0)] [] c9_ok rfl (by simp) ?_
  have i21 : Int.toNat 21 = 21 := rfl
  have e21 : List.replicate 21 [L.nilf] = [[L.nilf], [L.nilf], [L.nilf], [L.nilf], [L.nilf], [L.nilf], [L.nilf], [L.nilf], [L.nilf], [L.nilf], [L.nilf], [L.nilf], [L.nilf], [L.nilf], [L.nilf], [L.nilf], [L.nilf], [L.nilf], [L.nilf], [L.nilf], [L.nilf]] := rfl
  have e0 : List.replicate ((21 : Int) - 21).toNat [L.nilf] = [] := rfl
  have e0' : List.replicate (21 - 21) [L.nilf] = [] := rfl
  simp -implicitDefEqProofs (maxSteps := 2000000) only [c9, v_msK, i21, e21, e0, e0', p_1fn, k_fn, List.contains_cons, List.contains_nil, ↓reduceIte, s_ops0, s_seq, s_opsK, s_seqK_n, s_nil, s_cons, s_wopsK, s_putK, o_as, v_part_f, v_atK, o_al, o_ld, v_ld_p, v_ldC, o_st, v_st_p, v_stCK, o_ms, e_t, e_k, e_put, e_get, e_res, e_keep_n, e_keep_c, e_keep1_s, St.init, enum, List.length_nil, List.length_cons, Option.getD_some, Nat.reduceEqDiff, true_and, Bool.false_eq_true, List.map_cons, List.map_nil, List.any_nil, Bool.or_false, Bool.or_self, PV.leaves, List.flatMap_cons, List.flatMap_nil, List.append_nil, List.nil_append, List.all_cons, List.all_nil, Bool.true_and, Bool.and_self, PV.cells, cellL, fillL, Nat.reduceMul, Nat.reduceBEq, Nat.zero_le, Nat.le_refl, BEq.rfl, List.take_zero, List.drop_succ_cons, List.drop_nil, List.getElem?_cons_zero, kc_l, rk_lo, m_lf, m_n, m_c, m_all, e_asg_n, e_asg_o, d_n, d_c, plT, Nat.zero_add, Nat.add_zero, or_false, kc_fn, rl_fn, pl_nn, e_asg_fn, st_fn1, o_cald, s_gdr, s_gn, s_gc, s_gK, s_gE, s_r2, g_D, g_O, g_ev, p_n, p_c, p_cs, p_cn, p_1, p_1l, c_n, c_c, c_cs, cg_st, cg_p, cg_u, cg_l, cg_fn, s_gms, s_gmn, mo_mv, mo_ld, p_1fn]
  refine ⟨⟨by decide, by decide, by decide, by decide⟩, rfl, wcald_i fn20 rfl (r20 14) rfl ?_⟩
  simp -implicitDefEqProofs (maxSteps := 2000000) only [c9, p_1fn, k_fn, pl_rp, ↓reduceIte, e_t, e_put, e_get, Option.getD_some, Nat.reduceEqDiff, true_and, and_true, Bool.false_eq_true, St.clr, outV, ownsV, owns1, ownL, List.map_cons, List.map_nil, PV.leaves, List.flatMap_cons, List.flatMap_nil, List.append_nil, Bool.and_true, Bool.true_and, m_lf, dw_n, rl_fn, ol_fn, pl_nn, dw_fn0, o_cald, s_r2, s_rK, k_n, k_c, k_p, k_l, k_fn]
  refine wcald_i fn20 rfl (r20 16) rfl ?_
  simp -implicitDefEqProofs (maxSteps := 2000000) only [c9, p_1fn, k_fn, pl_rp, ↓reduceIte, e_t, e_put, e_get, Option.getD_some, Nat.reduceEqDiff, true_and, and_true, Bool.false_eq_true, St.clr, outV, ownsV, owns1, ownL, List.map_cons, List.map_nil, PV.leaves, List.flatMap_cons, List.flatMap_nil, List.append_nil, Bool.and_true, Bool.true_and, m_lf, dw_n, rl_fn, ol_fn, pl_nn, dw_fn0, o_cald, s_r2, s_rK, k_n, k_c, k_p, k_l, k_fn]
  refine wcald_i fn20 rfl (r20 18) rfl ?_
  simp -implicitDefEqProofs (maxSteps := 2000000) only [c9, p_1fn, k_fn, pl_rp, List.contains_cons, List.contains_nil, wsnil, wx1, wx2, wx3, wx4, wx5, wx6, wx7, j1, j2, j3, j4, j5, j6, j7, List.mem_cons, List.not_mem_nil, or_false, forall_eq, reduceCtorEq, not_false_eq_true, ↓reduceIte, s_seq, s_opsK, s_seqK_n, s_putK, v_part_f, v_atK, o_ia, v_ia, o_ld, v_ld_p, v_ldC, o_st, v_st_e, e_t, e_k, e_put, e_get, e_res, e_keep_n, e_keep_c, e_keep1_s, List.length_nil, List.length_cons, Option.getD_some, Nat.reduceEqDiff, Nat.reduceAdd, reduceCtorEq, true_and, and_true, Bool.false_eq_true, St.clr, outV, ownsV, owns1, ownL, List.map_cons, List.map_nil, Bool.or_false, PV.leaves, List.flatMap_cons, List.flatMap_nil, List.append_nil, List.nil_append, List.all_cons, List.all_nil, Bool.and_true, Bool.true_and, Bool.and_self, PV.cells, cellL, datL, placeOf, fillL, Nat.le_refl, BEq.rfl, List.take_zero, List.drop_succ_cons, List.drop_nil, List.getElem?_cons_zero, wr_p, wr_lo, m_lf, m_n, m_c, m_all, dw_n, ne_eq, not_false_eq_true, Nat.reduceLT, Nat.zero_add, or_false, rl_fn, ol_fn, wr_fn, pl_nn, dw_fn0, o_cald, s_gdr, s_gn, s_gc, s_gK, s_gE, s_r1, s_r2, s_rF, s_rK, g_D, g_O, g_ev, p_n, p_c, p_cs, p_cn, p_1, p_1l, c_n, c_c, c_cs, cg_st, cg_p, cg_u, cg_l, cg_fn, k_n, k_c, k_p, k_l, s_gms, s_gmn, mo_mv, mo_ld, p_1fn, k_fn]
  refine ⟨by decide, by decide, by decide, rfl, wcald_i fn24 rfl (r24 14) rfl ?_⟩
  simp -implicitDefEqProofs (maxSteps := 2000000) only [c9, p_1fn, k_fn, pl_rp, ↓reduceIte, e_t, e_put, e_get, Option.getD_some, Nat.reduceEqDiff, true_and, and_true, Bool.false_eq_true, St.clr, outV, ownsV, owns1, ownL, List.map_cons, List.map_nil, PV.leaves, List.flatMap_cons, List.flatMap_nil, List.append_nil, Bool.and_true, Bool.true_and, m_lf, dw_n, rl_fn, ol_fn, pl_nn, dw_fn0, o_cald, s_r2, s_rK, k_n, k_c, k_p, k_l, k_fn]
  refine wcald_i fn24 rfl (r24 16) rfl ?_
  simp -implicitDefEqProofs (maxSteps := 2000000) only [c9, p_1fn, k_fn, pl_rp, ↓reduceIte, e_t, e_put, e_get, Option.getD_some, Nat.reduceEqDiff, true_and, and_true, Bool.false_eq_true, St.clr, outV, ownsV, owns1, ownL, List.map_cons, List.map_nil, PV.leaves, List.flatMap_cons, List.flatMap_nil, List.append_nil, Bool.and_true, Bool.true_and, m_lf, dw_n, rl_fn, ol_fn, pl_nn, dw_fn0, o_cald, s_r2, s_rK, k_n, k_c, k_p, k_l, k_fn]
  refine wcald_i fn24 rfl (r24 18) rfl ?_
  simp -implicitDefEqProofs (maxSteps := 2000000) only [c9, p_1fn, k_fn, pl_rp, List.contains_cons, List.contains_nil, wsnil, wx1, wx2, wx3, wx4, wx5, wx6, wx7, j1, j2, j3, j4, j5, j6, j7, List.mem_cons, List.not_mem_nil, or_false, forall_eq, reduceCtorEq, not_false_eq_true, ↓reduceIte, s_ops0, s_seq, s_opsK, s_seqK_n, s_cons, s_wopsK, s_putK, o_mv, o_ia, v_ia, o_st, v_st_e, e_t, e_k, e_put, e_get, e_res, e_keep_n, e_keep_c, e_keep1_s, List.length_nil, List.length_cons, Option.getD_some, Option.map_some, Nat.reduceEqDiff, Nat.reduceAdd, reduceCtorEq, true_and, and_true, Bool.false_eq_true, St.clr, outV, ownsV, owns1, ownL, List.map_cons, List.map_nil, Bool.or_false, List.append_nil, List.nil_append, List.all_cons, List.all_nil, Bool.and_true, Bool.true_and, Bool.and_self, PV.cells, cellL, datL, placeOf, fillL, Nat.le_refl, BEq.rfl, List.take_zero, List.drop_succ_cons, List.drop_nil, wr_p, wr_lo, m_lf, m_n, m_c, m_all, dw_n, dw_p, ne_eq, not_false_eq_true, Nat.reduceLT, Nat.zero_add, or_false, rl_fn, ol_fn, wr_fn, rc_p, dw_fn0, o_mkf, v_mkf, v_lf_n, v_lf_c, s_r1, s_r2, s_rF, s_rK, k_n, k_c, k_p, k_l, capL, k_fn]
  refine ⟨by decide, by decide, by decide, wmkf_f [4] ?_⟩
  simp -implicitDefEqProofs (maxSteps := 2000000) only [c9, p_1fn, k_fn, pl_rp, List.contains_cons, List.contains_nil, wsnil, wx1, wx2, wx3, wx4, wx5, wx6, wx7, j1, j2, j3, j4, j5, j6, j7, List.mem_cons, List.not_mem_nil, or_false, forall_eq, reduceCtorEq, not_false_eq_true, ↓reduceIte, s_ops0, s_seq, s_opsK, s_seqK_n, s_nil, s_cons, s_wopsK, s_putK, o_mv, o_ia, v_ia, o_st, v_st_e, o_call, e_t, e_k, e_put, e_get, e_res, e_keep_n, e_keep_c, e_keep1_s, List.length_nil, List.length_cons, Option.getD_some, Nat.reduceEqDiff, Nat.reduceAdd, reduceCtorEq, true_and, and_true, List.map_cons, List.map_nil, Bool.or_false, PV.leaves, List.flatMap_cons, List.flatMap_nil, List.append_nil, List.nil_append, List.all_cons, List.all_nil, Bool.and_true, Bool.true_and, Bool.and_self, PV.cells, cellL, datL, placeOf, fillL, Nat.zero_le, Nat.le_refl, BEq.rfl, List.take_zero, List.drop_succ_cons, List.drop_nil, wr_lo, rl_l, m_lf, m_n, m_c, m_all, d_n, d_c, dw_n, ne_eq, not_false_eq_true, Nat.reduceLT, Nat.zero_add, or_false, rl_fn, wr_fn, pl_nn, dw_fn0, wr_rp, fz_p, fz_lo, fz_fn, f1_p, fD_fn, wf_n, wf_c, wf_o, e_frz]
  refine ⟨by decide, wcall_w (ys := tab1.map fun v => [v]) 0 rfl (by simp) rfl (fun k cap => r27 k cap) (fun cap => rfl) rfl rfl rfl ?_⟩
  simp -implicitDefEqProofs (maxSteps := 2000000) only [c9, List.length_map, ↓reduceIte, s_ops0, s_seq, s_opsK, s_seqK_n, s_nil, s_cons, s_wopsK, o_mv, o_call, e_t, e_put, e_get, e_res, e_keep_n, e_keep_c, e_keep1_s, List.length_nil, List.length_cons, Option.getD_some, Nat.reduceEqDiff, Nat.reduceAdd, and_true, List.map_cons, List.map_nil, PV.leaves, List.flatMap_cons, List.flatMap_nil, List.append_nil, Bool.and_true, BEq.rfl, rl_l, m_lf, m_n, m_c, m_all, Nat.zero_add, uw_lo]
  refine wcall_w (ys := tab2.map fun v => [v]) 0 rfl (by simp) rfl (fun k cap => r28 k cap) (fun cap => rfl) rfl rfl rfl ?_
  simp -implicitDefEqProofs (maxSteps := 2000000) only [c9, ↓reduceIte, s_ret, s_ops0, s_seq, s_opsK, s_seqK_n, s_nil, s_cons, s_wopsK, o_mv, o_as, e_t, e_put, e_get, e_res, e_keep_n, e_keep_c, e_keep1_s, List.length_nil, List.length_cons, Option.getD_some, Nat.reduceEqDiff, Nat.reduceAdd, reduceCtorEq, true_and, and_true, Bool.false_eq_true, s_ret_r, s_retX, s_cells_n, t_lf, t_l, t_oo, r_n, r_t, r_cons, one_1, List.map_cons, List.map_nil, Bool.and_true, Bool.true_and, Nat.reduceMul, Nat.reduceBEq, BEq.rfl, rk_lo, m_lf, m_n, m_c, m_all, e_asg_o, plT, Nat.zero_add, Nat.add_zero, true_or, or_true, uw_lo]
  trace_state
  done
end Go.Proofs.YtkmhoholblbbfaaDoor.M
set_option linter.unusedVariables false
set_option linter.unusedSimpArgs false
namespace Go.Proofs.YtkmhoholblbbfaaDoor.M
open Go Go.Proofs.YtkmhoholblbbfaaDoor.AM
variable {X : Cx}
abbrev mstS (k : MC) (m : MS) (sq : List (List L)) : List L := [.lst .ro 9 k.code k.sp, .str k.s, .int .i64 k.l0, .int .i64 k.l1, .int .i64 k.l2, .int .i64 m.pc, .int .i64 m.at', .lst (.own 15 68) 4 (m.st.map Ent.c) sq, .lst (.own 17 63) 6 (m.lg.map Nt.c) [], .int .i64 m.kind, .int .i64 0, .lst (.own 23 63) 6 [] [], .int .i64 m.steps, .int .i64 m.rs, .int .i64 m.rn, .int .i64 m.bad]
/-- back to the last choice; the stack is told from its end -/
def failR : List Ent → MS → MS
  | [], m => { m with st := [], kind := 2 }
  | e :: r, m => if e.ret = true then failR r m else { m with st := r.reverse, pc := e.pc, at' := e.at', lg := m.lg.take e.no.toNat }
def failM (m : MS) : MS := failR m.st.reverse m
/-- the notes that choices tell lie in the log -/
def okS : List Ent → Nat → Prop
  | [], _ => True
  | e :: r, n => if e.ret = true then okS r n else 0 ≤ e.no ∧ e.no ≤ n ∧ okS r e.no.toNat
theorem okS_mono : ∀ (r : List Ent) (n n' : Nat), okS r n → n ≤ n' → okS r n'
  | [], _, _, _, _ => trivial
  | e :: r, n, n', h, hn => by
    simp only [okS] at h ⊢
    split
    · rename_i h1
      rw [if_pos h1] at h
      exact okS_mono r n n' h hn
    · rename_i h1
      rw [if_neg h1] at h
      exact ⟨h.1, by omega, h.2.2⟩
theorem r23 (k : MC) (m : MS) (h : m.st.length ≤ 1048576) (hs : okS m.st.reverse m.lg.length) : R X Tryd.prog 23 [.lf (.ptr 0 0)] [mst k m] (.tp []) [mst k (failM m)] := by
  obtain ⟨pc, a, st, lg, kind, steps, rs, rn, bad⟩ := m
  simp only at h hs
  have hl : (st.map Ent.c).length = st.length := List.length_map _
  have hlg : (lg.map Nt.c).length = lg.length := List.length_map _
  unfold failM
  generalize hres : failR _ _ = res
  simp only at hres
  generalize hrv : st.reverse = rv at hs hres
  have hst : st = rv.reverse := by rw [← hrv, List.reverse_reverse]
  have hrl : rv.length = st.length := by rw [← hrv, List.length_reverse]
  subst hst
  have key : ∀ (r : List Ent) (ce : List (Nat × List L)) (sq : List (List L)) (i : Int), okS r lg.length → r.length ≤ 1048576 → i = (r.length : Int) - 1 → failR r ⟨pc, a, rv.reverse, lg, kind, steps, rs, rn, bad⟩ = res → ce = [(0, mstS k ⟨pc, a, r.reverse, lg, kind, steps, rs, rn, bad⟩ sq), (0, mstS k ⟨pc, a, r.reverse, lg, kind, steps, rs, rn, bad⟩ sq)] →
      LoopAt X Tryd.prog c23_9 [0, 2] (blkK 0 (seqK X Tryd.prog (.ops 0 [⟨(some 53), .mv (.t 0), none⟩, ⟨(some 54), .nc (.t 53), none⟩, ⟨(some 55), .fa (.t 54) 9, none⟩, ⟨(some 56), .fa (.t 55) 0, none⟩, ⟨none, .st (.t 56) (.k (.lf (.int .i64 2))) 1, none⟩] []) (retS [(15, 15), (17, 17), (23, 23)] [] 1 [] (PV.tp []) [mst k res]))) { m := 1, tm := [(0, PV.lf (L.ptr 0 0)), (2, PV.lf (L.int .i64 i))], ce := ce } := by
    intro r
    induction r with
    | nil =>
      intro ce sq i _ _ hi hf hce
      subst hce
      simp only [failR] at hf
      subst hf
      have hi2 : i = -1 := by simpa using hi
      subst hi2
      have hm1 : ¬ (-1 : Int) ≥ 0 := by decide
      have hm2 : ¬ (0 : Int) ≤ -1 := by decide
      intro Z hZ; apply hZ
      simp -implicitDefEqProofs (maxSteps := 2000000) only [c23, hm1, hm2, decide_false, ↓reduceIte, s_exit, s_ops0, s_seq, s_cond, s_opsK, s_seqK_n, s_seqK_e, s_blkK_e, s_loopK_e, s_cnd, s_nil, s_cons, s_wopsK, s_putK, o_mv, o_bin, v_geq, o_fa, v_fa_p, o_st, v_st_p, v_stCK, o_nc, v_nc_p, e_t, e_k, e_put, e_get, e_res, e_keep_n, e_keep_c, e_keep1_s, List.length_nil, List.length_cons, Option.getD_some, Nat.reduceEqDiff, Nat.reduceAdd, reduceCtorEq, true_and, and_true, Bool.false_eq_true, s_ret_n, s_retX, s_cells_n, t_tp, t_n, t_ln, t_lc, t_i, t_s, t_l, t_oo, t_rr, r_n, List.map_nil, List.cons_append, List.nil_append, List.all_cons, List.all_nil, Bool.and_true, Bool.true_and, Bool.and_self, PV.cells, cellL, fillL, Nat.reduceLeDiff, List.take_zero, List.drop_zero, List.take_succ_cons, List.drop_succ_cons, st_i1, d_n, d_c, Int.reduceNeg, Nat.lt_add_one, Nat.zero_add, Nat.add_zero, true_or, or_true, s_cells_c, t_some, one_0]
      rfl
    | cons e r ih =>
      intro ce sq i hs hrl2 hi hf hce
      subst hce
      have hi2 : i = (r.length : Int) := by simp at hi; omega
      subst hi2
      have hge : (0 : Int) ≤ (r.length : Int) := by omega
      have hrm : (List.map Ent.c r.reverse).length = r.length := by simp
      have hg : (List.map Ent.c r.reverse ++ [e.c]).getD r.length [] = e.c := by simp [List.getD_eq_getElem?_getD]
      have htk : List.take r.length (List.map Ent.c r.reverse ++ [e.c]) = List.map Ent.c r.reverse := by rw [← hrm, List.take_left]
      have w1 : IntKind.i64.wrap ((r.length : Int) - 1) = (r.length : Int) - 1 := by
        have : r.length + 1 ≤ 1048576 := by simpa using hrl2
        exact w64 (by omega) (by omega)
      have htk2 : ∀ q, List.take r.length (List.map Ent.c r.reverse ++ e.c :: q) = List.map Ent.c r.reverse := fun q => by rw [← hrm, List.take_left]
      simp only [failR] at hf
      simp only [List.reverse_cons, List.map_append, List.map_cons, List.map_nil] at *
      simp only [okS] at hs
      intro Z hZ; apply hZ
      simp -implicitDefEqProofs (maxSteps := 2000000) only [c23, hge, hg, hrm, htk, htk2, v_ld_e, Int.toNat_natCast, decide_true, List.append_assoc, w1, ↓reduceIte, s_skip, s_ret, s_ops0, s_seq, s_cond, s_block, s_opsK, s_seqK_n, s_seqK_r, s_blkK_n, s_blkK_r, s_loopK_n, s_loopK_r, s_cnd, s_nil, s_cons, s_wopsK, s_putK, o_mv, o_as, o_bin, v_sub, v_geq, o_un, v_not, v_part_t, v_part_f, v_atK, o_al, o_fa, v_fa_p, o_ia, v_ia, o_ld, v_ld_p, v_ldC, o_st, v_st_p, v_stCK, o_nc, v_nc_p, o_sll, v_sll_b, e_t, e_k, e_put, e_get, e_res, e_keep_n, e_keep_c, e_keep1_s, e_asg_i, List.length_nil, List.length_cons, Option.getD_some, Option.map_some, Option.map_none, Nat.reduceEqDiff, Nat.reduceAdd, reduceCtorEq, true_and, and_true, Bool.not_true, Bool.not_false, Bool.false_eq_true, decide_eq_true_eq, s_ret_r, s_retX, s_cells_n, t_tp, t_n, t_ln, t_lc, t_i, t_s, t_l, t_oo, t_rr, r_n, ownsV, owns1, ownL, List.map_cons, List.map_nil, Bool.or_false, Bool.false_or, List.append_nil, List.cons_append, List.nil_append, List.all_cons, List.all_nil, Bool.and_true, Bool.true_and, Bool.and_self, PV.cells, cellL, fillL, Nat.reduceMul, Nat.reduceBEq, Nat.reduceLeDiff, Nat.le_refl, BEq.rfl, List.take_zero, List.drop_zero, List.take_succ_cons, List.drop_succ_cons, List.drop_nil, List.take_nil, List.getElem?_cons_zero, List.getElem?_cons_succ, kc_b, kc_i, kc_s, kc_p, kc_l, m_lf, m_ag, m_n, m_c, m_all, e_head, e_headK, kC_n, kC_c, pO_n, pO_p, pO_i, st_b, st_i1, st_lo, d_n, d_c, plC, List.map_append, List.length_append, Nat.lt_add_one, Nat.zero_add, Nat.add_zero, true_or, or_true, or_false, false_or, Bool.and_eq_true, Bool.or_eq_true, Bool.not_eq_eq_eq_not, kc_eo, s_cells_c, t_some, one_0, rg_1, s_gqF, pv_p, lk_mv, lk_fa, lk_nc, lk_ld, s_gds, s_gsn, s_gsc, s_gsK, s_gsE, s_gs1, s_gs2, s_gsT, lo_ldf, lo_p, so_st, so_p, ap_n, ap_c, lk_sll, lo_mv, lo_fa, so_fa, lo_nc, so_nc, lo_sll]
      refine ⟨by omega, ?_⟩
      with_reducible refine ite_pr (fun h1 => ?_) (fun h1 => ?_)
      · have h2 : ¬ e.ret = true := by rw [h1]; decide
        rw [if_neg h2] at hs hf
        subst hf
        obtain ⟨s1, s2, _⟩ := hs
        refine ⟨⟨s1, by rw [hlg]; omega⟩, ?_⟩
        simp [List.map_take]
      · have h2 : e.ret = true := by simpa using h1
        rw [if_pos h2] at hs hf
        exact ih _ _ _ hs (by simp at hrl2; omega) rfl hf rfl Z hZ
  refine R_i [(15, 15), (17, 17), (23, 23)] [] c23_ok rfl (by simp) ?_
  simp -implicitDefEqProofs (maxSteps := 2000000) only [c23, hl, ↓reduceIte, s_ops0, s_seq, s_block, s_loop, s_opsK, s_seqK_n, s_nil, s_cons, s_wopsK, s_putK, o_mv, o_as, o_bin, v_sub, v_part_f, v_atK, o_fa, v_fa_p, o_ld, v_ld_p, v_ldC, o_nc, v_nc_p, o_len, v_len, e_t, e_k, e_put, e_get, e_res, e_keep_n, e_keep_c, e_keep1_s, e_asg_i, St.init, enum, List.length_nil, List.length_cons, Option.getD_some, reduceCtorEq, List.cons_append, List.nil_append, List.getElem?_cons_zero, List.getElem?_cons_succ, e_head, e_headK, kC_n, kC_c, pO_n, pO_p, pO_i, Nat.zero_add, rg_1]
  intro _
  have w0 : IntKind.i64.wrap (((rv.reverse).length : Int) - 1) = ((rv.reverse).length : Int) - 1 := w64 (by omega) (by omega)
  rw [w0]
  exact key rv _ [] _ hs (by omega) (by rw [hrl]) hres rfl
def backM (x : Ins) (m : MS) : MS :=
  { popM false m |>.2 with at' := if (popM false m).2.bad = 0 then (popM false m).1.at' else (popM false m).2.at', lg := if (popM false m).2.bad = 0 then (popM false m).2.lg.take (popM false m).1.no.toNat else (popM false m).2.lg, pc := W ((popM false m).2.pc + x.a) }
theorem r36 (k : MC) (m : MS) (x : Ins) (h : m.st.length ≤ 1048576) (hs : okS m.st.reverse m.lg.length) (hb : m.bad = 0) : R X Tryd.prog 36 [.lf (.ptr 0 0), .ag x.c] [mst k m] (.tp []) [mst k (backM x m)] := by
  have h34 := r34 (X := X) k m false h
  have hno : (popM false m).2.bad = 0 → 0 ≤ (popM false m).1.no ∧ (popM false m).1.no.toNat ≤ (popM false m).2.lg.length := by
    unfold popM
    rcases List.eq_nil_or_concat m.st with hst | ⟨st', e, hst⟩
    · rw [hst]; simp
    · rw [hst] at hs ⊢
      simp only [List.concat_eq_append, List.getLast?_concat, List.reverse_append, List.reverse_cons, List.reverse_nil, List.nil_append, List.singleton_append, okS] at hs ⊢
      cases hr : e.ret with
      | true => simp
      | false =>
        rw [hr] at hs
        simp at hs ⊢
        intro _
        omega
  have hlg : ((popM false m).2.lg.map Nt.c).length = (popM false m).2.lg.length := List.length_map _
  generalize hr : backM x m = r
  unfold backM at hr
  simp only [Ins.c]
  refine R_i [(15, 15), (17, 17), (23, 23)] [] c36_ok rfl (by simp) ?_
  simp -implicitDefEqProofs (maxSteps := 2000000) only [c36, ↓reduceIte, s_ops0, s_seq, s_opsK, s_seqK_n, s_nil, s_cons, s_wopsK, o_mv, o_bx, e_t, e_k, e_put, e_get, e_res, e_keep_n, e_keep_c, e_keep1_s, St.init, enum, List.length_nil, List.length_cons, Option.getD_some, reduceCtorEq, true_and, Bool.false_eq_true, List.map_cons, List.map_nil, PV.leaves, List.flatMap_cons, List.flatMap_nil, List.append_nil, List.cons_append, List.nil_append, Bool.true_and, Nat.reduceBEq, Nat.reduceLeDiff, List.getElem?_cons_zero, Option.bind_some, kc_i, kc_s, kc_p, kc_l, m_lf, m_ag, m_n, m_c, m_all, d_n, d_c, dw_n, dw_b, dw_p, Nat.zero_add, ta_b, ta_p, pc_p, o_callp, v_callp, v_bx_a]
  refine pcall_i h34 rfl rfl ?_
  generalize popM false m = p at *
  simp -implicitDefEqProofs (maxSteps := 2000000) only [c36, hlg, ↓reduceIte, s_skip, s_ops0, s_seq, s_cond, s_opsK, s_seqK_n, s_cnd, s_nil, s_cons, s_wopsK, s_wopsqK, s_putK, s_qnil, s_qcons, q_mv, q_bin, q_fa, q_ld, q_nc, o_mv, o_bin, v_add, v_eql, v_part_f, v_atK, o_al, o_fa, v_fa_p, o_ld, v_ld_p, v_ldC, o_st, v_st_p, v_stCK, o_nc, v_nc_p, o_sll, v_sll_b, e_t, e_k, e_put, e_get, e_res, e_keep_n, e_keep_c, e_keep1_s, List.length_nil, List.length_cons, Option.getD_some, Option.map_some, Option.map_none, Nat.reduceEqDiff, Nat.reduceAdd, reduceCtorEq, true_and, and_true, Bool.not_true, Bool.not_false, Bool.false_eq_true, decide_eq_true_eq, s_ret_n, s_retX, s_cells_n, t_tp, t_n, t_ln, t_lc, t_i, t_s, t_l, t_oo, t_rr, r_n, outV, ownsV, owns1, ownL, List.map_cons, List.map_nil, List.any_cons, List.any_nil, Bool.or_false, Bool.false_or, Bool.or_self, List.append_nil, List.cons_append, List.nil_append, List.all_cons, List.all_nil, Bool.and_true, Bool.true_and, Bool.and_self, PV.cells, cellL, fillL, Nat.reduceMul, Nat.reduceBEq, Nat.reduceLeDiff, Nat.le_refl, BEq.rfl, List.take_zero, List.drop_zero, List.take_succ_cons, List.drop_succ_cons, List.drop_nil, List.getElem?_cons_zero, List.getElem?_cons_succ, kc_b, kc_i, kc_s, ol_b, ol_i, kc_p, kc_l, m_lf, m_ag, m_n, m_c, m_all, st_b, st_i1, st_lo, d_n, d_c, plC, Nat.lt_add_one, Nat.zero_add, Nat.add_zero, true_or, or_true, or_false, false_or, Bool.and_eq_true, Bool.or_eq_true, fc_i, fc_s, fc_lr, fc_lo, kl_i, kl_s, kl_p, kl_lr, kl_lo, kf_s, cp_st, s_reg, s_cells_c, t_some, isC, cplc, Nat.reduceMod, Nat.reduceDiv, one_0, s_gqF, pv_p, lk_mv, lk_fa, lk_nc, lk_ld, s_gds, s_gsn, s_gsc, s_gsK, s_gsE, s_gs1, s_gs2, s_gsT, lo_ldf, lo_p, so_st, so_p, ap_n, ap_c, lk_sll, lo_mv, lo_fa, so_fa, lo_nc, so_nc, lo_sll]
  with_reducible refine ite_pr (fun h1 => ?_) (fun h1 => ?_)
  · simp only [h1, if_true] at hr
    subst hr
    refine ⟨by have := hno h1; omega, ?_⟩
    simp [List.map_take, h1]
  · simp only [h1, if_false] at hr
    subst hr
    simp
def twiceM (m : MS) : MS := if (popM false m).2.bad = 0 then failM (popM false m).2 else (popM false m).2
theorem pop_ok (m : MS) (hs : okS m.st.reverse m.lg.length) (hb : (popM false m).2.bad = 0) (h0 : m.bad = 0) : okS (popM false m).2.st.reverse (popM false m).2.lg.length := by
  revert hb
  unfold popM
  rcases List.eq_nil_or_concat m.st with hst | ⟨st', e, hst⟩
  · rw [hst]; simp
  · rw [hst] at hs ⊢
    simp only [List.concat_eq_append, List.getLast?_concat, List.reverse_append, List.reverse_cons, List.reverse_nil, List.nil_append, List.singleton_append, okS, List.dropLast_concat] at hs ⊢
    cases hr : e.ret with
    | true => simp
    | false =>
      rw [hr] at hs
      simp at hs ⊢
      intro _
      exact okS_mono _ _ _ hs.2.2 (by omega)
end Go.Proofs.YtkmhoholblbbfaaDoor.M
set_option linter.unusedVariables false
set_option linter.unusedSimpArgs false
namespace Go.Proofs.YtkmhoholblbbfaaDoor.M
open Go Go.Proofs.YtkmhoholblbbfaaDoor.AM
variable {X : Cx}
theorem r37 (k : MC) (m : MS) (x : Ins) (h : m.st.length ≤ 1048576) (hs : okS m.st.reverse m.lg.length) (hb : m.bad = 0) : R X Tryd.prog 37 [.lf (.ptr 0 0), .ag x.c] [mst k m] (.tp []) [mst k (twiceM m)] := by
  have h34 := r34 (X := X) k m false h
  have hl := pop_len false m
  have hok := fun e => pop_ok m hs e hb
  have h23 := r23 (X := X) k (popM false m).2 (by omega)
  generalize hr : twiceM m = r
  unfold twiceM at hr
  simp only [Ins.c]
  refine R_i [(15, 15), (17, 17), (23, 23)] [] c37_ok rfl (by simp) ?_
  simp -implicitDefEqProofs (maxSteps := 2000000) only [c37, ↓reduceIte, s_ops0, s_seq, s_opsK, s_seqK_n, s_nil, s_cons, s_wopsK, o_mv, o_bx, e_t, e_k, e_put, e_get, e_res, e_keep_n, e_keep_c, e_keep1_s, St.init, enum, List.length_nil, List.length_cons, Option.getD_some, reduceCtorEq, true_and, Bool.false_eq_true, List.map_cons, List.map_nil, PV.leaves, List.flatMap_cons, List.flatMap_nil, List.append_nil, List.cons_append, List.nil_append, Bool.true_and, Nat.reduceBEq, Nat.reduceLeDiff, List.getElem?_cons_zero, Option.bind_some, kc_i, kc_s, kc_p, kc_l, m_lf, m_ag, m_n, m_c, m_all, d_n, d_c, dw_n, dw_b, dw_p, Nat.zero_add, ta_b, ta_p, pc_p, o_callp, v_callp, v_bx_a]
  refine pcall_i h34 rfl rfl ?_
  generalize popM false m = p at *
  simp -implicitDefEqProofs (maxSteps := 2000000) only [c37, ↓reduceIte, s_skip, s_ops0, s_seq, s_cond, s_opsK, s_seqK_n, s_cnd, s_nil, s_cons, s_wopsK, s_putK, o_mv, o_bin, v_eql, v_part_f, v_atK, o_fa, v_fa_p, o_ld, v_ld_p, v_ldC, o_nc, v_nc_p, e_t, e_k, e_put, e_get, e_res, e_keep_n, e_keep_c, e_keep1_s, Option.getD_some, Nat.reduceEqDiff, Nat.reduceAdd, reduceCtorEq, true_and, and_true, Bool.false_eq_true, decide_eq_true_eq, s_ret_n, s_retX, s_cells_n, t_tp, t_n, t_ln, t_lc, t_i, t_s, t_l, t_oo, t_rr, r_n, outV, ownsV, owns1, ownL, List.map_cons, List.map_nil, List.any_cons, List.any_nil, Bool.or_self, PV.leaves, List.flatMap_cons, List.flatMap_nil, List.append_nil, Bool.and_true, Bool.true_and, Bool.and_self, Nat.reduceMul, BEq.rfl, List.getElem?_cons_zero, List.getElem?_cons_succ, Option.bind_some, ol_b, ol_i, m_lf, m_ag, m_n, m_c, d_n, d_c, dw_n, dw_p, Nat.lt_add_one, Nat.zero_add, true_or, or_true, ta_p, fc_i, fc_s, fc_lr, fc_lo, kl_i, kl_s, kl_p, kl_lr, kl_lo, kf_s, cp_st, pc_p, s_cells_c, t_some, o_callp, v_callp, isC, cplc, Nat.reduceMod, Nat.reduceDiv, one_0]
  with_reducible refine ite_pr (fun h1 => ?_) (fun h1 => ?_)
  · rw [if_pos h1] at hr
    refine pcall_i (h23 (hok h1)) rfl rfl ?_
    rw [hr]
    simp -implicitDefEqProofs (maxSteps := 2000000) only [c37, ↓reduceIte, s_opsK, s_nil, s_wopsK, e_put, e_get, e_res, e_keep_n, Nat.reduceEqDiff, Nat.reduceAdd, reduceCtorEq, true_and, and_true, Bool.false_eq_true, s_ret_n, s_retX, s_cells_n, t_tp, t_n, t_ln, t_lc, t_i, t_s, t_l, t_oo, t_rr, r_n, outV, ownsV, List.map_cons, List.map_nil, List.any_nil, Bool.and_true, Bool.true_and, Bool.and_self, Nat.reduceMul, BEq.rfl, m_lf, m_tp, m_n, m_c, d_n, d_c, Nat.lt_add_one, Nat.zero_add, true_or, or_true, fc_i, fc_s, fc_lr, fc_lo, kl_b, kl_i, kl_s, kl_p, kl_lr, kl_lo, kf_s, cp_st, s_cells_c, t_some, isC, cplc, Nat.reduceMod, Nat.reduceDiv, one_0]
    done
  · rw [if_neg h1] at hr
    subst hr
    simp
theorem r38 (k : MC) (m : MS) (x : Ins) (h : m.st.length ≤ 1048576) (hs : okS m.st.reverse m.lg.length) : R X Tryd.prog 38 [.lf (.ptr 0 0), .ag x.c] [mst k m] (.tp []) [mst k (failM m)] := by
  have h23 := r23 (X := X) k m h hs
  simp only [Ins.c]
  refine R_i [(15, 15), (17, 17), (23, 23)] [] c38_ok rfl (by simp) ?_
  simp -implicitDefEqProofs (maxSteps := 2000000) only [c38, ↓reduceIte, s_ops0, s_seq, s_opsK, s_seqK_n, s_nil, s_cons, s_wopsK, o_mv, o_bx, e_t, e_put, e_get, e_res, e_keep_n, e_keep_c, e_keep1_s, St.init, enum, List.length_nil, List.length_cons, Option.getD_some, reduceCtorEq, true_and, Bool.false_eq_true, List.map_cons, List.map_nil, PV.leaves, List.flatMap_cons, List.flatMap_nil, List.append_nil, Bool.true_and, Nat.reduceBEq, Nat.reduceLeDiff, List.getElem?_cons_zero, Option.bind_some, kc_i, kc_s, kc_p, kc_l, m_lf, m_ag, m_n, m_c, m_all, d_n, d_c, dw_n, dw_p, Nat.zero_add, ta_p, pc_p, o_callp, v_callp, v_bx_a]
  refine pcall_i h23 rfl rfl ?_
  generalize failM m = m1
  simp -implicitDefEqProofs (maxSteps := 2000000) only [c38, ↓reduceIte, s_opsK, s_nil, s_wopsK, e_put, e_get, e_res, e_keep_n, Nat.reduceEqDiff, Nat.reduceAdd, reduceCtorEq, true_and, and_true, Bool.false_eq_true, s_ret_n, s_retX, s_cells_n, t_tp, t_n, t_ln, t_lc, t_i, t_s, t_l, t_oo, t_rr, r_n, outV, ownsV, List.map_cons, List.map_nil, List.any_nil, Bool.and_true, Bool.true_and, Bool.and_self, Nat.reduceMul, BEq.rfl, m_lf, m_tp, m_n, m_c, d_n, d_c, Nat.lt_add_one, Nat.zero_add, true_or, or_true, fc_i, fc_s, fc_lr, fc_lo, kl_i, kl_s, kl_p, kl_lr, kl_lo, kf_s, cp_st, s_cells_c, t_some, isC, cplc, Nat.reduceMod, Nat.reduceDiv, one_0]
  done
def takeM (k : MC) (G : Int → Bool) (m : MS) : MS := if seesB k G m = true then { m with at' := W (m.at' + 1), pc := W (m.pc + 1) } else failM m
theorem r21 (k : MC) (m : MS) (x : Ins) (g f : Nat) (cp : List L) (G : Int → Bool) (hg : fnOK Tryd.prog g = true) (hgR : R X Tryd.prog g [.ag x.c] [] (.lf (.fn f [] cp)) []) (hf : fnOK Tryd.prog f = true) (hp : pureL [] cp = true) (hG : ∀ b : Int, 0 ≤ b → b ≤ 255 → R X Tryd.prog f ([.lf (.int .u8 b)] ++ cp.map (fun x => .lf x)) [] (.lf (.bool (G b))) [])
    (ha : 0 ≤ m.at') (h : m.st.length ≤ 1048576) (hs : okS m.st.reverse m.lg.length) : R X Tryd.prog 21 [.lf (.ptr 0 0), .ag x.c, .lf (.rp [.fn g [] []] 0)] [mst k m] (.tp []) [mst k (takeM k G m)] := by
  have h22 := r22 (X := X) k m f cp G hf hp hG ha
  have h23 := r23 (X := X) k m h hs
  generalize hr : takeM k G m = r
  unfold takeM at hr
  simp only [Ins.c] at hgR ⊢
  refine R_i [(15, 15), (17, 17), (23, 23)] [] c21_ok rfl (by simp) ?_
  simp -implicitDefEqProofs (maxSteps := 2000000) only [c21, ↓reduceIte, s_ops0, s_seq, s_opsK, s_seqK_n, s_nil, s_cons, s_wopsK, s_putK, o_mv, v_part_t, v_part_f, v_atK, o_bx, o_ld, v_ld_p, v_ldC, e_t, e_put, e_get, e_res, e_keep_n, e_keep_c, e_keep1_s, St.init, enum, List.length_nil, List.length_cons, Option.getD_some, Nat.reduceEqDiff, Nat.reduceAdd, reduceCtorEq, true_and, Bool.false_eq_true, List.map_cons, List.map_nil, PV.leaves, List.flatMap_cons, List.flatMap_nil, List.append_nil, Bool.true_and, Nat.reduceBEq, Nat.reduceLeDiff, Nat.le_refl, List.drop_zero, List.take_succ_cons, List.take_nil, List.getElem?_cons_zero, kc_i, kc_s, rl_i, rl_s, kc_p, kc_l, m_lf, m_ag, m_n, m_c, m_all, d_n, d_c, Nat.zero_add, o_cald, v_bx_a, kc_rp, v_ld_r]
  refine wcald_i hg rfl hgR rfl ?_
  simp -implicitDefEqProofs (maxSteps := 2000000) only [c21, hp, ↓reduceIte, s_cons, s_wopsK, e_t, e_put, e_get, Option.getD_some, Nat.reduceEqDiff, reduceCtorEq, Bool.false_eq_true, St.clr, outV, ownsV, owns1, ownL, List.map_cons, List.map_nil, PV.leaves, List.flatMap_cons, List.flatMap_nil, List.append_nil, List.cons_append, List.nil_append, List.getElem?_cons_zero, Option.bind_some, m_lf, dw_n, dw_i, dw_s, dw_p, ol_fn, ta_p, ta_fn, dw_fn0, pc_p, o_callp, v_callp]
  refine pcall_i h22 rfl rfl ?_
  simp -implicitDefEqProofs (maxSteps := 2000000) only [c21, ↓reduceIte, s_skip, s_ops0, s_seq, s_cond, s_opsK, s_seqK_n, s_cnd, s_nil, s_cons, s_wopsK, s_putK, o_mv, o_bin, v_add, o_un, v_not, v_part_f, v_atK, o_fa, v_fa_p, o_ld, v_ld_p, v_ldC, o_st, v_st_p, v_stCK, o_nc, v_nc_p, e_t, e_k, e_put, e_get, e_res, e_keep_n, e_keep_c, e_keep1_s, List.length_nil, List.length_cons, Option.getD_some, Nat.reduceEqDiff, Nat.reduceAdd, reduceCtorEq, true_and, and_true, Bool.not_true, Bool.false_eq_true, s_ret_n, s_retX, s_cells_n, t_tp, t_n, t_ln, t_lc, t_i, t_s, t_l, t_oo, t_rr, r_n, outV, ownsV, owns1, ownL, List.map_cons, List.map_nil, PV.leaves, List.flatMap_cons, List.flatMap_nil, List.append_nil, List.cons_append, List.nil_append, List.all_cons, List.all_nil, Bool.and_true, Bool.true_and, Bool.and_self, PV.cells, cellL, fillL, Nat.reduceMul, Nat.reduceLeDiff, BEq.rfl, List.take_zero, List.drop_zero, List.take_succ_cons, List.drop_succ_cons, List.getElem?_cons_zero, List.getElem?_cons_succ, Option.bind_some, ol_b, m_lf, m_ag, m_n, m_c, st_i1, d_n, d_c, dw_n, dw_p, Nat.lt_add_one, Nat.zero_add, true_or, or_true, Bool.not_eq_eq_eq_not, ta_p, fc_i, fc_s, fc_lr, fc_lo, kl_i, kl_s, kl_p, kl_lr, kl_lo, kl_fn, kf_s, cp_st, pc_p, s_cells_c, t_some, o_callp, v_callp, isC, cplc, Nat.reduceMod, Nat.reduceDiv, one_0, kl_rp]
  with_reducible refine ite_pr (fun h1 => ?_) (fun h1 => ?_)
  · have h2 : ¬ seesB k G m = true := by simp [h1]
    rw [if_neg h2] at hr
    refine pcall_i h23 rfl rfl ?_
    rw [hr]
    simp -implicitDefEqProofs (maxSteps := 2000000) only [c21, ↓reduceIte, s_ret, s_opsK, s_seqK_n, s_seqK_r, s_nil, s_wopsK, e_put, e_get, e_res, e_keep_n, Nat.reduceEqDiff, Nat.reduceAdd, reduceCtorEq, true_and, and_true, Bool.false_eq_true, s_ret_r, s_retX, s_cells_n, t_tp, t_n, t_ln, t_lc, t_i, t_s, t_l, t_oo, t_rr, r_n, outV, ownsV, List.map_cons, List.map_nil, List.any_nil, Bool.and_true, Bool.true_and, Bool.and_self, Nat.reduceMul, BEq.rfl, m_lf, m_tp, m_n, m_c, d_n, d_c, Nat.lt_add_one, Nat.zero_add, true_or, or_true, fc_i, fc_s, fc_lr, fc_lo, kl_b, kl_i, kl_s, kl_p, kl_lr, kl_lo, kf_s, cp_st, s_cells_c, t_some, isC, cplc, Nat.reduceMod, Nat.reduceDiv, one_0]
    done
  · have h2 : seesB k G m = true := by simpa using h1
    rw [if_pos h2] at hr
    subst hr
    simp
end Go.Proofs.YtkmhoholblbbfaaDoor.M
set_option linter.unusedVariables false
set_option linter.unusedSimpArgs false
namespace Go.Proofs.YtkmhoholblbbfaaDoor.M
open Go Go.Proofs.YtkmhoholblbbfaaDoor.AM
variable {X : Cx}
def testM (k : MC) (G : Int → Bool) (x : Ins) (m : MS) : MS := if seesB k G m = true then { m with pc := W (m.pc + 1) } else { m with pc := W (m.pc + x.a) }
def spanM (k : MC) (G : Int → Bool) (m : MS) : MS := { m with at' := spanN k G (k.s.size + 1) m.at', pc := W (m.pc + 1) }
def isI (x : Ins) (b : Int) : Bool := decide (b = x.b)
/-- a step: what each kind of instruction does -/
def stepM (k : MC) (x : Ins) (m : MS) : MS :=
  match x.op.toNat with
  | 1 => takeM k (fun _ => true) m
  | 2 => takeM k (isI x) m
  | 3 => takeM k (setI x) m
  | 4 => testM k (fun _ => true) x m
  | 5 => testM k (isI x) x m
  | 6 => testM k (setI x) x m
  | 7 => spanM k (setI x) m
  | 8 => choiceM k x m
  | 9 => commitM x m
  | 10 => partialM x m
  | 11 => backM x m
  | 12 => twiceM m
  | 13 => failM m
  | 14 => jumpM x m
  | 15 => callM k x m
  | 16 => retM m
  | 17 => endM m
  | 18 => openM k x m
  | 19 => closeM k x m
  | _ => fullM k x m
structure MOK (k : MC) (m : MS) : Prop where
  l0 : k.l0 ≤ 1048576
  l1 : k.l1 ≤ 1048576
  s : k.s.size ≤ 65536
  a0 : 0 ≤ m.at'
  st : m.st.length ≤ 1048576
  ok : okS m.st.reverse m.lg.length
  bad : m.bad = 0
theorem fn14 : fnOK Tryd.prog 14 = true := by kernel_rfl
theorem fn16 : fnOK Tryd.prog 16 = true := by kernel_rfl
theorem fn18 : fnOK Tryd.prog 18 = true := by kernel_rfl
theorem fnTab : ∀ f ∈ [21, 25, 26, 31, 33, 35, 36, 37, 38, 39, 40, 41, 42, 43, 45, 46], fnOK Tryd.prog f = true := by
  intro f hf
  simp only [List.mem_cons, List.not_mem_nil, or_false] at hf
  rcases hf with rfl | rfl | rfl | rfl | rfl | rfl | rfl | rfl | rfl | rfl | rfl | rfl | rfl | rfl | rfl | rfl <;> kernel_rfl
theorem g14 (x : Ins) : ∀ b : Int, 0 ≤ b → b ≤ 255 → R X Tryd.prog 15 ([.lf (.int .u8 b)] ++ ([] : List L).map (fun x => .lf x)) [] (.lf (.bool ((fun _ => true : Int → Bool) b))) [] := fun b _ _ => r15 b
theorem g16 (x : Ins) : ∀ b : Int, 0 ≤ b → b ≤ 255 → R X Tryd.prog 17 ([.lf (.int .u8 b)] ++ [L.rp x.c 0].map (fun x => .lf x)) [] (.lf (.bool (isI x b))) [] := fun b h0 h1 => r17 b h0 h1 x
theorem g18 (x : Ins) : ∀ b : Int, 0 ≤ b → b ≤ 255 → R X Tryd.prog 19 ([.lf (.int .u8 b)] ++ [L.rp x.c 0].map (fun x => .lf x)) [] (.lf (.bool (setI x b))) [] := fun b h0 h1 => r19 b h0 h1 x
/-- what a row of the table does -/
def Does (X : Cx) (k : MC) (x : Ins) (m : MS) (v : L) : Prop :=
  ∃ f cp, v = .fn f [] cp ∧ fnOK Tryd.prog f = true ∧ pureL [] cp = true ∧ R X Tryd.prog f ([.lf (.ptr 0 0), .ag x.c] ++ cp.map fun x => .lf x) [mst k m] (.tp []) [mst k (stepM k x m)]
theorem disp (k : MC) (m : MS) (x : Ins) (j : Nat) (hx : x.op = j) (h1 : 1 ≤ j) (h2 : j ≤ 20) (h : MOK k m) : Does X k x m (tab2.getD j .nilf) := by
  have hn : (k.s.size : Int) - m.at' < ((k.s.size + 1 : Nat) : Int) := by have := h.a0; omega
  have hj : stepM k x m = stepM k { x with op := j } m := by rw [← hx]
  have hop : x.op.toNat = j := by rw [hx]; rfl
  rcases (show j = 1 ∨ j = 2 ∨ j = 3 ∨ j = 4 ∨ j = 5 ∨ j = 6 ∨ j = 7 ∨ j = 8 ∨ j = 9 ∨ j = 10 ∨ j = 11 ∨ j = 12 ∨ j = 13 ∨ j = 14 ∨ j = 15 ∨ j = 16 ∨ j = 17 ∨ j = 18 ∨ j = 19 ∨ j = 20 by omega) with rfl | rfl | rfl | rfl | rfl | rfl | rfl | rfl | rfl | rfl | rfl | rfl | rfl | rfl | rfl | rfl | rfl | rfl | rfl | rfl
  · exact ⟨21, _, rfl, fnTab _ (by decide), rfl, by unfold stepM; rw [hop]; exact r21 k m x 14 15 [] _ fn14 (r14 x) fn15 rfl (g14 x) h.a0 h.st h.ok⟩
  · exact ⟨21, _, rfl, fnTab _ (by decide), rfl, by unfold stepM; rw [hop]; exact r21 k m x 16 17 _ _ fn16 (r16 x) fn17 rfl (g16 x) h.a0 h.st h.ok⟩
  · exact ⟨21, _, rfl, fnTab _ (by decide), rfl, by unfold stepM; rw [hop]; exact r21 k m x 18 19 _ _ fn18 (r18 x) fn19 rfl (g18 x) h.a0 h.st h.ok⟩
  · exact ⟨25, _, rfl, fnTab _ (by decide), rfl, by unfold stepM; rw [hop]; exact r25 k m x 14 15 [] _ fn14 (r14 x) fn15 rfl (g14 x) h.a0⟩
  · exact ⟨25, _, rfl, fnTab _ (by decide), rfl, by unfold stepM; rw [hop]; exact r25 k m x 16 17 _ _ fn16 (r16 x) fn17 rfl (g16 x) h.a0⟩
  · exact ⟨25, _, rfl, fnTab _ (by decide), rfl, by unfold stepM; rw [hop]; exact r25 k m x 18 19 _ _ fn18 (r18 x) fn19 rfl (g18 x) h.a0⟩
  · exact ⟨26, _, rfl, fnTab _ (by decide), rfl, by unfold stepM; rw [hop]; exact r26 k m x 18 19 _ _ fn18 (r18 x) fn19 rfl (g18 x) h.a0 h.s _ hn⟩
  · exact ⟨31, [], rfl, fnTab _ (by decide), rfl, by unfold stepM; rw [hop]; exact r31 k m x h.l0⟩
  · exact ⟨33, [], rfl, fnTab _ (by decide), rfl, by unfold stepM; rw [hop]; exact r33 k m x h.st⟩
  · exact ⟨35, [], rfl, fnTab _ (by decide), rfl, by unfold stepM; rw [hop]; exact r35 k m x h.st⟩
  · exact ⟨36, [], rfl, fnTab _ (by decide), rfl, by unfold stepM; rw [hop]; exact r36 k m x h.st h.ok h.bad⟩
  · exact ⟨37, [], rfl, fnTab _ (by decide), rfl, by unfold stepM; rw [hop]; exact r37 k m x h.st h.ok h.bad⟩
  · exact ⟨38, [], rfl, fnTab _ (by decide), rfl, by unfold stepM; rw [hop]; exact r38 k m x h.st h.ok⟩
  · exact ⟨39, [], rfl, fnTab _ (by decide), rfl, by unfold stepM; rw [hop]; exact r39 k m x⟩
  · exact ⟨40, [], rfl, fnTab _ (by decide), rfl, by unfold stepM; rw [hop]; exact r40 k m x h.l0⟩
  · exact ⟨41, [], rfl, fnTab _ (by decide), rfl, by unfold stepM; rw [hop]; exact r41 k m x h.st⟩
  · exact ⟨42, [], rfl, fnTab _ (by decide), rfl, by unfold stepM; rw [hop]; exact r42 k m x⟩
  · exact ⟨43, [], rfl, fnTab _ (by decide), rfl, by unfold stepM; rw [hop]; exact r43 k m x h.l1⟩
  · exact ⟨45, [], rfl, fnTab _ (by decide), rfl, by unfold stepM; rw [hop]; exact r45 k m x h.l1⟩
  · exact ⟨46, [], rfl, fnTab _ (by decide), rfl, by unfold stepM; rw [hop]; exact r46 k m x h.l1⟩
end Go.Proofs.YtkmhoholblbbfaaDoor.M
