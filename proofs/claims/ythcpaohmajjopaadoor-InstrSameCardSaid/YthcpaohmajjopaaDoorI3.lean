/- Contracts, part I3. -/
import Derived.Test.YthcpaohmajjopaaDoorI2
set_option linter.unusedVariables false
set_option linter.unusedSimpArgs false
namespace Go.Proofs.YthcpaohmajjopaaDoor.I
open Go Go.Proofs.YthcpaohmajjopaaDoor.AM
variable {X : Cx}
def argB (capF : Bool) (k : Nat) (x : Ins) : Bool :=
  if k = 2 ∨ k = 5 then decide (0 ≤ x.b ∧ x.b ≤ 255) else if k = 18 then decide (2 ≤ x.b ∧ x.b ≤ 7) && capF
  else if k = 20 then decide (1 ≤ x.b ∧ x.b ≤ 7 ∧ 0 ≤ x.a ∧ x.a ≤ 255 ∧ ¬ (x.b = 1 ∧ 0 < x.a)) && capF else true
def fitB (capF : Bool) (k : Nat) (x : Ins) : Bool := x.same (x.plain k) && argB capF k x
theorem r49 (hX : X.G 1 = some usesL) (k : Nat) (hk : k < 21) (x : Ins) (hx : x.op = k) (capF : Bool) (hcap : k = 18 ∨ k = 20 → 1 ≤ x.b → x.b ≤ 7 → R X Tryd.prog 66 [.lf (.int .i64 x.b), .lf (.int .i64 x.n), .lf (.str x.t)] [] (.lf (.bool capF)) []) :
    R X Tryd.prog 49 [.ag x.c] [] (.lf (.bool (fitB capF k x))) [] := by
  refine R_i [] [] c49_ok rfl (by simp) ?_
  unfold fitB
  have h65 := r65 hX k hk x hx
  have he := eq_ins x (x.plain k)
  have hc : x.c = [.int .i64 x.op, .int .i64 x.a, .int .i64 x.b, .int .i64 x.n, .str x.t, .int .u64 x.s0, .int .u64 x.s1, .int .u64 x.s2, .int .u64 x.s3] := rfl
  generalize x.plain k = y at *
  have hy : y.c = [.int .i64 y.op, .int .i64 y.a, .int .i64 y.b, .int .i64 y.n, .str y.t, .int .u64 y.s0, .int .u64 y.s1, .int .u64 y.s2, .int .u64 y.s3] := rfl
  rw [hc] at he h65 ⊢
  rw [hy] at he h65
  rw [hx] at he h65 ⊢
  generalize x.same y = bb at *
  generalize hr : argB capF k x = r
  simp -implicitDefEqProofs (maxSteps := 2000000) only [c49, ↓reduceIte, s_ops0, s_ops2, s_seq, s_opsK, s_seqK_n, s_nil, s_cons, s_wopsK, s_wopsqK, s_putK, s_qcons, q_call, q_ld, o_as, v_part_t, o_bx, o_ld, v_ld_p, v_ldC, e_t, e_k, e_put, e_get, e_res, e_keep_n, e_keep_c, e_keep1_s, e_asg_b, St.init, enum, List.length_nil, List.length_cons, Option.getD_some, Nat.reduceEqDiff, Nat.reduceAdd, true_and, List.map_cons, List.map_nil, Bool.true_and, Nat.zero_le, Nat.le_refl, List.drop_zero, List.take_succ_cons, List.take_nil, kc_i, kc_s, rl_i, rl_s, m_ag, m_n, m_c, m_all, d_n, Nat.zero_add, v_bx_a]
  refine wcallq_i h65 rfl ?_
  have hb := fun neg ks K => v_beq (neg := neg) (ks := ks) (K := K) he
  simp -implicitDefEqProofs (maxSteps := 2000000) only [c49, hb, ↓reduceIte, s_skip, s_ret, s_ops0, s_seq, s_cond, s_block, s_opsK, s_seqK_n, s_seqK_r, s_blkK_n, s_blkK_r, s_cnd, s_nil, s_cons, s_guard, s_wopsK, s_wopsqK, s_putK, s_grd, s_grd_no, s_qnil, s_qcons, q_call, q_mv, q_pk, q_bin, q_beq, q_fa, q_ld, o_mv, o_as, o_pk, v_pk, o_bin, v_eql, v_lss, v_leq, v_gtr, v_geq, o_beq, v_part_f, v_atK, o_fa, v_fa_p, o_ld, v_ld_p, v_ldC, o_call, e_t, e_k, e_put, e_get, e_res, e_keep_n, e_keep_c, e_keep1_s, e_asg_b, Option.getD_some, Nat.reduceEqDiff, true_and, and_true, cond_false, Bool.not_true, Bool.not_false, Bool.true_eq_false, Bool.false_eq_true, decide_eq_true_eq, decide_eq_false_iff_not, s_ret_r, s_retX, s_cells_n, t_lf, t_b, r_n, r_t, r_cons, one_1, List.map_cons, List.map_nil, PV.leaves, List.flatMap_cons, List.flatMap_nil, List.append_nil, List.cons_append, List.nil_append, Bool.and_true, Bool.true_and, List.getElem?_cons_zero, List.getElem?_cons_succ, rl_i, rl_s, m_lf, Nat.zero_add, Nat.add_zero, kd_i, kd_s, ite_not, Bool.not_eq_eq_eq_not]
  clear he hb h65 hc hy
  unfold argB at hr
  iterate 14 (all_goals try (with_reducible refine ite_pr (fun _ => ?_) (fun _ => ?_)))
  all_goals try omega
  all_goals try (refine wcall_s (hcap (by omega) (by omega) (by omega)) rfl rfl ?_; simp -implicitDefEqProofs (maxSteps := 2000000) only [c49, ↓reduceIte, s_ret, s_opsK, s_seqK_n, s_seqK_r, s_blkK_r, s_nil, s_cons, s_wopsK, s_putK, o_as, o_pk, v_pk, e_t, e_k, e_put, e_get, e_res, e_keep_n, e_keep_c, e_keep1_s, e_asg_b, Option.getD_some, Nat.reduceEqDiff, true_and, and_true, Bool.false_eq_true, s_ret_r, s_retX, s_cells_n, t_lf, t_b, r_n, r_t, r_cons, one_1, St.clr, outV, ownsV, owns1, ownL, Bool.and_true, Bool.true_and, ol_b, m_lf])
  all_goals (cases bb; · simp_all)
  all_goals (simp only [Bool.true_and]; subst hr)
  all_goals try contradiction
  all_goals repeat' split
  all_goals first
    | omega
    | rfl
    | (rw [decide_eq_decide]; omega)
    | (rw [decide_eq_false (by omega)]; rfl)
    | (rw [decide_eq_true (by omega)]; rfl)
    | (rw [decide_eq_true (by omega), Bool.true_and])
    | (exact (decide_eq_false (by omega)).symm)
    | trace_state
end Go.Proofs.YthcpaohmajjopaaDoor.I
