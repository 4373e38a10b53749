/- Contracts, part QI. -/
import Derived.Test.YtomlkmnklonbpaaQH
import Derived.Test.YtomlkmnklonbpaaQF
set_option linter.unusedVariables false
set_option linter.unusedSimpArgs false
namespace Go.Proofs.Ytomlkmnklonbpaa.Q
open Go Go.Proofs.Ytomlkmnklonbpaa.AM
theorem bN_byte (t : ByteArray) (k j : Nat) : byteAt t ((k : Int) + (j : Int)) = (bN (t.data.toList.drop k) j : Nat) := by
  unfold byteAt bN
  rw [show ((k : Int) + (j : Int)).toNat = k + j by omega, List.getD_eq_getElem?_getD, List.getD_eq_getElem?_getD, List.getElem?_drop]
theorem byte_big (t : ByteArray) (k : Nat) (h : t.size ≤ k) : byteAt t (k : Int) = 0 := by
  unfold byteAt
  rw [Int.toNat_natCast, List.getD_eq_getElem?_getD, List.getElem?_eq_none (by rw [size_len]; exact h)]; rfl
theorem r50 (t : ByteArray) (k : Nat) (hs : t.size ≤ 65536) : R cx0 Try.prog 50 [.lf (.str t), .lf (.int .i64 (k : Int))] [] (.lf (.bool (decide (128 ≤ byteAt t k ∧ byteAt t k < 192)))) [] := by
  refine R_i [] [] c50_ok rfl (by simp) ?_
  simp -implicitDefEqProofs (maxSteps := 2000000) only [c50, ↓reduceIte, s_ret, s_ops0, s_seq, s_opsK, s_seqK_n, s_nil, s_cons, s_guard, s_wopsK, s_putK, s_grd, q_mv, q_bin, q_ixs, o_mv, o_as, o_pk, v_pk, o_bin, v_lss, v_geq, o_ixs, v_ixs, o_lns, v_lns, e_t, e_k, e_put, e_get, e_res, e_keep_n, e_keep_c, e_keep1_s, e_asg_b, St.init, enum, List.length_nil, Option.getD_some, Nat.reduceEqDiff, reduceCtorEq, true_and, and_true, cond_false, Bool.not_true, Bool.false_eq_true, decide_eq_true_eq, s_ret_r, s_retX, s_cells_n, t_lf, t_b, r_n, r_t, r_cons, one_1, Bool.and_true, Bool.true_and, Nat.zero_add]
  with_reducible refine ite_pr (fun h => ?_) (fun h => ?_)
  · refine ⟨by omega, ?_⟩
    with_reducible refine ite_pr (fun h2 => ?_) (fun h2 => ?_)
    · exact ⟨by omega, by simp [h2]⟩
    · simp [h2]
  · rw [byte_big t k (by omega)]; simp
theorem r50' (t : ByteArray) (k j : Nat) (hs : t.size ≤ 65536) (i : Int) (hi : i = (k : Int) + (j : Int)) : R cx0 Try.prog 50 [.lf (.str t), .lf (.int .i64 i)] [] (.lf (.bool (decide (128 ≤ bN (t.data.toList.drop k) j ∧ bN (t.data.toList.drop k) j < 192)))) [] := by
  have h := r50 t (k + j) hs
  have e : ((k + j : Nat) : Int) = i := by omega
  rw [e] at h
  refine R_eq h ?_
  have hb := bN_byte t k j
  rw [← hi] at hb
  congr 2
  rw [decide_eq_decide]
  omega
set_option maxRecDepth 100000 in
theorem r39 (t : ByteArray) (k : Nat) (hs : t.size ≤ 65536) (hk : k < t.size) : R cx0 Try.prog 39 [.lf (.str t), .lf (.int .i64 (k : Int))] [] (.lf (.int .i64 (wd (t.data.toList.drop k) : Nat))) [] := by
  refine R_i [] [] c39_ok rfl (by simp) ?_
  have w1 := w64 (x := (k : Int) + 1) (by omega) (by omega)
  have w2 := w64 (x := (k : Int) + 2) (by omega) (by omega)
  have w3 := w64 (x := (k : Int) + 3) (by omega) (by omega)
  have b0 : byteAt t (k : Int) = (bN (t.data.toList.drop k) 0 : Nat) := by have := bN_byte t k 0; simpa using this
  have c1 : byteAt t ((k : Int) + 1) = (bN (t.data.toList.drop k) 1 : Nat) := bN_byte t k 1
  have t1 := r50' t k 1 hs ((k : Int) + 1) rfl
  have t2 := r50' t k 2 hs ((k : Int) + 2) rfl
  have t3 := r50' t k 3 hs ((k : Int) + 3) rfl
  have u1 : tl (t.data.toList.drop k) 1 → k + 1 < t.size := fun h => by have := tl_len h; simp at this; omega
  unfold tl at u1
  have hw : wd (t.data.toList.drop k) = wd (t.data.toList.drop k) := rfl
  conv at hw => rhs; unfold wd tl
  generalize wd (t.data.toList.drop k) = W at hw ⊢
  simp -implicitDefEqProofs (maxSteps := 2000000) only [c39, w1, w2, w3, ↓reduceIte, s_skip, s_ret, s_ops0, s_seq, s_cond, s_block, s_opsK, s_seqK_n, s_blkK_n, s_cnd, s_nil, s_cons, s_guard, s_wopsK, s_putK, s_grd, s_grd_no, q_call, q_mv, q_bin, o_mv, o_as, o_pk, v_pk, o_bin, v_add, v_leq, v_geq, o_ixs, v_ixs, o_call, e_t, e_k, e_put, e_get, e_res, e_keep_n, e_keep_c, e_keep1_s, e_asg_b, e_asg_i, St.init, enum, List.length_nil, Option.getD_some, Nat.reduceEqDiff, reduceCtorEq, true_and, and_true, cond_false, Bool.not_true, Bool.false_eq_true, decide_eq_true_eq, s_ret_r, s_retX, s_cells_n, t_lf, t_i, r_n, r_t, r_cons, one_1, List.map_cons, List.map_nil, PV.leaves, List.flatMap_cons, List.flatMap_nil, List.append_nil, List.cons_append, List.nil_append, Bool.and_true, Bool.true_and, rl_i, rl_s, m_lf, Nat.zero_add]
  refine ⟨by omega, ?_⟩
  generalize bN (t.data.toList.drop k) 0 = x0 at *
  generalize bN (t.data.toList.drop k) 1 = x1 at *
  generalize bN (t.data.toList.drop k) 2 = x2 at *
  generalize bN (t.data.toList.drop k) 3 = x3 at *
  iterate 30
    all_goals try (with_reducible first | refine ite_pr (fun _ => ?_) (fun _ => ?_) | refine And.intro ?_ ?_)
    all_goals try omega
    all_goals try ((first | refine wcall_s t1 rfl rfl ?_ | refine wcall_s t2 rfl rfl ?_ | refine wcall_s t3 rfl rfl ?_); simp -implicitDefEqProofs (maxSteps := 2000000) only [c39, w1, w2, w3, ↓reduceIte, s_skip, s_ret, s_ops0, s_seq, s_cond, s_opsK, s_seqK_n, s_seqK_r, s_blkK_n, s_blkK_r, s_cnd, s_nil, s_cons, s_guard, s_wopsK, s_putK, s_grd, s_grd_no, q_call, q_mv, q_pk, q_bin, q_ixs, o_mv, o_as, o_pk, v_pk, o_bin, v_add, v_neq, v_lss, v_leq, v_geq, o_ixs, v_ixs, o_call, e_t, e_k, e_put, e_get, e_res, e_keep_n, e_keep_c, e_keep1_s, e_asg_b, e_asg_i, Option.getD_some, Nat.reduceEqDiff, reduceCtorEq, true_and, and_true, cond_false, Bool.not_true, Bool.not_false, Bool.true_eq_false, Bool.false_eq_true, decide_eq_true_eq, decide_eq_false_iff_not, s_ret_r, s_retX, s_cells_n, t_lf, t_i, r_n, r_t, r_cons, one_1, St.clr, outV, ownsV, owns1, ownL, List.map_cons, List.map_nil, PV.leaves, List.flatMap_cons, List.flatMap_nil, List.append_nil, List.cons_append, List.nil_append, Bool.and_true, Bool.true_and, rl_i, rl_s, ol_b, m_lf, ne_eq, Decidable.not_not])
  all_goals clear t1 t2 t3 w1 w2 w3
  all_goals try omega
  all_goals generalize byteAt t (k : Int) = y0 at *
  all_goals generalize byteAt t ((k : Int) + 1) = y1 at *
  all_goals subst b0 c1
  all_goals try (rw [hw]; (repeat' split) <;> omega)
  all_goals try omega
end Go.Proofs.Ytomlkmnklonbpaa.Q
