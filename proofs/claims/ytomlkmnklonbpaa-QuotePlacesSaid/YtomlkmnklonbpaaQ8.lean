/- Contracts, part Q8. -/
import Derived.Test.YtomlkmnklonbpaaQ7
set_option linter.unusedVariables false
set_option linter.unusedSimpArgs false
namespace Go.Proofs.Ytomlkmnklonbpaa.Q
open Go Go.Proofs.Ytomlkmnklonbpaa.AM
/-- beside an error nothing is told -/
theorem scan_err (t : ByteArray) (q : Int) : ∀ (n : Nat) (i : Int) (acc : List Int), (scan t q n i acc).2.2.2 ≠ 0 → (scan t q n i acc).1 = ⟨#[]⟩ ∧ (scan t q n i acc).2.1 = 0 := by
  intro n
  induction n with
  | zero => intro i acc _; exact ⟨rfl, rfl⟩
  | succ n ih =>
    intro i acc h
    unfold scan at h ⊢
    (repeat' split) <;> first | exact ⟨rfl, rfl⟩ | (simp_all; done) | (rename_i h1 h2 h3 h4 h5; simp only [h1, h2, h3, h4, h5, if_true, if_false] at h; exact ih _ _ h) | (rename_i h1 h2 h3 h4; simp only [h1, h2, h3, h4, if_true, if_false] at h; exact ih _ _ h)
theorem scan_ok (t : ByteArray) (q : Int) : ∀ (n : Nat) (i : Int) (acc : List Int), (scan t q n i acc).2.2.2 = 0 → (scan t q n i acc).2.2.1 = 0 ∧ i < (scan t q n i acc).2.1 ∧ (scan t q n i acc).2.1 ≤ t.size := by
  intro n
  induction n with
  | zero => intro i acc h; exact absurd h (by simp [scan])
  | succ n ih =>
    intro i acc h
    have hl := esc_len t i
    unfold scan at h ⊢
    by_cases c0 : i < (t.size : Int)
    · rw [if_pos c0] at h ⊢
      by_cases c1 : byteAt t i = q
      · rw [if_pos c1] at h ⊢; exact ⟨rfl, by simp; omega, by simp; omega⟩
      rw [if_neg c1] at h ⊢
      by_cases c2 : byteAt t i < 32 ∨ byteAt t i = 127
      · rw [if_pos c2] at h; exact absurd h (by simp)
      rw [if_neg c2] at h ⊢
      by_cases c3 : byteAt t i = 92
      · rw [if_pos c3] at h ⊢
        by_cases c4 : (esc t i).2 = 0
        · rw [if_pos c4] at h; exact absurd h (by simp)
        · rw [if_neg c4] at h ⊢
          have := ih _ _ h
          exact ⟨this.1, by omega, this.2.2⟩
      · rw [if_neg c3] at h ⊢
        have := ih _ _ h
        exact ⟨this.1, by omega, this.2.2⟩
    · rw [if_neg c0] at h; exact absurd h (by simp)
theorem cut_err (t : ByteArray) (a : Int) (h : (cut t a).2.2.2 ≠ 0) : (cut t a).1 = ⟨#[]⟩ ∧ (cut t a).2.1 = 0 := by
  unfold cut at h ⊢
  split
  · exact ⟨rfl, rfl⟩
  · rename_i h1
    rw [if_neg h1] at h
    split
    · exact ⟨rfl, rfl⟩
    · rename_i h2
      rw [if_neg h2] at h
      split
      · exact ⟨rfl, rfl⟩
      · rename_i h3
        rw [if_neg h3] at h
        exact scan_err _ _ _ _ _ h
theorem cut_ok (t : ByteArray) (a : Int) (h : (cut t a).2.2.2 = 0) : (cut t a).2.2.1 = 0 ∧ 0 ≤ a ∧ a + 2 ≤ (cut t a).2.1 ∧ (cut t a).2.1 ≤ t.size ∧ t.size ≤ 65536 ∧ a < t.size ∧ (byteAt t a = 39 ∨ byteAt t a = 34) ∧ cut t a = scan t (byteAt t a) (t.size + 1) (a + 1) [] := by
  by_cases h1 : (t.size : Int) > 65536
  · unfold cut at h; rw [if_pos h1] at h; exact absurd h (by simp)
  by_cases h2 : a < 0 ∨ a > t.size
  · unfold cut at h; rw [if_neg h1, if_pos h2] at h; exact absurd h (by simp)
  by_cases h3 : a = t.size ∨ (byteAt t a ≠ 39 ∧ byteAt t a ≠ 34)
  · unfold cut at h; rw [if_neg h1, if_neg h2, if_pos h3] at h; exact absurd h (by simp)
  have e : cut t a = scan t (byteAt t a) (t.size + 1) (a + 1) [] := by unfold cut; rw [if_neg h1, if_neg h2, if_neg h3]
  have e2 : byteAt t a = 39 ∨ byteAt t a = 34 := by
    by_cases h : byteAt t a = 39
    · exact .inl h
    · by_cases h' : byteAt t a = 34
      · exact .inr h'
      · exact absurd (.inr ⟨h, h'⟩) h3
  have hs := scan_ok t (byteAt t a) (t.size + 1) (a + 1) [] (by rw [← e]; exact h)
  rw [← e] at hs
  exact ⟨hs.1, by omega, by omega, hs.2.2, by omega, by omega, e2, e⟩

/-- a text that is a literal -/
def unq (t : ByteArray) : ByteArray × Int × Int :=
  if (cut t 0).2.2.2 = 0 ∧ (cut t 0).2.1 < t.size then (⟨#[]⟩, (cut t 0).2.1, 20) else ((cut t 0).1, (cut t 0).2.2.1, (cut t 0).2.2.2)
theorem r13 (t : ByteArray) : R cx0 Try.prog 13 [.lf (.str t)] [] (.tp [.lf (.str (unq t).1), .ag [.int .i64 (unq t).2.1, .int .i64 (unq t).2.2]]) [] := by
  have h1 := cut_ok t 0
  have h2 := cut_err t 0
  refine R_i [] [] c13_ok rfl (by simp) ?_
  simp -implicitDefEqProofs (maxSteps := 2000000) only [c13, ↓reduceIte, s_ops0, s_seq, s_opsK, s_seqK_n, s_nil, s_cons, s_wopsK, o_mv, o_as, o_al, o_call, e_t, e_k, e_put, e_get, e_res, e_keep_n, e_keep_c, e_keep1_s, e_asg_s, St.init, enum, List.length_nil, Option.getD_some, reduceCtorEq, true_and, List.map_cons, List.map_nil, PV.leaves, List.flatMap_cons, List.flatMap_nil, List.append_nil, List.cons_append, List.nil_append, Bool.true_and, Nat.zero_le, kc_s, rl_i, rl_s, m_lf, m_n, m_c, m_all, d_n]
  refine wcall_s (r11 t 0 (by omega) (by omega)) rfl rfl ?_
  simp -implicitDefEqProofs (maxSteps := 2000000) only [c13, ↓reduceIte, s_skip, s_ret, s_ops0, s_ops1, s_seq, s_cond, s_opsK, s_seqK_n, s_seqK_r, s_cnd, s_nil, s_cons, s_guard, s_wopsK, s_wopsTK, s_putK, s_grd, s_tone, s_tcons, q_as, q_mv, q_bin, q_ld, q_lns, o_mv, o_as, o_pk, v_pk, o_bin, v_lss, o_beq, o_ext, v_ext0, v_ext1, v_ext2, v_part_t, o_al, o_ld, v_ld_p, v_ldC, o_st, v_st_p, v_stCK, o_bd, v_agK, v_bd_n, v_bd_c, o_lns, v_lns, e_t, e_k, e_put, e_get, e_res, e_keep_n, e_keep_c, e_keep1_s, e_asg_i, e_asg_s, List.length_nil, List.length_cons, Option.getD_some, Nat.reduceEqDiff, Nat.reduceAdd, reduceCtorEq, true_and, and_true, cond_false, Bool.not_true, Bool.false_eq_true, decide_eq_true_eq, s_ret_r, s_retX, s_cells_n, t_tp, t_n, t_c, t_1l, t_1a, t_ln, t_lc, t_i, t_s, r_n, r_t, r_c, r_cons, r_cell, r_part_t, one_2, St.clr, outV, ownsV, owns1, ownL, List.map_cons, List.map_nil, List.any_cons, List.any_nil, Bool.or_self, List.append_nil, List.cons_append, List.nil_append, List.all_cons, List.all_nil, Bool.and_true, Bool.true_and, Bool.and_self, PV.cells, cellL, fillL, Nat.reduceBEq, Nat.reduceLeDiff, Nat.zero_le, Nat.le_refl, List.take_zero, List.drop_zero, List.take_succ_cons, List.drop_succ_cons, List.drop_nil, List.take_nil, Option.bind_some, kc_i, kc_s, ol_i, ol_s, kc_p, m_lf, m_ag, m_tp, m_1l, m_1a, m_n, m_c, m_all, st_b, d_n, d_c, nO_s, ne_eq, not_false_eq_true, Nat.zero_add, v_beqK, v_andO, v_beqA, q_i, q_1, q_c, kd_i, Bool.and_eq_true]
  unfold unq
  by_cases c1 : (cut t 0).2.2.2 = 0
  · have := (h1 c1).1
    simp [c1, this]
    split <;> simp
  · simp [c1]
theorem r14 (t : ByteArray) : R cx0 Try.prog 14 [.lf (.str t)] [] (.tp [.lf (.str (unq t).1), .ag [.int .i64 (unq t).2.1, .int .i64 (unq t).2.2]]) [] := by
  have h1 := cut_ok t 0
  have h2 := cut_err t 0
  refine R_i [] [] c14_ok rfl (by simp) ?_
  simp -implicitDefEqProofs (maxSteps := 2000000) only [c14, ↓reduceIte, s_ops0, s_seq, s_opsK, s_seqK_n, s_nil, s_cons, s_wopsK, o_mv, o_as, o_al, o_call, e_t, e_k, e_put, e_get, e_res, e_keep_n, e_keep_c, e_keep1_s, e_asg_s, St.init, enum, List.length_nil, Option.getD_some, reduceCtorEq, true_and, List.map_cons, List.map_nil, PV.leaves, List.flatMap_cons, List.flatMap_nil, List.append_nil, List.cons_append, List.nil_append, Bool.true_and, Nat.zero_le, kc_s, rl_i, rl_s, m_lf, m_n, m_c, m_all, d_n]
  refine wcall_s (r12 t 0 (by omega) (by omega)) rfl rfl ?_
  simp -implicitDefEqProofs (maxSteps := 2000000) only [c14, ↓reduceIte, s_skip, s_ret, s_ops0, s_ops1, s_seq, s_cond, s_opsK, s_seqK_n, s_seqK_r, s_cnd, s_nil, s_cons, s_wopsK, s_wopsTK, s_putK, s_tone, s_tcons, q_as, q_ld, o_mv, o_as, o_bin, v_neq, v_lss, o_ext, v_ext0, v_ext1, v_ext2, v_part_t, v_part_f, v_atK, o_al, o_fa, v_fa_p, o_ld, v_ld_p, v_ldC, o_st, v_st_p, v_stCK, o_bd, v_agK, v_bd_n, v_bd_c, o_lns, v_lns, e_t, e_k, e_put, e_get, e_res, e_keep_n, e_keep_c, e_keep1_s, e_asg_i, e_asg_s, List.length_nil, List.length_cons, Option.getD_some, Nat.reduceEqDiff, Nat.reduceAdd, reduceCtorEq, true_and, and_true, Bool.false_eq_true, decide_eq_true_eq, s_ret_r, s_retX, s_cells_n, t_tp, t_n, t_c, t_1l, t_1a, t_ln, t_lc, t_i, t_s, r_n, r_t, r_c, r_cons, r_cell, r_part_t, one_2, St.clr, outV, ownsV, owns1, ownL, List.map_cons, List.map_nil, List.any_cons, List.any_nil, Bool.or_self, List.append_nil, List.cons_append, List.nil_append, List.all_cons, List.all_nil, Bool.and_true, Bool.true_and, Bool.and_self, PV.cells, cellL, fillL, Nat.reduceBEq, Nat.reduceLeDiff, Nat.zero_le, Nat.le_refl, List.take_zero, List.drop_zero, List.take_succ_cons, List.drop_succ_cons, List.drop_nil, List.take_nil, List.getElem?_cons_zero, List.getElem?_cons_succ, Option.bind_some, kc_i, kc_s, ol_i, ol_s, kc_p, m_lf, m_ag, m_tp, m_1l, m_1a, m_n, m_c, m_all, st_b, d_n, d_c, nO_s, ne_eq, not_false_eq_true, Nat.zero_add, ite_not]
  unfold unq
  by_cases c1 : (cut t 0).2.2.2 = 0
  · have := (h1 c1).1
    simp [c1, this]
    split <;> simp
  · simp [c1, (h2 c1).1]
theorem live_unq : unq ⟨#[39, 97, 39]⟩ = (⟨#[97]⟩, 0, 0) := by decide +kernel
theorem r15 : R cx0 Try.prog 15 [] [] (.lf (.bool true)) [] := by
  refine R_i [] [] c15_ok rfl (by simp) ?_
  simp -implicitDefEqProofs (maxSteps := 2000000) only [c15, ↓reduceIte, s_ops0, s_seq, s_opsK, s_seqK_n, s_nil, s_cons, s_wopsK, o_as, o_call, e_k, e_res, e_keep_n, e_asg_b, St.init, enum, List.length_nil, List.map_cons, List.map_nil, PV.leaves, List.flatMap_cons, List.flatMap_nil, List.append_nil, rl_s, m_lf]
  refine wcall_s (r13 _) rfl rfl ?_
  simp -implicitDefEqProofs (maxSteps := 2000000) only [c15, ↓reduceIte, s_ret, s_ops0, s_seq, s_opsK, s_seqK_n, s_nil, s_cons, s_guard, s_wopsK, s_putK, s_grd, q_beq, q_ld, q_bd, o_mv, o_as, o_pk, v_pk, o_bin, v_seql, o_beq, o_ext, v_ext0, v_ext1, v_part_t, o_al, o_ld, v_ld_p, v_ldC, o_st, v_st_p, v_stCK, o_bd, v_agK, v_bd_n, e_t, e_k, e_put, e_get, e_res, e_keep_n, e_keep_c, e_keep1_s, e_asg_b, e_asg_s, List.length_nil, List.length_cons, Option.getD_some, Nat.reduceEqDiff, Nat.reduceAdd, true_and, and_true, cond_false, Bool.not_true, Bool.false_eq_true, decide_eq_true_eq, s_ret_r, s_retX, s_cells_n, t_lf, t_b, r_n, r_t, r_cons, one_1, St.clr, outV, ownsV, owns1, ownL, List.map_cons, List.map_nil, List.any_cons, List.any_nil, Bool.or_self, List.append_nil, List.nil_append, List.all_cons, List.all_nil, Bool.and_true, Bool.true_and, Bool.and_self, PV.cells, cellL, fillL, Nat.zero_le, Nat.le_refl, List.take_zero, List.drop_zero, List.take_succ_cons, List.drop_succ_cons, List.drop_nil, List.take_nil, kc_i, kc_s, ol_i, ol_s, m_lf, m_ag, m_tp, m_1l, m_1a, m_n, m_c, m_all, st_b, d_n, d_c, Nat.zero_add, v_beqK, v_andO, v_beqA, q_i, q_1, q_c, kd_i, Bool.and_eq_true]
  rw [live_unq]
  simp
theorem r3 (t : ByteArray) (a : Int) (ha : -9223372036854775808 ≤ a) (hb : a ≤ 9223372036854775807) : R cx0 Try.prog 3 [.lf (.str t), .lf (.int .i64 a)] [] (.lf (.bool true)) [] := by
  refine R_i [] [] c3_ok rfl (by simp) ?_
  simp -implicitDefEqProofs (maxSteps := 2000000) only [c3, ↓reduceIte, s_ops0, s_seq, s_opsK, s_seqK_n, s_nil, s_cons, s_wopsK, o_mv, o_as, o_call, e_t, e_k, e_put, e_get, e_res, e_keep_n, e_keep_c, e_keep1_s, e_asg_b, St.init, enum, List.length_nil, Option.getD_some, Nat.reduceEqDiff, reduceCtorEq, List.map_cons, List.map_nil, PV.leaves, List.flatMap_cons, List.flatMap_nil, List.append_nil, List.cons_append, List.nil_append, rl_i, rl_s, m_lf, Nat.zero_add]
  refine wcall_s (r11 t a ha hb) rfl rfl ?_
  simp -implicitDefEqProofs (maxSteps := 2000000) only [c3, ↓reduceIte, s_ops0, s_seq, s_opsK, s_seqK_n, s_nil, s_cons, s_wopsK, s_putK, o_mv, o_as, o_ext, v_ext0, v_ext1, v_ext2, o_al, o_st, v_st_p, v_stCK, o_call, e_t, e_put, e_get, e_res, e_keep_n, e_keep_c, e_keep1_s, e_asg_i, e_asg_s, List.length_nil, List.length_cons, Option.getD_some, Nat.reduceEqDiff, Nat.reduceAdd, reduceCtorEq, true_and, Bool.false_eq_true, St.clr, outV, ownsV, owns1, ownL, List.map_cons, List.map_nil, List.any_cons, List.any_nil, Bool.or_self, PV.leaves, List.flatMap_cons, List.flatMap_nil, List.append_nil, List.cons_append, List.nil_append, List.all_cons, List.all_nil, Bool.true_and, Bool.and_self, PV.cells, cellL, fillL, Nat.zero_le, Nat.le_refl, List.take_zero, List.drop_succ_cons, List.drop_nil, kc_i, kc_s, rl_i, rl_s, ol_i, ol_s, m_lf, m_ag, m_tp, m_1l, m_1a, m_n, m_c, m_all, st_b, d_n, d_c, Nat.zero_add]
  refine wcall_s (r12 t a ha hb) rfl rfl ?_
  simp -implicitDefEqProofs (maxSteps := 2000000) only [c3, ↓reduceIte, s_ops0, s_seq, s_opsK, s_seqK_n, s_nil, s_cons, s_wopsK, s_putK, o_mv, o_as, o_ext, v_ext0, v_ext1, v_ext2, o_al, o_st, v_st_p, v_stCK, o_call, e_t, e_put, e_get, e_res, e_keep_n, e_keep_c, e_keep1_s, e_asg_i, e_asg_s, List.length_nil, List.length_cons, Option.getD_some, Nat.reduceEqDiff, Nat.reduceAdd, reduceCtorEq, true_and, Bool.false_eq_true, St.clr, outV, ownsV, owns1, ownL, List.map_cons, List.map_nil, List.any_cons, List.any_nil, Bool.or_self, PV.leaves, List.flatMap_cons, List.flatMap_nil, List.append_nil, List.nil_append, List.all_cons, List.all_nil, Bool.true_and, Bool.and_self, PV.cells, cellL, fillL, Nat.reduceBEq, Nat.zero_le, Nat.le_refl, List.take_zero, List.drop_succ_cons, List.drop_nil, kc_i, kc_s, rl_s, ol_i, ol_s, kc_p, m_lf, m_ag, m_tp, m_1l, m_1a, m_n, m_c, m_all, st_b, d_n, d_c, Nat.zero_add]
  refine wcall_s (r13 t) rfl rfl ?_
  simp -implicitDefEqProofs (maxSteps := 2000000) only [c3, ↓reduceIte, s_ops0, s_seq, s_opsK, s_seqK_n, s_nil, s_cons, s_wopsK, s_putK, o_mv, o_as, o_ext, v_ext0, v_ext1, o_al, o_st, v_st_p, v_stCK, o_call, e_t, e_put, e_get, e_res, e_keep_n, e_keep_c, e_keep1_s, e_asg_s, List.length_nil, List.length_cons, Option.getD_some, Nat.reduceEqDiff, Nat.reduceAdd, reduceCtorEq, true_and, Bool.false_eq_true, St.clr, outV, ownsV, owns1, ownL, List.map_cons, List.map_nil, List.any_cons, List.any_nil, Bool.or_self, PV.leaves, List.flatMap_cons, List.flatMap_nil, List.append_nil, List.nil_append, List.all_cons, List.all_nil, Bool.true_and, Bool.and_self, PV.cells, cellL, fillL, Nat.reduceBEq, Nat.zero_le, Nat.le_refl, List.take_zero, List.drop_succ_cons, List.drop_nil, kc_i, kc_s, rl_s, ol_i, ol_s, kc_p, m_lf, m_ag, m_tp, m_1l, m_1a, m_n, m_c, m_all, st_b, d_n, d_c, Nat.zero_add]
  refine wcall_s (r14 t) rfl rfl ?_
  simp -implicitDefEqProofs (maxSteps := 2000000) only [c3, ↓reduceIte, s_ops0, s_seq, s_opsK, s_seqK_n, s_nil, s_cons, s_wopsK, s_putK, o_mv, o_as, o_ext, v_ext0, v_ext1, o_al, o_st, v_st_p, v_stCK, o_call, e_t, e_put, e_get, e_res, e_keep_n, e_keep_c, e_keep1_s, e_asg_s, List.length_nil, List.length_cons, Option.getD_some, Nat.reduceEqDiff, Nat.reduceAdd, reduceCtorEq, true_and, Bool.false_eq_true, St.clr, outV, ownsV, owns1, ownL, List.map_cons, List.map_nil, List.any_cons, List.any_nil, Bool.or_self, PV.leaves, List.flatMap_nil, List.append_nil, List.nil_append, List.all_cons, List.all_nil, Bool.true_and, Bool.and_self, PV.cells, cellL, fillL, Nat.reduceBEq, Nat.zero_le, Nat.le_refl, List.take_zero, List.drop_succ_cons, List.drop_nil, kc_i, kc_s, ol_i, ol_s, kc_p, m_lf, m_ag, m_tp, m_1l, m_1a, m_n, m_c, m_all, st_b, d_n, d_c, Nat.zero_add]
  refine wcall_s r15 rfl rfl ?_
  simp -implicitDefEqProofs (maxSteps := 2000000) only [c3, ↓reduceIte, s_ret, s_opsK, s_seqK_n, s_nil, s_cons, s_guard, s_wopsK, s_putK, s_grd, q_mv, q_bin, q_beq, q_ld, o_mv, o_as, o_pk, v_pk, o_bin, v_eql, v_seql, o_beq, v_part_t, o_ld, v_ld_p, v_ldC, e_t, e_k, e_put, e_get, e_res, e_keep_n, e_keep_c, e_keep1_s, e_asg_b, List.length_nil, List.length_cons, Option.getD_some, Nat.reduceEqDiff, Nat.reduceAdd, and_true, cond_false, Bool.false_eq_true, decide_eq_true_eq, s_ret_r, s_retX, s_cells_n, t_lf, t_b, r_n, r_t, r_cons, one_1, St.clr, outV, ownsV, owns1, ownL, List.map_cons, List.map_nil, Bool.and_true, Bool.and_self, Nat.le_refl, List.drop_zero, List.take_succ_cons, List.take_nil, ol_b, m_lf, Nat.zero_add, v_beqK, v_andO, v_beqA, q_i, q_1, q_c, kd_i]
end Go.Proofs.Ytomlkmnklonbpaa.Q
