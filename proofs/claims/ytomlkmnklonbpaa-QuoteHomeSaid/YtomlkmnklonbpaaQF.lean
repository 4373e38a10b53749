/- Contracts, part QF. -/
import Derived.Test.YtomlkmnklonbpaaQE
import Derived.Test.YtomlkmnklonbpaaQ4
import Derived.Test.YtomlkmnklonbpaaQC
import Derived.Test.YtomlkmnklonbpaaQ8
set_option linter.unusedVariables false
set_option linter.unusedSimpArgs false
namespace Go.Proofs.Ytomlkmnklonbpaa.Q
open Go Go.Proofs.Ytomlkmnklonbpaa.AM
theorem eq10 : ∀ c : UInt8, (c.toNat : Int) = 10 → c = 10 := all8 (by decide +kernel)
theorem r53 (s : ByteArray) : R cx0 Try.prog 53 [.lf (.str s), .lf (.int .u8 10)] [] (.lf (.int .i64 (idx s.data.toList))) [] := by
  refine R_i [] [] c53_ok rfl (by simp) ?_
  simp -implicitDefEqProofs (maxSteps := 2000000) only [c53, ↓reduceIte, s_ret, s_ops0, s_seq, s_opsK, s_seqK_n, s_nil, s_cons, s_wopsK, s_putK, o_mv, o_as, e_t, e_k, e_put, e_get, e_res, e_keep_n, e_keep_c, e_keep1_s, e_asg_i, St.init, enum, List.length_nil, Option.getD_some, Nat.reduceEqDiff, reduceCtorEq, true_and, and_true, s_ret_r, s_retX, s_cells_n, t_lf, t_i, r_n, r_t, r_cons, one_1, List.map_cons, List.map_nil, Bool.and_true, Bool.true_and, Nat.zero_add, o_ex, v_exK, v_ex2]
  rfl
theorem r48 (s : ByteArray) : R cx0 Try.prog 48 [.lf (.str s), .lf (.int .u8 10)] [] (.lf (.int .i64 (idx s.data.toList))) [] := by
  refine R_i [] [] c48_ok rfl (by simp) ?_
  simp -implicitDefEqProofs (maxSteps := 2000000) only [c48, ↓reduceIte, s_ops0, s_seq, s_opsK, s_seqK_n, s_nil, s_cons, s_wopsK, o_mv, o_as, o_call, e_t, e_k, e_put, e_get, e_res, e_keep_n, e_keep_c, e_keep1_s, e_asg_i, St.init, enum, List.length_nil, Option.getD_some, Nat.reduceEqDiff, reduceCtorEq, List.map_cons, List.map_nil, PV.leaves, List.flatMap_cons, List.flatMap_nil, List.append_nil, List.cons_append, List.nil_append, rl_i, rl_s, m_lf, Nat.zero_add]
  refine wcall_s (r53 s) rfl rfl ?_
  simp -implicitDefEqProofs (maxSteps := 2000000) only [c48, ↓reduceIte, s_ret, s_opsK, s_seqK_n, s_nil, s_cons, s_wopsK, o_as, e_t, e_put, e_get, e_res, e_keep_n, e_keep_c, e_keep1_s, e_asg_i, Option.getD_some, and_true, Bool.false_eq_true, s_ret_r, s_retX, s_cells_n, t_lf, t_i, r_n, r_t, r_cons, one_1, St.clr, outV, ownsV, owns1, ownL, Bool.and_true, ol_i, m_lf]
theorem r33 (s : ByteArray) : R cx0 Try.prog 33 [.lf (.str s), .lf (.str ⟨#[10]⟩)] [] (.lf (.int .i64 (s.data.toList.count 10 : Nat))) [] := by
  refine R_i [] [] c33_ok rfl (by simp) ?_
  simp -implicitDefEqProofs (maxSteps := 2000000) only [c33, ↓reduceIte, s_skip, s_ret, s_ops0, s_seq, s_cond, s_block, s_loop, s_opsK, s_seqK_n, s_seqK_r, s_cnd, s_nil, s_cons, s_wopsK, s_putK, o_mv, o_as, o_bin, v_eql, o_ixs, v_ixs, o_lns, v_lns, o_call, e_t, e_k, e_put, e_get, e_res, e_keep_n, e_keep_c, e_keep1_s, e_asg_i, St.init, enum, List.length_nil, List.length_cons, Option.getD_some, Nat.reduceEqDiff, reduceCtorEq, true_and, and_true, decide_eq_true_eq, s_ret_r, s_retX, s_cells_n, t_lf, t_i, r_n, r_t, r_cons, one_1, List.map_cons, List.map_nil, PV.leaves, List.flatMap_cons, List.flatMap_nil, List.append_nil, Bool.and_true, Bool.true_and, rl_s, m_lf, e_head, e_headK, kC_n, pO_n, pO_i, pO_s, List.range_zero, Nat.zero_add, o_ex, v_exK, v_ex1, ba_size]
  exact ⟨by omega, rfl⟩
theorem r49 (s : ByteArray) (hs : s.size ≤ 1000000) : R cx0 Try.prog 49 [.lf (.str s), .lf (.int .u8 10)] [] (.lf (.int .i64 (lastK s.data.toList s.size))) [] := by
  refine R_i [] [] c49_ok rfl (by simp) ?_
  have key : ∀ k : Nat, k ≤ s.size → lastK s.data.toList s.size = lastK s.data.toList k → LoopAt cx0 Try.prog c49_7 [0, 1, 5] (blkK 0 (seqK cx0 Try.prog c49_11 (retS [] [] 0 [RV.t 4] (PV.lf (L.int IntKind.i64 (lastK s.data.toList s.size))) [])))
      { m := 0, tm := [(0, PV.lf (L.str s)), (1, PV.lf (L.int IntKind.u8 10)), (5, PV.lf (L.int IntKind.i64 ((k : Int) - 1)))], ce := [] } := by
    intro k
    induction k with
    | zero =>
      intro hk he Z hZ
      apply hZ
      simp -implicitDefEqProofs (maxSteps := 2000000) only [c49, ↓reduceIte, s_skip, s_exit, s_ret, s_ops0, s_seq, s_cond, s_block, s_opsK, s_seqK_n, s_seqK_e, s_seqK_r, s_blkK_n, s_blkK_e, s_blkK_r, s_loopK_n, s_loopK_e, s_loopK_r, s_cnd, s_nil, s_cons, s_wopsK, s_putK, o_mv, o_as, o_bin, v_sub, v_eql, v_geq, o_ixs, v_ixs, e_t, e_k, e_put, e_get, e_res, e_keep_n, e_keep_c, e_keep1_s, e_asg_i, Option.getD_some, Nat.reduceEqDiff, reduceCtorEq, true_and, and_true, decide_eq_true_eq, s_ret_r, s_retX, s_cells_n, t_lf, t_i, r_n, r_t, r_cons, one_1, List.append_nil, Bool.and_true, Bool.true_and, e_head, e_headK, kC_n, pO_n, pO_i, pO_s, List.range_zero, Int.reduceNeg]
      rw [if_neg (by omega), he]; rfl
    | succ k ih =>
      intro hk he Z hZ
      apply hZ
      have hb : byteAt s (((k + 1 : Nat) : Int) - 1) = ((s.data.toList.getD k 0).toNat : Int) := by unfold byteAt; rw [show (((k + 1 : Nat) : Int) - 1).toNat = k by omega]
      simp -implicitDefEqProofs (maxSteps := 2000000) only [c49, ↓reduceIte, s_skip, s_exit, s_ret, s_ops0, s_seq, s_cond, s_block, s_opsK, s_seqK_n, s_seqK_e, s_seqK_r, s_blkK_n, s_blkK_e, s_blkK_r, s_loopK_n, s_loopK_e, s_loopK_r, s_cnd, s_nil, s_cons, s_wopsK, s_putK, o_mv, o_as, o_bin, v_sub, v_eql, v_geq, o_ixs, v_ixs, e_t, e_k, e_put, e_get, e_res, e_keep_n, e_keep_c, e_keep1_s, e_asg_i, Option.getD_some, Nat.reduceEqDiff, reduceCtorEq, true_and, and_true, decide_eq_true_eq, s_ret_r, s_retX, s_cells_n, t_lf, t_i, r_n, r_t, r_cons, one_1, List.append_nil, Bool.and_true, Bool.true_and, e_head, e_headK, kC_n, pO_n, pO_i, pO_s, List.range_zero, Int.reduceNeg]
      rw [if_pos (by omega), hb]
      refine ⟨by omega, ?_⟩
      with_reducible refine ite_pr (fun h => ?_) (fun h => ?_)
      · have h' : s.data.toList.getD k 0 = 10 := eq10 _ h
        rw [he]; simp only [lastK]; rw [if_pos h']; omega
      · have h' : ¬ s.data.toList.getD k 0 = 10 := fun e => h (by rw [e]; rfl)
        have ih' := ih (by omega) (by rw [he]; simp only [lastK]; rw [if_neg h']) Z hZ
        rw [w64 (by omega) (by omega)]
        rw [show (((k + 1 : Nat) : Int) - 1 - 1) = (k : Int) - 1 by omega]
        exact ih'
  simp -implicitDefEqProofs (maxSteps := 2000000) only [c49, ↓reduceIte, s_ops0, s_seq, s_block, s_loop, s_opsK, s_seqK_n, s_nil, s_cons, s_wopsK, s_putK, o_mv, o_as, o_bin, v_sub, o_lns, v_lns, e_t, e_k, e_put, e_get, e_res, e_keep_n, e_keep_c, e_keep1_s, e_asg_i, St.init, enum, List.length_nil, Option.getD_some, Nat.reduceEqDiff, reduceCtorEq, List.append_nil, e_head, e_headK, kC_n, pO_n, pO_i, pO_s, List.range_zero, Nat.zero_add]
  rw [w64 (by omega) (by omega)]
  exact key s.size (Nat.le_refl _) rfl
theorem r37 (s : ByteArray) (hs : s.size ≤ 1000000) : R cx0 Try.prog 37 [.lf (.str s), .lf (.int .u8 10)] [] (.lf (.int .i64 (lastK s.data.toList s.size))) [] := by
  refine R_i [] [] c37_ok rfl (by simp) ?_
  simp -implicitDefEqProofs (maxSteps := 2000000) only [c37, ↓reduceIte, s_ops0, s_seq, s_opsK, s_seqK_n, s_nil, s_cons, s_wopsK, o_mv, o_as, o_call, e_t, e_k, e_put, e_get, e_res, e_keep_n, e_keep_c, e_keep1_s, e_asg_i, St.init, enum, List.length_nil, Option.getD_some, Nat.reduceEqDiff, reduceCtorEq, List.map_cons, List.map_nil, PV.leaves, List.flatMap_cons, List.flatMap_nil, List.append_nil, List.cons_append, List.nil_append, rl_i, rl_s, m_lf, Nat.zero_add]
  refine wcall_s (r49 s hs) rfl rfl ?_
  simp -implicitDefEqProofs (maxSteps := 2000000) only [c37, ↓reduceIte, s_ret, s_opsK, s_seqK_n, s_nil, s_cons, s_wopsK, o_as, e_t, e_put, e_get, e_res, e_keep_n, e_keep_c, e_keep1_s, e_asg_i, Option.getD_some, and_true, Bool.false_eq_true, s_ret_r, s_retX, s_cells_n, t_lf, t_i, r_n, r_t, r_cons, one_1, St.clr, outV, ownsV, owns1, ownL, Bool.and_true, ol_i, m_lf]
theorem count_le (l : List UInt8) : l.count 10 ≤ l.length := List.count_le_length ..
def nLines (t : ByteArray) : Int := if 65536 < t.size then 0 else (t.data.toList.count 10 : Nat) + 1
def nErr (t : ByteArray) : Int := if 65536 < t.size then 2 else 0
theorem r18 (t : ByteArray) : R cx0 Try.prog 18 [.lf (.str t)] [] (.tp [.lf (.int .i64 (nLines t)), .lf (.int .i64 (nErr t))]) [] := by
  refine R_i [] [] c18_ok rfl (by simp) ?_
  have hc := count_le t.data.toList
  rw [size_len] at hc
  simp -implicitDefEqProofs (maxSteps := 2000000) only [c18, ↓reduceIte, s_skip, s_ret, s_ops0, s_seq, s_cond, s_opsK, s_seqK_n, s_seqK_r, s_cnd, s_nil, s_cons, s_wopsK, s_putK, o_mv, o_as, o_bin, v_gtr, o_lns, v_lns, o_call, e_t, e_k, e_put, e_get, e_res, e_keep_n, e_keep_c, e_keep1_s, e_asg_i, St.init, enum, List.length_nil, Option.getD_some, Nat.reduceEqDiff, reduceCtorEq, true_and, and_true, decide_eq_true_eq, s_ret_r, s_retX, s_cells_n, t_tp, t_n, t_c, t_1l, t_i, r_n, r_t, r_cons, one_2, List.map_cons, List.map_nil, PV.leaves, List.flatMap_cons, List.flatMap_nil, List.append_nil, List.cons_append, List.nil_append, Bool.and_true, Bool.true_and, rl_s, m_lf]
  with_reducible refine ite_pr (fun h => ?_) (fun h => ?_)
  · unfold nLines nErr; rw [if_pos (by omega), if_pos (by omega)]; exact ⟨rfl, rfl⟩
  · refine wcall_s (r33 t) rfl rfl ?_
    simp -implicitDefEqProofs (maxSteps := 2000000) only [c18, ↓reduceIte, s_ret, s_opsK, s_seqK_n, s_nil, s_cons, s_wopsK, s_putK, o_as, o_bin, v_add, e_t, e_k, e_put, e_get, e_res, e_keep_n, e_keep_c, e_keep1_s, e_asg_i, Option.getD_some, Nat.reduceEqDiff, true_and, and_true, Bool.false_eq_true, s_ret_r, s_retX, s_cells_n, t_tp, t_n, t_c, t_1l, t_i, r_n, r_t, r_cons, one_2, St.clr, outV, ownsV, owns1, ownL, Bool.and_true, Bool.true_and, ol_i, m_lf]
    unfold nLines nErr; rw [if_neg (by omega), if_neg (by omega), w64 (by omega) (by omega)]; exact ⟨rfl, rfl⟩
theorem r19 (t : ByteArray) : R cx0 Try.prog 19 [.lf (.str t)] [] (.tp [.lf (.int .i64 (nLines t)), .lf (.int .i64 (nErr t))]) [] := by
  refine R_i [] [] c19_ok rfl (by simp) ?_
  have key : t.size ≤ 65536 → ∀ (n k : Nat), k + n = t.size → LoopAt cx0 Try.prog c19_9 [0, 4, 5] (blkK 0 (seqK cx0 Try.prog c19_13 (retS [] [] 0 [RV.t 2, RV.t 3] (PV.tp [.lf (.int .i64 (nLines t)), .lf (.int .i64 (nErr t))]) [])))
      { m := 0, tm := [(0, PV.lf (L.str t)), (4, PV.lf (L.int IntKind.i64 ((t.data.toList.take k).count 10 + 1 : Nat))), (5, PV.lf (L.int IntKind.i64 (k : Int)))], ce := [] } := by
    intro hs n
    induction n with
    | zero =>
      intro k hk Z hZ
      apply hZ
      simp -implicitDefEqProofs (maxSteps := 2000000) only [c19, ↓reduceIte, s_skip, s_exit, s_ret, s_ops0, s_seq, s_cond, s_block, s_opsK, s_seqK_n, s_seqK_e, s_blkK_n, s_blkK_e, s_loopK_n, s_loopK_e, s_cnd, s_nil, s_cons, s_wopsK, s_putK, o_mv, o_as, o_bin, v_add, v_eql, v_lss, o_ixs, v_ixs, o_lns, v_lns, e_t, e_k, e_put, e_get, e_res, e_keep_n, e_keep_c, e_keep1_s, e_asg_i, Option.getD_some, Nat.reduceEqDiff, reduceCtorEq, true_and, and_true, decide_eq_true_eq, s_ret_r, s_retX, s_cells_n, t_tp, t_n, t_c, t_1l, t_i, r_n, r_t, r_cons, one_2, List.append_nil, Bool.and_true, Bool.true_and, e_head, e_headK, kC_n, pO_n, pO_i, pO_s, List.range_zero]
      rw [if_neg (by omega)]
      unfold nLines nErr; rw [if_neg (by omega), if_neg (by omega), List.take_of_length_le (by rw [size_len]; omega)]; exact ⟨rfl, rfl⟩
    | succ n ih =>
      intro k hk Z hZ
      apply hZ
      have ih' := ih (k + 1) (by omega) Z hZ
      have hl : k < t.data.toList.length := by rw [size_len]; omega
      rw [take_count _ _ hl] at ih'
      have hb : byteAt t (k : Int) = ((t.data.toList.getD k 0).toNat : Int) := rfl
      have hc := count_le (t.data.toList.take k)
      have hc2 : (t.data.toList.take k).length ≤ k := by simp; omega
      simp -implicitDefEqProofs (maxSteps := 2000000) only [c19, ↓reduceIte, s_skip, s_exit, s_ret, s_ops0, s_seq, s_cond, s_block, s_opsK, s_seqK_n, s_seqK_e, s_blkK_n, s_blkK_e, s_loopK_n, s_loopK_e, s_cnd, s_nil, s_cons, s_wopsK, s_putK, o_mv, o_as, o_bin, v_add, v_eql, v_lss, o_ixs, v_ixs, o_lns, v_lns, e_t, e_k, e_put, e_get, e_res, e_keep_n, e_keep_c, e_keep1_s, e_asg_i, Option.getD_some, Nat.reduceEqDiff, reduceCtorEq, true_and, and_true, decide_eq_true_eq, s_ret_r, s_retX, s_cells_n, t_tp, t_n, t_c, t_1l, t_i, r_n, r_t, r_cons, one_2, List.append_nil, Bool.and_true, Bool.true_and, e_head, e_headK, kC_n, pO_n, pO_i, pO_s, List.range_zero]
      rw [if_pos (by omega), hb]
      refine ⟨by omega, ?_⟩
      rw [w64 (x := (k : Int) + 1) (by omega) (by omega)]
      with_reducible refine ite_pr (fun h => ?_) (fun h => ?_)
      · have h' : t.data.toList.getD k 0 = 10 := eq10 _ h
        rw [if_pos h'] at ih'
        rw [w64 (by omega) (by omega)]
        exact ih'
      · have h' : ¬ t.data.toList.getD k 0 = 10 := fun e => h (by rw [e]; rfl)
        rw [if_neg h'] at ih'
        exact ih'
  simp -implicitDefEqProofs (maxSteps := 2000000) only [c19, ↓reduceIte, s_skip, s_ret, s_ops0, s_seq, s_cond, s_block, s_loop, s_opsK, s_seqK_n, s_seqK_r, s_cnd, s_nil, s_cons, s_wopsK, s_putK, o_mv, o_as, o_bin, v_gtr, o_lns, v_lns, e_t, e_k, e_put, e_get, e_res, e_keep_n, e_keep_c, e_keep1_s, e_asg_i, St.init, enum, List.length_nil, Option.getD_some, Nat.reduceEqDiff, reduceCtorEq, true_and, and_true, decide_eq_true_eq, s_ret_r, s_retX, s_cells_n, t_tp, t_n, t_c, t_1l, t_i, r_n, r_t, r_cons, one_2, List.append_nil, Bool.and_true, Bool.true_and, e_head, e_headK, kC_n, pO_n, pO_i, pO_s, List.range_zero]
  with_reducible refine ite_pr (fun h => ?_) (fun h => ?_)
  · unfold nLines nErr; rw [if_pos (by omega), if_pos (by omega)]; exact ⟨rfl, rfl⟩
  · exact key (by omega) t.size 0 (by omega)
/-- A line's place. -/
def lineOf (t : ByteArray) (n : Int) : Option (Nat × Nat) := if n < 1 then none else go t.data.toList 0 0 (n - 1).toNat
def ofst (x : Option (Nat × Nat)) : Int := ((x.map (·.1)).getD 0 : Nat)
def osnd (x : Option (Nat × Nat)) : Int := ((x.map (·.2)).getD 0 : Nat)
theorem r34 (t : ByteArray) (n : Int) (hs : t.size ≤ 65536) (h0 : -9223372036854775808 ≤ n) (h1 : n ≤ 9223372036854775807) : R cx0 Try.prog 34 [.lf (.str t), .lf (.int .i64 n)] [] (.tp [.lf (.int .i64 (ofst (lineOf t n))), .lf (.bool (lineOf t n).isSome)]) [] := by
  refine R_i [] [] c34_ok rfl (by simp) ?_
  have key : 1 ≤ n → ∀ (m f : Nat) (i : Int), t.size - f < m → f ≤ t.size → 0 ≤ i → i ≤ n - 1 → lineOf t n = go (t.data.toList.drop f) f f (n - 1 - i).toNat → LoopAt cx0 Try.prog c34_12 [0, 6, 11, 12] (blkK 0 (seqK cx0 Try.prog c34_16 (retS [] [] 0 [RV.t 4, RV.t 5] (PV.tp [.lf (.int .i64 (ofst (lineOf t n))), .lf (.bool (lineOf t n).isSome)]) [])))
      { m := 0, tm := [(0, PV.lf (L.str t)), (6, PV.lf (L.int IntKind.i64 (f : Int))), (11, PV.lf (L.int IntKind.i64 (n - 1))), (12, PV.lf (L.int IntKind.i64 i))], ce := [] } := by
    intro hn m
    induction m with
    | zero => intro f i hm; omega
    | succ m ih =>
      intro f i hm hf hi0 hi1 he Z hZ
      apply hZ
      have hx := idx_lt (t.data.toList.drop f)
      have hg := idx_ge (t.data.toList.drop f)
      rw [List.length_drop, size_len] at hx
      have hext : (t.extract f t.size).data.toList = t.data.toList.drop f := by rw [ba_ext, List.take_of_length_le (by rw [size_len]; omega)]
      simp -implicitDefEqProofs (maxSteps := 2000000) only [c34, ↓reduceIte, s_skip, s_exit, s_ret, s_ops0, s_seq, s_cond, s_block, s_opsK, s_seqK_n, s_seqK_e, s_blkK_e, s_loopK_e, s_cnd, s_nil, s_cons, s_wopsK, s_putK, o_mv, o_as, o_bin, v_lss, o_sls, v_sls_b, o_call, e_t, e_k, e_put, e_get, e_res, e_keep_n, e_keep_c, e_keep1_s, e_asg_b, e_asg_i, Option.getD_some, Option.map_some, Option.map_none, Nat.reduceEqDiff, reduceCtorEq, true_and, and_true, decide_eq_true_eq, s_ret_r, s_retX, s_cells_n, t_tp, t_n, t_c, t_1l, t_b, t_i, r_n, r_t, r_cons, one_2, List.map_cons, List.map_nil, PV.leaves, List.flatMap_cons, List.flatMap_nil, List.append_nil, List.cons_append, List.nil_append, Bool.and_true, Bool.true_and, rl_i, rl_s, m_lf]
      with_reducible refine ite_pr (fun h => ?_) (fun h => ?_)
      · refine ⟨by omega, wcall_s (r48 _) rfl rfl ?_⟩
        rw [Int.toNat_natCast, hext]
        simp -implicitDefEqProofs (maxSteps := 2000000) only [c34, ↓reduceIte, s_skip, s_ret, s_ops0, s_seq, s_cond, s_opsK, s_seqK_n, s_seqK_r, s_blkK_n, s_blkK_r, s_loopK_n, s_loopK_r, s_cnd, s_nil, s_cons, s_wopsK, s_putK, o_mv, o_as, o_bin, v_add, v_lss, e_t, e_k, e_put, e_get, e_res, e_keep_n, e_keep_c, e_keep1_s, e_asg_b, e_asg_i, Option.getD_some, Nat.reduceEqDiff, reduceCtorEq, true_and, and_true, Bool.false_eq_true, decide_eq_true_eq, s_ret_r, s_retX, s_cells_n, t_tp, t_n, t_c, t_1l, t_b, t_i, r_n, r_t, r_cons, one_2, St.clr, outV, ownsV, owns1, ownL, List.append_nil, Bool.and_true, Bool.true_and, ol_i, m_lf, e_head, e_headK, kC_n, pO_n, pO_i, pO_s, List.range_zero]
        with_reducible refine ite_pr (fun h2 => ?_) (fun h2 => ?_)
        · have e := go_none (t.data.toList.drop f) f f (n - 1 - i).toNat (by omega)
          rw [he, e, if_neg (by omega)]
          exact ⟨rfl, rfl⟩
        · have e := go_some (t.data.toList.drop f) f f (n - 1 - i).toNat (by omega)
          rw [if_neg (by omega), List.drop_drop] at e
          have e2 : (n - 1 - i).toNat - 1 = (n - 1 - (i + 1)).toNat := by omega
          have e3 : f + ((idx (t.data.toList.drop f)).toNat + 1) = f + (idx (t.data.toList.drop f)).toNat + 1 := by omega
          rw [e2, e3] at e
          have ih' := ih (f + (idx (t.data.toList.drop f)).toNat + 1) (i + 1) (by omega) (by omega) (by omega) (by omega) (he.trans e) Z hZ
          rw [w64 (x := i + 1) (by omega) (by omega), w64 (x := idx (t.data.toList.drop f) + 1) (by omega) (by omega), w64 (by omega) (by omega)]
          have e4 : ((f + (idx (t.data.toList.drop f)).toNat + 1 : Nat) : Int) = (f : Int) + (idx (t.data.toList.drop f) + 1) := by omega
          rw [e4] at ih'
          exact ih'
      · have e5 : (n - 1 - i).toNat = 0 := by omega
        rw [e5] at he
        have hs' := (go_isSome (t.data.toList.drop f) 0 f f).2 (Nat.zero_le _)
        obtain ⟨⟨F', T'⟩, h1⟩ := Option.isSome_iff_exists.1 hs'
        have : F' = f := by
          by_cases hi2 : idx (t.data.toList.drop f) = -1
          · rw [go_none _ _ _ _ hi2] at h1; simp at h1; exact h1.1.symm
          · rw [go_some _ _ _ _ (by omega)] at h1; simp at h1; exact h1.1.symm
        subst this
        rw [he, h1]
        exact ⟨rfl, rfl⟩
  simp -implicitDefEqProofs (maxSteps := 2000000) only [c34, ↓reduceIte, s_skip, s_ret, s_ops0, s_seq, s_cond, s_block, s_loop, s_opsK, s_seqK_n, s_seqK_r, s_cnd, s_nil, s_cons, s_wopsK, s_putK, o_mv, o_as, o_bin, v_sub, v_lss, e_t, e_k, e_put, e_get, e_res, e_keep_n, e_keep_c, e_keep1_s, e_asg_b, e_asg_i, St.init, enum, List.length_nil, Option.getD_some, Nat.reduceEqDiff, reduceCtorEq, true_and, and_true, decide_eq_true_eq, s_ret_r, s_retX, s_cells_n, t_tp, t_n, t_c, t_1l, t_b, t_i, r_n, r_t, r_cons, one_2, List.append_nil, Bool.and_true, Bool.true_and, e_head, e_headK, kC_n, pO_n, pO_i, pO_s, List.range_zero, Nat.zero_add]
  with_reducible refine ite_pr (fun h => ?_) (fun h => ?_)
  · unfold lineOf; rw [if_pos h]; exact ⟨rfl, rfl⟩
  · rw [w64 (by omega) (by omega)]
    refine key (by omega) (t.size + 1) 0 0 (by omega) (by omega) (by omega) (by omega) ?_
    unfold lineOf; rw [if_neg h]; simp
theorem r35 (t : ByteArray) (F T : Nat) (hs : t.size ≤ 65536) (hn : F ≤ t.size) (h : go (t.data.toList.drop F) F F 0 = some (F, T)) : R cx0 Try.prog 35 [.lf (.str t), .lf (.int .i64 (F : Int))] [] (.lf (.str (t.extract F T))) [] := by
  refine R_i [] [] c35_ok rfl (by simp) ?_
  have hx := idx_lt (t.data.toList.drop F)
  have hg := idx_ge (t.data.toList.drop F)
  rw [List.length_drop, size_len] at hx
  have hext : (t.extract F t.size).data.toList = t.data.toList.drop F := by rw [ba_ext, List.take_of_length_le (by rw [size_len]; omega)]
  simp -implicitDefEqProofs (maxSteps := 2000000) only [c35, ↓reduceIte, s_ops0, s_seq, s_opsK, s_seqK_n, s_nil, s_cons, s_wopsK, s_putK, o_mv, o_as, o_sls, v_sls_b, o_call, e_t, e_k, e_put, e_get, e_res, e_keep_n, e_keep_c, e_keep1_s, e_asg_s, St.init, enum, List.length_nil, Option.getD_some, Option.map_some, Option.map_none, Nat.reduceEqDiff, reduceCtorEq, List.map_cons, List.map_nil, PV.leaves, List.flatMap_cons, List.flatMap_nil, List.append_nil, List.cons_append, List.nil_append, rl_i, rl_s, m_lf, Nat.zero_add]
  refine ⟨by omega, wcall_s (r48 _) rfl rfl ?_⟩
  rw [Int.toNat_natCast, hext]
  simp -implicitDefEqProofs (maxSteps := 2000000) only [c35, ↓reduceIte, s_skip, s_ret, s_ops0, s_seq, s_cond, s_opsK, s_seqK_n, s_seqK_r, s_cnd, s_nil, s_cons, s_wopsK, s_putK, o_mv, o_as, o_bin, v_add, v_geq, o_sls, v_sls_b, v_sls_d, e_t, e_k, e_put, e_get, e_res, e_keep_n, e_keep_c, e_keep1_s, e_asg_i, e_asg_s, Option.getD_some, Option.map_some, Option.map_none, Nat.reduceEqDiff, reduceCtorEq, true_and, and_true, Bool.false_eq_true, decide_eq_true_eq, s_ret_r, s_retX, s_cells_n, t_lf, t_s, r_n, r_t, r_cons, one_1, St.clr, outV, ownsV, owns1, ownL, Bool.and_true, Bool.true_and, ol_i, m_lf]
  with_reducible refine ite_pr (fun h2 => ?_) (fun h2 => ?_)
  · rw [go_some _ _ _ _ (by omega)] at h
    simp only [if_true, Option.some.injEq, Prod.mk.injEq, true_and] at h
    rw [w64 (by omega) (by omega)]
    refine ⟨by omega, ?_⟩
    rw [← h]; congr 1; omega
  · rw [go_none _ _ _ _ (by omega)] at h
    simp only [if_true, Option.some.injEq, Prod.mk.injEq, true_and, List.length_drop] at h
    refine ⟨by omega, ?_⟩
    rw [← h]; congr 1; simp; omega
theorem r36 (t : ByteArray) (n : Int) (hs : t.size ≤ 65536) : R cx0 Try.prog 36 [.lf (.str t), .lf (.int .i64 n)] [] (.tp [.lf (.int .i64 (ofst (lineOf t n))), .lf (.int .i64 (osnd (lineOf t n))), .lf (.bool (lineOf t n).isSome)]) [] := by
  refine R_i [] [] c36_ok rfl (by simp) ?_
  have key : ∀ (m p f k : Nat), p + m = t.size + 1 → f ≤ p → k ≤ p → (n < (k : Int) + 1 → lineOf t n = none) → ((k : Int) + 1 ≤ n → p ≤ t.size → lineOf t n = go (t.data.toList.drop p) p f (n - 1 - k).toNat) → ((k : Int) + 1 ≤ n → p = t.size + 1 → lineOf t n = none) →
      LoopAt cx0 Try.prog c36_12 [0, 1, 7, 8, 9] (blkK 0 (seqK cx0 Try.prog c36_16 (retS [] [] 0 [RV.t 4, RV.t 5, RV.t 6]
        (PV.tp [.lf (.int .i64 (ofst (lineOf t n))), .lf (.int .i64 (osnd (lineOf t n))), .lf (.bool (lineOf t n).isSome)]) [])))
      { m := 0, tm := [(0, PV.lf (L.str t)), (1, PV.lf (L.int IntKind.i64 n)), (7, PV.lf (L.int IntKind.i64 (f : Int))), (8, PV.lf (L.int IntKind.i64 ((k : Int) + 1))), (9, PV.lf (L.int IntKind.i64 (p : Int)))], ce := [] } := by
    intro m
    induction m with
    | zero =>
      intro p f k hm hf hk h1 h2 h3 Z hZ
      apply hZ
      simp -implicitDefEqProofs (maxSteps := 2000000) only [c36, ↓reduceIte, s_skip, s_exit, s_ret, s_ops0, s_seq, s_cond, s_block, s_opsK, s_seqK_n, s_seqK_e, s_seqK_r, s_blkK_n, s_blkK_e, s_blkK_r, s_loopK_n, s_loopK_e, s_loopK_r, s_cnd, s_nil, s_cons, s_guard, s_wopsK, s_putK, s_grd, q_mv, q_bin, q_ixs, o_mv, o_as, o_pk, v_pk, o_bin, v_add, v_eql, v_neq, v_lss, v_leq, o_ixs, v_ixs, o_lns, v_lns, e_t, e_k, e_put, e_get, e_res, e_keep_n, e_keep_c, e_keep1_s, e_asg_b, e_asg_i, Option.getD_some, Nat.reduceEqDiff, reduceCtorEq, true_and, and_true, cond_false, Bool.not_true, Bool.false_eq_true, decide_eq_true_eq, s_ret_r, s_retX, s_cells_n, t_tp, t_n, t_c, t_1l, t_b, t_i, r_n, r_t, r_cons, one_2, List.append_nil, Bool.and_true, Bool.true_and, e_head, e_headK, kC_n, pO_n, pO_i, pO_s, List.range_zero, ne_eq, ite_not]
      rw [if_neg (by omega)]
      have : lineOf t n = none := by
        by_cases h : n < (k : Int) + 1
        · exact h1 h
        · exact h3 (by omega) (by omega)
      rw [this]; exact ⟨rfl, rfl, rfl⟩
    | succ m ih =>
      intro p f k hm hf hk h1 h2 h3 Z hZ
      apply hZ
      have hb : byteAt t (p : Int) = ((t.data.toList.getD p 0).toNat : Int) := rfl
      simp -implicitDefEqProofs (maxSteps := 2000000) only [c36, ↓reduceIte, s_skip, s_exit, s_ret, s_ops0, s_seq, s_cond, s_block, s_opsK, s_seqK_n, s_seqK_e, s_seqK_r, s_blkK_n, s_blkK_e, s_blkK_r, s_loopK_n, s_loopK_e, s_loopK_r, s_cnd, s_nil, s_cons, s_guard, s_wopsK, s_putK, s_grd, q_mv, q_bin, q_ixs, o_mv, o_as, o_pk, v_pk, o_bin, v_add, v_eql, v_neq, v_lss, v_leq, o_ixs, v_ixs, o_lns, v_lns, e_t, e_k, e_put, e_get, e_res, e_keep_n, e_keep_c, e_keep1_s, e_asg_b, e_asg_i, Option.getD_some, Nat.reduceEqDiff, reduceCtorEq, true_and, and_true, cond_false, Bool.not_true, Bool.false_eq_true, decide_eq_true_eq, s_ret_r, s_retX, s_cells_n, t_tp, t_n, t_c, t_1l, t_b, t_i, r_n, r_t, r_cons, one_2, List.append_nil, Bool.and_true, Bool.true_and, e_head, e_headK, kC_n, pO_n, pO_i, pO_s, List.range_zero, ne_eq, ite_not]
      rw [if_pos (by omega), hb, w64 (x := (p : Int) + 1) (by omega) (by omega), w64 (x := (k : Int) + 1 + 1) (by omega) (by omega)]
      have fin : (k : Int) + 1 = n → go (t.data.toList.drop p) p f 0 = some (f, p) → (f : Int) = ofst (lineOf t n) ∧ (p : Int) = osnd (lineOf t n) ∧ true = (lineOf t n).isSome := by
        intro e1 e2
        have := h2 (by omega) (by omega)
        rw [show (n - 1 - (k : Int)).toNat = 0 by omega, e2] at this
        rw [this]; exact ⟨rfl, rfl, rfl⟩
      with_reducible refine ite_pr (fun hp => ?_) (fun hp => ?_)
      · refine ⟨by omega, ?_⟩
        have hl : p < t.data.toList.length := by rw [size_len]; omega
        have hd : t.data.toList.drop p = t.data.toList.getD p 0 :: t.data.toList.drop (p + 1) := by
          rw [List.drop_eq_getElem_cons hl, List.getD_eq_getElem?_getD, List.getElem?_eq_getElem hl]; rfl
        with_reducible refine ite_pr (fun h => ?_) (fun h => ?_)
        · have h' := eq10 _ h
          rw [h'] at hd
          with_reducible refine ite_pr (fun e => ?_) (fun e => ?_)
          · exact fin e (by rw [hd]; simp [go])
          · refine ih (p + 1) (p + 1) (k + 1) (by omega) (by omega) (by omega) (fun q => ?_) (fun q1 q2 => ?_) (fun q1 q2 => by omega) Z hZ
            · exact h1 (by omega)
            · rw [h2 (by omega) (by omega), hd]
              simp only [go, if_true]
              rw [if_neg (by omega)]
              congr 1; omega
        · have h' : ¬ t.data.toList.getD p 0 = 10 := fun e => h (by rw [e]; rfl)
          refine ih (p + 1) f k (by omega) (by omega) (by omega) h1 (fun q1 q2 => ?_) (fun q1 q2 => by omega) Z hZ
          rw [h2 q1 (by omega), hd]
          simp only [go]
          rw [if_neg h']
      · have hd : t.data.toList.drop p = [] := List.drop_of_length_le (by rw [size_len]; omega)
        with_reducible refine ite_pr (fun e => ?_) (fun e => ?_)
        · exact fin e (by rw [hd]; simp [go])
        · refine ih (p + 1) (p + 1) (k + 1) (by omega) (by omega) (by omega) (fun q => ?_) (fun q1 q2 => by omega) (fun q1 q2 => ?_) Z hZ
          · exact h1 (by omega)
          · rw [h2 (by omega) (by omega), hd]
            simp only [go]
            rw [if_neg (by omega)]
  simp -implicitDefEqProofs (maxSteps := 2000000) only [c36, ↓reduceIte, s_ops0, s_seq, s_block, s_loop, s_opsK, s_seqK_n, s_nil, s_cons, s_wopsK, o_as, e_k, e_get, e_res, e_keep_n, e_keep_c, e_keep1_s, e_asg_b, e_asg_i, St.init, enum, List.length_nil, Nat.reduceEqDiff, reduceCtorEq, List.append_nil, e_head, e_headK, kC_n, pO_n, pO_i, pO_s, List.range_zero, Nat.zero_add]
  refine key (t.size + 1) 0 0 0 (by omega) (by omega) (by omega) (fun h => ?_) (fun h1 h2 => ?_) (fun h1 h2 => by omega)
  · unfold lineOf; rw [if_pos (by omega)]
  · unfold lineOf; rw [if_neg (by omega)]; simp
/-- A line's bytes, and the error. -/
def lineS (t : ByteArray) (n : Int) : ByteArray × Int :=
  if 65536 < t.size then (⟨#[]⟩, 2) else match lineOf t n with
    | some (F, T) => (t.extract F T, 0)
    | none => (⟨#[]⟩, 1)
theorem lineOf_at (t : ByteArray) (n : Int) (F T : Nat) (h : lineOf t n = some (F, T)) : F ≤ T ∧ T ≤ t.size ∧ go (t.data.toList.drop F) F F 0 = some (F, T) := by
  unfold lineOf at h
  split at h
  · cases h
  · have h1 := go_le _ _ _ _ _ _ (Nat.le_refl _) h
    have h2 := go_at _ _ _ _ _ h
    rw [size_len] at h1
    exact ⟨h1.2.1, by omega, h2⟩
theorem r20 (t : ByteArray) (n : Int) (h0 : -9223372036854775808 ≤ n) (h1 : n ≤ 9223372036854775807) : R cx0 Try.prog 20 [.lf (.str t), .lf (.int .i64 n)] [] (.tp [.lf (.str (lineS t n).1), .lf (.int .i64 (lineS t n).2)]) [] := by
  refine R_i [] [] c20_ok rfl (by simp) ?_
  unfold lineS
  simp -implicitDefEqProofs (maxSteps := 2000000) only [c20, ↓reduceIte, s_skip, s_ret, s_ops0, s_seq, s_cond, s_opsK, s_seqK_n, s_seqK_r, s_cnd, s_nil, s_cons, s_wopsK, s_putK, o_mv, o_as, o_bin, v_gtr, o_lns, v_lns, o_call, e_t, e_k, e_put, e_get, e_res, e_keep_n, e_keep_c, e_keep1_s, e_asg_i, e_asg_s, St.init, enum, List.length_nil, Option.getD_some, Nat.reduceEqDiff, reduceCtorEq, true_and, and_true, decide_eq_true_eq, s_ret_r, s_retX, s_cells_n, t_tp, t_n, t_c, t_1l, t_i, t_s, r_n, r_t, r_cons, one_2, List.map_cons, List.map_nil, PV.leaves, List.flatMap_cons, List.flatMap_nil, List.append_nil, List.cons_append, List.nil_append, Bool.and_true, Bool.true_and, rl_i, rl_s, m_lf, Nat.zero_add]
  with_reducible refine ite_pr (fun h => ?_) (fun h => ?_)
  · rw [if_pos (by omega)]; exact ⟨rfl, rfl⟩
  refine wcall_s (r34 t n (by omega) h0 h1) rfl rfl ?_
  rw [if_neg (by omega)]
  cases hl : lineOf t n with
  | none => simp -implicitDefEqProofs (maxSteps := 2000000) only [c20, Option.isSome_none, ofst, osnd, ↓reduceIte, s_ret, s_ops0, s_seq, s_cond, s_opsK, s_seqK_n, s_seqK_r, s_cnd, s_nil, s_cons, s_wopsK, s_putK, o_mv, o_as, o_un, v_not, o_ext, v_ext0, v_ext1, e_t, e_k, e_put, e_get, e_res, e_keep_n, e_keep_c, e_keep1_s, e_asg_b, e_asg_i, e_asg_s, Option.getD_some, Option.getD_none, Option.map_none, Nat.reduceEqDiff, reduceCtorEq, and_true, Bool.not_false, Bool.false_eq_true, s_ret_r, s_retX, s_cells_n, t_tp, t_n, t_c, t_1l, t_i, t_s, r_n, r_t, r_cons, one_2, St.clr, outV, ownsV, owns1, ownL, List.map_cons, List.map_nil, List.any_cons, List.any_nil, Bool.or_self, Bool.and_true, ol_b, ol_i, m_tp, m_1l]
  | some x =>
    obtain ⟨F, T⟩ := x
    obtain ⟨q1, q2, q3⟩ := lineOf_at t n F T hl
    simp -implicitDefEqProofs (maxSteps := 2000000) only [c20, Option.isSome_some, ofst, osnd, ↓reduceIte, s_skip, s_ops0, s_seq, s_cond, s_opsK, s_seqK_n, s_cnd, s_nil, s_cons, s_wopsK, s_putK, o_mv, o_as, o_un, v_not, o_ext, v_ext0, v_ext1, o_call, e_t, e_put, e_get, e_res, e_keep_n, e_keep_c, e_keep1_s, e_asg_b, e_asg_i, Option.getD_some, Option.map_some, Nat.reduceEqDiff, reduceCtorEq, Bool.not_true, Bool.false_eq_true, St.clr, outV, ownsV, owns1, ownL, List.map_cons, List.map_nil, List.any_cons, List.any_nil, Bool.or_self, PV.leaves, List.flatMap_cons, List.flatMap_nil, List.append_nil, List.cons_append, List.nil_append, rl_i, rl_s, ol_b, ol_i, m_lf, m_tp, m_1l]
    refine wcall_s (r35 t F T (by omega) (by omega) q3) rfl rfl ?_
    simp -implicitDefEqProofs (maxSteps := 2000000) only [c20, ↓reduceIte, s_ret, s_opsK, s_seqK_n, s_nil, s_cons, s_wopsK, o_as, e_t, e_k, e_put, e_get, e_res, e_keep_n, e_keep_c, e_keep1_s, e_asg_i, e_asg_s, Option.getD_some, Nat.reduceEqDiff, and_true, Bool.false_eq_true, s_ret_r, s_retX, s_cells_n, t_tp, t_n, t_c, t_1l, t_i, t_s, r_n, r_t, r_cons, one_2, St.clr, outV, ownsV, owns1, ownL, Bool.and_true, ol_s, m_lf]
theorem r21 (t : ByteArray) (n : Int) : R cx0 Try.prog 21 [.lf (.str t), .lf (.int .i64 n)] [] (.tp [.lf (.str (lineS t n).1), .lf (.int .i64 (lineS t n).2)]) [] := by
  refine R_i [] [] c21_ok rfl (by simp) ?_
  unfold lineS
  simp -implicitDefEqProofs (maxSteps := 2000000) only [c21, ↓reduceIte, s_skip, s_ret, s_ops0, s_seq, s_cond, s_opsK, s_seqK_n, s_seqK_r, s_cnd, s_nil, s_cons, s_wopsK, s_putK, o_mv, o_as, o_bin, v_gtr, o_lns, v_lns, o_call, e_t, e_k, e_put, e_get, e_res, e_keep_n, e_keep_c, e_keep1_s, e_asg_i, e_asg_s, St.init, enum, List.length_nil, Option.getD_some, Nat.reduceEqDiff, reduceCtorEq, true_and, and_true, decide_eq_true_eq, s_ret_r, s_retX, s_cells_n, t_tp, t_n, t_c, t_1l, t_i, t_s, r_n, r_t, r_cons, one_2, List.map_cons, List.map_nil, PV.leaves, List.flatMap_cons, List.flatMap_nil, List.append_nil, List.cons_append, List.nil_append, Bool.and_true, Bool.true_and, rl_i, rl_s, m_lf, Nat.zero_add]
  with_reducible refine ite_pr (fun h => ?_) (fun h => ?_)
  · rw [if_pos (by omega)]; exact ⟨rfl, rfl⟩
  refine wcall_s (r36 t n (by omega)) rfl rfl ?_
  rw [if_neg (by omega)]
  cases hl : lineOf t n with
  | none => simp -implicitDefEqProofs (maxSteps := 2000000) only [c21, Option.isSome_none, ofst, osnd, ↓reduceIte, s_ret, s_ops0, s_seq, s_cond, s_opsK, s_seqK_n, s_seqK_r, s_cnd, s_nil, s_cons, s_wopsK, s_putK, o_mv, o_as, o_un, v_not, o_ext, v_ext0, v_ext1, v_ext2, e_t, e_k, e_put, e_get, e_res, e_keep_n, e_keep_c, e_keep1_s, e_asg_b, e_asg_i, e_asg_s, Option.getD_some, Option.getD_none, Option.map_none, Nat.reduceEqDiff, reduceCtorEq, and_true, Bool.not_false, Bool.false_eq_true, s_ret_r, s_retX, s_cells_n, t_tp, t_n, t_c, t_1l, t_i, t_s, r_n, r_t, r_cons, one_2, St.clr, outV, ownsV, owns1, ownL, List.map_cons, List.map_nil, List.any_cons, List.any_nil, Bool.or_self, Bool.and_true, ol_b, ol_i, m_tp, m_1l]
  | some x =>
    obtain ⟨F, T⟩ := x
    obtain ⟨q1, q2, q3⟩ := lineOf_at t n F T hl
    simp -implicitDefEqProofs (maxSteps := 2000000) only [c21, Option.isSome_some, ofst, osnd, ↓reduceIte, s_skip, s_ret, s_ops0, s_seq, s_cond, s_opsK, s_seqK_n, s_cnd, s_nil, s_cons, s_wopsK, s_putK, o_mv, o_as, o_un, v_not, o_ext, v_ext0, v_ext1, v_ext2, o_sls, v_sls_d, e_t, e_k, e_put, e_get, e_res, e_keep_n, e_keep_c, e_keep1_s, e_asg_b, e_asg_i, e_asg_s, Option.getD_some, Option.map_some, Nat.reduceEqDiff, reduceCtorEq, true_and, and_true, Bool.not_true, Bool.false_eq_true, s_ret_r, s_retX, s_cells_n, t_tp, t_n, t_c, t_1l, t_i, t_s, r_n, r_t, r_cons, one_2, St.clr, outV, ownsV, owns1, ownL, List.map_cons, List.map_nil, List.any_cons, List.any_nil, Bool.or_self, Bool.and_true, Bool.true_and, ol_b, ol_i, m_tp, m_1l]
    exact ⟨by omega, by rw [Int.toNat_natCast, Int.toNat_natCast]⟩
theorem r7 (t : ByteArray) (n : Int) (h0 : -9223372036854775808 ≤ n) (h1 : n ≤ 9223372036854775807) : R cx0 Try.prog 7 [.lf (.str t), .lf (.int .i64 n)] [] (.lf (.bool true)) [] := by
  refine R_i [] [] c7_ok rfl (by simp) ?_
  simp -implicitDefEqProofs (maxSteps := 2000000) only [c7, ↓reduceIte, s_ops0, s_seq, s_opsK, s_seqK_n, s_nil, s_cons, s_wopsK, o_mv, o_as, o_call, e_t, e_k, e_put, e_get, e_res, e_keep_n, e_keep_c, e_keep1_s, e_asg_b, St.init, enum, List.length_nil, Option.getD_some, Nat.reduceEqDiff, reduceCtorEq, List.map_cons, List.map_nil, PV.leaves, List.flatMap_cons, List.flatMap_nil, List.append_nil, rl_s, m_lf, Nat.zero_add]
  refine wcall_s (r18 t) rfl rfl ?_
  simp -implicitDefEqProofs (maxSteps := 2000000) only [c7, ↓reduceIte, s_ops0, s_seq, s_opsK, s_seqK_n, s_nil, s_cons, s_wopsK, s_putK, o_mv, o_as, o_ext, v_ext0, v_ext1, o_call, e_t, e_put, e_get, e_res, e_keep_n, e_keep_c, e_keep1_s, e_asg_i, Option.getD_some, Nat.reduceEqDiff, reduceCtorEq, Bool.false_eq_true, St.clr, outV, ownsV, owns1, ownL, List.map_cons, List.map_nil, List.any_cons, List.any_nil, Bool.or_self, PV.leaves, List.flatMap_cons, List.flatMap_nil, List.append_nil, rl_s, ol_i, m_lf, m_tp, m_1l]
  refine wcall_s (r19 t) rfl rfl ?_
  simp -implicitDefEqProofs (maxSteps := 2000000) only [c7, ↓reduceIte, s_ops0, s_seq, s_opsK, s_seqK_n, s_nil, s_cons, s_wopsK, s_putK, o_mv, o_as, o_ext, v_ext0, v_ext1, o_call, e_t, e_put, e_get, e_res, e_keep_n, e_keep_c, e_keep1_s, e_asg_i, Option.getD_some, Nat.reduceEqDiff, reduceCtorEq, Bool.false_eq_true, St.clr, outV, ownsV, owns1, ownL, List.map_cons, List.map_nil, List.any_cons, List.any_nil, Bool.or_self, PV.leaves, List.flatMap_cons, List.flatMap_nil, List.append_nil, List.cons_append, List.nil_append, rl_i, rl_s, ol_i, m_lf, m_tp, m_1l]
  refine wcall_s (r20 t n h0 h1) rfl rfl ?_
  simp -implicitDefEqProofs (maxSteps := 2000000) only [c7, ↓reduceIte, s_ops0, s_seq, s_opsK, s_seqK_n, s_nil, s_cons, s_wopsK, s_putK, o_mv, o_as, o_ext, v_ext0, v_ext1, o_call, e_t, e_put, e_get, e_res, e_keep_n, e_keep_c, e_keep1_s, e_asg_i, e_asg_s, Option.getD_some, Nat.reduceEqDiff, reduceCtorEq, Bool.false_eq_true, St.clr, outV, ownsV, owns1, ownL, List.map_cons, List.map_nil, List.any_cons, List.any_nil, Bool.or_self, PV.leaves, List.flatMap_cons, List.flatMap_nil, List.append_nil, List.cons_append, List.nil_append, rl_i, rl_s, ol_i, ol_s, m_lf, m_tp, m_1l]
  refine wcall_s (r21 t n) rfl rfl ?_
  simp -implicitDefEqProofs (maxSteps := 2000000) only [c7, ↓reduceIte, s_ops0, s_seq, s_opsK, s_seqK_n, s_nil, s_cons, s_wopsK, s_putK, o_mv, o_as, o_ext, v_ext0, v_ext1, o_call, e_t, e_put, e_get, e_res, e_keep_n, e_keep_c, e_keep1_s, e_asg_i, e_asg_s, Option.getD_some, Nat.reduceEqDiff, reduceCtorEq, Bool.false_eq_true, St.clr, outV, ownsV, owns1, ownL, List.map_cons, List.map_nil, List.any_cons, List.any_nil, Bool.or_self, PV.leaves, List.flatMap_nil, ol_i, ol_s, m_tp, m_1l]
  refine wcall_s r15 rfl rfl ?_
  simp -implicitDefEqProofs (maxSteps := 2000000) only [c7, ↓reduceIte, s_ret, s_opsK, s_seqK_n, s_nil, s_cons, s_guard, s_wopsK, s_putK, s_grd, q_mv, q_bin, o_mv, o_as, o_pk, v_pk, o_bin, v_eql, v_seql, e_t, e_k, e_put, e_get, e_res, e_keep_n, e_keep_c, e_keep1_s, e_asg_b, Option.getD_some, Nat.reduceEqDiff, and_true, cond_false, Bool.false_eq_true, decide_eq_true_eq, s_ret_r, s_retX, s_cells_n, t_lf, t_b, r_n, r_t, r_cons, one_1, St.clr, outV, ownsV, owns1, ownL, Bool.and_true, ol_b, m_lf]
end Go.Proofs.Ytomlkmnklonbpaa.Q
