/- Contracts, part QJ. -/
import Derived.Test.YtomlkmnklonbpaaQI
set_option linter.unusedVariables false
set_option linter.unusedSimpArgs false
namespace Go.Proofs.Ytomlkmnklonbpaa.Q
open Go Go.Proofs.Ytomlkmnklonbpaa.AM
/-- How many are not above a place. -/
def cnt (a : Nat) (l : List Nat) : Nat := (l.filter fun x => decide (x ≤ a)).length
theorem cnt_cons (a x : Nat) (l : List Nat) : cnt a (x :: l) = (if x ≤ a then 1 else 0) + cnt a l := by
  unfold cnt
  by_cases h : x ≤ a <;> simp [h, Nat.add_comm]
theorem cnt_zero (a : Nat) (l : List Nat) (h : ∀ x ∈ l, a < x) : cnt a l = 0 := by
  unfold cnt
  rw [List.length_eq_zero_iff, List.filter_eq_nil_iff]
  intro x hx
  have := h x hx
  simp; omega
theorem cnt_le (a : Nat) (l : List Nat) : cnt a l ≤ l.length := List.length_filter_le ..
theorem ends_len (n : Nat) (l : List UInt8) (p : Nat) : (ends n l p).length ≤ l.length := by
  induction n generalizing l p with
  | zero => simp [ends]
  | succ n ih =>
    simp only [ends]
    split
    · simp
    · have := wd_pos l
      have := ih (l.drop (wd l)) (p + wd l)
      simp at this ⊢; omega
theorem r38 (t : ByteArray) (a : Nat) (hs : t.size ≤ 65536) : R cx0 Try.prog 38 [.lf (.str t), .lf (.int .i64 (a : Int))] [] (.lf (.int .i64 (cnt a (pts t.data.toList) : Nat))) [] := by
  refine R_i [] [] c38_ok rfl (by simp) ?_
  have key : ∀ (n p c : Nat), t.size - p ≤ n → p ≤ t.size → c ≤ p → c + cnt a (p :: ends n (t.data.toList.drop p) p) = cnt a (pts t.data.toList) → LoopAt cx0 Try.prog c38_7 [0, 1, 5, 8] (blkK 0 (seqK cx0 Try.prog c38_14 (retS [] [] 0 [RV.t 4] (PV.lf (L.int IntKind.i64 (cnt a (pts t.data.toList) : Nat))) [])))
      { m := 0, tm := [(0, PV.lf (L.str t)), (1, PV.lf (L.int IntKind.i64 ↑a)), (5, PV.lf (L.int IntKind.i64 (c : Int))), (8, PV.lf (L.it 1024 t p))], ce := [] } := by
    intro n
    induction n with
    | zero =>
      intro p c hn hp hc he Z hZ
      apply hZ
      simp only [ends, cnt_cons] at he
      have e0 : cnt a [] = 0 := rfl
      have ep : p = t.size := by omega
      simp -implicitDefEqProofs (maxSteps := 2000000) only [c38, ↓reduceIte, s_skip, s_exit, s_ret, s_ops0, s_seq, s_cond, s_block, s_opsK, s_seqK_n, s_seqK_e, s_blkK_n, s_blkK_e, s_loopK_n, s_loopK_e, s_cnd, s_nil, s_cons, s_wopsK, s_putK, o_mv, o_as, o_bin, v_add, v_gtr, v_geq, o_ext, v_ext0, v_ext1, o_lns, v_lns, e_t, e_k, e_put, e_get, e_res, e_keep_n, e_keep_c, e_keep1_s, e_asg_i, Option.getD_some, Nat.reduceEqDiff, reduceCtorEq, true_and, and_true, Bool.false_eq_true, decide_eq_true_eq, s_ret_r, s_retX, s_cells_n, t_lf, t_i, r_n, r_t, r_cons, one_1, List.append_nil, Bool.and_true, Bool.true_and, BEq.rfl, m_lf, m_n, m_c, m_all, e_head, e_headK, kC_n, pO_n, pO_i, pO_s, List.range_zero, ip_i, ip_s, ip_it, pO_it, o_nxt, v_nxt]
      rw [if_neg (by omega)]
      with_reducible refine ite_pr (fun h => ?_) (fun h => ?_)
      · rw [if_pos (by omega)] at he
        rw [w64 (by omega) (by omega)]; omega
      · rw [if_neg (by omega)] at he; omega
    | succ n ih =>
      intro p c hn hp hc he Z hZ
      apply hZ
      have hl : (t.data.toList.drop p).length = t.size - p := by simp
      simp only [ends, hl] at he
      simp -implicitDefEqProofs (maxSteps := 2000000) only [c38, ↓reduceIte, s_skip, s_exit, s_ret, s_ops0, s_seq, s_cond, s_block, s_opsK, s_seqK_n, s_seqK_e, s_blkK_n, s_blkK_e, s_loopK_n, s_loopK_e, s_cnd, s_nil, s_cons, s_wopsK, s_putK, o_mv, o_as, o_bin, v_add, v_gtr, v_geq, o_ext, v_ext0, v_ext1, o_lns, v_lns, e_t, e_k, e_put, e_get, e_res, e_keep_n, e_keep_c, e_keep1_s, e_asg_i, Option.getD_some, Nat.reduceEqDiff, reduceCtorEq, true_and, and_true, Bool.false_eq_true, decide_eq_true_eq, s_ret_r, s_retX, s_cells_n, t_lf, t_i, r_n, r_t, r_cons, one_1, List.append_nil, Bool.and_true, Bool.true_and, BEq.rfl, m_lf, m_n, m_c, m_all, e_head, e_headK, kC_n, pO_n, pO_i, pO_s, List.range_zero, ip_i, ip_s, ip_it, pO_it, o_nxt, v_nxt]
      with_reducible refine ite_pr (fun h => ?_) (fun h => ?_)
      · rw [if_neg (by omega)] at he
        have w := wd_pos (t.data.toList.drop p)
        have w2 := wd_le (l := t.data.toList.drop p) (by omega)
        rw [List.drop_drop] at he
        with_reducible refine ite_pr (fun h2 => ?_) (fun h2 => ?_)
        · rw [if_neg (by omega)]
          rw [cnt_zero _ _ (fun x hx => by
            rcases List.mem_cons.1 hx with rfl | hx
            · omega
            · rcases List.mem_cons.1 hx with rfl | hx
              · omega
              · have := ends_mem _ _ _ x hx; omega)] at he
          omega
        · rw [cnt_cons, if_pos (by omega)] at he
          rw [dec_wd t p h, w64 (by omega) (by omega)]
          exact ih (p + wd (t.data.toList.drop p)) (c + 1) (by omega) (by omega) (by omega) (by omega) Z hZ
      · rw [if_pos (by omega)] at he
        simp only [cnt_cons] at he
        have e0 : cnt a [] = 0 := rfl
        with_reducible refine ite_pr (fun h => ?_) (fun h => ?_)
        · rw [if_pos (by omega)] at he
          rw [w64 (by omega) (by omega)]; omega
        · rw [if_neg (by omega)] at he; omega
  simp -implicitDefEqProofs (maxSteps := 2000000) only [c38, ↓reduceIte, s_ops0, s_seq, s_block, s_loop, s_opsK, s_seqK_n, s_nil, s_cons, s_wopsK, o_mv, o_as, e_t, e_k, e_put, e_get, e_res, e_keep_n, e_keep_c, e_keep1_s, e_asg_i, St.init, enum, List.length_nil, Option.getD_some, Nat.reduceEqDiff, reduceCtorEq, List.append_nil, Nat.reduceMul, kp_i, kp_s, m_lf, m_n, m_c, m_all, e_head, e_headK, kC_n, pO_n, pO_i, pO_s, List.range_zero, plT, Nat.zero_add, Nat.add_zero, pO_it, o_rng, v_rng]
  refine key t.size 0 0 (by omega) (by omega) (by omega) ?_
  simp [pts]
/-- The characters from a place on. -/
def chL (t : ByteArray) : Nat → Nat → List (List L)
  | 0, _ => []
  | n + 1, p => if t.size ≤ p then [] else [.int .i32 ((Utf8.decode t p).1 : Nat), .int .i64 (p : Nat)] :: chL t n (p + wd (t.data.toList.drop p))
theorem chL_len (t : ByteArray) : ∀ (n p : Nat), p ≤ t.size → (chL t n p).length = (ends n (t.data.toList.drop p) p).length
  | 0, p, h => rfl
  | n + 1, p, h => by
    have hl : (t.data.toList.drop p).length = t.size - p := by simp
    simp only [chL, ends, hl]
    by_cases hp : t.size ≤ p
    · rw [if_pos hp, if_pos (by omega)]; rfl
    · rw [if_neg hp, if_neg (by omega)]
      have w2 := wd_le (l := t.data.toList.drop p) (by omega)
      simp only [List.length_cons]
      rw [chL_len t n _ (by omega), List.drop_drop]
theorem chL_at (t : ByteArray) : ∀ (n p k : Nat) (x : List L), p ≤ t.size → (chL t n p)[k]? = some x → ∃ c : Int, x = [.int .i32 c, .int .i64 ((p :: ends n (t.data.toList.drop p) p).getD k 0 : Nat)]
  | 0, p, k, x, h, hx => by simp [chL] at hx
  | n + 1, p, k, x, h, hx => by
    have hl : (t.data.toList.drop p).length = t.size - p := by simp
    simp only [chL] at hx
    split at hx
    · simp at hx
    · rename_i hp
      have w2 := wd_le (l := t.data.toList.drop p) (by omega)
      cases k with
      | zero =>
        simp only [List.getElem?_cons_zero, Option.some.injEq] at hx
        exact ⟨_, by rw [← hx]; rfl⟩
      | succ k =>
        simp only [List.getElem?_cons_succ] at hx
        obtain ⟨c, hc⟩ := chL_at t n _ k x (by omega) hx
        refine ⟨c, ?_⟩
        rw [hc]
        simp only [ends, hl]
        rw [if_neg (by omega), List.getD_cons_succ, List.drop_drop]
theorem r40 (t : ByteArray) (hs : t.size ≤ 65536) : R cx0 Try.prog 40 [.lf (.str t)] [] (.lf (.lst (.own 0 67) 2 (chL t t.size 0) [])) [] := by
  refine R_i [(0, 256)] [] c40_ok rfl (by simp) ?_
  have key : ∀ (n p : Nat) (xs : List (List L)), t.size - p ≤ n → p ≤ t.size → xs.length ≤ p → chL t t.size 0 = xs ++ chL t n p → LoopAt cx0 Try.prog c40_4 [3, 7] (blkK 0 (seqK cx0 Try.prog c40_8 (retS [(0, 256)] [] 0 [RV.t 2] (PV.lf (L.lst (Tag.own 0 67) 2 (chL t t.size 0) [])) [])))
      { m := 0, tm := [(3, PV.lf (L.lst (Tag.own 384 67) 2 xs [])), (7, PV.lf (L.it 896 t p))], ce := [] } := by
    intro n
    induction n with
    | zero =>
      intro p xs hn hp hx he Z hZ
      apply hZ
      simp -implicitDefEqProofs (maxSteps := 2000000) only [c40, ↓reduceIte, s_skip, s_exit, s_ret, s_ops0, s_seq, s_cond, s_block, s_opsK, s_seqK_n, s_seqK_e, s_blkK_n, s_blkK_e, s_loopK_n, s_loopK_e, s_cnd, s_nil, s_cons, s_wopsK, s_putK, o_mv, o_as, o_ext, v_ext0, v_ext1, v_ext2, o_bd, v_agK, v_bd_n, v_bd_c, o_bs, v_bsK, v_lit_n, v_lit_c, o_app, v_app_o, e_t, e_put, e_get, e_res, e_keep_n, e_keep_c, e_keep1_s, e_asg_i, List.length_nil, List.length_cons, Option.getD_some, Nat.reduceEqDiff, Nat.reduceAdd, reduceCtorEq, true_and, and_true, Bool.false_eq_true, s_ret_r, s_retX, s_cells_n, t_lf, t_l, t_oo, r_n, r_t, r_cons, one_1, List.map_cons, List.map_nil, Bool.or_false, List.append_nil, List.cons_append, List.nil_append, List.all_cons, List.all_nil, Bool.and_true, Bool.true_and, Bool.and_self, PV.cells, cellL, datL, fillL, Nat.reduceMul, Nat.reduceBEq, Nat.reduceLeDiff, Nat.le_refl, BEq.rfl, List.take_zero, List.drop_zero, List.take_succ_cons, List.drop_succ_cons, List.drop_nil, kp_i, kp_u, rk_b, rk_i, rk_u, rl_i, kp_lo, rk_lo, m_lf, m_ag, m_tp, m_1l, m_n, m_c, m_all, e_asg_o, e_head, e_headK, kC_n, pO_n, pO_l, dw_n, dw_i, List.range_zero, plT, ne_eq, not_false_eq_true, lit_n, lit_c, List.reduceReplicate, List.set_cons_zero, Nat.lt_add_one, Nat.zero_add, Nat.add_zero, true_or, or_true, or_false, kp_it, ip_lo, ip_it, pO_it, o_nxt, v_nxt, rk_it]
      rw [if_neg (by omega), he]
      simp [chL]
    | succ n ih =>
      intro p xs hn hp hx he Z hZ
      apply hZ
      have hl : (t.data.toList.drop p).length = t.size - p := by simp
      simp only [chL] at he
      simp -implicitDefEqProofs (maxSteps := 2000000) only [c40, ↓reduceIte, s_skip, s_exit, s_ret, s_ops0, s_seq, s_cond, s_block, s_opsK, s_seqK_n, s_seqK_e, s_blkK_n, s_blkK_e, s_loopK_n, s_loopK_e, s_cnd, s_nil, s_cons, s_wopsK, s_putK, o_mv, o_as, o_ext, v_ext0, v_ext1, v_ext2, o_bd, v_agK, v_bd_n, v_bd_c, o_bs, v_bsK, v_lit_n, v_lit_c, o_app, v_app_o, e_t, e_put, e_get, e_res, e_keep_n, e_keep_c, e_keep1_s, e_asg_i, List.length_nil, List.length_cons, Option.getD_some, Nat.reduceEqDiff, Nat.reduceAdd, reduceCtorEq, true_and, and_true, Bool.false_eq_true, s_ret_r, s_retX, s_cells_n, t_lf, t_l, t_oo, r_n, r_t, r_cons, one_1, List.map_cons, List.map_nil, Bool.or_false, List.append_nil, List.cons_append, List.nil_append, List.all_cons, List.all_nil, Bool.and_true, Bool.true_and, Bool.and_self, PV.cells, cellL, datL, fillL, Nat.reduceMul, Nat.reduceBEq, Nat.reduceLeDiff, Nat.le_refl, BEq.rfl, List.take_zero, List.drop_zero, List.take_succ_cons, List.drop_succ_cons, List.drop_nil, kp_i, kp_u, rk_b, rk_i, rk_u, rl_i, kp_lo, rk_lo, m_lf, m_ag, m_tp, m_1l, m_n, m_c, m_all, e_asg_o, e_head, e_headK, kC_n, pO_n, pO_l, dw_n, dw_i, List.range_zero, plT, ne_eq, not_false_eq_true, lit_n, lit_c, List.reduceReplicate, List.set_cons_zero, Nat.lt_add_one, Nat.zero_add, Nat.add_zero, true_or, or_true, or_false, kp_it, ip_lo, ip_it, pO_it, o_nxt, v_nxt, rk_it]
      with_reducible refine ite_pr (fun h => ?_) (fun h => ?_)
      · rw [if_neg (by omega)] at he
        have w := wd_pos (t.data.toList.drop p)
        have w2 := wd_le (l := t.data.toList.drop p) (by omega)
        rw [dec_wd t p h]
        refine ⟨by omega, ih (p + wd (t.data.toList.drop p)) _ (by omega) (by omega) (by simp; omega) ?_ Z hZ⟩
        rw [he, List.append_assoc]; rfl
      · rw [if_pos (by omega)] at he
        rw [he]; simp
  simp -implicitDefEqProofs (maxSteps := 2000000) only [c40, ↓reduceIte, s_ops0, s_seq, s_block, s_loop, s_opsK, s_seqK_n, s_nil, s_cons, s_wopsK, o_mv, o_as, e_t, e_k, e_put, e_get, e_res, e_keep_n, e_keep_c, e_keep1_s, St.init, enum, List.length_nil, Option.getD_some, Nat.reduceEqDiff, reduceCtorEq, Bool.false_eq_true, List.append_nil, Nat.reduceMul, Nat.reduceBEq, kp_s, kp_lo, m_lf, m_n, m_c, m_all, e_asg_n, e_head, e_headK, kC_n, pO_n, pO_l, List.range_zero, plT, Nat.add_zero, pO_it, o_rng, v_rng]
  exact key t.size 0 [] (by omega) (by omega) (by simp) rfl
end Go.Proofs.Ytomlkmnklonbpaa.Q
