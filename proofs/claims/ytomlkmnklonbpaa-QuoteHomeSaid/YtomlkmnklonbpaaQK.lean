/- Contracts, part QK. -/
import Derived.Test.YtomlkmnklonbpaaQJ
set_option linter.unusedVariables false
set_option linter.unusedSimpArgs false
namespace Go.Proofs.Ytomlkmnklonbpaa.Q
open Go Go.Proofs.Ytomlkmnklonbpaa.AM
theorem cnt_iff (a : Nat) : ∀ (P : List Nat), P.Pairwise (· < ·) → ∀ (i x : Nat), P[i]? = some x → (x ≤ a ↔ i < cnt a P)
  | [], _, i, x, h => by simp at h
  | y :: P, hs, i, x, h => by
    cases hs with
    | cons h1 h2 =>
      rw [cnt_cons]
      by_cases hy : y ≤ a
      · rw [if_pos hy]
        cases i with
        | zero => simp at h; subst h; omega
        | succ i =>
          rw [List.getElem?_cons_succ] at h
          have := cnt_iff a P h2 i x h
          omega
      · rw [if_neg hy, cnt_zero a P (fun z hz => by have := h1 z hz; omega)]
        have hx : y ≤ x := by
          cases i with
          | zero => simp at h; omega
          | succ i =>
            rw [List.getElem?_cons_succ] at h
            have := h1 x (List.mem_of_getElem? h); omega
        omega
theorem pts_sorted (l : List UInt8) : (pts l).Pairwise (· < ·) := .cons (fun x hx => (ends_mem _ _ _ x hx).1) (ends_sorted _ _ _)
theorem ends_shift (d : Nat) : ∀ (n : Nat) (l : List UInt8) (p : Nat), ends n l (p + d) = (ends n l p).map (· + d)
  | 0, l, p => rfl
  | n + 1, l, p => by
    simp only [ends]
    split
    · rfl
    · rw [List.map_cons, ← ends_shift d n, show p + d + wd l = p + wd l + d by omega]
theorem cnt_shift (a d : Nat) (h : d ≤ a) (l : List Nat) : cnt a (l.map (· + d)) = cnt (a - d) l := by
  induction l with
  | nil => rfl
  | cons x l ih =>
    rw [List.map_cons, cnt_cons, cnt_cons, ih]
    congr 1
    by_cases hx : x ≤ a - d
    · rw [if_pos hx, if_pos (by omega)]
    · rw [if_neg hx, if_neg (by omega)]
theorem lastK_take (l : List UInt8) (a : Nat) : ∀ k, k ≤ a → lastK (l.take a) k = lastK l k := by
  intro k
  induction k with
  | zero => intro _; rfl
  | succ k ih =>
    intro h
    simp only [lastK]
    rw [ih (by omega)]
    have : (l.take a).getD k 0 = l.getD k 0 := by
      rw [List.getD_eq_getElem?_getD, List.getD_eq_getElem?_getD, List.getElem?_take, if_pos (by omega)]
    rw [this]
/-- The line and the column of a place, and the error. -/
def spot (t : ByteArray) (a : Int) : Int × Int × Int :=
  if 65536 < t.size then (0, 0, 2) else if a < 0 ∨ (t.size : Int) < a then (0, 0, 1) else
    match go t.data.toList 0 0 ((t.data.toList.take a.toNat).count 10) with
    | some (F, T) => (((t.data.toList.take a.toNat).count 10 : Nat) + 1, (cnt (a.toNat - F) (pts ((t.data.toList.take T).drop F)) : Nat), 0)
    | none => (0, 0, 0)
theorem place_line (t : ByteArray) (a : Nat) (ha : a ≤ t.size) : ∃ T, go t.data.toList 0 0 ((t.data.toList.take a).count 10) = some (stt t.data.toList a 0 0, T) ∧ a ≤ T ∧ T ≤ t.size ∧ stt t.data.toList a 0 0 ≤ a ∧ go (t.data.toList.drop (stt t.data.toList a 0 0)) (stt t.data.toList a 0 0) (stt t.data.toList a 0 0) 0 = some (stt t.data.toList a 0 0, T) := by
  obtain ⟨T, h1, h2⟩ := stt_go t.data.toList a 0 0 (Nat.le_refl _) (by rw [size_len]; exact ha)
  have h3 := go_le _ _ _ _ _ _ (Nat.le_refl _) h1
  have h4 := go_at _ _ _ _ _ h1
  rw [size_len] at h3
  exact ⟨T, h1, by omega, by omega, (stt_le t.data.toList a (by rw [size_len]; exact ha)).1, h4⟩
theorem r22 (t : ByteArray) (a : Int) (h0 : -9223372036854775808 ≤ a) (h1 : a ≤ 9223372036854775807) : R cx0 Try.prog 22 [.lf (.str t), .lf (.int .i64 a)] [] (.tp [.lf (.int .i64 (spot t a).1), .lf (.int .i64 (spot t a).2.1), .lf (.int .i64 (spot t a).2.2)]) [] := by
  refine R_i [] [] c22_ok rfl (by simp) ?_
  simp -implicitDefEqProofs (maxSteps := 2000000) only [c22, ↓reduceIte, s_skip, s_ret, s_ops0, s_seq, s_cond, s_opsK, s_seqK_n, s_seqK_r, s_cnd, s_nil, s_cons, s_guard, s_wopsK, s_putK, s_grd, q_mv, q_bin, q_lns, o_mv, o_as, o_pk, v_pk, o_bin, v_lss, v_gtr, o_lns, v_lns, o_sls, v_sls_c, o_call, e_t, e_k, e_put, e_get, e_res, e_keep_n, e_keep_c, e_keep1_s, e_asg_i, St.init, enum, List.length_nil, Option.getD_some, Option.map_some, Option.map_none, Nat.reduceEqDiff, reduceCtorEq, true_and, and_true, cond_false, Bool.not_false, Bool.true_eq_false, Bool.false_eq_true, decide_eq_true_eq, decide_eq_false_iff_not, s_ret_r, s_retX, s_cells_n, t_tp, t_n, t_c, t_1l, t_i, r_n, r_t, r_cons, one_2, List.map_cons, List.map_nil, PV.leaves, List.flatMap_cons, List.flatMap_nil, List.append_nil, List.cons_append, List.nil_append, Bool.and_true, Bool.true_and, rl_i, rl_s, m_lf, Nat.zero_add, ite_not]
  with_reducible refine ite_pr (fun h => ?_) (fun h => ?_)
  · unfold spot; rw [if_pos (by omega)]; exact ⟨rfl, rfl, rfl⟩
  with_reducible refine ite_pr (fun h2 => ?_) (fun h2 => ?_)
  · unfold spot; rw [if_neg (by omega), if_pos (by omega)]; exact ⟨rfl, rfl, rfl⟩
  with_reducible refine ite_pr (fun h3 => ?_) (fun h3 => ?_)
  · unfold spot; rw [if_neg (by omega), if_pos (by omega)]; exact ⟨rfl, rfl, rfl⟩
  obtain ⟨k, rfl⟩ : ∃ k : Nat, a = k := ⟨a.toNat, by omega⟩
  obtain ⟨T, g1, g2, g3, g4, g5⟩ := place_line t k (by omega)
  have hsz : (t.extract 0 k).size = k := by rw [ByteArray.size_extract]; omega
  refine ⟨by omega, ?_⟩
  rw [Int.toNat_natCast]
  refine wcall_s (r37 _ (by omega)) rfl rfl ?_
  rw [hsz, ba_ext, List.drop_zero, lastK_take _ _ _ (Nat.le_refl _)]
  have hl := lastK_stt t.data.toList k (by rw [size_len]; omega)
  have hcnt := (stt_le t.data.toList k (by rw [size_len]; omega)).2
  generalize hF : stt t.data.toList k 0 0 = F at *
  have hp : spot t k = ((((t.data.toList.take k).count 10 : Nat) : Int) + 1, ((cnt (k - F) (pts ((t.data.toList.take T).drop F)) : Nat) : Int), (0 : Int)) := by
    unfold spot; rw [if_neg (by omega), if_neg (by omega), Int.toNat_natCast, g1]
  rw [hp]
  have hc := count_le (t.data.toList.take k)
  have hc2 : (t.data.toList.take k).length ≤ k := by simp; omega
  simp -implicitDefEqProofs (maxSteps := 2000000) only [c22, ↓reduceIte, s_ops0, s_seq, s_opsK, s_seqK_n, s_nil, s_cons, s_wopsK, s_putK, o_mv, o_as, o_bin, v_add, o_sls, v_sls_c, o_call, e_t, e_k, e_put, e_get, e_res, e_keep_n, e_keep_c, e_keep1_s, e_asg_i, Option.getD_some, Option.map_some, Option.map_none, Nat.reduceEqDiff, reduceCtorEq, Bool.false_eq_true, St.clr, outV, ownsV, owns1, ownL, List.map_cons, List.map_nil, PV.leaves, List.flatMap_cons, List.flatMap_nil, List.append_nil, List.cons_append, List.nil_append, rl_s, ol_i, m_lf]
  rw [w64 (by omega) (by omega), hl]
  refine ⟨by omega, ?_⟩
  rw [Int.toNat_natCast]
  refine wcall_s (r33 _) rfl rfl ?_
  rw [ba_ext, List.drop_zero, hcnt]
  simp -implicitDefEqProofs (maxSteps := 2000000) only [c22, ↓reduceIte, s_ops0, s_seq, s_opsK, s_seqK_n, s_nil, s_cons, s_wopsK, s_putK, o_mv, o_as, o_bin, v_add, o_call, e_t, e_k, e_put, e_get, e_res, e_keep_n, e_keep_c, e_keep1_s, e_asg_i, Option.getD_some, Nat.reduceEqDiff, reduceCtorEq, Bool.false_eq_true, St.clr, outV, ownsV, owns1, ownL, List.map_cons, List.map_nil, PV.leaves, List.flatMap_cons, List.flatMap_nil, List.append_nil, List.cons_append, List.nil_append, rl_i, rl_s, ol_i, m_lf]
  refine wcall_s (r35 t F T (by omega) (by omega) g5) rfl rfl ?_
  simp -implicitDefEqProofs (maxSteps := 2000000) only [c22, ↓reduceIte, s_cons, s_wopsK, s_putK, o_mv, o_bin, v_sub, o_call, e_t, e_put, e_get, Option.getD_some, Nat.reduceEqDiff, reduceCtorEq, Bool.false_eq_true, St.clr, outV, ownsV, owns1, ownL, List.map_cons, List.map_nil, PV.leaves, List.flatMap_cons, List.flatMap_nil, List.append_nil, List.cons_append, List.nil_append, rl_i, rl_s, ol_s, m_lf]
  rw [w64 (by omega) (by omega), w64 (by omega) (by omega)]
  have e : (k : Int) - (F : Int) = ((k - F : Nat) : Int) := by omega
  rw [e]
  refine wcall_s (r38 _ _ (by rw [ByteArray.size_extract]; omega)) rfl rfl ?_
  rw [ba_ext]
  simp -implicitDefEqProofs (maxSteps := 2000000) only [c22, ↓reduceIte, s_ret, s_opsK, s_seqK_n, s_nil, s_cons, s_wopsK, o_as, e_t, e_k, e_put, e_get, e_res, e_keep_n, e_keep_c, e_keep1_s, e_asg_i, Option.getD_some, Nat.reduceEqDiff, and_true, Bool.false_eq_true, s_ret_r, s_retX, s_cells_n, t_tp, t_n, t_c, t_1l, t_i, r_n, r_t, r_cons, one_2, St.clr, outV, ownsV, owns1, ownL, Bool.and_true, ol_i, m_lf]
/-- The place of a line and a column, and the error. -/
def atOf (t : ByteArray) (n c : Int) : Int × Int :=
  if 65536 < t.size then (0, 2) else match lineOf t n with
    | some (F, T) => if 1 ≤ c ∧ c ≤ (pts ((t.data.toList.take T).drop F)).length then ((F : Int) + ((pts ((t.data.toList.take T).drop F)).getD (c - 1).toNat 0 : Nat), 0) else (0, 1)
    | none => (0, 1)
theorem r24 (t : ByteArray) (n c : Int) (h0 : -9223372036854775808 ≤ n) (h1 : n ≤ 9223372036854775807) (h2 : -9223372036854775808 ≤ c) (h3 : c ≤ 9223372036854775807) : R cx0 Try.prog 24 [.lf (.str t), .lf (.int .i64 n), .lf (.int .i64 c)] [] (.tp [.lf (.int .i64 (atOf t n c).1), .lf (.int .i64 (atOf t n c).2)]) [] := by
  refine R_i [] [] c24_ok rfl (by simp) ?_
  simp -implicitDefEqProofs (maxSteps := 2000000) only [c24, ↓reduceIte, s_skip, s_ret, s_ops0, s_seq, s_cond, s_opsK, s_seqK_n, s_seqK_r, s_cnd, s_nil, s_cons, s_wopsK, s_putK, o_mv, o_as, o_bin, v_gtr, o_lns, v_lns, o_call, e_t, e_k, e_put, e_get, e_res, e_keep_n, e_keep_c, e_keep1_s, e_asg_i, St.init, enum, List.length_nil, Option.getD_some, Nat.reduceEqDiff, Nat.reduceAdd, reduceCtorEq, true_and, and_true, decide_eq_true_eq, s_ret_r, s_retX, s_cells_n, t_tp, t_n, t_c, t_1l, t_i, r_n, r_t, r_cons, one_2, List.map_cons, List.map_nil, PV.leaves, List.flatMap_cons, List.flatMap_nil, List.append_nil, List.cons_append, List.nil_append, Bool.and_true, Bool.true_and, rl_i, rl_s, m_lf, Nat.zero_add]
  with_reducible refine ite_pr (fun h => ?_) (fun h => ?_)
  · unfold atOf; rw [if_pos (by omega)]; exact ⟨rfl, rfl⟩
  refine wcall_s (r34 t n (by omega) h0 h1) rfl rfl ?_
  unfold atOf
  rw [if_neg (by omega)]
  cases hl : lineOf t n with
  | none => simp -implicitDefEqProofs (maxSteps := 2000000) only [c24, Option.isSome_none, ofst, osnd, ↓reduceIte, s_ret, s_ops0, s_seq, s_cond, s_opsK, s_seqK_n, s_seqK_r, s_cnd, s_nil, s_cons, s_guard, s_wopsK, s_putK, s_grd, o_mv, o_as, o_pk, v_pk, o_un, v_not, o_ext, v_ext0, v_ext1, e_t, e_k, e_put, e_get, e_res, e_keep_n, e_keep_c, e_keep1_s, e_asg_b, e_asg_i, Option.getD_some, Option.getD_none, Option.map_none, Nat.reduceEqDiff, reduceCtorEq, and_true, Bool.not_false, Bool.true_eq_false, Bool.false_eq_true, s_ret_r, s_retX, s_cells_n, t_tp, t_n, t_c, t_1l, t_i, r_n, r_t, r_cons, one_2, St.clr, outV, ownsV, owns1, ownL, List.map_cons, List.map_nil, List.any_cons, List.any_nil, Bool.or_self, Bool.and_true, ol_b, ol_i, m_tp, m_1l]
  | some x =>
    obtain ⟨F, T⟩ := x
    obtain ⟨q1, q2, q3⟩ := lineOf_at t n F T hl
    simp -implicitDefEqProofs (maxSteps := 2000000) only [c24, Option.isSome_some, ofst, osnd, ↓reduceIte, s_skip, s_ret, s_ops0, s_seq, s_cond, s_opsK, s_seqK_n, s_seqK_r, s_cnd, s_nil, s_cons, s_guard, s_wopsK, s_putK, s_grd, q_mv, q_bin, o_mv, o_as, o_pk, v_pk, o_bin, v_lss, o_un, v_not, o_ext, v_ext0, v_ext1, o_call, e_t, e_k, e_put, e_get, e_res, e_keep_n, e_keep_c, e_keep1_s, e_asg_b, e_asg_i, Option.getD_some, Option.map_some, Nat.reduceEqDiff, reduceCtorEq, true_and, and_true, cond_false, Bool.not_true, Bool.false_eq_true, decide_eq_true_eq, s_ret_r, s_retX, s_cells_n, t_tp, t_n, t_c, t_1l, t_i, r_n, r_t, r_cons, one_2, St.clr, outV, ownsV, owns1, ownL, List.map_cons, List.map_nil, List.any_cons, List.any_nil, Bool.or_self, PV.leaves, List.flatMap_cons, List.flatMap_nil, List.append_nil, List.cons_append, List.nil_append, Bool.and_true, Bool.true_and, rl_i, rl_s, ol_b, ol_i, m_lf, m_tp, m_1l]
    with_reducible refine ite_pr (fun h => ?_) (fun h => ?_)
    · rw [if_neg (by omega)]; exact ⟨rfl, rfl⟩
    refine wcall_s (r35 t F T (by omega) (by omega) q3) rfl rfl ?_
    simp -implicitDefEqProofs (maxSteps := 2000000) only [c24, ↓reduceIte, s_ops0, s_seq, s_opsK, s_seqK_n, s_nil, s_cons, s_wopsK, o_mv, o_as, o_call, e_t, e_put, e_get, e_res, e_keep_n, e_keep_c, e_keep1_s, e_asg_s, Option.getD_some, Nat.reduceEqDiff, reduceCtorEq, Bool.false_eq_true, St.clr, outV, ownsV, owns1, ownL, List.map_cons, List.map_nil, PV.leaves, List.flatMap_cons, List.flatMap_nil, List.append_nil, rl_s, ol_s, m_lf]
    refine wcall_down (r40 _ (by rw [ByteArray.size_extract]; omega)) rfl ?_
    simp -implicitDefEqProofs (maxSteps := 2000000) only [c24, ↓reduceIte, s_skip, s_ret, s_ops0, s_seq, s_cond, s_block, s_opsK, s_seqK_n, s_seqK_r, s_blkK_n, s_blkK_r, s_cnd, s_nil, s_cons, s_wopsK, s_putK, o_mv, o_as, o_bin, v_add, v_sub, v_eql, v_gtr, o_fa, v_fa_e, o_ia, v_ia, o_ld, o_len, v_len, o_lns, v_lns, e_t, e_k, e_put, e_get, e_res, e_keep_n, e_keep_c, e_keep1_s, e_asg_b, e_asg_i, Option.getD_some, Nat.reduceEqDiff, Nat.reduceAdd, true_and, and_true, Bool.false_eq_true, decide_eq_true_eq, s_ret_r, s_retX, s_cells_n, t_tp, t_n, t_c, t_1l, t_i, r_n, r_t, r_cons, one_2, St.clr, outV, ownsV, owns1, ownL, Bool.and_true, Bool.true_and, Nat.reduceMul, Nat.reduceBEq, BEq.rfl, kps_i, kps_s, rk_i, rk_s, rk_lo, ol_lo, m_lf, m_n, m_c, m_all, e_asg_o, dw_n, dw_s, plT, Nat.zero_add, Nat.add_zero]
    have hLs : ((t.data.toList.take T).drop F) = (t.extract F T).data.toList := by rw [ba_ext]
    rw [hLs]
    have hus : (t.extract F T).size ≤ 65536 := by rw [ByteArray.size_extract]; omega
    generalize t.extract F T = u at hus ⊢
    have hlen := chL_len u u.size 0 (by omega)
    rw [List.drop_zero] at hlen
    have hP : (pts u.data.toList).length = (chL u u.size 0).length + 1 := by unfold pts; rw [List.length_cons, hlen, size_len]
    have hm := ends_len u.size u.data.toList 0
    rw [← hlen, size_len] at hm
    have hF : F ≤ 65536 := by omega
    intro _
    rw [w64 (x := ((chL u u.size 0).length : Int) + 1) (by omega) (by omega), hP]
    with_reducible refine ite_pr (fun hc => ?_) (fun hc => ?_)
    · rw [if_pos (by omega), w64 (by omega) (by omega)]
      refine ⟨?_, rfl⟩
      have hlast := ends_last u.data.toList.length u.data.toList 0 (Nat.le_refl _)
      rw [List.getLast_eq_getElem] at hlast
      have e : (c - 1).toNat = (0 :: ends u.data.toList.length u.data.toList 0).length - 1 := by
        have : (0 :: ends u.data.toList.length u.data.toList 0).length = (pts u.data.toList).length := rfl
        rw [this, hP]; omega
      unfold pts
      rw [e, List.getD_eq_getElem?_getD, List.getElem?_eq_getElem (by simp), Option.getD_some, hlast, size_len]
      simp
    intro _
    with_reducible refine ite_pr (fun hc2 => ?_) (fun hc2 => ?_)
    · rw [if_neg (by omega)]; exact ⟨rfl, rfl⟩
    · rw [w64 (x := c - 1) (by omega) (by omega)]
      refine ⟨by omega, ?_⟩
      rw [v_ld_e]
      have hi : (c - 1).toNat < (chL u u.size 0).length := by omega
      refine ⟨hi, ?_⟩
      obtain ⟨c', hc'⟩ := chL_at u u.size 0 _ _ (by omega) (List.getElem?_eq_getElem hi)
      rw [List.getD_eq_getElem?_getD, List.getElem?_eq_getElem hi, Option.getD_some, hc', List.drop_zero]
      have hpt : (0 :: ends u.size u.data.toList 0).getD (c - 1).toNat 0 = (pts u.data.toList).getD (c - 1).toNat 0 := by unfold pts; rw [size_len]
      rw [hpt]
      have hle : (pts u.data.toList).getD (c - 1).toNat 0 ≤ u.size := by
        rw [List.getD_eq_getElem?_getD]
        cases hq : (pts u.data.toList)[(c - 1).toNat]? with
        | none => simp
        | some x =>
          have hx := List.mem_of_getElem? hq
          unfold pts at hx
          rcases List.mem_cons.1 hx with rfl | hx
          · simp
          · have := (ends_mem _ _ _ x hx).2
            rw [size_len] at this
            simpa using this
      simp -implicitDefEqProofs (maxSteps := 2000000) only [c24, ↓reduceIte, s_ret, s_opsK, s_seqK_n, s_nil, s_cons, s_wopsK, s_putK, o_as, o_bin, v_add, v_part_f, v_atK, e_t, e_k, e_put, e_get, e_res, e_keep_n, e_keep_c, e_keep1_s, e_asg_i, Option.getD_some, Nat.reduceEqDiff, true_and, and_true, s_ret_r, s_retX, s_cells_n, t_tp, t_n, t_c, t_1l, t_i, r_n, r_t, r_cons, one_2, Bool.and_true, Bool.true_and, List.getElem?_cons_zero, List.getElem?_cons_succ]
      rw [w64 (by omega) (by omega), if_pos (by omega)]
      exact ⟨rfl, rfl⟩
theorem r23 (t : ByteArray) (a : Int) : R cx0 Try.prog 23 [.lf (.str t), .lf (.int .i64 a)] [] (.tp [.lf (.int .i64 (spot t a).1), .lf (.int .i64 (spot t a).2.1), .lf (.int .i64 (spot t a).2.2)]) [] := by
  refine R_i [] [] c23_ok rfl (by simp) ?_
  have key : ∀ k : Nat, k ≤ t.size → t.size ≤ 65536 → ∀ (n j : Nat), j + n = k → LoopAt cx0 Try.prog c23_12 [0, 1, 7, 8] (blkK 0 (seqK cx0 Try.prog c23_29 (retS [] [] 0 [RV.t 4, RV.t 5, RV.t 6] (.tp [.lf (.int .i64 (spot t k).1), .lf (.int .i64 (spot t k).2.1), .lf (.int .i64 (spot t k).2.2)]) [])))
      { m := 0, tm := [(0, PV.lf (L.str t)), (1, PV.lf (L.int IntKind.i64 (k : Int))), (7, PV.lf (L.int IntKind.i64 (((t.data.toList.take j).count 10 : Nat) + 1))), (8, PV.lf (L.int IntKind.i64 (j : Int)))], ce := [] } := by
    intro k hk hs n
    induction n with
    | zero =>
      intro j hj Z hZ
      apply hZ
      have ej : j = k := by omega
      subst ej
      obtain ⟨T, g1, g2, g3, g4, g5⟩ := place_line t j (by omega)
      have hl : lineOf t (((t.data.toList.take j).count 10 : Nat) + 1) = some (stt t.data.toList j 0 0, T) := by
        unfold lineOf; rw [if_neg (by omega), ← g1]; congr 1; omega
      simp -implicitDefEqProofs (maxSteps := 2000000) only [c23, ↓reduceIte, s_skip, s_exit, s_ops0, s_seq, s_cond, s_block, s_opsK, s_seqK_n, s_seqK_e, s_blkK_n, s_blkK_e, s_loopK_n, s_loopK_e, s_cnd, s_nil, s_cons, s_wopsK, s_putK, o_mv, o_as, o_bin, v_add, v_eql, v_lss, o_ixs, v_ixs, o_call, e_t, e_k, e_put, e_get, e_res, e_keep_n, e_keep_c, e_keep1_s, e_asg_i, Option.getD_some, Nat.reduceEqDiff, reduceCtorEq, decide_eq_true_eq, List.map_cons, List.map_nil, PV.leaves, List.flatMap_cons, List.flatMap_nil, List.append_nil, List.cons_append, List.nil_append, rl_i, rl_s, m_lf, e_head, e_headK, kC_n, pO_n, pO_i, pO_s, List.range_zero]
      rw [if_neg (by omega)]
      refine wcall_s (r36 t _ hs) rfl rfl ?_
      rw [hl]
      generalize stt t.data.toList j 0 0 = F at *
      have hp : spot t j = ((((t.data.toList.take j).count 10 : Nat) : Int) + 1, ((cnt (j - F) (pts ((t.data.toList.take T).drop F)) : Nat) : Int), (0 : Int)) := by
        unfold spot; rw [if_neg (by omega), if_neg (by omega), Int.toNat_natCast, g1]
      rw [hp]
      have htl : (t.data.toList.take T).length = T := by simp; omega
      have tot : 1 + cnt j (ends T ((t.data.toList.take T).drop F) F) = cnt (j - F) (pts ((t.data.toList.take T).drop F)) := by
        unfold pts
        rw [cnt_cons, if_pos (Nat.zero_le _)]
        have e := ends_shift F T ((t.data.toList.take T).drop F) 0
        rw [Nat.zero_add] at e
        rw [e, cnt_shift _ _ g4, ends_more T ((t.data.toList.take T).drop F).length _ _ (by rw [List.length_drop, htl]; omega) (Nat.le_refl _)]
      have inner : ∀ (n i col : Nat), T - i ≤ n → F ≤ i → i ≤ T → col ≤ i + 1 → col + cnt j (ends n ((t.data.toList.take T).drop i) i) = cnt (j - F) (pts ((t.data.toList.take T).drop F)) →
          LoopAt cx0 Try.prog c23_22 [0, 1, 7, 10, 12, 13] (blkK 2 (seqK cx0 Try.prog c23_26 (retS [] [] 0 [RV.t 4, RV.t 5, RV.t 6] (.tp [.lf (.int .i64 (((t.data.toList.take j).count 10 : Nat) + 1)), .lf (.int .i64 (cnt (j - F) (pts ((t.data.toList.take T).drop F)) : Nat)), .lf (.int .i64 0)]) [])))
          { m := 0, tm := [(0, PV.lf (L.str t)), (1, PV.lf (L.int IntKind.i64 ↑j)), (7, PV.lf (L.int IntKind.i64 (((t.data.toList.take j).count 10 : Nat) + 1))), (10, PV.lf (L.int IntKind.i64 ↑T)), (12, PV.lf (L.int IntKind.i64 (col : Int))), (13, PV.lf (L.int IntKind.i64 (i : Int)))], ce := [] } := by
        intro n
        induction n with
        | zero =>
          intro i col hn hi1 hi2 hcol he Z hZ
          apply hZ
          simp only [ends] at he
          have e0 : cnt j [] = 0 := rfl
          simp -implicitDefEqProofs (maxSteps := 2000000) only [c23, ↓reduceIte, s_skip, s_exit, s_ret, s_ops0, s_seq, s_cond, s_block, s_opsK, s_seqK_n, s_seqK_e, s_blkK_e, s_loopK_e, s_cnd, s_nil, s_cons, s_wopsK, s_putK, o_mv, o_as, o_bin, v_lss, o_sls, v_sls_c, o_call, e_t, e_k, e_put, e_get, e_res, e_keep_n, e_keep_c, e_keep1_s, e_asg_i, Option.getD_some, Option.map_some, Option.map_none, Nat.reduceEqDiff, reduceCtorEq, true_and, and_true, decide_eq_true_eq, s_ret_r, s_retX, s_cells_n, t_tp, t_n, t_c, t_1l, t_i, r_n, r_t, r_cons, one_2, List.map_cons, List.map_nil, PV.leaves, List.flatMap_cons, List.flatMap_nil, List.append_nil, List.cons_append, List.nil_append, Bool.and_true, Bool.true_and, rl_i, rl_s, m_lf]
          rw [if_neg (by omega)]
          omega
        | succ n ih =>
          intro i col hn hi1 hi2 hcol he Z hZ
          apply hZ
          have hll : ((t.data.toList.take T).drop i).length = T - i := by rw [List.length_drop, htl]
          simp only [ends, hll] at he
          have hsz : (t.extract 0 T).size = T := by rw [ByteArray.size_extract]; omega
          have hdr : (t.extract 0 T).data.toList.drop i = (t.data.toList.take T).drop i := by rw [ba_ext, List.drop_zero]
          simp -implicitDefEqProofs (maxSteps := 2000000) only [c23, ↓reduceIte, s_skip, s_exit, s_ret, s_ops0, s_seq, s_cond, s_block, s_opsK, s_seqK_n, s_seqK_e, s_blkK_e, s_loopK_e, s_cnd, s_nil, s_cons, s_wopsK, s_putK, o_mv, o_as, o_bin, v_lss, o_sls, v_sls_c, o_call, e_t, e_k, e_put, e_get, e_res, e_keep_n, e_keep_c, e_keep1_s, e_asg_i, Option.getD_some, Option.map_some, Option.map_none, Nat.reduceEqDiff, reduceCtorEq, true_and, and_true, decide_eq_true_eq, s_ret_r, s_retX, s_cells_n, t_tp, t_n, t_c, t_1l, t_i, r_n, r_t, r_cons, one_2, List.map_cons, List.map_nil, PV.leaves, List.flatMap_cons, List.flatMap_nil, List.append_nil, List.cons_append, List.nil_append, Bool.and_true, Bool.true_and, rl_i, rl_s, m_lf]
          with_reducible refine ite_pr (fun h => ?_) (fun h => ?_)
          · rw [if_neg (by omega), cnt_cons, List.drop_drop] at he
            have w := wd_pos ((t.data.toList.take T).drop i)
            have w2 := wd_le (l := (t.data.toList.take T).drop i) (by omega)
            rw [hll] at w2
            rw [Int.toNat_natCast]
            refine ⟨by omega, wcall_s (r39 (t.extract 0 T) i (by omega) (by omega)) rfl rfl ?_⟩
            rw [hdr]
            generalize wd ((t.data.toList.take T).drop i) = W at *
            have e1 : ((i : Int) + (W : Int)) = ((i + W : Nat) : Int) := by omega
            simp -implicitDefEqProofs (maxSteps := 2000000) only [c23, ↓reduceIte, s_skip, s_ops0, s_seq, s_cond, s_opsK, s_seqK_n, s_blkK_n, s_loopK_n, s_cnd, s_nil, s_cons, s_wopsK, s_putK, o_mv, o_as, o_bin, v_add, v_leq, e_t, e_k, e_put, e_get, e_res, e_keep_n, e_keep_c, e_keep1_s, e_asg_i, Option.getD_some, Nat.reduceEqDiff, reduceCtorEq, Bool.false_eq_true, decide_eq_true_eq, St.clr, outV, ownsV, owns1, ownL, List.append_nil, ol_i, m_lf, e_head, e_headK, kC_n, pO_n, pO_i, pO_s, List.range_zero]
            rw [w64 (x := (i : Int) + (W : Int)) (by omega) (by omega), w64 (x := (col : Int) + 1) (by omega) (by omega), e1]
            with_reducible refine ite_pr (fun h2 => ?_) (fun h2 => ?_)
            · rw [if_pos (by omega)] at he
              exact ih (i + W) (col + 1) (by omega) (by omega) (by omega) (by omega) (by omega) Z hZ
            · rw [if_neg (by omega)] at he
              exact ih (i + W) col (by omega) (by omega) (by omega) (by omega) (by omega) Z hZ
          · rw [if_pos (by omega)] at he
            have e0 : cnt j [] = 0 := rfl
            omega
      simp -implicitDefEqProofs (maxSteps := 2000000) only [c23, Option.isSome_some, ofst, osnd, ↓reduceIte, s_ops0, s_seq, s_block, s_loop, s_opsK, s_seqK_n, s_nil, s_cons, s_wopsK, s_putK, o_mv, o_as, o_ext, v_ext0, v_ext1, v_ext2, e_t, e_k, e_put, e_get, e_res, e_keep_n, e_keep_c, e_keep1_s, e_asg_b, e_asg_i, Option.getD_some, Option.map_some, Nat.reduceEqDiff, reduceCtorEq, Bool.false_eq_true, St.clr, outV, ownsV, owns1, ownL, List.map_cons, List.map_nil, List.any_cons, List.any_nil, Bool.or_self, List.append_nil, ol_b, ol_i, m_tp, m_1l, e_head, e_headK, kC_n, pO_n, pO_i, pO_s, List.range_zero]
      exact inner T F 1 (by omega) (by omega) (by omega) (by omega) tot
    | succ n ih =>
      intro j hj Z hZ
      apply hZ
      have hb : byteAt t (j : Int) = ((t.data.toList.getD j 0).toNat : Int) := rfl
      have hc := count_le (t.data.toList.take j)
      have hc2 : (t.data.toList.take j).length ≤ j := by simp; omega
      have ih' := ih (j + 1) (by omega) Z hZ
      rw [take_count _ _ (by rw [size_len]; omega)] at ih'
      simp -implicitDefEqProofs (maxSteps := 2000000) only [c23, ↓reduceIte, s_skip, s_exit, s_ops0, s_seq, s_cond, s_block, s_opsK, s_seqK_n, s_seqK_e, s_blkK_n, s_blkK_e, s_loopK_n, s_loopK_e, s_cnd, s_nil, s_cons, s_wopsK, s_putK, o_mv, o_as, o_bin, v_add, v_eql, v_lss, o_ixs, v_ixs, o_call, e_t, e_k, e_put, e_get, e_res, e_keep_n, e_keep_c, e_keep1_s, e_asg_i, Option.getD_some, Nat.reduceEqDiff, reduceCtorEq, decide_eq_true_eq, List.map_cons, List.map_nil, PV.leaves, List.flatMap_cons, List.flatMap_nil, List.append_nil, List.cons_append, List.nil_append, rl_i, rl_s, m_lf, e_head, e_headK, kC_n, pO_n, pO_i, pO_s, List.range_zero]
      rw [if_pos (by omega), hb, w64 (x := (j : Int) + 1) (by omega) (by omega), w64 (by omega) (by omega)]
      refine ⟨by omega, ?_⟩
      with_reducible refine ite_pr (fun h => ?_) (fun h => ?_)
      · rw [if_pos (eq10 _ h)] at ih'
        exact ih'
      · rw [if_neg (fun e => h (by rw [e]; rfl))] at ih'
        exact ih'
  simp -implicitDefEqProofs (maxSteps := 2000000) only [c23, ↓reduceIte, s_skip, s_ret, s_ops0, s_seq, s_cond, s_block, s_loop, s_opsK, s_seqK_n, s_seqK_r, s_cnd, s_nil, s_cons, s_guard, s_wopsK, s_putK, s_grd, q_mv, q_bin, q_lns, o_mv, o_as, o_pk, v_pk, o_bin, v_lss, v_gtr, o_lns, v_lns, e_t, e_k, e_put, e_get, e_res, e_keep_n, e_keep_c, e_keep1_s, e_asg_i, St.init, enum, List.length_nil, Option.getD_some, Nat.reduceEqDiff, reduceCtorEq, true_and, and_true, cond_false, Bool.not_false, Bool.true_eq_false, Bool.false_eq_true, decide_eq_true_eq, decide_eq_false_iff_not, s_ret_r, s_retX, s_cells_n, t_tp, t_n, t_c, t_1l, t_i, r_n, r_t, r_cons, one_2, List.append_nil, Bool.and_true, Bool.true_and, e_head, e_headK, kC_n, pO_n, pO_i, pO_s, List.range_zero, Nat.zero_add, ite_not]
  with_reducible refine ite_pr (fun h => ?_) (fun h => ?_)
  · rw [show spot t a = (0, 0, 2) by unfold spot; rw [if_pos (by omega)]]; exact ⟨rfl, rfl, rfl⟩
  with_reducible refine ite_pr (fun h2 => ?_) (fun h2 => ?_)
  · rw [show spot t a = (0, 0, 1) by unfold spot; rw [if_neg (by omega), if_pos (by omega)]]; exact ⟨rfl, rfl, rfl⟩
  with_reducible refine ite_pr (fun h3 => ?_) (fun h3 => ?_)
  · rw [show spot t a = (0, 0, 1) by unfold spot; rw [if_neg (by omega), if_pos (by omega)]]; exact ⟨rfl, rfl, rfl⟩
  obtain ⟨k, rfl⟩ : ∃ k : Nat, a = k := ⟨a.toNat, by omega⟩
  exact key k (by omega) (by omega) k 0 (by omega)
/-- The j-th one, or the error. -/
def pick (P : List Nat) (j : Nat) : Int × Int := if j < P.length then ((P.getD j 0 : Nat), 0) else (0, 1)
theorem pick_nil (j : Nat) : pick [] j = (0, 1) := rfl
theorem pick_zero (x : Nat) (P : List Nat) : pick (x :: P) 0 = ((x : Int), 0) := by simp [pick]
theorem pick_succ (x : Nat) (P : List Nat) (j : Nat) : pick (x :: P) (j + 1) = pick P j := by simp [pick]
theorem pick_one (x : Nat) (j : Nat) (h : 0 < j) : pick [x] j = (0, 1) := by
  obtain ⟨k, rfl⟩ : ∃ k, j = k + 1 := ⟨j - 1, by omega⟩
  rw [pick_succ, pick_nil]
theorem r25 (t : ByteArray) (n c : Int) (h2 : -9223372036854775808 ≤ c) (h3 : c ≤ 9223372036854775807) : R cx0 Try.prog 25 [.lf (.str t), .lf (.int .i64 n), .lf (.int .i64 c)] [] (.tp [.lf (.int .i64 (atOf t n c).1), .lf (.int .i64 (atOf t n c).2)]) [] := by
  refine R_i [] [] c25_ok rfl (by simp) ?_
  simp -implicitDefEqProofs (maxSteps := 2000000) only [c25, ↓reduceIte, s_skip, s_ret, s_ops0, s_seq, s_cond, s_opsK, s_seqK_n, s_seqK_r, s_cnd, s_nil, s_cons, s_wopsK, s_putK, o_mv, o_as, o_bin, v_gtr, o_lns, v_lns, o_call, e_t, e_k, e_put, e_get, e_res, e_keep_n, e_keep_c, e_keep1_s, e_asg_i, St.init, enum, List.length_nil, Option.getD_some, Nat.reduceEqDiff, Nat.reduceAdd, reduceCtorEq, true_and, and_true, decide_eq_true_eq, s_ret_r, s_retX, s_cells_n, t_tp, t_n, t_c, t_1l, t_i, r_n, r_t, r_cons, one_2, List.map_cons, List.map_nil, PV.leaves, List.flatMap_cons, List.flatMap_nil, List.append_nil, List.cons_append, List.nil_append, Bool.and_true, Bool.true_and, rl_i, rl_s, m_lf, Nat.zero_add]
  with_reducible refine ite_pr (fun h => ?_) (fun h => ?_)
  · rw [show atOf t n c = (0, 2) by unfold atOf; rw [if_pos (by omega)]]; exact ⟨rfl, rfl⟩
  refine wcall_s (r36 t n (by omega)) rfl rfl ?_
  cases hl : lineOf t n with
  | none =>
    rw [show atOf t n c = (0, 1) by unfold atOf; rw [if_neg (by omega), hl]]
    simp -implicitDefEqProofs (maxSteps := 2000000) only [c25, Option.isSome_none, ofst, osnd, ↓reduceIte, s_ret, s_ops0, s_seq, s_cond, s_opsK, s_seqK_n, s_seqK_r, s_cnd, s_nil, s_cons, s_guard, s_wopsK, s_putK, s_grd, o_mv, o_as, o_pk, v_pk, o_un, v_not, o_ext, v_ext0, v_ext1, v_ext2, e_t, e_k, e_put, e_get, e_res, e_keep_n, e_keep_c, e_keep1_s, e_asg_b, e_asg_i, Option.getD_some, Option.getD_none, Option.map_none, Nat.reduceEqDiff, reduceCtorEq, and_true, Bool.not_false, Bool.true_eq_false, Bool.false_eq_true, s_ret_r, s_retX, s_cells_n, t_tp, t_n, t_c, t_1l, t_i, r_n, r_t, r_cons, one_2, St.clr, outV, ownsV, owns1, ownL, List.map_cons, List.map_nil, List.any_cons, List.any_nil, Bool.or_self, Bool.and_true, ol_b, ol_i, m_tp, m_1l]
  | some x =>
    obtain ⟨F, T⟩ := x
    obtain ⟨q1, q2, q3⟩ := lineOf_at t n F T hl
    simp -implicitDefEqProofs (maxSteps := 2000000) only [c25, Option.isSome_some, ofst, osnd, ↓reduceIte, s_skip, s_ret, s_ops0, s_seq, s_cond, s_block, s_loop, s_opsK, s_seqK_n, s_seqK_r, s_cnd, s_nil, s_cons, s_guard, s_wopsK, s_putK, s_grd, q_mv, q_bin, o_mv, o_as, o_pk, v_pk, o_bin, v_lss, o_un, v_not, o_ext, v_ext0, v_ext1, v_ext2, e_t, e_k, e_put, e_get, e_res, e_keep_n, e_keep_c, e_keep1_s, e_asg_b, e_asg_i, Option.getD_some, Option.map_some, Nat.reduceEqDiff, reduceCtorEq, true_and, and_true, cond_false, Bool.not_true, Bool.false_eq_true, decide_eq_true_eq, s_ret_r, s_retX, s_cells_n, t_tp, t_n, t_c, t_1l, t_i, r_n, r_t, r_cons, one_2, St.clr, outV, ownsV, owns1, ownL, List.map_cons, List.map_nil, List.any_cons, List.any_nil, Bool.or_self, List.append_nil, Bool.and_true, Bool.true_and, ol_b, ol_i, m_tp, m_1l, e_head, e_headK, kC_n, pO_n, pO_i, pO_s, List.range_zero]
    with_reducible refine ite_pr (fun h => ?_) (fun h => ?_)
    · rw [show atOf t n c = (0, 1) by unfold atOf; rw [if_neg (by omega), hl]; simp only; rw [if_neg (by omega)]]; exact ⟨rfl, rfl⟩
    have htl : (t.data.toList.take T).length = T := by simp; omega
    have inner : ∀ (m i k : Nat), T - i ≤ m → F ≤ i → i ≤ T → k ≤ i → (k : Int) + 1 ≤ c → (atOf t n c = pick (i :: ends m ((t.data.toList.take T).drop i) i) (c - 1 - k).toNat) →
        LoopAt cx0 Try.prog c25_14 [0, 2, 9, 11, 12] (blkK 0 (seqK cx0 Try.prog c25_22 (retS [] [] 0 [RV.t 6, RV.t 7] (PV.tp [PV.lf (L.int IntKind.i64 (atOf t n c).fst), PV.lf (L.int IntKind.i64 (atOf t n c).snd)]) [])))
        { m := 0, tm := [(0, PV.lf (L.str t)), (2, PV.lf (L.int IntKind.i64 c)), (9, PV.lf (L.int IntKind.i64 ↑T)), (11, PV.lf (L.int IntKind.i64 ((k : Int) + 1))), (12, PV.lf (L.int IntKind.i64 (i : Int)))], ce := [] } := by
      intro m
      induction m with
      | zero =>
        intro i k hm hi1 hi2 hk hc he Z hZ
        apply hZ
        have ei : i = T := by omega
        subst ei
        simp only [ends] at he
        simp -implicitDefEqProofs (maxSteps := 2000000) only [c25, ↓reduceIte, s_skip, s_exit, s_ret, s_ops0, s_seq, s_cond, s_block, s_opsK, s_seqK_n, s_seqK_e, s_seqK_r, s_blkK_e, s_blkK_r, s_loopK_e, s_loopK_r, s_cnd, s_nil, s_cons, s_wopsK, s_putK, o_mv, o_as, o_bin, v_eql, v_neq, v_lss, o_sls, v_sls_c, o_call, e_t, e_k, e_put, e_get, e_res, e_keep_n, e_keep_c, e_keep1_s, e_asg_i, Option.getD_some, Option.map_some, Option.map_none, Nat.reduceEqDiff, reduceCtorEq, true_and, and_true, decide_eq_true_eq, s_ret_r, s_retX, s_cells_n, t_tp, t_n, t_c, t_1l, t_i, r_n, r_t, r_cons, one_2, List.map_cons, List.map_nil, PV.leaves, List.flatMap_cons, List.flatMap_nil, List.append_nil, List.cons_append, List.nil_append, Bool.and_true, Bool.true_and, rl_i, rl_s, m_lf, ne_eq, ite_not]
        rw [if_neg (by omega)]
        with_reducible refine ite_pr (fun h2 => ?_) (fun h2 => ?_)
        · rw [he, show (c - 1 - (k : Int)).toNat = 0 by omega, pick_zero]; exact ⟨rfl, rfl⟩
        · rw [he, pick_one _ _ (by omega)]; exact ⟨rfl, rfl⟩
      | succ m ih =>
        intro i k hm hi1 hi2 hk hc he Z hZ
        apply hZ
        have hll : ((t.data.toList.take T).drop i).length = T - i := by rw [List.length_drop, htl]
        simp only [ends, hll] at he
        have hsz : (t.extract 0 T).size = T := by rw [ByteArray.size_extract]; omega
        have hdr : (t.extract 0 T).data.toList.drop i = (t.data.toList.take T).drop i := by rw [ba_ext, List.drop_zero]
        simp -implicitDefEqProofs (maxSteps := 2000000) only [c25, ↓reduceIte, s_skip, s_exit, s_ret, s_ops0, s_seq, s_cond, s_block, s_opsK, s_seqK_n, s_seqK_e, s_seqK_r, s_blkK_e, s_blkK_r, s_loopK_e, s_loopK_r, s_cnd, s_nil, s_cons, s_wopsK, s_putK, o_mv, o_as, o_bin, v_eql, v_neq, v_lss, o_sls, v_sls_c, o_call, e_t, e_k, e_put, e_get, e_res, e_keep_n, e_keep_c, e_keep1_s, e_asg_i, Option.getD_some, Option.map_some, Option.map_none, Nat.reduceEqDiff, reduceCtorEq, true_and, and_true, decide_eq_true_eq, s_ret_r, s_retX, s_cells_n, t_tp, t_n, t_c, t_1l, t_i, r_n, r_t, r_cons, one_2, List.map_cons, List.map_nil, PV.leaves, List.flatMap_cons, List.flatMap_nil, List.append_nil, List.cons_append, List.nil_append, Bool.and_true, Bool.true_and, rl_i, rl_s, m_lf, ne_eq, ite_not]
        with_reducible refine ite_pr (fun h => ?_) (fun h => ?_)
        · rw [if_neg (by omega), List.drop_drop] at he
          have w := wd_pos ((t.data.toList.take T).drop i)
          have w2 := wd_le (l := (t.data.toList.take T).drop i) (by omega)
          rw [hll] at w2
          with_reducible refine ite_pr (fun h2 => ?_) (fun h2 => ?_)
          · rw [he, show (c - 1 - (k : Int)).toNat = 0 by omega, pick_zero]; exact ⟨rfl, rfl⟩
          rw [Int.toNat_natCast]
          refine ⟨by omega, wcall_s (r39 (t.extract 0 T) i (by omega) (by omega)) rfl rfl ?_⟩
          rw [hdr]
          generalize wd ((t.data.toList.take T).drop i) = W at *
          have e1 : ((i : Int) + (W : Int)) = ((i + W : Nat) : Int) := by omega
          have e2 : (c - 1 - (k : Int)).toNat = (c - 1 - ((k + 1 : Nat) : Int)).toNat + 1 := by omega
          rw [e2, pick_succ] at he
          simp -implicitDefEqProofs (maxSteps := 2000000) only [c25, ↓reduceIte, s_ops0, s_opsK, s_seqK_n, s_blkK_n, s_loopK_n, s_nil, s_cons, s_wopsK, s_putK, o_mv, o_as, o_bin, v_add, e_t, e_k, e_put, e_get, e_res, e_keep_n, e_keep_c, e_keep1_s, e_asg_i, Option.getD_some, Nat.reduceEqDiff, reduceCtorEq, Bool.false_eq_true, St.clr, outV, ownsV, owns1, ownL, List.append_nil, ol_i, m_lf, e_head, e_headK, kC_n, pO_n, pO_i, pO_s, List.range_zero]
          rw [w64 (x := (i : Int) + (W : Int)) (by omega) (by omega), w64 (x := (k : Int) + 1 + 1) (by omega) (by omega), e1]
          exact ih (i + W) (k + 1) (by omega) (by omega) (by omega) (by omega) (by omega) he Z hZ
        · rw [if_pos (by omega)] at he
          have ei : i = T := by omega
          subst ei
          with_reducible refine ite_pr (fun h2 => ?_) (fun h2 => ?_)
          · rw [he, show (c - 1 - (k : Int)).toNat = 0 by omega, pick_zero]; exact ⟨rfl, rfl⟩
          · rw [he, pick_one _ _ (by omega)]; exact ⟨rfl, rfl⟩
    refine inner T F 0 (by omega) (by omega) (by omega) (by omega) (by omega) ?_
    unfold atOf
    rw [if_neg (by omega), hl]
    simp only
    have e2 : F :: ends T ((t.data.toList.take T).drop F) F = (pts ((t.data.toList.take T).drop F)).map (· + F) := by
      unfold pts
      rw [List.map_cons, ← ends_shift, Nat.zero_add, ends_more T ((t.data.toList.take T).drop F).length _ _ (by rw [List.length_drop, htl]; omega) (Nat.le_refl _)]
    have e3 : (c - 1 - ((0 : Nat) : Int)).toNat = (c - 1).toNat := by omega
    rw [e2, e3]
    unfold pick
    rw [List.length_map]
    by_cases hq : (c - 1).toNat < (pts ((t.data.toList.take T).drop F)).length
    · rw [if_pos (by omega), if_pos hq]
      rw [List.getD_eq_getElem?_getD, List.getD_eq_getElem?_getD, List.getElem?_map, List.getElem?_eq_getElem hq]
      simp only [Option.getD_some, Option.map_some]
      rw [Int.natCast_add, Int.add_comm]
    · rw [if_neg (by omega), if_neg hq]
theorem spot_at (t : ByteArray) (a : Nat) (hs : t.size ≤ 65536) (ha : a ≤ t.size) : ∃ x : Nat, (spot t a).2.2 = 0 ∧ atOf t (spot t a).1 (spot t a).2.1 = ((x : Int), 0) ∧ x ≤ a ∧ a ≤ x + 3 ∧ spot t x = spot t a := by
  obtain ⟨T, g1, g2, g3, g4, g5⟩ := place_line t a ha
  have hst := (stt_le t.data.toList a (by rw [size_len]; exact ha)).2
  generalize stt t.data.toList a 0 0 = F at *
  have htl : (t.data.toList.take T).length = T := by simp; omega
  have hL : ((t.data.toList.take T).drop F).length = T - F := by rw [List.length_drop, htl]
  generalize hLd : (t.data.toList.take T).drop F = L at *
  have hp : spot t a = ((((t.data.toList.take a).count 10 : Nat) : Int) + 1, ((cnt (a - F) (pts L) : Nat) : Int), (0 : Int)) := by
    unfold spot; rw [if_neg (by omega), if_neg (by omega), Int.toNat_natCast, g1]; simp only; rw [hLd]
  have hl : lineOf t ((((t.data.toList.take a).count 10 : Nat) : Int) + 1) = some (F, T) := by
    unfold lineOf; rw [if_neg (by omega), ← g1]; congr 1; omega
  have hc1 : 1 ≤ cnt (a - F) (pts L) := by unfold pts; rw [cnt_cons, if_pos (Nat.zero_le _)]; omega
  have hc2 := cnt_le (a - F) (pts L)
  obtain ⟨k, hk⟩ : ∃ k, cnt (a - F) (pts L) = k + 1 := ⟨cnt (a - F) (pts L) - 1, by omega⟩
  have hkl : k < (pts L).length := by omega
  have hx1 := (cnt_iff (a - F) (pts L) (pts_sorted L) k _ (List.getElem?_eq_getElem hkl)).2 (by omega)
  generalize hy : (pts L)[k]'hkl = y at hx1
  have hy' : (pts L)[k]? = some y := by rw [List.getElem?_eq_getElem hkl, hy]
  have hgap : a - F ≤ y + 3 := by
    obtain ⟨z, hz, h3, h4⟩ := ends_gap L.length L 0 (a - F) (Nat.le_refl _) (by omega) (by omega)
    obtain ⟨i, hi⟩ := List.mem_iff_getElem?.1 hz
    have h5 := (cnt_iff (a - F) (pts L) (pts_sorted L) i z hi).1 h3
    have hzy : z ≤ y := by
      rcases Nat.lt_or_ge i k with h6 | h6
      · have hil : i < (pts L).length := by omega
        have := List.pairwise_iff_getElem.1 (pts_sorted L) i k hil hkl h6
        have ez : (pts L)[i]'hil = z := by
          have : (pts L)[i]? = some z := hi
          rw [List.getElem?_eq_getElem hil] at this
          exact Option.some.inj this
        omega
      · have : i = k := by omega
        subst this
        have : some z = some y := hi.symm.trans hy'
        have := Option.some.inj this
        omega
    omega
  refine ⟨F + y, by rw [hp], ?_, by omega, by omega, ?_⟩
  · rw [hp]
    unfold atOf
    rw [if_neg (by omega)]
    simp only
    rw [hl]
    simp only
    rw [hLd, if_pos (by omega)]
    have e : (((cnt (a - F) (pts L) : Nat) : Int) - 1).toNat = k := by omega
    rw [e, List.getD_eq_getElem?_getD, hy']
    simp
  · have hm : ∀ b, F ≤ b → b ≤ a → (t.data.toList.take b).count 10 = (t.data.toList.take a).count 10 := by
      intro b h1 h2
      have m1 : (t.data.toList.take F).count 10 ≤ (t.data.toList.take b).count 10 := by
        refine List.Sublist.count_le _ ?_
        exact (List.take_prefix_take_left h1).sublist
      have m2 : (t.data.toList.take b).count 10 ≤ (t.data.toList.take a).count 10 := by
        refine List.Sublist.count_le _ ?_
        exact (List.take_prefix_take_left h2).sublist
      omega
    have hb := hm (F + y) (by omega) (by omega)
    rw [hp]
    unfold spot
    rw [if_neg (by omega), if_neg (by omega), Int.toNat_natCast, hb, g1]
    simp only
    rw [hLd, show F + y - F = y by omega]
    congr 2
    have h7 := (cnt_iff y (pts L) (pts_sorted L) k y hy').1 (Nat.le_refl _)
    have h8 : cnt y (pts L) ≤ cnt (a - F) (pts L) := by
      rcases Nat.lt_or_ge (cnt (a - F) (pts L)) (cnt y (pts L)) with h9 | h9
      · have hq : k + 1 < (pts L).length := by have := cnt_le y (pts L); omega
        have hq2 := List.getElem?_eq_getElem hq
        have := (cnt_iff y (pts L) (pts_sorted L) (k + 1) _ hq2).2 (by omega)
        have h10 := List.pairwise_iff_getElem.1 (pts_sorted L) k (k + 1) hkl hq (by omega)
        omega
      · exact h9
    omega
theorem r10 (t : ByteArray) (a : Int) (h0 : -9223372036854775808 ≤ a) (h1 : a ≤ 9223372036854775807) : R cx0 Try.prog 10 [.lf (.str t), .lf (.int .i64 a)] [] (.lf (.bool true)) [] := by
  refine R_i [] [] c10_ok rfl (by simp) ?_
  simp -implicitDefEqProofs (maxSteps := 2000000) only [c10, ↓reduceIte, s_ops0, s_seq, s_opsK, s_seqK_n, s_nil, s_cons, s_wopsK, o_mv, o_as, o_call, e_t, e_k, e_put, e_get, e_res, e_keep_n, e_keep_c, e_keep1_s, e_asg_b, St.init, enum, List.length_nil, Option.getD_some, Nat.reduceEqDiff, reduceCtorEq, List.map_cons, List.map_nil, PV.leaves, List.flatMap_cons, List.flatMap_nil, List.append_nil, List.cons_append, List.nil_append, rl_i, rl_s, m_lf, Nat.zero_add]
  refine wcall_s (r22 t a h0 h1) rfl rfl ?_
  simp -implicitDefEqProofs (maxSteps := 2000000) only [c10, ↓reduceIte, s_skip, s_ops0, s_seq, s_cond, s_opsK, s_seqK_n, s_cnd, s_nil, s_cons, s_wopsK, s_putK, o_mv, o_as, o_bin, v_neq, o_ext, v_ext0, v_ext1, v_ext2, o_call, e_t, e_k, e_put, e_get, e_res, e_keep_n, e_keep_c, e_keep1_s, e_asg_i, Option.getD_some, Nat.reduceEqDiff, reduceCtorEq, Bool.false_eq_true, decide_eq_true_eq, St.clr, outV, ownsV, owns1, ownL, List.map_cons, List.map_nil, List.any_cons, List.any_nil, Bool.or_self, PV.leaves, List.flatMap_cons, List.flatMap_nil, List.append_nil, List.cons_append, List.nil_append, rl_i, rl_s, ol_i, m_lf, m_tp, m_1l, ne_eq, ite_not]
  by_cases hs : t.size ≤ 65536
  · by_cases ha : 0 ≤ a ∧ a ≤ t.size
    · obtain ⟨k, rfl⟩ : ∃ k : Nat, a = k := ⟨a.toNat, by omega⟩
      obtain ⟨x, e1, e2, e3, e4, e5⟩ := spot_at t k hs (by omega)
      have b1 : (spot t k).1 = (((t.data.toList.take k).count 10 : Nat) : Int) + 1 ∧ 0 ≤ (spot t k).2.1 ∧ (spot t k).2.1 ≤ 70000 := by
        obtain ⟨T, g1, g2, g3, g4, g5⟩ := place_line t k (by omega)
        unfold spot
        rw [if_neg (by omega), if_neg (by omega), Int.toNat_natCast, g1]
        simp only
        have q1 := cnt_le (k - stt t.data.toList k 0 0) (pts ((t.data.toList.take T).drop (stt t.data.toList k 0 0)))
        have q2 := ends_len ((t.data.toList.take T).drop (stt t.data.toList k 0 0)).length ((t.data.toList.take T).drop (stt t.data.toList k 0 0)) 0
        have q3 : ((t.data.toList.take T).drop (stt t.data.toList k 0 0)).length ≤ T := by simp; omega
        have q4 : (pts ((t.data.toList.take T).drop (stt t.data.toList k 0 0))).length = (ends ((t.data.toList.take T).drop (stt t.data.toList k 0 0)).length ((t.data.toList.take T).drop (stt t.data.toList k 0 0)) 0).length + 1 := rfl
        refine ⟨trivial, by omega, by omega⟩
      have hc := count_le (t.data.toList.take k)
      have hc2 : (t.data.toList.take k).length ≤ k := by simp; omega
      rw [if_pos e1]
      refine wcall_s (r24 t _ _ (by omega) (by omega) (by omega) (by omega)) rfl rfl ?_
      rw [e2]
      simp -implicitDefEqProofs (maxSteps := 2000000) only [c10, ↓reduceIte, s_skip, s_ret, s_ops0, s_seq, s_cond, s_opsK, s_seqK_n, s_seqK_r, s_cnd, s_nil, s_cons, s_guard, s_wopsK, s_putK, s_grd, q_mv, q_bin, o_mv, o_as, o_pk, v_pk, o_bin, v_sub, v_neq, v_gtr, o_ext, v_ext0, v_ext1, o_call, e_t, e_k, e_put, e_get, e_res, e_keep_n, e_keep_c, e_keep1_s, e_asg_b, e_asg_i, Option.getD_some, Nat.reduceEqDiff, reduceCtorEq, true_and, and_true, cond_false, Bool.not_false, Bool.true_eq_false, Bool.false_eq_true, decide_eq_true_eq, decide_eq_false_iff_not, s_ret_r, s_retX, s_cells_n, t_lf, t_b, r_n, r_t, r_cons, one_1, St.clr, outV, ownsV, owns1, ownL, List.map_cons, List.map_nil, List.any_cons, List.any_nil, Bool.or_self, PV.leaves, List.flatMap_cons, List.flatMap_nil, List.append_nil, List.cons_append, List.nil_append, Bool.and_true, Bool.true_and, rl_i, rl_s, ol_i, m_lf, m_tp, m_1l, ne_eq, ite_not, Decidable.not_not]
      rw [if_neg (by omega), w64 (by omega) (by omega), if_neg (by omega)]
      refine wcall_s (r22 t x (by omega) (by omega)) rfl rfl ?_
      rw [e5, e1]
      simp -implicitDefEqProofs (maxSteps := 2000000) only [c10, ↓reduceIte, s_ops0, s_seq, s_opsK, s_seqK_n, s_nil, s_cons, s_wopsK, s_putK, o_mv, o_as, o_ext, v_ext0, v_ext1, v_ext2, o_call, e_t, e_put, e_get, e_res, e_keep_n, e_keep_c, e_keep1_s, e_asg_i, Option.getD_some, Nat.reduceEqDiff, reduceCtorEq, Bool.false_eq_true, St.clr, outV, ownsV, owns1, ownL, List.map_cons, List.map_nil, List.any_cons, List.any_nil, Bool.or_self, PV.leaves, List.flatMap_nil, ol_i, m_tp, m_1l]
      refine wcall_s r15 rfl rfl ?_
      simp -implicitDefEqProofs (maxSteps := 2000000) only [c10, ↓reduceIte, s_ret, s_opsK, s_seqK_n, s_nil, s_cons, s_guard, s_wopsK, s_putK, s_grd, q_mv, q_bin, o_mv, o_as, o_pk, v_pk, o_bin, v_eql, e_t, e_k, e_put, e_get, e_res, e_keep_n, e_keep_c, e_keep1_s, e_asg_b, Option.getD_some, Nat.reduceEqDiff, and_true, cond_false, Bool.false_eq_true, decide_eq_true_eq, s_ret_r, s_retX, s_cells_n, t_lf, t_b, r_n, r_t, r_cons, one_1, St.clr, outV, ownsV, owns1, ownL, Bool.and_true, ol_b, m_lf]
    · have e : spot t a = (0, 0, 1) := by unfold spot; rw [if_neg (by omega), if_pos (by omega)]
      rw [e]
      simp -implicitDefEqProofs (maxSteps := 2000000) only [c10, ↓reduceIte]
      refine wcall_s r15 rfl rfl ?_
      simp -implicitDefEqProofs (maxSteps := 2000000) only [c10, ↓reduceIte, s_ret, s_opsK, s_seqK_n, s_seqK_r, s_nil, s_cons, s_guard, s_wopsK, s_putK, s_grd, q_mv, q_pk, q_bin, q_lns, o_mv, o_as, o_pk, v_pk, o_bin, v_eql, v_lss, v_gtr, o_lns, v_lns, e_t, e_k, e_put, e_get, e_res, e_keep_n, e_keep_c, e_keep1_s, e_asg_b, Option.getD_some, Nat.reduceEqDiff, reduceCtorEq, true_and, and_true, cond_false, Bool.not_false, Bool.true_eq_false, Bool.false_eq_true, decide_eq_true_eq, decide_eq_false_iff_not, s_ret_r, s_retX, s_cells_n, t_lf, t_b, r_n, r_t, r_cons, one_1, St.clr, outV, ownsV, owns1, ownL, Bool.and_true, Bool.true_and, ol_b, m_lf, ite_not]
      repeat' (with_reducible refine ite_pr (fun _ => ?_) (fun _ => ?_))
      all_goals first | trivial | omega
  · have e : spot t a = (0, 0, 2) := by unfold spot; rw [if_pos (by omega)]
    rw [e]
    simp -implicitDefEqProofs (maxSteps := 2000000) only [c10, ↓reduceIte]
    refine wcall_s r15 rfl rfl ?_
    simp -implicitDefEqProofs (maxSteps := 2000000) only [c10, ↓reduceIte, s_ret, s_opsK, s_seqK_n, s_seqK_r, s_nil, s_cons, s_guard, s_wopsK, s_putK, s_grd, q_mv, q_pk, q_bin, q_lns, o_mv, o_as, o_pk, v_pk, o_bin, v_eql, v_lss, v_gtr, o_lns, v_lns, e_t, e_k, e_put, e_get, e_res, e_keep_n, e_keep_c, e_keep1_s, e_asg_b, Option.getD_some, Nat.reduceEqDiff, reduceCtorEq, true_and, and_true, cond_false, Bool.not_false, Bool.true_eq_false, Bool.false_eq_true, decide_eq_true_eq, decide_eq_false_iff_not, s_ret_r, s_retX, s_cells_n, t_lf, t_b, r_n, r_t, r_cons, one_1, St.clr, outV, ownsV, owns1, ownL, Bool.and_true, Bool.true_and, ol_b, m_lf, ite_not]
    rw [if_pos (by omega)]; trivial
theorem r9 (t : ByteArray) (a n c : Int) (h0 : -9223372036854775808 ≤ a) (h1 : a ≤ 9223372036854775807) (h2 : -9223372036854775808 ≤ n) (h3 : n ≤ 9223372036854775807) (h4 : -9223372036854775808 ≤ c) (h5 : c ≤ 9223372036854775807) :
    R cx0 Try.prog 9 [.ag [.str t, .int .i64 a, .int .i64 n, .int .i64 c]] [] (.lf (.bool true)) [] := by
  refine R_i [] [] c9_ok rfl (by simp) ?_
  simp -implicitDefEqProofs (maxSteps := 2000000) only [c9, ↓reduceIte, s_ops0, s_seq, s_opsK, s_seqK_n, s_nil, s_cons, s_wopsK, s_putK, o_mv, o_as, v_part_f, v_atK, o_bx, o_fa, v_fa_p, o_ld, v_ld_p, v_ldC, o_call, e_t, e_k, e_put, e_get, e_res, e_keep_n, e_keep_c, e_keep1_s, e_asg_b, e_asg_s, St.init, enum, List.length_nil, Option.getD_some, Nat.reduceEqDiff, true_and, List.map_cons, List.map_nil, PV.leaves, List.flatMap_cons, List.flatMap_nil, List.append_nil, List.cons_append, List.nil_append, Bool.true_and, Nat.zero_le, List.getElem?_cons_zero, List.getElem?_cons_succ, kc_i, kc_s, rl_i, rl_s, m_lf, m_ag, m_n, m_c, m_all, d_n, Nat.zero_add, Nat.add_zero, v_bx_a]
  refine wcall_s (r22 t a h0 h1) rfl rfl ?_
  simp -implicitDefEqProofs (maxSteps := 2000000) only [c9, ↓reduceIte, s_ops0, s_seq, s_opsK, s_seqK_n, s_nil, s_cons, s_wopsK, s_putK, o_mv, o_as, o_ext, v_ext0, v_ext1, v_ext2, v_part_f, v_atK, o_fa, v_fa_p, o_ld, v_ld_p, v_ldC, o_call, e_t, e_put, e_get, e_res, e_keep_n, e_keep_c, e_keep1_s, e_asg_i, Option.getD_some, Nat.reduceEqDiff, Bool.false_eq_true, St.clr, outV, ownsV, owns1, ownL, List.map_cons, List.map_nil, List.any_cons, List.any_nil, Bool.or_self, PV.leaves, List.flatMap_cons, List.flatMap_nil, List.append_nil, List.cons_append, List.nil_append, List.getElem?_cons_zero, List.getElem?_cons_succ, rl_i, rl_s, ol_i, m_lf, m_tp, m_1l, Nat.zero_add]
  refine wcall_s (r23 t a) rfl rfl ?_
  simp -implicitDefEqProofs (maxSteps := 2000000) only [c9, ↓reduceIte, s_ops0, s_seq, s_opsK, s_seqK_n, s_nil, s_cons, s_wopsK, s_putK, o_mv, o_as, o_ext, v_ext0, v_ext1, v_ext2, v_part_f, v_atK, o_fa, v_fa_p, o_ld, v_ld_p, v_ldC, o_call, e_t, e_put, e_get, e_res, e_keep_n, e_keep_c, e_keep1_s, e_asg_i, Option.getD_some, Nat.reduceEqDiff, Bool.false_eq_true, St.clr, outV, ownsV, owns1, ownL, List.map_cons, List.map_nil, List.any_cons, List.any_nil, Bool.or_self, PV.leaves, List.flatMap_cons, List.flatMap_nil, List.append_nil, List.cons_append, List.nil_append, List.getElem?_cons_zero, List.getElem?_cons_succ, rl_i, rl_s, ol_i, m_lf, m_tp, m_1l, Nat.zero_add]
  refine wcall_s (r24 t n c h2 h3 h4 h5) rfl rfl ?_
  simp -implicitDefEqProofs (maxSteps := 2000000) only [c9, ↓reduceIte, s_ops0, s_seq, s_opsK, s_seqK_n, s_nil, s_cons, s_wopsK, s_putK, o_mv, o_as, o_ext, v_ext0, v_ext1, v_part_f, v_atK, o_fa, v_fa_p, o_ld, v_ld_p, v_ldC, o_call, e_t, e_put, e_get, e_res, e_keep_n, e_keep_c, e_keep1_s, e_asg_i, Option.getD_some, Nat.reduceEqDiff, Bool.false_eq_true, St.clr, outV, ownsV, owns1, ownL, List.map_cons, List.map_nil, List.any_cons, List.any_nil, Bool.or_self, PV.leaves, List.flatMap_cons, List.flatMap_nil, List.append_nil, List.cons_append, List.nil_append, List.getElem?_cons_zero, List.getElem?_cons_succ, rl_i, rl_s, ol_i, m_lf, m_tp, m_1l, Nat.zero_add]
  refine wcall_s (r25 t n c h4 h5) rfl rfl ?_
  simp -implicitDefEqProofs (maxSteps := 2000000) only [c9, ↓reduceIte, s_ops0, s_seq, s_opsK, s_seqK_n, s_nil, s_cons, s_wopsK, s_putK, o_mv, o_as, o_ext, v_ext0, v_ext1, o_call, e_t, e_put, e_get, e_res, e_keep_n, e_keep_c, e_keep1_s, e_asg_i, Option.getD_some, Nat.reduceEqDiff, Bool.false_eq_true, St.clr, outV, ownsV, owns1, ownL, List.map_cons, List.map_nil, List.any_cons, List.any_nil, Bool.or_self, PV.leaves, List.flatMap_nil, ol_i, m_tp, m_1l]
  refine wcall_s r15 rfl rfl ?_
  simp -implicitDefEqProofs (maxSteps := 2000000) only [c9, ↓reduceIte, s_ret, s_opsK, s_seqK_n, s_nil, s_cons, s_guard, s_wopsK, s_putK, s_grd, q_mv, q_bin, o_mv, o_as, o_pk, v_pk, o_bin, v_eql, e_t, e_k, e_put, e_get, e_res, e_keep_n, e_keep_c, e_keep1_s, e_asg_b, Option.getD_some, Nat.reduceEqDiff, and_true, cond_false, Bool.false_eq_true, decide_eq_true_eq, s_ret_r, s_retX, s_cells_n, t_lf, t_b, r_n, r_t, r_cons, one_1, St.clr, outV, ownsV, owns1, ownL, Bool.and_true, ol_b, m_lf]
end Go.Proofs.Ytomlkmnklonbpaa.Q
