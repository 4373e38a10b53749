/- Contracts, part Q3. -/
import Derived.Test.YtomlkmnklonbpaaQ1
import Derived.Test.YtomlkmnklonbpaaAmLeaf
set_option linter.unusedVariables false
set_option linter.unusedSimpArgs false
namespace Go.Proofs.Ytomlkmnklonbpaa.Q
open Go Go.Proofs.Ytomlkmnklonbpaa.AM

theorem w8 {x : Int} (h0 : 0 ≤ x) (h1 : x ≤ 255) : IntKind.wrap .u8 x = x := by
  simp only [IntKind.wrap, IntKind.bits, IntKind.signed]; simp; omega
theorem w64 {x : Int} (h0 : -9223372036854775808 ≤ x) (h1 : x ≤ 9223372036854775807) : IntKind.wrap .i64 x = x := by
  simp only [IntKind.wrap, IntKind.bits, IntKind.signed]; simp; omega
theorem ite_pr {p : Prop} [Decidable p] {A B : Prop} (h1 : p → A) (h2 : ¬ p → B) : if p then A else B := by split <;> simp_all
/-- what a hexadecimal digit is worth -/
def hx (c : Int) : Int := if 48 ≤ c ∧ c ≤ 57 then c - 48 else if 97 ≤ c ∧ c ≤ 102 then c - 87 else -1
theorem hx_le (c : Int) : hx c ≤ 15 := by unfold hx; split <;> (try split) <;> omega

theorem r41 (c : Int) (h0 : 0 ≤ c) (h1 : c ≤ 255) : R cx0 Try.prog 41 [.lf (.int .u8 c)] [] (.tp [.lf (.int .u8 (if 0 ≤ hx c then hx c else 0)), .lf (.bool (decide (0 ≤ hx c)))]) [] := by
  refine R_i [] [] c41_ok rfl (by simp) ?_
  simp -implicitDefEqProofs (maxSteps := 2000000) only [c41, ↓reduceIte, s_skip, s_ret, s_ops0, s_seq, s_cond, s_block, s_opsK, s_seqK_n, s_seqK_r, s_blkK_n, s_blkK_r, s_cnd, s_nil, s_cons, s_guard, s_wopsK, s_putK, s_grd, q_mv, q_bin, o_mv, o_as, o_pk, v_pk, o_bin, v_add, v_sub, v_leq, v_geq, e_t, e_k, e_put, e_get, e_res, e_keep_n, e_keep_c, e_keep1_s, e_asg_b, e_asg_i, St.init, enum, List.length_nil, Option.getD_some, Nat.reduceEqDiff, reduceCtorEq, true_and, and_true, cond_false, Bool.not_true, Bool.false_eq_true, decide_eq_true_eq, s_ret_r, s_retX, s_cells_n, t_tp, t_n, t_c, t_1l, t_b, t_i, r_n, r_t, r_cons, one_2, Bool.and_true, Bool.true_and]
  unfold hx
  repeat' split
  all_goals (try simp (disch := omega) only [w8, w64])
  all_goals (simp; try omega)
theorem r42 (c : Int) (h0 : 0 ≤ c) (h1 : c ≤ 255) : R cx0 Try.prog 42 [.lf (.int .u8 c)] [] (.lf (.int .i64 (hx c))) [] := by
  refine R_i [] [] c42_ok rfl (by simp) ?_
  simp -implicitDefEqProofs (maxSteps := 2000000) only [c42, ↓reduceIte, s_skip, s_ret, s_ops0, s_seq, s_cond, s_block, s_opsK, s_seqK_n, s_seqK_r, s_blkK_n, s_blkK_r, s_cnd, s_nil, s_cons, s_guard, s_wopsK, s_putK, s_grd, q_mv, q_bin, o_mv, o_as, o_pk, v_pk, o_bin, v_add, v_sub, v_leq, v_geq, o_cvi, v_cvi, e_t, e_k, e_put, e_get, e_res, e_keep_n, e_keep_c, e_keep1_s, e_asg_b, e_asg_i, St.init, enum, List.length_nil, Option.getD_some, Nat.reduceEqDiff, reduceCtorEq, true_and, and_true, cond_false, Bool.not_true, Bool.false_eq_true, decide_eq_true_eq, s_ret_r, s_retX, s_cells_n, t_lf, t_i, r_n, r_t, r_cons, one_1, Bool.and_true, Bool.true_and, Int.reduceNeg]
  unfold hx
  repeat' split
  all_goals (try simp (disch := omega) only [w8, w64])
  all_goals (try omega)
/-- the byte of an escape, and how long it is -/
def esc (t : ByteArray) (i : Int) : Int × Int :=
  if (t.size : Int) ≤ i + 1 then (0, 0)
  else if byteAt t (i + 1) = 110 then (10, 2)
  else if byteAt t (i + 1) = 114 then (13, 2)
  else if byteAt t (i + 1) = 116 then (9, 2)
  else if byteAt t (i + 1) = 92 ∨ byteAt t (i + 1) = 39 ∨ byteAt t (i + 1) = 34 then (byteAt t (i + 1), 2)
  else if byteAt t (i + 1) = 120 ∧ i + 3 < t.size ∧ 0 ≤ hx (byteAt t (i + 2)) ∧ 0 ≤ hx (byteAt t (i + 3)) then (hx (byteAt t (i + 2)) * 16 + hx (byteAt t (i + 3)), 4)
  else (0, 0)
theorem or_nib (x y : Int) (h0 : 0 ≤ x) (h1 : x ≤ 15) (h2 : 0 ≤ y) (h3 : y ≤ 15) : Go.bits .or .u8 (x * 16) y = x * 16 + y := by
  have key : ∀ a b : Fin 16, Go.bits .or .u8 ((a.val : Int) * 16) (b.val : Int) = (a.val : Int) * 16 + b.val := by decide +kernel
  have := key ⟨x.toNat, by omega⟩ ⟨y.toNat, by omega⟩
  simpa [Int.toNat_of_nonneg h0, Int.toNat_of_nonneg h2] using this
theorem esc_x (t : ByteArray) (i : Int) (hn : t.size ≤ 65536) (h0 : 0 ≤ i) (h1 : i + 3 < t.size) (hb : byteAt t (i + 1) = 120) :
    esc t i = if 0 ≤ hx (byteAt t (i + 2)) ∧ 0 ≤ hx (byteAt t (i + 3)) then (hx (byteAt t (i + 2)) * 16 + hx (byteAt t (i + 3)), 4) else (0, 0) := by
  unfold esc
  rw [if_neg (by omega)]
  simp [hb, h1]
theorem r26 (t : ByteArray) (i : Int) (hn : t.size ≤ 65536) (h0 : 0 ≤ i) (h1 : i < t.size) : R cx0 Try.prog 26 [.lf (.str t), .lf (.int .i64 i)] [] (.tp [.lf (.int .u8 (esc t i).1), .lf (.int .i64 (esc t i).2)]) [] := by
  have l2 := hx_le (byteAt t (i + 2))
  have l3 := hx_le (byteAt t (i + 3))
  have a1 := w64 (x := i + 1) (by omega) (by omega)
  have a2 := w64 (x := i + 2) (by omega) (by omega)
  have a3 := w64 (x := i + 3) (by omega) (by omega)
  refine R_i [] [] c26_ok rfl (by simp) ?_
  simp -implicitDefEqProofs (maxSteps := 2000000) only [c26, a1, a2, a3, ↓reduceIte, s_skip, s_ret, s_ops0, s_seq, s_cond, s_block, s_opsK, s_seqK_n, s_seqK_r, s_blkK_n, s_blkK_r, s_cnd, s_nil, s_cons, s_wopsK, s_putK, o_mv, o_as, o_bin, v_add, v_eql, v_lss, v_geq, o_ixs, v_ixs, o_lns, v_lns, o_call, e_t, e_k, e_put, e_get, e_res, e_keep_n, e_keep_c, e_keep1_s, e_asg_b, e_asg_i, St.init, enum, List.length_nil, Option.getD_some, Nat.reduceEqDiff, reduceCtorEq, true_and, and_true, decide_eq_true_eq, s_ret_r, s_retX, s_cells_n, t_tp, t_n, t_c, t_1l, t_i, r_n, r_t, r_cons, one_2, List.map_cons, List.map_nil, PV.leaves, List.flatMap_cons, List.flatMap_nil, List.append_nil, Bool.and_true, Bool.true_and, rl_i, m_lf, Nat.zero_add]
  repeat' (with_reducible first | refine ite_pr (fun _ => ?_) (fun _ => ?_) | refine And.intro ?_ ?_)
  all_goals try (refine wcall_s (r41 _ (byteAt_0 ..) (byteAt_1 ..)) rfl rfl ?_; simp -implicitDefEqProofs (maxSteps := 2000000) only [c26, a1, a2, a3, ↓reduceIte, s_ops0, s_seq, s_opsK, s_seqK_n, s_nil, s_cons, s_wopsK, s_putK, o_mv, o_as, o_bin, v_add, o_ext, v_ext0, v_ext1, o_ixs, v_ixs, o_call, e_t, e_k, e_put, e_get, e_res, e_keep_n, e_keep_c, e_keep1_s, e_asg_b, e_asg_i, Option.getD_some, Nat.reduceEqDiff, reduceCtorEq, Bool.false_eq_true, St.clr, outV, ownsV, owns1, ownL, List.map_cons, List.map_nil, List.any_cons, List.any_nil, Bool.or_self, PV.leaves, List.flatMap_cons, List.flatMap_nil, List.append_nil, rl_i, ol_b, ol_i, m_lf, m_tp, m_1l]; refine ⟨by omega, wcall_s (r41 _ (byteAt_0 ..) (byteAt_1 ..)) rfl rfl ?_⟩; simp -implicitDefEqProofs (maxSteps := 2000000) only [c26, a1, a2, a3, ↓reduceIte, s_skip, s_ret, s_ops0, s_seq, s_cond, s_opsK, s_seqK_n, s_seqK_r, s_blkK_n, s_blkK_r, s_cnd, s_nil, s_cons, s_guard, s_wopsK, s_putK, s_grd, q_mv, o_mv, o_as, o_pk, v_pk, o_bin, v_or, v_shl, o_ext, v_ext0, v_ext1, e_t, e_k, e_put, e_get, e_res, e_keep_n, e_keep_c, e_keep1_s, e_asg_b, e_asg_i, Option.getD_some, Nat.reduceEqDiff, reduceCtorEq, true_and, and_true, cond_false, Bool.not_true, Bool.false_eq_true, decide_eq_true_eq, s_ret_r, s_retX, s_cells_n, t_tp, t_n, t_c, t_1l, t_i, r_n, r_t, r_cons, one_2, St.clr, outV, ownsV, owns1, ownL, List.map_cons, List.map_nil, List.any_cons, List.any_nil, Bool.or_self, Bool.and_true, Bool.true_and, ol_b, ol_i, m_tp, m_1l])
  repeat' (with_reducible first | refine ite_pr (fun _ => ?_) (fun _ => ?_) | refine And.intro ?_ ?_)
  all_goals try omega
  all_goals try (simp [esc, *]; done)
  rename_i p2 p3
  rw [if_pos p2, if_pos p3, show (2 : Int) ^ min (Int.toNat 4) IntKind.u8.bits = 16 by decide, w8 (by omega) (by omega), or_nib _ _ p2 l2 p3 l3]
  simp [esc, *]
theorem r27 (t : ByteArray) (i : Int) (hn : t.size ≤ 65536) (h0 : 0 ≤ i) (h1 : i < t.size) : R cx0 Try.prog 27 [.lf (.str t), .lf (.int .i64 i)] [] (.tp [.lf (.int .u8 (esc t i).1), .lf (.int .i64 (esc t i).2)]) [] := by
  have l2 := hx_le (byteAt t (i + 2))
  have l3 := hx_le (byteAt t (i + 3))
  have a1 := w64 (x := i + 1) (by omega) (by omega)
  have a2 := w64 (x := i + 2) (by omega) (by omega)
  have a3 := w64 (x := i + 3) (by omega) (by omega)
  refine R_i [] [] c27_ok rfl (by simp) ?_
  simp -implicitDefEqProofs (maxSteps := 2000000) only [c27, a1, a2, a3, ↓reduceIte, s_skip, s_ret, s_ops0, s_seq, s_cond, s_block, s_opsK, s_seqK_n, s_seqK_r, s_blkK_n, s_blkK_r, s_cnd, s_nil, s_cons, s_guard, s_wopsK, s_putK, s_grd, q_call, q_mv, q_bin, q_ixs, o_mv, o_as, o_pk, v_pk, o_bin, v_add, v_eql, v_lss, v_geq, o_ixs, v_ixs, o_lns, v_lns, o_call, e_t, e_k, e_put, e_get, e_res, e_keep_n, e_keep_c, e_keep1_s, e_asg_b, e_asg_i, St.init, enum, List.length_nil, Option.getD_some, Nat.reduceEqDiff, reduceCtorEq, true_and, and_true, cond_false, Bool.not_true, Bool.false_eq_true, decide_eq_true_eq, s_ret_r, s_retX, s_cells_n, t_tp, t_n, t_c, t_1l, t_i, r_n, r_t, r_cons, one_2, List.map_cons, List.map_nil, PV.leaves, List.flatMap_cons, List.flatMap_nil, List.append_nil, Bool.and_true, Bool.true_and, rl_i, m_lf, Nat.zero_add]
  iterate 5
    repeat' (with_reducible first | refine ite_pr (fun _ => ?_) (fun _ => ?_) | refine And.intro ?_ ?_)
    all_goals try ((first | refine wcall_s (r42 _ (byteAt_0 ..) (byteAt_1 ..)) rfl rfl ?_ | refine wcallq_i (r42 _ (byteAt_0 ..) (byteAt_1 ..)) rfl ?_); simp -implicitDefEqProofs (maxSteps := 2000000) only [c27, a1, a2, a3, ↓reduceIte, s_skip, s_ret, s_ops0, s_ops1, s_seq, s_cond, s_opsK, s_seqK_n, s_seqK_r, s_blkK_n, s_blkK_r, s_cnd, s_nil, s_cons, s_guard, s_wopsK, s_wopsTK, s_putK, s_grd, s_tone, s_tcons, q_as, q_call, q_mv, q_bin, q_cvi, q_ixs, o_mv, o_as, o_pk, v_pk, o_bin, v_add, v_mul, v_geq, o_cvi, v_cvi, o_ixs, v_ixs, o_call, e_t, e_k, e_put, e_get, e_res, e_keep_n, e_keep_c, e_keep1_s, e_asg_i, Option.getD_some, Nat.reduceEqDiff, reduceCtorEq, true_and, and_true, cond_false, Bool.not_true, Bool.false_eq_true, decide_eq_true_eq, s_ret_r, s_retX, s_cells_n, t_tp, t_n, t_c, t_1l, t_i, r_n, r_t, r_cons, one_2, St.clr, outV, ownsV, owns1, ownL, List.map_cons, List.map_nil, PV.leaves, List.flatMap_cons, List.flatMap_nil, List.append_nil, Bool.and_true, Bool.true_and, rl_i, ol_i, m_lf, nO_i])
  all_goals try omega
  all_goals try (simp [esc, *]; done)
  rename_i p2 p3
  rw [w64 (x := hx (byteAt t (i + 2)) * 16) (by omega) (by omega), w64 (by omega) (by omega), w8 (by omega) (by omega)]
  simp [esc, *]
theorem esc_len (t : ByteArray) (i : Int) : (esc t i).2 = 0 ∨ (2 ≤ (esc t i).2 ∧ (esc t i).2 ≤ 4 ∧ i + (esc t i).2 ≤ t.size) := by
  unfold esc
  (repeat' split) <;> first | (left; rfl) | (right; refine ⟨by simp, by simp, ?_⟩; simp; omega)
theorem esc_byte (t : ByteArray) (i : Int) : 0 ≤ (esc t i).1 ∧ (esc t i).1 ≤ 255 := by
  have := byteAt_0 t (i + 1)
  have := byteAt_1 t (i + 1)
  have := hx_le (byteAt t (i + 2))
  have := hx_le (byteAt t (i + 3))
  unfold esc
  (repeat' split) <;> first | (simp; done) | (simp; omega)
/-- the literal's inside from a place on: its bytes, its end, or where it breaks off and why -/
def scan (t : ByteArray) (q : Int) : Nat → Int → List Int → ByteArray × Int × Int × Int
  | 0, _, _ => (⟨#[]⟩, 0, t.size, 22)
  | n + 1, i, acc =>
    if i < (t.size : Int) then
      if byteAt t i = q then (strOfNums acc, i + 1, 0, 0)
      else if byteAt t i < 32 ∨ byteAt t i = 127 then (⟨#[]⟩, 0, i, 22)
      else if byteAt t i = 92 then
        if (esc t i).2 = 0 then (⟨#[]⟩, 0, i, 21) else scan t q n (i + (esc t i).2) (acc ++ [(esc t i).1])
      else scan t q n (i + 1) (acc ++ [byteAt t i])
    else (⟨#[]⟩, 0, t.size, 22)
/-- the literal that begins at a place -/
def cut (t : ByteArray) (a : Int) : ByteArray × Int × Int × Int :=
  if (t.size : Int) > 65536 then (⟨#[]⟩, 0, 0, 2)
  else if a < 0 ∨ a > t.size then (⟨#[]⟩, 0, 0, 1)
  else if a = t.size ∨ (byteAt t a ≠ 39 ∧ byteAt t a ≠ 34) then (⟨#[]⟩, 0, a, 20)
  else scan t (byteAt t a) (t.size + 1) (a + 1) []
end Go.Proofs.Ytomlkmnklonbpaa.Q
