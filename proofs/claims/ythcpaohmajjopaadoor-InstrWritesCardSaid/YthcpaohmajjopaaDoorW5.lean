/- Contracts, part W5. -/
import Derived.Test.YthcpaohmajjopaaDoorW1
import Derived.Test.YthcpaohmajjopaaDoorW2
import Derived.Test.YthcpaohmajjopaaDoorW4
import Derived.Test.YthcpaohmajjopaaDoorProg
import Derived.Test.YthcpaohmajjopaaDoorAmLeaf2
import Derived.Test.YthcpaohmajjopaaDoorAmLaid
set_option linter.unusedVariables false
set_option linter.unusedSimpArgs false
namespace Go.Proofs.YthcpaohmajjopaaDoor.I
open Go Go.Proofs.YthcpaohmajjopaaDoor.AM
variable {X : Cx}
def byI (z : Int) : UInt8 := UInt8.ofNat (z % 256).toNat
theorem byI_nat (z : Int) : ((byI z).toNat : Int) = z % 256 := by
  unfold byI
  rw [UInt8.toNat_ofNat']
  omega
theorem wrap_u8 (z : Int) : IntKind.u8.wrap z = ((byI z).toNat : Int) := by
  rw [byI_nat]
  simp [IntKind.wrap, IntKind.bits, IntKind.signed]
/-- a number's two bytes -/
def numB (n : Int) : List UInt8 := [byI (n / 256), byI n]
theorem r39 (n : Int) : R X Tryd.prog 39 [.lf (.int .i64 n)] [] (.lf (.lst (.own 0 5) 1 (ub (numB n)) [])) [] := by
  refine R_i [(0, 256)] [] c39_ok rfl (by simp) ?_
  simp -implicitDefEqProofs (maxSteps := 2000000) only [c39, wrap_u8, ↓reduceIte, s_ret, s_ops0, s_seq, s_opsK, s_seqK_n, s_nil, s_cons, s_wopsK, s_putK, o_mv, o_as, o_bin, v_shr, o_cvi, v_cvi, o_bs, v_bsK, v_lit_n, v_lit_c, e_t, e_k, e_put, e_get, e_res, e_keep_n, e_keep_c, e_keep1_s, St.init, enum, List.length_nil, List.length_cons, Option.getD_some, Nat.reduceEqDiff, Nat.reduceAdd, reduceCtorEq, true_and, and_true, Bool.false_eq_true, s_ret_r, s_retX, s_cells_n, t_lf, t_l, t_oo, r_n, r_t, r_cons, one_1, List.map_cons, List.map_nil, List.append_nil, List.cons_append, List.nil_append, List.all_cons, List.all_nil, Bool.and_true, Bool.true_and, Bool.and_self, PV.cells, datL, Nat.reduceMul, Nat.reduceBEq, Nat.reduceLeDiff, BEq.rfl, kp_i, rk_i, rl_i, rk_lo, m_lf, m_n, m_c, m_all, e_asg_n, e_asg_o, dw_n, dw_i, plT, lit_n, lit_c, List.reduceReplicate, List.set_cons_zero, List.set_cons_succ, Nat.reduceLT, Nat.lt_add_one, Nat.zero_add, Nat.add_zero, true_or, or_true]
  refine ⟨by omega, ?_⟩
  have e : n.fdiv (2 ^ min (Int.toNat 8) IntKind.i64.bits) = n / 256 := by
    rw [show IntKind.i64.bits = 64 from rfl]
    exact Int.fdiv_eq_ediv_of_nonneg _ (by decide)
  rw [e]
  rfl
/-- a set's words -/
def wd (s0 s1 s2 s3 : Nat) (q : Nat) : Nat := if q = 0 then s0 else if q = 1 then s1 else if q = 2 then s2 else s3
def hasN (s0 s1 s2 s3 : Nat) (k : Nat) : Bool := decide (wd s0 s1 s2 s3 (k / 64) / 2 ^ (k % 64) % 2 = 1)
theorem and_one {x : Nat} (hx : x < 2 ^ 64) : bits .and .u64 (x : Int) 1 = ((x % 2 : Nat) : Int) := by
  have h1 : (BitVec.ofInt 64 (x : Int)).toNat = x := by simp [BitVec.toNat_ofInt]; omega
  have h2 : (BitVec.ofInt 64 (1 : Int)).toNat = 1 := rfl
  unfold bits
  simp only [BitVec.toNat_and]
  show IntKind.u64.wrap (((BitVec.ofInt 64 (x : Int)).toNat &&& (BitVec.ofInt 64 (1 : Int)).toNat : Nat) : Int) = _
  rw [h1, h2, Nat.and_one_is_mod]
  exact wrap_u64 (by omega)
theorem has_one {s k : Nat} (hs : s < 2 ^ 64) : bits .and .u64 ((s : Int).fdiv (2 ^ min ((k : Int).tmod 64).toNat IntKind.u64.bits)) 1 = ((s / 2 ^ (k % 64) % 2 : Nat) : Int) := by
  rw [Int.tmod_eq_emod_of_nonneg (show (0 : Int) ≤ (k : Int) by omega), show ((k : Int) % 64).toNat = k % 64 by omega, show IntKind.u64.bits = 64 from rfl, show min (k % 64) 64 = k % 64 by omega, show (2 : Int) ^ (k % 64) = ((2 ^ (k % 64) : Nat) : Int) by rw [Int.natCast_pow]; rfl, Int.fdiv_eq_ediv_of_nonneg _ (Int.natCast_nonneg _), ← Int.natCast_ediv]
  exact and_one (Nat.lt_of_le_of_lt (Nat.div_le_self _ _) hs)
theorem r57 (s0 s1 s2 s3 : Nat) (h0 : s0 < 2 ^ 64) (h1 : s1 < 2 ^ 64) (h2 : s2 < 2 ^ 64) (h3 : s3 < 2 ^ 64) (k : Nat) (hk : k < 256) : R X Tryd.prog 57 [.ag [.int .u64 s0, .int .u64 s1, .int .u64 s2, .int .u64 s3], .lf (.int .i64 k)] [] (.lf (.bool (hasN s0 s1 s2 s3 k))) [] := by
  have hq : ∃ q : Nat, q < 4 ∧ IntKind.i64.wrap ((k : Int).tdiv 64) = (q : Int) ∧ k / 64 = q := ⟨k / 64, by omega, by rw [w64] <;> simp [Int.tdiv_eq_ediv] <;> omega, rfl⟩
  obtain ⟨q, hq4, e1, e2⟩ := hq
  have hm : 0 ≤ (k : Int).tmod 64 := Int.tmod_nonneg _ (by omega)
  have g0 : (0 : Int) ≤ k := by omega
  have g1 : (k : Int) ≤ 255 := by omega
  have b0 := has_one (k := k) h0
  have b1 := has_one (k := k) h1
  have b2 := has_one (k := k) h2
  have b3 := has_one (k := k) h3
  have fin : ∀ s : Nat, decide (((s / 2 ^ (k % 64) % 2 : Nat) : Int) = 1) = decide (s / 2 ^ (k % 64) % 2 = 1) := fun s => decide_eq_decide.2 (by omega)
  refine R_i [] [] c57_ok rfl (by simp) ?_
  unfold hasN wd
  rcases (show q = 0 ∨ q = 1 ∨ q = 2 ∨ q = 3 by omega) with rfl | rfl | rfl | rfl
  all_goals (simp only [e2]; simp -implicitDefEqProofs (maxSteps := 2000000) only [c57, g0, g1, e1, b0, b1, b2, b3, fin, Int.toNat_natCast, Nat.reduceMul, Nat.mul_one, List.getElem?_cons_zero, List.getElem?_cons_succ, ↓reduceIte, s_ret, s_ops0, s_seq, s_opsK, s_seqK_n, s_nil, s_cons, s_guard, s_wopsK, s_putK, s_grd, q_mv, q_bin, q_iaa, q_ld, o_mv, o_as, o_pk, v_pk, o_bin, v_quo, v_rem, v_and, v_shr, v_eql, v_leq, v_geq, v_part_f, v_atK, o_bx, o_iaa, v_iaa_p, o_ld, v_ld_p, v_ldC, e_t, e_k, e_put, e_get, e_res, e_keep_n, e_keep_c, e_keep1_s, e_asg_b, St.init, enum, List.length_nil, Option.getD_some, Nat.reduceEqDiff, reduceCtorEq, true_and, and_true, cond_false, decide_eq_true_eq, s_ret_r, s_retX, s_cells_n, t_lf, t_b, r_n, r_t, r_cons, one_1, List.map_cons, List.map_nil, Bool.and_true, Bool.true_and, Nat.zero_le, List.getElem?_cons_zero, List.getElem?_cons_succ, kc_i, m_lf, m_ag, m_n, m_c, m_all, d_n, ne_eq, Nat.zero_add, Nat.add_zero, v_bx_a])
  all_goals exact ⟨by decide, ⟨by decide, by decide⟩, by decide, hm⟩
end Go.Proofs.YthcpaohmajjopaaDoor.I
set_option linter.unusedVariables false
set_option linter.unusedSimpArgs false
namespace Go.Proofs.YthcpaohmajjopaaDoor.I
open Go Go.Proofs.YthcpaohmajjopaaDoor.AM
variable {X : Cx}
/-- a set's bytes, from the k-th on -/
def memB (s0 s1 s2 s3 : Nat) : Nat → List UInt8
  | 0 => []
  | m + 1 => memB s0 s1 s2 s3 m ++ [byI ((wd s0 s1 s2 s3 (m / 8) / 2 ^ (8 * (m % 8)) % 256 : Nat) : Int)]
theorem memB_len (s0 s1 s2 s3 : Nat) : ∀ m, (memB s0 s1 s2 s3 m).length = m
  | 0 => rfl
  | m + 1 => by rw [memB, List.length_append, memB_len]; rfl
theorem r42 (s0 s1 s2 s3 : Nat) (h0 : s0 < 2 ^ 64) (h1 : s1 < 2 ^ 64) (h2 : s2 < 2 ^ 64) (h3 : s3 < 2 ^ 64) : R X Tryd.prog 42 [.ag [.int .u64 s0, .int .u64 s1, .int .u64 s2, .int .u64 s3]] [] (.lf (.lst (.own 0 5) 1 (ub (memB s0 s1 s2 s3 32)) [])) [] := by
  generalize hr : ub (memB s0 s1 s2 s3 32) = r
  refine R_i [(0, 256)] [] c42_ok rfl (by simp) ?_
  have h57 := fun k hk => r57 (X := X) s0 s1 s2 s3 h0 h1 h2 h3 k hk
  have key : ∀ (j m : Nat) (xs : List (List L)), m + j = 32 → xs = ub (memB s0 s1 s2 s3 m) → LoopAt X Tryd.prog c42_17 [1, 3, 4]
      (blkK 0 (seqK X Tryd.prog c42_21 (retS [(0, 256)] [] 0 [RV.t 2] (PV.lf (L.lst (Tag.own 0 5) 1 r [])) [])))
      { m := 0, tm := [(1, PV.lf (L.ptr 1 0)), (3, PV.lf (L.lst (Tag.own 384 5) 1 xs [])), (4, PV.lf (L.int IntKind.i64 m))], ce := [(1, [L.int IntKind.u64 ↑s0, L.int IntKind.u64 ↑s1, L.int IntKind.u64 ↑s2, L.int IntKind.u64 ↑s3])] } := by
    intro j
    induction j with
    | zero =>
      intro m xs hm hxs
      obtain rfl : m = 32 := by omega
      intro Z hZ; apply hZ
      have hn : ¬ ((32 : Nat) : Int) < 32 := by omega
      simp -implicitDefEqProofs (maxSteps := 2000000) only [c42, hn, ↓reduceIte, s_exit, s_ret, s_ops0, s_seq, s_cond, s_opsK, s_seqK_n, s_seqK_e, s_blkK_e, s_loopK_e, s_cnd, s_nil, s_cons, s_wopsK, s_putK, o_mv, o_as, o_bin, v_lss, e_t, e_k, e_put, e_get, e_res, e_keep_n, e_keep_c, e_keep1_s, Option.getD_some, Nat.reduceEqDiff, true_and, and_true, Bool.false_eq_true, decide_eq_true_eq, s_ret_r, s_retX, s_cells_n, t_lf, t_l, t_oo, r_n, r_t, r_cons, one_1, List.map_cons, List.map_nil, Bool.and_true, Bool.true_and, Nat.reduceMul, Nat.reduceBEq, BEq.rfl, rk_b, rk_i, rk_p, rk_lo, m_lf, m_n, m_c, m_all, e_asg_o, plT, Nat.add_zero, true_or, or_true]
      rw [hxs, hr]
      first | done | trivial
    | succ j ih =>
      intro m xs hm hxs
      intro Z hZ; apply hZ
      have hn : ((m : Nat) : Int) < 32 := by omega
      have hw1 : IntKind.i64.wrap ((m : Int) + 1) = ((m + 1 : Nat) : Int) := by rw [w64 (by omega) (by omega)]; omega
      generalize hWd : wd s0 s1 s2 s3 (m / 8) = w
      have inn : ∀ (Q : Out → St → Prop) (d n : Nat), d ≤ 8 → n = w / 2 ^ (8 * (m % 8) + d) % 2 ^ (8 - d) →
          Q .nrm { m := 0, tm := [(1, PV.lf (L.ptr 1 0)), (3, PV.lf (L.lst (Tag.own 384 5) 1 xs [])), (4, PV.lf (L.int IntKind.i64 m)), (5, PV.lf (L.int IntKind.i64 ((w / 2 ^ (8 * (m % 8)) % 256 : Nat) : Int))), (6, PV.lf (L.int IntKind.i64 (-1))), (12, PV.lf (L.bool false))], ce := [(1, [L.int IntKind.u64 ↑s0, L.int IntKind.u64 ↑s1, L.int IntKind.u64 ↑s2, L.int IntKind.u64 ↑s3])] } →
          LoopAt X Tryd.prog c42_9 [1, 3, 4, 5, 6] (blkK 2 Q)
            { m := 0, tm := [(1, PV.lf (L.ptr 1 0)), (3, PV.lf (L.lst (Tag.own 384 5) 1 xs [])), (4, PV.lf (L.int IntKind.i64 m)), (5, PV.lf (L.int IntKind.i64 n)), (6, PV.lf (L.int IntKind.i64 ((d : Int) - 1)))], ce := [(1, [L.int IntKind.u64 ↑s0, L.int IntKind.u64 ↑s1, L.int IntKind.u64 ↑s2, L.int IntKind.u64 ↑s3])] } := by
        intro Q d
        induction d with
        | zero =>
          intro n _ hn hQ
          intro Z2 hZ2; apply hZ2
          have hd : ¬ (0 : Int) ≤ ((0 : Nat) : Int) - 1 := by omega
          have hd2 : ((0 : Nat) : Int) - 1 = -1 := by omega
          have hd3 : ¬ (0 : Int) ≤ -1 := by omega
          rw [hd2]
          subst hn
          simp -implicitDefEqProofs (maxSteps := 2000000) only [c42, hd3, decide_false, ↓reduceIte, s_exit, s_ops0, s_seq, s_cond, s_opsK, s_seqK_n, s_seqK_e, s_blkK_e, s_loopK_e, s_cnd, s_nil, s_cons, s_wopsK, s_putK, o_mv, o_bin, v_geq, e_t, e_k, e_put, e_get, e_res, e_keep_n, e_keep_c, e_keep1_s, Option.getD_some, Nat.reduceEqDiff, Bool.false_eq_true, Nat.reduceSub, Int.reduceNeg, Nat.add_zero]
          exact hQ
        | succ d ihd =>
          intro n hd8 hnn hQ
          intro Z2 hZ2; apply hZ2
          have hd2 : ((d + 1 : Nat) : Int) - 1 = (d : Int) := by omega
          have hd3 : (0 : Int) ≤ (d : Int) := by omega
          have hnb : n < 256 := by rw [hnn]; exact Nat.lt_of_lt_of_le (Nat.mod_lt _ (Nat.two_pow_pos _)) (show 2 ^ (8 - (d + 1)) ≤ 2 ^ 8 from Nat.pow_le_pow_right (by omega) (by omega))
          have v1 : IntKind.i64.wrap ((n : Int) * 2) = ((2 * n : Nat) : Int) := by rw [w64 (by omega) (by omega)]; omega
          have v2 : IntKind.i64.wrap (8 * (m : Int)) = ((8 * m : Nat) : Int) := by rw [w64 (by omega) (by omega)]; omega
          have v3 : IntKind.i64.wrap (((8 * m : Nat) : Int) + d) = ((8 * m + d : Nat) : Int) := by rw [w64 (by omega) (by omega)]; omega
          have v4 : IntKind.i64.wrap (((2 * n : Nat) : Int) + 1) = ((2 * n + 1 : Nat) : Int) := by rw [w64 (by omega) (by omega)]; omega
          have v5 : IntKind.i64.wrap ((d : Int) - 1) = (d : Int) - 1 := w64 (by omega) (by omega)
          have hbit : hasN s0 s1 s2 s3 (8 * m + d) = decide (w / 2 ^ (8 * (m % 8) + d) % 2 = 1) := by
            unfold hasN
            rw [show (8 * m + d) / 64 = m / 8 by omega, show (8 * m + d) % 64 = 8 * (m % 8) + d by omega, hWd]
          have hstep : w / 2 ^ (8 * (m % 8) + d) % 2 ^ (8 - d) = w / 2 ^ (8 * (m % 8) + d) % 2 + 2 * n := by
            rw [hnn, show 8 - d = (8 - (d + 1)) + 1 by omega, Nat.pow_succ, Nat.mul_comm (2 ^ (8 - (d + 1))) 2, Nat.mod_mul, Nat.div_div_eq_div_mul, ← Nat.pow_succ]
            rfl
          rw [hd2]
          simp -implicitDefEqProofs (maxSteps := 2000000) only [c42, hd3, decide_true, v1, v2, v3, ↓reduceIte, s_skip, s_ops0, s_seq, s_cond, s_block, s_opsK, s_seqK_n, s_cnd, s_nil, s_cons, s_wopsK, s_putK, o_mv, o_as, o_bin, v_add, v_mul, v_geq, v_part_t, o_ld, v_ld_p, v_ldC, o_call, e_t, e_k, e_put, e_get, e_res, e_keep_n, e_keep_c, e_keep1_s, e_asg_i, List.length_nil, List.length_cons, Option.getD_some, Nat.reduceEqDiff, Nat.reduceAdd, true_and, List.map_cons, List.map_nil, PV.leaves, List.flatMap_cons, List.flatMap_nil, List.append_nil, List.cons_append, List.nil_append, Bool.true_and, Nat.le_refl, List.drop_zero, List.take_succ_cons, List.take_nil, rl_i, m_lf, m_ag, Nat.zero_add]
          refine wcall_s (h57 (8 * m + d) (by omega)) rfl rfl ?_
          rw [hbit]
          simp -implicitDefEqProofs (maxSteps := 2000000) only [c42, v4, v5, ↓reduceIte, s_skip, s_ops0, s_cond, s_opsK, s_seqK_n, s_blkK_n, s_loopK_n, s_cnd, s_nil, s_cons, s_wopsK, s_putK, o_mv, o_as, o_bin, v_add, v_sub, e_t, e_k, e_put, e_get, e_res, e_keep_n, e_keep_c, e_keep1_s, e_asg_i, Option.getD_some, Nat.reduceEqDiff, Bool.false_eq_true, decide_eq_true_eq, St.clr, outV, ownsV, owns1, ownL, List.nil_append, ol_b, m_lf, e_head, e_headK, kC_n, kC_c, pO_n, pO_p, pO_i, pO_l, List.range_zero]
          with_reducible refine ite_pr (fun hb => ?_) (fun hb => ?_)
          · exact ihd (2 * n + 1) (by omega) (by rw [hstep, hb]; omega) hQ Z2 hZ2
          · exact ihd (2 * n) (by omega) (by rw [hstep]; omega) hQ Z2 hZ2
      simp -implicitDefEqProofs (maxSteps := 2000000) only [c42, hn, ↓reduceIte, s_skip, s_ops0, s_seq, s_cond, s_block, s_loop, s_opsK, s_seqK_n, s_cnd, s_nil, s_cons, s_wopsK, s_putK, o_mv, o_as, o_bin, v_lss, e_t, e_k, e_put, e_get, e_res, e_keep_n, e_keep_c, e_keep1_s, e_asg_i, Option.getD_some, Nat.reduceEqDiff, decide_eq_true_eq, List.nil_append, e_head, e_headK, kC_n, kC_c, pO_n, pO_p, pO_i, pO_l, List.range_zero]
      refine inn _ 8 0 (Nat.le_refl _) (by simp [Nat.mod_one]) ?_
      simp -implicitDefEqProofs (maxSteps := 2000000) only [c42, hw1, wrap_u8, ↓reduceIte, s_ops0, s_opsK, s_seqK_n, s_blkK_n, s_loopK_n, s_nil, s_cons, s_wopsK, s_putK, o_mv, o_as, o_bin, v_add, o_cvi, v_cvi, o_bs, v_bsK, v_lit_n, v_lit_c, o_app, v_app_o, e_t, e_k, e_put, e_get, e_res, e_keep_n, e_keep_c, e_keep1_s, e_asg_i, List.length_nil, List.length_cons, Option.getD_some, Nat.reduceEqDiff, reduceCtorEq, true_and, Bool.false_eq_true, List.map_cons, List.map_nil, Bool.or_false, List.append_nil, List.nil_append, List.all_cons, List.all_nil, Bool.true_and, Bool.and_self, PV.cells, datL, Nat.reduceMul, Nat.reduceBEq, Nat.reduceLeDiff, BEq.rfl, kp_b, kp_i, kp_u, rk_b, rk_i, rk_u, rl_i, kp_p, rk_p, kp_lo, rk_lo, m_lf, m_n, m_c, m_all, e_asg_o, e_head, e_headK, kC_n, kC_c, pO_n, pO_p, pO_i, pO_l, dw_n, dw_i, List.range_zero, plT, Int.reduceNeg, lit_n, lit_c, List.reduceReplicate, List.set_cons_zero, Nat.lt_add_one, Nat.zero_add, Nat.add_zero, or_false]
      have hxl : xs.length = m := by rw [hxs, ub_len, memB_len]
      refine ⟨by omega, ?_⟩
      exact ih (m + 1) _ (by omega) (by rw [hxs, ub_snoc, memB, hWd]) Z hZ
  simp -implicitDefEqProofs (maxSteps := 2000000) only [c42, ↓reduceIte, s_ops0, s_seq, s_block, s_loop, s_opsK, s_seqK_n, s_nil, s_cons, s_wopsK, o_as, o_bx, e_t, e_k, e_put, e_get, e_res, e_keep_n, e_keep_c, e_keep1_s, e_asg_i, St.init, enum, List.length_nil, Option.getD_some, Nat.reduceEqDiff, true_and, List.map_cons, List.map_nil, List.nil_append, Bool.true_and, Nat.reduceMul, Nat.zero_le, kp_i, kc_i, kp_p, m_lf, m_ag, m_n, m_c, m_all, e_asg_n, e_head, e_headK, kC_n, kC_c, pO_n, pO_p, pO_i, pO_l, d_n, List.range_zero, plT, Nat.add_zero, v_bx_a]
  exact key 32 0 [] rfl rfl
end Go.Proofs.YthcpaohmajjopaaDoor.I
set_option maxRecDepth 100000
namespace Go.Proofs.YthcpaohmajjopaaDoor.I
open Go Go.Proofs.YthcpaohmajjopaaDoor.AM
/-- harrow/harrowbook.LendCode -/
abbrev c14_0 : AC := .seq (.ops 0 [⟨(some 3), .bs 52 9 0 [.int .i64 0, .int .i64 0, .int .i64 0, .int .i64 0, .str ⟨#[]⟩, .int .u64 0, .int .u64 0, .int .u64 0, .int .u64 0] [], none⟩, ⟨(some 4), .mv (.t 0), none⟩, ⟨(some 5), .app 52 9 80 (.t 3) (.t 4), none⟩, ⟨(some 6), .bd [.int .i64 0, .int .i64 0, .int .i64 0, .int .i64 0, .str ⟨#[]⟩, .int .u64 0, .int .u64 0, .int .u64 0, .int .u64 0] [(0, 1, (.k (.lf (.int .i64 (-77)))))], none⟩, ⟨(some 7), .bs 52 9 1 [.int .i64 0, .int .i64 0, .int .i64 0, .int .i64 0, .str ⟨#[]⟩, .int .u64 0, .int .u64 0, .int .u64 0, .int .u64 0] [(0, (.t 6))], none⟩, ⟨(some 8), .app 52 9 80 (.t 5) (.t 7), none⟩, ⟨(some 9), .mv (.t 0), none⟩, ⟨(some 10), .len (.t 9), none⟩, ⟨(some 11), .sll 9 (.t 8) none (some (.t 10)), none⟩, ⟨(some 2), .as 52 9 (.t 11), none⟩] [2]) .ret
abbrev c14_1 : AC := .seq (.ops 0 [⟨(some 2), .as 52 9 (.k (.lf (.lst .nl 9 [] []))), none⟩] [0]) c14_0
abbrev c14 : AC := c14_1
theorem c14_ok : compileFn Tryd.prog 14 = some (12, AC.strip c14, [.t 2]) := by kernel_rfl
end Go.Proofs.YthcpaohmajjopaaDoor.I
set_option linter.unusedVariables false
set_option linter.unusedSimpArgs false
namespace Go.Proofs.YthcpaohmajjopaaDoor.I
open Go Go.Proofs.YthcpaohmajjopaaDoor.AM
variable {X : Cx}
theorem b10 : IntKind.i64.wrap (1 - 1) = 0 := by decide
theorem t0 : (0 : Int).toNat = 0 := rfl
theorem t1 : (1 : Int).toNat = 1 := rfl
end Go.Proofs.YthcpaohmajjopaaDoor.I
set_option linter.unusedVariables false
set_option linter.unusedSimpArgs false
namespace Go.Proofs.YthcpaohmajjopaaDoor.I
open Go Go.Proofs.YthcpaohmajjopaaDoor.AM
variable {X : Cx}
/-- what a code that is right meets -/
structure CodeOK (code : List Ins) : Prop where
  pos : 0 < code.length
  len : code.length ≤ 8192
  op : ∀ (i : Nat) (x : Ins), code[i]? = some x → 1 ≤ x.op ∧ x.op ≤ 20
  tg : ∀ (i : Nat) (x : Ins), code[i]? = some x → hasB x.op.toNat 32 = true → -(i : Int) ≤ x.a ∧ x.a < code.length - i
  on : ∀ (i : Nat) (x : Ins), code[i]? = some x → hasB x.op.toNat 64 = true → i + 1 < code.length
theorem chkGo_ok (capF : Ins → Bool) (len : Nat) : ∀ (q : List Ins) (i : Nat), chkGo capF len i q = none → ∀ (j : Nat) (x : Ins), q[j]? = some x → errAt capF len (i + j) x = 0
  | [], i, _, j, x, hx => by simp at hx
  | y :: q, i, h, j, x, hx => by
    simp only [chkGo] at h
    split at h
    · rename_i he
      cases j with
      | zero => simp at hx; subst hx; exact he
      | succ j =>
        have := chkGo_ok capF len q (i + 1) h j x (by simpa using hx)
        rwa [show i + 1 + j = i + (j + 1) by omega] at this
    · cases h
theorem chkGo_ne (capF : Ins → Bool) (len : Nat) : ∀ (q : List Ins) (i : Nat) (p : Int × Int), chkGo capF len i q = some p → p.2 ≠ 0
  | [], i, p, h => by simp [chkGo] at h
  | y :: q, i, p, h => by
    simp only [chkGo] at h
    split at h
    · exact chkGo_ne capF len q _ p h
    · rename_i he
      obtain rfl := Option.some.inj h
      exact he
theorem chk_ok {code : List Ins} (h : (chk capX code).2 = 0) : CodeOK code := by
  unfold chk at h
  split at h
  · cases h
  rename_i h1
  split at h
  · cases h
  rename_i h2
  have hpos : 0 < code.length := by omega
  cases hg : chkGo capX code.length 0 code with
  | some p =>
    rw [hg] at h
    exact absurd h (chkGo_ne _ _ _ _ _ hg)
  | none =>
    rw [hg] at h
    simp only [Option.getD_none, chkEnd] at h
    have hall := chkGo_ok _ _ _ _ hg
    have hlast : ¬ hasB (lastOp code).toNat 64 = true := by
      intro hh; rw [if_pos hh] at h; cases h
    refine ⟨hpos, by omega, fun i x hx => ?_, fun i x hx h32 => ?_, fun i x hx h64 => ?_⟩
    · have := hall i x hx
      unfold errAt at this
      split at this
      · cases this
      · omega
    · have := hall i x hx
      rw [Nat.zero_add] at this
      unfold errAt at this
      split at this
      · cases this
      · split at this
        · cases this
        · split at this
          · cases this
          · rename_i hh
            by_cases h3 : x.a < -(i : Int) ∨ (code.length : Int) - i ≤ x.a
            · exact absurd ⟨h32, h3⟩ hh
            · omega
    · have hi := (List.getElem?_eq_some_iff.1 hx).1
      obtain ⟨y, hy, hlo, _⟩ := last_get hpos
      by_cases e : i = code.length - 1
      · subst e
        rw [hx] at hy
        cases hy
        rw [hlo] at hlast
        exact absurd h64 hlast
      · omega
end Go.Proofs.YthcpaohmajjopaaDoor.I
set_option linter.unusedVariables false
set_option linter.unusedSimpArgs false
namespace Go.Proofs.YthcpaohmajjopaaDoor.I
open Go Go.Proofs.YthcpaohmajjopaaDoor.AM
variable {X : Cx}
/-- what the check leaves of an instruction -/
structure FitI (x : Ins) : Prop where
  op : 1 ≤ x.op ∧ x.op ≤ 20
  pl : x = x.plain x.op.toNat
  a : hasB x.op.toNat 1 = true → -32768 ≤ x.a ∧ x.a ≤ 32767
  b : hasB x.op.toNat 2 = true → 0 ≤ x.b ∧ x.b ≤ 255
  n : hasB x.op.toNat 4 = true → 0 ≤ x.n ∧ x.n ≤ 255
  t : x.t.size ≤ 255
theorem fit_tab : ∀ k : Fin 21, (hasB k.val 1 = true → hasB k.val 32 = true ∨ k.val = 20) ∧ (hasB k.val 2 = true → k.val = 2 ∨ k.val = 5 ∨ k.val = 18 ∨ k.val = 20) ∧ (hasB k.val 4 = true → k.val = 18 ∨ k.val = 20) ∧ (hasB k.val 8 = true → k.val = 18 ∨ k.val = 20) := by decide +kernel
theorem cap_fit {b n : Int} {t : ByteArray} (h : capB b n t = true) : 0 ≤ n ∧ n ≤ 50 ∧ t.size ≤ 255 := by
  unfold capB at h
  split at h
  · simp only [Bool.and_eq_true, decide_eq_true_eq] at h
    rw [h.1, h.2]
    exact ⟨by omega, by omega, by decide⟩
  · unfold fldB at h
    simp only [Bool.and_eq_true, decide_eq_true_eq] at h
    refine ⟨h.1.1, h.1.2.1, ?_⟩
    have h2 := h.2
    split at h2
    · simp only [Bool.or_eq_true, decide_eq_true_eq] at h2
      rcases h2 with h2 | h2
      · rw [h2]; decide
      · have := h2.2.1; omega
    · split at h2
      · unfold tempB at h2
        simp only [Bool.and_eq_true, decide_eq_true_eq] at h2
        exact h2.1
      · simp only [decide_eq_true_eq] at h2
        rw [h2]; decide
theorem fit_of {len i : Nat} {x : Ins} (hlen : len ≤ 8192) (hi : i < len) (h : errAt capX len i x = 0) : FitI x := by
  unfold errAt at h
  split at h
  · cases h
  rename_i h1
  have hop : 1 ≤ x.op ∧ x.op ≤ 20 := by omega
  split at h
  · cases h
  rename_i h2
  split at h
  · cases h
  rename_i h3
  have hf : fitB (capX x) x.op.toNat x = true := by simpa using h2
  unfold fitB at hf
  simp only [Bool.and_eq_true] at hf
  have hpl := Ins.same_eq.1 hf.1
  have harg := hf.2
  obtain ⟨t1, t2, t3, t4⟩ := fit_tab ⟨x.op.toNat, by omega⟩
  simp only at t1 t2 t3 t4
  have hcap : x.op.toNat = 18 ∨ x.op.toNat = 20 → capB x.b x.n x.t = true ∧ 1 ≤ x.b ∧ x.b ≤ 7 ∧ (x.op.toNat = 20 → 0 ≤ x.a ∧ x.a ≤ 255) := by
    intro hk
    unfold argB at harg
    rcases hk with hk | hk <;> rw [hk] at harg ⊢
    · simp at harg
      exact ⟨harg.2, by omega, by omega, by omega⟩
    · simp at harg
      exact ⟨harg.2, by omega, by omega, by omega⟩
  refine ⟨hop, hpl, fun ha => ?_, fun hb => ?_, fun hn => ?_, ?_⟩
  · rcases t1 ha with h32 | h20
    · have : ¬ (x.a < -(i : Int) ∨ (len : Int) - i ≤ x.a) := fun h => h3 ⟨h32, h⟩
      omega
    · have := (hcap (.inr h20)).2.2.2 h20
      omega
  · rcases t2 hb with hk | hk | hk | hk
    · unfold argB at harg; rw [hk] at harg; simp at harg; exact harg
    · unfold argB at harg; rw [hk] at harg; simp at harg; exact harg
    · have := hcap (.inl hk); omega
    · have := hcap (.inr hk); omega
  · have := cap_fit (hcap (t3 hn)).1
    omega
  · by_cases h8 : hasB x.op.toNat 8 = true
    · exact (cap_fit (hcap (t4 h8)).1).2.2
    · rw [hpl]; simp only [Ins.plain, if_neg h8]; decide
theorem fit_all {code : List Ins} (h : (chk capX code).2 = 0) : ∀ x ∈ code, FitI x := by
  have hc := chk_ok h
  intro x hx
  obtain ⟨i, hi⟩ := List.getElem?_of_mem hx
  have hil := (List.getElem?_eq_some_iff.1 hi).1
  unfold chk at h
  split at h
  · cases h
  split at h
  · cases h
  cases hg : chkGo capX code.length 0 code with
  | some p =>
    rw [hg] at h
    exact absurd h (chkGo_ne _ _ _ _ _ hg)
  | none =>
    have := chkGo_ok _ _ _ _ hg i x hi
    rw [Nat.zero_add] at this
    exact fit_of hc.len hil this
end Go.Proofs.YthcpaohmajjopaaDoor.I
set_option linter.unusedVariables false
set_option linter.unusedSimpArgs false
namespace Go.Proofs.YthcpaohmajjopaaDoor.I
open Go Go.Proofs.YthcpaohmajjopaaDoor.AM

theorem wf64 {n : Int} (h : (Lit.int .i64 n).wf = true) : -9223372036854775808 ≤ n ∧ n ≤ 9223372036854775807 := by
  simp only [Lit.wf, IntKind.min, IntKind.max, Bool.and_eq_true] at h; simp [IntKind.bits, IntKind.signed] at h; omega
theorem wfu64 {n : Int} (h : (Lit.int .u64 n).wf = true) : 0 ≤ n ∧ n ≤ 18446744073709551615 := by
  simp only [Lit.wf, IntKind.min, IntKind.max, Bool.and_eq_true] at h; simp [IntKind.bits, IntKind.signed] at h; omega
structure Ins.ok (x : Ins) : Prop where
  op : -9223372036854775808 ≤ x.op ∧ x.op ≤ 9223372036854775807
  a : -9223372036854775808 ≤ x.a ∧ x.a ≤ 9223372036854775807
  b : -9223372036854775808 ≤ x.b ∧ x.b ≤ 9223372036854775807
  n : -9223372036854775808 ≤ x.n ∧ x.n ≤ 9223372036854775807
  t : x.t.size ≤ 140737488351232
  s0 : 0 ≤ x.s0 ∧ x.s0 ≤ 18446744073709551615
  s1 : 0 ≤ x.s1 ∧ x.s1 ≤ 18446744073709551615
  s2 : 0 ≤ x.s2 ∧ x.s2 ≤ 18446744073709551615
  s3 : 0 ≤ x.s3 ∧ x.s3 ≤ 18446744073709551615
theorem ins_of {l : List L} (h : WT Tryd.prog 52 l) : ∃ x : Ins, l = x.c ∧ x.ok := by
  obtain ⟨lss, rfl, m0⟩ := h.inv_struct Tryd.underlying52
  obtain ⟨e0, es0, rfl, m1, n1⟩ := All2.cons_inv m0
  obtain ⟨e1, es1, rfl, m2, n2⟩ := All2.cons_inv n1
  obtain ⟨e2, es2, rfl, m3, n3⟩ := All2.cons_inv n2
  obtain ⟨e3, es3, rfl, m4, n4⟩ := All2.cons_inv n3
  obtain ⟨e4, es4, rfl, m5, n5⟩ := All2.cons_inv n4
  obtain ⟨e5, es5, rfl, m6, n6⟩ := All2.cons_inv n5
  obtain rfl := All2.nil_inv n6
  obtain ⟨op, rfl, w1⟩ := m1.inv_int Tryd.underlying3
  obtain ⟨a, rfl, w2⟩ := m2.inv_int Tryd.underlying3
  obtain ⟨b, rfl, w3⟩ := m3.inv_int Tryd.underlying3
  obtain ⟨n, rfl, w4⟩ := m4.inv_int Tryd.underlying3
  obtain ⟨t, rfl, w5⟩ := m5.inv_str Tryd.underlying9
  obtain ⟨ss, rfl, hn, hs⟩ := m6.inv_array Tryd.underlying50
  match ss, hn, hs with
  | [z0, z1, z2, z3], _, hs =>
    obtain ⟨s0, rfl, q0⟩ := (hs 0 z0 rfl).inv_int Tryd.underlying48
    obtain ⟨s1, rfl, q1⟩ := (hs 1 z1 rfl).inv_int Tryd.underlying48
    obtain ⟨s2, rfl, q2⟩ := (hs 2 z2 rfl).inv_int Tryd.underlying48
    obtain ⟨s3, rfl, q3⟩ := (hs 3 z3 rfl).inv_int Tryd.underlying48
    exact ⟨⟨op, a, b, n, t, s0, s1, s2, s3⟩, rfl, ⟨wf64 w1, wf64 w2, wf64 w3, wf64 w4, w5, wfu64 q0, wfu64 q1, wfu64 q2, wfu64 q3⟩⟩
theorem code_list : ∀ (xs : List (List L)), (∀ x ∈ xs, ∃ y : Ins, x = y.c ∧ y.ok) → ∃ code : List Ins, xs = code.map Ins.c ∧ ∀ y ∈ code, y.ok
  | [], _ => ⟨[], rfl, fun y h => by simp at h⟩
  | x :: xs, h => by
    obtain ⟨y, rfl, h1⟩ := h x (by simp)
    obtain ⟨c, rfl, h2⟩ := code_list xs (fun z hz => h z (by simp [hz]))
    refine ⟨y :: c, rfl, fun z hz => ?_⟩
    simp only [List.mem_cons] at hz
    rcases hz with rfl | hz
    · exact h1
    · exact h2 z hz
theorem uses_glob {w : World} {fuel : Nat} {cs : Array Value} {ps : List MemPlace} {d : DataW Unit} (hv : w.var? Tryd.prog "harrow/instr.uses" = some cs)
    (h : DataW.trod (fun _ => ()) Tryd.prog w 0 (fun _ => true) false fuel 95 cs.toList = some (d, ps)) (hd : d = .agg (usesN.map fun n => .lit (.int .i64 n))) : GlobOK w 1 usesL := by
  subst hd
  exact glob_ints (by kernel_rfl) hv (table_ints Tryd.underlying95 Tryd.underlying3 (by kernel_rfl) (by kernel_rfl) h) (by decide)
end Go.Proofs.YthcpaohmajjopaaDoor.I
set_option linter.unusedVariables false
set_option linter.unusedSimpArgs false
namespace Go.Proofs.YthcpaohmajjopaaDoor.I
open Go Go.Proofs.YthcpaohmajjopaaDoor.AM
variable {X : Cx}
theorem flat_ub (l : List UInt8) : Flat (.lf (.lst (.own 0 5) 1 (ub l) [])) := by
  refine ⟨fun x hx c hc => ?_, rfl⟩
  obtain ⟨y, _, rfl⟩ := List.mem_map.1 hx
  simp at hc; subst hc; rfl
def insBF (f1 f2 f4 f8 f16 : Bool) (x : Ins) : List UInt8 :=
  [byI x.op] ++ (if f1 || f2 then numB x.a else []) ++ (if f4 then [byI x.b] else []) ++ (if f8 then [byI x.b, byI x.n, byI x.t.size] ++ x.t.data.toList else []) ++ (if f16 then memB x.s0.toNat x.s1.toNat x.s2.toNat x.s3.toNat 32 else [])
/-- an instruction's bytes -/
def insB (x : Ins) : List UInt8 := insBF (refB (refF x.op.toNat) 1) (refB (refF x.op.toNat) 2) (refB (refF x.op.toNat) 4) (refB (refF x.op.toNat) 8) (refB (refF x.op.toNat) 16) x
def goB : List Ins → List UInt8 → List UInt8
  | [], acc => acc
  | x :: q, acc => if acc.length ≤ 1048576 then goB q (acc ++ insB x) else acc
/-- the reference's Bytes -/
def bytesA (code : List Ins) : ByteArray × Int := if ¬ (chk capX code).2 = 0 then (⟨#[]⟩, (chk capX code).2) else
  if 1048576 < (goB code (numB code.length)).length then (⟨#[]⟩, 2) else (⟨(goB code (numB code.length)).toArray⟩, 0)
theorem insB_len {x : Ins} (h : FitI x) : (insB x).length ≤ 400 := by
  have := h.t
  unfold insB insBF
  simp only [List.length_append, List.length_cons, List.length_nil]
  have e1 : x.t.data.toList.length = x.t.size := size_len _
  split <;> split <;> split <;> split <;> simp only [List.length_append, List.length_cons, List.length_nil, numB, memB_len] <;> omega
set_option maxHeartbeats 4000000 in
theorem r23 (code : List Ins) (hok : ∀ x ∈ code, x.ok) (sp : List (List L)) (r : ByteArray × Int) (hr : bytesA code = r) :
    R X Tryd.prog 23 [.lf (.lst .ro 9 (code.map Ins.c) sp)] [] (.tp [.lf (.str r.1), .lf (.int .i64 r.2)]) [] := by
  have h35 := r35 (X := X) code sp
  have hl : (code.map Ins.c).length = code.length := List.length_map _
  unfold bytesA at hr
  by_cases h : (chk capX code).2 = 0
  · rw [if_neg (by omega)] at hr
    have hfit := fit_all h
    have hlen := (chk_ok h).len
    generalize hG : goB code (numB code.length) = G at hr
    have key : ∀ (q : List Ins) (i : Nat) (acc : List UInt8) (xs : List (List L)), code.drop i = q → xs = ub acc → acc.length ≤ 1100000 → goB q acc = G → LoopAt X Tryd.prog c23_23 [0, 6, 7]
        (blkK 0 (seqK X Tryd.prog c23_31 (retS [] [] 0 [RV.t 2, RV.t 3] (PV.tp [PV.lf (L.str r.fst), PV.lf (L.int IntKind.i64 r.snd)]) [])))
        { m := 0, tm := [(0, PV.lf (L.lst Tag.ro 9 (List.map Ins.c code) sp)), (6, PV.lf (L.lst (Tag.own 768 5) 1 xs [])), (7, PV.lf (L.int IntKind.i64 i))], ce := [] } := by
      intro q
      have fin : ∀ (acc : List UInt8) (xs : List (List L)), xs = ub acc → acc = G → xs.length = acc.length ∧ (1048576 < acc.length → r = (⟨#[]⟩, 2)) ∧ (¬ 1048576 < acc.length → r = (⟨acc.toArray⟩, 0)) := by
        intro acc xs hxs hG'
        subst hG'
        refine ⟨by rw [hxs, ub_len], fun h => ?_, fun h => ?_⟩
        · rw [if_pos h] at hr; exact hr.symm
        · rw [if_neg h] at hr; exact hr.symm
      induction q with
      | nil =>
        intro i acc xs hq hxs ha hg
        obtain ⟨f1, f2, f3⟩ := fin acc xs hxs (by simpa [goB] using hg)
        have hi : code.length ≤ i := by simpa using hq
        have hn : ¬ (i : Int) < (code.length : Int) := by omega
        intro Z hZ; apply hZ
        simp -implicitDefEqProofs (maxSteps := 2000000) only [c23, hl, hn, f1, decide_false, ↓reduceIte, s_skip, s_exit, s_ret, s_ops0, s_seq, s_cond, s_opsK, s_seqK_n, s_seqK_e, s_seqK_r, s_blkK_e, s_loopK_e, s_cnd, s_nil, s_cons, s_guard, s_wopsK, s_putK, s_grd, o_mv, o_as, o_pk, v_pk, o_bin, v_lss, v_gtr, o_cbs, o_len, v_len, e_t, e_k, e_put, e_get, e_res, e_keep_n, e_keep_c, e_keep1_s, e_asg_i, e_asg_s, Option.getD_some, Nat.reduceEqDiff, reduceCtorEq, true_and, and_true, Bool.not_true, Bool.false_eq_true, decide_eq_true_eq, s_ret_r, s_retX, s_cells_n, t_tp, t_n, t_c, t_1l, t_i, t_s, r_n, r_t, r_cons, one_2, Bool.and_true, Bool.true_and]
        intro _ _
        with_reducible refine ite_pr (fun h1 => ?_) (fun h1 => ?_)
        · rw [f2 (by omega)]; exact ⟨rfl, rfl⟩
        · rw [f3 (by omega), hxs, v_cbs_ub]
          simp -implicitDefEqProofs (maxSteps := 2000000) only [c23, ↓reduceIte, s_ret, s_opsK, s_seqK_n, s_nil, s_cons, s_wopsK, s_putK, o_as, e_t, e_k, e_put, e_get, e_res, e_keep_n, e_keep_c, e_keep1_s, e_asg_i, e_asg_s, Option.getD_some, Nat.reduceEqDiff, and_true, s_ret_r, s_retX, s_cells_n, t_tp, t_n, t_c, t_1l, t_i, t_s, r_n, r_t, r_cons, one_2, Bool.and_true]
          done
      | cons x q ih =>
        intro i acc xs hq hxs ha hg
        have hi : i < code.length := by
          rcases Nat.lt_or_ge i code.length with h | h
          · exact h
          · rw [List.drop_eq_nil_of_le h] at hq; cases hq
        have hx : code[i]? = some x := by rw [← List.head?_drop, hq]; rfl
        have hq' : code.drop (i + 1) = q := by rw [← List.tail_drop, hq]; rfl
        have hmem := List.mem_of_getElem? hx
        have hf := hfit x hmem
        have hk := hok x hmem
        have hlt : (i : Int) < (code.length : Int) := by omega
        have hxl : xs.length = acc.length := by rw [hxs, ub_len]
        simp only [goB] at hg
        by_cases hacc : acc.length ≤ 1048576
        · rw [if_pos hacc] at hg
          have hbl := insB_len hf
          have hacc2 : (acc.length : Int) ≤ 1048576 := by omega
          have hget : (code.map Ins.c).getD i [] = x.c := by rw [List.getD_eq_getElem?_getD, List.getElem?_map, hx]; rfl
          have w1 : IntKind.i64.wrap ((i : Int) + 1) = ((i + 1 : Nat) : Int) := by rw [w64 (by omega) (by omega)]; omega
          obtain ⟨p, hp, e1, e2, e3, e4, e5⟩ := pat' (k := x.op.toNat) (by have := hf.op; omega)
          have hins : insB x = insBF p.1 p.2.1 p.2.2.1 p.2.2.2.1 p.2.2.2.2 x := by unfold insB; rw [e1, e2, e3, e4, e5]
          rw [hins] at hg hbl
          have h40 := r40 (X := X) x.op
          have a1 := r41 (X := X) (refF x.op.toNat) 1 (by decide)
          have a2 := r41 (X := X) (refF x.op.toNat) 2 (by decide)
          have a3 := r41 (X := X) (refF x.op.toNat) 4 (by decide)
          have a4 := r41 (X := X) (refF x.op.toNat) 8 (by decide)
          have a5 := r41 (X := X) (refF x.op.toNat) 16 (by decide)
          rw [e1] at a1
          rw [e2] at a2
          rw [e3] at a3
          rw [e4] at a4
          rw [e5] at a5
          clear e1 e2 e3 e4 e5 hins hq hmem
          have hts := hf.t
          have hs0 := hk.s0
          have hs1 := hk.s1
          have hs2 := hk.s2
          have hs3 := hk.s3
          generalize refF x.op.toNat = v at *
          generalize nameF x.op.toNat = nm at *
          generalize nextF x.op.toNat = nx at *
          clear hf hk
          obtain ⟨xop, xa, xb, xn, xt, s0, s1, s2, s3⟩ := x
          try simp only at *
          obtain ⟨s0, rfl⟩ : ∃ n : Nat, s0 = n := ⟨s0.toNat, by omega⟩
          obtain ⟨s1, rfl⟩ : ∃ n : Nat, s1 = n := ⟨s1.toNat, by omega⟩
          obtain ⟨s2, rfl⟩ : ∃ n : Nat, s2 = n := ⟨s2.toNat, by omega⟩
          obtain ⟨s3, rfl⟩ : ∃ n : Nat, s3 = n := ⟨s3.toNat, by omega⟩
          have h39 := r39 (X := X) xa
          have h42 := r42 (X := X) s0 s1 s2 s3 (by omega) (by omega) (by omega) (by omega)
          simp only [insBF, Int.toNat_natCast] at hg hbl
          have hget' : (code.map Ins.c).getD i [] = [.int .i64 xop, .int .i64 xa, .int .i64 xb, .int .i64 xn, .str xt, .int .u64 s0, .int .u64 s1, .int .u64 s2, .int .u64 s3] := hget
          clear hget
          have ihk := fun acc' xs' h1 h2 h3 => ih (i + 1) acc' xs' hq' h1 h2 h3
          clear ih hr hG
          have hmb : (memB s0 s1 s2 s3 32).length = 32 := memB_len _ _ _ _ _
          have hnb : (numB xa).length = 2 := rfl
          have hts2 : xt.data.toList.length = xt.size := size_len _
          generalize memB s0 s1 s2 s3 32 = mb at *
          generalize numB xa = nb at *
          intro Z hZ; apply hZ
          simp -implicitDefEqProofs (maxSteps := 2000000) only [c23, hl, hlt, hxl, hacc2, Int.toNat_natCast, v_ld_e, hget', decide_true, ↓reduceIte, s_skip, s_ops0, s_seq, s_cond, s_block, s_opsK, s_seqK_n, s_cnd, s_nil, s_cons, s_guard, s_wopsK, s_putK, s_grd, q_mv, q_bin, q_len, o_mv, o_pk, v_pk, o_bin, v_lss, v_leq, v_part_t, v_part_f, v_atK, o_al, o_fa, v_fa_p, o_ia, v_ia, o_ld, v_ld_p, v_ldC, o_st, v_st_p, v_stCK, o_len, v_len, o_call, e_t, e_k, e_put, e_get, e_res, e_keep_n, e_keep_c, e_keep1_s, List.length_nil, List.length_cons, Option.getD_some, Nat.reduceEqDiff, Nat.reduceAdd, reduceCtorEq, true_and, cond_false, List.map_cons, List.map_nil, PV.leaves, List.flatMap_cons, List.flatMap_nil, List.append_nil, List.nil_append, List.all_cons, List.all_nil, Bool.true_and, Bool.and_self, PV.cells, cellL, fillL, Nat.zero_le, Nat.le_refl, List.take_zero, List.drop_zero, List.take_succ_cons, List.drop_succ_cons, List.drop_nil, List.take_nil, List.getElem?_cons_zero, kc_b, kc_i, kc_s, rl_i, kc_l, m_lf, m_ag, m_n, m_c, m_all, st_b, d_n, d_c, Nat.zero_add, Nat.add_zero, kc_er]
          intro _ _
          refine ⟨⟨by omega, by omega⟩, by omega, ?_⟩
          refine wcall_s h40 rfl rfl ?_
          simp -implicitDefEqProofs (maxSteps := 2000000) only [c23, hxl, ↓reduceIte, s_ops0, s_seq, s_opsK, s_seqK_n, s_nil, s_cons, s_wopsK, s_putK, o_mv, o_as, o_cvi, v_cvi, o_ext, v_ext0, v_ext1, v_ext2, v_part_f, v_atK, o_fa, v_fa_p, o_ld, v_ld_p, v_ldC, o_bs, v_bsK, v_lit_n, v_lit_c, o_app, v_app_o, o_call, e_t, e_k, e_put, e_get, e_res, e_keep_n, e_keep_c, e_keep1_s, e_asg_b, e_asg_i, e_asg_s, List.length_nil, List.length_cons, Option.getD_some, Nat.reduceEqDiff, reduceCtorEq, true_and, Bool.false_eq_true, St.clr, outV, ownsV, owns1, ownL, List.map_cons, List.map_nil, List.any_cons, List.any_nil, Bool.or_false, Bool.or_self, PV.leaves, List.flatMap_cons, List.flatMap_nil, List.append_nil, List.cons_append, List.nil_append, List.all_cons, List.all_nil, Bool.true_and, Bool.and_self, PV.cells, datL, Nat.reduceMul, Nat.reduceBEq, Nat.reduceLeDiff, BEq.rfl, List.getElem?_cons_zero, kp_i, kp_s, kp_u, rk_i, rk_s, rk_u, rl_i, ol_b, ol_i, ol_s, kp_p, kp_lro, rk_p, rk_lro, kp_lo, rk_lo, m_lf, m_tp, m_1l, m_n, m_c, m_all, e_asg_o, dw_n, dw_i, plT, lit_n, lit_c, List.reduceReplicate, List.set_cons_zero, Nat.lt_add_one, Nat.zero_add, Nat.add_zero, or_false]
          clear h40
          simp only [List.mem_cons, List.mem_nil_iff, or_false] at hp
          have k1 : [12032, 12034, 12036].contains 768 = false := by decide
          have k2 : [7680, 7682, 7684].contains 768 = false := by decide
          rcases hp with rfl | rfl | rfl | rfl | rfl | rfl | rfl | rfl
          all_goals
            simp only [Bool.or_true, Bool.or_false, Bool.true_or, Bool.false_or, Bool.false_eq_true, if_true, if_false] at hg hbl
            repeat' (first
              | (refine ⟨by (simp only [List.length_append, List.length_cons, List.length_nil, ub_len] at *; omega), ?_⟩)
              | (refine wcall_s a1 rfl rfl ?_)
              | (refine wcall_s a2 rfl rfl ?_)
              | (refine wcall_s a3 rfl rfl ?_)
              | (refine wcall_s a4 rfl rfl ?_)
              | (refine wcall_s a5 rfl rfl ?_)
              | (refine wcall_flat h39 rfl (flat_ub _) ?_)
              | (refine wcall_flat h42 rfl (flat_ub _) ?_)
              | (simp -implicitDefEqProofs (maxSteps := 2000000) only [c23, w1, List.length_append, ub_len, hxl, hts2, k1, k2, ↓reduceIte, s_skip, s_ops0, s_seq, s_cond, s_opsK, s_seqK_n, s_blkK_n, s_loopK_n, s_cnd, s_nil, s_cons, s_guard, s_wopsK, s_putK, s_grd, q_call, q_mv, o_mv, o_as, o_pk, v_pk, o_bin, v_add, o_cvi, v_cvi, v_part_t, v_part_f, v_atK, o_fa, v_fa_p, o_ld, v_ld_p, v_ldC, o_bs, v_bsK, v_lit_n, v_lit_c, o_lns, v_lns, o_app, v_app_o, o_aps, v_aps_o, o_call, e_t, e_k, e_put, e_get, e_res, e_keep_n, e_keep_c, e_keep1_s, e_asg_i, List.length_nil, List.length_cons, Option.getD_some, Nat.reduceEqDiff, Nat.reduceAdd, reduceCtorEq, true_and, cond_false, Bool.not_false, Bool.true_eq_false, Bool.false_eq_true, St.clr, outV, ownsV, owns1, ownL, List.map_cons, List.map_nil, Bool.or_false, PV.leaves, List.flatMap_cons, List.flatMap_nil, List.append_nil, List.cons_append, List.nil_append, List.all_cons, List.all_nil, Bool.true_and, Bool.and_self, PV.cells, datL, Nat.reduceMul, Nat.reduceBEq, Nat.reduceLeDiff, Nat.le_refl, BEq.rfl, List.drop_zero, List.take_succ_cons, List.drop_succ_cons, List.take_nil, List.getElem?_cons_zero, List.getElem?_cons_succ, kp_b, kp_i, kp_s, kp_u, kps_b, kps_i, kps_s, rk_b, rk_i, rk_s, rk_u, rl_i, ol_b, kp_p, kp_lro, kps_p, kps_lro, rk_p, rk_lro, kp_lo, kps_lo, rk_lo, ol_lo, m_lf, m_ag, m_n, m_c, m_all, e_asg_o, e_head, e_headK, kC_n, pO_n, pO_i, pO_l, dw_n, dw_i, List.range_zero, plT, lit_n, lit_c, List.reduceReplicate, List.set_cons_zero, List.set_cons_succ, List.length_append, Nat.reduceLT, Nat.lt_add_one, Nat.zero_add, Nat.add_zero, true_or, or_false, ub_len]))
            exact ihk _ _ (by rw [hxs]; simp [ub, wrap_u8, bytesL]) (by simp only [List.length_append, List.length_cons, List.length_nil] at *; omega) hg Z hZ
        · rw [if_neg hacc] at hg
          obtain ⟨f1, f2, f3⟩ := fin acc xs hxs hg
          have hacc2 : ¬ (acc.length : Int) ≤ 1048576 := by omega
          have hacc3 : 1048576 < (acc.length : Int) := by omega
          intro Z hZ; apply hZ
          simp -implicitDefEqProofs (maxSteps := 2000000) only [c23, hl, hlt, hxl, hacc2, hacc3, decide_true, decide_false, ↓reduceIte, s_exit, s_ret, s_ops0, s_seq, s_cond, s_opsK, s_seqK_n, s_seqK_e, s_seqK_r, s_blkK_e, s_loopK_e, s_cnd, s_nil, s_cons, s_guard, s_wopsK, s_putK, s_grd, q_mv, q_bin, q_len, o_mv, o_as, o_pk, v_pk, o_bin, v_lss, v_leq, v_gtr, o_len, v_len, e_t, e_k, e_put, e_get, e_res, e_keep_n, e_keep_c, e_keep1_s, e_asg_i, e_asg_s, Option.getD_some, Nat.reduceEqDiff, reduceCtorEq, true_and, and_true, cond_false, Bool.false_eq_true, s_ret_r, s_retX, s_cells_n, t_tp, t_n, t_c, t_1l, t_i, t_s, r_n, r_t, r_cons, one_2, Bool.and_true, Bool.true_and]
          intro _ _
          rw [f2 (by omega)]
          exact fun _ => ⟨rfl, rfl⟩
    refine R_i [] [] c23_ok rfl (by simp) ?_
    simp -implicitDefEqProofs (maxSteps := 2000000) only [c23, ↓reduceIte, s_ops0, s_seq, s_opsK, s_seqK_n, s_nil, s_cons, s_wopsK, o_mv, o_as, o_call, e_t, e_k, e_put, e_get, e_res, e_keep_n, e_keep_c, e_keep1_s, e_asg_i, e_asg_s, St.init, enum, List.length_nil, Option.getD_some, reduceCtorEq, List.map_cons, List.map_nil, PV.leaves, List.flatMap_cons, List.flatMap_nil, List.append_nil, rl_l, m_lf]
    refine wcall_s h35 rfl rfl ?_
    simp -implicitDefEqProofs (maxSteps := 2000000) only [c23, h, hl, ↓reduceIte, s_skip, s_ret, s_ops0, s_seq, s_cond, s_opsK, s_seqK_n, s_seqK_r, s_cnd, s_nil, s_cons, s_wopsK, s_putK, o_mv, o_as, o_bin, v_neq, o_ext, v_ext0, v_ext1, o_len, v_len, o_call, e_t, e_k, e_put, e_get, e_res, e_keep_n, e_keep_c, e_keep1_s, e_asg_i, e_asg_s, Option.getD_some, Nat.reduceEqDiff, reduceCtorEq, true_and, and_true, Bool.false_eq_true, decide_eq_true_eq, s_ret_r, s_retX, s_cells_n, t_tp, t_n, t_c, t_1l, t_i, t_s, r_n, r_t, r_cons, one_2, St.clr, outV, ownsV, owns1, ownL, List.map_cons, List.map_nil, List.any_cons, List.any_nil, Bool.or_self, PV.leaves, List.flatMap_cons, List.flatMap_nil, List.append_nil, Bool.and_true, Bool.true_and, rl_i, ol_i, m_lf, m_tp, m_1l, ne_eq, ite_not]
    intro _
    refine wcall_flat (r39 _) rfl (flat_ub _) ?_
    simp -implicitDefEqProofs (maxSteps := 2000000) only [c23, ↓reduceIte, s_ops0, s_seq, s_block, s_loop, s_opsK, s_seqK_n, s_nil, s_cons, s_wopsK, o_as, e_t, e_k, e_put, e_get, e_res, e_keep_n, e_keep_c, e_keep1_s, e_asg_i, Option.getD_some, Nat.reduceEqDiff, Nat.reduceAdd, reduceCtorEq, Bool.false_eq_true, St.clr, outV, ownsV, owns1, ownL, List.append_nil, Nat.reduceMul, Nat.reduceBEq, BEq.rfl, kps_b, kps_i, rk_b, rk_i, kps_lro, rk_lro, rk_lo, ol_lo, m_lf, m_n, m_c, m_all, e_asg_o, e_head, e_headK, kC_n, pO_n, pO_i, pO_l, List.range_zero, plT, Nat.add_zero]
    exact key code 0 (numB code.length) _ rfl rfl (by simp [numB]) hG
  · rw [if_pos h] at hr
    subst hr
    refine R_i [] [] c23_ok rfl (by simp) ?_
    simp -implicitDefEqProofs (maxSteps := 2000000) only [c23, ↓reduceIte, s_ops0, s_seq, s_opsK, s_seqK_n, s_nil, s_cons, s_wopsK, o_mv, o_as, o_call, e_t, e_k, e_put, e_get, e_res, e_keep_n, e_keep_c, e_keep1_s, e_asg_i, e_asg_s, St.init, enum, List.length_nil, Option.getD_some, reduceCtorEq, List.map_cons, List.map_nil, PV.leaves, List.flatMap_cons, List.flatMap_nil, List.append_nil, rl_l, m_lf]
    refine wcall_s h35 rfl rfl ?_
    simp -implicitDefEqProofs (maxSteps := 2000000) only [c23, h, ↓reduceIte, s_ret, s_ops0, s_seq, s_cond, s_opsK, s_seqK_n, s_seqK_r, s_cnd, s_nil, s_cons, s_wopsK, s_putK, o_mv, o_as, o_bin, v_neq, o_ext, v_ext0, v_ext1, e_t, e_k, e_put, e_get, e_res, e_keep_n, e_keep_c, e_keep1_s, e_asg_i, e_asg_s, Option.getD_some, Nat.reduceEqDiff, reduceCtorEq, and_true, Bool.false_eq_true, decide_eq_true_eq, s_ret_r, s_retX, s_cells_n, t_tp, t_n, t_c, t_1l, t_i, t_s, r_n, r_t, r_cons, one_2, St.clr, outV, ownsV, owns1, ownL, List.map_cons, List.map_nil, List.any_cons, List.any_nil, Bool.or_self, Bool.and_true, ol_i, m_tp, m_1l, ne_eq, not_false_eq_true]
    done
end Go.Proofs.YthcpaohmajjopaaDoor.I
