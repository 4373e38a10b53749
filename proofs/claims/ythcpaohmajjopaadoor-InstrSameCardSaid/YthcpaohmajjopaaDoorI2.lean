/- Contracts, part I2. -/
import Derived.Test.YthcpaohmajjopaaDoorI1
import Derived.Test.YthcpaohmajjopaaDoorAmOpen
set_option linter.unusedVariables false
set_option linter.unusedSimpArgs false
namespace Go.Proofs.YthcpaohmajjopaaDoor.I
open Go Go.Proofs.YthcpaohmajjopaaDoor.AM
variable {X : Cx}

theorem w8 {x : Int} (h0 : 0 ≤ x) (h1 : x ≤ 255) : IntKind.wrap .u8 x = x := by
  simp only [IntKind.wrap, IntKind.bits, IntKind.signed]; simp; omega
theorem w64 {x : Int} (h0 : -9223372036854775808 ≤ x) (h1 : x ≤ 9223372036854775807) : IntKind.wrap .i64 x = x := by
  simp only [IntKind.wrap, IntKind.bits, IntKind.signed]; simp; omega
theorem ite_pr {p : Prop} [Decidable p] {A B : Prop} (h1 : p → A) (h2 : ¬ p → B) : if p then A else B := by split <;> simp_all

/-- An instruction. -/
structure Ins where
  op : Int
  a : Int
  b : Int
  n : Int
  t : ByteArray
  s0 : Int
  s1 : Int
  s2 : Int
  s3 : Int
def Ins.c (x : Ins) : List L := [.int .i64 x.op, .int .i64 x.a, .int .i64 x.b, .int .i64 x.n, .str x.t, .int .u64 x.s0, .int .u64 x.s1, .int .u64 x.s2, .int .u64 x.s3]
def Ins.same (x y : Ins) : Bool := decide (x.op = y.op) && (decide (x.a = y.a) && (decide (x.b = y.b) && (decide (x.n = y.n) && (decide (x.t = y.t) && (decide (x.s0 = y.s0) && (decide (x.s1 = y.s1) && (decide (x.s2 = y.s2) && (decide (x.s3 = y.s3) && true))))))))
theorem Ins.same_eq {x y : Ins} : (x.same y = true) ↔ x = y := by
  cases x; cases y
  simp [Ins.same]
theorem eq_ins (x y : Ins) : eqLs x.c y.c = some (x.same y) := by
  simp [eqLs, eqL, Ins.c, Ins.same]

/-- instr.uses -/
def usesN : List Int := [0, 64, 66, 80, 97, 99, 113, 80, 97, 33, 33, 33, 0, 0, 33, 97, 0, 0, 78, 64, 79]
def usesL : List L := usesN.map (.int .i64 ·)
def useOf (k : Nat) : Int := usesN[k]?.getD 0
theorem usesL_get {k : Nat} (h : k < 21) : usesL[k]? = some (.int .i64 (useOf k)) := by
  have : usesN[k]? = some (useOf k) := by
    unfold useOf
    rw [List.getElem?_eq_getElem (by simpa [usesN] using h)]; rfl
  simp [usesL, this]
def hasB (k : Nat) (bit : Int) : Bool := decide (¬ bits .and .i64 (useOf k) bit = 0)

theorem r31 (op : Int) : R X Tryd.prog 31 [.lf (.int .i64 op)] [] (.lf (.bool (decide (1 ≤ op ∧ op ≤ 20)))) [] := by
  refine R_i [] [] c31_ok rfl (by simp) ?_
  simp -implicitDefEqProofs (maxSteps := 2000000) only [c31, ↓reduceIte, s_ret, s_ops0, s_seq, s_opsK, s_seqK_n, s_nil, s_cons, s_guard, s_wopsK, s_putK, s_grd, q_mv, q_bin, o_mv, o_as, o_pk, v_pk, o_bin, v_leq, v_geq, e_t, e_k, e_put, e_get, e_res, e_keep_n, e_keep_c, e_keep1_s, e_asg_b, St.init, enum, List.length_nil, Option.getD_some, Nat.reduceEqDiff, reduceCtorEq, true_and, and_true, cond_false, Bool.not_true, Bool.false_eq_true, decide_eq_true_eq, s_ret_r, s_retX, s_cells_n, t_lf, t_b, r_n, r_t, r_cons, one_1, Bool.and_true, Bool.true_and]
  split <;> simp_all
  intro h; omega
theorem r50 (hX : X.G 1 = some usesL) (k : Nat) (hk : k < 21) (bit : Int) : R X Tryd.prog 50 [.lf (.int .i64 k), .lf (.int .i64 bit)] [] (.lf (.bool (hasB k bit))) [] := by
  refine R_i [] [] c50_ok rfl (by simp) ?_
  have h1 : usesL[(↑k : Int).toNat * 1]? = some (.int .i64 (useOf k)) := by simpa using usesL_get hk
  simp -implicitDefEqProofs (maxSteps := 2000000) only [c50, hX, h1, ↓reduceIte, s_ret, s_ops0, s_seq, s_opsK, s_seqK_n, s_nil, s_cons, s_wopsK, s_putK, o_mv, o_as, o_bin, v_and, v_neq, v_part_f, v_atK, o_iaa, o_ld, v_ldC, e_t, e_k, e_put, e_get, e_res, e_keep_n, e_keep_c, e_keep1_s, e_asg_b, St.init, enum, List.length_nil, Option.getD_some, Nat.reduceEqDiff, reduceCtorEq, true_and, and_true, s_ret_r, s_retX, s_cells_n, t_lf, t_b, r_n, r_t, r_cons, one_1, Bool.and_true, Bool.true_and, ne_eq, Nat.zero_add, v_iaa_g, v_ld_g]
  exact ⟨⟨by omega, by omega⟩, rfl⟩
/-- which fields a kind has -/
theorem pat {k : Nat} (hk : k < 21) : ∃ p ∈ [(false, false, false, false, false), (false, true, false, false, false), (false, false, false, false, true), (true, false, false, false, false), (true, true, false, false, false), (true, false, false, false, true), (false, true, true, true, false), (true, true, true, true, false)],
    hasB k 1 = p.1 ∧ hasB k 2 = p.2.1 ∧ hasB k 4 = p.2.2.1 ∧ hasB k 8 = p.2.2.2.1 ∧ hasB k 16 = p.2.2.2.2 := by
  have h : ∀ i : Fin 21, (hasB i.val 1, hasB i.val 2, hasB i.val 4, hasB i.val 8, hasB i.val 16) ∈ [(false, false, false, false, false), (false, true, false, false, false), (false, false, false, false, true), (true, false, false, false, false), (true, true, false, false, false), (true, false, false, false, true), (false, true, true, true, false), (true, true, true, true, false)] := by decide +kernel
  exact ⟨_, h ⟨k, hk⟩, rfl, rfl, rfl, rfl, rfl⟩
def Ins.plain (k : Nat) (x : Ins) : Ins := { op := x.op, a := if hasB k 1 = true then x.a else 0, b := if hasB k 2 = true then x.b else 0, n := if hasB k 4 = true then x.n else 0, t := if hasB k 8 = true then x.t else ⟨#[]⟩, s0 := if hasB k 16 = true then x.s0 else 0, s1 := if hasB k 16 = true then x.s1 else 0, s2 := if hasB k 16 = true then x.s2 else 0, s3 := if hasB k 16 = true then x.s3 else 0 }
theorem r65 (hX : X.G 1 = some usesL) (k : Nat) (hk : k < 21) (x : Ins) (hx : x.op = k) : R X Tryd.prog 65 [.ag x.c] [] (.ag (x.plain k).c) [] := by
  obtain ⟨op, a, b, n, t, s0, s1, s2, s3⟩ := x
  simp only at hx
  subst hx
  obtain ⟨p, hp, h1, h2, h3, h4, h5⟩ := pat hk
  simp only [Ins.plain, Ins.c, h1, h2, h3, h4, h5]
  refine R_i [] [] c65_ok rfl (by simp) ?_
  simp -implicitDefEqProofs (maxSteps := 2000000) only [c65, ↓reduceIte, s_ops0, s_seq, s_opsK, s_seqK_n, s_nil, s_cons, s_wopsK, s_putK, v_part_f, v_atK, o_al, o_bx, o_fa, v_fa_p, o_ld, v_ld_p, v_ldC, o_st, v_st_p, v_stCK, o_bd, v_agK, v_bd_n, v_bd_c, o_call, e_t, e_k, e_put, e_get, e_res, e_keep_n, e_keep_c, e_keep1_s, St.init, enum, List.length_nil, List.length_cons, Option.getD_some, Nat.reduceEqDiff, Nat.reduceAdd, reduceCtorEq, true_and, Bool.false_eq_true, List.map_cons, List.map_nil, PV.leaves, List.flatMap_cons, List.flatMap_nil, List.append_nil, List.cons_append, List.nil_append, List.all_cons, List.all_nil, Bool.true_and, Bool.and_self, PV.cells, cellL, fillL, Nat.reduceBEq, Nat.reduceLeDiff, Nat.zero_le, Nat.le_refl, List.take_zero, List.drop_zero, List.drop_succ_cons, List.drop_nil, List.getElem?_cons_zero, kc_i, kc_s, rl_i, kc_p, m_lf, m_ag, m_n, m_c, m_all, st_b, d_n, d_c, ne_eq, not_false_eq_true, Nat.zero_add, Nat.add_zero, v_bx_a]
  refine wcall_s (r50 hX k hk 1) rfl rfl ?_
  simp only [List.mem_cons, List.not_mem_nil, or_false] at hp
  rcases hp with rfl | rfl | rfl | rfl | rfl | rfl | rfl | rfl
  all_goals
    simp only at h1 h2 h3 h4 h5
    simp -implicitDefEqProofs (maxSteps := 2000000) only [c65, h1, h2, h3, h4, h5, ↓reduceIte, s_skip, s_ops0, s_seq, s_cond, s_opsK, s_seqK_n, s_cnd, s_nil, s_cons, s_wopsK, s_putK, v_part_f, v_atK, o_fa, v_fa_p, o_ld, v_ld_p, v_ldC, o_st, v_st_p, v_stCK, o_call, e_t, e_k, e_put, e_get, e_res, e_keep_n, e_keep_c, e_keep1_s, List.length_nil, List.length_cons, Option.getD_some, Nat.reduceEqDiff, Nat.reduceAdd, true_and, Bool.false_eq_true, St.clr, outV, ownsV, owns1, ownL, List.map_cons, List.map_nil, PV.leaves, List.flatMap_cons, List.flatMap_nil, List.append_nil, List.cons_append, List.nil_append, List.all_cons, List.all_nil, Bool.true_and, Bool.and_self, PV.cells, cellL, fillL, Nat.reduceLeDiff, List.take_zero, List.drop_zero, List.take_succ_cons, List.drop_succ_cons, List.getElem?_cons_zero, List.getElem?_cons_succ, rl_i, ol_b, m_lf, st_i1, d_n, d_c, Nat.zero_add, Nat.add_zero]
    refine wcall_s (r50 hX k hk 2) rfl rfl ?_
    simp -implicitDefEqProofs (maxSteps := 2000000) only [c65, h1, h2, h3, h4, h5, ↓reduceIte, s_skip, s_ops0, s_seq, s_cond, s_opsK, s_seqK_n, s_cnd, s_nil, s_cons, s_wopsK, s_putK, v_part_f, v_atK, o_fa, v_fa_p, o_ld, v_ld_p, v_ldC, o_st, v_st_p, v_stCK, o_call, e_t, e_k, e_put, e_get, e_res, e_keep_n, e_keep_c, e_keep1_s, List.length_nil, List.length_cons, Option.getD_some, Nat.reduceEqDiff, Nat.reduceAdd, true_and, Bool.false_eq_true, St.clr, outV, ownsV, owns1, ownL, List.map_cons, List.map_nil, PV.leaves, List.flatMap_cons, List.flatMap_nil, List.append_nil, List.cons_append, List.nil_append, List.all_cons, List.all_nil, Bool.true_and, Bool.and_self, PV.cells, cellL, fillL, Nat.reduceLeDiff, List.take_zero, List.drop_zero, List.take_succ_cons, List.drop_succ_cons, List.getElem?_cons_zero, List.getElem?_cons_succ, rl_i, ol_b, m_lf, st_i1, d_n, d_c, Nat.zero_add, Nat.add_zero]
    refine wcall_s (r50 hX k hk 4) rfl rfl ?_
    simp -implicitDefEqProofs (maxSteps := 2000000) only [c65, h1, h2, h3, h4, h5, ↓reduceIte, s_skip, s_ops0, s_seq, s_cond, s_opsK, s_seqK_n, s_cnd, s_nil, s_cons, s_wopsK, s_putK, v_part_f, v_atK, o_fa, v_fa_p, o_ld, v_ld_p, v_ldC, o_st, v_st_p, v_stCK, o_call, e_t, e_k, e_put, e_get, e_res, e_keep_n, e_keep_c, e_keep1_s, List.length_nil, List.length_cons, Option.getD_some, Nat.reduceEqDiff, Nat.reduceAdd, true_and, Bool.false_eq_true, St.clr, outV, ownsV, owns1, ownL, List.map_cons, List.map_nil, PV.leaves, List.flatMap_cons, List.flatMap_nil, List.append_nil, List.cons_append, List.nil_append, List.all_cons, List.all_nil, Bool.true_and, Bool.and_self, PV.cells, cellL, fillL, Nat.reduceLeDiff, List.take_zero, List.drop_zero, List.take_succ_cons, List.drop_succ_cons, List.getElem?_cons_zero, List.getElem?_cons_succ, rl_i, ol_b, m_lf, st_i1, d_n, d_c, Nat.zero_add, Nat.add_zero]
    refine wcall_s (r50 hX k hk 8) rfl rfl ?_
    simp -implicitDefEqProofs (maxSteps := 2000000) only [c65, h1, h2, h3, h4, h5, ↓reduceIte, s_skip, s_ops0, s_seq, s_cond, s_opsK, s_seqK_n, s_cnd, s_nil, s_cons, s_wopsK, s_putK, v_part_f, v_atK, o_fa, v_fa_p, o_ld, v_ld_p, v_ldC, o_st, v_st_p, v_stCK, o_call, e_t, e_k, e_put, e_get, e_res, e_keep_n, e_keep_c, e_keep1_s, List.length_nil, List.length_cons, Option.getD_some, Nat.reduceEqDiff, Nat.reduceAdd, true_and, Bool.false_eq_true, St.clr, outV, ownsV, owns1, ownL, List.map_cons, List.map_nil, PV.leaves, List.flatMap_cons, List.flatMap_nil, List.append_nil, List.cons_append, List.nil_append, List.all_cons, List.all_nil, Bool.true_and, Bool.and_self, PV.cells, cellL, fillL, Nat.reduceLeDiff, List.take_zero, List.drop_zero, List.take_succ_cons, List.drop_succ_cons, List.getElem?_cons_zero, List.getElem?_cons_succ, rl_i, ol_b, m_lf, st_s1, d_n, d_c, Nat.zero_add, Nat.add_zero]
    refine wcall_s (r50 hX k hk 16) rfl rfl ?_
    simp -implicitDefEqProofs (maxSteps := 2000000) only [c65, h1, h2, h3, h4, h5, ↓reduceIte, s_skip, s_ret, s_ops0, s_seq, s_cond, s_opsK, s_seqK_n, s_cnd, s_nil, s_cons, s_wopsK, s_putK, v_part_t, o_fa, v_fa_p, o_ld, v_ld_p, v_ldC, o_st, v_st_p, v_stCK, e_t, e_put, e_get, e_res, e_keep_n, e_keep_c, e_keep1_s, List.length_nil, List.length_cons, Option.getD_some, Nat.reduceEqDiff, Nat.reduceAdd, and_true, Bool.false_eq_true, s_ret_r, s_retX, s_cells_n, t_ag, t_ln, t_lc, t_i, t_s, r_n, r_c, r_cons, r_cell, r_part_t, one_1, St.clr, outV, ownsV, owns1, ownL, List.append_nil, List.cons_append, List.nil_append, List.all_cons, List.all_nil, Bool.and_true, Bool.and_self, PV.cells, cellL, fillL, Nat.le_refl, List.take_zero, List.drop_zero, List.take_succ_cons, List.drop_succ_cons, List.drop_nil, List.take_nil, Option.bind_some, ol_b, m_lf, st_b, d_n, d_c, Nat.zero_add]
end Go.Proofs.YthcpaohmajjopaaDoor.I
