/- Contracts, part IX5. -/
import Derived.Test.YthcpaohmajjopaaDoorIX4
set_option linter.unusedVariables false
set_option linter.unusedSimpArgs false
namespace Go.Proofs.YthcpaohmajjopaaDoor.I
open Go Go.Proofs.YthcpaohmajjopaaDoor.AM
variable {X : Cx}
theorem byte_k (b : ByteArray) (p : Int) : (byteAt b p).toNat < 256 ∧ ((byteAt b p).toNat : Int) = byteAt b p := by
  have := byteAt_0 b p; have := byteAt_1 b p; omega
theorem name_tab : ∀ k : Fin 256, (decide (nameF k.val = ⟨#[]⟩)) = decide (k.val = 0 ∨ 20 < k.val) := by decide +kernel
def bitAt (b : ByteArray) (p k : Nat) : Int := ((byteAt b ((p + k / 8 : Nat) : Int)).fdiv (2 ^ min (((k : Int).tmod 8)).toNat IntKind.i64.bits)).tmod 2
def rS (b : ByteArray) (p : Nat) : Nat → Nat → Int → Int → Int → Int → Int × Int × Int × Int
  | 0, _, s0, s1, s2, s3 => (s0, s1, s2, s3)
  | m + 1, k, s0, s1, s2, s3 => if bitAt b p k = 1 then rS b p m (k + 1) (withAt 0 s0 k) (withAt 1 s1 k) (withAt 2 s2 k) (withAt 3 s3 k) else rS b p m (k + 1) s0 s1 s2 s3
def oneF (f1 f2 f4 f8 f16 : Bool) (op : Int) (b : ByteArray) (p : Nat) : Ins × Int :=
  if (f1 || f2) = true ∧ b.size < p + 3 then (⟨op, 0, 0, 0, ⟨#[]⟩, 0, 0, 0, 0⟩, -1) else
  let a := if (f1 || f2) = true then twoF b (p + 1) else 0
  let p2 := if (f1 || f2) = true then p + 3 else p + 1
  if f4 = true ∧ b.size < p2 + 1 then (⟨op, a, 0, 0, ⟨#[]⟩, 0, 0, 0, 0⟩, -1) else
  let b1 := if f4 = true then byteAt b (p2 : Int) else 0
  let p3 := if f4 = true then p2 + 1 else p2
  if f8 = true ∧ (b.size < p3 + 3 ∨ b.size < p3 + 3 + (byteAt b ((p3 + 2 : Nat) : Int)).toNat) then (⟨op, a, b1, 0, ⟨#[]⟩, 0, 0, 0, 0⟩, -1) else
  let len := (byteAt b ((p3 + 2 : Nat) : Int)).toNat
  let b2 := if f8 = true then byteAt b (p3 : Int) else b1
  let n := if f8 = true then byteAt b ((p3 + 1 : Nat) : Int) else 0
  let t : ByteArray := if f8 = true then b.extract (p3 + 3) (p3 + 3 + len) else ⟨#[]⟩
  let p4 := if f8 = true then p3 + 3 + len else p3
  if f16 = true ∧ b.size < p4 + 32 then (⟨op, a, b2, n, t, 0, 0, 0, 0⟩, -1) else
  let s := if f16 = true then rS b p4 256 0 0 0 0 0 else (0, 0, 0, 0)
  (⟨op, a, b2, n, t, s.1, s.2.1, s.2.2.1, s.2.2.2⟩, if f16 = true then ((p4 + 32 : Nat) : Int) else (p4 : Int))
def oneR (b : ByteArray) (p : Nat) : Ins × Int :=
  let op := byteAt b (p : Int)
  if op < 1 ∨ 20 < op then (⟨0, 0, 0, 0, ⟨#[]⟩, 0, 0, 0, 0⟩, -1) else
  oneF (refB (refF op.toNat) 1) (refB (refF op.toNat) 2) (refB (refF op.toNat) 4) (refB (refF op.toNat) 8) (refB (refF op.toNat) 16) op b p
theorem pat' {k : Nat} (hk : 1 ≤ k ∧ k ≤ 20) : ∃ p ∈ [(false, false, false, false, false), (false, false, true, false, false), (false, false, false, false, true), (true, false, false, false, false), (true, false, true, false, false), (true, false, false, false, true), (false, false, false, true, false), (false, true, false, true, false)],
    refB (refF k) 1 = p.1 ∧ refB (refF k) 2 = p.2.1 ∧ refB (refF k) 4 = p.2.2.1 ∧ refB (refF k) 8 = p.2.2.2.1 ∧ refB (refF k) 16 = p.2.2.2.2 := by
  have h : ∀ i : Fin 21, (refB (refF i.val) 1, refB (refF i.val) 2, refB (refF i.val) 4, refB (refF i.val) 8, refB (refF i.val) 16) ∈ [(false, false, false, false, false), (false, false, true, false, false), (false, false, false, false, true), (true, false, false, false, false), (true, false, true, false, false), (true, false, false, false, true), (false, false, false, true, false), (false, true, false, true, false)] := by decide +kernel
  exact ⟨_, h ⟨k, by omega⟩, rfl, rfl, rfl, rfl, rfl⟩

def keepS : List Nat := [0, 1, 4, 6, 10]
def opsS : AC := .ops 0 [⟨(some 141), .mv (.t 1), none⟩, ⟨(some 142), .bin .add (.t 141) (.k (.lf (.int .i64 32))), none⟩, ⟨(some 1), .as 0 0 (.t 142), none⟩] [1, 4, 6]
theorem r34_set (b : ByteArray) (q : Nat) (hb : b.size ≤ 140737488351232) (hq : q + 32 ≤ b.size) (op a b' n : Int) (t : ByteArray) (r : Ins × Int) : ∀ (m k : Nat) (s0 s1 s2 s3 : Int), k + m = 256 →
    (⟨op, a, b', n, t, (rS b q m k s0 s1 s2 s3).1, (rS b q m k s0 s1 s2 s3).2.1, (rS b q m k s0 s1 s2 s3).2.2.1, (rS b q m k s0 s1 s2 s3).2.2.2⟩, ((q + 32 : Nat) : Int)) = r →
    LoopAt X Tryd.prog c34_35 [0, 1, 4, 6, 10] (blkK 0 (seqK X Tryd.prog (.ops 0 [⟨(some 141), .mv (.t 1), none⟩, ⟨(some 142), .bin .add (.t 141) (.k (.lf (.int .i64 32))), none⟩, ⟨(some 1), .as 0 0 (.t 142), none⟩] [1, 4, 6]) (seqK X Tryd.prog c34_43 (retS [] [] 0 [RV.c 4 9 true, RV.t 5] (PV.tp [PV.ag r.fst.c, PV.lf (L.int IntKind.i64 r.snd)]) []))))
      { m := 0, tm := [(0, PV.lf (L.str b)), (1, PV.lf (L.int IntKind.i64 (q : Int))), (4, PV.lf (L.ptr 4 0)), (6, PV.lf (L.ptr 6 0)), (10, PV.lf (L.int IntKind.i64 (k : Int)))],
        ce := [(4, [L.int .i64 0, L.int .i64 0, L.int .i64 0, L.int .i64 0, L.str ⟨#[]⟩, L.int .u64 0, L.int .u64 0, L.int .u64 0, L.int .u64 0]), (6, [L.int .i64 op, L.int .i64 a, L.int .i64 b', L.int .i64 n, L.str t, L.int .u64 s0, L.int .u64 s1, L.int .u64 s2, L.int .u64 s3])] } := by
  intro m
  induction m with
  | zero =>
    intro k s0 s1 s2 s3 hk hr
    obtain rfl : k = 256 := by omega
    have hnl : ¬ ((256 : Nat) : Int) < 256 := by omega
    have hw : IntKind.i64.wrap ((q : Int) + 32) = ((q + 32 : Nat) : Int) := by rw [w64 (by omega) (by omega)]; omega
    subst hr
    intro Z hZ; apply hZ
    simp -implicitDefEqProofs (maxSteps := 2000000) only [c34, Ins.c, rS, hnl, hw, ↓reduceIte, s_exit, s_ret, s_ops0, s_seq, s_cond, s_opsK, s_seqK_n, s_seqK_e, s_blkK_e, s_loopK_e, s_cnd, s_nil, s_cons, s_wopsK, s_putK, o_mv, o_as, o_bin, v_add, v_lss, v_part_t, o_ld, v_ld_p, v_ldC, o_st, v_st_p, v_stCK, e_t, e_k, e_put, e_get, e_res, e_keep_n, e_keep_c, e_keep1_s, e_asg_i, List.length_nil, List.length_cons, Option.getD_some, Nat.reduceEqDiff, Nat.reduceAdd, reduceCtorEq, and_true, decide_eq_true_eq, s_ret_r, s_retX, s_cells_n, t_tp, t_n, t_c, t_1l, t_1a, t_ln, t_lc, t_i, t_s, r_n, r_t, r_c, r_cons, r_cell, r_part_t, one_2, List.append_nil, List.nil_append, List.all_cons, List.all_nil, Bool.and_true, Bool.and_self, PV.cells, cellL, fillL, Nat.le_refl, List.take_zero, List.drop_zero, List.take_succ_cons, List.drop_succ_cons, List.drop_nil, List.take_nil, Option.bind_some, st_b, d_n, d_c, Nat.zero_add]
  | succ m ih =>
    intro k s0 s1 s2 s3 hk hr
    intro Z hZ; apply hZ
    have hlt : (k : Int) < 256 := by omega
    have hw : IntKind.i64.wrap ((k : Int) + 1) = ((k + 1 : Nat) : Int) := by rw [w64 (by omega) (by omega)]; omega
    have e1 : IntKind.i64.wrap ((k : Int).tdiv 8) = ((k / 8 : Nat) : Int) := by rw [w64] <;> simp [Int.tdiv_eq_ediv_of_nonneg] <;> omega
    have e2 : IntKind.i64.wrap ((q : Int) + ((k / 8 : Nat) : Int)) = ((q + k / 8 : Nat) : Int) := by rw [w64 (by omega) (by omega)]; omega
    have wb : ∀ q : Int, IntKind.i64.wrap (byteAt b q) = byteAt b q := fun q => w64 (by have := byteAt_0 b q; omega) (by have := byteAt_1 b q; omega)
    have h53 := r53 (X := X) s0 s1 s2 s3 k (by omega)
    simp only [rS] at hr
    simp -implicitDefEqProofs (maxSteps := 2000000) only [c34, hlt, hw, e1, e2, wb, ↓reduceIte, s_skip, s_ops0, s_seq, s_cond, s_block, s_opsK, s_seqK_n, s_blkK_n, s_loopK_n, s_cnd, s_nil, s_cons, s_wopsK, s_putK, o_mv, o_as, o_bin, v_add, v_quo, v_rem, v_shr, v_eql, v_lss, o_cvi, v_cvi, v_part_t, o_ixs, v_ixs, o_fa, v_fa_p, o_ld, v_ld_p, v_ldC, o_call, e_t, e_k, e_put, e_get, e_res, e_keep_n, e_keep_c, e_keep1_s, e_asg_i, List.length_nil, List.length_cons, Option.getD_some, Nat.reduceEqDiff, Nat.reduceAdd, reduceCtorEq, true_and, decide_eq_true_eq, List.map_cons, List.map_nil, PV.leaves, List.flatMap_cons, List.flatMap_nil, List.append_nil, List.cons_append, List.nil_append, Bool.true_and, Nat.le_refl, List.drop_zero, List.take_succ_cons, List.drop_succ_cons, List.take_nil, rl_i, m_lf, m_ag, e_head, e_headK, kC_n, kC_c, pO_n, pO_p, pO_i, pO_s, List.range_zero, ne_eq, Nat.zero_add]
    refine ⟨by decide, ⟨by omega, by omega⟩, by decide, Int.tmod_nonneg _ (by omega), by decide, ?_⟩
    with_reducible refine ite_pr (fun h => ?_) (fun h => ?_)
    · have h' : bitAt b q k = 1 := h
      simp only [if_pos h'] at hr
      refine wcall_s h53 rfl rfl ?_
      simp -implicitDefEqProofs (maxSteps := 2000000) only [c34, hlt, hw, ↓reduceIte, s_ops0, s_opsK, s_seqK_n, s_blkK_n, s_loopK_n, s_nil, s_cons, s_wopsK, s_putK, o_mv, o_as, o_bin, v_add, o_fa, v_fa_p, o_st, v_st_p, v_stCK, e_t, e_k, e_put, e_get, e_res, e_keep_n, e_keep_c, e_keep1_s, e_asg_i, List.length_nil, List.length_cons, Option.getD_some, Nat.reduceEqDiff, Nat.reduceAdd, reduceCtorEq, true_and, Bool.false_eq_true, St.clr, outV, ownsV, owns1, ownL, List.map_cons, List.map_nil, List.any_cons, List.any_nil, Bool.or_self, List.append_nil, List.cons_append, List.nil_append, List.all_cons, List.all_nil, Bool.true_and, Bool.and_self, PV.cells, cellL, fillL, Nat.le_refl, List.take_zero, List.take_succ_cons, List.drop_succ_cons, List.drop_nil, ol_i, m_ag, e_head, e_headK, kC_n, kC_c, pO_n, pO_p, pO_i, pO_s, st_b, d_n, d_c, List.range_zero, Nat.zero_add]
      exact ih (k + 1) _ _ _ _ (by omega) hr Z hZ
    · have h' : ¬ bitAt b q k = 1 := h
      simp only [if_neg h'] at hr
      exact ih (k + 1) _ _ _ _ (by omega) hr Z hZ
set_option maxHeartbeats 4000000 in
theorem r34_0 (b : ByteArray) (p : Nat) (hb : b.size ≤ 140737488351232) (hp : p < b.size) (r : Ins × Int) (op v : Int) (nm : ByteArray) (nx : Bool) (eop : byteAt b (p : Int) = op) (hr : oneF false false false false false op b p = r)
    (h40 : R X Tryd.prog 40 [.lf (.int .i64 op)] [] (.tp [.lf (.int .i64 v), .lf (.str nm), .lf (.bool nx)]) []) (hne : ¬ nm = ⟨#[]⟩)
    (h1 : R X Tryd.prog 41 [.lf (.int .i64 v), .lf (.int .i64 1)] [] (.lf (.bool false)) []) (h2 : R X Tryd.prog 41 [.lf (.int .i64 v), .lf (.int .i64 2)] [] (.lf (.bool false)) []) (h4 : R X Tryd.prog 41 [.lf (.int .i64 v), .lf (.int .i64 4)] [] (.lf (.bool false)) [])
    (h8 : R X Tryd.prog 41 [.lf (.int .i64 v), .lf (.int .i64 8)] [] (.lf (.bool false)) []) (h16 : R X Tryd.prog 41 [.lf (.int .i64 v), .lf (.int .i64 16)] [] (.lf (.bool false)) []) :
    R X Tryd.prog 34 [.lf (.str b), .lf (.int .i64 p)] [] (.tp [.ag r.1.c, .lf (.int .i64 r.2)]) [] := by
  have o0 := byteAt_0 b (p : Int)
  have o1 := byteAt_1 b (p : Int)
  rw [eop] at o0 o1
  have w8 : IntKind.i64.wrap op = op := w64 (by omega) (by omega)
  have hn1 : IntKind.i64.wrap ((p : Int) + 1) = ((p + 1 : Nat) : Int) := by rw [w64 (by omega) (by omega)]; omega
  have wb : ∀ q : Int, IntKind.i64.wrap (byteAt b q) = byteAt b q := fun q => w64 (by have := byteAt_0 b q; omega) (by have := byteAt_1 b q; omega)

  simp only [oneF, Bool.or_self, Bool.or_false, Bool.or_true, Bool.true_or, Bool.false_or, Bool.false_eq_true, false_and, true_and, if_false, if_true, Nat.add_assoc, Nat.reduceAdd] at hr
  refine R_i [] [] c34_ok rfl (by simp) ?_
  simp -implicitDefEqProofs (maxSteps := 2000000) only [c34, eop, w8, ↓reduceIte, s_ops0, s_seq, s_opsK, s_seqK_n, s_nil, s_cons, s_wopsK, s_putK, o_mv, o_as, o_cvi, v_cvi, v_part_f, v_atK, o_ixs, v_ixs, o_al, o_fa, v_fa_p, o_ld, v_ld_p, v_ldC, o_st, v_st_p, v_stCK, o_bd, v_agK, v_bd_n, v_bd_c, o_call, e_t, e_k, e_put, e_get, e_res, e_keep_n, e_keep_c, e_keep1_s, e_asg_i, St.init, enum, List.length_nil, List.length_cons, Option.getD_some, Nat.reduceEqDiff, Nat.reduceAdd, reduceCtorEq, true_and, Bool.false_eq_true, List.map_cons, List.map_nil, PV.leaves, List.flatMap_cons, List.flatMap_nil, List.append_nil, List.cons_append, List.nil_append, List.all_cons, List.all_nil, Bool.true_and, Bool.and_self, PV.cells, cellL, fillL, Nat.reduceBEq, Nat.reduceLeDiff, Nat.zero_le, Nat.le_refl, List.take_zero, List.drop_zero, List.drop_succ_cons, List.drop_nil, List.getElem?_cons_zero, kc_i, kc_s, rl_i, kc_p, m_lf, m_ag, m_n, m_c, m_all, st_b, d_n, d_c, ne_eq, not_false_eq_true, Nat.zero_add, Nat.add_zero]
  refine ⟨by omega, ?_⟩
  refine wcall_s h40 rfl rfl ?_
  simp -implicitDefEqProofs (maxSteps := 2000000) only [c34, hne, hn1, ↓reduceIte, s_skip, s_ops0, s_seq, s_cond, s_opsK, s_seqK_n, s_cnd, s_nil, s_cons, s_wopsK, s_putK, o_mv, o_as, o_bin, v_add, v_seql, o_ext, v_ext0, v_ext1, v_ext2, o_call, e_t, e_k, e_put, e_get, e_res, e_keep_n, e_keep_c, e_keep1_s, e_asg_b, e_asg_i, e_asg_s, Option.getD_some, Nat.reduceEqDiff, reduceCtorEq, Bool.false_eq_true, decide_eq_true_eq, St.clr, outV, ownsV, owns1, ownL, List.map_cons, List.map_nil, List.any_cons, List.any_nil, Bool.or_self, PV.leaves, List.flatMap_cons, List.flatMap_nil, List.append_nil, List.cons_append, List.nil_append, rl_i, ol_b, ol_i, ol_s, m_lf, m_tp, m_1l]
  refine wcall_s h1 rfl rfl ?_
  simp -implicitDefEqProofs (maxSteps := 2000000) only [c34, hn1, wb, Int.toNat_natCast, ↓reduceIte, s_cons, s_guard, s_wopsK, s_grd, q_call, q_mv, o_mv, o_call, e_t, e_k, e_put, e_get, Option.getD_some, Nat.reduceEqDiff, reduceCtorEq, cond_false, Bool.false_eq_true, St.clr, outV, ownsV, owns1, ownL, List.map_cons, List.map_nil, PV.leaves, List.flatMap_cons, List.flatMap_nil, List.append_nil, List.cons_append, List.nil_append, rl_i, ol_b, m_lf]
  refine wcall_s h2 rfl rfl ?_
  simp -implicitDefEqProofs (maxSteps := 2000000) only [c34, hn1, wb, Int.toNat_natCast, ↓reduceIte, s_skip, s_ops0, s_seq, s_cond, s_opsK, s_seqK_n, s_cnd, s_nil, s_cons, s_wopsK, s_putK, o_mv, o_pk, v_pk, o_call, e_t, e_k, e_put, e_get, e_res, e_keep_n, e_keep_c, e_keep1_s, Option.getD_some, Nat.reduceEqDiff, reduceCtorEq, Bool.false_eq_true, St.clr, outV, ownsV, owns1, ownL, List.map_cons, List.map_nil, PV.leaves, List.flatMap_cons, List.flatMap_nil, List.append_nil, List.cons_append, List.nil_append, rl_i, ol_b, m_lf]
  refine wcall_s h4 rfl rfl ?_
  simp -implicitDefEqProofs (maxSteps := 2000000) only [c34, hn1, wb, Int.toNat_natCast, ↓reduceIte, s_skip, s_ops0, s_seq, s_cond, s_opsK, s_seqK_n, s_cnd, s_nil, s_cons, s_wopsK, o_mv, o_call, e_t, e_k, e_put, e_get, e_res, e_keep_n, e_keep_c, e_keep1_s, Option.getD_some, Nat.reduceEqDiff, reduceCtorEq, Bool.false_eq_true, St.clr, outV, ownsV, owns1, ownL, List.map_cons, List.map_nil, PV.leaves, List.flatMap_cons, List.flatMap_nil, List.append_nil, List.cons_append, List.nil_append, rl_i, ol_b, m_lf]
  refine wcall_s h8 rfl rfl ?_
  simp -implicitDefEqProofs (maxSteps := 2000000) only [c34, hn1, wb, Int.toNat_natCast, ↓reduceIte, s_skip, s_ops0, s_seq, s_cond, s_opsK, s_seqK_n, s_cnd, s_nil, s_cons, s_wopsK, o_mv, o_call, e_t, e_k, e_put, e_get, e_res, e_keep_n, e_keep_c, e_keep1_s, Option.getD_some, Nat.reduceEqDiff, reduceCtorEq, Bool.false_eq_true, St.clr, outV, ownsV, owns1, ownL, List.map_cons, List.map_nil, PV.leaves, List.flatMap_cons, List.flatMap_nil, List.append_nil, List.cons_append, List.nil_append, rl_i, ol_b, m_lf]
  refine wcall_s h16 rfl rfl ?_
  simp -implicitDefEqProofs (maxSteps := 2000000) only [c34, hn1, wb, Int.toNat_natCast, ↓reduceIte, s_skip, s_ret, s_ops0, s_seq, s_cond, s_opsK, s_seqK_n, s_cnd, s_nil, s_cons, s_wopsK, s_putK, o_mv, o_as, v_part_t, o_ld, v_ld_p, v_ldC, o_st, v_st_p, v_stCK, e_t, e_put, e_get, e_res, e_keep_n, e_keep_c, e_keep1_s, e_asg_i, List.length_nil, List.length_cons, Option.getD_some, Nat.reduceEqDiff, Nat.reduceAdd, reduceCtorEq, true_and, and_true, Bool.false_eq_true, s_ret_r, s_retX, s_cells_n, t_tp, t_n, t_c, t_1l, t_1a, t_i, r_n, r_t, r_c, r_cons, r_cell, r_part_t, one_2, St.clr, outV, ownsV, owns1, ownL, List.append_nil, List.nil_append, List.all_cons, List.all_nil, Bool.and_true, Bool.true_and, Bool.and_self, PV.cells, cellL, fillL, Nat.le_refl, List.take_zero, List.drop_zero, List.take_succ_cons, List.drop_succ_cons, List.drop_nil, List.take_nil, Option.bind_some, ol_b, m_lf, st_b, d_n, d_c, Nat.zero_add]
  subst hr
  simp -implicitDefEqProofs (maxSteps := 2000000) only [Ins.c, and_self, ↓reduceIte, t_ln, t_lc, t_i, t_s, Bool.and_self]

set_option maxHeartbeats 4000000 in
theorem r34_1 (b : ByteArray) (p : Nat) (hb : b.size ≤ 140737488351232) (hp : p < b.size) (r : Ins × Int) (op v : Int) (nm : ByteArray) (nx : Bool) (eop : byteAt b (p : Int) = op) (hr : oneF false false true false false op b p = r)
    (h40 : R X Tryd.prog 40 [.lf (.int .i64 op)] [] (.tp [.lf (.int .i64 v), .lf (.str nm), .lf (.bool nx)]) []) (hne : ¬ nm = ⟨#[]⟩)
    (h1 : R X Tryd.prog 41 [.lf (.int .i64 v), .lf (.int .i64 1)] [] (.lf (.bool false)) []) (h2 : R X Tryd.prog 41 [.lf (.int .i64 v), .lf (.int .i64 2)] [] (.lf (.bool false)) []) (h4 : R X Tryd.prog 41 [.lf (.int .i64 v), .lf (.int .i64 4)] [] (.lf (.bool true)) [])
    (h8 : R X Tryd.prog 41 [.lf (.int .i64 v), .lf (.int .i64 8)] [] (.lf (.bool false)) []) (h16 : R X Tryd.prog 41 [.lf (.int .i64 v), .lf (.int .i64 16)] [] (.lf (.bool false)) []) :
    R X Tryd.prog 34 [.lf (.str b), .lf (.int .i64 p)] [] (.tp [.ag r.1.c, .lf (.int .i64 r.2)]) [] := by
  have o0 := byteAt_0 b (p : Int)
  have o1 := byteAt_1 b (p : Int)
  rw [eop] at o0 o1
  have w8 : IntKind.i64.wrap op = op := w64 (by omega) (by omega)
  have hn1 : IntKind.i64.wrap ((p : Int) + 1) = ((p + 1 : Nat) : Int) := by rw [w64 (by omega) (by omega)]; omega
  have wb : ∀ q : Int, IntKind.i64.wrap (byteAt b q) = byteAt b q := fun q => w64 (by have := byteAt_0 b q; omega) (by have := byteAt_1 b q; omega)
  have w1_1 : IntKind.i64.wrap (((p + 1 : Nat) : Int) + 1) = ((p + 2 : Nat) : Int) := by rw [w64 (by omega) (by omega)]; omega
  simp only [oneF, Bool.or_self, Bool.or_false, Bool.or_true, Bool.true_or, Bool.false_or, Bool.false_eq_true, false_and, true_and, if_false, if_true, Nat.add_assoc, Nat.reduceAdd] at hr
  refine R_i [] [] c34_ok rfl (by simp) ?_
  simp -implicitDefEqProofs (maxSteps := 2000000) only [c34, eop, w8, ↓reduceIte, s_ops0, s_seq, s_opsK, s_seqK_n, s_nil, s_cons, s_wopsK, s_putK, o_mv, o_as, o_cvi, v_cvi, v_part_f, v_atK, o_ixs, v_ixs, o_al, o_fa, v_fa_p, o_ld, v_ld_p, v_ldC, o_st, v_st_p, v_stCK, o_bd, v_agK, v_bd_n, v_bd_c, o_call, e_t, e_k, e_put, e_get, e_res, e_keep_n, e_keep_c, e_keep1_s, e_asg_i, St.init, enum, List.length_nil, List.length_cons, Option.getD_some, Nat.reduceEqDiff, Nat.reduceAdd, reduceCtorEq, true_and, Bool.false_eq_true, List.map_cons, List.map_nil, PV.leaves, List.flatMap_cons, List.flatMap_nil, List.append_nil, List.cons_append, List.nil_append, List.all_cons, List.all_nil, Bool.true_and, Bool.and_self, PV.cells, cellL, fillL, Nat.reduceBEq, Nat.reduceLeDiff, Nat.zero_le, Nat.le_refl, List.take_zero, List.drop_zero, List.drop_succ_cons, List.drop_nil, List.getElem?_cons_zero, kc_i, kc_s, rl_i, kc_p, m_lf, m_ag, m_n, m_c, m_all, st_b, d_n, d_c, ne_eq, not_false_eq_true, Nat.zero_add, Nat.add_zero]
  refine ⟨by omega, ?_⟩
  refine wcall_s h40 rfl rfl ?_
  simp -implicitDefEqProofs (maxSteps := 2000000) only [c34, hne, hn1, ↓reduceIte, s_skip, s_ops0, s_seq, s_cond, s_opsK, s_seqK_n, s_cnd, s_nil, s_cons, s_wopsK, s_putK, o_mv, o_as, o_bin, v_add, v_seql, o_ext, v_ext0, v_ext1, v_ext2, o_call, e_t, e_k, e_put, e_get, e_res, e_keep_n, e_keep_c, e_keep1_s, e_asg_b, e_asg_i, e_asg_s, Option.getD_some, Nat.reduceEqDiff, reduceCtorEq, Bool.false_eq_true, decide_eq_true_eq, St.clr, outV, ownsV, owns1, ownL, List.map_cons, List.map_nil, List.any_cons, List.any_nil, Bool.or_self, PV.leaves, List.flatMap_cons, List.flatMap_nil, List.append_nil, List.cons_append, List.nil_append, rl_i, ol_b, ol_i, ol_s, m_lf, m_tp, m_1l]
  refine wcall_s h1 rfl rfl ?_
  simp -implicitDefEqProofs (maxSteps := 2000000) only [c34, hn1, wb, w1_1, Int.toNat_natCast, ↓reduceIte, s_cons, s_guard, s_wopsK, s_grd, q_call, q_mv, o_mv, o_call, e_t, e_k, e_put, e_get, Option.getD_some, Nat.reduceEqDiff, reduceCtorEq, cond_false, Bool.false_eq_true, St.clr, outV, ownsV, owns1, ownL, List.map_cons, List.map_nil, PV.leaves, List.flatMap_cons, List.flatMap_nil, List.append_nil, List.cons_append, List.nil_append, rl_i, ol_b, m_lf]
  refine wcall_s h2 rfl rfl ?_
  simp -implicitDefEqProofs (maxSteps := 2000000) only [c34, hn1, wb, w1_1, Int.toNat_natCast, ↓reduceIte, s_skip, s_ops0, s_seq, s_cond, s_opsK, s_seqK_n, s_cnd, s_nil, s_cons, s_wopsK, s_putK, o_mv, o_pk, v_pk, o_call, e_t, e_k, e_put, e_get, e_res, e_keep_n, e_keep_c, e_keep1_s, Option.getD_some, Nat.reduceEqDiff, reduceCtorEq, Bool.false_eq_true, St.clr, outV, ownsV, owns1, ownL, List.map_cons, List.map_nil, PV.leaves, List.flatMap_cons, List.flatMap_nil, List.append_nil, List.cons_append, List.nil_append, rl_i, ol_b, m_lf]
  refine wcall_s h4 rfl rfl ?_
  simp -implicitDefEqProofs (maxSteps := 2000000) only [c34, hn1, wb, w1_1, Int.toNat_natCast, ↓reduceIte, s_skip, s_ret, s_ops0, s_seq, s_cond, s_opsK, s_seqK_n, s_seqK_r, s_cnd, s_nil, s_cons, s_wopsK, s_putK, o_mv, o_as, o_bin, v_add, v_gtr, o_cvi, v_cvi, v_part_t, o_ixs, v_ixs, o_fa, v_fa_p, o_ld, v_ld_p, v_ldC, o_st, v_st_p, v_stCK, o_lns, v_lns, o_call, e_t, e_k, e_put, e_get, e_res, e_keep_n, e_keep_c, e_keep1_s, e_asg_i, List.length_nil, List.length_cons, Option.getD_some, Nat.reduceEqDiff, Nat.reduceAdd, reduceCtorEq, true_and, and_true, Bool.false_eq_true, decide_eq_true_eq, s_ret_r, s_retX, s_cells_n, t_tp, t_n, t_c, t_1l, t_1a, t_i, r_n, r_t, r_c, r_cons, r_cell, r_part_t, one_2, St.clr, outV, ownsV, owns1, ownL, List.map_cons, List.map_nil, PV.leaves, List.flatMap_cons, List.flatMap_nil, List.append_nil, List.cons_append, List.nil_append, List.all_cons, List.all_nil, Bool.and_true, Bool.true_and, Bool.and_self, PV.cells, cellL, fillL, Nat.reduceLeDiff, Nat.le_refl, List.take_zero, List.drop_zero, List.take_succ_cons, List.drop_succ_cons, List.drop_nil, List.take_nil, Option.bind_some, rl_i, ol_b, m_lf, st_b, st_i1, d_n, d_c, Int.reduceNeg, Nat.zero_add]
  with_reducible refine ite_pr (fun h => ?_) (fun h => ?_)
  · rw [if_pos (by omega)] at hr
    subst hr
    simp -implicitDefEqProofs (maxSteps := 2000000) only [Ins.c, and_self, ↓reduceIte, t_ln, t_lc, t_i, t_s, Bool.and_self, Int.reduceNeg]
  rw [if_neg (by omega)] at hr
  refine ⟨by omega, ?_⟩
  refine wcall_s h8 rfl rfl ?_
  simp -implicitDefEqProofs (maxSteps := 2000000) only [c34, hn1, wb, w1_1, Int.toNat_natCast, ↓reduceIte, s_skip, s_ops0, s_seq, s_cond, s_opsK, s_seqK_n, s_cnd, s_nil, s_cons, s_wopsK, o_mv, o_call, e_t, e_k, e_put, e_get, e_res, e_keep_n, e_keep_c, e_keep1_s, Option.getD_some, Nat.reduceEqDiff, reduceCtorEq, Bool.false_eq_true, St.clr, outV, ownsV, owns1, ownL, List.map_cons, List.map_nil, PV.leaves, List.flatMap_cons, List.flatMap_nil, List.append_nil, List.cons_append, List.nil_append, rl_i, ol_b, m_lf]
  refine wcall_s h16 rfl rfl ?_
  simp -implicitDefEqProofs (maxSteps := 2000000) only [c34, hn1, wb, w1_1, Int.toNat_natCast, ↓reduceIte, s_skip, s_ret, s_ops0, s_seq, s_cond, s_opsK, s_seqK_n, s_cnd, s_nil, s_cons, s_wopsK, s_putK, o_mv, o_as, v_part_t, o_ld, v_ld_p, v_ldC, o_st, v_st_p, v_stCK, e_t, e_put, e_get, e_res, e_keep_n, e_keep_c, e_keep1_s, e_asg_i, List.length_nil, List.length_cons, Option.getD_some, Nat.reduceEqDiff, Nat.reduceAdd, reduceCtorEq, true_and, and_true, Bool.false_eq_true, s_ret_r, s_retX, s_cells_n, t_tp, t_n, t_c, t_1l, t_1a, t_i, r_n, r_t, r_c, r_cons, r_cell, r_part_t, one_2, St.clr, outV, ownsV, owns1, ownL, List.append_nil, List.nil_append, List.all_cons, List.all_nil, Bool.and_true, Bool.true_and, Bool.and_self, PV.cells, cellL, fillL, Nat.le_refl, List.take_zero, List.drop_zero, List.take_succ_cons, List.drop_succ_cons, List.drop_nil, List.take_nil, Option.bind_some, ol_b, m_lf, st_b, d_n, d_c, Nat.zero_add]
  subst hr
  simp -implicitDefEqProofs (maxSteps := 2000000) only [Ins.c, and_self, ↓reduceIte, t_ln, t_lc, t_i, t_s, Bool.and_self]

set_option maxHeartbeats 4000000 in
theorem r34_2 (b : ByteArray) (p : Nat) (hb : b.size ≤ 140737488351232) (hp : p < b.size) (r : Ins × Int) (op v : Int) (nm : ByteArray) (nx : Bool) (eop : byteAt b (p : Int) = op) (hr : oneF false false false false true op b p = r)
    (h40 : R X Tryd.prog 40 [.lf (.int .i64 op)] [] (.tp [.lf (.int .i64 v), .lf (.str nm), .lf (.bool nx)]) []) (hne : ¬ nm = ⟨#[]⟩)
    (h1 : R X Tryd.prog 41 [.lf (.int .i64 v), .lf (.int .i64 1)] [] (.lf (.bool false)) []) (h2 : R X Tryd.prog 41 [.lf (.int .i64 v), .lf (.int .i64 2)] [] (.lf (.bool false)) []) (h4 : R X Tryd.prog 41 [.lf (.int .i64 v), .lf (.int .i64 4)] [] (.lf (.bool false)) [])
    (h8 : R X Tryd.prog 41 [.lf (.int .i64 v), .lf (.int .i64 8)] [] (.lf (.bool false)) []) (h16 : R X Tryd.prog 41 [.lf (.int .i64 v), .lf (.int .i64 16)] [] (.lf (.bool true)) []) :
    R X Tryd.prog 34 [.lf (.str b), .lf (.int .i64 p)] [] (.tp [.ag r.1.c, .lf (.int .i64 r.2)]) [] := by
  have o0 := byteAt_0 b (p : Int)
  have o1 := byteAt_1 b (p : Int)
  rw [eop] at o0 o1
  have w8 : IntKind.i64.wrap op = op := w64 (by omega) (by omega)
  have hn1 : IntKind.i64.wrap ((p : Int) + 1) = ((p + 1 : Nat) : Int) := by rw [w64 (by omega) (by omega)]; omega
  have wb : ∀ q : Int, IntKind.i64.wrap (byteAt b q) = byteAt b q := fun q => w64 (by have := byteAt_0 b q; omega) (by have := byteAt_1 b q; omega)
  have w1_32 : IntKind.i64.wrap (((p + 1 : Nat) : Int) + 32) = ((p + 33 : Nat) : Int) := by rw [w64 (by omega) (by omega)]; omega
  simp only [oneF, Bool.or_self, Bool.or_false, Bool.or_true, Bool.true_or, Bool.false_or, Bool.false_eq_true, false_and, true_and, if_false, if_true, Nat.add_assoc, Nat.reduceAdd] at hr
  refine R_i [] [] c34_ok rfl (by simp) ?_
  simp -implicitDefEqProofs (maxSteps := 2000000) only [c34, eop, w8, ↓reduceIte, s_ops0, s_seq, s_opsK, s_seqK_n, s_nil, s_cons, s_wopsK, s_putK, o_mv, o_as, o_cvi, v_cvi, v_part_f, v_atK, o_ixs, v_ixs, o_al, o_fa, v_fa_p, o_ld, v_ld_p, v_ldC, o_st, v_st_p, v_stCK, o_bd, v_agK, v_bd_n, v_bd_c, o_call, e_t, e_k, e_put, e_get, e_res, e_keep_n, e_keep_c, e_keep1_s, e_asg_i, St.init, enum, List.length_nil, List.length_cons, Option.getD_some, Nat.reduceEqDiff, Nat.reduceAdd, reduceCtorEq, true_and, Bool.false_eq_true, List.map_cons, List.map_nil, PV.leaves, List.flatMap_cons, List.flatMap_nil, List.append_nil, List.cons_append, List.nil_append, List.all_cons, List.all_nil, Bool.true_and, Bool.and_self, PV.cells, cellL, fillL, Nat.reduceBEq, Nat.reduceLeDiff, Nat.zero_le, Nat.le_refl, List.take_zero, List.drop_zero, List.drop_succ_cons, List.drop_nil, List.getElem?_cons_zero, kc_i, kc_s, rl_i, kc_p, m_lf, m_ag, m_n, m_c, m_all, st_b, d_n, d_c, ne_eq, not_false_eq_true, Nat.zero_add, Nat.add_zero]
  refine ⟨by omega, ?_⟩
  refine wcall_s h40 rfl rfl ?_
  simp -implicitDefEqProofs (maxSteps := 2000000) only [c34, hne, hn1, ↓reduceIte, s_skip, s_ops0, s_seq, s_cond, s_opsK, s_seqK_n, s_cnd, s_nil, s_cons, s_wopsK, s_putK, o_mv, o_as, o_bin, v_add, v_seql, o_ext, v_ext0, v_ext1, v_ext2, o_call, e_t, e_k, e_put, e_get, e_res, e_keep_n, e_keep_c, e_keep1_s, e_asg_b, e_asg_i, e_asg_s, Option.getD_some, Nat.reduceEqDiff, reduceCtorEq, Bool.false_eq_true, decide_eq_true_eq, St.clr, outV, ownsV, owns1, ownL, List.map_cons, List.map_nil, List.any_cons, List.any_nil, Bool.or_self, PV.leaves, List.flatMap_cons, List.flatMap_nil, List.append_nil, List.cons_append, List.nil_append, rl_i, ol_b, ol_i, ol_s, m_lf, m_tp, m_1l]
  refine wcall_s h1 rfl rfl ?_
  simp -implicitDefEqProofs (maxSteps := 2000000) only [c34, hn1, wb, w1_32, Int.toNat_natCast, ↓reduceIte, s_cons, s_guard, s_wopsK, s_grd, q_call, q_mv, o_mv, o_call, e_t, e_k, e_put, e_get, Option.getD_some, Nat.reduceEqDiff, reduceCtorEq, cond_false, Bool.false_eq_true, St.clr, outV, ownsV, owns1, ownL, List.map_cons, List.map_nil, PV.leaves, List.flatMap_cons, List.flatMap_nil, List.append_nil, List.cons_append, List.nil_append, rl_i, ol_b, m_lf]
  refine wcall_s h2 rfl rfl ?_
  simp -implicitDefEqProofs (maxSteps := 2000000) only [c34, hn1, wb, w1_32, Int.toNat_natCast, ↓reduceIte, s_skip, s_ops0, s_seq, s_cond, s_opsK, s_seqK_n, s_cnd, s_nil, s_cons, s_wopsK, s_putK, o_mv, o_pk, v_pk, o_call, e_t, e_k, e_put, e_get, e_res, e_keep_n, e_keep_c, e_keep1_s, Option.getD_some, Nat.reduceEqDiff, reduceCtorEq, Bool.false_eq_true, St.clr, outV, ownsV, owns1, ownL, List.map_cons, List.map_nil, PV.leaves, List.flatMap_cons, List.flatMap_nil, List.append_nil, List.cons_append, List.nil_append, rl_i, ol_b, m_lf]
  refine wcall_s h4 rfl rfl ?_
  simp -implicitDefEqProofs (maxSteps := 2000000) only [c34, hn1, wb, w1_32, Int.toNat_natCast, ↓reduceIte, s_skip, s_ops0, s_seq, s_cond, s_opsK, s_seqK_n, s_cnd, s_nil, s_cons, s_wopsK, o_mv, o_call, e_t, e_k, e_put, e_get, e_res, e_keep_n, e_keep_c, e_keep1_s, Option.getD_some, Nat.reduceEqDiff, reduceCtorEq, Bool.false_eq_true, St.clr, outV, ownsV, owns1, ownL, List.map_cons, List.map_nil, PV.leaves, List.flatMap_cons, List.flatMap_nil, List.append_nil, List.cons_append, List.nil_append, rl_i, ol_b, m_lf]
  refine wcall_s h8 rfl rfl ?_
  simp -implicitDefEqProofs (maxSteps := 2000000) only [c34, hn1, wb, w1_32, Int.toNat_natCast, ↓reduceIte, s_skip, s_ops0, s_seq, s_cond, s_opsK, s_seqK_n, s_cnd, s_nil, s_cons, s_wopsK, o_mv, o_call, e_t, e_k, e_put, e_get, e_res, e_keep_n, e_keep_c, e_keep1_s, Option.getD_some, Nat.reduceEqDiff, reduceCtorEq, Bool.false_eq_true, St.clr, outV, ownsV, owns1, ownL, List.map_cons, List.map_nil, PV.leaves, List.flatMap_cons, List.flatMap_nil, List.append_nil, List.cons_append, List.nil_append, rl_i, ol_b, m_lf]
  refine wcall_s h16 rfl rfl ?_
  simp -implicitDefEqProofs (maxSteps := 2000000) only [c34, hn1, wb, w1_32, Int.toNat_natCast, ↓reduceIte, s_skip, s_ret, s_ops0, s_seq, s_cond, s_block, s_loop, s_opsK, s_seqK_n, s_seqK_r, s_cnd, s_nil, s_cons, s_wopsK, s_putK, o_mv, o_as, o_bin, v_add, v_gtr, v_part_t, o_ld, v_ld_p, v_ldC, o_st, v_st_p, v_stCK, o_lns, v_lns, e_t, e_k, e_put, e_get, e_res, e_keep_n, e_keep_c, e_keep1_s, e_asg_i, List.length_nil, List.length_cons, Option.getD_some, Nat.reduceEqDiff, Nat.reduceAdd, reduceCtorEq, true_and, and_true, Bool.false_eq_true, decide_eq_true_eq, s_ret_r, s_retX, s_cells_n, t_tp, t_n, t_c, t_1l, t_1a, t_i, r_n, r_t, r_c, r_cons, r_cell, r_part_t, one_2, St.clr, outV, ownsV, owns1, ownL, List.append_nil, List.nil_append, List.all_cons, List.all_nil, Bool.and_true, Bool.true_and, Bool.and_self, PV.cells, cellL, fillL, Nat.le_refl, List.take_zero, List.drop_zero, List.take_succ_cons, List.drop_succ_cons, List.drop_nil, List.take_nil, Option.bind_some, ol_b, m_lf, e_head, e_headK, kC_n, kC_c, pO_n, pO_p, pO_i, pO_s, st_b, d_n, d_c, List.range_zero, Int.reduceNeg, Nat.zero_add]
  with_reducible refine ite_pr (fun h => ?_) (fun h => ?_)
  · rw [if_pos (by omega)] at hr
    subst hr
    simp -implicitDefEqProofs (maxSteps := 2000000) only [Ins.c, and_self, ↓reduceIte, t_ln, t_lc, t_i, t_s, Bool.and_self, Int.reduceNeg]
  rw [if_neg (by omega)] at hr
  exact r34_set b (p + 1) hb (by omega) _ _ _ _ _ r 256 0 0 0 0 0 rfl (by simpa only [Nat.add_assoc, Nat.reduceAdd] using hr)

set_option maxHeartbeats 4000000 in
theorem r34_3 (b : ByteArray) (p : Nat) (hb : b.size ≤ 140737488351232) (hp : p < b.size) (r : Ins × Int) (op v : Int) (nm : ByteArray) (nx : Bool) (eop : byteAt b (p : Int) = op) (hr : oneF true false false false false op b p = r)
    (h40 : R X Tryd.prog 40 [.lf (.int .i64 op)] [] (.tp [.lf (.int .i64 v), .lf (.str nm), .lf (.bool nx)]) []) (hne : ¬ nm = ⟨#[]⟩)
    (h1 : R X Tryd.prog 41 [.lf (.int .i64 v), .lf (.int .i64 1)] [] (.lf (.bool true)) []) (h2 : R X Tryd.prog 41 [.lf (.int .i64 v), .lf (.int .i64 2)] [] (.lf (.bool false)) []) (h4 : R X Tryd.prog 41 [.lf (.int .i64 v), .lf (.int .i64 4)] [] (.lf (.bool false)) [])
    (h8 : R X Tryd.prog 41 [.lf (.int .i64 v), .lf (.int .i64 8)] [] (.lf (.bool false)) []) (h16 : R X Tryd.prog 41 [.lf (.int .i64 v), .lf (.int .i64 16)] [] (.lf (.bool false)) []) :
    R X Tryd.prog 34 [.lf (.str b), .lf (.int .i64 p)] [] (.tp [.ag r.1.c, .lf (.int .i64 r.2)]) [] := by
  have o0 := byteAt_0 b (p : Int)
  have o1 := byteAt_1 b (p : Int)
  rw [eop] at o0 o1
  have w8 : IntKind.i64.wrap op = op := w64 (by omega) (by omega)
  have hn1 : IntKind.i64.wrap ((p : Int) + 1) = ((p + 1 : Nat) : Int) := by rw [w64 (by omega) (by omega)]; omega
  have wb : ∀ q : Int, IntKind.i64.wrap (byteAt b q) = byteAt b q := fun q => w64 (by have := byteAt_0 b q; omega) (by have := byteAt_1 b q; omega)
  have w1_2 : IntKind.i64.wrap (((p + 1 : Nat) : Int) + 2) = ((p + 3 : Nat) : Int) := by rw [w64 (by omega) (by omega)]; omega
  simp only [oneF, Bool.or_self, Bool.or_false, Bool.or_true, Bool.true_or, Bool.false_or, Bool.false_eq_true, false_and, true_and, if_false, if_true, Nat.add_assoc, Nat.reduceAdd] at hr
  refine R_i [] [] c34_ok rfl (by simp) ?_
  simp -implicitDefEqProofs (maxSteps := 2000000) only [c34, eop, w8, ↓reduceIte, s_ops0, s_seq, s_opsK, s_seqK_n, s_nil, s_cons, s_wopsK, s_putK, o_mv, o_as, o_cvi, v_cvi, v_part_f, v_atK, o_ixs, v_ixs, o_al, o_fa, v_fa_p, o_ld, v_ld_p, v_ldC, o_st, v_st_p, v_stCK, o_bd, v_agK, v_bd_n, v_bd_c, o_call, e_t, e_k, e_put, e_get, e_res, e_keep_n, e_keep_c, e_keep1_s, e_asg_i, St.init, enum, List.length_nil, List.length_cons, Option.getD_some, Nat.reduceEqDiff, Nat.reduceAdd, reduceCtorEq, true_and, Bool.false_eq_true, List.map_cons, List.map_nil, PV.leaves, List.flatMap_cons, List.flatMap_nil, List.append_nil, List.cons_append, List.nil_append, List.all_cons, List.all_nil, Bool.true_and, Bool.and_self, PV.cells, cellL, fillL, Nat.reduceBEq, Nat.reduceLeDiff, Nat.zero_le, Nat.le_refl, List.take_zero, List.drop_zero, List.drop_succ_cons, List.drop_nil, List.getElem?_cons_zero, kc_i, kc_s, rl_i, kc_p, m_lf, m_ag, m_n, m_c, m_all, st_b, d_n, d_c, ne_eq, not_false_eq_true, Nat.zero_add, Nat.add_zero]
  refine ⟨by omega, ?_⟩
  refine wcall_s h40 rfl rfl ?_
  simp -implicitDefEqProofs (maxSteps := 2000000) only [c34, hne, hn1, ↓reduceIte, s_skip, s_ops0, s_seq, s_cond, s_opsK, s_seqK_n, s_cnd, s_nil, s_cons, s_wopsK, s_putK, o_mv, o_as, o_bin, v_add, v_seql, o_ext, v_ext0, v_ext1, v_ext2, o_call, e_t, e_k, e_put, e_get, e_res, e_keep_n, e_keep_c, e_keep1_s, e_asg_b, e_asg_i, e_asg_s, Option.getD_some, Nat.reduceEqDiff, reduceCtorEq, Bool.false_eq_true, decide_eq_true_eq, St.clr, outV, ownsV, owns1, ownL, List.map_cons, List.map_nil, List.any_cons, List.any_nil, Bool.or_self, PV.leaves, List.flatMap_cons, List.flatMap_nil, List.append_nil, List.cons_append, List.nil_append, rl_i, ol_b, ol_i, ol_s, m_lf, m_tp, m_1l]
  refine wcall_s h1 rfl rfl ?_
  simp -implicitDefEqProofs (maxSteps := 2000000) only [c34, hn1, wb, w1_2, Int.toNat_natCast, ↓reduceIte, s_skip, s_ret, s_ops0, s_seq, s_cond, s_opsK, s_seqK_n, s_seqK_r, s_cnd, s_nil, s_cons, s_guard, s_wopsK, s_putK, s_grd, o_mv, o_as, o_pk, v_pk, o_bin, v_add, v_gtr, v_part_t, o_ld, v_ld_p, v_ldC, o_st, v_st_p, v_stCK, o_lns, v_lns, o_call, e_t, e_k, e_put, e_get, e_res, e_keep_n, e_keep_c, e_keep1_s, e_asg_i, List.length_nil, List.length_cons, Option.getD_some, Nat.reduceEqDiff, Nat.reduceAdd, reduceCtorEq, true_and, and_true, Bool.not_false, Bool.true_eq_false, Bool.false_eq_true, decide_eq_true_eq, s_ret_r, s_retX, s_cells_n, t_tp, t_n, t_c, t_1l, t_1a, t_i, r_n, r_t, r_c, r_cons, r_cell, r_part_t, one_2, St.clr, outV, ownsV, owns1, ownL, List.map_cons, List.map_nil, PV.leaves, List.flatMap_cons, List.flatMap_nil, List.append_nil, List.cons_append, List.nil_append, List.all_cons, List.all_nil, Bool.and_true, Bool.true_and, Bool.and_self, PV.cells, cellL, fillL, Nat.le_refl, List.take_zero, List.drop_zero, List.take_succ_cons, List.drop_succ_cons, List.drop_nil, List.take_nil, Option.bind_some, rl_i, rl_s, ol_b, m_lf, st_b, d_n, d_c, Int.reduceNeg, Nat.zero_add]
  with_reducible refine ite_pr (fun h => ?_) (fun h => ?_)
  · rw [if_pos (by omega)] at hr
    subst hr
    simp -implicitDefEqProofs (maxSteps := 2000000) only [Ins.c, and_self, ↓reduceIte, t_ln, t_lc, t_i, t_s, Bool.and_self, Int.reduceNeg]
  rw [if_neg (by omega)] at hr
  refine wcall_s (r52 (X := X) b (p + 1) (by omega) hb) rfl rfl ?_
  simp -implicitDefEqProofs (maxSteps := 2000000) only [c34, hn1, wb, w1_2, Int.toNat_natCast, ↓reduceIte, s_ops0, s_seq, s_opsK, s_seqK_n, s_nil, s_cons, s_wopsK, s_putK, o_mv, o_as, o_bin, v_add, o_fa, v_fa_p, o_st, v_st_p, v_stCK, o_call, e_t, e_k, e_put, e_get, e_res, e_keep_n, e_keep_c, e_keep1_s, e_asg_i, List.length_nil, List.length_cons, Option.getD_some, Nat.reduceEqDiff, Nat.reduceAdd, reduceCtorEq, true_and, Bool.false_eq_true, St.clr, outV, ownsV, owns1, ownL, List.map_cons, List.map_nil, PV.leaves, List.flatMap_cons, List.flatMap_nil, List.append_nil, List.cons_append, List.nil_append, List.all_cons, List.all_nil, Bool.true_and, Bool.and_self, PV.cells, cellL, fillL, Nat.reduceLeDiff, List.take_zero, List.drop_zero, List.take_succ_cons, List.drop_succ_cons, rl_i, ol_i, m_lf, st_i1, d_n, d_c, Nat.zero_add]
  refine wcall_s h4 rfl rfl ?_
  simp -implicitDefEqProofs (maxSteps := 2000000) only [c34, hn1, wb, w1_2, Int.toNat_natCast, ↓reduceIte, s_skip, s_ops0, s_seq, s_cond, s_opsK, s_seqK_n, s_cnd, s_nil, s_cons, s_wopsK, o_mv, o_call, e_t, e_k, e_put, e_get, e_res, e_keep_n, e_keep_c, e_keep1_s, Option.getD_some, Nat.reduceEqDiff, reduceCtorEq, Bool.false_eq_true, St.clr, outV, ownsV, owns1, ownL, List.map_cons, List.map_nil, PV.leaves, List.flatMap_cons, List.flatMap_nil, List.append_nil, List.cons_append, List.nil_append, rl_i, ol_b, m_lf]
  refine wcall_s h8 rfl rfl ?_
  simp -implicitDefEqProofs (maxSteps := 2000000) only [c34, hn1, wb, w1_2, Int.toNat_natCast, ↓reduceIte, s_skip, s_ops0, s_seq, s_cond, s_opsK, s_seqK_n, s_cnd, s_nil, s_cons, s_wopsK, o_mv, o_call, e_t, e_k, e_put, e_get, e_res, e_keep_n, e_keep_c, e_keep1_s, Option.getD_some, Nat.reduceEqDiff, reduceCtorEq, Bool.false_eq_true, St.clr, outV, ownsV, owns1, ownL, List.map_cons, List.map_nil, PV.leaves, List.flatMap_cons, List.flatMap_nil, List.append_nil, List.cons_append, List.nil_append, rl_i, ol_b, m_lf]
  refine wcall_s h16 rfl rfl ?_
  simp -implicitDefEqProofs (maxSteps := 2000000) only [c34, hn1, wb, w1_2, Int.toNat_natCast, ↓reduceIte, s_skip, s_ret, s_ops0, s_seq, s_cond, s_opsK, s_seqK_n, s_cnd, s_nil, s_cons, s_wopsK, s_putK, o_mv, o_as, v_part_t, o_ld, v_ld_p, v_ldC, o_st, v_st_p, v_stCK, e_t, e_put, e_get, e_res, e_keep_n, e_keep_c, e_keep1_s, e_asg_i, List.length_nil, List.length_cons, Option.getD_some, Nat.reduceEqDiff, Nat.reduceAdd, reduceCtorEq, true_and, and_true, Bool.false_eq_true, s_ret_r, s_retX, s_cells_n, t_tp, t_n, t_c, t_1l, t_1a, t_i, r_n, r_t, r_c, r_cons, r_cell, r_part_t, one_2, St.clr, outV, ownsV, owns1, ownL, List.append_nil, List.nil_append, List.all_cons, List.all_nil, Bool.and_true, Bool.true_and, Bool.and_self, PV.cells, cellL, fillL, Nat.le_refl, List.take_zero, List.drop_zero, List.take_succ_cons, List.drop_succ_cons, List.drop_nil, List.take_nil, Option.bind_some, ol_b, m_lf, st_b, d_n, d_c, Nat.zero_add]
  subst hr
  simp -implicitDefEqProofs (maxSteps := 2000000) only [Ins.c, and_self, ↓reduceIte, t_ln, t_lc, t_i, t_s, Bool.and_self]

set_option maxHeartbeats 4000000 in
theorem r34_4 (b : ByteArray) (p : Nat) (hb : b.size ≤ 140737488351232) (hp : p < b.size) (r : Ins × Int) (op v : Int) (nm : ByteArray) (nx : Bool) (eop : byteAt b (p : Int) = op) (hr : oneF true false true false false op b p = r)
    (h40 : R X Tryd.prog 40 [.lf (.int .i64 op)] [] (.tp [.lf (.int .i64 v), .lf (.str nm), .lf (.bool nx)]) []) (hne : ¬ nm = ⟨#[]⟩)
    (h1 : R X Tryd.prog 41 [.lf (.int .i64 v), .lf (.int .i64 1)] [] (.lf (.bool true)) []) (h2 : R X Tryd.prog 41 [.lf (.int .i64 v), .lf (.int .i64 2)] [] (.lf (.bool false)) []) (h4 : R X Tryd.prog 41 [.lf (.int .i64 v), .lf (.int .i64 4)] [] (.lf (.bool true)) [])
    (h8 : R X Tryd.prog 41 [.lf (.int .i64 v), .lf (.int .i64 8)] [] (.lf (.bool false)) []) (h16 : R X Tryd.prog 41 [.lf (.int .i64 v), .lf (.int .i64 16)] [] (.lf (.bool false)) []) :
    R X Tryd.prog 34 [.lf (.str b), .lf (.int .i64 p)] [] (.tp [.ag r.1.c, .lf (.int .i64 r.2)]) [] := by
  have o0 := byteAt_0 b (p : Int)
  have o1 := byteAt_1 b (p : Int)
  rw [eop] at o0 o1
  have w8 : IntKind.i64.wrap op = op := w64 (by omega) (by omega)
  have hn1 : IntKind.i64.wrap ((p : Int) + 1) = ((p + 1 : Nat) : Int) := by rw [w64 (by omega) (by omega)]; omega
  have wb : ∀ q : Int, IntKind.i64.wrap (byteAt b q) = byteAt b q := fun q => w64 (by have := byteAt_0 b q; omega) (by have := byteAt_1 b q; omega)
  have w1_2 : IntKind.i64.wrap (((p + 1 : Nat) : Int) + 2) = ((p + 3 : Nat) : Int) := by rw [w64 (by omega) (by omega)]; omega
  have w3_1 : IntKind.i64.wrap (((p + 3 : Nat) : Int) + 1) = ((p + 4 : Nat) : Int) := by rw [w64 (by omega) (by omega)]; omega
  simp only [oneF, Bool.or_self, Bool.or_false, Bool.or_true, Bool.true_or, Bool.false_or, Bool.false_eq_true, false_and, true_and, if_false, if_true, Nat.add_assoc, Nat.reduceAdd] at hr
  refine R_i [] [] c34_ok rfl (by simp) ?_
  simp -implicitDefEqProofs (maxSteps := 2000000) only [c34, eop, w8, ↓reduceIte, s_ops0, s_seq, s_opsK, s_seqK_n, s_nil, s_cons, s_wopsK, s_putK, o_mv, o_as, o_cvi, v_cvi, v_part_f, v_atK, o_ixs, v_ixs, o_al, o_fa, v_fa_p, o_ld, v_ld_p, v_ldC, o_st, v_st_p, v_stCK, o_bd, v_agK, v_bd_n, v_bd_c, o_call, e_t, e_k, e_put, e_get, e_res, e_keep_n, e_keep_c, e_keep1_s, e_asg_i, St.init, enum, List.length_nil, List.length_cons, Option.getD_some, Nat.reduceEqDiff, Nat.reduceAdd, reduceCtorEq, true_and, Bool.false_eq_true, List.map_cons, List.map_nil, PV.leaves, List.flatMap_cons, List.flatMap_nil, List.append_nil, List.cons_append, List.nil_append, List.all_cons, List.all_nil, Bool.true_and, Bool.and_self, PV.cells, cellL, fillL, Nat.reduceBEq, Nat.reduceLeDiff, Nat.zero_le, Nat.le_refl, List.take_zero, List.drop_zero, List.drop_succ_cons, List.drop_nil, List.getElem?_cons_zero, kc_i, kc_s, rl_i, kc_p, m_lf, m_ag, m_n, m_c, m_all, st_b, d_n, d_c, ne_eq, not_false_eq_true, Nat.zero_add, Nat.add_zero]
  refine ⟨by omega, ?_⟩
  refine wcall_s h40 rfl rfl ?_
  simp -implicitDefEqProofs (maxSteps := 2000000) only [c34, hne, hn1, ↓reduceIte, s_skip, s_ops0, s_seq, s_cond, s_opsK, s_seqK_n, s_cnd, s_nil, s_cons, s_wopsK, s_putK, o_mv, o_as, o_bin, v_add, v_seql, o_ext, v_ext0, v_ext1, v_ext2, o_call, e_t, e_k, e_put, e_get, e_res, e_keep_n, e_keep_c, e_keep1_s, e_asg_b, e_asg_i, e_asg_s, Option.getD_some, Nat.reduceEqDiff, reduceCtorEq, Bool.false_eq_true, decide_eq_true_eq, St.clr, outV, ownsV, owns1, ownL, List.map_cons, List.map_nil, List.any_cons, List.any_nil, Bool.or_self, PV.leaves, List.flatMap_cons, List.flatMap_nil, List.append_nil, List.cons_append, List.nil_append, rl_i, ol_b, ol_i, ol_s, m_lf, m_tp, m_1l]
  refine wcall_s h1 rfl rfl ?_
  simp -implicitDefEqProofs (maxSteps := 2000000) only [c34, hn1, wb, w1_2, w3_1, Int.toNat_natCast, ↓reduceIte, s_skip, s_ret, s_ops0, s_seq, s_cond, s_opsK, s_seqK_n, s_seqK_r, s_cnd, s_nil, s_cons, s_guard, s_wopsK, s_putK, s_grd, o_mv, o_as, o_pk, v_pk, o_bin, v_add, v_gtr, v_part_t, o_ld, v_ld_p, v_ldC, o_st, v_st_p, v_stCK, o_lns, v_lns, o_call, e_t, e_k, e_put, e_get, e_res, e_keep_n, e_keep_c, e_keep1_s, e_asg_i, List.length_nil, List.length_cons, Option.getD_some, Nat.reduceEqDiff, Nat.reduceAdd, reduceCtorEq, true_and, and_true, Bool.not_false, Bool.true_eq_false, Bool.false_eq_true, decide_eq_true_eq, s_ret_r, s_retX, s_cells_n, t_tp, t_n, t_c, t_1l, t_1a, t_i, r_n, r_t, r_c, r_cons, r_cell, r_part_t, one_2, St.clr, outV, ownsV, owns1, ownL, List.map_cons, List.map_nil, PV.leaves, List.flatMap_cons, List.flatMap_nil, List.append_nil, List.cons_append, List.nil_append, List.all_cons, List.all_nil, Bool.and_true, Bool.true_and, Bool.and_self, PV.cells, cellL, fillL, Nat.le_refl, List.take_zero, List.drop_zero, List.take_succ_cons, List.drop_succ_cons, List.drop_nil, List.take_nil, Option.bind_some, rl_i, rl_s, ol_b, m_lf, st_b, d_n, d_c, Int.reduceNeg, Nat.zero_add]
  with_reducible refine ite_pr (fun h => ?_) (fun h => ?_)
  · rw [if_pos (by omega)] at hr
    subst hr
    simp -implicitDefEqProofs (maxSteps := 2000000) only [Ins.c, and_self, ↓reduceIte, t_ln, t_lc, t_i, t_s, Bool.and_self, Int.reduceNeg]
  rw [if_neg (by omega)] at hr
  refine wcall_s (r52 (X := X) b (p + 1) (by omega) hb) rfl rfl ?_
  simp -implicitDefEqProofs (maxSteps := 2000000) only [c34, hn1, wb, w1_2, w3_1, Int.toNat_natCast, ↓reduceIte, s_ops0, s_seq, s_opsK, s_seqK_n, s_nil, s_cons, s_wopsK, s_putK, o_mv, o_as, o_bin, v_add, o_fa, v_fa_p, o_st, v_st_p, v_stCK, o_call, e_t, e_k, e_put, e_get, e_res, e_keep_n, e_keep_c, e_keep1_s, e_asg_i, List.length_nil, List.length_cons, Option.getD_some, Nat.reduceEqDiff, Nat.reduceAdd, reduceCtorEq, true_and, Bool.false_eq_true, St.clr, outV, ownsV, owns1, ownL, List.map_cons, List.map_nil, PV.leaves, List.flatMap_cons, List.flatMap_nil, List.append_nil, List.cons_append, List.nil_append, List.all_cons, List.all_nil, Bool.true_and, Bool.and_self, PV.cells, cellL, fillL, Nat.reduceLeDiff, List.take_zero, List.drop_zero, List.take_succ_cons, List.drop_succ_cons, rl_i, ol_i, m_lf, st_i1, d_n, d_c, Nat.zero_add]
  refine wcall_s h4 rfl rfl ?_
  simp -implicitDefEqProofs (maxSteps := 2000000) only [c34, hn1, wb, w1_2, w3_1, Int.toNat_natCast, ↓reduceIte, s_skip, s_ret, s_ops0, s_seq, s_cond, s_opsK, s_seqK_n, s_seqK_r, s_cnd, s_nil, s_cons, s_wopsK, s_putK, o_mv, o_as, o_bin, v_add, v_gtr, o_cvi, v_cvi, v_part_t, o_ixs, v_ixs, o_fa, v_fa_p, o_ld, v_ld_p, v_ldC, o_st, v_st_p, v_stCK, o_lns, v_lns, o_call, e_t, e_k, e_put, e_get, e_res, e_keep_n, e_keep_c, e_keep1_s, e_asg_i, List.length_nil, List.length_cons, Option.getD_some, Nat.reduceEqDiff, Nat.reduceAdd, reduceCtorEq, true_and, and_true, Bool.false_eq_true, decide_eq_true_eq, s_ret_r, s_retX, s_cells_n, t_tp, t_n, t_c, t_1l, t_1a, t_i, r_n, r_t, r_c, r_cons, r_cell, r_part_t, one_2, St.clr, outV, ownsV, owns1, ownL, List.map_cons, List.map_nil, PV.leaves, List.flatMap_cons, List.flatMap_nil, List.append_nil, List.cons_append, List.nil_append, List.all_cons, List.all_nil, Bool.and_true, Bool.true_and, Bool.and_self, PV.cells, cellL, fillL, Nat.reduceLeDiff, Nat.le_refl, List.take_zero, List.drop_zero, List.take_succ_cons, List.drop_succ_cons, List.drop_nil, List.take_nil, Option.bind_some, rl_i, ol_b, m_lf, st_b, st_i1, d_n, d_c, Int.reduceNeg, Nat.zero_add]
  with_reducible refine ite_pr (fun h => ?_) (fun h => ?_)
  · rw [if_pos (by omega)] at hr
    subst hr
    simp -implicitDefEqProofs (maxSteps := 2000000) only [Ins.c, and_self, ↓reduceIte, t_ln, t_lc, t_i, t_s, Bool.and_self, Int.reduceNeg]
  rw [if_neg (by omega)] at hr
  refine ⟨by omega, ?_⟩
  refine wcall_s h8 rfl rfl ?_
  simp -implicitDefEqProofs (maxSteps := 2000000) only [c34, hn1, wb, w1_2, w3_1, Int.toNat_natCast, ↓reduceIte, s_skip, s_ops0, s_seq, s_cond, s_opsK, s_seqK_n, s_cnd, s_nil, s_cons, s_wopsK, o_mv, o_call, e_t, e_k, e_put, e_get, e_res, e_keep_n, e_keep_c, e_keep1_s, Option.getD_some, Nat.reduceEqDiff, reduceCtorEq, Bool.false_eq_true, St.clr, outV, ownsV, owns1, ownL, List.map_cons, List.map_nil, PV.leaves, List.flatMap_cons, List.flatMap_nil, List.append_nil, List.cons_append, List.nil_append, rl_i, ol_b, m_lf]
  refine wcall_s h16 rfl rfl ?_
  simp -implicitDefEqProofs (maxSteps := 2000000) only [c34, hn1, wb, w1_2, w3_1, Int.toNat_natCast, ↓reduceIte, s_skip, s_ret, s_ops0, s_seq, s_cond, s_opsK, s_seqK_n, s_cnd, s_nil, s_cons, s_wopsK, s_putK, o_mv, o_as, v_part_t, o_ld, v_ld_p, v_ldC, o_st, v_st_p, v_stCK, e_t, e_put, e_get, e_res, e_keep_n, e_keep_c, e_keep1_s, e_asg_i, List.length_nil, List.length_cons, Option.getD_some, Nat.reduceEqDiff, Nat.reduceAdd, reduceCtorEq, true_and, and_true, Bool.false_eq_true, s_ret_r, s_retX, s_cells_n, t_tp, t_n, t_c, t_1l, t_1a, t_i, r_n, r_t, r_c, r_cons, r_cell, r_part_t, one_2, St.clr, outV, ownsV, owns1, ownL, List.append_nil, List.nil_append, List.all_cons, List.all_nil, Bool.and_true, Bool.true_and, Bool.and_self, PV.cells, cellL, fillL, Nat.le_refl, List.take_zero, List.drop_zero, List.take_succ_cons, List.drop_succ_cons, List.drop_nil, List.take_nil, Option.bind_some, ol_b, m_lf, st_b, d_n, d_c, Nat.zero_add]
  subst hr
  simp -implicitDefEqProofs (maxSteps := 2000000) only [Ins.c, and_self, ↓reduceIte, t_ln, t_lc, t_i, t_s, Bool.and_self]

set_option maxHeartbeats 4000000 in
theorem r34_5 (b : ByteArray) (p : Nat) (hb : b.size ≤ 140737488351232) (hp : p < b.size) (r : Ins × Int) (op v : Int) (nm : ByteArray) (nx : Bool) (eop : byteAt b (p : Int) = op) (hr : oneF true false false false true op b p = r)
    (h40 : R X Tryd.prog 40 [.lf (.int .i64 op)] [] (.tp [.lf (.int .i64 v), .lf (.str nm), .lf (.bool nx)]) []) (hne : ¬ nm = ⟨#[]⟩)
    (h1 : R X Tryd.prog 41 [.lf (.int .i64 v), .lf (.int .i64 1)] [] (.lf (.bool true)) []) (h2 : R X Tryd.prog 41 [.lf (.int .i64 v), .lf (.int .i64 2)] [] (.lf (.bool false)) []) (h4 : R X Tryd.prog 41 [.lf (.int .i64 v), .lf (.int .i64 4)] [] (.lf (.bool false)) [])
    (h8 : R X Tryd.prog 41 [.lf (.int .i64 v), .lf (.int .i64 8)] [] (.lf (.bool false)) []) (h16 : R X Tryd.prog 41 [.lf (.int .i64 v), .lf (.int .i64 16)] [] (.lf (.bool true)) []) :
    R X Tryd.prog 34 [.lf (.str b), .lf (.int .i64 p)] [] (.tp [.ag r.1.c, .lf (.int .i64 r.2)]) [] := by
  have o0 := byteAt_0 b (p : Int)
  have o1 := byteAt_1 b (p : Int)
  rw [eop] at o0 o1
  have w8 : IntKind.i64.wrap op = op := w64 (by omega) (by omega)
  have hn1 : IntKind.i64.wrap ((p : Int) + 1) = ((p + 1 : Nat) : Int) := by rw [w64 (by omega) (by omega)]; omega
  have wb : ∀ q : Int, IntKind.i64.wrap (byteAt b q) = byteAt b q := fun q => w64 (by have := byteAt_0 b q; omega) (by have := byteAt_1 b q; omega)
  have w1_2 : IntKind.i64.wrap (((p + 1 : Nat) : Int) + 2) = ((p + 3 : Nat) : Int) := by rw [w64 (by omega) (by omega)]; omega
  have w3_32 : IntKind.i64.wrap (((p + 3 : Nat) : Int) + 32) = ((p + 35 : Nat) : Int) := by rw [w64 (by omega) (by omega)]; omega
  simp only [oneF, Bool.or_self, Bool.or_false, Bool.or_true, Bool.true_or, Bool.false_or, Bool.false_eq_true, false_and, true_and, if_false, if_true, Nat.add_assoc, Nat.reduceAdd] at hr
  refine R_i [] [] c34_ok rfl (by simp) ?_
  simp -implicitDefEqProofs (maxSteps := 2000000) only [c34, eop, w8, ↓reduceIte, s_ops0, s_seq, s_opsK, s_seqK_n, s_nil, s_cons, s_wopsK, s_putK, o_mv, o_as, o_cvi, v_cvi, v_part_f, v_atK, o_ixs, v_ixs, o_al, o_fa, v_fa_p, o_ld, v_ld_p, v_ldC, o_st, v_st_p, v_stCK, o_bd, v_agK, v_bd_n, v_bd_c, o_call, e_t, e_k, e_put, e_get, e_res, e_keep_n, e_keep_c, e_keep1_s, e_asg_i, St.init, enum, List.length_nil, List.length_cons, Option.getD_some, Nat.reduceEqDiff, Nat.reduceAdd, reduceCtorEq, true_and, Bool.false_eq_true, List.map_cons, List.map_nil, PV.leaves, List.flatMap_cons, List.flatMap_nil, List.append_nil, List.cons_append, List.nil_append, List.all_cons, List.all_nil, Bool.true_and, Bool.and_self, PV.cells, cellL, fillL, Nat.reduceBEq, Nat.reduceLeDiff, Nat.zero_le, Nat.le_refl, List.take_zero, List.drop_zero, List.drop_succ_cons, List.drop_nil, List.getElem?_cons_zero, kc_i, kc_s, rl_i, kc_p, m_lf, m_ag, m_n, m_c, m_all, st_b, d_n, d_c, ne_eq, not_false_eq_true, Nat.zero_add, Nat.add_zero]
  refine ⟨by omega, ?_⟩
  refine wcall_s h40 rfl rfl ?_
  simp -implicitDefEqProofs (maxSteps := 2000000) only [c34, hne, hn1, ↓reduceIte, s_skip, s_ops0, s_seq, s_cond, s_opsK, s_seqK_n, s_cnd, s_nil, s_cons, s_wopsK, s_putK, o_mv, o_as, o_bin, v_add, v_seql, o_ext, v_ext0, v_ext1, v_ext2, o_call, e_t, e_k, e_put, e_get, e_res, e_keep_n, e_keep_c, e_keep1_s, e_asg_b, e_asg_i, e_asg_s, Option.getD_some, Nat.reduceEqDiff, reduceCtorEq, Bool.false_eq_true, decide_eq_true_eq, St.clr, outV, ownsV, owns1, ownL, List.map_cons, List.map_nil, List.any_cons, List.any_nil, Bool.or_self, PV.leaves, List.flatMap_cons, List.flatMap_nil, List.append_nil, List.cons_append, List.nil_append, rl_i, ol_b, ol_i, ol_s, m_lf, m_tp, m_1l]
  refine wcall_s h1 rfl rfl ?_
  simp -implicitDefEqProofs (maxSteps := 2000000) only [c34, hn1, wb, w1_2, w3_32, Int.toNat_natCast, ↓reduceIte, s_skip, s_ret, s_ops0, s_seq, s_cond, s_opsK, s_seqK_n, s_seqK_r, s_cnd, s_nil, s_cons, s_guard, s_wopsK, s_putK, s_grd, o_mv, o_as, o_pk, v_pk, o_bin, v_add, v_gtr, v_part_t, o_ld, v_ld_p, v_ldC, o_st, v_st_p, v_stCK, o_lns, v_lns, o_call, e_t, e_k, e_put, e_get, e_res, e_keep_n, e_keep_c, e_keep1_s, e_asg_i, List.length_nil, List.length_cons, Option.getD_some, Nat.reduceEqDiff, Nat.reduceAdd, reduceCtorEq, true_and, and_true, Bool.not_false, Bool.true_eq_false, Bool.false_eq_true, decide_eq_true_eq, s_ret_r, s_retX, s_cells_n, t_tp, t_n, t_c, t_1l, t_1a, t_i, r_n, r_t, r_c, r_cons, r_cell, r_part_t, one_2, St.clr, outV, ownsV, owns1, ownL, List.map_cons, List.map_nil, PV.leaves, List.flatMap_cons, List.flatMap_nil, List.append_nil, List.cons_append, List.nil_append, List.all_cons, List.all_nil, Bool.and_true, Bool.true_and, Bool.and_self, PV.cells, cellL, fillL, Nat.le_refl, List.take_zero, List.drop_zero, List.take_succ_cons, List.drop_succ_cons, List.drop_nil, List.take_nil, Option.bind_some, rl_i, rl_s, ol_b, m_lf, st_b, d_n, d_c, Int.reduceNeg, Nat.zero_add]
  with_reducible refine ite_pr (fun h => ?_) (fun h => ?_)
  · rw [if_pos (by omega)] at hr
    subst hr
    simp -implicitDefEqProofs (maxSteps := 2000000) only [Ins.c, and_self, ↓reduceIte, t_ln, t_lc, t_i, t_s, Bool.and_self, Int.reduceNeg]
  rw [if_neg (by omega)] at hr
  refine wcall_s (r52 (X := X) b (p + 1) (by omega) hb) rfl rfl ?_
  simp -implicitDefEqProofs (maxSteps := 2000000) only [c34, hn1, wb, w1_2, w3_32, Int.toNat_natCast, ↓reduceIte, s_ops0, s_seq, s_opsK, s_seqK_n, s_nil, s_cons, s_wopsK, s_putK, o_mv, o_as, o_bin, v_add, o_fa, v_fa_p, o_st, v_st_p, v_stCK, o_call, e_t, e_k, e_put, e_get, e_res, e_keep_n, e_keep_c, e_keep1_s, e_asg_i, List.length_nil, List.length_cons, Option.getD_some, Nat.reduceEqDiff, Nat.reduceAdd, reduceCtorEq, true_and, Bool.false_eq_true, St.clr, outV, ownsV, owns1, ownL, List.map_cons, List.map_nil, PV.leaves, List.flatMap_cons, List.flatMap_nil, List.append_nil, List.cons_append, List.nil_append, List.all_cons, List.all_nil, Bool.true_and, Bool.and_self, PV.cells, cellL, fillL, Nat.reduceLeDiff, List.take_zero, List.drop_zero, List.take_succ_cons, List.drop_succ_cons, rl_i, ol_i, m_lf, st_i1, d_n, d_c, Nat.zero_add]
  refine wcall_s h4 rfl rfl ?_
  simp -implicitDefEqProofs (maxSteps := 2000000) only [c34, hn1, wb, w1_2, w3_32, Int.toNat_natCast, ↓reduceIte, s_skip, s_ops0, s_seq, s_cond, s_opsK, s_seqK_n, s_cnd, s_nil, s_cons, s_wopsK, o_mv, o_call, e_t, e_k, e_put, e_get, e_res, e_keep_n, e_keep_c, e_keep1_s, Option.getD_some, Nat.reduceEqDiff, reduceCtorEq, Bool.false_eq_true, St.clr, outV, ownsV, owns1, ownL, List.map_cons, List.map_nil, PV.leaves, List.flatMap_cons, List.flatMap_nil, List.append_nil, List.cons_append, List.nil_append, rl_i, ol_b, m_lf]
  refine wcall_s h8 rfl rfl ?_
  simp -implicitDefEqProofs (maxSteps := 2000000) only [c34, hn1, wb, w1_2, w3_32, Int.toNat_natCast, ↓reduceIte, s_skip, s_ops0, s_seq, s_cond, s_opsK, s_seqK_n, s_cnd, s_nil, s_cons, s_wopsK, o_mv, o_call, e_t, e_k, e_put, e_get, e_res, e_keep_n, e_keep_c, e_keep1_s, Option.getD_some, Nat.reduceEqDiff, reduceCtorEq, Bool.false_eq_true, St.clr, outV, ownsV, owns1, ownL, List.map_cons, List.map_nil, PV.leaves, List.flatMap_cons, List.flatMap_nil, List.append_nil, List.cons_append, List.nil_append, rl_i, ol_b, m_lf]
  refine wcall_s h16 rfl rfl ?_
  simp -implicitDefEqProofs (maxSteps := 2000000) only [c34, hn1, wb, w1_2, w3_32, Int.toNat_natCast, ↓reduceIte, s_skip, s_ret, s_ops0, s_seq, s_cond, s_block, s_loop, s_opsK, s_seqK_n, s_seqK_r, s_cnd, s_nil, s_cons, s_wopsK, s_putK, o_mv, o_as, o_bin, v_add, v_gtr, v_part_t, o_ld, v_ld_p, v_ldC, o_st, v_st_p, v_stCK, o_lns, v_lns, e_t, e_k, e_put, e_get, e_res, e_keep_n, e_keep_c, e_keep1_s, e_asg_i, List.length_nil, List.length_cons, Option.getD_some, Nat.reduceEqDiff, Nat.reduceAdd, reduceCtorEq, true_and, and_true, Bool.false_eq_true, decide_eq_true_eq, s_ret_r, s_retX, s_cells_n, t_tp, t_n, t_c, t_1l, t_1a, t_i, r_n, r_t, r_c, r_cons, r_cell, r_part_t, one_2, St.clr, outV, ownsV, owns1, ownL, List.append_nil, List.nil_append, List.all_cons, List.all_nil, Bool.and_true, Bool.true_and, Bool.and_self, PV.cells, cellL, fillL, Nat.le_refl, List.take_zero, List.drop_zero, List.take_succ_cons, List.drop_succ_cons, List.drop_nil, List.take_nil, Option.bind_some, ol_b, m_lf, e_head, e_headK, kC_n, kC_c, pO_n, pO_p, pO_i, pO_s, st_b, d_n, d_c, List.range_zero, Int.reduceNeg, Nat.zero_add]
  with_reducible refine ite_pr (fun h => ?_) (fun h => ?_)
  · rw [if_pos (by omega)] at hr
    subst hr
    simp -implicitDefEqProofs (maxSteps := 2000000) only [Ins.c, and_self, ↓reduceIte, t_ln, t_lc, t_i, t_s, Bool.and_self, Int.reduceNeg]
  rw [if_neg (by omega)] at hr
  exact r34_set b (p + 3) hb (by omega) _ _ _ _ _ r 256 0 0 0 0 0 rfl (by simpa only [Nat.add_assoc, Nat.reduceAdd] using hr)

set_option maxHeartbeats 4000000 in
theorem r34_6 (b : ByteArray) (p : Nat) (hb : b.size ≤ 140737488351232) (hp : p < b.size) (r : Ins × Int) (op v : Int) (nm : ByteArray) (nx : Bool) (eop : byteAt b (p : Int) = op) (hr : oneF false false false true false op b p = r)
    (h40 : R X Tryd.prog 40 [.lf (.int .i64 op)] [] (.tp [.lf (.int .i64 v), .lf (.str nm), .lf (.bool nx)]) []) (hne : ¬ nm = ⟨#[]⟩)
    (h1 : R X Tryd.prog 41 [.lf (.int .i64 v), .lf (.int .i64 1)] [] (.lf (.bool false)) []) (h2 : R X Tryd.prog 41 [.lf (.int .i64 v), .lf (.int .i64 2)] [] (.lf (.bool false)) []) (h4 : R X Tryd.prog 41 [.lf (.int .i64 v), .lf (.int .i64 4)] [] (.lf (.bool false)) [])
    (h8 : R X Tryd.prog 41 [.lf (.int .i64 v), .lf (.int .i64 8)] [] (.lf (.bool true)) []) (h16 : R X Tryd.prog 41 [.lf (.int .i64 v), .lf (.int .i64 16)] [] (.lf (.bool false)) []) :
    R X Tryd.prog 34 [.lf (.str b), .lf (.int .i64 p)] [] (.tp [.ag r.1.c, .lf (.int .i64 r.2)]) [] := by
  have o0 := byteAt_0 b (p : Int)
  have o1 := byteAt_1 b (p : Int)
  rw [eop] at o0 o1
  have w8 : IntKind.i64.wrap op = op := w64 (by omega) (by omega)
  have hn1 : IntKind.i64.wrap ((p : Int) + 1) = ((p + 1 : Nat) : Int) := by rw [w64 (by omega) (by omega)]; omega
  have wb : ∀ q : Int, IntKind.i64.wrap (byteAt b q) = byteAt b q := fun q => w64 (by have := byteAt_0 b q; omega) (by have := byteAt_1 b q; omega)
  have w1_3 : IntKind.i64.wrap (((p + 1 : Nat) : Int) + 3) = ((p + 4 : Nat) : Int) := by rw [w64 (by omega) (by omega)]; omega
  have w1_2 : IntKind.i64.wrap (((p + 1 : Nat) : Int) + 2) = ((p + 3 : Nat) : Int) := by rw [w64 (by omega) (by omega)]; omega
  have w1_1 : IntKind.i64.wrap (((p + 1 : Nat) : Int) + 1) = ((p + 2 : Nat) : Int) := by rw [w64 (by omega) (by omega)]; omega
  have L0 := byteAt_0 b ((p + 3 : Nat) : Int)
  have L1 := byteAt_1 b ((p + 3 : Nat) : Int)
  have wl : IntKind.i64.wrap (((p + 4 : Nat) : Int) + byteAt b ((p + 3 : Nat) : Int)) = ((p + (4 + (byteAt b ((p + 3 : Nat) : Int)).toNat) : Nat) : Int) := by rw [w64 (by omega) (by omega)]; omega
  simp only [oneF, Bool.or_self, Bool.or_false, Bool.or_true, Bool.true_or, Bool.false_or, Bool.false_eq_true, false_and, true_and, if_false, if_true, Nat.add_assoc, Nat.reduceAdd] at hr
  refine R_i [] [] c34_ok rfl (by simp) ?_
  simp -implicitDefEqProofs (maxSteps := 2000000) only [c34, eop, w8, ↓reduceIte, s_ops0, s_seq, s_opsK, s_seqK_n, s_nil, s_cons, s_wopsK, s_putK, o_mv, o_as, o_cvi, v_cvi, v_part_f, v_atK, o_ixs, v_ixs, o_al, o_fa, v_fa_p, o_ld, v_ld_p, v_ldC, o_st, v_st_p, v_stCK, o_bd, v_agK, v_bd_n, v_bd_c, o_call, e_t, e_k, e_put, e_get, e_res, e_keep_n, e_keep_c, e_keep1_s, e_asg_i, St.init, enum, List.length_nil, List.length_cons, Option.getD_some, Nat.reduceEqDiff, Nat.reduceAdd, reduceCtorEq, true_and, Bool.false_eq_true, List.map_cons, List.map_nil, PV.leaves, List.flatMap_cons, List.flatMap_nil, List.append_nil, List.cons_append, List.nil_append, List.all_cons, List.all_nil, Bool.true_and, Bool.and_self, PV.cells, cellL, fillL, Nat.reduceBEq, Nat.reduceLeDiff, Nat.zero_le, Nat.le_refl, List.take_zero, List.drop_zero, List.drop_succ_cons, List.drop_nil, List.getElem?_cons_zero, kc_i, kc_s, rl_i, kc_p, m_lf, m_ag, m_n, m_c, m_all, st_b, d_n, d_c, ne_eq, not_false_eq_true, Nat.zero_add, Nat.add_zero]
  refine ⟨by omega, ?_⟩
  refine wcall_s h40 rfl rfl ?_
  simp -implicitDefEqProofs (maxSteps := 2000000) only [c34, hne, hn1, ↓reduceIte, s_skip, s_ops0, s_seq, s_cond, s_opsK, s_seqK_n, s_cnd, s_nil, s_cons, s_wopsK, s_putK, o_mv, o_as, o_bin, v_add, v_seql, o_ext, v_ext0, v_ext1, v_ext2, o_call, e_t, e_k, e_put, e_get, e_res, e_keep_n, e_keep_c, e_keep1_s, e_asg_b, e_asg_i, e_asg_s, Option.getD_some, Nat.reduceEqDiff, reduceCtorEq, Bool.false_eq_true, decide_eq_true_eq, St.clr, outV, ownsV, owns1, ownL, List.map_cons, List.map_nil, List.any_cons, List.any_nil, Bool.or_self, PV.leaves, List.flatMap_cons, List.flatMap_nil, List.append_nil, List.cons_append, List.nil_append, rl_i, ol_b, ol_i, ol_s, m_lf, m_tp, m_1l]
  refine wcall_s h1 rfl rfl ?_
  simp -implicitDefEqProofs (maxSteps := 2000000) only [c34, hn1, wb, w1_3, w1_2, w1_1, wl, Int.toNat_natCast, ↓reduceIte, s_cons, s_guard, s_wopsK, s_grd, q_call, q_mv, o_mv, o_call, e_t, e_k, e_put, e_get, Option.getD_some, Nat.reduceEqDiff, reduceCtorEq, cond_false, Bool.false_eq_true, St.clr, outV, ownsV, owns1, ownL, List.map_cons, List.map_nil, PV.leaves, List.flatMap_cons, List.flatMap_nil, List.append_nil, List.cons_append, List.nil_append, rl_i, ol_b, m_lf]
  refine wcall_s h2 rfl rfl ?_
  simp -implicitDefEqProofs (maxSteps := 2000000) only [c34, hn1, wb, w1_3, w1_2, w1_1, wl, Int.toNat_natCast, ↓reduceIte, s_skip, s_ops0, s_seq, s_cond, s_opsK, s_seqK_n, s_cnd, s_nil, s_cons, s_wopsK, s_putK, o_mv, o_pk, v_pk, o_call, e_t, e_k, e_put, e_get, e_res, e_keep_n, e_keep_c, e_keep1_s, Option.getD_some, Nat.reduceEqDiff, reduceCtorEq, Bool.false_eq_true, St.clr, outV, ownsV, owns1, ownL, List.map_cons, List.map_nil, PV.leaves, List.flatMap_cons, List.flatMap_nil, List.append_nil, List.cons_append, List.nil_append, rl_i, ol_b, m_lf]
  refine wcall_s h4 rfl rfl ?_
  simp -implicitDefEqProofs (maxSteps := 2000000) only [c34, hn1, wb, w1_3, w1_2, w1_1, wl, Int.toNat_natCast, ↓reduceIte, s_skip, s_ops0, s_seq, s_cond, s_opsK, s_seqK_n, s_cnd, s_nil, s_cons, s_wopsK, o_mv, o_call, e_t, e_k, e_put, e_get, e_res, e_keep_n, e_keep_c, e_keep1_s, Option.getD_some, Nat.reduceEqDiff, reduceCtorEq, Bool.false_eq_true, St.clr, outV, ownsV, owns1, ownL, List.map_cons, List.map_nil, PV.leaves, List.flatMap_cons, List.flatMap_nil, List.append_nil, List.cons_append, List.nil_append, rl_i, ol_b, m_lf]
  refine wcall_s h8 rfl rfl ?_
  simp -implicitDefEqProofs (maxSteps := 2000000) only [c34, hn1, wb, w1_3, w1_2, w1_1, wl, Int.toNat_natCast, ↓reduceIte, s_skip, s_ret, s_ops0, s_seq, s_cond, s_opsK, s_seqK_n, s_seqK_r, s_cnd, s_nil, s_cons, s_guard, s_wopsK, s_putK, s_grd, q_mv, q_bin, q_cvi, q_ixs, q_lns, o_mv, o_as, o_pk, v_pk, o_bin, v_add, v_gtr, o_cvi, v_cvi, v_part_t, v_part_f, v_atK, o_ixs, v_ixs, o_fa, v_fa_p, o_ld, v_ld_p, v_ldC, o_st, v_st_p, v_stCK, o_lns, v_lns, o_sls, v_sls_d, o_call, e_t, e_k, e_put, e_get, e_res, e_keep_n, e_keep_c, e_keep1_s, e_asg_i, List.length_nil, List.length_cons, Option.getD_some, Option.map_some, Nat.reduceEqDiff, Nat.reduceAdd, reduceCtorEq, true_and, and_true, cond_false, Bool.not_false, Bool.true_eq_false, Bool.false_eq_true, decide_eq_true_eq, decide_eq_false_iff_not, s_ret_r, s_retX, s_cells_n, t_tp, t_n, t_c, t_1l, t_1a, t_i, r_n, r_t, r_c, r_cons, r_cell, r_part_t, one_2, St.clr, outV, ownsV, owns1, ownL, List.map_cons, List.map_nil, PV.leaves, List.flatMap_cons, List.flatMap_nil, List.append_nil, List.cons_append, List.nil_append, List.all_cons, List.all_nil, Bool.and_true, Bool.true_and, Bool.and_self, PV.cells, cellL, fillL, Nat.reduceLeDiff, Nat.le_refl, List.take_zero, List.drop_zero, List.take_succ_cons, List.drop_succ_cons, List.drop_nil, List.take_nil, List.getElem?_cons_zero, List.getElem?_cons_succ, Option.bind_some, rl_i, ol_b, m_lf, st_b, st_i1, st_s1, d_n, d_c, Int.reduceNeg, Nat.zero_add, ite_not]
  with_reducible refine ite_pr (fun h => ?_) (fun h => ?_)
  · rw [if_pos (by omega)] at hr
    subst hr
    simp -implicitDefEqProofs (maxSteps := 2000000) only [Ins.c, and_self, ↓reduceIte, t_ln, t_lc, t_i, t_s, Bool.and_self, Int.reduceNeg]
  refine ⟨by omega, ?_⟩
  with_reducible refine ite_pr (fun h => ?_) (fun h => ?_)
  · rw [if_pos (by omega)] at hr
    subst hr
    simp -implicitDefEqProofs (maxSteps := 2000000) only [Ins.c, and_self, ↓reduceIte, t_ln, t_lc, t_i, t_s, Bool.and_self, Int.reduceNeg]
  rw [if_neg (by omega)] at hr
  have hsz : (b.extract (p + 4) (p + (4 + (byteAt b ((p + 3 : Nat) : Int)).toNat))).size = (byteAt b ((p + 3 : Nat) : Int)).toNat := by rw [ByteArray.size_extract]; omega
  have wt : IntKind.i64.wrap (3 + (((byteAt b ((p + 3 : Nat) : Int)).toNat : Nat) : Int)) = ((3 + (byteAt b ((p + 3 : Nat) : Int)).toNat : Nat) : Int) := by rw [w64 (by omega) (by omega)]; omega
  have wt2 : IntKind.i64.wrap (((p + 1 : Nat) : Int) + ((3 + (byteAt b ((p + 3 : Nat) : Int)).toNat : Nat) : Int)) = ((p + (4 + (byteAt b ((p + 3 : Nat) : Int)).toNat) : Nat) : Int) := by rw [w64 (by omega) (by omega)]; omega
  refine ⟨⟨by omega, by omega⟩, ⟨by omega, by omega⟩, ⟨by omega, by omega⟩, ⟨by omega, by omega, by omega⟩, ?_⟩
  rw [hsz, wt, wt2]
  refine wcall_s h16 rfl rfl ?_
  simp -implicitDefEqProofs (maxSteps := 2000000) only [c34, hn1, wb, w1_3, w1_2, w1_1, wl, Int.toNat_natCast, ↓reduceIte, s_skip, s_ret, s_ops0, s_seq, s_cond, s_opsK, s_seqK_n, s_cnd, s_nil, s_cons, s_wopsK, s_putK, o_mv, o_as, v_part_t, o_ld, v_ld_p, v_ldC, o_st, v_st_p, v_stCK, e_t, e_put, e_get, e_res, e_keep_n, e_keep_c, e_keep1_s, e_asg_i, List.length_nil, List.length_cons, Option.getD_some, Nat.reduceEqDiff, Nat.reduceAdd, reduceCtorEq, true_and, and_true, Bool.false_eq_true, s_ret_r, s_retX, s_cells_n, t_tp, t_n, t_c, t_1l, t_1a, t_i, r_n, r_t, r_c, r_cons, r_cell, r_part_t, one_2, St.clr, outV, ownsV, owns1, ownL, List.append_nil, List.nil_append, List.all_cons, List.all_nil, Bool.and_true, Bool.true_and, Bool.and_self, PV.cells, cellL, fillL, Nat.le_refl, List.take_zero, List.drop_zero, List.take_succ_cons, List.drop_succ_cons, List.drop_nil, List.take_nil, Option.bind_some, ol_b, m_lf, st_b, d_n, d_c, Nat.zero_add]
  subst hr
  simp -implicitDefEqProofs (maxSteps := 2000000) only [Ins.c, and_self, ↓reduceIte, t_ln, t_lc, t_i, t_s, Bool.and_self]

set_option maxHeartbeats 4000000 in
theorem r34_7 (b : ByteArray) (p : Nat) (hb : b.size ≤ 140737488351232) (hp : p < b.size) (r : Ins × Int) (op v : Int) (nm : ByteArray) (nx : Bool) (eop : byteAt b (p : Int) = op) (hr : oneF false true false true false op b p = r)
    (h40 : R X Tryd.prog 40 [.lf (.int .i64 op)] [] (.tp [.lf (.int .i64 v), .lf (.str nm), .lf (.bool nx)]) []) (hne : ¬ nm = ⟨#[]⟩)
    (h1 : R X Tryd.prog 41 [.lf (.int .i64 v), .lf (.int .i64 1)] [] (.lf (.bool false)) []) (h2 : R X Tryd.prog 41 [.lf (.int .i64 v), .lf (.int .i64 2)] [] (.lf (.bool true)) []) (h4 : R X Tryd.prog 41 [.lf (.int .i64 v), .lf (.int .i64 4)] [] (.lf (.bool false)) [])
    (h8 : R X Tryd.prog 41 [.lf (.int .i64 v), .lf (.int .i64 8)] [] (.lf (.bool true)) []) (h16 : R X Tryd.prog 41 [.lf (.int .i64 v), .lf (.int .i64 16)] [] (.lf (.bool false)) []) :
    R X Tryd.prog 34 [.lf (.str b), .lf (.int .i64 p)] [] (.tp [.ag r.1.c, .lf (.int .i64 r.2)]) [] := by
  have o0 := byteAt_0 b (p : Int)
  have o1 := byteAt_1 b (p : Int)
  rw [eop] at o0 o1
  have w8 : IntKind.i64.wrap op = op := w64 (by omega) (by omega)
  have hn1 : IntKind.i64.wrap ((p : Int) + 1) = ((p + 1 : Nat) : Int) := by rw [w64 (by omega) (by omega)]; omega
  have wb : ∀ q : Int, IntKind.i64.wrap (byteAt b q) = byteAt b q := fun q => w64 (by have := byteAt_0 b q; omega) (by have := byteAt_1 b q; omega)
  have w1_2 : IntKind.i64.wrap (((p + 1 : Nat) : Int) + 2) = ((p + 3 : Nat) : Int) := by rw [w64 (by omega) (by omega)]; omega
  have w3_3 : IntKind.i64.wrap (((p + 3 : Nat) : Int) + 3) = ((p + 6 : Nat) : Int) := by rw [w64 (by omega) (by omega)]; omega
  have w3_2 : IntKind.i64.wrap (((p + 3 : Nat) : Int) + 2) = ((p + 5 : Nat) : Int) := by rw [w64 (by omega) (by omega)]; omega
  have w3_1 : IntKind.i64.wrap (((p + 3 : Nat) : Int) + 1) = ((p + 4 : Nat) : Int) := by rw [w64 (by omega) (by omega)]; omega
  have L0 := byteAt_0 b ((p + 5 : Nat) : Int)
  have L1 := byteAt_1 b ((p + 5 : Nat) : Int)
  have wl : IntKind.i64.wrap (((p + 6 : Nat) : Int) + byteAt b ((p + 5 : Nat) : Int)) = ((p + (6 + (byteAt b ((p + 5 : Nat) : Int)).toNat) : Nat) : Int) := by rw [w64 (by omega) (by omega)]; omega
  simp only [oneF, Bool.or_self, Bool.or_false, Bool.or_true, Bool.true_or, Bool.false_or, Bool.false_eq_true, false_and, true_and, if_false, if_true, Nat.add_assoc, Nat.reduceAdd] at hr
  refine R_i [] [] c34_ok rfl (by simp) ?_
  simp -implicitDefEqProofs (maxSteps := 2000000) only [c34, eop, w8, ↓reduceIte, s_ops0, s_seq, s_opsK, s_seqK_n, s_nil, s_cons, s_wopsK, s_putK, o_mv, o_as, o_cvi, v_cvi, v_part_f, v_atK, o_ixs, v_ixs, o_al, o_fa, v_fa_p, o_ld, v_ld_p, v_ldC, o_st, v_st_p, v_stCK, o_bd, v_agK, v_bd_n, v_bd_c, o_call, e_t, e_k, e_put, e_get, e_res, e_keep_n, e_keep_c, e_keep1_s, e_asg_i, St.init, enum, List.length_nil, List.length_cons, Option.getD_some, Nat.reduceEqDiff, Nat.reduceAdd, reduceCtorEq, true_and, Bool.false_eq_true, List.map_cons, List.map_nil, PV.leaves, List.flatMap_cons, List.flatMap_nil, List.append_nil, List.cons_append, List.nil_append, List.all_cons, List.all_nil, Bool.true_and, Bool.and_self, PV.cells, cellL, fillL, Nat.reduceBEq, Nat.reduceLeDiff, Nat.zero_le, Nat.le_refl, List.take_zero, List.drop_zero, List.drop_succ_cons, List.drop_nil, List.getElem?_cons_zero, kc_i, kc_s, rl_i, kc_p, m_lf, m_ag, m_n, m_c, m_all, st_b, d_n, d_c, ne_eq, not_false_eq_true, Nat.zero_add, Nat.add_zero]
  refine ⟨by omega, ?_⟩
  refine wcall_s h40 rfl rfl ?_
  simp -implicitDefEqProofs (maxSteps := 2000000) only [c34, hne, hn1, ↓reduceIte, s_skip, s_ops0, s_seq, s_cond, s_opsK, s_seqK_n, s_cnd, s_nil, s_cons, s_wopsK, s_putK, o_mv, o_as, o_bin, v_add, v_seql, o_ext, v_ext0, v_ext1, v_ext2, o_call, e_t, e_k, e_put, e_get, e_res, e_keep_n, e_keep_c, e_keep1_s, e_asg_b, e_asg_i, e_asg_s, Option.getD_some, Nat.reduceEqDiff, reduceCtorEq, Bool.false_eq_true, decide_eq_true_eq, St.clr, outV, ownsV, owns1, ownL, List.map_cons, List.map_nil, List.any_cons, List.any_nil, Bool.or_self, PV.leaves, List.flatMap_cons, List.flatMap_nil, List.append_nil, List.cons_append, List.nil_append, rl_i, ol_b, ol_i, ol_s, m_lf, m_tp, m_1l]
  refine wcall_s h1 rfl rfl ?_
  simp -implicitDefEqProofs (maxSteps := 2000000) only [c34, hn1, wb, w1_2, w3_3, w3_2, w3_1, wl, Int.toNat_natCast, ↓reduceIte, s_cons, s_guard, s_wopsK, s_grd, q_call, q_mv, o_mv, o_call, e_t, e_k, e_put, e_get, Option.getD_some, Nat.reduceEqDiff, reduceCtorEq, cond_false, Bool.false_eq_true, St.clr, outV, ownsV, owns1, ownL, List.map_cons, List.map_nil, PV.leaves, List.flatMap_cons, List.flatMap_nil, List.append_nil, List.cons_append, List.nil_append, rl_i, ol_b, m_lf]
  refine wcall_s h2 rfl rfl ?_
  simp -implicitDefEqProofs (maxSteps := 2000000) only [c34, hn1, wb, w1_2, w3_3, w3_2, w3_1, wl, Int.toNat_natCast, ↓reduceIte, s_skip, s_ret, s_ops0, s_seq, s_cond, s_opsK, s_seqK_n, s_seqK_r, s_cnd, s_nil, s_cons, s_wopsK, s_putK, o_mv, o_as, o_pk, v_pk, o_bin, v_add, v_gtr, v_part_t, o_ld, v_ld_p, v_ldC, o_st, v_st_p, v_stCK, o_lns, v_lns, o_call, e_t, e_k, e_put, e_get, e_res, e_keep_n, e_keep_c, e_keep1_s, e_asg_i, List.length_nil, List.length_cons, Option.getD_some, Nat.reduceEqDiff, Nat.reduceAdd, reduceCtorEq, true_and, and_true, Bool.false_eq_true, decide_eq_true_eq, s_ret_r, s_retX, s_cells_n, t_tp, t_n, t_c, t_1l, t_1a, t_i, r_n, r_t, r_c, r_cons, r_cell, r_part_t, one_2, St.clr, outV, ownsV, owns1, ownL, List.map_cons, List.map_nil, PV.leaves, List.flatMap_cons, List.flatMap_nil, List.append_nil, List.cons_append, List.nil_append, List.all_cons, List.all_nil, Bool.and_true, Bool.true_and, Bool.and_self, PV.cells, cellL, fillL, Nat.le_refl, List.take_zero, List.drop_zero, List.take_succ_cons, List.drop_succ_cons, List.drop_nil, List.take_nil, Option.bind_some, rl_i, rl_s, ol_b, m_lf, st_b, d_n, d_c, Int.reduceNeg, Nat.zero_add]
  with_reducible refine ite_pr (fun h => ?_) (fun h => ?_)
  · rw [if_pos (by omega)] at hr
    subst hr
    simp -implicitDefEqProofs (maxSteps := 2000000) only [Ins.c, and_self, ↓reduceIte, t_ln, t_lc, t_i, t_s, Bool.and_self, Int.reduceNeg]
  rw [if_neg (by omega)] at hr
  refine wcall_s (r52 (X := X) b (p + 1) (by omega) hb) rfl rfl ?_
  simp -implicitDefEqProofs (maxSteps := 2000000) only [c34, hn1, wb, w1_2, w3_3, w3_2, w3_1, wl, Int.toNat_natCast, ↓reduceIte, s_ops0, s_seq, s_opsK, s_seqK_n, s_nil, s_cons, s_wopsK, s_putK, o_mv, o_as, o_bin, v_add, o_fa, v_fa_p, o_st, v_st_p, v_stCK, o_call, e_t, e_k, e_put, e_get, e_res, e_keep_n, e_keep_c, e_keep1_s, e_asg_i, List.length_nil, List.length_cons, Option.getD_some, Nat.reduceEqDiff, Nat.reduceAdd, reduceCtorEq, true_and, Bool.false_eq_true, St.clr, outV, ownsV, owns1, ownL, List.map_cons, List.map_nil, PV.leaves, List.flatMap_cons, List.flatMap_nil, List.append_nil, List.cons_append, List.nil_append, List.all_cons, List.all_nil, Bool.true_and, Bool.and_self, PV.cells, cellL, fillL, Nat.reduceLeDiff, List.take_zero, List.drop_zero, List.take_succ_cons, List.drop_succ_cons, rl_i, ol_i, m_lf, st_i1, d_n, d_c, Nat.zero_add]
  refine wcall_s h4 rfl rfl ?_
  simp -implicitDefEqProofs (maxSteps := 2000000) only [c34, hn1, wb, w1_2, w3_3, w3_2, w3_1, wl, Int.toNat_natCast, ↓reduceIte, s_skip, s_ops0, s_seq, s_cond, s_opsK, s_seqK_n, s_cnd, s_nil, s_cons, s_wopsK, o_mv, o_call, e_t, e_k, e_put, e_get, e_res, e_keep_n, e_keep_c, e_keep1_s, Option.getD_some, Nat.reduceEqDiff, reduceCtorEq, Bool.false_eq_true, St.clr, outV, ownsV, owns1, ownL, List.map_cons, List.map_nil, PV.leaves, List.flatMap_cons, List.flatMap_nil, List.append_nil, List.cons_append, List.nil_append, rl_i, ol_b, m_lf]
  refine wcall_s h8 rfl rfl ?_
  simp -implicitDefEqProofs (maxSteps := 2000000) only [c34, hn1, wb, w1_2, w3_3, w3_2, w3_1, wl, Int.toNat_natCast, ↓reduceIte, s_skip, s_ret, s_ops0, s_seq, s_cond, s_opsK, s_seqK_n, s_seqK_r, s_cnd, s_nil, s_cons, s_guard, s_wopsK, s_putK, s_grd, q_mv, q_bin, q_cvi, q_ixs, q_lns, o_mv, o_as, o_pk, v_pk, o_bin, v_add, v_gtr, o_cvi, v_cvi, v_part_t, v_part_f, v_atK, o_ixs, v_ixs, o_fa, v_fa_p, o_ld, v_ld_p, v_ldC, o_st, v_st_p, v_stCK, o_lns, v_lns, o_sls, v_sls_d, o_call, e_t, e_k, e_put, e_get, e_res, e_keep_n, e_keep_c, e_keep1_s, e_asg_i, List.length_nil, List.length_cons, Option.getD_some, Option.map_some, Nat.reduceEqDiff, Nat.reduceAdd, reduceCtorEq, true_and, and_true, cond_false, Bool.not_false, Bool.true_eq_false, Bool.false_eq_true, decide_eq_true_eq, decide_eq_false_iff_not, s_ret_r, s_retX, s_cells_n, t_tp, t_n, t_c, t_1l, t_1a, t_i, r_n, r_t, r_c, r_cons, r_cell, r_part_t, one_2, St.clr, outV, ownsV, owns1, ownL, List.map_cons, List.map_nil, PV.leaves, List.flatMap_cons, List.flatMap_nil, List.append_nil, List.cons_append, List.nil_append, List.all_cons, List.all_nil, Bool.and_true, Bool.true_and, Bool.and_self, PV.cells, cellL, fillL, Nat.reduceLeDiff, Nat.le_refl, List.take_zero, List.drop_zero, List.take_succ_cons, List.drop_succ_cons, List.drop_nil, List.take_nil, List.getElem?_cons_zero, List.getElem?_cons_succ, Option.bind_some, rl_i, ol_b, m_lf, st_b, st_i1, st_s1, d_n, d_c, Int.reduceNeg, Nat.zero_add, ite_not]
  with_reducible refine ite_pr (fun h => ?_) (fun h => ?_)
  · rw [if_pos (by omega)] at hr
    subst hr
    simp -implicitDefEqProofs (maxSteps := 2000000) only [Ins.c, and_self, ↓reduceIte, t_ln, t_lc, t_i, t_s, Bool.and_self, Int.reduceNeg]
  refine ⟨by omega, ?_⟩
  with_reducible refine ite_pr (fun h => ?_) (fun h => ?_)
  · rw [if_pos (by omega)] at hr
    subst hr
    simp -implicitDefEqProofs (maxSteps := 2000000) only [Ins.c, and_self, ↓reduceIte, t_ln, t_lc, t_i, t_s, Bool.and_self, Int.reduceNeg]
  rw [if_neg (by omega)] at hr
  have hsz : (b.extract (p + 6) (p + (6 + (byteAt b ((p + 5 : Nat) : Int)).toNat))).size = (byteAt b ((p + 5 : Nat) : Int)).toNat := by rw [ByteArray.size_extract]; omega
  have wt : IntKind.i64.wrap (3 + (((byteAt b ((p + 5 : Nat) : Int)).toNat : Nat) : Int)) = ((3 + (byteAt b ((p + 5 : Nat) : Int)).toNat : Nat) : Int) := by rw [w64 (by omega) (by omega)]; omega
  have wt2 : IntKind.i64.wrap (((p + 3 : Nat) : Int) + ((3 + (byteAt b ((p + 5 : Nat) : Int)).toNat : Nat) : Int)) = ((p + (6 + (byteAt b ((p + 5 : Nat) : Int)).toNat) : Nat) : Int) := by rw [w64 (by omega) (by omega)]; omega
  refine ⟨⟨by omega, by omega⟩, ⟨by omega, by omega⟩, ⟨by omega, by omega⟩, ⟨by omega, by omega, by omega⟩, ?_⟩
  rw [hsz, wt, wt2]
  refine wcall_s h16 rfl rfl ?_
  simp -implicitDefEqProofs (maxSteps := 2000000) only [c34, hn1, wb, w1_2, w3_3, w3_2, w3_1, wl, Int.toNat_natCast, ↓reduceIte, s_skip, s_ret, s_ops0, s_seq, s_cond, s_opsK, s_seqK_n, s_cnd, s_nil, s_cons, s_wopsK, s_putK, o_mv, o_as, v_part_t, o_ld, v_ld_p, v_ldC, o_st, v_st_p, v_stCK, e_t, e_put, e_get, e_res, e_keep_n, e_keep_c, e_keep1_s, e_asg_i, List.length_nil, List.length_cons, Option.getD_some, Nat.reduceEqDiff, Nat.reduceAdd, reduceCtorEq, true_and, and_true, Bool.false_eq_true, s_ret_r, s_retX, s_cells_n, t_tp, t_n, t_c, t_1l, t_1a, t_i, r_n, r_t, r_c, r_cons, r_cell, r_part_t, one_2, St.clr, outV, ownsV, owns1, ownL, List.append_nil, List.nil_append, List.all_cons, List.all_nil, Bool.and_true, Bool.true_and, Bool.and_self, PV.cells, cellL, fillL, Nat.le_refl, List.take_zero, List.drop_zero, List.take_succ_cons, List.drop_succ_cons, List.drop_nil, List.take_nil, Option.bind_some, ol_b, m_lf, st_b, d_n, d_c, Nat.zero_add]
  subst hr
  simp -implicitDefEqProofs (maxSteps := 2000000) only [Ins.c, and_self, ↓reduceIte, t_ln, t_lc, t_i, t_s, Bool.and_self]
theorem r34 (b : ByteArray) (p : Nat) (hb : b.size ≤ 140737488351232) (hp : p < b.size) (r : Ins × Int) (hr : oneR b p = r) : R X Tryd.prog 34 [.lf (.str b), .lf (.int .i64 p)] []
      (.tp [.ag r.1.c, .lf (.int .i64 r.2)]) [] := by
  obtain ⟨hk, ek⟩ := byte_k b p
  have h40 := r40 (X := X) (byteAt b p)
  have hnm := name_tab ⟨(byteAt b p).toNat, hk⟩
  simp only [oneR] at hr
  by_cases hop : byteAt b p < 1 ∨ 20 < byteAt b p
  · rw [if_pos hop] at hr
    subst hr
    have w8 : IntKind.i64.wrap (byteAt b p) = byteAt b p := w64 (by omega) (by omega)
    have hne : nameF (byteAt b p).toNat = ⟨#[]⟩ := by
      have : decide ((byteAt b p).toNat = 0 ∨ 20 < (byteAt b p).toNat) = true := decide_eq_true (by omega)
      rw [this] at hnm
      simpa using hnm
    refine R_i [] [] c34_ok rfl (by simp) ?_
    simp -implicitDefEqProofs (maxSteps := 2000000) only [c34, w8, ↓reduceIte, s_ops0, s_seq, s_opsK, s_seqK_n, s_nil, s_cons, s_wopsK, s_putK, o_mv, o_as, o_cvi, v_cvi, v_part_f, v_atK, o_ixs, v_ixs, o_al, o_fa, v_fa_p, o_ld, v_ld_p, v_ldC, o_st, v_st_p, v_stCK, o_bd, v_agK, v_bd_n, v_bd_c, o_call, e_t, e_k, e_put, e_get, e_res, e_keep_n, e_keep_c, e_keep1_s, e_asg_i, St.init, enum, List.length_nil, List.length_cons, Option.getD_some, Nat.reduceEqDiff, Nat.reduceAdd, reduceCtorEq, true_and, Bool.false_eq_true, List.map_cons, List.map_nil, PV.leaves, List.flatMap_cons, List.flatMap_nil, List.append_nil, List.cons_append, List.nil_append, List.all_cons, List.all_nil, Bool.true_and, Bool.and_self, PV.cells, cellL, fillL, Nat.reduceBEq, Nat.reduceLeDiff, Nat.zero_le, Nat.le_refl, List.take_zero, List.drop_zero, List.drop_succ_cons, List.drop_nil, List.getElem?_cons_zero, kc_i, kc_s, rl_i, kc_p, m_lf, m_ag, m_n, m_c, m_all, st_b, d_n, d_c, ne_eq, not_false_eq_true, Int.reduceNeg, Nat.zero_add, Nat.add_zero]
    refine ⟨by omega, ?_⟩
    refine wcall_s h40 rfl rfl ?_
    simp -implicitDefEqProofs (maxSteps := 2000000) only [c34, hne, Ins.c, ↓reduceIte, s_ret, s_ops0, s_seq, s_cond, s_opsK, s_seqK_n, s_seqK_r, s_cnd, s_nil, s_cons, s_wopsK, s_putK, o_mv, o_as, o_bin, v_seql, o_ext, v_ext0, v_ext1, v_ext2, o_st, v_st_p, v_stCK, o_bd, v_agK, v_bd_n, e_t, e_k, e_put, e_get, e_res, e_keep_n, e_keep_c, e_keep1_s, e_asg_b, e_asg_i, e_asg_s, List.length_nil, List.length_cons, Option.getD_some, Nat.reduceEqDiff, Nat.reduceAdd, reduceCtorEq, and_true, Bool.false_eq_true, decide_eq_true_eq, s_ret_r, s_retX, s_cells_n, t_tp, t_n, t_c, t_1l, t_1a, t_ln, t_lc, t_i, t_s, r_n, r_t, r_c, r_cons, r_cell, r_part_t, one_2, St.clr, outV, ownsV, owns1, ownL, List.map_cons, List.map_nil, List.any_cons, List.any_nil, Bool.or_self, List.append_nil, List.nil_append, List.all_cons, List.all_nil, Bool.and_true, Bool.and_self, PV.cells, cellL, fillL, Nat.le_refl, List.take_zero, List.drop_zero, List.take_succ_cons, List.drop_succ_cons, List.drop_nil, List.take_nil, Option.bind_some, ol_b, ol_i, ol_s, m_tp, m_1l, st_b, d_n, d_c, Int.reduceNeg, Nat.zero_add]
  rw [if_neg hop] at hr
  have hne : ¬ nameF (byteAt b p).toNat = ⟨#[]⟩ := by
    have : decide ((byteAt b p).toNat = 0 ∨ 20 < (byteAt b p).toNat) = false := decide_eq_false (by omega)
    rw [this] at hnm
    simpa using hnm
  obtain ⟨f, hf, g1, g2, g4, g8, g16⟩ := pat' (k := (byteAt b p).toNat) (by omega)
  have h1 := r41 (X := X) (refF (byteAt b p).toNat) 1 (by decide)
  have h2 := r41 (X := X) (refF (byteAt b p).toNat) 2 (by decide)
  have h4 := r41 (X := X) (refF (byteAt b p).toNat) 4 (by decide)
  have h8 := r41 (X := X) (refF (byteAt b p).toNat) 8 (by decide)
  have h16 := r41 (X := X) (refF (byteAt b p).toNat) 16 (by decide)
  rw [g1, g2, g4, g8, g16] at hr
  rw [g1] at h1
  rw [g2] at h2
  rw [g4] at h4
  rw [g8] at h8
  rw [g16] at h16
  simp only [List.mem_cons, List.mem_nil_iff, or_false] at hf
  rcases hf with rfl | rfl | rfl | rfl | rfl | rfl | rfl | rfl
  · exact r34_0 b p hb hp r _ _ _ _ rfl hr h40 hne h1 h2 h4 h8 h16
  · exact r34_1 b p hb hp r _ _ _ _ rfl hr h40 hne h1 h2 h4 h8 h16
  · exact r34_2 b p hb hp r _ _ _ _ rfl hr h40 hne h1 h2 h4 h8 h16
  · exact r34_3 b p hb hp r _ _ _ _ rfl hr h40 hne h1 h2 h4 h8 h16
  · exact r34_4 b p hb hp r _ _ _ _ rfl hr h40 hne h1 h2 h4 h8 h16
  · exact r34_5 b p hb hp r _ _ _ _ rfl hr h40 hne h1 h2 h4 h8 h16
  · exact r34_6 b p hb hp r _ _ _ _ rfl hr h40 hne h1 h2 h4 h8 h16
  · exact r34_7 b p hb hp r _ _ _ _ rfl hr h40 hne h1 h2 h4 h8 h16
end Go.Proofs.YthcpaohmajjopaaDoor.I
set_option linter.unusedVariables false
set_option linter.unusedSimpArgs false
namespace Go.Proofs.YthcpaohmajjopaaDoor.I
open Go Go.Proofs.YthcpaohmajjopaaDoor.AM
theorem wrap_u64 {n : Nat} (h : n < 2 ^ 64) : IntKind.u64.wrap (n : Int) = n := by
  simp only [IntKind.wrap, IntKind.bits, IntKind.signed]; simp; omega
theorem wrap_i64 {n : Nat} (h : n < 2 ^ 63) : IntKind.i64.wrap (n : Int) = n := w64 (by omega) (by omega)
theorem or_nat64 (x y : Nat) (hx : x < 2 ^ 64) (hy : y < 2 ^ 64) : bits .or .u64 (x : Int) (y : Int) = ((x ||| y : Nat) : Int) := by
  have h1 : (BitVec.ofInt 64 (x : Int)).toNat = x := by simp [BitVec.toNat_ofInt]; omega
  have h2 : (BitVec.ofInt 64 (y : Int)).toNat = y := by simp [BitVec.toNat_ofInt]; omega
  unfold bits
  simp only [BitVec.toNat_or]
  show IntKind.u64.wrap (((BitVec.ofInt 64 (x : Int)).toNat ||| (BitVec.ofInt 64 (y : Int)).toNat : Nat) : Int) = _
  rw [h1, h2]
  exact wrap_u64 (Nat.or_lt_two_pow hx hy)
theorem or_nat63 (x y : Nat) (hx : x < 2 ^ 63) (hy : y < 2 ^ 63) : bits .or .i64 (x : Int) (y : Int) = ((x ||| y : Nat) : Int) := by
  have h1 : (BitVec.ofInt 64 (x : Int)).toNat = x := by simp [BitVec.toNat_ofInt]; omega
  have h2 : (BitVec.ofInt 64 (y : Int)).toNat = y := by simp [BitVec.toNat_ofInt]; omega
  unfold bits
  simp only [BitVec.toNat_or]
  show IntKind.i64.wrap (((BitVec.ofInt 64 (x : Int)).toNat ||| (BitVec.ofInt 64 (y : Int)).toNat : Nat) : Int) = _
  rw [h1, h2]
  exact wrap_i64 (Nat.or_lt_two_pow hx hy)
theorem or_add {s v c : Nat} (h : s < 2 ^ c) : s ||| (v * 2 ^ c) = s + v * 2 ^ c := by
  rw [Nat.or_comm, ← Nat.shiftLeft_eq, ← Nat.shiftLeft_add_eq_or_of_lt h]; omega
theorem or_hi (h l : Int) (h0 : 0 ≤ h) (h1 : h ≤ 255) (l0 : 0 ≤ l) (l1 : l ≤ 255) : bits .or .i64 (IntKind.i64.wrap (h * 2 ^ min (Int.toNat 8) IntKind.i64.bits)) l = h * 256 + l := by
  obtain ⟨h, rfl⟩ : ∃ n : Nat, h = n := ⟨h.toNat, by omega⟩
  obtain ⟨l, rfl⟩ : ∃ n : Nat, l = n := ⟨l.toNat, by omega⟩
  have e : (h : Int) * 2 ^ min (Int.toNat 8) IntKind.i64.bits = ((h * 2 ^ 8 : Nat) : Int) := by
    rw [show (2 : Int) ^ min (Int.toNat 8) IntKind.i64.bits = 256 from by decide]; omega
  rw [e, wrap_i64 (by omega), or_nat63 _ _ (by omega) (by omega), Nat.or_comm, or_add (by omega)]
  omega
theorem ai16_eq (h l : Int) (h0 : 0 ≤ h) (h1 : h ≤ 255) (l0 : 0 ≤ l) (l1 : l ≤ 255) : ai16 h l = if 32768 ≤ h * 256 + l then h * 256 + l - 65536 else h * 256 + l := by
  unfold ai16
  rw [or_hi h l h0 h1 l0 l1]
  have e : IntKind.i16.wrap (h * 256 + l) = if 32768 ≤ h * 256 + l then h * 256 + l - 65536 else h * 256 + l := by
    simp only [IntKind.wrap, IntKind.bits, IntKind.signed]; simp; split <;> omega
  rw [e]
  exact w64 (by split <;> omega) (by split <;> omega)
theorem cntR_eq {b : ByteArray} (h : 2 ≤ b.size) : cntR b = byteAt b 0 * 256 + byteAt b 1 := by
  have e0 : nxV b 0 = byteAt b 0 := by unfold nxV; rw [if_pos (by omega)]; rfl
  have e1 : nxP b 0 = 1 := by unfold nxP; rw [if_pos (by omega)]
  have e2 : nxV b 1 = byteAt b 1 := by unfold nxV; rw [if_pos (by omega)]; rfl
  unfold cntR
  rw [e1, e0, e2, or_hi _ _ (byteAt_0 b _) (byteAt_1 b _) (byteAt_0 b _) (byteAt_1 b _)]
theorem cntR_bd (b : ByteArray) : 0 ≤ cntR b ∧ cntR b ≤ 65535 := by
  unfold cntR
  have a0 := nxV_0 b 0
  have a1 := nxV_1 b 0
  have b0 := nxV_0 b (nxP b 0)
  have b1 := nxV_1 b (nxP b 0)
  rw [or_hi _ _ a0 a1 b0 b1]
  omega

/-! the 256 members: bytes on the one side, bits on the other -/
def W (B : Nat → Nat) (q : Nat) : Nat → Nat
  | 0 => 0
  | i + 1 => W B q i + B (8 * q + i) * 2 ^ (8 * i)
theorem W_lt {B : Nat → Nat} (hB : ∀ j, B j < 256) (q : Nat) : ∀ i, W B q i < 2 ^ (8 * i)
  | 0 => by simp [W]
  | i + 1 => by
    have h1 := W_lt hB q i
    have h2 := hB (8 * q + i)
    have e : 2 ^ (8 * (i + 1)) = 256 * 2 ^ (8 * i) := by rw [show 8 * (i + 1) = 8 + 8 * i by omega, Nat.pow_add]
    have h3 : B (8 * q + i) * 2 ^ (8 * i) ≤ 255 * 2 ^ (8 * i) := Nat.mul_le_mul_right _ (by omega)
    simp only [W]
    omega
theorem W_split (B : Nat → Nat) (q i : Nat) : ∀ n, ∃ t, W B q (i + 1 + n) = W B q i + 2 ^ (8 * i) * (B (8 * q + i) + 256 * t)
  | 0 => ⟨0, by simp [W, Nat.mul_comm]⟩
  | n + 1 => by
    obtain ⟨t, h⟩ := W_split B q i n
    refine ⟨t + B (8 * q + (i + 1 + n)) * 2 ^ (8 * n), ?_⟩
    rw [show i + 1 + (n + 1) = (i + 1 + n) + 1 by omega]
    simp only [W, h]
    rw [show 8 * (i + 1 + n) = 8 * i + (8 + 8 * n) by omega, Nat.pow_add, Nat.pow_add, show (2 : Nat) ^ 8 = 256 from rfl]
    generalize B (8 * q + (i + 1 + n)) = B1
    generalize 2 ^ (8 * n) = Y
    generalize 2 ^ (8 * i) = Z
    have e : B1 * (Z * (256 * Y)) = Z * (256 * (B1 * Y)) := by ac_rfl
    rw [e, Nat.mul_add 256 t, ← Nat.add_assoc (B (8 * q + i)), Nat.mul_add Z (_ + _), Nat.add_assoc]
theorem W_bit {B : Nat → Nat} (hB : ∀ j, B j < 256) (q : Nat) {i r : Nat} (hi : i < 8) (hr : r < 8) : (W B q 8 / 2 ^ (8 * i + r)) % 2 = (B (8 * q + i) / 2 ^ r) % 2 := by
  obtain ⟨t, h⟩ := W_split B q i (7 - i)
  rw [show i + 1 + (7 - i) = 8 by omega] at h
  rw [h, Nat.pow_add, ← Nat.div_div_eq_div_mul, Nat.add_mul_div_left _ _ (Nat.two_pow_pos _), Nat.div_eq_of_lt (W_lt hB q i), Nat.zero_add]
  have e : (256 : Nat) * t = 2 ^ r * (2 ^ (8 - r) * t) := by
    rw [← Nat.mul_assoc, ← Nat.pow_add, show r + (8 - r) = 8 by omega]
  rw [e, Nat.add_mul_div_left _ _ (Nat.two_pow_pos _)]
  obtain ⟨u, hu⟩ : ∃ u, 2 ^ (8 - r) * t = 2 * u := ⟨2 ^ (7 - r) * t, by rw [show 8 - r = (7 - r) + 1 by omega, Nat.pow_succ]; simp only [Nat.mul_assoc, Nat.mul_comm, Nat.mul_left_comm]⟩
  rw [hu]
  omega
def bt (b : ByteArray) (p j : Nat) : Nat := (byteAt b ((p + j : Nat) : Int)).toNat
theorem bt_lt (b : ByteArray) (p j : Nat) : bt b p j < 256 := (byte_k b _).1
theorem bt_eq (b : ByteArray) (p j : Nat) : ((bt b p j : Nat) : Int) = byteAt b ((p + j : Nat) : Int) := (byte_k b _).2
theorem setV_eq {s v k : Nat} (hs : s < 2 ^ (8 * (k % 8))) (hv : v < 256) : setV (s : Int) (v : Int) k = ((s + v * 2 ^ (8 * (k % 8)) : Nat) : Int) := by
  have e1 : IntKind.i64.wrap (((k : Int).tmod 8) * 8) = ((8 * (k % 8) : Nat) : Int) := by
    rw [Int.tmod_eq_emod_of_nonneg (by omega), w64 (by omega) (by omega)]; omega
  have e2 : min (8 * (k % 8)) 64 = 8 * (k % 8) := by omega
  have hle : v * 2 ^ (8 * (k % 8)) < 2 ^ 64 := by
    have : v * 2 ^ (8 * (k % 8)) ≤ 255 * 2 ^ 56 := Nat.mul_le_mul (by omega) (Nat.pow_le_pow_right (by omega) (by omega))
    omega
  have hs2 : s < 2 ^ 64 := Nat.lt_of_lt_of_le hs (Nat.pow_le_pow_right (by omega) (by omega))
  unfold setV
  rw [e1, Int.toNat_natCast, show IntKind.u64.bits = 64 from rfl, e2, wrap_u64 (n := v) (by omega), show (v : Int) * 2 ^ (8 * (k % 8)) = ((v * 2 ^ (8 * (k % 8)) : Nat) : Int) by rw [Int.natCast_mul, Int.natCast_pow]; rfl, wrap_u64 hle, or_nat64 _ _ hs2 hle, or_add hs]
theorem setAt_eq {B : Nat → Nat} (hB : ∀ j, B j < 256) (q k : Nat) : setAt q ((W B q (min 8 (k - 8 * q)) : Nat) : Int) ((B k : Nat) : Int) k = ((W B q (min 8 (k + 1 - 8 * q)) : Nat) : Int) := by
  unfold setAt
  split
  · rename_i h
    have e : min 8 (k - 8 * q) = k % 8 := by omega
    have e' : min 8 (k + 1 - 8 * q) = k % 8 + 1 := by omega
    have e2 : 8 * q + k % 8 = k := by omega
    rw [e, e', setV_eq (W_lt hB q _) (hB k)]
    simp only [W, e2]
  · have e : min 8 (k + 1 - 8 * q) = min 8 (k - 8 * q) := by omega
    rw [e]
theorem gS_ok (b : ByteArray) (p : Nat) (hp : p + 32 ≤ b.size) (sh : Bool) : ∀ (m k : Nat), k + m = 32 →
    gS b m k (p + k) sh ((W (bt b p) 0 (min 8 (k - 8 * 0)) : Nat) : Int) ((W (bt b p) 1 (min 8 (k - 8 * 1)) : Nat) : Int) ((W (bt b p) 2 (min 8 (k - 8 * 2)) : Nat) : Int) ((W (bt b p) 3 (min 8 (k - 8 * 3)) : Nat) : Int) =
      ((((W (bt b p) 0 8 : Nat) : Int), ((W (bt b p) 1 8 : Nat) : Int), ((W (bt b p) 2 8 : Nat) : Int), ((W (bt b p) 3 8 : Nat) : Int)), p + 32, sh)
  | 0, k, h => by
    obtain rfl : k = 32 := by omega
    rfl
  | m + 1, k, h => by
    have e1 : nxV b (p + k) = ((bt b p k : Nat) : Int) := by rw [bt_eq]; unfold nxV; rw [if_pos (by omega)]
    have e2 : nxP b (p + k) = p + (k + 1) := by unfold nxP; rw [if_pos (by omega)]; omega
    have e3 : nxS b (p + k) sh = sh := by unfold nxS; rw [if_pos (by omega)]
    simp only [gS]
    rw [e1, e2, e3, setAt_eq (bt_lt b p), setAt_eq (bt_lt b p), setAt_eq (bt_lt b p), setAt_eq (bt_lt b p)]
    exact gS_ok b p hp sh m (k + 1) (by omega)
theorem orB_eq {s k : Nat} (hs : s < 2 ^ (k % 64)) : orB (s : Int) k = ((s + 2 ^ (k % 64) : Nat) : Int) := by
  have e2 : min (k % 64) 64 = k % 64 := by omega
  have hle : 1 * 2 ^ (k % 64) < 2 ^ 64 := by rw [Nat.one_mul]; exact Nat.pow_lt_pow_right (by omega) (by omega)
  have hs2 : s < 2 ^ 64 := Nat.lt_of_lt_of_le hs (Nat.pow_le_pow_right (by omega) (by omega))
  unfold orB
  rw [Int.tmod_eq_emod_of_nonneg (by omega), show ((k : Int) % 64).toNat = k % 64 by omega, show IntKind.u64.bits = 64 from rfl, e2, show (1 : Int) * 2 ^ (k % 64) = ((1 * 2 ^ (k % 64) : Nat) : Int) by rw [Int.natCast_mul, Int.natCast_pow]; rfl, wrap_u64 hle, or_nat64 _ _ hs2 hle, or_add hs, Nat.one_mul]
theorem bitAt_eq (b : ByteArray) (p k : Nat) : bitAt b p k = (((bt b p (k / 8)) / 2 ^ (k % 8) % 2 : Nat) : Int) := by
  unfold bitAt
  rw [← bt_eq, Int.tmod_eq_emod_of_nonneg (show (0 : Int) ≤ (k : Int) by omega), show ((k : Int) % 8).toNat = k % 8 by omega, show IntKind.i64.bits = 64 from rfl, show min (k % 8) 64 = k % 8 by omega, show (2 : Int) ^ (k % 8) = ((2 ^ (k % 8) : Nat) : Int) by rw [Int.natCast_pow]; rfl, Int.fdiv_eq_ediv_of_nonneg _ (Int.natCast_nonneg _), ← Int.natCast_ediv, Int.tmod_eq_emod_of_nonneg (Int.natCast_nonneg _)]
  rfl
theorem mod_min_step {w q k : Nat} (h : ¬ k / 64 = q) : w % 2 ^ (min 64 (k + 1 - 64 * q)) = w % 2 ^ (min 64 (k - 64 * q)) := by
  have e : min 64 (k + 1 - 64 * q) = min 64 (k - 64 * q) := by omega
  rw [e]
theorem mod_min_in {w q k : Nat} (h : k / 64 = q) : w % 2 ^ (min 64 (k + 1 - 64 * q)) = w % 2 ^ (k % 64) + 2 ^ (k % 64) * (w / 2 ^ (k % 64) % 2) := by
  have e : min 64 (k + 1 - 64 * q) = k % 64 + 1 := by omega
  rw [e, Nat.mod_pow_succ]
theorem withAt_eq (b : ByteArray) (p q k : Nat) (hb1 : bitAt b p k = 1) : withAt q ((W (bt b p) q 8 % 2 ^ (min 64 (k - 64 * q)) : Nat) : Int) k = ((W (bt b p) q 8 % 2 ^ (min 64 (k + 1 - 64 * q)) : Nat) : Int) := by
  unfold withAt
  split
  · rename_i h
    have e : min 64 (k - 64 * q) = k % 64 := by omega
    have hb2 : (bt b p (k / 8)) / 2 ^ (k % 8) % 2 = 1 := by rw [bitAt_eq] at hb1; omega
    have hbit := W_bit (bt_lt b p) q (i := k % 64 / 8) (r := k % 8) (by omega) (by omega)
    rw [show 8 * (k % 64 / 8) + k % 8 = k % 64 by omega, show 8 * q + k % 64 / 8 = k / 8 by omega, hb2] at hbit
    rw [mod_min_in h, e, orB_eq (Nat.mod_lt _ (Nat.two_pow_pos _)), hbit, Nat.mul_one]
  · rename_i h
    rw [mod_min_step h]
theorem skip_eq (b : ByteArray) (p q k : Nat) (hb1 : ¬ bitAt b p k = 1) : W (bt b p) q 8 % 2 ^ (min 64 (k - 64 * q)) = W (bt b p) q 8 % 2 ^ (min 64 (k + 1 - 64 * q)) := by
  by_cases h : k / 64 = q
  · have e : min 64 (k - 64 * q) = k % 64 := by omega
    have hb2 : (bt b p (k / 8)) / 2 ^ (k % 8) % 2 = 0 := by rw [bitAt_eq] at hb1; omega
    have hbit := W_bit (bt_lt b p) q (i := k % 64 / 8) (r := k % 8) (by omega) (by omega)
    rw [show 8 * (k % 64 / 8) + k % 8 = k % 64 by omega, show 8 * q + k % 64 / 8 = k / 8 by omega, hb2] at hbit
    rw [mod_min_in h, e, hbit, Nat.mul_zero, Nat.add_zero]
  · rw [mod_min_step h]
theorem rS_ok (b : ByteArray) (p : Nat) : ∀ (m k : Nat), k + m = 256 →
    rS b p m k ((W (bt b p) 0 8 % 2 ^ (min 64 (k - 64 * 0)) : Nat) : Int) ((W (bt b p) 1 8 % 2 ^ (min 64 (k - 64 * 1)) : Nat) : Int) ((W (bt b p) 2 8 % 2 ^ (min 64 (k - 64 * 2)) : Nat) : Int) ((W (bt b p) 3 8 % 2 ^ (min 64 (k - 64 * 3)) : Nat) : Int) =
      (((W (bt b p) 0 8 : Nat) : Int), ((W (bt b p) 1 8 : Nat) : Int), ((W (bt b p) 2 8 : Nat) : Int), ((W (bt b p) 3 8 : Nat) : Int))
  | 0, k, h => by
    obtain rfl : k = 256 := by omega
    have l : ∀ q, W (bt b p) q 8 % 2 ^ 64 = W (bt b p) q 8 := fun q => Nat.mod_eq_of_lt (W_lt (bt_lt b p) q 8)
    simp only [rS, show min 64 (256 - 64 * 0) = 64 from rfl, show min 64 (256 - 64 * 1) = 64 from rfl, show min 64 (256 - 64 * 2) = 64 from rfl, show min 64 (256 - 64 * 3) = 64 from rfl, l]
  | m + 1, k, h => by
    simp only [rS]
    split
    · rename_i hb1
      rw [withAt_eq b p _ k hb1, withAt_eq b p _ k hb1, withAt_eq b p _ k hb1, withAt_eq b p _ k hb1]
      exact rS_ok b p m (k + 1) (by omega)
    · rename_i hb1
      rw [skip_eq b p _ k hb1, skip_eq b p _ k hb1, skip_eq b p _ k hb1, skip_eq b p _ k hb1]
      exact rS_ok b p m (k + 1) (by omega)
theorem sets_eq (b : ByteArray) (p : Nat) (hp : p + 32 ≤ b.size) (sh : Bool) : gSet true b p sh = (rS b p 256 0 0 0 0 0, p + 32, sh) := by
  have h1 : gS b 32 0 p sh 0 0 0 0 = _ := gS_ok b p hp sh 32 0 rfl
  have h2 := rS_ok b p 256 0 rfl
  have z : ∀ q, W (bt b p) q 8 % 2 ^ (min 64 (0 - 64 * q)) = 0 := fun q => by rw [show min 64 (0 - 64 * q) = 0 by omega, Nat.pow_zero, Nat.mod_one]
  rw [z, z, z, z] at h2
  unfold gSet
  rw [if_pos rfl, h1, show rS b p 256 0 0 0 0 0 = _ from h2]
end Go.Proofs.YthcpaohmajjopaaDoor.I
set_option linter.unusedVariables false
set_option linter.unusedSimpArgs false
namespace Go.Proofs.YthcpaohmajjopaaDoor.I
open Go Go.Proofs.YthcpaohmajjopaaDoor.AM
theorem nxS_t (b : ByteArray) (p : Nat) : nxS b p true = true := by unfold nxS; split <;> rfl
theorem txS_t (b : ByteArray) (p n : Nat) : txS b p n true = true := by unfold txS; split <;> rfl
theorem gS_t (b : ByteArray) : ∀ (m k p : Nat) (s0 s1 s2 s3 : Int), (gS b m k p true s0 s1 s2 s3).2.2 = true
  | 0, _, _, _, _, _, _ => rfl
  | m + 1, k, p, s0, s1, s2, s3 => by simp only [gS, nxS_t]; exact gS_t b m _ _ _ _ _ _
theorem gS_short (b : ByteArray) : ∀ (m k p : Nat) (sh : Bool) (s0 s1 s2 s3 : Int), b.size < p + m → 0 < m → (gS b m k p sh s0 s1 s2 s3).2.2 = true
  | m + 1, k, p, sh, s0, s1, s2, s3, h, _ => by
    simp only [gS]
    by_cases hp : p < b.size
    · have e : nxP b p = p + 1 := by unfold nxP; rw [if_pos hp]
      rw [e]
      by_cases hm : m = 0
      · omega
      · exact gS_short b m _ _ _ _ _ _ _ (by omega) (by omega)
    · have e : nxS b p sh = true := by unfold nxS; rw [if_neg hp]
      rw [e]; exact gS_t b m _ _ _ _ _ _
theorem gSet_t (f : Bool) (b : ByteArray) (p : Nat) : (gSet f b p true).2.2 = true := by
  unfold gSet; split
  · exact gS_t b _ _ _ _ _ _ _
  · rfl
theorem gT_t (f : Bool) (b : ByteArray) (p : Nat) : (gT f b p true).2.2 = true := by
  unfold gT; split
  · simp only [nxS_t, txS_t]
  · rfl
theorem gB_t (f : Bool) (b : ByteArray) (p : Nat) : (gB f b p true).2.2 = true := by
  unfold gB; split
  · exact nxS_t b p
  · rfl
theorem gA_ok {b : ByteArray} {p : Nat} (sh : Bool) (h : p + 2 ≤ b.size) : gA true b p sh = (twoF b p, p + 2, sh) := by
  have e0 : nxV b p = byteAt b p := by unfold nxV; rw [if_pos (by omega)]
  have e1 : nxP b p = p + 1 := by unfold nxP; rw [if_pos (by omega)]
  have e2 : nxV b (p + 1) = byteAt b ((p : Int) + 1) := by unfold nxV; rw [if_pos (by omega)]; rfl
  have e3 : nxP b (p + 1) = p + 2 := by unfold nxP; rw [if_pos (by omega)]
  have e4 : nxS b p sh = sh := by unfold nxS; rw [if_pos (by omega)]
  have e5 : nxS b (p + 1) sh = sh := by unfold nxS; rw [if_pos (by omega)]
  unfold gA
  rw [if_pos rfl, e1, e0, e2, e3, e4, e5, ai16_eq _ _ (byteAt_0 b _) (byteAt_1 b _) (byteAt_0 b _) (byteAt_1 b _)]
  rfl
theorem gA_short {b : ByteArray} {p : Nat} (sh : Bool) (h : b.size < p + 2) : (gA true b p sh).2.2 = true := by
  unfold gA
  rw [if_pos rfl]
  by_cases hp : p < b.size
  · have e1 : nxP b p = p + 1 := by unfold nxP; rw [if_pos (by omega)]
    simp only [e1]
    unfold nxS; rw [if_neg (by omega)]
  · have e4 : nxS b p sh = true := by unfold nxS; rw [if_neg (by omega)]
    simp only [e4, nxS_t]
theorem gB_ok {b : ByteArray} {p : Nat} (sh : Bool) (h : p + 1 ≤ b.size) : gB true b p sh = (byteAt b (p : Int), p + 1, sh) := by
  unfold gB nxV nxP nxS
  rw [if_pos rfl, if_pos (by omega), if_pos (by omega), if_pos (by omega)]
theorem gB_short {b : ByteArray} {p : Nat} (sh : Bool) (h : b.size < p + 1) : (gB true b p sh).2.2 = true := by
  unfold gB nxS
  rw [if_pos rfl, if_neg (show ¬ p < b.size by omega)]
theorem gT_ok {b : ByteArray} {p : Nat} (sh : Bool) (h : p + 1 + (byteAt b (p : Int)).toNat ≤ b.size) : gT true b p sh = (b.extract (p + 1) (p + 1 + (byteAt b (p : Int)).toNat), p + 1 + (byteAt b (p : Int)).toNat, sh) := by
  have e0 : nxV b p = byteAt b p := by unfold nxV; rw [if_pos (by omega)]
  have e1 : nxP b p = p + 1 := by unfold nxP; rw [if_pos (by omega)]
  have e4 : nxS b p sh = sh := by unfold nxS; rw [if_pos (by omega)]
  unfold gT
  rw [if_pos rfl, e0, e1, e4]
  unfold txT txP txS
  rw [if_pos h, if_pos h, if_pos h]
theorem gT_short {b : ByteArray} {p : Nat} (sh : Bool) (h : b.size < p + 1 ∨ b.size < p + 1 + (byteAt b (p : Int)).toNat) : (gT true b p sh).2.2 = true := by
  unfold gT
  rw [if_pos rfl]
  by_cases hp : p < b.size
  · have e0 : nxV b p = byteAt b p := by unfold nxV; rw [if_pos (by omega)]
    have e1 : nxP b p = p + 1 := by unfold nxP; rw [if_pos (by omega)]
    simp only [e0, e1]
    unfold txS; rw [if_neg (by omega)]
  · have e4 : nxS b p sh = true := by unfold nxS; rw [if_neg (by omega)]
    simp only [e4, txS_t]
theorem gSet_short {b : ByteArray} {p : Nat} (sh : Bool) (h : b.size < p + 32) : (gSet true b p sh).2.2 = true := by
  unfold gSet
  rw [if_pos rfl]
  exact gS_short b 32 0 p sh 0 0 0 0 (by omega) (by omega)
/-- the same instruction, or both say that bytes are missing -/
def SameOne (op : Int) (I : Ins × Nat × Bool) (o : Ins × Int) : Prop := (I.2.2 = false → o = (I.1, (I.2.1 : Int))) ∧ (I.2.2 = true → o.2 = -1 ∧ o.1.op = op)
theorem one_gen (f1 f2 f4 f8 f16 : Bool) (h48 : f4 = true → f8 = false) (op : Int) (b : ByteArray) (p : Nat) : SameOne op (insR (f1 || f2) (f4 || f8) f8 f8 f16 op b (p + 1) false) (oneF f1 f2 f4 f8 f16 op b p) := by
  simp only [insR, oneF]
  generalize (f1 || f2) = fa
  have tail : ∀ (a b' n : Int) (t : ByteArray) (q : Nat), SameOne op (⟨op, a, b', n, t, (gSet f16 b q false).1.1, (gSet f16 b q false).1.2.1, (gSet f16 b q false).1.2.2.1, (gSet f16 b q false).1.2.2.2⟩, (gSet f16 b q false).2)
      (if f16 = true ∧ b.size < q + 32 then (⟨op, a, b', n, t, 0, 0, 0, 0⟩, -1) else
        (⟨op, a, b', n, t, (if f16 = true then rS b q 256 0 0 0 0 0 else (0, 0, 0, 0)).1, (if f16 = true then rS b q 256 0 0 0 0 0 else (0, 0, 0, 0)).2.1, (if f16 = true then rS b q 256 0 0 0 0 0 else (0, 0, 0, 0)).2.2.1, (if f16 = true then rS b q 256 0 0 0 0 0 else (0, 0, 0, 0)).2.2.2⟩, if f16 = true then ((q + 32 : Nat) : Int) else (q : Int))) := by
    intro a b' n t q
    cases f16 with
    | false => exact ⟨fun _ => by simp [gSet], fun h => by simp [gSet] at h⟩
    | true =>
      by_cases h : b.size < q + 32
      · rw [if_pos ⟨rfl, h⟩]
        exact ⟨fun h2 => (by simp only [gSet_short false h] at h2; cases h2), fun _ => ⟨rfl, rfl⟩⟩
      · rw [if_neg (fun hh => h hh.2), sets_eq b q (by omega) false]
        exact ⟨fun _ => rfl, fun h => by cases h⟩
  have late : ∀ (a b' n : Int) (t : ByteArray) (q : Nat) (S : (Int × Int × Int × Int) × Nat × Bool) (o : Ins × Int), S.2.2 = true → o.2 = -1 → o.1.op = op → SameOne op (⟨op, a, b', n, t, S.1.1, S.1.2.1, S.1.2.2.1, S.1.2.2.2⟩, S.2) o :=
    fun a b' n t q S o h1 h2 h3 => ⟨fun h => (by simp only [h1] at h; cases h), fun _ => ⟨h2, h3⟩⟩
  have stT : ∀ (a b' n : Int) (q : Nat) (f8 : Bool) (sh : Bool) (o : Ins × Int), sh = true → o.2 = -1 → o.1.op = op →
      SameOne op (⟨op, a, b', n, (gT f8 b q sh).1, (gSet f16 b (gT f8 b q sh).2.1 (gT f8 b q sh).2.2).1.1, (gSet f16 b (gT f8 b q sh).2.1 (gT f8 b q sh).2.2).1.2.1, (gSet f16 b (gT f8 b q sh).2.1 (gT f8 b q sh).2.2).1.2.2.1, (gSet f16 b (gT f8 b q sh).2.1 (gT f8 b q sh).2.2).1.2.2.2⟩, (gSet f16 b (gT f8 b q sh).2.1 (gT f8 b q sh).2.2).2) o := by
    intro a b' n q f8 sh o h1 h2 h3
    subst h1
    exact late _ _ _ _ 0 _ o (by rw [gT_t, gSet_t]) h2 h3
  have stN : ∀ (a b' : Int) (q : Nat) (f8 : Bool) (sh : Bool) (o : Ins × Int), sh = true → o.2 = -1 → o.1.op = op →
      SameOne op (⟨op, a, b', (gB f8 b q sh).1, (gT f8 b (gB f8 b q sh).2.1 (gB f8 b q sh).2.2).1, (gSet f16 b (gT f8 b (gB f8 b q sh).2.1 (gB f8 b q sh).2.2).2.1 (gT f8 b (gB f8 b q sh).2.1 (gB f8 b q sh).2.2).2.2).1.1, (gSet f16 b (gT f8 b (gB f8 b q sh).2.1 (gB f8 b q sh).2.2).2.1 (gT f8 b (gB f8 b q sh).2.1 (gB f8 b q sh).2.2).2.2).1.2.1, (gSet f16 b (gT f8 b (gB f8 b q sh).2.1 (gB f8 b q sh).2.2).2.1 (gT f8 b (gB f8 b q sh).2.1 (gB f8 b q sh).2.2).2.2).1.2.2.1, (gSet f16 b (gT f8 b (gB f8 b q sh).2.1 (gB f8 b q sh).2.2).2.1 (gT f8 b (gB f8 b q sh).2.1 (gB f8 b q sh).2.2).2.2).1.2.2.2⟩, (gSet f16 b (gT f8 b (gB f8 b q sh).2.1 (gB f8 b q sh).2.2).2.1 (gT f8 b (gB f8 b q sh).2.1 (gB f8 b q sh).2.2).2.2).2) o := by
    intro a b' q f8 sh o h1 h2 h3
    subst h1
    exact stT _ _ _ _ _ _ o (gB_t _ _ _) h2 h3
  have bOff : ∀ q sh, gB false b q sh = (0, q, sh) := fun q sh => rfl
  have tOff : ∀ q sh, gT false b q sh = (⟨#[]⟩, q, sh) := fun q sh => rfl
  -- from B on
  have midB : ∀ (a : Int) (q : Nat),
      SameOne op (⟨op, a, (gB (f4 || f8) b q false).1, (gB f8 b (gB (f4 || f8) b q false).2.1 (gB (f4 || f8) b q false).2.2).1, (gT f8 b (gB f8 b (gB (f4 || f8) b q false).2.1 (gB (f4 || f8) b q false).2.2).2.1 (gB f8 b (gB (f4 || f8) b q false).2.1 (gB (f4 || f8) b q false).2.2).2.2).1,
        (gSet f16 b (gT f8 b (gB f8 b (gB (f4 || f8) b q false).2.1 (gB (f4 || f8) b q false).2.2).2.1 (gB f8 b (gB (f4 || f8) b q false).2.1 (gB (f4 || f8) b q false).2.2).2.2).2.1 (gT f8 b (gB f8 b (gB (f4 || f8) b q false).2.1 (gB (f4 || f8) b q false).2.2).2.1 (gB f8 b (gB (f4 || f8) b q false).2.1 (gB (f4 || f8) b q false).2.2).2.2).2.2).1.1,
        (gSet f16 b (gT f8 b (gB f8 b (gB (f4 || f8) b q false).2.1 (gB (f4 || f8) b q false).2.2).2.1 (gB f8 b (gB (f4 || f8) b q false).2.1 (gB (f4 || f8) b q false).2.2).2.2).2.1 (gT f8 b (gB f8 b (gB (f4 || f8) b q false).2.1 (gB (f4 || f8) b q false).2.2).2.1 (gB f8 b (gB (f4 || f8) b q false).2.1 (gB (f4 || f8) b q false).2.2).2.2).2.2).1.2.1,
        (gSet f16 b (gT f8 b (gB f8 b (gB (f4 || f8) b q false).2.1 (gB (f4 || f8) b q false).2.2).2.1 (gB f8 b (gB (f4 || f8) b q false).2.1 (gB (f4 || f8) b q false).2.2).2.2).2.1 (gT f8 b (gB f8 b (gB (f4 || f8) b q false).2.1 (gB (f4 || f8) b q false).2.2).2.1 (gB f8 b (gB (f4 || f8) b q false).2.1 (gB (f4 || f8) b q false).2.2).2.2).2.2).1.2.2.1,
        (gSet f16 b (gT f8 b (gB f8 b (gB (f4 || f8) b q false).2.1 (gB (f4 || f8) b q false).2.2).2.1 (gB f8 b (gB (f4 || f8) b q false).2.1 (gB (f4 || f8) b q false).2.2).2.2).2.1 (gT f8 b (gB f8 b (gB (f4 || f8) b q false).2.1 (gB (f4 || f8) b q false).2.2).2.1 (gB f8 b (gB (f4 || f8) b q false).2.1 (gB (f4 || f8) b q false).2.2).2.2).2.2).1.2.2.2⟩,
        (gSet f16 b (gT f8 b (gB f8 b (gB (f4 || f8) b q false).2.1 (gB (f4 || f8) b q false).2.2).2.1 (gB f8 b (gB (f4 || f8) b q false).2.1 (gB (f4 || f8) b q false).2.2).2.2).2.1 (gT f8 b (gB f8 b (gB (f4 || f8) b q false).2.1 (gB (f4 || f8) b q false).2.2).2.1 (gB f8 b (gB (f4 || f8) b q false).2.1 (gB (f4 || f8) b q false).2.2).2.2).2.2).2)
      (if f4 = true ∧ b.size < q + 1 then (⟨op, a, 0, 0, ⟨#[]⟩, 0, 0, 0, 0⟩, -1) else
        if f8 = true ∧ (b.size < (if f4 = true then q + 1 else q) + 3 ∨ b.size < (if f4 = true then q + 1 else q) + 3 + (byteAt b (((if f4 = true then q + 1 else q) + 2 : Nat) : Int)).toNat) then (⟨op, a, if f4 = true then byteAt b (q : Int) else 0, 0, ⟨#[]⟩, 0, 0, 0, 0⟩, -1) else
        if f16 = true ∧ b.size < (if f8 = true then (if f4 = true then q + 1 else q) + 3 + (byteAt b (((if f4 = true then q + 1 else q) + 2 : Nat) : Int)).toNat else if f4 = true then q + 1 else q) + 32 then
          (⟨op, a, if f8 = true then byteAt b ((if f4 = true then q + 1 else q : Nat) : Int) else if f4 = true then byteAt b (q : Int) else 0, if f8 = true then byteAt b (((if f4 = true then q + 1 else q) + 1 : Nat) : Int) else 0, if f8 = true then b.extract ((if f4 = true then q + 1 else q) + 3) ((if f4 = true then q + 1 else q) + 3 + (byteAt b (((if f4 = true then q + 1 else q) + 2 : Nat) : Int)).toNat) else ⟨#[]⟩, 0, 0, 0, 0⟩, -1) else
        (⟨op, a, if f8 = true then byteAt b ((if f4 = true then q + 1 else q : Nat) : Int) else if f4 = true then byteAt b (q : Int) else 0, if f8 = true then byteAt b (((if f4 = true then q + 1 else q) + 1 : Nat) : Int) else 0, if f8 = true then b.extract ((if f4 = true then q + 1 else q) + 3) ((if f4 = true then q + 1 else q) + 3 + (byteAt b (((if f4 = true then q + 1 else q) + 2 : Nat) : Int)).toNat) else ⟨#[]⟩,
            (if f16 = true then rS b (if f8 = true then (if f4 = true then q + 1 else q) + 3 + (byteAt b (((if f4 = true then q + 1 else q) + 2 : Nat) : Int)).toNat else if f4 = true then q + 1 else q) 256 0 0 0 0 0 else (0, 0, 0, 0)).1,
            (if f16 = true then rS b (if f8 = true then (if f4 = true then q + 1 else q) + 3 + (byteAt b (((if f4 = true then q + 1 else q) + 2 : Nat) : Int)).toNat else if f4 = true then q + 1 else q) 256 0 0 0 0 0 else (0, 0, 0, 0)).2.1,
            (if f16 = true then rS b (if f8 = true then (if f4 = true then q + 1 else q) + 3 + (byteAt b (((if f4 = true then q + 1 else q) + 2 : Nat) : Int)).toNat else if f4 = true then q + 1 else q) 256 0 0 0 0 0 else (0, 0, 0, 0)).2.2.1,
            (if f16 = true then rS b (if f8 = true then (if f4 = true then q + 1 else q) + 3 + (byteAt b (((if f4 = true then q + 1 else q) + 2 : Nat) : Int)).toNat else if f4 = true then q + 1 else q) 256 0 0 0 0 0 else (0, 0, 0, 0)).2.2.2⟩,
          if f16 = true then (((if f8 = true then (if f4 = true then q + 1 else q) + 3 + (byteAt b (((if f4 = true then q + 1 else q) + 2 : Nat) : Int)).toNat else if f4 = true then q + 1 else q) + 32 : Nat) : Int) else ((if f8 = true then (if f4 = true then q + 1 else q) + 3 + (byteAt b (((if f4 = true then q + 1 else q) + 2 : Nat) : Int)).toNat else if f4 = true then q + 1 else q : Nat) : Int))) := by
    intro a q
    cases f4 with
    | true =>
      obtain rfl := h48 rfl
      simp only [Bool.or_false, bOff, tOff, if_true, true_and, Bool.false_eq_true, if_false, false_and]
      by_cases h : b.size < q + 1
      · rw [if_pos h]
        exact late _ _ _ _ 0 _ _ (by rw [gB_short false h, gSet_t]) rfl rfl
      · rw [if_neg h, gB_ok false (by omega)]
        exact tail _ _ _ _ _
    | false =>
      cases f8 with
      | false =>
        simp only [Bool.or_false, bOff, tOff, if_true, true_and, Bool.false_eq_true, if_false, false_and]
        exact tail _ _ _ _ _
      | true =>
        simp only [Bool.or_true, if_true, true_and, Bool.false_eq_true, if_false, false_and]
        by_cases h1 : b.size < q + 1
        · rw [if_pos (by omega)]
          exact stN _ _ _ _ _ _ (gB_short false h1) rfl rfl
        rw [gB_ok false (by omega)]
        simp only
        by_cases h2 : b.size < q + 2
        · rw [if_pos (by omega)]
          exact stT _ _ _ _ _ _ _ (gB_short false h2) rfl rfl
        rw [gB_ok false (by omega)]
        simp only [Nat.add_assoc, Nat.reduceAdd]
        by_cases h3 : b.size < q + 3 ∨ b.size < q + (3 + (byteAt b ((q + 2 : Nat) : Int)).toNat)
        · rw [if_pos h3]
          exact late _ _ _ _ 0 _ _ (by rw [gT_short false (by omega), gSet_t]) rfl rfl
        rw [if_neg h3, gT_ok false (by omega)]
        simp only [Nat.add_assoc, Nat.reduceAdd]
        have := tail a (byteAt b (q : Int)) (byteAt b ((q + 1 : Nat) : Int)) (b.extract (q + 3) (q + (3 + (byteAt b ((q + 2 : Nat) : Int)).toNat))) (q + (3 + (byteAt b ((q + 2 : Nat) : Int)).toNat))
        simpa only [Nat.add_assoc, Nat.reduceAdd] using this
  cases fa with
  | false =>
    simp only [Bool.false_eq_true, if_false, false_and]
    exact midB 0 (p + 1)
  | true =>
    simp only [if_true, true_and]
    by_cases h : b.size < p + 3
    · rw [if_pos h]
      have hA := gA_short (b := b) (p := p + 1) false (by omega)
      exact late _ _ _ _ 0 _ _ (by rw [hA, gB_t, gB_t, gT_t, gSet_t]) rfl rfl
    · rw [if_neg h, gA_ok false (by omega)]
      exact midB (twoF b (p + 1)) (p + 3)
end Go.Proofs.YthcpaohmajjopaaDoor.I
set_option linter.unusedVariables false
set_option linter.unusedSimpArgs false
namespace Go.Proofs.YthcpaohmajjopaaDoor.I
open Go Go.Proofs.YthcpaohmajjopaaDoor.AM
variable {X : Cx}
theorem flags_tab : ∀ k : Fin 21, 1 ≤ k.val → hasB k.val 1 = (refB (refF k.val) 1 || refB (refF k.val) 2) ∧ hasB k.val 2 = (refB (refF k.val) 4 || refB (refF k.val) 8) ∧ hasB k.val 4 = refB (refF k.val) 8 ∧ hasB k.val 8 = refB (refF k.val) 8 ∧ hasB k.val 16 = refB (refF k.val) 16 ∧ (refB (refF k.val) 4 = true → refB (refF k.val) 8 = false) := by decide +kernel
theorem one_ins (b : ByteArray) (p : Nat) (h1 : 1 ≤ byteAt b (p : Int)) (h2 : byteAt b (p : Int) ≤ 20) : SameOne (byteAt b (p : Int)) (insK b p) (oneR b p) := by
  obtain ⟨hk, ek⟩ := byte_k b p
  obtain ⟨g1, g2, g4, g8, g16, g48⟩ := flags_tab ⟨(byteAt b (p : Int)).toNat, by omega⟩ (by show 1 ≤ (byteAt b (p : Int)).toNat; omega)
  simp only at g1 g2 g4 g8 g16 g48
  unfold insK oneR
  rw [if_neg (by omega), g1, g2, g4, g8, g16, ek]
  exact one_gen _ _ _ _ _ g48 _ b p
theorem r13 (b : ByteArray) (hb : b.size ≤ 140737488351232) (r : List Ins × Int × Int) (hr : readA b = r) : R X Tryd.prog 13 [.lf (.str b)] []
      (.tp [.lf (.lst .ro 9 (r.1.map Ins.c) []), .ag [.int .i64 r.2.1, .int .i64 r.2.2]]) [] := by
  unfold readA at hr
  have key : ∀ (n : Nat), n ≤ 65535 → ∀ (m i : Nat) (p : Nat) (code : List Ins) (pl : List Int) (ls ps : List (List L)), ls = code.map Ins.c → ps = (pl.map fun x => [L.int .i64 x]) → i + m = n → p ≤ b.size → pl.length = code.length → code.length = i → rd b m p code pl = r →
      LoopAt X Tryd.prog c13_24 [0, 3, 4, 5, 6, 7] (blkK 0 (seqK X Tryd.prog c13_41 (retS [] [256] 0 [RV.t 2, RV.c 3 2 true] (PV.tp [PV.lf (L.lst Tag.ro 9 (List.map Ins.c r.fst) []), PV.ag [L.int IntKind.i64 r.snd.fst, L.int IntKind.i64 r.snd.snd]]) [])))
        { m := 0, tm := [(0, PV.lf (L.str b)), (3, PV.lf (L.ptr 3 0)), (4, PV.lf (L.lst (Tag.own 512 52) 9 ls [])), (5, PV.lf (L.lst (Tag.own 640 3) 1 ps [])), (6, PV.lf (L.int IntKind.i64 (p : Int))), (7, PV.lf (L.int IntKind.i64 (n : Int)))],
          ce := [(3, [L.int IntKind.i64 0, L.int IntKind.i64 0])] } := by
    clear hr
    intro n hn m
    induction m with
    | zero =>
      intro i p code pl ls ps hls hps hi hp hl hcl hr
      obtain rfl : i = n := by omega
      simp only [rd] at hr
      have hlen : ls.length = i := by rw [hls, List.length_map]; exact hcl
      have hnl : ¬ ((i : Nat) : Int) < (i : Int) := by omega
      intro Z hZ; apply hZ
      have hrg := chk_range capX code
      have h35 := r35 (X := X) code []
      simp -implicitDefEqProofs (maxSteps := 2000000) only [c13, hlen, hnl, ↓reduceIte, s_skip, s_exit, s_ret, s_ops0, s_seq, s_cond, s_opsK, s_seqK_n, s_seqK_e, s_seqK_r, s_blkK_e, s_loopK_e, s_cnd, s_nil, s_cons, s_wopsK, s_putK, o_mv, o_as, o_bin, v_lss, o_st, v_st_p, v_stCK, o_bd, v_agK, v_bd_n, v_bd_c, o_len, v_len, o_lns, v_lns, o_call, e_t, e_k, e_put, e_get, e_res, e_keep_n, e_keep_c, e_keep1_s, List.length_nil, List.length_cons, Option.getD_some, Nat.reduceEqDiff, Nat.reduceAdd, reduceCtorEq, true_and, and_true, Bool.false_eq_true, decide_eq_true_eq, s_ret_r, s_retX, s_cells_n, t_tp, t_n, t_c, t_1l, t_1a, t_ln, t_lc, t_i, t_l, t_or, r_n, r_t, r_c, r_cons, r_cell, r_part_t, one_2, List.map_cons, List.map_nil, PV.leaves, List.flatMap_cons, List.flatMap_nil, List.append_nil, List.cons_append, List.nil_append, List.all_cons, List.all_nil, Bool.and_true, Bool.true_and, Bool.and_self, PV.cells, cellL, fillL, Nat.reduceMul, Nat.reduceBEq, Nat.reduceLeDiff, Nat.le_refl, List.take_zero, List.drop_zero, List.take_succ_cons, List.drop_succ_cons, List.drop_nil, List.take_nil, Option.bind_some, kp_b, kp_i, kp_p, kp_lo, rl_l, m_lf, m_ag, m_n, m_c, m_all, e_asg_n, st_b, d_n, d_c, plT, ne_eq, not_false_eq_true, Nat.zero_add, Nat.add_zero, true_or, or_true]
      intro _
      with_reducible refine ite_pr (fun h => ?_) (fun h => ?_)
      · rw [if_pos (by omega)] at hr
        subst hr
        exact ⟨⟨rfl, rfl⟩, rfl, rfl⟩
      rw [if_neg (by omega)] at hr
      subst hls hps
      simp only [chkAns] at hr
      generalize chk capX code = e at *
      refine wcall_s h35 rfl rfl ?_
      simp -implicitDefEqProofs (maxSteps := 2000000) only [c13, ↓reduceIte, s_skip, s_ret, s_ops0, s_ops1, s_seq, s_cond, s_opsK, s_seqK_n, s_seqK_r, s_cnd, s_nil, s_cons, s_guard, s_wopsK, s_wopsTK, s_putK, s_grd, s_tone, s_tcons, q_as, q_mv, q_bin, q_ia, q_ld, q_bd, o_mv, o_as, o_pk, v_pk, o_bin, v_eql, v_neq, o_ext, v_ext0, v_ext1, v_part_f, v_atK, o_ia, v_ia, o_ld, v_ld_m, o_st, v_st_p, v_stCK, o_bd, v_agK, v_bd_n, v_bd_c, e_t, e_k, e_put, e_get, e_res, e_keep_n, e_keep_c, e_keep1_s, e_asg_i, List.length_nil, List.length_cons, Option.getD_some, Nat.reduceEqDiff, Nat.reduceAdd, reduceCtorEq, true_and, and_true, cond_false, Bool.not_false, Bool.true_eq_false, Bool.false_eq_true, decide_eq_true_eq, decide_eq_false_iff_not, s_ret_r, s_retX, s_cells_n, t_tp, t_n, t_c, t_1l, t_1a, t_ln, t_lc, t_i, t_l, t_nr, t_or, r_n, r_t, r_c, r_cons, r_cell, r_part_t, one_2, St.clr, outV, ownsV, owns1, ownL, List.map_cons, List.map_nil, List.any_cons, List.any_nil, Bool.or_self, List.append_nil, List.cons_append, List.nil_append, List.all_cons, List.all_nil, Bool.and_true, Bool.true_and, Bool.and_self, PV.cells, cellL, fillL, Nat.reduceMul, Nat.reduceBEq, Nat.reduceLeDiff, Nat.le_refl, BEq.rfl, List.take_zero, List.drop_zero, List.take_succ_cons, List.drop_succ_cons, List.drop_nil, List.take_nil, List.getElem?_cons_zero, Option.bind_some, kp_b, kp_i, rk_b, rk_i, ol_i, kp_p, rk_p, kp_lo, rk_lo, m_lf, m_ag, m_tp, m_1l, m_n, m_c, m_all, e_asg_n, e_asg_o, st_b, d_n, d_c, plT, nO_ln, ne_eq, not_false_eq_true, Nat.zero_add, Nat.add_zero, true_or, or_true, ite_not]
      iterate 3 (all_goals try (with_reducible refine ite_pr (fun _ => ?_) (fun _ => ?_)))
      all_goals try contradiction
      · rw [if_pos (by assumption)] at hr
        subst hr
        exact ⟨⟨rfl, rfl⟩, rfl, rfl⟩
      · rw [if_neg (by assumption), if_pos (by omega)] at hr
        subst hr
        exact ⟨⟨rfl, rfl⟩, rfl, rfl⟩
      · rw [if_neg (by assumption), if_pos (by omega)] at hr
        subst hr
        exact ⟨⟨rfl, rfl⟩, rfl, rfl⟩
      · rw [if_neg (by assumption), if_neg (by omega)] at hr
        subst hr
        have := hrg (by assumption) (by assumption) (by assumption)
        exact ⟨⟨by omega, by simp; omega⟩, by omega, rfl, rfl, rfl⟩
    | succ m ih =>
      intro i p code pl ls ps hls hps hi hp hl hcl hr
      have hlen : ls.length = i := by rw [hls, List.length_map]; exact hcl
      have hlt : ((i : Nat) : Int) < (n : Int) := by omega
      intro Z hZ; apply hZ
      simp only [rd] at hr
      simp -implicitDefEqProofs (maxSteps := 2000000) only [c13, hlen, hlt, ↓reduceIte, s_skip, s_ret, s_ops0, s_seq, s_cond, s_block, s_opsK, s_seqK_n, s_seqK_r, s_blkK_r, s_loopK_r, s_cnd, s_nil, s_cons, s_wopsK, s_putK, o_mv, o_as, o_bin, v_eql, v_lss, o_st, v_st_p, v_stCK, o_bd, v_agK, v_bd_n, v_bd_c, o_len, v_len, o_lns, v_lns, o_call, e_t, e_k, e_put, e_get, e_res, e_keep_n, e_keep_c, e_keep1_s, List.length_nil, List.length_cons, Option.getD_some, Nat.reduceEqDiff, Nat.reduceAdd, reduceCtorEq, true_and, and_true, Bool.false_eq_true, decide_eq_true_eq, s_ret_r, s_retX, s_cells_n, t_tp, t_n, t_c, t_1l, t_1a, t_ln, t_lc, t_i, t_l, t_or, r_n, r_t, r_c, r_cons, r_cell, r_part_t, one_2, List.map_cons, List.map_nil, PV.leaves, List.flatMap_cons, List.flatMap_nil, List.append_nil, List.cons_append, List.nil_append, List.all_cons, List.all_nil, Bool.and_true, Bool.true_and, Bool.and_self, PV.cells, cellL, fillL, Nat.reduceMul, Nat.reduceBEq, Nat.reduceLeDiff, Nat.le_refl, List.take_zero, List.drop_zero, List.take_succ_cons, List.drop_succ_cons, List.drop_nil, List.take_nil, Option.bind_some, kp_b, kp_i, kp_s, rl_i, rl_s, kp_p, kp_lo, m_lf, m_ag, m_n, m_c, m_all, e_asg_n, st_b, d_n, d_c, plT, ne_eq, not_false_eq_true, Nat.zero_add, Nat.add_zero, true_or, or_true]
      intro _
      with_reducible refine ite_pr (fun h => ?_) (fun h => ?_)
      · rw [if_pos (by omega)] at hr
        subst hr
        rw [show p = b.size by omega]
        exact ⟨⟨rfl, rfl⟩, rfl, rfl⟩
      rw [if_neg (by omega)] at hr
      have h34 := r34 (X := X) b p hb (by omega) _ rfl
      by_cases hop : byteAt b p < 1 ∨ 20 < byteAt b p
      · rw [if_pos hop] at hr
        subst hr
        rw [show oneR b p = (⟨0, 0, 0, 0, ⟨#[]⟩, 0, 0, 0, 0⟩, -1) from if_pos hop] at h34
        refine wcall_s h34 rfl rfl ?_
        have hm1 : (-1 : Int) < 0 := by decide
        simp -implicitDefEqProofs (maxSteps := 2000000) only [c13, Ins.c, hm1, ↓reduceIte, s_ret, s_ops0, s_seq, s_cond, s_opsK, s_seqK_n, s_seqK_r, s_blkK_r, s_loopK_r, s_cnd, s_nil, s_cons, s_guard, s_wopsK, s_putK, s_grd, q_bin, q_fa, q_ld, o_mv, o_as, o_pk, v_pk, o_bin, v_eql, v_lss, o_ext, v_ext0, v_ext1, v_part_f, v_atK, o_al, o_fa, v_fa_p, o_ld, v_ld_p, v_ldC, o_st, v_st_p, v_stCK, o_bd, v_agK, v_bd_n, v_bd_c, e_t, e_k, e_put, e_get, e_res, e_keep_n, e_keep_c, e_keep1_s, e_asg_i, List.length_nil, List.length_cons, Option.getD_some, Nat.reduceEqDiff, Nat.reduceAdd, reduceCtorEq, true_and, and_true, cond_false, Bool.false_eq_true, decide_eq_true_eq, s_ret_r, s_retX, s_cells_n, t_tp, t_n, t_c, t_1l, t_1a, t_ln, t_lc, t_i, t_l, t_or, r_n, r_t, r_c, r_cons, r_cell, r_part_t, one_2, St.clr, outV, ownsV, owns1, ownL, List.map_cons, List.map_nil, List.any_cons, List.any_nil, Bool.or_self, List.append_nil, List.cons_append, List.nil_append, List.all_cons, List.all_nil, Bool.and_true, Bool.true_and, Bool.and_self, PV.cells, cellL, fillL, Nat.reduceMul, Nat.reduceBEq, Nat.reduceLeDiff, Nat.zero_le, Nat.le_refl, List.take_zero, List.drop_zero, List.take_succ_cons, List.drop_succ_cons, List.drop_nil, List.take_nil, List.getElem?_cons_zero, Option.bind_some, kp_b, kp_i, kp_s, kc_b, kc_i, kc_s, ol_i, ol_s, kp_p, kc_p, kc_l, kp_lo, m_lf, m_ag, m_tp, m_1l, m_1a, m_n, m_c, m_all, e_asg_n, st_b, d_n, d_c, plT, ne_eq, not_false_eq_true, Int.reduceNeg, Nat.zero_add, Nat.add_zero, true_or, or_true]
        rfl
      · rw [if_neg hop] at hr
        obtain ⟨k1, k2⟩ := one_ins b p (by omega) (by omega)
        have hle : (insK b p).2.1 ≤ b.size := insR_le (by omega)
        generalize oneR b p = o at *
        generalize insK b p = I at *
        refine wcall_s h34 rfl rfl ?_
        cases hs : I.2.2 with
        | true =>
          rw [hs, if_pos rfl] at hr
          subst hr
          obtain ⟨k3, k4⟩ := k2 hs
          have hm1 : (-1 : Int) < 0 := by decide
          have hne : ¬ byteAt b p = 0 := by omega
          simp -implicitDefEqProofs (maxSteps := 2000000) only [c13, Ins.c, k3, k4, hm1, hne, ↓reduceIte, s_skip, s_ret, s_ops0, s_seq, s_cond, s_opsK, s_seqK_n, s_seqK_r, s_blkK_r, s_loopK_r, s_cnd, s_nil, s_cons, s_guard, s_wopsK, s_putK, s_grd, q_bin, q_fa, q_ld, o_mv, o_as, o_pk, v_pk, o_bin, v_eql, v_lss, o_ext, v_ext0, v_ext1, v_part_f, v_atK, o_al, o_fa, v_fa_p, o_ld, v_ld_p, v_ldC, o_st, v_st_p, v_stCK, o_bd, v_agK, v_bd_n, v_bd_c, o_lns, v_lns, e_t, e_k, e_put, e_get, e_res, e_keep_n, e_keep_c, e_keep1_s, e_asg_i, List.length_nil, List.length_cons, Option.getD_some, Nat.reduceEqDiff, Nat.reduceAdd, reduceCtorEq, true_and, and_true, cond_false, Bool.false_eq_true, decide_eq_true_eq, s_ret_r, s_retX, s_cells_n, t_tp, t_n, t_c, t_1l, t_1a, t_ln, t_lc, t_i, t_l, t_or, r_n, r_t, r_c, r_cons, r_cell, r_part_t, one_2, St.clr, outV, ownsV, owns1, ownL, List.map_cons, List.map_nil, List.any_cons, List.any_nil, Bool.or_self, List.append_nil, List.cons_append, List.nil_append, List.all_cons, List.all_nil, Bool.and_true, Bool.true_and, Bool.and_self, PV.cells, cellL, fillL, Nat.reduceMul, Nat.reduceBEq, Nat.reduceLeDiff, Nat.zero_le, Nat.le_refl, List.take_zero, List.drop_zero, List.take_succ_cons, List.drop_succ_cons, List.drop_nil, List.take_nil, List.getElem?_cons_zero, Option.bind_some, kp_b, kp_i, kp_s, kc_b, kc_i, kc_s, ol_i, ol_s, kp_p, kc_p, kc_l, kp_lo, m_lf, m_ag, m_tp, m_1l, m_1a, m_n, m_c, m_all, e_asg_n, st_b, d_n, d_c, plT, ne_eq, not_false_eq_true, Int.reduceNeg, Nat.zero_add, Nat.add_zero, true_or, or_true]
          rfl
        | false =>
          rw [hs, if_neg (by decide)] at hr
          have k3 := k1 hs
          subst k3
          have hnn : ¬ ((I.2.1 : Nat) : Int) < 0 := by omega
          simp -implicitDefEqProofs (maxSteps := 2000000) only [c13, Ins.c, hnn, ↓reduceIte, s_skip, s_ops0, s_seq, s_cond, s_opsK, s_seqK_n, s_blkK_n, s_loopK_n, s_cnd, s_nil, s_cons, s_guard, s_wopsK, s_putK, s_grd, o_mv, o_as, o_pk, v_pk, o_bin, v_lss, o_ext, v_ext0, v_ext1, v_part_t, o_al, o_ld, v_ld_p, v_ldC, o_st, v_st_p, v_stCK, o_bs, v_bsK, v_lit_n, v_lit_c, o_app, v_app_o, e_t, e_k, e_put, e_get, e_res, e_keep_n, e_keep_c, e_keep1_s, e_asg_i, List.length_nil, List.length_cons, Option.getD_some, Nat.reduceEqDiff, Nat.reduceAdd, reduceCtorEq, true_and, Bool.not_true, Bool.false_eq_true, decide_eq_true_eq, St.clr, outV, ownsV, owns1, ownL, List.map_cons, List.map_nil, List.any_cons, List.any_nil, Bool.or_false, Bool.or_self, List.append_nil, List.nil_append, List.all_cons, List.all_nil, Bool.true_and, Bool.and_self, PV.cells, cellL, datL, fillL, Nat.reduceMul, Nat.reduceBEq, Nat.reduceLeDiff, Nat.zero_le, Nat.le_refl, BEq.rfl, List.take_zero, List.drop_zero, List.take_succ_cons, List.drop_succ_cons, List.drop_nil, List.take_nil, kp_b, kp_i, kp_s, kp_u, kc_b, kc_i, kc_s, rk_b, rk_i, rk_s, rk_u, rl_i, rl_s, ol_i, ol_s, kp_p, rk_p, kc_p, kc_l, kp_lo, rk_lo, m_lf, m_ag, m_tp, m_1l, m_1a, m_n, m_c, m_all, e_asg_o, e_head, e_headK, kC_n, kC_c, pO_n, pO_p, pO_i, pO_s, pO_l, st_b, d_n, d_c, dw_n, dw_i, dw_s, List.range_zero, plT, lit_n, lit_c, List.reduceReplicate, List.set_cons_zero, Nat.lt_add_one, Nat.zero_add, Nat.add_zero, or_false]
          exact ⟨by omega, by rw [hps, List.length_map]; omega, ih (i + 1) I.2.1 (code ++ [I.1]) (pl ++ [(p : Int)]) _ _ (by simp [Ins.c, hls]) (by simp [hps]) (by omega) hle (by simp [hl]) (by simp; omega) hr Z hZ⟩
  refine R_i [] [256] c13_ok rfl (by simp) ?_
  simp -implicitDefEqProofs (maxSteps := 2000000) only [c13, ↓reduceIte, s_skip, s_ret, s_ops0, s_ops1, s_seq, s_cond, s_block, s_loop, s_opsK, s_seqK_n, s_seqK_r, s_cnd, s_nil, s_cons, s_wopsK, s_wopsTK, s_putK, s_tone, s_tcons, q_mv, q_bin, q_cvi, q_ixs, o_mv, o_as, o_bin, v_add, v_mul, v_lss, v_gtr, o_cvi, v_cvi, o_ixs, v_ixs, o_al, o_st, v_st_p, v_stCK, o_bd, v_agK, v_bd_n, v_bd_c, o_lns, v_lns, e_t, e_k, e_put, e_get, e_res, e_keep_n, e_keep_c, e_keep1_s, e_asg_i, St.init, enum, List.length_nil, List.length_cons, Option.getD_some, Nat.reduceEqDiff, Nat.reduceAdd, reduceCtorEq, true_and, and_true, Bool.false_eq_true, decide_eq_true_eq, s_ret_r, s_retX, s_cells_n, t_tp, t_n, t_c, t_1l, t_1a, t_ln, t_lc, t_i, t_l, t_or, r_n, r_t, r_c, r_cons, r_cell, r_part_t, one_2, List.map_cons, List.map_nil, List.append_nil, List.cons_append, List.nil_append, List.all_cons, List.all_nil, Bool.and_true, Bool.true_and, Bool.and_self, PV.cells, cellL, fillL, Nat.reduceMul, Nat.reduceBEq, Nat.reduceLeDiff, Nat.zero_le, Nat.le_refl, List.take_zero, List.drop_zero, List.take_succ_cons, List.drop_succ_cons, List.drop_nil, List.take_nil, Option.bind_some, kp_b, kp_i, kp_s, kc_s, kp_p, kc_l, kp_lo, m_lf, m_ag, m_n, m_c, m_all, e_asg_n, e_head, e_headK, kC_n, kC_c, pO_n, pO_p, pO_i, pO_s, pO_l, st_b, d_n, d_c, List.range_zero, plT, ne_eq, not_false_eq_true, Nat.zero_add, Nat.add_zero, true_or, or_true]
  with_reducible refine ite_pr (fun h => ?_) (fun h => ?_)
  · rw [if_pos (by omega)] at hr
    subst hr
    exact ⟨⟨rfl, rfl⟩, rfl, rfl⟩
  rw [if_neg (by omega)] at hr
  with_reducible refine ite_pr (fun h2 => ?_) (fun h2 => ?_)
  · rw [if_pos (by omega)] at hr
    subst hr
    exact ⟨⟨rfl, rfl⟩, rfl, rfl⟩
  rw [if_neg (by omega)] at hr
  refine ⟨⟨by omega, by omega⟩, ⟨by omega, by omega⟩, ?_⟩
  have hc := cntR_eq (b := b) (by omega)
  have a0 := byteAt_0 b 0
  have a1 := byteAt_1 b 0
  have b0 := byteAt_0 b 1
  have b1 := byteAt_1 b 1
  have e : IntKind.i64.wrap (IntKind.i64.wrap (IntKind.i64.wrap (byteAt b 0) * 256) + IntKind.i64.wrap (byteAt b 1)) = ((cntR b).toNat : Int) := by
    rw [w64 (x := byteAt b 0) (by omega) (by omega), w64 (x := byteAt b 1) (by omega) (by omega), w64 (x := byteAt b 0 * 256) (by omega) (by omega), w64 (by omega) (by omega), hc]
    omega
  rw [e]
  exact key _ (by omega) _ 0 2 [] [] [] [] rfl rfl (by omega) (by omega) rfl rfl hr
end Go.Proofs.YthcpaohmajjopaaDoor.I
set_option linter.unusedVariables false
set_option linter.unusedSimpArgs false
namespace Go.Proofs.YthcpaohmajjopaaDoor.I
open Go Go.Proofs.YthcpaohmajjopaaDoor.AM
variable {X : Cx}
theorem r4 (hX : X.G 1 = some usesL) (b : ByteArray) (hb : b.size ≤ 140737488351232) : R X Tryd.prog 4 [.lf (.str b)] [] (.lf (.bool true)) [] := by
  have h12 := r12 hX b hb (cntR_bd b) _ rfl
  have h13 := r13 (X := X) b hb _ rfl
  have h9 := r9 hX
  generalize readA b = r at *
  have h11 := r11 (X := X) r.1 r.1 [] []
  have hs : sameL r.1 r.1 = true := sameL_self r.1
  rw [hs] at h11
  refine R_i [] [] c4_ok rfl (by simp) ?_
  simp -implicitDefEqProofs (maxSteps := 2000000) only [c4, ↓reduceIte, s_ops0, s_seq, s_opsK, s_seqK_n, s_nil, s_cons, s_wopsK, o_mv, o_as, o_call, e_t, e_k, e_put, e_get, e_res, e_keep_n, e_keep_c, e_keep1_s, e_asg_b, St.init, enum, List.length_nil, Option.getD_some, reduceCtorEq, List.map_cons, List.map_nil, PV.leaves, List.flatMap_cons, List.flatMap_nil, List.append_nil, rl_s, m_lf]
  refine wcall_down h12 rfl ?_
  simp -implicitDefEqProofs (maxSteps := 2000000) only [c4, ↓reduceIte, s_ops0, s_seq, s_opsK, s_seqK_n, s_nil, s_cons, s_wopsK, s_putK, o_mv, o_as, o_ext, v_ext0, v_ext1, o_al, o_st, v_st_p, v_stCK, o_call, e_t, e_put, e_get, e_res, e_keep_n, e_keep_c, e_keep1_s, e_asg_r, List.length_nil, List.length_cons, Option.getD_some, Nat.reduceEqDiff, Nat.reduceAdd, reduceCtorEq, true_and, Bool.false_eq_true, St.clr, outV, ownsV, owns1, ownL, List.map_cons, List.map_nil, List.any_cons, List.any_nil, Bool.or_self, PV.leaves, List.flatMap_cons, List.flatMap_nil, List.append_nil, List.nil_append, List.all_cons, List.all_nil, Bool.true_and, Bool.and_self, PV.cells, cellL, fillL, Nat.zero_le, Nat.le_refl, List.take_zero, List.drop_succ_cons, List.drop_nil, kc_i, kc_s, rl_s, ol_i, kc_l, ol_lr, m_lf, m_ag, m_tp, m_1l, m_1a, m_n, m_c, m_all, st_b, d_n, d_c, dw_n, dw_s, Nat.zero_add]
  refine wcall_down h13 rfl ?_
  simp -implicitDefEqProofs (maxSteps := 2000000) only [c4, ↓reduceIte, s_ops0, s_seq, s_opsK, s_seqK_n, s_nil, s_cons, s_wopsK, s_putK, o_mv, o_as, o_ext, v_ext0, v_ext1, o_al, o_st, v_st_p, v_stCK, o_call, e_t, e_put, e_get, e_res, e_keep_n, e_keep_c, e_keep1_s, e_asg_r, List.length_nil, List.length_cons, Option.getD_some, Nat.reduceEqDiff, Nat.reduceAdd, reduceCtorEq, true_and, Bool.false_eq_true, St.clr, outV, ownsV, owns1, ownL, List.map_cons, List.map_nil, List.any_cons, List.any_nil, Bool.or_self, PV.leaves, List.flatMap_nil, List.append_nil, List.nil_append, List.all_cons, List.all_nil, Bool.true_and, Bool.and_self, PV.cells, cellL, fillL, Nat.reduceBEq, Nat.zero_le, Nat.le_refl, List.take_zero, List.drop_succ_cons, List.drop_nil, kc_i, kc_s, ol_i, kc_p, kc_l, ol_lr, m_lf, m_ag, m_tp, m_1l, m_1a, m_n, m_c, m_all, st_b, d_n, d_c, dw_n, dw_s, Nat.zero_add]
  refine wcall_s h9 rfl rfl ?_
  simp -implicitDefEqProofs (maxSteps := 2000000) only [c4, ↓reduceIte, s_cons, s_guard, s_wopsK, s_grd, q_call, q_mv, o_mv, o_call, e_t, e_put, e_get, Option.getD_some, Nat.reduceEqDiff, cond_false, Bool.false_eq_true, St.clr, outV, ownsV, owns1, ownL, List.map_cons, List.map_nil, PV.leaves, List.flatMap_cons, List.flatMap_nil, List.append_nil, List.cons_append, List.nil_append, ol_b, rl_l, m_lf]
  refine wcall_s h11 rfl rfl ?_
  simp -implicitDefEqProofs (maxSteps := 2000000) only [c4, ↓reduceIte, s_ret, s_opsK, s_seqK_n, s_nil, s_cons, s_guard, s_wopsK, s_putK, s_grd, q_beq, q_ld, o_mv, o_as, o_pk, v_pk, o_beq, v_part_t, o_ld, v_ld_p, v_ldC, e_t, e_k, e_put, e_get, e_res, e_keep_n, e_keep_c, e_keep1_s, e_asg_b, List.length_nil, List.length_cons, Option.getD_some, Nat.reduceEqDiff, Nat.reduceAdd, and_true, cond_false, Bool.false_eq_true, decide_eq_true_eq, s_ret_r, s_retX, s_cells_n, t_lf, t_b, r_n, r_t, r_cons, one_1, St.clr, outV, ownsV, owns1, ownL, List.map_cons, List.map_nil, Bool.and_true, Bool.and_self, Nat.le_refl, List.drop_zero, List.take_succ_cons, List.take_nil, ol_b, m_lf, Nat.zero_add, v_beqK, v_andO, v_beqA, q_i, q_1, q_c, kd_i]
end Go.Proofs.YthcpaohmajjopaaDoor.I
