/- Contracts, part I5. -/
import Derived.Test.YthcpaohmajjopaaDoorI4
set_option linter.unusedVariables false
set_option linter.unusedSimpArgs false
namespace Go.Proofs.YthcpaohmajjopaaDoor.I
open Go Go.Proofs.YthcpaohmajjopaaDoor.AM
variable {X : Cx}
def one (k : Int) : Ins := ⟨k, 0, 0, 0, ⟨#[]⟩, 0, 0, 0, 0⟩
theorem r9 (hX : X.G 1 = some usesL) : R X Tryd.prog 9 [] [] (.lf (.bool true)) [] := by
  refine R_i [] [] c9_ok rfl (by simp) ?_
  have h1 := r28 hX (fun _ => true) [one 17] (fun x hx h => by simp at hx; subst hx; simp [one] at h) []
  have h2 := r28 hX (fun _ => true) [one 1] (fun x hx h => by simp at hx; subst hx; simp [one] at h) []
  have e1 : chk (fun _ => true) [one 17] = (0, 0) := by decide +kernel
  have e2 : chk (fun _ => true) [one 1] = (0, 163) := by decide +kernel
  rw [e1] at h1
  rw [e2] at h2
  simp only [List.map_cons, List.map_nil, one, Ins.c] at h1 h2
  simp -implicitDefEqProofs (maxSteps := 2000000) only [c9, ↓reduceIte, s_ops0, s_seq, s_opsK, s_seqK_n, s_nil, s_cons, s_wopsK, o_as, o_bd, v_agK, v_bd_n, v_bd_c, o_bs, v_bsK, v_lit_n, v_lit_c, o_call, e_t, e_k, e_put, e_get, e_res, e_keep_n, e_asg_b, St.init, enum, List.length_nil, List.length_cons, Option.getD_some, Nat.reduceAdd, reduceCtorEq, true_and, List.map_cons, List.map_nil, PV.leaves, List.flatMap_cons, List.flatMap_nil, List.append_nil, List.cons_append, List.nil_append, List.all_cons, List.all_nil, Bool.true_and, Bool.and_self, PV.cells, cellL, datL, fillL, Nat.reduceMul, Nat.reduceLeDiff, List.take_zero, List.drop_zero, List.drop_succ_cons, kp_i, kp_s, rl_i, rl_s, rl_l, m_lf, m_ag, m_n, m_c, m_all, dw_n, dw_i, dw_s, plT, ne_eq, not_false_eq_true, lit_n, lit_c, List.reduceReplicate, List.set_cons_zero, Nat.lt_add_one, Nat.zero_add, Nat.add_zero]
  refine wcall_s h1 rfl rfl ?_
  simp -implicitDefEqProofs (maxSteps := 2000000) only [c9, ↓reduceIte, s_ops0, s_seq, s_opsK, s_seqK_n, s_nil, s_cons, s_wopsK, s_putK, o_mv, o_as, o_ext, v_ext0, v_ext1, o_bd, v_agK, v_bd_n, v_bd_c, o_bs, v_bsK, v_lit_n, v_lit_c, o_call, e_t, e_k, e_put, e_get, e_res, e_keep_n, e_keep_c, e_keep1_s, e_asg_i, List.length_nil, List.length_cons, Option.getD_some, Nat.reduceEqDiff, Nat.reduceAdd, reduceCtorEq, true_and, Bool.false_eq_true, St.clr, outV, ownsV, owns1, ownL, List.map_cons, List.map_nil, List.any_cons, List.any_nil, Bool.or_self, PV.leaves, List.flatMap_cons, List.flatMap_nil, List.append_nil, List.cons_append, List.nil_append, List.all_cons, List.all_nil, Bool.true_and, Bool.and_self, PV.cells, cellL, datL, fillL, Nat.reduceMul, Nat.reduceLeDiff, List.take_zero, List.drop_zero, List.drop_succ_cons, kp_i, kp_s, rl_i, rl_s, ol_i, rl_l, m_lf, m_ag, m_tp, m_1l, m_n, m_c, m_all, dw_n, dw_i, dw_s, plT, ne_eq, not_false_eq_true, lit_n, lit_c, List.reduceReplicate, List.set_cons_zero, Nat.lt_add_one, Nat.zero_add, Nat.add_zero]
  refine wcall_s h2 rfl rfl ?_
  simp -implicitDefEqProofs (maxSteps := 2000000) only [c9, ↓reduceIte, s_ret, s_ops0, s_seq, s_opsK, s_seqK_n, s_nil, s_cons, s_guard, s_wopsK, s_putK, s_grd, q_mv, q_bin, o_mv, o_as, o_pk, v_pk, o_bin, v_eql, o_ext, v_ext0, v_ext1, e_t, e_k, e_put, e_get, e_res, e_keep_n, e_keep_c, e_keep1_s, e_asg_b, e_asg_i, Option.getD_some, Nat.reduceEqDiff, and_true, cond_false, Bool.false_eq_true, decide_eq_true_eq, s_ret_r, s_retX, s_cells_n, t_lf, t_b, r_n, r_t, r_cons, one_1, St.clr, outV, ownsV, owns1, ownL, List.map_cons, List.map_nil, List.any_cons, List.any_nil, Bool.or_self, Bool.and_true, ol_i, m_tp, m_1l]

def sameL : List Ins → List Ins → Bool
  | [], [] => true
  | x :: a, y :: b => x.same y && sameL a b
  | _, _ => false
theorem same_self (x : Ins) : x.same x = true := Ins.same_eq.2 rfl
theorem sameL_self : ∀ (a : List Ins), sameL a a = true
  | [] => rfl
  | x :: a => by simp [sameL, same_self, sameL_self a]
theorem sameL_len : ∀ {a b : List Ins}, a.length ≠ b.length → sameL a b = false
  | [], [], h => by simp at h
  | [], _ :: _, _ => rfl
  | _ :: _, [], _ => rfl
  | x :: a, y :: b, h => by simp [sameL, sameL_len (a := a) (b := b) (by simpa using h)]
theorem drop_step {α : Type} {l q : List α} {x : α} {i : Nat} (h : l.drop i = x :: q) : i < l.length ∧ l[i]? = some x ∧ l.drop (i + 1) = q := by
  refine ⟨?_, ?_, ?_⟩
  · have := congrArg List.length h
    simp at this; omega
  · have := congrArg (fun l => l[0]?) h
    simpa using this
  · rw [← List.drop_drop, h]; rfl
theorem get_c {l : List Ins} {i : Nat} {x : Ins} (h : l[i]? = some x) : (l.map Ins.c).getD (i : Int).toNat [] = x.c := by
  rw [Int.toNat_natCast, List.getD_eq_getElem?_getD, List.getElem?_map, h]; rfl
theorem wp9 {x : Ins} {K : PV → Prop} : wpart x.c 0 9 true K = K (.ag x.c) := by
  simp [wpart, Ins.c]
theorem r29 (a b : List Ins) (sp sp' : List (List L)) : R X Tryd.prog 29 [.lf (.lst .ro 9 (a.map Ins.c) sp), .lf (.lst .ro 9 (b.map Ins.c) sp')] [] (.lf (.bool (sameL a b))) [] := by
  refine R_i [] [] c29_ok rfl (by simp) ?_
  generalize hr : sameL a b = r
  have hl : (a.map Ins.c).length = a.length := List.length_map _
  have hl' : (b.map Ins.c).length = b.length := List.length_map _
  have key : ∀ (q q' : List Ins) (i : Nat), a.length ≤ 9223372036854775807 → a.length = b.length → a.drop i = q → b.drop i = q' → sameL q q' = r → LoopAt X Tryd.prog c29_11 [0, 1, 12, 13] (blkK 0 (seqK X Tryd.prog c29_15 (retS [] [] 0 [RV.t 4] (PV.lf (L.bool r)) [])))
      { m := 0, tm := [(0, PV.lf (L.lst Tag.ro 9 (List.map Ins.c a) sp)), (1, PV.lf (L.lst Tag.ro 9 (List.map Ins.c b) sp')), (12, PV.lf (L.int IntKind.i64 ↑a.length)), (13, PV.lf (L.int IntKind.i64 i))], ce := [] } := by
    intro q
    induction q with
    | nil =>
      intro q' i h0 hll hq hq' hr Z hZ
      apply hZ
      have hi : a.length ≤ i := by simpa using hq
      obtain rfl : q' = [] := by rw [← hq']; simp; omega
      simp -implicitDefEqProofs (maxSteps := 2000000) only [c29, hl, ↓reduceIte, s_skip, s_exit, s_ret, s_ops0, s_ops2, s_seq, s_cond, s_block, s_opsK, s_seqK_n, s_seqK_e, s_blkK_e, s_loopK_e, s_cnd, s_nil, s_cons, s_wopsK, s_wopsqK, s_putK, s_qcons, q_mv, q_ia, q_ld, o_mv, o_as, o_bin, v_lss, o_ia, v_ia, o_ld, e_t, e_k, e_put, e_get, e_res, e_keep_n, e_keep_c, e_keep1_s, e_asg_b, e_asg_i, Option.getD_some, Nat.reduceEqDiff, reduceCtorEq, true_and, and_true, decide_eq_true_eq, s_ret_r, s_retX, s_cells_n, t_lf, t_b, r_n, r_t, r_cons, one_1, Bool.and_true, Bool.true_and]
      with_reducible refine ite_pr (fun _ => ?_) (fun _ => ?_)
      · omega
      · simpa [sameL] using hr
    | cons x q ih =>
      intro q' i h0 hll hq hq' hr Z hZ
      apply hZ
      obtain ⟨hi, hx, hq⟩ := drop_step hq
      obtain ⟨y, q', rfl⟩ : ∃ y p, q' = y :: p := by
        cases q' with
        | nil => simp at hq'; omega
        | cons y p => exact ⟨y, p, rfl⟩
      obtain ⟨hi', hy, hq'⟩ := drop_step hq'
      have g1 := get_c hx
      have g2 := get_c hy
      have he := eq_ins x y
      have hb := fun neg ks K => v_beq (neg := neg) (ks := ks) (K := K) he
      have kx : x.c.map kindL = [2, 2, 2, 2, 3, 2, 2, 2, 2] := rfl
      have ky : y.c.map kindL = [2, 2, 2, 2, 3, 2, 2, 2, 2] := rfl
      have wp := fun (z : Ins) (K : PV → Prop) => wp9 (x := z) (K := K)
      have w3 : IntKind.i64.wrap ((i : Int) + 1) = ((i + 1 : Nat) : Int) := by rw [w64 (by omega) (by omega)]; omega
      simp only [sameL] at hr
      simp -implicitDefEqProofs (maxSteps := 2000000) only [c29, hl, hl', g1, g2, v_ld_e, wp, hb, kx, ky, w3, ↓reduceIte, s_skip, s_exit, s_ret, s_ops0, s_ops2, s_seq, s_cond, s_block, s_opsK, s_seqK_n, s_seqK_e, s_seqK_r, s_blkK_n, s_blkK_e, s_blkK_r, s_loopK_n, s_loopK_e, s_loopK_r, s_cnd, s_nil, s_cons, s_wopsK, s_wopsqK, s_putK, s_qnil, s_qcons, q_mv, q_beq, q_ia, q_ld, o_mv, o_as, o_bin, v_add, v_lss, o_beq, o_ia, v_ia, o_ld, e_t, e_k, e_put, e_get, e_res, e_keep_n, e_keep_c, e_keep1_s, e_asg_b, e_asg_i, Option.getD_some, Nat.reduceEqDiff, reduceCtorEq, true_and, and_true, Bool.not_true, decide_eq_true_eq, s_ret_r, s_retX, s_cells_n, t_lf, t_b, r_n, r_t, r_cons, one_1, List.append_nil, Bool.and_true, Bool.true_and, e_head, e_headK, kC_n, pO_n, pO_i, pO_l, List.range_zero, Bool.not_eq_eq_eq_not]
      with_reducible refine ite_pr (fun _ => ?_) (fun _ => ?_)
      · refine ⟨⟨by omega, by omega⟩, by omega, ⟨by omega, by omega⟩, by omega, ?_⟩
        with_reducible refine ite_pr (fun hs => ?_) (fun hs => ?_)
        · rw [hs, Bool.false_and] at hr
          exact hr
        · refine ih q' (i + 1) h0 hll hq hq' ?_ Z hZ
          simpa [hs] using hr
      · omega
  simp -implicitDefEqProofs (maxSteps := 2000000) only [c29, hl, hl', ↓reduceIte, s_skip, s_ret, s_ops0, s_seq, s_cond, s_block, s_loop, s_opsK, s_seqK_n, s_seqK_r, s_cnd, s_nil, s_cons, s_wopsK, s_putK, o_mv, o_as, o_bin, v_neq, o_len, v_len, e_t, e_k, e_put, e_get, e_res, e_keep_n, e_keep_c, e_keep1_s, e_asg_b, St.init, enum, List.length_nil, Option.getD_some, Nat.reduceEqDiff, reduceCtorEq, true_and, and_true, decide_eq_true_eq, s_ret_r, s_retX, s_cells_n, t_lf, t_b, r_n, r_t, r_cons, one_1, List.append_nil, Bool.and_true, Bool.true_and, e_head, e_headK, kC_n, pO_n, pO_i, pO_l, List.range_zero, ne_eq, Nat.zero_add, ite_not]
  refine fun h1 h2 => ?_
  with_reducible refine ite_pr (fun h => ?_) (fun h => ?_)
  · refine fun _ => ?_
    exact key a b 0 h1 (by omega) rfl rfl hr
  · rw [sameL_len (by omega)] at hr
    exact hr
theorem r11 (a b : List Ins) (sp sp' : List (List L)) : R X Tryd.prog 11 [.lf (.lst .ro 9 (a.map Ins.c) sp), .lf (.lst .ro 9 (b.map Ins.c) sp')] [] (.lf (.bool (sameL a b))) [] := by
  refine R_i [] [] c11_ok rfl (by simp) ?_
  generalize hr : sameL a b = r
  have hl : (a.map Ins.c).length = a.length := List.length_map _
  have hl' : (b.map Ins.c).length = b.length := List.length_map _
  have key : ∀ (q q' : List Ins) (i : Nat), a.length ≤ 9223372036854775807 → a.length = b.length → a.drop i = q → b.drop i = q' → sameL q q' = r → LoopAt X Tryd.prog c11_10 [0, 1, 5] (blkK 0 (seqK X Tryd.prog c11_14 (retS [] [] 0 [RV.t 4] (PV.lf (L.bool r)) [])))
      { m := 0, tm := [(0, PV.lf (L.lst Tag.ro 9 (List.map Ins.c a) sp)), (1, PV.lf (L.lst Tag.ro 9 (List.map Ins.c b) sp')), (5, PV.lf (L.int IntKind.i64 i))], ce := [] } := by
    intro q
    induction q with
    | nil =>
      intro q' i h0 hll hq hq' hr Z hZ
      apply hZ
      have hi : a.length ≤ i := by simpa using hq
      obtain rfl : q' = [] := by rw [← hq']; simp; omega
      simp -implicitDefEqProofs (maxSteps := 2000000) only [c11, hl, ↓reduceIte, s_skip, s_exit, s_ret, s_ops0, s_ops2, s_seq, s_cond, s_block, s_opsK, s_seqK_n, s_seqK_e, s_blkK_e, s_loopK_e, s_cnd, s_nil, s_cons, s_wopsK, s_wopsqK, s_putK, s_qcons, q_mv, q_ia, q_ld, o_mv, o_as, o_bin, v_lss, o_ia, v_ia, o_ld, o_len, v_len, e_t, e_k, e_put, e_get, e_res, e_keep_n, e_keep_c, e_keep1_s, e_asg_b, Option.getD_some, Nat.reduceEqDiff, reduceCtorEq, true_and, and_true, decide_eq_true_eq, s_ret_r, s_retX, s_cells_n, t_lf, t_b, r_n, r_t, r_cons, one_1, Bool.and_true, Bool.true_and]
      refine fun _ => ?_
      with_reducible refine ite_pr (fun _ => ?_) (fun _ => ?_)
      · omega
      · simpa [sameL] using hr
    | cons x q ih =>
      intro q' i h0 hll hq hq' hr Z hZ
      apply hZ
      obtain ⟨hi, hx, hq⟩ := drop_step hq
      obtain ⟨y, q', rfl⟩ : ∃ y p, q' = y :: p := by
        cases q' with
        | nil => simp at hq'; omega
        | cons y p => exact ⟨y, p, rfl⟩
      obtain ⟨hi', hy, hq'⟩ := drop_step hq'
      have g1 := get_c hx
      have g2 := get_c hy
      have he := eq_ins x y
      have hb := fun neg ks K => v_beq (neg := neg) (ks := ks) (K := K) he
      have kx : x.c.map kindL = [2, 2, 2, 2, 3, 2, 2, 2, 2] := rfl
      have ky : y.c.map kindL = [2, 2, 2, 2, 3, 2, 2, 2, 2] := rfl
      have wp := fun (z : Ins) (K : PV → Prop) => wp9 (x := z) (K := K)
      have w3 : IntKind.i64.wrap ((i : Int) + 1) = ((i + 1 : Nat) : Int) := by rw [w64 (by omega) (by omega)]; omega
      simp only [sameL] at hr
      simp -implicitDefEqProofs (maxSteps := 2000000) only [c11, hl, hl', g1, g2, v_ld_e, wp, hb, kx, ky, w3, ↓reduceIte, s_skip, s_exit, s_ret, s_ops0, s_ops2, s_seq, s_cond, s_block, s_opsK, s_seqK_n, s_seqK_e, s_seqK_r, s_blkK_n, s_blkK_e, s_blkK_r, s_loopK_n, s_loopK_e, s_loopK_r, s_cnd, s_nil, s_cons, s_wopsK, s_wopsqK, s_putK, s_qnil, s_qcons, q_mv, q_beq, q_ia, q_ld, o_mv, o_as, o_bin, v_add, v_lss, o_beq, o_ia, v_ia, o_ld, o_len, v_len, e_t, e_k, e_put, e_get, e_res, e_keep_n, e_keep_c, e_keep1_s, e_asg_b, e_asg_i, Option.getD_some, Nat.reduceEqDiff, reduceCtorEq, true_and, and_true, Bool.not_true, decide_eq_true_eq, s_ret_r, s_retX, s_cells_n, t_lf, t_b, r_n, r_t, r_cons, one_1, List.append_nil, Bool.and_true, Bool.true_and, e_head, e_headK, kC_n, pO_n, pO_i, pO_l, List.range_zero, Bool.not_eq_eq_eq_not]
      refine fun _ => ?_
      with_reducible refine ite_pr (fun _ => ?_) (fun _ => ?_)
      · refine ⟨⟨by omega, by omega⟩, by omega, ⟨by omega, by omega⟩, by omega, ?_⟩
        with_reducible refine ite_pr (fun hs => ?_) (fun hs => ?_)
        · rw [hs, Bool.false_and] at hr
          exact hr
        · refine ih q' (i + 1) h0 hll hq hq' ?_ Z hZ
          simpa [hs] using hr
      · omega
  simp -implicitDefEqProofs (maxSteps := 2000000) only [c11, hl, hl', ↓reduceIte, s_skip, s_ret, s_ops0, s_seq, s_cond, s_block, s_loop, s_opsK, s_seqK_n, s_seqK_r, s_cnd, s_nil, s_cons, s_wopsK, s_putK, o_mv, o_as, o_bin, v_neq, o_len, v_len, e_t, e_k, e_put, e_get, e_res, e_keep_n, e_keep_c, e_keep1_s, e_asg_b, e_asg_i, St.init, enum, List.length_nil, Option.getD_some, Nat.reduceEqDiff, reduceCtorEq, true_and, and_true, decide_eq_true_eq, s_ret_r, s_retX, s_cells_n, t_lf, t_b, r_n, r_t, r_cons, one_1, List.append_nil, Bool.and_true, Bool.true_and, e_head, e_headK, kC_n, pO_n, pO_i, pO_l, List.range_zero, ne_eq, Nat.zero_add, ite_not]
  refine fun h1 h2 => ?_
  with_reducible refine ite_pr (fun h => ?_) (fun h => ?_)
  · exact key a b 0 h1 (by omega) rfl rfl hr
  · rw [sameL_len (by omega)] at hr
    exact hr
theorem r10 (a b : List Ins) (sp sp' : List (List L)) : R X Tryd.prog 10 [.lf (.lst .ro 9 (a.map Ins.c) sp), .lf (.lst .ro 9 (b.map Ins.c) sp')] [] (.lf (.bool (sameL a b))) [] := by
  refine R_i [] [] c10_ok rfl (by simp) ?_
  simp -implicitDefEqProofs (maxSteps := 2000000) only [c10, ↓reduceIte, s_ops0, s_seq, s_opsK, s_seqK_n, s_nil, s_cons, s_wopsK, o_mv, o_as, o_call, e_t, e_k, e_put, e_get, e_res, e_keep_n, e_keep_c, e_keep1_s, e_asg_b, St.init, enum, List.length_nil, Option.getD_some, Nat.reduceEqDiff, reduceCtorEq, List.map_cons, List.map_nil, PV.leaves, List.flatMap_cons, List.flatMap_nil, List.append_nil, List.cons_append, List.nil_append, rl_l, m_lf, Nat.zero_add]
  refine wcall_s (r29 a b sp sp') rfl rfl ?_
  simp -implicitDefEqProofs (maxSteps := 2000000) only [c10, ↓reduceIte, s_ret, s_opsK, s_seqK_n, s_nil, s_cons, s_wopsK, o_as, e_t, e_put, e_get, e_res, e_keep_n, e_keep_c, e_keep1_s, e_asg_b, Option.getD_some, and_true, Bool.false_eq_true, s_ret_r, s_retX, s_cells_n, t_lf, t_b, r_n, r_t, r_cons, one_1, St.clr, outV, ownsV, owns1, ownL, Bool.and_true, ol_b, m_lf]
theorem r3 (hX : X.G 1 = some usesL) (a b : List Ins) (sp sp' : List (List L)) : R X Tryd.prog 3 [.lf (.lst .ro 9 (a.map Ins.c) sp), .lf (.lst .ro 9 (b.map Ins.c) sp')] [] (.lf (.bool true)) [] := by
  refine R_i [] [] c3_ok rfl (by simp) ?_
  simp -implicitDefEqProofs (maxSteps := 2000000) only [c3, ↓reduceIte, s_ops0, s_seq, s_opsK, s_seqK_n, s_nil, s_cons, s_wopsK, o_as, o_call, e_k, e_get, e_res, e_keep_n, e_keep_c, e_keep1_s, e_asg_b, St.init, enum, List.length_nil, Nat.reduceEqDiff, reduceCtorEq, List.map_nil, PV.leaves, List.flatMap_nil, Nat.zero_add]
  refine wcall_s (r9 hX) rfl rfl ?_
  simp -implicitDefEqProofs (maxSteps := 2000000) only [c3, ↓reduceIte, s_cons, s_guard, s_wopsK, s_grd, q_call, q_mv, o_mv, o_call, e_t, e_put, e_get, Option.getD_some, Nat.reduceEqDiff, reduceCtorEq, cond_false, Bool.false_eq_true, St.clr, outV, ownsV, owns1, ownL, List.map_cons, List.map_nil, PV.leaves, List.flatMap_cons, List.flatMap_nil, List.append_nil, List.cons_append, List.nil_append, ol_b, rl_l, m_lf]
  refine wcall_s (r10 a b sp sp') rfl rfl ?_
  simp -implicitDefEqProofs (maxSteps := 2000000) only [c3, ↓reduceIte, s_guard, s_wopsK, s_grd, q_call, q_mv, o_mv, o_call, e_t, e_put, e_get, Option.getD_some, Nat.reduceEqDiff, reduceCtorEq, cond_false, Bool.false_eq_true, St.clr, outV, ownsV, owns1, ownL, List.map_cons, List.map_nil, PV.leaves, List.flatMap_cons, List.flatMap_nil, List.append_nil, List.cons_append, List.nil_append, ol_b, rl_l, m_lf]
  refine wcall_s (r11 a b sp sp') rfl rfl ?_
  simp -implicitDefEqProofs (maxSteps := 2000000) only [c3, ↓reduceIte, s_cons, s_guard, s_wopsK, s_putK, s_grd, q_call, q_mv, q_bqb, o_mv, o_pk, v_pk, o_bqb, v_bqb, o_call, e_t, e_k, e_put, e_get, Option.getD_some, Nat.reduceEqDiff, reduceCtorEq, cond_false, Bool.false_eq_true, St.clr, outV, ownsV, owns1, ownL, List.map_cons, List.map_nil, PV.leaves, List.flatMap_cons, List.flatMap_nil, List.append_nil, List.cons_append, List.nil_append, BEq.rfl, ol_b, rl_l, m_lf]
  have h := r10 (X := X) a a sp sp
  rw [sameL_self] at h
  refine wcall_s h rfl rfl ?_
  simp -implicitDefEqProofs (maxSteps := 2000000) only [c3, ↓reduceIte, s_ret, s_opsK, s_seqK_n, s_nil, s_cons, s_wopsK, s_putK, o_as, o_pk, v_pk, e_t, e_k, e_put, e_get, e_res, e_keep_n, e_keep_c, e_keep1_s, e_asg_b, Option.getD_some, Nat.reduceEqDiff, and_true, Bool.false_eq_true, s_ret_r, s_retX, s_cells_n, t_lf, t_b, r_n, r_t, r_cons, one_1, St.clr, outV, ownsV, owns1, ownL, Bool.and_true, ol_b, m_lf]
end Go.Proofs.YthcpaohmajjopaaDoor.I
