/- Contracts, part I4. -/
import Derived.Test.YthcpaohmajjopaaDoorI3
set_option linter.unusedVariables false
set_option linter.unusedSimpArgs false
namespace Go.Proofs.YthcpaohmajjopaaDoor.I
open Go Go.Proofs.YthcpaohmajjopaaDoor.AM
variable {X : Cx}
def errAt (capF : Ins → Bool) (len i : Nat) (x : Ins) : Int :=
  if ¬ (1 ≤ x.op ∧ x.op ≤ 20) then 160 else if fitB (capF x) x.op.toNat x = false then 161
  else if hasB x.op.toNat 32 = true ∧ (x.a < -(i : Int) ∨ (len : Int) - i ≤ x.a) then 162 else 0
def chkGo (capF : Ins → Bool) (len : Nat) : Nat → List Ins → Option (Int × Int)
  | _, [] => none
  | i, x :: r => if errAt capF len i x = 0 then chkGo capF len (i + 1) r else some ((i : Int), errAt capF len i x)
def lastOp : List Ins → Int
  | [] => 0
  | [x] => x.op
  | _ :: y :: r => lastOp (y :: r)
def chkEnd (code : List Ins) : Int × Int := if hasB (lastOp code).toNat 64 = true then ((code.length : Int) - 1, 163) else (0, 0)
def chk (capF : Ins → Bool) (code : List Ins) : Int × Int :=
  if 8192 < code.length then (0, 2) else if code.length = 0 then (0, 3) else (chkGo capF code.length 0 code).getD (chkEnd code)
def CapOK (X : Cx) (capF : Ins → Bool) (code : List Ins) : Prop := ∀ x ∈ code, x.op = 18 ∨ x.op = 20 → 1 ≤ x.b → x.b ≤ 7 → R X Tryd.prog 66 [.lf (.int .i64 x.b), .lf (.int .i64 x.n), .lf (.str x.t)] [] (.lf (.bool (capF x))) []
theorem last_get : ∀ {code : List Ins}, 0 < code.length → ∃ y, code[code.length - 1]? = some y ∧ lastOp code = y.op ∧ y ∈ code
  | [x], _ => ⟨x, rfl, rfl, by simp⟩
  | x :: y :: r, _ => by
    obtain ⟨z, h1, h2, h3⟩ := last_get (code := y :: r) (by simp)
    refine ⟨z, ?_, h2, by simp at h3 ⊢; right; exact h3⟩
    simpa using h1
theorem nat_of {z : Int} (h : 1 ≤ z ∧ z ≤ 20) : ∃ k : Nat, z = k ∧ k < 21 := ⟨z.toNat, by omega, by omega⟩
theorem r28 (hX : X.G 1 = some usesL) (capF : Ins → Bool) (code : List Ins) (hcap : CapOK X capF code) (sp : List (List L)) :
    R X Tryd.prog 28 [.lf (.lst .ro 9 (code.map Ins.c) sp)] [] (.tp [.lf (.int .i64 (chk capF code).1), .lf (.int .i64 (chk capF code).2)]) [] := by
  refine R_i [] [] c28_ok rfl (by simp) ?_
  generalize hr : chk capF code = r
  have hl : (code.map Ins.c).length = code.length := List.length_map _
  have key : ∀ (q : List Ins) (i : Nat), code.drop i = q → (∀ x ∈ code.take i, 1 ≤ x.op ∧ x.op ≤ 20) → code.length ≤ 8192 → 0 < code.length → (chkGo capF code.length i q).getD (chkEnd code) = r → LoopAt X Tryd.prog c28_21 [0, 13, 14, 15] (blkK 0 (seqK X Tryd.prog c28_30 (retS [] [] 0 [RV.t 2, RV.t 3] (PV.tp [PV.lf (L.int IntKind.i64 r.fst), PV.lf (L.int IntKind.i64 r.snd)]) [])))
      { m := 0, tm := [(0, PV.lf (L.lst Tag.ro 9 (List.map Ins.c code) sp)), (13, PV.lf (L.lst Tag.ro 9 (List.map Ins.c code) sp)), (14, PV.lf (L.int IntKind.i64 ↑code.length)), (15, PV.lf (L.int IntKind.i64 i))], ce := [] } := by
    intro q
    induction q with
    | nil =>
      intro i hq hal h1 h2 hr Z hZ
      apply hZ
      have hi : code.length ≤ i := by simpa using hq
      obtain ⟨y, g1, g2, g3⟩ := last_get h2
      rw [List.take_of_length_le hi] at hal
      obtain ⟨k, hk, hk2⟩ := nat_of (hal y g3)
      have e1 : IntKind.i64.wrap ((code.length : Int) - 1) = ((code.length - 1 : Nat) : Int) := by rw [w64 (by omega) (by omega)]; omega
      have hg : (code.map Ins.c).getD ((code.length - 1 : Nat) : Int).toNat [] = [.int .i64 y.op, .int .i64 y.a, .int .i64 y.b, .int .i64 y.n, .str y.t, .int .u64 y.s0, .int .u64 y.s1, .int .u64 y.s2, .int .u64 y.s3] := by
        rw [Int.toNat_natCast, List.getD_eq_getElem?_getD, List.getElem?_map, g1]; rfl
      rw [hk] at hg
      simp only [chkGo, Option.getD_none, chkEnd, g2, hk, Int.toNat_natCast] at hr
      simp -implicitDefEqProofs (maxSteps := 2000000) only [c28, hl, e1, hg, v_ld_e, ↓reduceIte, s_skip, s_exit, s_ops0, s_seq, s_cond, s_block, s_opsK, s_seqK_n, s_seqK_e, s_blkK_e, s_loopK_e, s_cnd, s_nil, s_cons, s_wopsK, s_putK, o_mv, o_as, o_bin, v_sub, v_lss, v_part_t, v_part_f, v_atK, o_al, o_fa, v_fa_p, v_fa_e, o_ia, v_ia, o_ld, v_ld_p, v_ldC, o_st, v_st_p, v_stCK, o_len, v_len, o_call, e_t, e_k, e_put, e_get, e_res, e_keep_n, e_keep_c, e_keep1_s, e_asg_i, List.length_nil, List.length_cons, Option.getD_some, Nat.reduceEqDiff, Nat.reduceAdd, reduceCtorEq, true_and, decide_eq_true_eq, List.map_cons, List.map_nil, PV.leaves, List.flatMap_cons, List.flatMap_nil, List.append_nil, List.cons_append, List.nil_append, Bool.true_and, PV.cells, fillL, Nat.zero_le, Nat.le_refl, List.take_zero, List.drop_zero, List.getElem?_cons_zero, kc_b, kc_i, rl_i, kc_l, m_lf, m_ag, m_n, m_c, m_all, st_b, d_n, d_c, Nat.zero_add, Nat.add_zero, kc_er]
      with_reducible refine ite_pr (fun _ => ?_) (fun _ => ?_)
      · omega
      refine fun _ => ⟨⟨by omega, by omega⟩, by omega, ?_⟩
      refine wcall_s (r50 hX k hk2 64) rfl rfl ?_
      simp -implicitDefEqProofs (maxSteps := 2000000) only [c28, ↓reduceIte, s_skip, s_ret, s_ops0, s_seq, s_cond, s_opsK, s_seqK_n, s_seqK_r, s_cnd, s_nil, s_cons, s_wopsK, o_mv, o_as, e_t, e_k, e_put, e_get, e_res, e_keep_n, e_keep_c, e_keep1_s, e_asg_i, Option.getD_some, Nat.reduceEqDiff, reduceCtorEq, true_and, and_true, Bool.false_eq_true, s_ret_r, s_retX, s_cells_n, t_tp, t_n, t_c, t_1l, t_i, r_n, r_t, r_cons, one_2, St.clr, outV, ownsV, owns1, ownL, Bool.and_true, Bool.true_and, ol_b, m_lf]
      rw [← hr]
      split
      · exact ⟨by simp only; omega, rfl⟩
      · exact ⟨rfl, rfl⟩
    | cons x q ih =>
      intro i hq hal h1 h2 hr Z hZ
      apply hZ
      have hi : i < code.length := by
        have := congrArg List.length hq
        simp at this; omega
      have hx : code[i]? = some x := by
        have := congrArg (fun l => l[0]?) hq
        simpa using this
      have hg : (code.map Ins.c).getD (i : Int).toNat [] = x.c := by
        rw [Int.toNat_natCast, List.getD_eq_getElem?_getD, List.getElem?_map, hx]; rfl
      have hq' : code.drop (i + 1) = q := by
        rw [← List.drop_drop, hq]; rfl
      have hc : x.c = [.int .i64 x.op, .int .i64 x.a, .int .i64 x.b, .int .i64 x.n, .str x.t, .int .u64 x.s0, .int .u64 x.s1, .int .u64 x.s2, .int .u64 x.s3] := rfl
      rw [hc] at hg
      simp -implicitDefEqProofs (maxSteps := 2000000) only [c28, hl, hg, v_ld_e, ↓reduceIte, s_skip, s_exit, s_ops0, s_seq, s_cond, s_block, s_opsK, s_seqK_n, s_seqK_e, s_blkK_e, s_loopK_e, s_cnd, s_nil, s_cons, s_wopsK, s_putK, o_mv, o_as, o_bin, v_sub, v_lss, v_part_t, v_part_f, v_atK, o_al, o_fa, v_fa_p, v_fa_e, o_ia, v_ia, o_ld, v_ld_p, v_ldC, o_st, v_st_p, v_stCK, o_len, v_len, o_call, e_t, e_k, e_put, e_get, e_res, e_keep_n, e_keep_c, e_keep1_s, e_asg_i, List.length_nil, List.length_cons, Option.getD_some, Nat.reduceEqDiff, Nat.reduceAdd, reduceCtorEq, true_and, decide_eq_true_eq, List.map_cons, List.map_nil, PV.leaves, List.flatMap_cons, List.flatMap_nil, List.append_nil, List.nil_append, List.all_cons, List.all_nil, Bool.true_and, Bool.and_self, PV.cells, cellL, fillL, Nat.zero_le, Nat.le_refl, List.take_zero, List.drop_zero, List.take_succ_cons, List.drop_succ_cons, List.drop_nil, List.take_nil, List.getElem?_cons_zero, kc_b, kc_i, kc_s, rl_i, kc_l, m_lf, m_ag, m_n, m_c, m_all, st_b, d_n, d_c, Nat.zero_add, Nat.add_zero, kc_er]
      with_reducible refine ite_pr (fun _ => ?_) (fun _ => ?_)
      rotate_left
      · omega
      refine ⟨⟨by omega, by omega⟩, by omega, ?_⟩
      refine wcall_s (r31 x.op) rfl rfl ?_
      simp -implicitDefEqProofs (maxSteps := 2000000) only [c28, hl, hg, v_ld_e, ↓reduceIte, s_ret, s_ops0, s_seq, s_cond, s_opsK, s_seqK_n, s_seqK_r, s_blkK_r, s_loopK_r, s_cnd, s_nil, s_cons, s_wopsK, s_putK, o_mv, o_as, o_un, v_not, v_part_t, o_ld, v_ld_p, v_ldC, o_call, e_t, e_k, e_put, e_get, e_res, e_keep_n, e_keep_c, e_keep1_s, e_asg_b, e_asg_i, List.length_nil, List.length_cons, Option.getD_some, Nat.reduceEqDiff, Nat.reduceAdd, reduceCtorEq, true_and, and_true, Bool.not_true, Bool.false_eq_true, decide_eq_false_iff_not, s_ret_r, s_retX, s_cells_n, t_tp, t_n, t_c, t_1l, t_i, r_n, r_t, r_cons, one_2, St.clr, outV, ownsV, owns1, ownL, List.map_cons, List.map_nil, PV.leaves, List.flatMap_cons, List.flatMap_nil, List.append_nil, Bool.and_true, Bool.true_and, Nat.le_refl, List.drop_zero, List.take_succ_cons, List.take_nil, rl_i, rl_s, ol_b, m_lf, m_ag, Nat.zero_add, ite_not, Bool.not_eq_eq_eq_not]
      have hxm : x ∈ code := List.mem_of_getElem? hx
      simp only [chkGo] at hr
      have he : errAt capF code.length i x = _ := rfl
      conv at he => rhs; unfold errAt
      generalize errAt capF code.length i x = e at hr he
      with_reducible refine ite_pr (fun ho => ?_) (fun ho => ?_)
      rotate_left
      · rw [if_pos ho] at he
        subst he
        rw [if_neg (by decide)] at hr
        rw [← hr]
        exact ⟨rfl, rfl⟩
      obtain ⟨k, hk, hk2⟩ := nat_of ho
      have h49 := r49 hX k hk2 x hk (capF x) (fun h => hcap x hxm (by omega))
      have h50 := r50 hX k hk2 32
      rw [← hk] at h50
      rw [hc] at h49
      have w1 : IntKind.i64.wrap (0 - (i : Int)) = -(i : Int) := by rw [w64 (by omega) (by omega)]; omega
      have w2 : IntKind.i64.wrap ((code.length : Int) - (i : Int)) = (code.length : Int) - (i : Int) := w64 (by omega) (by omega)
      have w3 : IntKind.i64.wrap ((i : Int) + 1) = ((i + 1 : Nat) : Int) := by rw [w64 (by omega) (by omega)]; omega
      rw [if_neg (by simpa using ho), show x.op.toNat = k by omega] at he
      refine wcall_s h49 rfl rfl ?_
      simp -implicitDefEqProofs (maxSteps := 2000000) only [c28, ↓reduceIte, s_ret, s_ops0, s_seq, s_cond, s_opsK, s_seqK_n, s_seqK_r, s_blkK_r, s_loopK_r, s_cnd, s_nil, s_cons, s_wopsK, s_putK, o_mv, o_as, o_un, v_not, v_part_f, v_atK, o_fa, v_fa_p, o_ld, v_ld_p, v_ldC, o_call, e_t, e_k, e_put, e_get, e_res, e_keep_n, e_keep_c, e_keep1_s, e_asg_b, e_asg_i, Option.getD_some, Nat.reduceEqDiff, reduceCtorEq, true_and, and_true, Bool.not_true, Bool.false_eq_true, s_ret_r, s_retX, s_cells_n, t_tp, t_n, t_c, t_1l, t_i, r_n, r_t, r_cons, one_2, St.clr, outV, ownsV, owns1, ownL, List.map_cons, List.map_nil, PV.leaves, List.flatMap_cons, List.flatMap_nil, List.append_nil, List.cons_append, List.nil_append, Bool.and_true, Bool.true_and, List.getElem?_cons_zero, rl_i, ol_b, m_lf, Nat.add_zero, Bool.not_eq_eq_eq_not]
      with_reducible refine ite_pr (fun hf => ?_) (fun hf => ?_)
      · rw [if_pos hf] at he
        subst he
        rw [if_neg (by decide)] at hr
        rw [← hr]
        exact ⟨rfl, rfl⟩
      rw [if_neg hf] at he
      refine wcall_s h50 rfl rfl ?_
      have hal' : ∀ y ∈ code.take (i + 1), 1 ≤ y.op ∧ y.op ≤ 20 := by
        intro y hy
        rw [List.take_add_one, hx] at hy
        simp only [List.mem_append, Option.toList_some, List.mem_singleton] at hy
        rcases hy with hy | rfl
        · exact hal y hy
        · exact ho
      have nx := fun h0 : e = 0 => ih (i + 1) hq' hal' h1 h2 (by rw [if_pos h0] at hr; exact hr) Z hZ
      have bad : e = 162 → (i : Int) = r.1 ∧ 162 = r.2 := by
        intro h0
        rw [h0, if_neg (by decide)] at hr
        rw [← hr]
        exact ⟨rfl, rfl⟩
      simp -implicitDefEqProofs (maxSteps := 2000000) only [c28, hl, w1, w2, w3, ↓reduceIte, s_skip, s_ret, s_ops0, s_seq, s_cond, s_opsK, s_seqK_n, s_seqK_r, s_blkK_n, s_blkK_r, s_loopK_n, s_loopK_r, s_cnd, s_nil, s_cons, s_guard, s_wopsK, s_putK, s_grd, s_grd_no, q_mv, q_pk, q_bin, q_un, q_fa, q_ld, q_len, o_mv, o_as, o_pk, v_pk, o_bin, v_add, v_sub, v_lss, v_geq, o_un, v_neg, v_part_f, v_atK, o_fa, v_fa_p, o_ld, v_ld_p, v_ldC, o_len, v_len, e_t, e_k, e_put, e_get, e_res, e_keep_n, e_keep_c, e_keep1_s, e_asg_b, e_asg_i, Option.getD_some, Nat.reduceEqDiff, reduceCtorEq, true_and, and_true, cond_false, Bool.not_true, Bool.not_false, Bool.true_eq_false, Bool.false_eq_true, decide_eq_true_eq, decide_eq_false_iff_not, s_ret_r, s_retX, s_cells_n, t_tp, t_n, t_c, t_1l, t_i, r_n, r_t, r_cons, one_2, St.clr, outV, ownsV, owns1, ownL, List.append_nil, Bool.and_true, Bool.true_and, List.getElem?_cons_zero, List.getElem?_cons_succ, ol_b, m_lf, e_head, e_headK, kC_n, pO_n, pO_i, pO_l, List.range_zero, Nat.zero_add, ite_not]
      with_reducible refine ite_pr (fun hj => ?_) (fun hj => ?_)
      · with_reducible refine ite_pr (fun ha => ?_) (fun ha => ?_)
        · exact bad (by rw [he, if_pos ⟨hj, by omega⟩])
        · refine fun _ => ?_
          with_reducible refine ite_pr (fun hb => ?_) (fun hb => ?_)
          · exact bad (by rw [he, if_pos ⟨hj, by omega⟩])
          · exact nx (by rw [he, if_neg (by omega)])
      · exact nx (by rw [he, if_neg (fun h => hj h.1)])
  unfold chk at hr
  simp -implicitDefEqProofs (maxSteps := 2000000) only [c28, hl, ↓reduceIte, s_skip, s_ret, s_ops0, s_seq, s_cond, s_block, s_loop, s_opsK, s_seqK_n, s_seqK_r, s_cnd, s_nil, s_cons, s_wopsK, s_putK, o_mv, o_as, o_bin, v_eql, v_gtr, o_len, v_len, e_t, e_k, e_put, e_get, e_res, e_keep_n, e_keep_c, e_keep1_s, e_asg_i, St.init, enum, List.length_nil, Option.getD_some, Nat.reduceEqDiff, reduceCtorEq, true_and, and_true, decide_eq_true_eq, s_ret_r, s_retX, s_cells_n, t_tp, t_n, t_c, t_1l, t_i, r_n, r_t, r_cons, one_2, List.append_nil, Bool.and_true, Bool.true_and, e_head, e_headK, kC_n, pO_n, pO_i, pO_l, List.range_zero]
  refine fun hl2 => ?_
  with_reducible refine ite_pr (fun h => ?_) (fun h => ?_)
  · rw [if_pos (by omega)] at hr
    rw [← hr]
    exact ⟨rfl, rfl⟩
  rw [if_neg (by omega)] at hr
  refine fun _ => ?_
  with_reducible refine ite_pr (fun h => ?_) (fun h => ?_)
  · rw [if_pos (by omega)] at hr
    rw [← hr]
    exact ⟨rfl, rfl⟩
  rw [if_neg (by omega)] at hr
  refine fun _ => key code 0 rfl (fun x hx => by simp at hx) (by omega) (by omega) hr
end Go.Proofs.YthcpaohmajjopaaDoor.I
