/- Contracts, part S5. -/
import Derived.Test.YtdoefdmaecaacaaDoorS4
import Derived.Test.YtdoefdmaecaacaaDoorS3
set_option linter.unusedVariables false
set_option linter.unusedSimpArgs false
namespace Go.Proofs.YtdoefdmaecaacaaDoor.S
open Go Go.Proofs.YtdoefdmaecaacaaDoor.AM
variable {X : Cx}
theorem W.b_toC {w : W} (h : w.ok) : (w.c.map (AM.fromC 16)).map (AM.toC 16) = w.c := by
  obtain ⟨x, y, g⟩ := w
  rcases h.x with h | h <;> (simp only at h; subst h; rfl)
theorem r21 (T : Txt X) (p : List Nd) (sp : List (List L)) (hwf : ∀ x ∈ p, x.wf) (hc : (chk p).2 = 0) (hg : (putsW (toksP T p) w0).g = false) (hy : 0 < (putsW (toksP T p) w0).y.length) :
    R X Tryd.prog 21 [.lf (.lst .ro 7 (p.map Nd.c) sp)] [] (.tp [.lf (.str ⟨(putsW (toksP T p) w0).y.toArray⟩), .lf (.int .i64 0)]) [] := by
  obtain ⟨t, hb, hto, hts, hpl⟩ := chk_tree hwf hc
  have htk : toksP T p = toks T t := by simp only [toksP, treeP, hb]
  rw [htk] at hg hy ⊢
  have h22 := r22 (X := X) p sp
  rw [hc] at h22
  have h16 := r16 (X := X) p sp (by omega) t [] hb
  have hpat := R_nlc nl_w0 (pat_ok T t.size t (Nat.le_refl _) (by omega) hto w0 w0_ok)
  have ok1 := putsW_ok (toks T t) w0_ok
  generalize putsW (toks T t) w0 = w at *
  have h17 := r17 (X := X) w ok1 hg hy
  rw [← W.b_toC ok1] at h17
  refine R_i [] [] c21_ok rfl (by simp) ?_
  simp -implicitDefEqProofs (maxSteps := 2000000) only [c21, ↓reduceIte, S0, St.init, enum, reduceCtorEq, PV.leaves]
  refine wcall_s h22 rfl rfl ?_
  simp -implicitDefEqProofs (maxSteps := 2000000) only [c21, ↓reduceIte, S0, v_neq, o_bd, v_agK, v_bd_n, Nat.reduceEqDiff, reduceCtorEq, St.clr, outV, ownsV, owns1, ownL, List.any_cons, List.any_nil, Bool.or_self, PV.leaves, Nat.zero_le, kc_b, kc_np, kc_l, ne_eq, ite_not, e_asg_t, o_bxt, v_bxt]
  refine wcall_down h16 rfl ?_
  simp -implicitDefEqProofs (maxSteps := 2000000) only [c21, ↓reduceIte, S0, Nat.reduceEqDiff, St.clr, outV, ownsV, owns1, ownL, PV.leaves, dw_lr, ol_rp, ta_rp]
  refine pcall_i hpat rfl rfl ?_
  simp -implicitDefEqProofs (maxSteps := 2000000) only [c21, ↓reduceIte, S0, Nat.reduceEqDiff, reduceCtorEq, outV, ownsV, List.any_nil, PV.leaves, kl_np, kl_lr, kl_ln]
  refine pcall_i h17 rfl rfl ?_
  simp -implicitDefEqProofs (maxSteps := 2000000) only [c21, ↓reduceIte, S0, Nat.reduceEqDiff, outV, ownsV, owns1, ownL, List.any_cons, List.any_nil, Bool.or_self, fc_b, fc_u]
end Go.Proofs.YtdoefdmaecaacaaDoor.S
set_option linter.unusedVariables false
set_option linter.unusedSimpArgs false
namespace Go.Proofs.YtdoefdmaecaacaaDoor.S
open Go Go.Proofs.YtdoefdmaecaacaaDoor.AM
variable {X : Cx}
abbrev nd (op : Int) (t : ByteArray) : Nd := ⟨op, 0, t, 0, 0, 0, 0⟩
def ex1 : List Nd := [nd 4 ⟨#[97]⟩, nd 4 ⟨#[98]⟩, nd 7 ⟨#[]⟩, nd 9 ⟨#[]⟩]
def ex2 : List Nd := [nd 4 ⟨#[97]⟩, nd 9 ⟨#[]⟩, nd 13 ⟨#[]⟩]
def ex3 : List Nd := [nd 4 ⟨#[97]⟩, nd 6 ⟨#[115]⟩, nd 7 ⟨#[]⟩, nd 1 ⟨#[]⟩, nd 8 ⟨#[]⟩]
def exg : List Ru := [⟨⟨#[115]⟩, ex3, []⟩]
theorem nd_wf (op : Int) (t : ByteArray) (ho : -9223372036854775808 ≤ op ∧ op ≤ 9223372036854775807) (ht : t.size ≤ 140737488351232) : (nd op t).wf := by
  constructor <;> simp <;> omega
theorem ex1_t (T : Txt X) (ha : T.lit ⟨#[97]⟩ = ⟨#[39, 97, 39]⟩) (hb : T.lit ⟨#[98]⟩ = ⟨#[39, 98, 39]⟩) : putsW (toksP T ex1) w0 = ⟨.tptr 0 0 46, [40, 39, 97, 39, 32, 39, 98, 39, 41, 42], false⟩ := by
  have e : toksP T ex1 = [⟨#[]⟩, ⟨#[40]⟩, T.lit ⟨#[97]⟩, ⟨#[32]⟩, T.lit ⟨#[98]⟩, ⟨#[41]⟩, ⟨#[42]⟩] := rfl
  rw [e, ha, hb]; rfl
theorem ex2_t (T : Txt X) (ha : T.lit ⟨#[97]⟩ = ⟨#[39, 97, 39]⟩) : putsW (toksP T ex2) w0 = ⟨.tptr 0 0 46, [33, 39, 97, 39, 42], false⟩ := by
  have e : toksP T ex2 = [⟨#[33]⟩, ⟨#[]⟩, T.lit ⟨#[97]⟩, ⟨#[42]⟩, ⟨#[]⟩] := rfl
  rw [e, ha]; rfl
theorem exg_t (T : Txt X) (ha : T.lit ⟨#[97]⟩ = ⟨#[39, 97, 39]⟩) : showG T exg = (⟨#[115, 32, 60, 45, 32, 39, 97, 39, 32, 115, 32, 47, 32, 37, 101, 10]⟩, 0) := by
  have hr : rightF exg = 0 := by decide +kernel
  have e : gT T exg = [⟨#[115]⟩ ++ ⟨#[32, 60, 45, 32]⟩, T.lit ⟨#[97]⟩, ⟨#[32]⟩, ⟨#[115]⟩, ⟨#[32, 47, 32]⟩, ⟨#[37, 101]⟩, ⟨#[10]⟩] := rfl
  have e2 : putsW (gT T exg) w0 = ⟨.tptr 0 0 46, [115, 32, 60, 45, 32, 39, 97, 39, 32, 115, 32, 47, 32, 37, 101, 10], false⟩ := by rw [e, ha]; rfl
  unfold showG
  rw [if_neg (fun h => h hr), e2]; rfl
theorem r9 (T : Txt X) (ha : T.lit ⟨#[97]⟩ = ⟨#[39, 97, 39]⟩) (hb : T.lit ⟨#[98]⟩ = ⟨#[39, 98, 39]⟩) : R X Tryd.prog 9 [] [] (.lf (.bool true)) [] := by
  have e1 := ex1_t T ha hb
  have e2 := ex2_t T ha
  have e3 := exg_t T ha
  have c1 : (chk ex1).2 = 0 := by decide +kernel
  have c2 : (chk ex2).2 = 0 := by decide +kernel
  have w1 : ∀ x ∈ ex1, x.wf := by
    intro x hx
    simp only [ex1, List.mem_cons, List.not_mem_nil, or_false] at hx
    rcases hx with rfl | rfl | rfl | rfl <;> exact nd_wf _ _ (by omega) (by decide)
  have w2 : ∀ x ∈ ex2, x.wf := by
    intro x hx
    simp only [ex2, List.mem_cons, List.not_mem_nil, or_false] at hx
    rcases hx with rfl | rfl | rfl <;> exact nd_wf _ _ (by omega) (by decide)
  have w3 : ∀ r ∈ exg, ∀ x ∈ r.bd, x.wf := by
    intro r hr x hx
    simp only [exg, List.mem_cons, List.not_mem_nil, or_false] at hr
    subst hr
    simp only [ex3, List.mem_cons, List.not_mem_nil, or_false] at hx
    rcases hx with rfl | rfl | rfl | rfl | rfl <;> exact nd_wf _ _ (by omega) (by decide)
  have h1 := r21 T ex1 [] w1 c1 (by rw [e1]) (by rw [e1]; decide)
  have h2 := r21 T ex2 [] w2 c2 (by rw [e2]) (by rw [e2]; decide)
  have h3 := r6 T exg [] w3
  rw [e1] at h1
  rw [e2] at h2
  rw [e3] at h3
  simp only [ex1, ex2, exg, ex3, List.map_cons, List.map_nil, Nd.c, Ru.c] at h1 h2 h3
  refine R_i [] [] c9_ok rfl (by simp) ?_
  simp -implicitDefEqProofs (maxSteps := 2000000) only [c9, ↓reduceIte, S0, o_al, o_bd, v_agK, v_bd_n, v_bd_c, o_bs, v_bsK, v_lit_n, v_lit_c, St.init, enum, Nat.reduceEqDiff, Nat.reduceAdd, reduceCtorEq, PV.leaves, List.all_cons, List.all_nil, PV.cells, cellL, datL, fillL, Nat.reduceMul, Nat.reduceBEq, Nat.reduceLeDiff, Nat.zero_le, Nat.le_refl, List.take_zero, List.drop_zero, List.take_succ_cons, List.drop_succ_cons, List.drop_nil, List.take_nil, kp_s, kc_s, kp_p, kc_p, st_b, plT, ne_eq, not_false_eq_true, lit_n, lit_c, List.reduceReplicate, List.set_cons_zero, List.set_cons_succ, Nat.reduceLT, Nat.lt_add_one]
  refine wcall_down h1 rfl ?_
  simp -implicitDefEqProofs (maxSteps := 2000000) only [c9, ↓reduceIte, S0, o_bd, v_agK, v_bd_n, v_bd_c, o_bs, v_bsK, v_lit_n, v_lit_c, Nat.reduceEqDiff, Nat.reduceAdd, reduceCtorEq, St.clr, outV, ownsV, owns1, ownL, List.any_cons, List.any_nil, Bool.or_self, PV.leaves, List.all_cons, List.all_nil, PV.cells, cellL, datL, fillL, Nat.reduceMul, Nat.reduceLeDiff, Nat.le_refl, List.take_zero, List.drop_zero, List.take_succ_cons, List.drop_succ_cons, List.take_nil, kp_s, ro_i, ro_s, kp_p, ro_p, ro_lo, dw_lo, plT, ne_eq, not_false_eq_true, lit_n, lit_c, List.reduceReplicate, List.set_cons_zero, List.set_cons_succ, Nat.reduceLT, Nat.lt_add_one]
  refine wcall_down h2 rfl ?_
  simp -implicitDefEqProofs (maxSteps := 2000000) only [c9, ↓reduceIte, S0, o_bd, v_agK, v_bd_n, v_bd_c, o_bs, v_bsK, v_lit_n, v_lit_c, Nat.reduceEqDiff, Nat.reduceAdd, reduceCtorEq, St.clr, outV, ownsV, owns1, ownL, List.any_cons, List.any_nil, Bool.or_self, PV.leaves, List.all_cons, List.all_nil, PV.cells, cellL, datL, fillL, Nat.reduceMul, Nat.reduceLeDiff, Nat.le_refl, List.take_zero, List.drop_zero, List.take_succ_cons, List.drop_succ_cons, List.drop_nil, List.take_nil, kp_s, ro_i, ro_s, kp_p, kp_lro, ro_p, ro_lo, dw_lo, plT, ne_eq, not_false_eq_true, lit_n, lit_c, List.reduceReplicate, List.set_cons_zero, List.set_cons_succ, Nat.reduceLT, Nat.lt_add_one]
  refine wcall_down h3 rfl ?_
  simp -implicitDefEqProofs (maxSteps := 2000000) only [c9, ↓reduceIte, S0, v_seql, Nat.reduceEqDiff, cond_false, St.clr, outV, ownsV, owns1, ownL, List.any_cons, List.any_nil, Bool.or_self, ro_i, ro_s, ro_p, ro_lro, ro_lo, dw_lo]
end Go.Proofs.YtdoefdmaecaacaaDoor.S
