/- Contracts, part S6. -/
import Derived.Test.YtdoefdmaecaacaaGreatDoorS1
import Derived.Test.YtdoefdmaecaacaaGreatDoorS4
import Derived.Test.YtdoefdmaecaacaaGreatDoorS3
import Derived.Test.YtdoefdmaecaacaaGreatDoorS2
set_option linter.unusedVariables false
set_option linter.unusedSimpArgs false
namespace Go.Proofs.YtdoefdmaecaacaaGreatDoor.S
open Go Go.Proofs.YtdoefdmaecaacaaGreatDoor.AM
variable {X : Cx}
abbrev mkN : List L := [.int .i64 (-77), .int .i64 0, .str ⟨#[]⟩, .int .u64 0, .int .u64 0, .int .u64 0, .int .u64 0]
theorem r7 (p : List Nd) (sp : List (List L)) (hp : p.length ≤ 2199023255488) : R X Tryz.prog 7 [.lf (.lst .ro 7 (p.map Nd.c) sp)] [] (.lf (.lst (.own 0 49) 7 (p.map Nd.c) [mkN])) [] := by
  have hml : (p.map Nd.c).length = p.length := List.length_map _
  refine R_i [(0, 256)] [] c7_ok rfl (by simp) ?_
  simp -implicitDefEqProofs (maxSteps := 2000000) only [c7,hml,↓reduceIte,S0,o_bd,v_agK,v_bd_n,v_bd_c,o_bs,v_bsK,v_lit_n,v_lit_c,o_len,v_len,o_app,v_app_o,o_sll,v_sll_b,St.init,enum,Option.map_some,Option.map_none,Nat.reduceEqDiff,Nat.reduceAdd,reduceCtorEq,Bool.or_false,Bool.false_or,List.all_cons,List.all_nil,PV.cells,cellL,datL,fillL,Nat.reduceMul,Nat.reduceBEq,Nat.reduceLeDiff,Nat.zero_le,List.take_zero,List.drop_zero,List.drop_succ_cons,kp_s,rl_s,kp_lro,kp_lo,e_asg_n,plT,ne_eq,not_false_eq_true,Int.reduceNeg,lit_n,lit_c,List.reduceReplicate,List.set_cons_zero,List.length_append,Nat.lt_add_one,true_or,or_false,false_or,kp_lk,rk_lk,lp_i,lp_s,lp_lr,lp_lo,lp_lk]
  refine ⟨by omega, by omega, fun _ => ⟨⟨by omega, by omega⟩, ?_, ?_⟩⟩
  · rw [Int.toNat_natCast, ← hml, List.take_left']; rfl
  · rw [Int.toNat_natCast, ← hml, List.drop_left']; rfl
theorem r15 (p : List Nd) (sp sq : List (List L)) (hp : p.length ≤ 2199023255488) : R X Tryz.prog 15 [.lf (.lst .ro 7 (p.map Nd.c) sp), .lf (.lst .ro 7 (p.map Nd.c) sq)] [] (.lf (.bool true)) [] := by
  have hml : (p.map Nd.c).length = p.length := List.length_map _
  refine R_i [] [] c15_ok rfl (by simp) ?_
  have key : ∀ (q d : List Nd), d ++ q = p → LoopAt X Tryz.prog c15_10 [0, 1, 5] (blkK 0 (seqK X Tryz.prog c15_14 (retS [] [] 0 [RV.t 4] (PV.lf (L.bool true)) [])))
        { m := 0, tm := [(0, .lf (.lst .ro 7 (p.map Nd.c) sp)), (1, .lf (.lst .ro 7 (p.map Nd.c) sq)), (5, .lf (.int .i64 d.length))], ce := [] } := by
    intro q
    induction q with
    | nil =>
      intro d hd
      simp only [List.append_nil] at hd
      subst hd
      have hlt : ¬ (d.length : Int) < d.length := by omega
      intro Z hZ; apply hZ
      simp -implicitDefEqProofs (maxSteps := 2000000) only [c15,hlt,decide_false,hml,↓reduceIte,S0,s_exit,s_seqK_e,s_blkK_e,s_loopK_e,o_len,v_len,Nat.reduceEqDiff,reduceCtorEq,implies_true]
    | cons x q ih =>
      intro d hd
      have hdl : d.length < p.length := by rw [← hd]; simp
      have hlt : (d.length : Int) < p.length := by omega
      have hih := ih (d ++ [x]) (by simp [← hd])
      obtain ⟨op, n, tx, s0, s1, s2, s3⟩ := x
      have hx : (p.map Nd.c).getD ((d.length : Nat) : Int).toNat [] = [.int .i64 op, .int .i64 n, .str tx, .int .u64 s0, .int .u64 s1, .int .u64 s2, .int .u64 s3] := by
        rw [Int.toNat_natCast, List.getD_eq_getElem?_getD, List.getElem?_map, ← hd]; simp
      have wd : IntKind.i64.wrap ((d.length : Int) + 1) = ((d.length + 1 : Nat) : Int) := by rw [w64 (by omega) (by omega)]; omega
      intro Z hZ; apply hZ
      simp -implicitDefEqProofs (maxSteps := 2000000) only [c15,hlt,decide_true,hx,v_ld_e,hml,wd,↓reduceIte,S0,s_ops2,s_wopsqK,s_qnil,s_qcons,q_beq,q_ia,q_ld,o_beq,v_part_t,o_len,v_len,Nat.reduceEqDiff,Nat.reduceAdd,reduceCtorEq,Bool.not_true,Nat.le_refl,List.drop_zero,List.take_succ_cons,List.take_nil,List.range_zero,v_beqK,v_andO,v_beqA,q_i,q_s,q_1,q_c,kd_i,kd_s]
      intro _
      refine ⟨⟨by omega, by omega⟩, by omega, ⟨by omega, by omega⟩, by omega, ?_⟩
      have hz := hih Z hZ
      simp only [List.length_append, List.length_cons, List.length_nil, Nat.zero_add] at hz
      exact hz
  simp -implicitDefEqProofs (maxSteps := 2000000) only [c15,hml,↓reduceIte,S0,s_loop,v_neq,o_len,v_len,St.init,enum,Nat.reduceEqDiff,reduceCtorEq,List.range_zero,ne_eq,ite_not]
  intro _ _
  exact key p [] rfl
theorem r12 (p : List Nd) (sq : List (List L)) (hp : p.length ≤ 2199023255488) : R X Tryz.prog 12 [.lf (.lst .ro 7 (p.map Nd.c) [mkN]), .lf (.lst .ro 7 (p.map Nd.c) sq)] [] (.lf (.bool true)) [] := by
  have hml : (p.map Nd.c).length = p.length := List.length_map _
  have h39 := r15 (X := X) p [mkN] sq hp
  have w1 : IntKind.i64.wrap ((p.length : Int) + 1) = ((p.length + 1 : Nat) : Int) := by rw [w64 (by omega) (by omega)]; omega
  have hx : (p.map Nd.c ++ [mkN]).getD ((p.length : Nat) : Int).toNat [] = mkN := by
    rw [Int.toNat_natCast, List.getD_eq_getElem?_getD, ← hml, List.getElem?_append_right (Nat.le_refl _)]; simp
  have htk : List.take ((p.length + 1 : Nat) : Int).toNat (p.map Nd.c ++ [mkN]) = p.map Nd.c ++ [mkN] := by
    rw [Int.toNat_natCast, List.take_of_length_le]; simp
  refine R_i [] [] c12_ok rfl (by simp) ?_
  simp -implicitDefEqProofs (maxSteps := 2000000) only [c12,↓reduceIte,S0,St.init,enum,Nat.reduceEqDiff,reduceCtorEq,PV.leaves,rl_l,Int.reduceNeg]
  refine wcall_s h39 rfl rfl ?_
  simp -implicitDefEqProofs (maxSteps := 2000000) only [c12,hml,w1,htk,hx,v_ld_e,↓reduceIte,S0,q_beq,q_ia,q_ld,q_bd,q_len,q_sll,o_beq,v_part_t,o_bd,v_agK,v_bd_n,v_bd_c,o_len,v_len,o_sll,v_sll_b,Option.map_some,Option.map_none,Nat.reduceEqDiff,Nat.reduceAdd,reduceCtorEq,cond_false,St.clr,outV,ownsV,owns1,ownL,List.all_cons,List.all_nil,PV.cells,cellL,fillL,Nat.reduceLeDiff,Nat.le_refl,List.take_zero,List.drop_zero,List.take_succ_cons,List.drop_succ_cons,List.take_nil,ol_b,ne_eq,not_false_eq_true,Int.reduceNeg,List.length_append,v_beqK,v_andO,v_beqA,q_i,q_s,q_1,q_c,kd_i,kd_s]
  intro _
  exact ⟨⟨by omega, by omega⟩, fun _ => ⟨⟨by omega, by omega⟩, by omega⟩⟩
end Go.Proofs.YtdoefdmaecaacaaGreatDoor.S
set_option linter.unusedVariables false
set_option linter.unusedSimpArgs false
namespace Go.Proofs.YtdoefdmaecaacaaGreatDoor.S
open Go Go.Proofs.YtdoefdmaecaacaaGreatDoor.AM
variable {X : Cx}
theorem W.b_toC {w : W} (h : w.ok) : (w.c.map (AM.fromC 16)).map (AM.toC 16) = w.c := by
  obtain ⟨x, y, g⟩ := w
  rcases h.x with h | h <;> (simp only at h; subst h; rfl)
theorem r8 (T : Txt X) (p : List Nd) (sp : List (List L)) (hwf : ∀ x ∈ p, x.wf) (hc : (chk p).2 = 0) (hg : (putsW (toksP T p) w0).g = false) (hy : 0 < (putsW (toksP T p) w0).y.length) :
    R X Tryz.prog 8 [.lf (.lst .ro 7 (p.map Nd.c) sp)] [] (.tp [.lf (.str ⟨(putsW (toksP T p) w0).y.toArray⟩), .lf (.int .i64 0)]) [] := by
  obtain ⟨t, hb, hto, hts, hpl⟩ := chk_tree hwf hc
  have htk : toksP T p = toks T t := by simp only [toksP, treeP, hb]
  rw [htk] at hg hy ⊢
  have h22 := r21 (X := X) p sp
  rw [hc] at h22
  have h16 := r23 (X := X) p sp (by omega) t [] hb
  have hpat := R_nlc nl_w0 (pat_ok T t.size t (Nat.le_refl _) (by omega) hto w0 w0_ok)
  have ok1 := putsW_ok (toks T t) w0_ok
  generalize putsW (toks T t) w0 = w at *
  have h17 := r24 (X := X) w ok1 hg hy
  rw [← W.b_toC ok1] at h17
  refine R_i [] [] c8_ok rfl (by simp) ?_
  simp -implicitDefEqProofs (maxSteps := 2000000) only [c8,↓reduceIte,S0,St.init,enum,reduceCtorEq,PV.leaves,rl_l]
  refine wcall_s h22 rfl rfl ?_
  simp -implicitDefEqProofs (maxSteps := 2000000) only [c8,↓reduceIte,S0,v_neq,o_ext,v_ext0,v_ext1,o_bd,v_agK,v_bd_n,Nat.reduceEqDiff,reduceCtorEq,St.clr,outV,ownsV,owns1,ownL,List.any_cons,List.any_nil,Bool.or_self,PV.leaves,Nat.zero_le,kc_b,kc_i,kc_np,kc_l,rl_l,m_1l,ne_eq,ite_not,e_asg_t,o_bxt,v_bxt]
  refine wcall_down h16 rfl ?_
  simp -implicitDefEqProofs (maxSteps := 2000000) only [c8,↓reduceIte,S0,Nat.reduceEqDiff,St.clr,outV,ownsV,owns1,ownL,PV.leaves,ol_rp,ta_rp,dw_rp0]
  refine pcall_i hpat rfl rfl ?_
  simp -implicitDefEqProofs (maxSteps := 2000000) only [c8,↓reduceIte,S0,Nat.reduceEqDiff,reduceCtorEq,outV,ownsV,List.any_nil,PV.leaves,kl_np,kl_ln,kl_rp]
  refine pcall_i h17 rfl rfl ?_
  simp -implicitDefEqProofs (maxSteps := 2000000) only [c8,↓reduceIte,S0,o_ext,v_ext0,v_ext1,Nat.reduceEqDiff,outV,ownsV,owns1,ownL,List.any_cons,List.any_nil,Bool.or_self,m_1l,fc_u]
end Go.Proofs.YtdoefdmaecaacaaGreatDoor.S
set_option linter.unusedVariables false
set_option linter.unusedSimpArgs false
namespace Go.Proofs.YtdoefdmaecaacaaGreatDoor.S
open Go Go.Proofs.YtdoefdmaecaacaaGreatDoor.AM
variable {X : Cx}
abbrev nd (op : Int) (t : ByteArray) : Nd := ⟨op, 0, t, 0, 0, 0, 0⟩
def ex1 : List Nd := [nd 4 ⟨#[97]⟩, nd 4 ⟨#[98]⟩, nd 7 ⟨#[]⟩, nd 9 ⟨#[]⟩]
def ex2 : List Nd := [nd 4 ⟨#[97]⟩, nd 9 ⟨#[]⟩, nd 13 ⟨#[]⟩]
def ex3 : List Nd := [nd 4 ⟨#[97]⟩, nd 6 ⟨#[115]⟩, nd 7 ⟨#[]⟩, nd 1 ⟨#[]⟩, nd 8 ⟨#[]⟩]
def exg : List Ru := [⟨⟨#[115]⟩, ex3, []⟩]
theorem nd_wf (op : Int) (t : ByteArray) (ho : -9223372036854775808 ≤ op ∧ op ≤ 9223372036854775807) (ht : t.size ≤ 140737488351232) : (nd op t).wf := by
  constructor <;> simp <;> omega
theorem ex1_t (T : Txt X) (ha : T.lit ⟨#[97]⟩ = ⟨#[39, 97, 39]⟩) (hb : T.lit ⟨#[98]⟩ = ⟨#[39, 98, 39]⟩) : putsW (toksP T ex1) w0 = ⟨.tptr 0 0 58, [40, 39, 97, 39, 32, 39, 98, 39, 41, 42], false⟩ := by
  have e : toksP T ex1 = [⟨#[]⟩, ⟨#[40]⟩, T.lit ⟨#[97]⟩, ⟨#[32]⟩, T.lit ⟨#[98]⟩, ⟨#[41]⟩, ⟨#[42]⟩] := rfl
  rw [e, ha, hb]; rfl
theorem ex2_t (T : Txt X) (ha : T.lit ⟨#[97]⟩ = ⟨#[39, 97, 39]⟩) : putsW (toksP T ex2) w0 = ⟨.tptr 0 0 58, [33, 39, 97, 39, 42], false⟩ := by
  have e : toksP T ex2 = [⟨#[33]⟩, ⟨#[]⟩, T.lit ⟨#[97]⟩, ⟨#[42]⟩, ⟨#[]⟩] := rfl
  rw [e, ha]; rfl
theorem exg_t (T : Txt X) (ha : T.lit ⟨#[97]⟩ = ⟨#[39, 97, 39]⟩) : showG T exg = (⟨#[115, 32, 60, 45, 32, 39, 97, 39, 32, 115, 32, 47, 32, 37, 101, 10]⟩, 0) := by
  have hr : rightF exg = 0 := by decide +kernel
  have e : gT T exg = [⟨#[115]⟩ ++ ⟨#[32, 60, 45, 32]⟩, T.lit ⟨#[97]⟩, ⟨#[32]⟩, ⟨#[115]⟩, ⟨#[32, 47, 32]⟩, ⟨#[37, 101]⟩, ⟨#[10]⟩] := rfl
  have e2 : putsW (gT T exg) w0 = ⟨.tptr 0 0 58, [115, 32, 60, 45, 32, 39, 97, 39, 32, 115, 32, 47, 32, 37, 101, 10], false⟩ := by rw [e, ha]; rfl
  unfold showG
  rw [if_neg (fun h => h hr), e2]; rfl
theorem r13 (T : Txt X) (ha : T.lit ⟨#[97]⟩ = ⟨#[39, 97, 39]⟩) (hb : T.lit ⟨#[98]⟩ = ⟨#[39, 98, 39]⟩) : R X Tryz.prog 13 [] [] (.lf (.bool true)) [] := by
  have e1 := ex1_t T ha hb
  have e2 := ex2_t T ha
  have e3 := exg_t T ha
  have c1 : (chk ex1).2 = 0 := by decide +kernel
  have c2 : (chk ex2).2 = 0 := by decide +kernel
  have w1 : ∀ x ∈ ex1, x.wf := by
    intro x hx
    simp only [ex1, List.mem_cons, List.not_mem_nil, or_false] at hx
    rcases hx with rfl | rfl | rfl | rfl <;> exact nd_wf _ _ (by omega) (by decide)
  have w2 : ∀ x ∈ ex2, x.wf := by
    intro x hx
    simp only [ex2, List.mem_cons, List.not_mem_nil, or_false] at hx
    rcases hx with rfl | rfl | rfl <;> exact nd_wf _ _ (by omega) (by decide)
  have w3 : ∀ r ∈ exg, ∀ x ∈ r.bd, x.wf := by
    intro r hr x hx
    simp only [exg, List.mem_cons, List.not_mem_nil, or_false] at hr
    subst hr
    simp only [ex3, List.mem_cons, List.not_mem_nil, or_false] at hx
    rcases hx with rfl | rfl | rfl | rfl | rfl <;> exact nd_wf _ _ (by omega) (by decide)
  have h1 := r8 T ex1 [] w1 c1 (by rw [e1]) (by rw [e1]; decide)
  have h2 := r8 T ex2 [] w2 c2 (by rw [e2]) (by rw [e2]; decide)
  have h3 := r18 T exg [] w3
  rw [e1] at h1
  rw [e2] at h2
  rw [e3] at h3
  simp only [ex1, ex2, exg, ex3, List.map_cons, List.map_nil, Nd.c, Ru.c] at h1 h2 h3
  refine R_i [] [] c13_ok rfl (by simp) ?_
  simp -implicitDefEqProofs (maxSteps := 2000000) only [c13,↓reduceIte,S0,v_part_t,o_al,o_st,v_st_p,v_stCK,o_bd,v_agK,v_bd_n,v_bd_c,o_bs,v_bsK,v_lit_n,v_lit_c,St.init,enum,Nat.reduceEqDiff,Nat.reduceAdd,reduceCtorEq,PV.leaves,List.all_cons,List.all_nil,PV.cells,cellL,datL,fillL,Nat.reduceMul,Nat.reduceBEq,Nat.reduceLeDiff,Nat.zero_le,Nat.le_refl,List.take_zero,List.drop_zero,List.take_succ_cons,List.drop_succ_cons,List.drop_nil,List.take_nil,kp_s,kc_i,kc_s,rl_s,kp_p,kc_p,rl_l,st_b,plT,ne_eq,not_false_eq_true,lit_n,lit_c,List.reduceReplicate,List.set_cons_zero,List.set_cons_succ,Nat.reduceLT,Nat.lt_add_one]
  refine wcall_down h1 rfl ?_
  simp -implicitDefEqProofs (maxSteps := 2000000) only [c13,↓reduceIte,S0,o_ext,v_ext0,v_ext1,v_part_t,o_bd,v_agK,v_bd_n,v_bd_c,o_bs,v_bsK,v_lit_n,v_lit_c,Nat.reduceEqDiff,Nat.reduceAdd,reduceCtorEq,St.clr,outV,ownsV,owns1,ownL,List.any_cons,List.any_nil,Bool.or_self,PV.leaves,List.all_cons,List.all_nil,PV.cells,cellL,datL,fillL,Nat.reduceMul,Nat.reduceLeDiff,Nat.le_refl,List.take_zero,List.drop_zero,List.take_succ_cons,List.drop_succ_cons,List.take_nil,kp_s,ro_i,ro_s,rl_s,kp_p,ro_p,ro_lo,rl_l,m_1l,dw_lo,plT,ne_eq,not_false_eq_true,lit_n,lit_c,List.reduceReplicate,List.set_cons_zero,List.set_cons_succ,Nat.reduceLT,Nat.lt_add_one]
  refine wcall_down h2 rfl ?_
  simp -implicitDefEqProofs (maxSteps := 2000000) only [c13,↓reduceIte,S0,o_ext,v_ext0,v_ext1,v_part_t,o_bd,v_agK,v_bd_n,v_bd_c,o_bs,v_bsK,v_lit_n,v_lit_c,Nat.reduceEqDiff,Nat.reduceAdd,reduceCtorEq,St.clr,outV,ownsV,owns1,ownL,List.any_cons,List.any_nil,Bool.or_self,PV.leaves,List.all_cons,List.all_nil,PV.cells,cellL,datL,fillL,Nat.reduceMul,Nat.reduceLeDiff,Nat.le_refl,List.take_zero,List.drop_zero,List.take_succ_cons,List.drop_succ_cons,List.drop_nil,List.take_nil,kp_s,ro_i,ro_s,rl_s,kp_p,kp_lro,ro_p,ro_lo,rl_l,m_1l,dw_lo,plT,ne_eq,not_false_eq_true,lit_n,lit_c,List.reduceReplicate,List.set_cons_zero,List.set_cons_succ,Nat.reduceLT,Nat.lt_add_one]
  refine wcall_down h3 rfl ?_
  simp -implicitDefEqProofs (maxSteps := 2000000) only [c13,↓reduceIte,S0,v_seql,o_ext,v_ext0,v_ext1,Nat.reduceEqDiff,cond_false,St.clr,outV,ownsV,owns1,ownL,List.any_cons,List.any_nil,Bool.or_self,ro_i,ro_s,ro_p,ro_lro,ro_lo,m_1l,dw_lo]
end Go.Proofs.YtdoefdmaecaacaaGreatDoor.S
set_option linter.unusedVariables false
set_option linter.unusedSimpArgs false
namespace Go.Proofs.YtdoefdmaecaacaaGreatDoor.SL
open Go Go.Proofs.YtdoefdmaecaacaaGreatDoor.AM Go.Proofs Go.Proofs.YtdoefdmaecaacaaGreatDoor.S
variable {X : Cx}
def asciiL : List L := Lib.asciiSpaceTab.map fun n => .int .u8 n
theorem asc_var : Tryz.prog.globalNamed "strings.asciiSpace" = some 0 := by kernel_rfl
theorem var_of_cells {w : World} {n : String} {g : Nat} {k : IntKind} {zs : List Int} (hg : Tryz.prog.globalNamed n = some g) (h0 : 0 < zs.length) (hend : w.cell? ⟨g, zs.length, none⟩ = none) (hc : ∀ j z, zs[j]? = some z → w.cell? ⟨g, j, none⟩ = some (Value.int k z)) : w.var? Tryz.prog n = some (zs.map fun z => Value.int k z).toArray := by
  have c0 := hc 0 zs[0] (List.getElem?_eq_getElem h0)
  unfold World.var?
  rw [hg, Option.bind_some]
  cases hh : w.heap[g]? with
  | none => simp [World.cell?, hh] at c0
  | some o =>
    cases o <;> simp [World.cell?, hh] at c0
    rename_i cs e f
    have hall : ∀ j z, zs[j]? = some z → cs[j]? = some (Value.int k z) := fun j z hz => by
      have := hc j z hz
      rwa [cell_of_cells hh] at this
    have hend' : cs[zs.length]? = none := by rwa [cell_of_cells hh] at hend
    simp only [Option.some.injEq]
    apply Array.ext_getElem?
    intro i
    by_cases hi : i < zs.length
    · rw [hall i zs[i] (List.getElem?_eq_getElem hi)]
      simp [hi]
    · rw [Array.getElem?_eq_none (by have := Array.getElem?_eq_none_iff.1 hend'; omega), Array.getElem?_eq_none (by simp; omega)]
theorem asc_tab (hX : X.G 0 = some asciiL) {E : Env} {w : World} (h : CxOK X E w) : Lib.TabIs Tryz.prog w "strings.asciiSpace" .u8 Lib.asciiSpaceTab := by
  obtain ⟨_, hlt, hend, hc⟩ := h 0 _ hX
  rw [asciiL, List.length_map] at hend
  refine var_of_cells asc_var (by decide +kernel) hend (fun j z hz => ?_)
  obtain ⟨u, h1, h2⟩ := hc j (.int .u8 z) (by rw [asciiL, List.getElem?_map, hz]; rfl)
  cases h2
  exact h1
def sps (n : Nat) : ByteArray := ⟨(List.replicate n 32).toArray⟩
theorem rep_sp : ∀ n : Nat, Lib.repeatL [32] n = List.replicate n 32
  | 0 => rfl
  | n + 1 => by rw [Lib.repeatL, rep_sp n]; rfl
theorem r44 (n : Nat) (hn : n ≤ 1000000) : R X Tryz.prog 44 [.lf (.str ⟨#[32]⟩), .lf (.int .i64 n)] [] (.lf (.str (sps n))) [] := by
  refine R_grow rfl fun E w vs hC ha => ?_
  cases ha with
  | cons a1 a2 =>
    cases a2 with
    | cons a2 a3 =>
      cases a3
      cases a1
      cases a2
      have e1 : (⟨#[32]⟩ : ByteArray).size = 1 := rfl
      refine (rep42 ⟨#[32]⟩ n w (by omega) (by rw [e1]; omega)).mono ?_
      rintro e w' ⟨rfl, hB⟩
      have e2 : (⟨#[32]⟩ : ByteArray).data.toList = [32] := rfl
      rw [e2, rep_sp]
      exact ⟨rfl, hB.os, hB.tape, hB.output, hB.size, fun k hk _ => hB.block k hk⟩
def wordsL : List (List UInt8) := [[110, 111, 110, 101], [101, 109, 112, 116, 121], [102, 97, 105, 108], [97, 110, 121], [116, 101, 120, 116], [115, 101, 116], [99, 97, 108, 108], [115, 101, 113], [99, 104, 111, 105, 99, 101], [115, 116, 97, 114], [112, 108, 117, 115], [111, 112, 116], [97, 110, 100], [110, 111, 116], [116, 105, 109, 101, 115], [108, 101, 97, 115, 116], [109, 111, 115, 116], [112, 108, 97, 99, 101], [115, 117, 98], [103, 114, 111, 117, 112], [108, 105, 115, 116], [115, 117, 98, 115, 116], [115, 116, 114, 105, 110, 103], [112, 105, 99, 107]]
abbrev wordsT : ByteArray := ⟨#[110, 111, 110, 101, 32, 101, 109, 112, 116, 121, 32, 102, 97, 105, 108, 32, 97, 110, 121, 32, 116, 101, 120, 116, 32, 115, 101, 116, 32, 99, 97, 108, 108, 32, 115, 101, 113, 32, 99, 104, 111, 105, 99, 101, 32, 115, 116, 97, 114, 32, 112, 108, 117, 115, 32, 111, 112, 116, 32, 97, 110, 100, 32, 110, 111, 116, 32, 116, 105, 109, 101, 115, 32, 108, 101, 97, 115, 116, 32, 109, 111, 115, 116, 32, 112, 108, 97, 99, 101, 32, 115, 117, 98, 32, 103, 114, 111, 117, 112, 32, 108, 105, 115, 116, 32, 115, 117, 98, 115, 116, 32, 115, 116, 114, 105, 110, 103, 32, 112, 105, 99, 107]⟩
theorem words_f : Lib.fields wordsT.data.toList = wordsL := by decide +kernel
def wordR (l : List UInt8) : List L := [.str ⟨l.toArray⟩]
theorem r72 (hX : X.G 0 = some asciiL) : R X Tryz.prog 72 [.lf (.str wordsT)] [] (.lf (.lst (.own 0 9) 1 (wordsL.map wordR) [])) [] := by
  intro E w vs hC hI _ hargs _
  cases hargs with
  | cons a1 a2 =>
    cases a2
    cases a1
    have hasc : ∀ (j : Nat) (b : UInt8), wordsT.data.toList[j]? = some b → b.toNat < 128 := by
      have : ∀ b ∈ wordsT.data.toList, b.toNat < 128 := by decide +kernel
      exact fun j b hb => this b (List.mem_of_getElem? hb)
    refine (fields61 wordsT w (by decide +kernel) hasc (asc_tab hX hC)).mono ?_
    rintro e w' ⟨rfl, rfl⟩
    rw [words_f]
    have hU : Unch (fun _ => False) w (w.alloc (.cells (wordsL.map fun l => Value.string ⟨l.toArray⟩).toArray 9)) :=
      ⟨rfl, rfl, rfl, by simp, fun b hb _ => (Go.RowKit.Below.refl w.heap.size w).alloc (Nat.le_refl _) _ |>.block b hb⟩
    have hh := World.alloc_heap_new w (.cells (wordsL.map fun l => Value.string ⟨l.toArray⟩).toArray 9)
    refine ⟨_, E.own 0 w.heap.size, rfl, (own_step hI hU (Nat.le_refl _) (by simp)).1, ⟨some ⟨w.heap.size, 0, none⟩, wordsL.length, by simp, .inr ⟨w.heap.size, _, rfl, by simp [Env.own, upd], hh, ?_, ?_, ?_, ?_⟩⟩, fun c cs h => by simp at h⟩
    · simp
    · decide
    · simp
    · intro i x hx
      rw [List.append_nil, List.getElem?_map] at hx
      obtain ⟨p, hp, rfl⟩ := Option.map_eq_some_iff.1 hx
      refine ⟨rfl, fun j c hj => ?_⟩
      match j, hj with
      | 0, hj => simp [wordR] at hj; subst hj; exact ⟨_, by simp [hp], .str _⟩
      | j + 1, hj => simp [wordR] at hj
def wordF (op : Int) : ByteArray := ⟨(wordsL.getD op.toNat []).toArray⟩
theorem r45 (hX : X.G 0 = some asciiL) (op : Int) (h0 : 0 ≤ op) (h1 : op ≤ 23) : R X Tryz.prog 45 [.lf (.int .i64 op)] [] (.lf (.str (wordF op))) [] := by
  refine R_i [] [] c45_ok rfl (by simp) ?_
  have h61 := r72 hX
  have hl : (wordsL.map wordR).length = 24 := rfl
  have hx : (wordsL.map wordR).getD op.toNat [] = [.str (wordF op)] := by
    have : op.toNat < wordsL.length := by show op.toNat < 24; omega
    rw [List.getD_eq_getElem?_getD, List.getElem?_map, List.getElem?_eq_getElem this]
    unfold wordF
    rw [List.getD_eq_getElem?_getD, List.getElem?_eq_getElem this]
    rfl
  generalize wordsL.map wordR = ws at *
  simp -implicitDefEqProofs (maxSteps := 2000000) only [c45,↓reduceIte,S0,St.init,enum,reduceCtorEq,PV.leaves,rl_s]
  refine wcall_down h61 rfl ?_
  simp -implicitDefEqProofs (maxSteps := 2000000) only [c45,v_ld_e,hx,hl,↓reduceIte,S0,Nat.reduceEqDiff,Nat.reduceAdd,reduceCtorEq,St.clr,outV,ownsV,owns1,ownL,Nat.reduceMul,plT]
  exact ⟨⟨by omega, by omega⟩, by omega⟩
end Go.Proofs.YtdoefdmaecaacaaGreatDoor.SL
set_option linter.unusedVariables false
set_option linter.unusedSimpArgs false
namespace Go.Proofs.YtdoefdmaecaacaaGreatDoor.S
open Go Go.Proofs.YtdoefdmaecaacaaGreatDoor.AM Go.Proofs
variable {X : Cx}
def Tr.kids : Tr → List Tr
  | .l0 _ => []
  | .l1 _ a => [a]
  | .l2 _ a b => [a, b]
theorem tr_ck (t : Tr) : t.c = t.x.c ++ [.lst .ro 1 (t.kids.map Tr.r) []] := by cases t <;> rfl
section
variable (T : Txt X)
def lnS (x : Nd) (s : ByteArray) : ByteArray :=
  if x.op = 4 ∨ x.op = 22 then s ++ (⟨#[32]⟩ ++ T.lit x.t) else if x.op = 5 then s ++ (⟨#[32]⟩ ++ T.set x.s0 x.s1 x.s2 x.s3) else if x.op = 6 then s ++ (⟨#[32]⟩ ++ x.t)
  else if x.op = 19 then (if x.t = ⟨#[]⟩ then s else s ++ (⟨#[32]⟩ ++ x.t)) else if x.op = 14 ∨ x.op = 15 ∨ x.op = 16 ∨ x.op = 23 then s ++ (⟨#[32]⟩ ++ T.dec x.n) else s
def lnT (x : Nd) (i : Nat) : ByteArray := lnS T x (SL.sps i ++ SL.wordF x.op) ++ ⟨#[10]⟩
def linesT : Tr → Nat → List ByteArray
  | .l0 x, i => [lnT T x i]
  | .l1 x a, i => lnT T x i :: linesT a (i + 2)
  | .l2 x a b, i => lnT T x i :: (linesT a (i + 2) ++ linesT b (i + 2))
theorem linesT_k (t : Tr) (i : Nat) : linesT T t i = lnT T t.x i :: t.kids.flatMap fun a => linesT T a (i + 2) := by cases t <;> simp [linesT, Tr.kids, Tr.x]
end
def LinOK (T : Txt X) (t : Tr) (i : Nat) : Prop := ∀ w : W, w.ok → R X Tryz.prog 27 [bt, .lf (.rp t.c 0), .lf (.int .i64 i)] [w.c] (.tp []) [(putsW (linesT T t i) w).c]
theorem lin_long (T : Txt X) (t : Tr) (i : Nat) (w : W) (hw : w.ok) (hg : w.g = true) : R X Tryz.prog 27 [bt, .lf (.rp t.c 0), .lf (.int .i64 i)] [w.c] (.tp []) [(putsW (linesT T t i) w).c] := by
  rw [putsW_g _ _ hg]
  obtain ⟨l, hl⟩ := tr_c t
  rw [hl]
  refine R_i [(3, 3)] [] c27_ok rfl (by simp) ?_
  simp only [List.cons_append, List.nil_append]
  simp -implicitDefEqProofs (maxSteps := 2000000) only [c27,W.ldg,hg,↓reduceIte,S0,St.init,enum,Nat.reduceEqDiff,Nat.reduceAdd,reduceCtorEq,Nat.lt_add_one,v_fa_t,v_ld_t,v_nc_t,one_0]
  exact W.to hw
theorem sps_n (i : Nat) : (SL.sps i).size = i := by show (List.replicate i 32).toArray.size = i; simp
theorem wordF_n (op : Int) : (SL.wordF op).size ≤ 6 := by
  have h : ∀ l ∈ SL.wordsL, l.length ≤ 6 := by decide
  show (SL.wordsL.getD op.toNat []).toArray.size ≤ 6
  rw [List.size_toArray, List.getD_eq_getElem?_getD]
  cases hh : SL.wordsL[op.toNat]? with
  | none => simp
  | some l => exact h l (List.mem_of_getElem? hh)
theorem lin1 (hA : X.G 0 = some SL.asciiL) (T : Txt X) (t : Tr) (i : Nat) (hi : i ≤ 900000) (hx : t.x.ok) (hk : ∀ a ∈ t.kids, LinOK T a (i + 2)) (w : W) (hw : w.ok) (hg : w.g = false) :
    R X Tryz.prog 27 [bt, .lf (.rp t.c 0), .lf (.int .i64 i)] [w.c] (.tp []) [(putsW (linesT T t i) w).c] := by
  rw [linesT_k, tr_ck]
  have h42 := SL.r44 (X := X) i (by omega)
  have h43 := SL.r45 hA t.x.op (by have := hx.op; omega) hx.op.2
  refine R_i [(3, 3)] [] c27_ok rfl (by simp) ?_
  simp only [List.cons_append, List.nil_append]
  simp -implicitDefEqProofs (maxSteps := 2000000) only [c27,W.ldg,hg,↓reduceIte,S0,s_ops1,s_wopsTK,s_tcons,q_call,St.init,enum,Nat.reduceEqDiff,Nat.reduceAdd,reduceCtorEq,rl_s,v_fa_t,v_ld_t,v_nc_t]
  refine wcallq_i h42 rfl ?_
  simp -implicitDefEqProofs (maxSteps := 2000000) only [c27,↓reduceIte,S0,s_wopsTK,s_tcons,q_call,q_fa,q_ld,q_nc,Nat.reduceEqDiff,reduceCtorEq,v_fa_r,v_ld_r,v_nc_r]
  refine wcallq_i h43 rfl ?_
  obtain ⟨x0, hxt⟩ : ∃ x0, x0 = t.x := ⟨_, rfl⟩
  rw [← hxt] at hx ⊢
  obtain ⟨op, n, tx, s0, s1, s2, s3⟩ := x0
  have h28 := T.h28 tx hx.t
  have h44 := T.h44 n hx.n.1 hx.n.2
  have h29 := T.h29 s0 s1 s2 s3 hx.s0.1 hx.s0.2 hx.s1.1 hx.s1.2 hx.s2.1 hx.s2.2 hx.s3.1 hx.s3.2
  have l28 := T.lit_n tx hx.t
  have l44 := T.dec_n n hx.n.1 hx.n.2
  have l29 := T.set_n s0 s1 s2 s3
  have ltx := hx.t
  simp only at ltx
  have ls := sps_n i
  have lw := wordF_n op
  have lb : ByteArray.size ⟨#[32]⟩ = 1 := rfl
  have lc : ByteArray.size ⟨#[10]⟩ = 1 := rfl
  have hE : lnT T ⟨op, n, tx, s0, s1, s2, s3⟩ i = lnS T ⟨op, n, tx, s0, s1, s2, s3⟩ (SL.sps i ++ SL.wordF op) ++ ⟨#[10]⟩ := rfl
  have h14 := fun s hs => r32 (X := X) w hw s hs
  rw [hE]
  unfold lnS
  simp only
  simp -implicitDefEqProofs (maxSteps := 2000000) only [c27,↓reduceIte,S0,s_wopsTK,s_tone,s_tcons,v_sadd,v_sneq,v_part_t,Nat.reduceEqDiff,Nat.reduceAdd,reduceCtorEq,PV.leaves,Nat.reduceLeDiff,List.take_zero,List.drop_zero,List.take_succ_cons,List.drop_succ_cons,rl_s,ne_eq,ite_not,ta_s,v_fa_r,v_ld_r,v_nc_r]
  refine ⟨by omega, ?_⟩
  have lss : (SL.sps i ++ SL.wordF op).size ≤ 900006 := by rw [ByteArray.size_append]; omega
  generalize SL.sps i ++ SL.wordF op = s at *
  have wi : IntKind.i64.wrap ((i : Int) + 2) = ((i + 2 : Nat) : Int) := by rw [w64 (by omega) (by omega)]; omega
  have hml : (t.kids.map Tr.r).length = t.kids.length := List.length_map _
  have key : ∀ (q d : List Tr) (w' wf : W), w'.ok → d ++ q = t.kids → putsW (q.flatMap fun a => linesT T a (i + 2)) w' = wf →
      LoopAt X Tryz.prog c27_29 [0, 2, 97, 98, 99] (blkK 1 (retS [(3, 3)] [] 1 [] (PV.tp []) [wf.c]))
        { m := 1, tm := [(0, PV.lf (L.tptr 0 0 58)), (2, PV.lf (L.int IntKind.i64 ↑i)), (97, PV.lf (L.lst Tag.ro 1 (List.map Tr.r t.kids) [])),
            (98, PV.lf (L.int IntKind.i64 (t.kids.length : Nat))), (99, PV.lf (L.int IntKind.i64 (d.length : Nat)))], ce := [(0, w'.c), (0, w'.c)] } := by
    intro q
    induction q with
    | nil =>
      intro d w' wf hok' hd hput
      have e : w' = wf := hput
      subst e
      simp only [List.append_nil] at hd
      have hlt : ¬ (d.length : Int) < (t.kids.length : Int) := by rw [hd]; omega
      intro Z hZ; apply hZ
      simp -implicitDefEqProofs (maxSteps := 2000000) only [c27,hlt,decide_false,↓reduceIte,S0,s_exit,s_seqK_e,s_blkK_e,s_loopK_e,Nat.reduceEqDiff,reduceCtorEq,s_ret_n,Nat.lt_add_one,one_0]
      exact W.to hok'
    | cons a q ih =>
      intro d w' wf hok' hd hput
      have hdl : d.length < t.kids.length := by rw [← hd]; simp
      have hlt : (d.length : Int) < (t.kids.length : Int) := by omega
      have hget : (t.kids.map Tr.r).getD ((d.length : Nat) : Int).toNat [] = [.rp a.c 0] := by
        rw [Int.toNat_natCast, List.getD_eq_getElem?_getD, List.getElem?_map, ← hd]; simp
      have hh := hk a (by rw [← hd]; simp) w' hok'
      have ok1 := putsW_ok (linesT T a (i + 2)) hok'
      simp only [List.flatMap_cons] at hput
      rw [putsW_app] at hput
      generalize putsW (linesT T a (i + 2)) w' = w1 at *
      have hih := ih (d ++ [a]) w1 wf ok1 (by rw [← hd]; simp) hput
      have wd : IntKind.i64.wrap ((d.length : Int) + 1) = ((d.length + 1 : Nat) : Int) := by
        have : t.kids.length ≤ 2 := by cases t <;> simp [Tr.kids]
        rw [w64 (by omega) (by omega)]; omega
      intro Z hZ; apply hZ
      have hz := hih Z hZ
      simp only [List.length_append, List.length_cons, List.length_nil, Nat.zero_add] at hz
      simp -implicitDefEqProofs (maxSteps := 2000000) only [c27,hlt,decide_true,hget,v_ld_e,hml,wi,↓reduceIte,S0,Nat.reduceEqDiff,reduceCtorEq,PV.leaves,ta_i,ta_rp,e_asg_rp,dw_rp0]
      refine ⟨⟨by omega, by omega⟩, by omega, pcall_i hh (W.toC hok') rfl ?_⟩
      simp -implicitDefEqProofs (maxSteps := 2000000) only [c27,W.fromC ok1,wd,↓reduceIte,S0,Nat.reduceEqDiff,reduceCtorEq,outV,ownsV,List.any_nil,kC_c,pO_tt,rg_1,kl_rp]
      exact hz
  have tail : ∀ (s' : ByteArray) (tmx : List (Nat × PV)), s'.size ≤ 2000000 → pcall X Tryz.prog 32 [PV.lf (L.tptr 0 0 58), PV.lf (L.str (s' ++ { data := #[10] }))]
      { m := 1,
        tm :=
          (92, PV.lf (L.str (s' ++ { data := #[10] }))) ::
            (91, PV.lf (L.str s')) :: (90, bt) :: (0, bt) ::
            (1,
              PV.lf
                (L.rp
                  [L.int IntKind.i64 op, L.int IntKind.i64 n, L.str tx, L.int IntKind.u64 s0, L.int IntKind.u64 s1,
                    L.int IntKind.u64 s2, L.int IntKind.u64 s3, L.lst Tag.ro 1 (List.map Tr.r t.kids) []]
                  0)) ::
            (2, PV.lf (L.int IntKind.i64 ↑i)) :: (6, PV.lf (L.str s')) :: tmx,
        ce := [(0, w.c)] }
      0 (some 93)
      (wopsK X Tryz.prog []
        (opsK [0, 1, 2]
          (seqK X Tryz.prog c27_32
            (retS [(3, 3)] [] 1 [] (PV.tp [])
              [(putsW ((s' ++ { data := #[10] }) :: List.flatMap (fun a => linesT T a (i + 2)) t.kids) w).c]))))
      (some w.c) := by
    intro s' tmx hs'
    have ok1 : ∀ s, (putW s w).ok := fun s => putW_ok hw
    have lss' : (s' ++ ⟨#[10]⟩ : ByteArray).size ≤ 1073741824 := by simp only [ByteArray.size_append, lc]; omega
    refine pcall_i (h14 _ lss') (W.toC hw) rfl ?_
    simp -implicitDefEqProofs (maxSteps := 2000000) only [c27,W.fromC (ok1 _),hml,↓reduceIte,S0,s_loop,o_len,v_len,Nat.reduceEqDiff,reduceCtorEq,outV,ownsV,List.any_nil,kC_c,pO_tt,rg_1,kl_rp,v_fa_r,v_ld_r,v_nc_r]
    intro _
    exact key _ [] _ _ (ok1 _) rfl rfl
  have sz : ∀ r : ByteArray, r.size ≤ 70000 → (⟨#[32]⟩ ++ r : ByteArray).size ≤ 70001 ∧ (s ++ (⟨#[32]⟩ ++ r)).size ≤ 980000 := fun r hr => by
    simp only [ByteArray.size_append]; omega
  by_cases h4 : op = 4
  · subst h4
    simp only [true_or, if_true]
    refine wcall_s h28 rfl rfl ?_
    simp -implicitDefEqProofs (maxSteps := 2000000) only [c27,↓reduceIte,S0,v_sadd,Nat.reduceEqDiff,reduceCtorEq,St.clr,outV,ownsV,owns1,ownL,PV.leaves,ta_s]
    have := sz (T.lit tx) (by omega)
    exact ⟨by omega, by omega, by omega, tail _ _ (by omega)⟩
  rw [if_neg h4]
  by_cases h22 : op = 22
  · subst h22
    rw [if_pos rfl, if_pos (.inr rfl)]
    simp -implicitDefEqProofs (maxSteps := 2000000) only [c27,↓reduceIte]
    refine wcall_s h28 rfl rfl ?_
    simp -implicitDefEqProofs (maxSteps := 2000000) only [c27,↓reduceIte,S0,v_sadd,Nat.reduceEqDiff,reduceCtorEq,St.clr,outV,ownsV,owns1,ownL,PV.leaves,ta_s]
    have := sz (T.lit tx) (by omega)
    exact ⟨by omega, by omega, by omega, tail _ _ (by omega)⟩
  rw [if_neg h22, if_neg (fun h => Or.elim h h4 h22)]
  by_cases h5 : op = 5
  · subst h5
    simp only [if_true]
    refine wcall_s h29 rfl rfl ?_
    simp -implicitDefEqProofs (maxSteps := 2000000) only [c27,↓reduceIte,S0,v_sadd,Nat.reduceEqDiff,reduceCtorEq,St.clr,outV,ownsV,owns1,ownL,PV.leaves,ta_s]
    have := sz (T.set s0 s1 s2 s3) (by omega)
    exact ⟨by omega, by omega, by omega, tail _ _ (by omega)⟩
  rw [if_neg h5, if_neg h5]
  by_cases h6 : op = 6
  · subst h6
    simp only [if_true]
    have := sz tx (by omega)
    exact ⟨by omega, by omega, by omega, tail _ _ (by omega)⟩
  rw [if_neg h6, if_neg h6]
  by_cases h19 : op = 19
  · subst h19
    simp only [if_true]
    by_cases ht : tx = ⟨#[]⟩
    · simp only [if_pos ht]
      exact ⟨by omega, tail _ _ (by omega)⟩
    · simp only [if_neg ht]
      have := sz tx (by omega)
      exact ⟨by omega, by omega, by omega, tail _ _ (by omega)⟩
  rw [if_neg h19, if_neg h19]
  by_cases h14 : op = 14
  · subst h14
    simp only [if_true, true_or, or_true]
    refine wcall_s h44 rfl rfl ?_
    simp -implicitDefEqProofs (maxSteps := 2000000) only [c27,↓reduceIte,S0,v_sadd,Nat.reduceEqDiff,reduceCtorEq,St.clr,outV,ownsV,owns1,ownL,PV.leaves,ta_s]
    have := sz (T.dec n) (by omega)
    exact ⟨by omega, by omega, by omega, tail _ _ (by omega)⟩
  rw [if_neg h14]
  by_cases h15 : op = 15
  · subst h15
    simp only [if_true, true_or, or_true]
    refine wcall_s h44 rfl rfl ?_
    simp -implicitDefEqProofs (maxSteps := 2000000) only [c27,↓reduceIte,S0,v_sadd,Nat.reduceEqDiff,reduceCtorEq,St.clr,outV,ownsV,owns1,ownL,PV.leaves,ta_s]
    have := sz (T.dec n) (by omega)
    exact ⟨by omega, by omega, by omega, tail _ _ (by omega)⟩
  rw [if_neg h15]
  by_cases h16 : op = 16
  · subst h16
    simp only [if_true, true_or, or_true]
    refine wcall_s h44 rfl rfl ?_
    simp -implicitDefEqProofs (maxSteps := 2000000) only [c27,↓reduceIte,S0,v_sadd,Nat.reduceEqDiff,reduceCtorEq,St.clr,outV,ownsV,owns1,ownL,PV.leaves,ta_s]
    have := sz (T.dec n) (by omega)
    exact ⟨by omega, by omega, by omega, tail _ _ (by omega)⟩
  rw [if_neg h16]
  by_cases h23 : op = 23
  · subst h23
    simp only [if_true, true_or, or_true]
    refine wcall_s h44 rfl rfl ?_
    simp -implicitDefEqProofs (maxSteps := 2000000) only [c27,↓reduceIte,S0,v_sadd,Nat.reduceEqDiff,reduceCtorEq,St.clr,outV,ownsV,owns1,ownL,PV.leaves,ta_s]
    have := sz (T.dec n) (by omega)
    exact ⟨by omega, by omega, by omega, tail _ _ (by omega)⟩
  rw [if_neg h23]
  rw [if_neg (by omega)]
  exact ⟨by omega, tail _ _ (by omega)⟩
theorem lin_ok (hA : X.G 0 = some SL.asciiL) (T : Txt X) : ∀ (n : Nat) (t : Tr) (i : Nat), t.size ≤ n → i + 2 * t.size ≤ 900000 → t.ok → LinOK T t i
  | 0, t, i, h, _, _ => by cases t <;> simp [Tr.size] at h
  | n + 1, t, i, h, hs, hok => by
    intro w hw
    cases hg : w.g with
    | true => exact lin_long T t i w hw hg
    | false =>
      refine lin1 hA T t i (by omega) ?_ ?_ w hw hg
      · cases hok <;> assumption
      · intro a ha
        cases hok with
        | l0 hx hn => simp [Tr.kids] at ha
        | l1 hx hn hc =>
          simp only [Tr.kids, List.mem_singleton] at ha
          subst ha
          simp only [Tr.size] at h hs
          exact lin_ok hA T n _ (i + 2) (by omega) (by omega) hc
        | l2 hx hn hc hd =>
          simp only [Tr.kids, List.mem_cons, List.not_mem_nil, or_false] at ha
          simp only [Tr.size] at h hs
          rcases ha with rfl | rfl
          · exact lin_ok hA T n _ (i + 2) (by omega) (by omega) hc
          · exact lin_ok hA T n _ (i + 2) (by omega) (by omega) hd
end Go.Proofs.YtdoefdmaecaacaaGreatDoor.S
set_option linter.unusedVariables false
set_option linter.unusedSimpArgs false
namespace Go.Proofs.YtdoefdmaecaacaaGreatDoor.S
open Go Go.Proofs.YtdoefdmaecaacaaGreatDoor.AM Go.Proofs
variable {X : Cx}
section
variable (T : Txt X)
def linP (p : List Nd) : List ByteArray :=
  match treeP p with
  | some t => linesT T t 0
  | none => []
def treeG (p : List Nd) : ByteArray × Int :=
  if ¬ (chk p).2 = 0 then (⟨#[]⟩, (chk p).2) else
  if (putsW (linP T p) w0).g = true then (⟨#[]⟩, 2) else (⟨(putsW (linP T p) w0).y.toArray⟩, 0)
end
theorem puts_y : ∀ (l : List ByteArray) {w : W}, (putsW l w).g = false → (putsW l w).y = w.y ++ l.flatMap fun s => s.data.toList
  | [], w, _ => by simp [putsW]
  | s :: r, w, h => by
    simp only [putsW] at h ⊢
    have hs : (putW s w).g = false := by
      cases hg : (putW s w).g with
      | false => rfl
      | true => rw [putsW_g r _ hg, hg] at h; cases h
    rw [puts_y r h, putW_y hs, List.flatMap_cons, List.append_assoc]
theorem lines_pos (T : Txt X) (t : Tr) (h : (putsW (linesT T t 0) w0).g = false) : 0 < (putsW (linesT T t 0) w0).y.length := by
  rw [puts_y _ h, linesT_k, List.flatMap_cons]
  have : 0 < (lnT T t.x 0).data.toList.length := by
    show 0 < (lnT T t.x 0).data.toList.length
    have e : (lnT T t.x 0).data.toList.length = (lnT T t.x 0).size := by rw [Array.length_toList]; rfl
    rw [e]
    unfold lnT
    rw [ByteArray.size_append]
    have : ByteArray.size ⟨#[10]⟩ = 1 := rfl
    omega
  simp only [List.length_append]
  omega
theorem r10 (hA : X.G 0 = some SL.asciiL) (T : Txt X) (p : List Nd) (sp : List (List L)) (hwf : ∀ x ∈ p, x.wf) : R X Tryz.prog 10 [.lf (.lst .ro 7 (p.map Nd.c) sp)] [] (.tp [.lf (.str (treeG T p).1), .lf (.int .i64 (treeG T p).2)]) [] := by
  have h22 := r21 (X := X) p sp
  refine R_i [] [] c10_ok rfl (by simp) ?_
  by_cases hc : (chk p).2 = 0
  · rw [hc] at h22
    obtain ⟨t, hb, hto, hts, hpl⟩ := chk_tree hwf hc
    have htk : linP T p = linesT T t 0 := by simp only [linP, treeP, hb]
    have h16 := r23 (X := X) p sp (by omega) t [] hb
    have hlin := R_nlc nl_w0 (lin_ok hA T t.size t 0 (Nat.le_refl _) (by omega) hto w0 w0_ok)
    have hpos := lines_pos T t
    have ok1 := putsW_ok (linesT T t 0) w0_ok
    unfold treeG
    rw [if_neg (fun h => h hc), htk]
    generalize putsW (linesT T t 0) w0 = w at *
    cases hg : w.g with
    | true =>
      have h17 := r24g (X := X) w ok1 hg
      rw [← W.b_toC ok1] at h17
      simp -implicitDefEqProofs (maxSteps := 2000000) only [c10,↓reduceIte,S0,St.init,enum,reduceCtorEq,PV.leaves,rl_l]
      refine wcall_s h22 rfl rfl ?_
      simp -implicitDefEqProofs (maxSteps := 2000000) only [c10,↓reduceIte,S0,v_neq,o_ext,v_ext0,v_ext1,o_bd,v_agK,v_bd_n,Nat.reduceEqDiff,reduceCtorEq,St.clr,outV,ownsV,owns1,ownL,List.any_cons,List.any_nil,Bool.or_self,PV.leaves,Nat.zero_le,kc_b,kc_i,kc_np,kc_l,rl_l,m_1l,ne_eq,ite_not,e_asg_t,o_bxt,v_bxt]
      refine wcall_down h16 rfl ?_
      simp -implicitDefEqProofs (maxSteps := 2000000) only [c10,↓reduceIte,S0,Nat.reduceEqDiff,St.clr,outV,ownsV,owns1,ownL,PV.leaves,ta_i,ol_rp,ta_rp,dw_rp0]
      refine pcall_i hlin rfl rfl ?_
      simp -implicitDefEqProofs (maxSteps := 2000000) only [c10,↓reduceIte,S0,Nat.reduceEqDiff,reduceCtorEq,outV,ownsV,List.any_nil,PV.leaves,kl_np,kl_ln,kl_rp]
      refine pcall_i h17 rfl rfl ?_
      simp -implicitDefEqProofs (maxSteps := 2000000) only [c10,↓reduceIte,S0,o_ext,v_ext0,v_ext1,Nat.reduceEqDiff,outV,ownsV,owns1,ownL,List.any_cons,List.any_nil,Bool.or_self,m_1l]
    | false =>
      have h17 := r24 (X := X) w ok1 hg (hpos hg)
      rw [← W.b_toC ok1] at h17
      simp -implicitDefEqProofs (maxSteps := 2000000) only [c10,↓reduceIte,S0,St.init,enum,reduceCtorEq,PV.leaves,rl_l]
      refine wcall_s h22 rfl rfl ?_
      simp -implicitDefEqProofs (maxSteps := 2000000) only [c10,↓reduceIte,S0,v_neq,o_ext,v_ext0,v_ext1,o_bd,v_agK,v_bd_n,Nat.reduceEqDiff,reduceCtorEq,St.clr,outV,ownsV,owns1,ownL,List.any_cons,List.any_nil,Bool.or_self,PV.leaves,Nat.zero_le,kc_b,kc_i,kc_np,kc_l,rl_l,m_1l,ne_eq,ite_not,e_asg_t,o_bxt,v_bxt]
      refine wcall_down h16 rfl ?_
      simp -implicitDefEqProofs (maxSteps := 2000000) only [c10,↓reduceIte,S0,Nat.reduceEqDiff,St.clr,outV,ownsV,owns1,ownL,PV.leaves,ta_i,ol_rp,ta_rp,dw_rp0]
      refine pcall_i hlin rfl rfl ?_
      simp -implicitDefEqProofs (maxSteps := 2000000) only [c10,↓reduceIte,S0,Nat.reduceEqDiff,reduceCtorEq,outV,ownsV,List.any_nil,PV.leaves,kl_np,kl_ln,kl_rp]
      refine pcall_i h17 rfl rfl ?_
      simp -implicitDefEqProofs (maxSteps := 2000000) only [c10,↓reduceIte,S0,o_ext,v_ext0,v_ext1,Nat.reduceEqDiff,outV,ownsV,owns1,ownL,List.any_cons,List.any_nil,Bool.or_self,m_1l,fc_u]
  · unfold treeG
    rw [if_pos hc]
    simp -implicitDefEqProofs (maxSteps := 2000000) only [c10,↓reduceIte,S0,St.init,enum,reduceCtorEq,PV.leaves,rl_l]
    refine wcall_s h22 rfl rfl ?_
    simp -implicitDefEqProofs (maxSteps := 2000000) only [c10,hc,↓reduceIte,S0,v_neq,o_ext,v_ext0,v_ext1,Nat.reduceEqDiff,reduceCtorEq,St.clr,outV,ownsV,owns1,ownL,List.any_cons,List.any_nil,Bool.or_self,m_1l,ne_eq,not_false_eq_true]
end Go.Proofs.YtdoefdmaecaacaaGreatDoor.S
