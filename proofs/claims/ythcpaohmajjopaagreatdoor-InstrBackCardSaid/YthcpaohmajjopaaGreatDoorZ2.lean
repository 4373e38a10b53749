/- Contracts, part Z2. -/
import Derived.Test.YthcpaohmajjopaaGreatDoorZ1
import Derived.Test.YthcpaohmajjopaaGreatDoorProg
import Derived.Test.YthcpaohmajjopaaGreatDoorAmLeaf2
set_option linter.unusedVariables false
set_option linter.unusedSimpArgs false
namespace Go.Proofs.YthcpaohmajjopaaGreatDoor.I
open Go Go.Proofs.YthcpaohmajjopaaGreatDoor.AM
variable {X:Cx}
theorem v_ms {σ:St} {t e n bytes:Nat} {zero:List L} {k k':IntKind} {l c:Int} {K:St → Prop}:msK σ t e n bytes zero (.lf (.int k l)) (.lf (.int k' c)) K =
  (zero.length = n ∧ (0 ≤ l ∧ l ≤ c ∧ c * bytes ≤ 140737488355328 ∧ c ≤ 9223372036854775807) ∧ K ((σ.mapAll (killP (plT t 0))).put (some t) (.lf (.lst (.own (plT t 0) e) n (List.replicate l.toNat zero) (List.replicate (c - l).toNat zero))))):=rfl
theorem rep0 {z:List L}:List.replicate (0:Int).toNat z = []:=rfl
theorem rep1 {z:List L}:List.replicate (((1:Nat):Int) - 0).toNat z = [z]:=rfl
theorem rep2 {z:List L}:List.replicate (((2:Nat):Int) - 0).toNat z = [z,z]:=rfl
abbrev nodeL (op n:Int) (t:ByteArray):List L:=[.int .i64 op,.int .i64 n,.str t,.int .u64 0,.int .u64 0,.int .u64 0,.int .u64 0]
theorem f3:fldB 3 0 ⟨#[]⟩ = true:=by decide +kernel
theorem r76 (a b c:Int):R X Tryz.prog 76 [.lf (.int .i64 a),.ag [.int .i64 b,.int .i64 c]] [] (.tp []) []:=by
 refine R_i [] [] c76_ok rfl (by simp) ?_
 simp -implicitDefEqProofs (maxSteps:=2000000) only [c76,↓reduceIte,S0,St.init,enum,reduceCtorEq]
 trace_state
theorem wr0:IntKind.i64.wrap 0 = 0:=by decide
theorem wr1:IntKind.i64.wrap 1 = 1:=by decide
theorem wr2:IntKind.i64.wrap 2 = 2:=by decide
theorem r75a (sp:List (List L)):R X Tryz.prog 75 [.lf (.lst .ro 7 [nodeL 3 0 ⟨#[]⟩] sp),.lf (.fn 76 [] [])] [] (.tp [.lf (.int .i64 0),.lf (.int .i64 0)]) []:=by
 refine R_i [] [] c75_ok rfl (by simp) ?_
 have c1:((1:Nat):Int) = 1:=rfl
 have c2:((2:Nat):Int) = 2:=rfl
 have h101:=r56 (X:=X) 3 0 ⟨#[]⟩ (by omega)
 rw [f3] at h101
 simp only [nodeL]
 simp -implicitDefEqProofs (maxSteps:=2000000) only [c75,v_ms,rep0,rep1,rep2,c1,c2,wr0,wr1,wr2,v_ld_e,Int.reduceToNat,List.getD_cons_zero,List.getD_cons_succ,Int.reduceLT,Int.reduceLE,Int.reduceAdd,Int.reduceSub,Nat.reduceLT,Int.reduceEq,decide_true,decide_false,↓reduceIte,S0,St.init,enum,Nat.reduceEqDiff,Nat.reduceAdd,reduceCtorEq,Nat.reduceMul,Nat.reduceBEq,Nat.reduceLeDiff,Nat.reduceSub,List.range_zero,plT,List.reduceReplicate,forall_const]
 refine ⟨by omega,?_⟩
 intro Z hZ
 apply hZ
 simp -implicitDefEqProofs (maxSteps:=2000000) only [c75,v_ms,rep0,rep1,rep2,c1,c2,wr0,wr1,wr2,v_ld_e,Int.reduceToNat,List.getD_cons_zero,List.getD_cons_succ,Int.reduceLT,Int.reduceLE,Int.reduceAdd,Int.reduceSub,Nat.reduceLT,Int.reduceEq,decide_true,decide_false,↓reduceIte,S0,Nat.reduceEqDiff,Nat.reduceAdd,reduceCtorEq,PV.leaves,PV.cells,cellL,fillL,Nat.reduceLT]
 refine wcall_s r55' rfl rfl ?_
 simp -implicitDefEqProofs (maxSteps:=2000000) only [c75,v_ms,rep0,rep1,rep2,c1,c2,wr0,wr1,wr2,v_ld_e,Int.reduceToNat,List.getD_cons_zero,List.getD_cons_succ,Int.reduceLT,Int.reduceLE,Int.reduceAdd,Int.reduceSub,Nat.reduceLT,Int.reduceEq,decide_true,decide_false,↓reduceIte,S0,Nat.reduceEqDiff,Nat.reduceAdd,reduceCtorEq,St.clr,outV,ownsV,owns1,ownL,PV.leaves,Nat.reduceLT]
 refine wcall_s h101 rfl rfl ?_
 simp -implicitDefEqProofs (maxSteps:=2000000) only [c75,v_ms,rep0,rep1,rep2,c1,c2,wr0,wr1,wr2,v_ld_e,Int.reduceToNat,List.getD_cons_zero,List.getD_cons_succ,Int.reduceLT,Int.reduceLE,Int.reduceAdd,Int.reduceSub,Nat.reduceLT,Int.reduceEq,decide_true,decide_false,↓reduceIte,S0,Nat.reduceEqDiff,Nat.reduceAdd,reduceCtorEq,St.clr,outV,ownsV,owns1,ownL,PV.cells,cellL,fillL,Nat.reduceBEq,Nat.reduceLeDiff,List.range_zero,ne_eq]
 intro Z2 hZ2
 apply hZ2
 simp -implicitDefEqProofs (maxSteps:=2000000) only [c75,v_ms,rep0,rep1,rep2,c1,c2,wr0,wr1,wr2,v_ld_e,Int.reduceToNat,List.getD_cons_zero,List.getD_cons_succ,Int.reduceLT,Int.reduceLE,Int.reduceAdd,Int.reduceSub,Nat.reduceLT,Int.reduceEq,decide_true,decide_false,↓reduceIte,S0,Nat.reduceEqDiff,Nat.reduceAdd,reduceCtorEq,PV.leaves,PV.cells,cellL,datL,fillL,Nat.reduceMul,Nat.reduceBEq,Nat.reduceLeDiff,plT,List.reduceReplicate,List.set_cons_zero,Nat.reduceLT,or_false]
 refine wcald_i (by kernel_rfl) rfl (r76 0 0 1) rfl ?_
 simp -implicitDefEqProofs (maxSteps:=2000000) only [c75,v_ms,rep0,rep1,rep2,c1,c2,wr0,wr1,wr2,v_ld_e,Int.reduceToNat,List.getD_cons_zero,List.getD_cons_succ,Int.reduceLT,Int.reduceLE,Int.reduceAdd,Int.reduceSub,Nat.reduceLT,Int.reduceEq,decide_true,decide_false,↓reduceIte,S0,Nat.reduceEqDiff,Nat.reduceAdd,reduceCtorEq,St.clr,outV,ownsV,List.range_zero]
 apply hZ
 simp -implicitDefEqProofs (maxSteps:=2000000) only [c75,v_ms,rep0,rep1,rep2,c1,c2,wr0,wr1,wr2,v_ld_e,Int.reduceToNat,List.getD_cons_zero,List.getD_cons_succ,Int.reduceLT,Int.reduceLE,Int.reduceAdd,Int.reduceSub,Nat.reduceLT,Int.reduceEq,decide_true,decide_false,↓reduceIte,S0,Nat.reduceEqDiff,reduceCtorEq,cond_false,Nat.reduceLeDiff,Nat.reduceSub,ne_eq,Nat.reduceLT,implies_true,forall_const,ite_not]
theorem mx:max (0:Int) 1 = 1:=by decide
theorem fn76:fnOK Tryz.prog 76 = true:=by kernel_rfl
theorem r75b (op n:Int) (t:ByteArray) (ho:18 ≤ op ∧ op ≤ 23) (hf:fldB op n t = true) (sp:List (List L)):R X Tryz.prog 75 [.lf (.lst .ro 7 [nodeL 3 0 ⟨#[]⟩,nodeL op n t] sp),.lf (.fn 76 [] [])] [] (.tp [.lf (.int .i64 0),.lf (.int .i64 0)]) []:=by
 refine R_i [] [] c75_ok rfl (by simp) ?_
 have c1:((1:Nat):Int) = 1:=rfl
 have c2:((2:Nat):Int) = 2:=rfl
 have h101:=r56 (X:=X) 3 0 ⟨#[]⟩ (by omega)
 rw [f3] at h101
 have h101':=r56 (X:=X) op n t (by omega)
 rw [hf] at h101'
 simp only [nodeL]
 simp -implicitDefEqProofs (maxSteps:=2000000) only [c75,v_ms,rep0,rep1,rep2,c1,c2,wr0,wr1,wr2,v_ld_e,Int.reduceToNat,List.getD_cons_zero,List.getD_cons_succ,Int.reduceLT,Int.reduceLE,Int.reduceAdd,Int.reduceSub,Nat.reduceLT,Int.reduceEq,decide_true,decide_false,↓reduceIte,S0,St.init,enum,Nat.reduceEqDiff,Nat.reduceAdd,reduceCtorEq,Nat.reduceMul,Nat.reduceBEq,Nat.reduceLeDiff,Nat.reduceSub,List.range_zero,plT,List.reduceReplicate,forall_const]
 refine ⟨by omega,?_⟩
 intro Z hZ
 apply hZ
 simp -implicitDefEqProofs (maxSteps:=2000000) only [c75,v_ms,rep0,rep1,rep2,c1,c2,wr0,wr1,wr2,v_ld_e,Int.reduceToNat,List.getD_cons_zero,List.getD_cons_succ,Int.reduceLT,Int.reduceLE,Int.reduceAdd,Int.reduceSub,Nat.reduceLT,Int.reduceEq,decide_true,decide_false,↓reduceIte,S0,Nat.reduceEqDiff,Nat.reduceAdd,reduceCtorEq,PV.leaves,PV.cells,cellL,fillL,Nat.reduceLT]
 refine wcall_s r55' rfl rfl ?_
 simp -implicitDefEqProofs (maxSteps:=2000000) only [c75,v_ms,rep0,rep1,rep2,c1,c2,wr0,wr1,wr2,v_ld_e,Int.reduceToNat,List.getD_cons_zero,List.getD_cons_succ,Int.reduceLT,Int.reduceLE,Int.reduceAdd,Int.reduceSub,Nat.reduceLT,Int.reduceEq,decide_true,decide_false,↓reduceIte,S0,Nat.reduceEqDiff,Nat.reduceAdd,reduceCtorEq,St.clr,outV,ownsV,owns1,ownL,PV.leaves,Nat.reduceLT]
 refine wcall_s h101 rfl rfl ?_
 simp -implicitDefEqProofs (maxSteps:=2000000) only [c75,v_ms,rep0,rep1,rep2,c1,c2,wr0,wr1,wr2,v_ld_e,Int.reduceToNat,List.getD_cons_zero,List.getD_cons_succ,Int.reduceLT,Int.reduceLE,Int.reduceAdd,Int.reduceSub,Nat.reduceLT,Int.reduceEq,decide_true,decide_false,↓reduceIte,S0,Nat.reduceEqDiff,Nat.reduceAdd,reduceCtorEq,St.clr,outV,ownsV,owns1,ownL,PV.cells,cellL,fillL,Nat.reduceBEq,Nat.reduceLeDiff,List.range_zero,ne_eq]
 intro Z2 hZ2
 apply hZ2
 simp -implicitDefEqProofs (maxSteps:=2000000) only [c75,v_ms,rep0,rep1,rep2,c1,c2,wr0,wr1,wr2,v_ld_e,Int.reduceToNat,List.getD_cons_zero,List.getD_cons_succ,Int.reduceLT,Int.reduceLE,Int.reduceAdd,Int.reduceSub,Nat.reduceLT,Int.reduceEq,decide_true,decide_false,↓reduceIte,S0,Nat.reduceEqDiff,Nat.reduceAdd,reduceCtorEq,PV.leaves,PV.cells,cellL,datL,fillL,Nat.reduceMul,Nat.reduceBEq,Nat.reduceLeDiff,plT,List.reduceReplicate,List.set_cons_zero,Nat.reduceLT,or_false]
 refine wcald_i fn76 rfl (r76 0 0 1) rfl ?_
 simp -implicitDefEqProofs (maxSteps:=2000000) only [c75,v_ms,rep0,rep1,rep2,c1,c2,wr0,wr1,wr2,v_ld_e,Int.reduceToNat,List.getD_cons_zero,List.getD_cons_succ,Int.reduceLT,Int.reduceLE,Int.reduceAdd,Int.reduceSub,Nat.reduceLT,Int.reduceEq,decide_true,decide_false,↓reduceIte,S0,Nat.reduceEqDiff,Nat.reduceAdd,reduceCtorEq,St.clr,outV,ownsV,List.range_zero]
 clear hZ2 Z2
 apply hZ
 simp -implicitDefEqProofs (maxSteps:=2000000) only [c75,v_ms,rep0,rep1,rep2,c1,c2,wr0,wr1,wr2,v_ld_e,Int.reduceToNat,List.getD_cons_zero,List.getD_cons_succ,Int.reduceLT,Int.reduceLE,Int.reduceAdd,Int.reduceSub,Nat.reduceLT,Int.reduceEq,decide_true,decide_false,↓reduceIte,S0,Nat.reduceEqDiff,Nat.reduceAdd,reduceCtorEq,PV.leaves,PV.cells,cellL,fillL,Nat.reduceLT]
 refine wcall_s (r55 op ho) rfl rfl ?_
 simp -implicitDefEqProofs (maxSteps:=2000000) only [c75,v_ms,rep0,rep1,rep2,c1,c2,wr0,wr1,wr2,v_ld_e,Int.reduceToNat,List.getD_cons_zero,List.getD_cons_succ,Int.reduceLT,Int.reduceLE,Int.reduceAdd,Int.reduceSub,Nat.reduceLT,Int.reduceEq,decide_true,decide_false,↓reduceIte,S0,Nat.reduceEqDiff,Nat.reduceAdd,reduceCtorEq,St.clr,outV,ownsV,owns1,ownL,PV.leaves,Nat.reduceLT]
 refine wcall_s h101' rfl rfl ?_
 simp -implicitDefEqProofs (maxSteps:=2000000) only [c75,v_ms,rep0,rep1,rep2,c1,c2,wr0,wr1,wr2,v_ld_e,Int.reduceToNat,List.getD_cons_zero,List.getD_cons_succ,Int.reduceLT,Int.reduceLE,Int.reduceAdd,Int.reduceSub,Nat.reduceLT,Int.reduceEq,decide_true,decide_false,↓reduceIte,S0,Nat.reduceEqDiff,Nat.reduceAdd,reduceCtorEq,St.clr,outV,ownsV,owns1,ownL,PV.cells,cellL,fillL,Nat.reduceBEq,Nat.reduceLeDiff,List.range_zero,ne_eq]
 intro Z2 hZ2
 apply hZ2
 simp -implicitDefEqProofs (maxSteps:=2000000) only [c75,v_ms,rep0,rep1,rep2,c1,c2,wr0,wr1,wr2,mx,v_ld_e,Int.reduceToNat,List.getD_cons_zero,List.getD_cons_succ,Int.reduceLT,Int.reduceLE,Int.reduceAdd,Int.reduceSub,Nat.reduceLT,Int.reduceEq,decide_true,decide_false,↓reduceIte,S0,s_qguard,Nat.reduceEqDiff,Nat.reduceAdd,reduceCtorEq,PV.cells,cellL,fillL,Nat.reduceBEq,Nat.reduceLeDiff,Nat.reduceSub,List.range_zero,ne_eq,Nat.reduceLT,o_mm,v_mm]
 apply hZ2
 simp -implicitDefEqProofs (maxSteps:=2000000) only [c75,v_ms,rep0,rep1,rep2,c1,c2,wr0,wr1,wr2,mx,v_ld_e,Int.reduceToNat,List.getD_cons_zero,List.getD_cons_succ,Int.reduceLT,Int.reduceLE,Int.reduceAdd,Int.reduceSub,Nat.reduceLT,Int.reduceEq,decide_true,decide_false,↓reduceIte,S0,Nat.reduceEqDiff,Nat.reduceAdd,reduceCtorEq,PV.leaves,PV.cells,cellL,datL,fillL,Nat.reduceMul,Nat.reduceBEq,Nat.reduceLeDiff,plT,List.reduceReplicate,List.set_cons_zero,Nat.reduceLT,or_false]
 refine wcald_i fn76 rfl (r76 1 0 2) rfl ?_
 simp -implicitDefEqProofs (maxSteps:=2000000) only [c75,v_ms,rep0,rep1,rep2,c1,c2,wr0,wr1,wr2,mx,v_ld_e,Int.reduceToNat,List.getD_cons_zero,List.getD_cons_succ,Int.reduceLT,Int.reduceLE,Int.reduceAdd,Int.reduceSub,Nat.reduceLT,Int.reduceEq,decide_true,decide_false,↓reduceIte,S0,Nat.reduceEqDiff,Nat.reduceAdd,reduceCtorEq,St.clr,outV,ownsV,List.range_zero]
 apply hZ
 simp -implicitDefEqProofs (maxSteps:=2000000) only [c75,v_ms,rep0,rep1,rep2,c1,c2,wr0,wr1,wr2,mx,v_ld_e,Int.reduceToNat,List.getD_cons_zero,List.getD_cons_succ,Int.reduceLT,Int.reduceLE,Int.reduceAdd,Int.reduceSub,Nat.reduceLT,Int.reduceEq,decide_true,decide_false,↓reduceIte,S0,Nat.reduceEqDiff,Nat.reduceAdd,reduceCtorEq,cond_false,Nat.reduceLeDiff,Nat.reduceSub,ne_eq,Nat.reduceLT,implies_true,forall_const,ite_not]
theorem r57a (sp:List (List L)):R X Tryz.prog 57 [.lf (.lst .ro 7 [nodeL 3 0 ⟨#[]⟩] sp)] [] (.tp [.lf (.int .i64 0),.lf (.int .i64 0)]) []:=by
 have h:=r75a (X:=X) sp
 refine R_i [] [] c57_ok rfl (by simp) ?_
 have c1:((1:Nat):Int) = 1:=rfl
 simp only [nodeL] at h ⊢
 simp -implicitDefEqProofs (maxSteps:=2000000) only [c57,v_ms,rep0,rep1,rep2,c1,wr0,wr1,wr2,mx,v_ld_e,Int.reduceToNat,List.getD_cons_zero,List.getD_cons_succ,Int.reduceLT,Int.reduceLE,Int.reduceAdd,Int.reduceSub,Nat.reduceLT,Int.reduceEq,decide_true,decide_false,↓reduceIte,S0,St.init,enum,reduceCtorEq,PV.leaves,Nat.reduceLeDiff,Nat.reduceLT,forall_const]
 refine wcall_s h rfl rfl ?_
 simp -implicitDefEqProofs (maxSteps:=2000000) only [c57,v_ms,rep0,rep1,rep2,c1,wr0,wr1,wr2,mx,v_ld_e,Int.reduceToNat,List.getD_cons_zero,List.getD_cons_succ,Int.reduceLT,Int.reduceLE,Int.reduceAdd,Int.reduceSub,Nat.reduceLT,Int.reduceEq,decide_true,decide_false,↓reduceIte,S0,Nat.reduceEqDiff,St.clr,outV,ownsV,owns1,ownL]
theorem r57b (op n:Int) (t:ByteArray) (ho:18 ≤ op ∧ op ≤ 23) (hf:fldB op n t = true) (sp:List (List L)):R X Tryz.prog 57 [.lf (.lst .ro 7 [nodeL 3 0 ⟨#[]⟩,nodeL op n t] sp)] [] (.tp [.lf (.int .i64 0),.lf (.int .i64 0)]) []:=by
 have h:=r75b (X:=X) op n t ho hf sp
 refine R_i [] [] c57_ok rfl (by simp) ?_
 have c2:((2:Nat):Int) = 2:=rfl
 simp only [nodeL] at h ⊢
 simp -implicitDefEqProofs (maxSteps:=2000000) only [c57,v_ms,rep0,rep1,rep2,c2,wr0,wr1,wr2,mx,v_ld_e,Int.reduceToNat,List.getD_cons_zero,List.getD_cons_succ,Int.reduceLT,Int.reduceLE,Int.reduceAdd,Int.reduceSub,Nat.reduceLT,Int.reduceEq,decide_true,decide_false,↓reduceIte,S0,St.init,enum,Nat.reduceAdd,reduceCtorEq,PV.leaves,Nat.reduceLeDiff,Nat.reduceLT,forall_const]
 refine wcall_s h rfl rfl ?_
 simp -implicitDefEqProofs (maxSteps:=2000000) only [c57,v_ms,rep0,rep1,rep2,c2,wr0,wr1,wr2,mx,v_ld_e,Int.reduceToNat,List.getD_cons_zero,List.getD_cons_succ,Int.reduceLT,Int.reduceLE,Int.reduceAdd,Int.reduceSub,Nat.reduceLT,Int.reduceEq,decide_true,decide_false,↓reduceIte,S0,Nat.reduceEqDiff,St.clr,outV,ownsV,owns1,ownL]
theorem r58 (op n:Int) (t:ByteArray) (ho:18 ≤ op ∧ op ≤ 23) (hf:fldB op n t = true) (sp:List (List L)):R X Tryz.prog 58 [.lf (.lst .ro 7 [nodeL 3 0 ⟨#[]⟩,nodeL op n t] sp)] [] (.tp [.lf (.lst .ro 7 [nodeL 3 0 ⟨#[]⟩,nodeL op n t] sp),.lf (.int .i64 0)]) []:=by
 have h:=r57b (X:=X) op n t ho hf sp
 refine R_i [] [] c58_ok rfl (by simp) ?_
 simp only [nodeL] at h ⊢
 simp -implicitDefEqProofs (maxSteps:=2000000) only [c58,v_ms,rep0,rep1,rep2,wr0,wr1,wr2,mx,v_ld_e,Int.reduceToNat,List.getD_cons_zero,List.getD_cons_succ,Int.reduceLT,Int.reduceLE,Int.reduceAdd,Int.reduceSub,Nat.reduceLT,Int.reduceEq,decide_true,decide_false,↓reduceIte,S0,St.init,enum,reduceCtorEq,PV.leaves,Nat.reduceMul,plT]
 refine wcall_s h rfl rfl ?_
 simp -implicitDefEqProofs (maxSteps:=2000000) only [c58,v_ms,rep0,rep1,rep2,wr0,wr1,wr2,mx,v_ld_e,Int.reduceToNat,List.getD_cons_zero,List.getD_cons_succ,Int.reduceLT,Int.reduceLE,Int.reduceAdd,Int.reduceSub,Nat.reduceLT,Int.reduceEq,decide_true,decide_false,↓reduceIte,S0,Nat.reduceEqDiff,reduceCtorEq,St.clr,outV,ownsV,owns1,ownL,Nat.reduceMul,plT,ne_eq,true_or,ite_not]
end Go.Proofs.YthcpaohmajjopaaGreatDoor.I
set_option linter.unusedVariables false
set_option linter.unusedSimpArgs false
namespace Go.Proofs.YthcpaohmajjopaaGreatDoor.I
open Go Go.Proofs.YthcpaohmajjopaaGreatDoor.AM
variable {X:Cx}
theorem r41a (op n:Int) (t:ByteArray) (ho:18 ≤ op ∧ op ≤ 23) (hf:fldB op n t = true) (sp sp':List (List L)):R X Tryz.prog 41 [.ag (nodeL op n t),.lf (.lst .ro 1 [[.lst .ro 7 [nodeL 3 0 ⟨#[]⟩] sp]] sp')] [] (.tp [.lf (.lst .ro 7 [nodeL 3 0 ⟨#[]⟩,nodeL op n t] []),.lf (.int .i64 0)]) []:=by
 have h102:=r57a (X:=X) sp
 have h103:=r58 (X:=X) op n t ho hf []
 have h101:=r56 (X:=X) op n t (by omega)
 rw [hf] at h101
 have c1:((1:Nat):Int) = 1:=rfl
 simp only [nodeL] at h102 h103 h101 ⊢
 refine R_i [] [] c41_ok rfl (by simp) ?_
 simp -implicitDefEqProofs (maxSteps:=2000000) only [c41,c1,wr0,wr1,v_ld_e,Int.reduceToNat,List.getD_cons_zero,Int.reduceLT,Int.reduceLE,Int.reduceAdd,Int.reduceSub,Nat.reduceLT,Int.reduceEq,decide_true,decide_false,↓reduceIte,S0,St.init,enum,Nat.reduceEqDiff,reduceCtorEq,PV.leaves,Nat.reduceMul,plT]
 refine wcall_s (r55 op ho) rfl rfl ?_
 simp -implicitDefEqProofs (maxSteps:=2000000) only [c41,c1,wr0,wr1,v_ld_e,Int.reduceToNat,List.getD_cons_zero,Int.reduceLT,Int.reduceLE,Int.reduceAdd,Int.reduceSub,Nat.reduceLT,Int.reduceEq,decide_true,decide_false,↓reduceIte,S0,Nat.reduceEqDiff,Nat.reduceAdd,St.clr,outV,ownsV,owns1,ownL,PV.leaves,Nat.reduceLT]
 refine wcall_s h101 rfl rfl ?_
 simp -implicitDefEqProofs (maxSteps:=2000000) only [c41,c1,wr0,wr1,v_ld_e,Int.reduceToNat,List.getD_cons_zero,Int.reduceLT,Int.reduceLE,Int.reduceAdd,Int.reduceSub,Nat.reduceLT,Int.reduceEq,decide_true,decide_false,↓reduceIte,S0,Nat.reduceEqDiff,reduceCtorEq,St.clr,outV,ownsV,owns1,ownL,Nat.reduceMul,Nat.reduceLeDiff,List.range_zero,plT,ne_eq,true_or,forall_const,ite_not]
 intro Z hZ
 apply hZ
 simp -implicitDefEqProofs (maxSteps:=2000000) only [c41,c1,wr0,wr1,v_ld_e,Int.reduceToNat,List.getD_cons_zero,Int.reduceLT,Int.reduceLE,Int.reduceAdd,Int.reduceSub,Nat.reduceLT,Int.reduceEq,decide_true,decide_false,↓reduceIte,S0,Nat.reduceEqDiff,PV.leaves,Nat.reduceLT]
 refine wcall_s h102 rfl rfl ?_
 simp -implicitDefEqProofs (maxSteps:=2000000) only [c41,c1,wr0,wr1,v_ld_e,Int.reduceToNat,List.getD_cons_zero,Int.reduceLT,Int.reduceLE,Int.reduceAdd,Int.reduceSub,Nat.reduceLT,Int.reduceEq,decide_true,decide_false,↓reduceIte,S0,Nat.reduceEqDiff,Nat.reduceAdd,reduceCtorEq,St.clr,outV,ownsV,owns1,ownL,Nat.reduceMul,Nat.reduceBEq,Nat.reduceLeDiff,List.range_zero,plT,ne_eq,true_or,or_false,ite_not]
 apply hZ
 simp -implicitDefEqProofs (maxSteps:=2000000) only [c41,c1,wr0,wr1,v_ld_e,Int.reduceToNat,List.getD_cons_zero,Int.reduceLT,Int.reduceLE,Int.reduceAdd,Int.reduceSub,Nat.reduceLT,Int.reduceEq,decide_true,decide_false,↓reduceIte,S0,Nat.reduceEqDiff,Nat.reduceAdd,reduceCtorEq,PV.leaves,PV.cells,datL,Nat.reduceMul,Nat.reduceBEq,Nat.reduceLeDiff,plT,List.reduceReplicate,List.set_cons_zero,Nat.reduceLT,or_false]
 refine wcall_down h103 rfl ?_
 simp -implicitDefEqProofs (maxSteps:=2000000) only [c41,c1,wr0,wr1,v_ld_e,Int.reduceToNat,List.getD_cons_zero,Int.reduceLT,Int.reduceLE,Int.reduceAdd,Int.reduceSub,Nat.reduceLT,Int.reduceEq,decide_true,decide_false,↓reduceIte,S0,Nat.reduceEqDiff,reduceCtorEq,St.clr,outV,ownsV,owns1,ownL,Nat.reduceBEq,true_or,ro_lk]
theorem r41b (op n:Int) (t:ByteArray) (ho:18 ≤ op ∧ op ≤ 23) (hf:fldB op n t = false) (sp sp':List (List L)):R X Tryz.prog 41 [.ag (nodeL op n t),.lf (.lst .ro 1 [[.lst .ro 7 [nodeL 3 0 ⟨#[]⟩] sp]] sp')] [] (.tp [.lf (.lst .ro 7 [] []),.lf (.int .i64 41)]) []:=by
 have h101:=r56 (X:=X) op n t (by omega)
 rw [hf] at h101
 simp only [nodeL] at h101 ⊢
 refine R_i [] [512] c41_ok rfl (by simp) ?_
 simp -implicitDefEqProofs (maxSteps:=2000000) only [c41,↓reduceIte,S0,St.init,enum,Nat.reduceEqDiff,reduceCtorEq,PV.leaves,Nat.reduceMul,plT]
 refine wcall_s (r55 op ho) rfl rfl ?_
 simp -implicitDefEqProofs (maxSteps:=2000000) only [c41,wr0,wr1,Int.reduceLT,Int.reduceLE,Int.reduceEq,decide_true,decide_false,↓reduceIte,S0,Nat.reduceEqDiff,Nat.reduceAdd,St.clr,outV,ownsV,owns1,ownL,PV.leaves,Nat.reduceLT]
 refine wcall_s h101 rfl rfl ?_
 simp -implicitDefEqProofs (maxSteps:=2000000) only [c41,wr0,wr1,Int.reduceLT,Int.reduceLE,Int.reduceEq,decide_true,decide_false,↓reduceIte,S0,Nat.reduceEqDiff,St.clr,outV,ownsV,owns1,ownL,Nat.reduceMul,plT,true_or]
 rfl
def capB (b n:Int) (t:ByteArray):Bool:=if b = 1 then decide (n = 0) && decide (t = ⟨#[]⟩) else fldB (b + 16) n t
theorem r27 (b n:Int) (t:ByteArray) (hb:1 ≤ b) (hb2:b ≤ 7):R X Tryz.prog 27 [.lf (.int .i64 b),.lf (.int .i64 n),.lf (.str t)] [] (.lf (.bool (capB b n t))) []:=by
 have w1:IntKind.i64.wrap (b - 2) = b - 2:=w64 (by omega) (by omega)
 have w2:IntKind.i64.wrap (b - 2 + 18) = b + 16:=by rw [w64 (by omega) (by omega)];omega
 refine R_i [] [] c27_ok rfl (by simp) ?_
 generalize hr:capB b n t = r
 unfold capB at hr
 simp -implicitDefEqProofs (maxSteps:=2000000) only [c27,w1,w2,↓reduceIte,S0,St.init,enum,Nat.reduceEqDiff,Nat.reduceAdd,reduceCtorEq,cond_false,PV.leaves,PV.cells,cellL,datL,fillL,Nat.reduceMul,Nat.reduceLeDiff,plT,ne_eq,List.reduceReplicate,List.set_cons_zero]
 with_reducible refine ite_pr (fun h=>?_) (fun h=>?_)
 ·rw [if_pos h] at hr
  with_reducible refine ite_pr (fun h2=>?_) (fun h2=>?_)
  ·rw [decide_eq_true h2] at hr
   simpa using hr
  ·rw [decide_eq_false h2] at hr
   simpa using hr
 ·rw [if_neg h] at hr
  cases hf:fldB (b + 16) n t
  ·have h80:=r41b (X:=X) (b + 16) n t (by omega) hf [] []
   rw [hf] at hr
   simp only [nodeL] at h80
   refine wcall_down h80 rfl ?_
   simp -implicitDefEqProofs (maxSteps:=2000000) only [c27,Int.reduceEq,decide_true,decide_false,↓reduceIte,S0,Nat.reduceEqDiff,St.clr,outV,ownsV,owns1,ownL]
   exact hr
  ·have h80:=r41a (X:=X) (b + 16) n t (by omega) hf [] []
   rw [hf] at hr
   simp only [nodeL] at h80
   refine wcall_down h80 rfl ?_
   simp -implicitDefEqProofs (maxSteps:=2000000) only [c27,Int.reduceEq,decide_true,decide_false,↓reduceIte,S0,Nat.reduceEqDiff,St.clr,outV,ownsV,owns1,ownL]
   exact hr
end Go.Proofs.YthcpaohmajjopaaGreatDoor.I
set_option maxRecDepth 100000
namespace Go.Proofs.YthcpaohmajjopaaGreatDoor.I
open Go Go.Proofs.YthcpaohmajjopaaGreatDoor.AM
end Go.Proofs.YthcpaohmajjopaaGreatDoor.I
set_option linter.unusedVariables false
set_option linter.unusedSimpArgs false
namespace Go.Proofs.YthcpaohmajjopaaGreatDoor.I
open Go Go.Proofs.YthcpaohmajjopaaGreatDoor.AM
variable {X:Cx}
def refT:List Int:=[0,0,4,16,1,5,17,16,1,1,1,1,0,0,1,1,0,0,8,0,10]
def nameT:List (List UInt8):=[[],[97,110,121],[99,104,97,114],[115,101,116],[116,101,115,116,97,110,121],[116,101,115,116,99,104,97,114],[116,101,115,116,115,101,116],[115,112,97,110],[99,104,111,105,99,101],[99,111,109,109,105,116],[112,97,114,116,105,97,108],[98,97,99,107],[116,119,105,99,101],[102,97,105,108],[106,117,109,112],[99,97,108,108],[114,101,116],[101,110,100],[111,112,101,110],[99,108,111,115,101],[102,117,108,108]]
def refF (k:Nat):Int:=refT[k]?.getD 0
def nameF (k:Nat):ByteArray:=⟨(nameT[k]?.getD []).toArray⟩
def refB (a f:Int):Bool:=decide ((IntKind.i64.wrap (a.tdiv f)).tmod 2 = 1)
end Go.Proofs.YthcpaohmajjopaaGreatDoor.I
set_option linter.unusedVariables false
set_option linter.unusedSimpArgs false
namespace Go.Proofs.YthcpaohmajjopaaGreatDoor.I
open Go Go.Proofs.YthcpaohmajjopaaGreatDoor.AM
variable {X:Cx}
def argB (capF:Bool) (k:Nat) (x:Ins):Bool :=
 if k = 2 ∨ k = 5 then decide (0 ≤ x.b ∧ x.b ≤ 255) else if k = 18 then decide (2 ≤ x.b ∧ x.b ≤ 7) && capF
 else if k = 20 then decide (1 ≤ x.b ∧ x.b ≤ 7 ∧ 0 ≤ x.a ∧ x.a ≤ 255 ∧ ¬ (x.b = 1 ∧ 0 < x.a)) && capF else true
def fitB (capF:Bool) (k:Nat) (x:Ins):Bool:=x.same (x.plain k) && argB capF k x
theorem r14 (hX:X.G 0 = some usesL) (k:Nat) (hk:k < 21) (x:Ins) (hx:x.op = k) (capF:Bool) (hcap:k = 18 ∨ k = 20 → 1 ≤ x.b → x.b ≤ 7 → R X Tryz.prog 27 [.lf (.int .i64 x.b),.lf (.int .i64 x.n),.lf (.str x.t)] [] (.lf (.bool capF)) []) :
  R X Tryz.prog 14 [.ag x.c] [] (.lf (.bool (fitB capF k x))) []:=by
 refine R_i [] [] c14_ok rfl (by simp) ?_
 unfold fitB
 have h65:=r26 hX k hk x hx
 have he:=eq_ins x (x.plain k)
 have hc:x.c = [.int .i64 x.op,.int .i64 x.a,.int .i64 x.b,.int .i64 x.n,.str x.t,.int .u64 x.s0,.int .u64 x.s1,.int .u64 x.s2,.int .u64 x.s3]:=rfl
 generalize x.plain k = y at *
 have hy:y.c = [.int .i64 y.op,.int .i64 y.a,.int .i64 y.b,.int .i64 y.n,.str y.t,.int .u64 y.s0,.int .u64 y.s1,.int .u64 y.s2,.int .u64 y.s3]:=rfl
 rw [hc] at he h65 ⊢
 rw [hy] at he h65
 rw [hx] at he h65 ⊢
 generalize x.same y = bb at *
 generalize hr:argB capF k x = r
 simp -implicitDefEqProofs (maxSteps:=2000000) only [c14,↓reduceIte,S0,St.init,enum,Nat.reduceEqDiff,Nat.reduceAdd]
 refine wcallq_i h65 rfl ?_
 have hb:=fun neg ks K=>v_beq (neg:=neg) (ks:=ks) (K:=K) he
 simp -implicitDefEqProofs (maxSteps:=2000000) only [c14,hb,↓reduceIte,S0,Nat.reduceEqDiff,cond_false,PV.leaves,kd_s,ite_not,Bool.not_eq_eq_eq_not]
 clear he hb h65 hc hy
 unfold argB at hr
 iterate 14 (all_goals try (with_reducible refine ite_pr (fun _=>?_) (fun _=>?_)))
 all_goals try omega
 all_goals try (refine wcall_s (hcap (by omega) (by omega) (by omega)) rfl rfl ?_;simp -implicitDefEqProofs (maxSteps:=2000000) only [c14,↓reduceIte,S0,Nat.reduceEqDiff,St.clr,outV,ownsV,owns1,ownL])
 all_goals (cases bb;· simp_all)
 all_goals (simp only [Bool.true_and];subst hr)
 all_goals try contradiction
 all_goals repeat' split
 all_goals first
  | omega
  | rfl
  |(rw [decide_eq_decide];omega)
  |(rw [decide_eq_false (by omega)];rfl)
  |(rw [decide_eq_true (by omega)];rfl)
  |(rw [decide_eq_true (by omega),Bool.true_and])
  |(exact (decide_eq_false (by omega)).symm)
  | trace_state
end Go.Proofs.YthcpaohmajjopaaGreatDoor.I
set_option linter.unusedVariables false
set_option linter.unusedSimpArgs false
namespace Go.Proofs.YthcpaohmajjopaaGreatDoor.I
open Go Go.Proofs.YthcpaohmajjopaaGreatDoor.AM
variable {X:Cx}
abbrev rp (k:Nat):List Bool:=[refB (refF k) 1,refB (refF k) 2,refB (refF k) 4,refB (refF k) 8,refB (refF k) 16]
abbrev hp (k:Nat):List Bool:=[hasB k 1,hasB k 2,hasB k 4,hasB k 8,hasB k 16]
end Go.Proofs.YthcpaohmajjopaaGreatDoor.I
set_option linter.unusedVariables false
set_option linter.unusedSimpArgs false
namespace Go.Proofs.YthcpaohmajjopaaGreatDoor.I
open Go Go.Proofs.YthcpaohmajjopaaGreatDoor.AM
variable {X:Cx}
def errAt (capF:Ins → Bool) (len i:Nat) (x:Ins):Int :=
 if ¬ (1 ≤ x.op ∧ x.op ≤ 20) then 160 else if fitB (capF x) x.op.toNat x = false then 161
 else if hasB x.op.toNat 32 = true ∧ (x.a < -(i:Int) ∨ (len:Int) - i ≤ x.a) then 162 else 0
def chkGo (capF:Ins → Bool) (len:Nat):Nat → List Ins → Option (Int × Int)
 | _,[]=>none
 | i,x :: r=>if errAt capF len i x = 0 then chkGo capF len (i + 1) r else some ((i:Int),errAt capF len i x)
def lastOp:List Ins → Int
 | []=>0
 | [x]=>x.op
 | _ :: y :: r=>lastOp (y :: r)
def chkEnd (code:List Ins):Int × Int:=if hasB (lastOp code).toNat 64 = true then ((code.length:Int) - 1,163) else (0,0)
def chk (capF:Ins → Bool) (code:List Ins):Int × Int :=
 if 8192 < code.length then (0,2) else if code.length = 0 then (0,3) else (chkGo capF code.length 0 code).getD (chkEnd code)
def CapOK (X:Cx) (capF:Ins → Bool) (code:List Ins):Prop:=∀ x ∈ code,x.op = 18 ∨ x.op = 20 → 1 ≤ x.b → x.b ≤ 7 → R X Tryz.prog 27 [.lf (.int .i64 x.b),.lf (.int .i64 x.n),.lf (.str x.t)] [] (.lf (.bool (capF x))) []
theorem last_get:∀ {code:List Ins},0 < code.length → ∃ y,code[code.length - 1]? = some y ∧ lastOp code = y.op ∧ y ∈ code
 | [x],_=>⟨x,rfl,rfl,by simp⟩
 | x :: y :: r,_=>by
  obtain ⟨z,h1,h2,h3⟩:=last_get (code:=y :: r) (by simp)
  refine ⟨z,?_,h2,by simp at h3 ⊢;right;exact h3⟩
  simpa using h1
theorem nat_of {z:Int} (h:1 ≤ z ∧ z ≤ 20):∃ k:Nat,z = k ∧ k < 21:=⟨z.toNat,by omega,by omega⟩
theorem r6 (hX:X.G 0 = some usesL) (capF:Ins → Bool) (code:List Ins) (hcap:CapOK X capF code) (sp:List (List L)) :
  R X Tryz.prog 6 [.lf (.lst .ro 9 (code.map Ins.c) sp)] [] (.tp [.lf (.int .i64 (chk capF code).1),.lf (.int .i64 (chk capF code).2)]) []:=by
 refine R_i [] [] c6_ok rfl (by simp) ?_
 generalize hr:chk capF code = r
 have hl:(code.map Ins.c).length = code.length:=List.length_map _
 have key:∀ (q:List Ins) (i:Nat),code.drop i = q → (∀ x ∈ code.take i,1 ≤ x.op ∧ x.op ≤ 20) → code.length ≤ 8192 → 0 < code.length → (chkGo capF code.length i q).getD (chkEnd code) = r → LoopAt X Tryz.prog c6_21 [0,13,14,15] (blkK 0 (seqK X Tryz.prog c6_30 (retS [] [] 0 [RV.t 2,RV.t 3] (PV.tp [PV.lf (L.int IntKind.i64 r.fst),PV.lf (L.int IntKind.i64 r.snd)]) [])))
   {m:=0,tm:=[(0,PV.lf (L.lst Tag.ro 9 (List.map Ins.c code) sp)),(13,PV.lf (L.lst Tag.ro 9 (List.map Ins.c code) sp)),(14,PV.lf (L.int IntKind.i64 ↑code.length)),(15,PV.lf (L.int IntKind.i64 i))],ce:=[] }:=by
  intro q
  induction q with
  | nil =>
   intro i hq hal h1 h2 hr Z hZ
   apply hZ
   have hi:code.length ≤ i:=by simpa using hq
   obtain ⟨y,g1,g2,g3⟩:=last_get h2
   rw [List.take_of_length_le hi] at hal
   obtain ⟨k,hk,hk2⟩:=nat_of (hal y g3)
   have e1:IntKind.i64.wrap ((code.length:Int) - 1) = ((code.length - 1:Nat):Int):=by rw [w64 (by omega) (by omega)];omega
   have hg:(code.map Ins.c).getD ((code.length - 1:Nat):Int).toNat [] = [.int .i64 y.op,.int .i64 y.a,.int .i64 y.b,.int .i64 y.n,.str y.t,.int .u64 y.s0,.int .u64 y.s1,.int .u64 y.s2,.int .u64 y.s3]:=by
    rw [Int.toNat_natCast,List.getD_eq_getElem?_getD,List.getElem?_map,g1];rfl
   rw [hk] at hg
   simp only [chkGo,Option.getD_none,chkEnd,g2,hk,Int.toNat_natCast] at hr
   simp -implicitDefEqProofs (maxSteps:=2000000) only [c6,hl,e1,hg,v_ld_e,↓reduceIte,S0,Nat.reduceEqDiff,Nat.reduceAdd,reduceCtorEq,PV.leaves,PV.cells,fillL]
   with_reducible refine ite_pr (fun _=>?_) (fun _=>?_)
   ·omega
   refine fun _=>⟨⟨by omega,by omega⟩,by omega,?_⟩
   refine wcall_s (r15 hX k hk2 64) rfl rfl ?_
   simp -implicitDefEqProofs (maxSteps:=2000000) only [c6,↓reduceIte,S0,Nat.reduceEqDiff,reduceCtorEq,St.clr,outV,ownsV,owns1,ownL]
   rw [← hr]
   split
   ·exact ⟨by simp only;omega,rfl⟩
   ·exact ⟨rfl,rfl⟩
  | cons x q ih =>
   intro i hq hal h1 h2 hr Z hZ
   apply hZ
   have hi:i < code.length:=by
    have:=congrArg List.length hq
    simp at this;omega
   have hx:code[i]? = some x:=by
    have:=congrArg (fun l=>l[0]?) hq
    simpa using this
   have hg:(code.map Ins.c).getD (i:Int).toNat [] = x.c:=by
    rw [Int.toNat_natCast,List.getD_eq_getElem?_getD,List.getElem?_map,hx];rfl
   have hq':code.drop (i + 1) = q:=by
    rw [← List.drop_drop,hq];rfl
   have hc:x.c = [.int .i64 x.op,.int .i64 x.a,.int .i64 x.b,.int .i64 x.n,.str x.t,.int .u64 x.s0,.int .u64 x.s1,.int .u64 x.s2,.int .u64 x.s3]:=rfl
   rw [hc] at hg
   simp -implicitDefEqProofs (maxSteps:=2000000) only [c6,hl,hg,v_ld_e,↓reduceIte,S0,Nat.reduceEqDiff,Nat.reduceAdd,reduceCtorEq,PV.leaves,PV.cells,cellL,fillL]
   with_reducible refine ite_pr (fun _=>?_) (fun _=>?_)
   rotate_left
   ·omega
   refine ⟨⟨by omega,by omega⟩,by omega,?_⟩
   refine wcall_s (r13 x.op) rfl rfl ?_
   simp -implicitDefEqProofs (maxSteps:=2000000) only [c6,hl,hg,v_ld_e,↓reduceIte,S0,Nat.reduceEqDiff,Nat.reduceAdd,reduceCtorEq,St.clr,outV,ownsV,owns1,ownL,PV.leaves,ite_not,Bool.not_eq_eq_eq_not]
   have hxm:x ∈ code:=List.mem_of_getElem? hx
   simp only [chkGo] at hr
   have he:errAt capF code.length i x = _:=rfl
   conv at he=>rhs;unfold errAt
   generalize errAt capF code.length i x = e at hr he
   with_reducible refine ite_pr (fun ho=>?_) (fun ho=>?_)
   rotate_left
   ·rw [if_pos ho] at he
    subst he
    rw [if_neg (by decide)] at hr
    rw [← hr]
    exact ⟨rfl,rfl⟩
   obtain ⟨k,hk,hk2⟩:=nat_of ho
   have h49:=r14 hX k hk2 x hk (capF x) (fun h=>hcap x hxm (by omega))
   have h50:=r15 hX k hk2 32
   rw [← hk] at h50
   rw [hc] at h49
   have w1:IntKind.i64.wrap (0 - (i:Int)) = -(i:Int):=by rw [w64 (by omega) (by omega)];omega
   have w2:IntKind.i64.wrap ((code.length:Int) - (i:Int)) = (code.length:Int) - (i:Int):=w64 (by omega) (by omega)
   have w3:IntKind.i64.wrap ((i:Int) + 1) = ((i + 1:Nat):Int):=by rw [w64 (by omega) (by omega)];omega
   rw [if_neg (by simpa using ho),show x.op.toNat = k by omega] at he
   refine wcall_s h49 rfl rfl ?_
   simp -implicitDefEqProofs (maxSteps:=2000000) only [c6,↓reduceIte,S0,Nat.reduceEqDiff,reduceCtorEq,St.clr,outV,ownsV,owns1,ownL,PV.leaves,Bool.not_eq_eq_eq_not]
   with_reducible refine ite_pr (fun hf=>?_) (fun hf=>?_)
   ·rw [if_pos hf] at he
    subst he
    rw [if_neg (by decide)] at hr
    rw [← hr]
    exact ⟨rfl,rfl⟩
   rw [if_neg hf] at he
   refine wcall_s h50 rfl rfl ?_
   have hal':∀ y ∈ code.take (i + 1),1 ≤ y.op ∧ y.op ≤ 20:=by
    intro y hy
    rw [List.take_add_one,hx] at hy
    simp only [List.mem_append,Option.toList_some,List.mem_singleton] at hy
    rcases hy with hy | rfl
    ·exact hal y hy
    ·exact ho
   have nx:=fun h0:e = 0=>ih (i + 1) hq' hal' h1 h2 (by rw [if_pos h0] at hr;exact hr) Z hZ
   have bad:e = 162 → (i:Int) = r.1 ∧ 162 = r.2:=by
    intro h0
    rw [h0,if_neg (by decide)] at hr
    rw [← hr]
    exact ⟨rfl,rfl⟩
   simp -implicitDefEqProofs (maxSteps:=2000000) only [c6,hl,w1,w2,w3,↓reduceIte,S0,v_neg,Nat.reduceEqDiff,reduceCtorEq,cond_false,St.clr,outV,ownsV,owns1,ownL,List.range_zero,ite_not]
   with_reducible refine ite_pr (fun hj=>?_) (fun hj=>?_)
   ·with_reducible refine ite_pr (fun ha=>?_) (fun ha=>?_)
    ·exact bad (by rw [he,if_pos ⟨hj,by omega⟩])
    ·refine fun _=>?_
     with_reducible refine ite_pr (fun hb=>?_) (fun hb=>?_)
     ·exact bad (by rw [he,if_pos ⟨hj,by omega⟩])
     ·exact nx (by rw [he,if_neg (by omega)])
   ·exact nx (by rw [he,if_neg (fun h=>hj h.1)])
 unfold chk at hr
 simp -implicitDefEqProofs (maxSteps:=2000000) only [c6,hl,↓reduceIte,S0,St.init,enum,Nat.reduceEqDiff,reduceCtorEq,List.range_zero]
 refine fun hl2=>?_
 with_reducible refine ite_pr (fun h=>?_) (fun h=>?_)
 ·rw [if_pos (by omega)] at hr
  rw [← hr]
  exact ⟨rfl,rfl⟩
 rw [if_neg (by omega)] at hr
 refine fun _=>?_
 with_reducible refine ite_pr (fun h=>?_) (fun h=>?_)
 ·rw [if_pos (by omega)] at hr
  rw [← hr]
  exact ⟨rfl,rfl⟩
 rw [if_neg (by omega)] at hr
 refine fun _=>key code 0 rfl (fun x hx=>by simp at hx) (by omega) (by omega) hr
end Go.Proofs.YthcpaohmajjopaaGreatDoor.I
set_option linter.unusedVariables false
set_option linter.unusedSimpArgs false
namespace Go.Proofs.YthcpaohmajjopaaGreatDoor.I
open Go Go.Proofs.YthcpaohmajjopaaGreatDoor.AM
variable {X:Cx}
def one (k:Int):Ins:=⟨k,0,0,0,⟨#[]⟩,0,0,0,0⟩
theorem r7 (hX:X.G 0 = some usesL):R X Tryz.prog 7 [] [] (.lf (.bool true)) []:=by
 refine R_i [] [] c7_ok rfl (by simp) ?_
 have h1:=r6 hX (fun _=>true) [one 17] (fun x hx h=>by simp at hx;subst hx;simp [one] at h) []
 have h2:=r6 hX (fun _=>true) [one 1] (fun x hx h=>by simp at hx;subst hx;simp [one] at h) []
 have e1:chk (fun _=>true) [one 17] = (0,0):=by decide +kernel
 have e2:chk (fun _=>true) [one 1] = (0,163):=by decide +kernel
 rw [e1] at h1
 rw [e2] at h2
 simp only [List.map_cons,List.map_nil,one,Ins.c] at h1 h2
 simp -implicitDefEqProofs (maxSteps:=2000000) only [c7,↓reduceIte,S0,St.init,enum,Nat.reduceAdd,reduceCtorEq,PV.leaves,PV.cells,cellL,datL,fillL,Nat.reduceMul,Nat.reduceLeDiff,plT,ne_eq,List.reduceReplicate,List.set_cons_zero]
 refine wcall_s h1 rfl rfl ?_
 simp -implicitDefEqProofs (maxSteps:=2000000) only [c7,↓reduceIte,S0,Nat.reduceEqDiff,Nat.reduceAdd,reduceCtorEq,St.clr,outV,ownsV,owns1,ownL,PV.leaves,PV.cells,cellL,datL,fillL,Nat.reduceMul,Nat.reduceLeDiff,plT,ne_eq,List.reduceReplicate,List.set_cons_zero]
 refine wcall_s h2 rfl rfl ?_
 simp -implicitDefEqProofs (maxSteps:=2000000) only [c7,↓reduceIte,S0,Nat.reduceEqDiff,cond_false,St.clr,outV,ownsV,owns1,ownL]
def sameL:List Ins → List Ins → Bool
 | [],[]=>true
 | x :: a,y :: b=>x.same y && sameL a b
 | _,_=>false
theorem same_self (x:Ins):x.same x = true:=Ins.same_eq.2 rfl
theorem sameL_self:∀ (a:List Ins),sameL a a = true
 | []=>rfl
 | x :: a=>by simp [sameL,same_self,sameL_self a]
theorem sameL_len:∀ {a b:List Ins},a.length ≠ b.length → sameL a b = false
 | [],[],h=>by simp at h
 | [],_ :: _,_=>rfl
 | _ :: _,[],_=>rfl
 | x :: a,y :: b,h=>by simp [sameL,sameL_len (a:=a) (b:=b) (by simpa using h)]
theorem drop_step {α:Type} {l q:List α} {x:α} {i:Nat} (h:l.drop i = x :: q):i < l.length ∧ l[i]? = some x ∧ l.drop (i + 1) = q:=by
 refine ⟨?_,?_,?_⟩
 ·have:=congrArg List.length h
  simp at this;omega
 ·have:=congrArg (fun l=>l[0]?) h
  simpa using this
 ·rw [← List.drop_drop,h];rfl
theorem get_c {l:List Ins} {i:Nat} {x:Ins} (h:l[i]? = some x):(l.map Ins.c).getD (i:Int).toNat [] = x.c:=by
 rw [Int.toNat_natCast,List.getD_eq_getElem?_getD,List.getElem?_map,h];rfl
theorem wp9 {x:Ins} {K:PV → Prop}:wpart x.c 0 9 true K = K (.ag x.c):=by
 simp [wpart,Ins.c]
theorem r9 (a b:List Ins) (sp sp':List (List L)):R X Tryz.prog 9 [.lf (.lst .ro 9 (a.map Ins.c) sp),.lf (.lst .ro 9 (b.map Ins.c) sp')] [] (.lf (.bool (sameL a b))) []:=by
 refine R_i [] [] c9_ok rfl (by simp) ?_
 generalize hr:sameL a b = r
 have hl:(a.map Ins.c).length = a.length:=List.length_map _
 have hl':(b.map Ins.c).length = b.length:=List.length_map _
 have key:∀ (q q':List Ins) (i:Nat),a.length ≤ 9223372036854775807 → a.length = b.length → a.drop i = q → b.drop i = q' → sameL q q' = r → LoopAt X Tryz.prog c9_10 [0,1,5] (blkK 0 (seqK X Tryz.prog c9_14 (retS [] [] 0 [RV.t 4] (PV.lf (L.bool r)) [])))
   {m:=0,tm:=[(0,PV.lf (L.lst Tag.ro 9 (List.map Ins.c a) sp)),(1,PV.lf (L.lst Tag.ro 9 (List.map Ins.c b) sp')),(5,PV.lf (L.int IntKind.i64 i))],ce:=[] }:=by
  intro q
  induction q with
  | nil =>
   intro q' i h0 hll hq hq' hr Z hZ
   apply hZ
   have hi:a.length ≤ i:=by simpa using hq
   obtain rfl:q' = []:=by rw [← hq'];simp;omega
   simp -implicitDefEqProofs (maxSteps:=2000000) only [c9,hl,↓reduceIte,S0,Nat.reduceEqDiff,reduceCtorEq]
   refine fun _=>?_
   with_reducible refine ite_pr (fun _=>?_) (fun _=>?_)
   ·omega
   ·simpa [sameL] using hr
  | cons x q ih =>
   intro q' i h0 hll hq hq' hr Z hZ
   apply hZ
   obtain ⟨hi,hx,hq⟩:=drop_step hq
   obtain ⟨y,q',rfl⟩:∃ y p,q' = y :: p:=by
    cases q' with
    | nil=>simp at hq';omega
    | cons y p=>exact ⟨y,p,rfl⟩
   obtain ⟨hi',hy,hq'⟩:=drop_step hq'
   have g1:=get_c hx
   have g2:=get_c hy
   have he:=eq_ins x y
   have hb:=fun neg ks K=>v_beq (neg:=neg) (ks:=ks) (K:=K) he
   have kx:x.c.map kindL = [2,2,2,2,3,2,2,2,2]:=rfl
   have ky:y.c.map kindL = [2,2,2,2,3,2,2,2,2]:=rfl
   have wp:=fun (z:Ins) (K:PV → Prop)=>wp9 (x:=z) (K:=K)
   have w3:IntKind.i64.wrap ((i:Int) + 1) = ((i + 1:Nat):Int):=by rw [w64 (by omega) (by omega)];omega
   simp only [sameL] at hr
   simp -implicitDefEqProofs (maxSteps:=2000000) only [c9,hl,hl',g1,g2,v_ld_e,wp,hb,kx,ky,w3,↓reduceIte,S0,Nat.reduceEqDiff,reduceCtorEq,List.range_zero,Bool.not_eq_eq_eq_not]
   refine fun _=>?_
   with_reducible refine ite_pr (fun _=>?_) (fun _=>?_)
   ·refine ⟨⟨by omega,by omega⟩,by omega,⟨by omega,by omega⟩,by omega,?_⟩
    with_reducible refine ite_pr (fun hs=>?_) (fun hs=>?_)
    ·rw [hs,Bool.false_and] at hr
     exact hr
    ·refine ih q' (i + 1) h0 hll hq hq' ?_ Z hZ
     simpa [hs] using hr
   ·omega
 simp -implicitDefEqProofs (maxSteps:=2000000) only [c9,hl,hl',↓reduceIte,S0,St.init,enum,Nat.reduceEqDiff,reduceCtorEq,List.range_zero,ne_eq,ite_not]
 refine fun h1 h2=>?_
 with_reducible refine ite_pr (fun h=>?_) (fun h=>?_)
 ·exact key a b 0 h1 (by omega) rfl rfl hr
 ·rw [sameL_len (by omega)] at hr
  exact hr
end Go.Proofs.YthcpaohmajjopaaGreatDoor.I
set_option linter.unusedVariables false
set_option linter.unusedSimpArgs false
namespace Go.Proofs.YthcpaohmajjopaaGreatDoor.I
open Go Go.Proofs.YthcpaohmajjopaaGreatDoor.AM
variable {X:Cx}
abbrev capX (x:Ins):Bool:=capB x.b x.n x.t
theorem capOK (code:List Ins):CapOK X capX code:=fun x _ _ h1 h2=>r27 x.b x.n x.t h1 h2
theorem r6x (hX:X.G 0 = some usesL) (code:List Ins) (sp:List (List L)) :
  R X Tryz.prog 6 [.lf (.lst .ro 9 (code.map Ins.c) sp)] [] (.tp [.lf (.int .i64 (chk capX code).1),.lf (.int .i64 (chk capX code).2)]) []:=r6 hX capX code (capOK code) sp
end Go.Proofs.YthcpaohmajjopaaGreatDoor.I
set_option maxRecDepth 100000
namespace Go.Proofs.YthcpaohmajjopaaGreatDoor.I
open Go Go.Proofs.YthcpaohmajjopaaGreatDoor.AM
abbrev c8_0:AC:=.seq (.ops 0 [⟨some 14,.bd [.int .i64 0,.int .i64 0] [(1,1,(.k (.lf (.int .i64 2))))],none⟩,⟨some 2,.as 42 9 (.k (.lf (.lst .nl 9 [] []))),none⟩,⟨none,.st (.t 3) (.t 14) 2,none⟩] [2,3]) .ret
abbrev c8_1:AC:=.cond (.t 13) c8_0 .skip
abbrev c8_2:AC:=.seq (.ops 0 [⟨some 11,.mv (.t 0),none⟩,⟨some 12,.lns (.t 11),none⟩,⟨some 13,.bin .gtr (.t 12) (.k (.lf (.int .i64 1048576))),none⟩] [0,3,13]) c8_1
abbrev c8_3:AC:=.cond (.t 27) .skip (.exit 0)
abbrev c8_4:AC:=.cond (.t 37) (.exit 0) .skip
abbrev c8_5:AC:=.seq (.ops 0 [⟨some 34,.mv (.t 4),none⟩,⟨some 35,.nc (.t 34),none⟩,⟨some 36,.fa (.t 35) 2,none⟩,⟨some 37,.ld (.t 36) 1 false,none⟩] [0,3,4,7,8,9,10,25,26,37]) c8_4
abbrev c8_6:AC:=.seq (.ops 0 [⟨some 41,.mv (.t 9),none⟩,⟨some 42,.bd [.int .i64 0,.int .i64 0] [(0,1,(.t 41)),(1,1,(.k (.lf (.int .i64 164))))],none⟩,⟨some 2,.as 42 9 (.k (.lf (.lst .nl 9 [] []))),none⟩,⟨none,.st (.t 3) (.t 42) 2,none⟩] [2,3]) .ret
abbrev c8_7:AC:=.cond (.t 40) c8_6 .skip
abbrev c8_8:AC:=.seq (.ops 0 [⟨some 38,.mv (.t 10),none⟩,⟨some 39,.call 13 [(.t 38)],none⟩,⟨some 40,.un .not (.t 39),none⟩] [0,3,4,7,8,9,10,25,26,40]) c8_7
abbrev c8_9:AC:=.cond (.t 56) (.exit 0) .skip
abbrev c8_10:AC:=.seq (.ops 0 [⟨some 53,.mv (.t 4),none⟩,⟨some 54,.nc (.t 53),none⟩,⟨some 55,.fa (.t 54) 2,none⟩,⟨some 56,.ld (.t 55) 1 false,none⟩] [0,3,4,7,8,25,26,56]) c8_9
abbrev c8_11:AC:=.seq (.ops 0 [⟨some 47,.mv (.t 7),none⟩,⟨some 48,.mv (.t 4),none⟩,⟨some 49,.mv (.t 10),none⟩,⟨some 50,.callp 17 0 [(.t 48),(.t 49)],none⟩,⟨some 51,.bs 42 9 1 [.int .i64 0,.int .i64 0,.int .i64 0,.int .i64 0,.str ⟨#[]⟩,.int .u64 0,.int .u64 0,.int .u64 0,.int .u64 0] [(0,(.t 50))],none⟩,⟨some 52,.app 42 9 80 (.t 47) (.t 51),none⟩,⟨some 7,.as 42 9 (.t 52),none⟩] [0,3,4,7,8,25,26]) c8_10
abbrev c8_12:AC:=.seq (.ops 0 [⟨some 43,.mv (.t 8),none⟩,⟨some 44,.mv (.t 9),none⟩,⟨some 45,.bs 3 1 1 [.int .i64 0] [(0,(.t 44))],none⟩,⟨some 46,.app 3 1 8 (.t 43) (.t 45),none⟩,⟨some 8,.as 3 1 (.t 46),none⟩] [0,3,4,7,8,10,25,26]) c8_11
abbrev c8_13:AC:=.seq c8_8 c8_12
abbrev c8_14:AC:=.seq c8_5 c8_13
abbrev c8_15:AC:=.seq (.ops 0 [⟨some 32,.mv (.t 4),none⟩,⟨some 33,.callp 16 0 [(.t 32)],none⟩,⟨some 10,.as 0 0 (.t 33),none⟩] [0,3,4,7,8,9,10,25,26]) c8_14
abbrev c8_16:AC:=.seq (.ops 0 [⟨some 28,.mv (.t 4),none⟩,⟨some 29,.nc (.t 28),none⟩,⟨some 30,.fa (.t 29) 1,none⟩,⟨some 31,.ld (.t 30) 1 false,none⟩,⟨some 9,.as 0 0 (.t 31),none⟩] [0,3,4,7,8,9,25,26]) c8_15
abbrev c8_17:AC:=.block 1 c8_16
abbrev c8_18:AC:=.seq c8_17 (.ops 0 [⟨some 57,.bin .add (.t 26) (.k (.lf (.int .i64 1))),none⟩,⟨some 26,.mv (.t 57),none⟩] [0,3,4,7,8,25,26])
abbrev c8_19:AC:=.seq c8_3 c8_18
abbrev c8_20:AC:=.seq (.ops 0 [⟨some 27,.bin .lss (.t 26) (.t 25),none⟩] [0,3,4,7,8,25,26,27]) c8_19
abbrev c8_21:AC:=.loop c8_20 [0,3,4,7,8,25,26]
abbrev c8_22:AC:=.block 0 c8_21
abbrev c8_23:AC:=.seq (.ops 0 [⟨some 25,.mv (.t 6),none⟩,⟨some 26,.mv (.k (.lf (.int .i64 0))),none⟩] [0,3,4,7,8,25,26]) c8_22
abbrev c8_24:AC:=.seq (.ops 0 [⟨some 62,.mv (.t 0),none⟩,⟨some 63,.lns (.t 62),none⟩,⟨some 64,.bd [.int .i64 0,.int .i64 0] [(0,1,(.t 63)),(1,1,(.k (.lf (.int .i64 164))))],none⟩,⟨some 2,.as 42 9 (.k (.lf (.lst .nl 9 [] []))),none⟩,⟨none,.st (.t 3) (.t 64) 2,none⟩] [2,3]) .ret
abbrev c8_25:AC:=.cond (.t 61) c8_24 .skip
abbrev c8_26:AC:=.seq (.ops 0 [⟨some 58,.mv (.t 4),none⟩,⟨some 59,.nc (.t 58),none⟩,⟨some 60,.fa (.t 59) 2,none⟩,⟨some 61,.ld (.t 60) 1 false,none⟩] [0,3,4,7,8,61]) c8_25
abbrev c8_27:AC:=.seq (.ops 1 [⟨some 72,.mv (.t 4),none⟩,⟨some 73,.nc (.t 72),none⟩,⟨some 74,.fa (.t 73) 1,none⟩,⟨some 75,.ld (.t 74) 1 false,none⟩,⟨some 76,.bd [.int .i64 0,.int .i64 0] [(0,1,(.t 75)),(1,1,(.k (.lf (.int .i64 164))))],none⟩,⟨some 2,.as 42 9 (.k (.lf (.lst .nl 9 [] []))),none⟩,⟨none,.st (.t 3) (.t 76) 2,none⟩] [2,3]) .ret
abbrev c8_28:AC:=.cond (.t 71) c8_27 .skip
abbrev c8_29:AC:=.seq (.ops 0 [⟨some 65,.mv (.t 4),none⟩,⟨some 66,.nc (.t 65),none⟩,⟨some 67,.fa (.t 66) 1,none⟩,⟨some 68,.ld (.t 67) 1 false,none⟩,⟨some 69,.mv (.t 0),none⟩,⟨some 70,.lns (.t 69),none⟩,⟨some 71,.bin .lss (.t 68) (.t 70),none⟩] [3,4,7,8,71]) c8_28
abbrev c8_30:AC:=.seq (.ops 0 [⟨some 77,.mv (.t 7),none⟩,⟨some 78,.mv (.t 8),none⟩,⟨some 79,.call 18 [(.t 77),(.t 78)],none⟩,⟨some 80,.ext (.t 79) 0,none⟩,⟨some 81,.ext (.t 79) 1,none⟩,⟨some 2,.as 42 9 (.t 80),none⟩,⟨none,.st (.t 3) (.t 81) 2,none⟩] [2,3]) .ret
abbrev c8_31:AC:=.seq c8_29 c8_30
abbrev c8_32:AC:=.seq c8_26 c8_31
abbrev c8_33:AC:=.seq c8_23 c8_32
abbrev c8_34:AC:=.seq (.ops 0 [⟨some 8,.as 3 1 (.k (.lf (.lst .nl 1 [] []))),none⟩] [0,3,4,6,7,8]) c8_33
abbrev c8_35:AC:=.seq (.ops 0 [⟨some 7,.as 42 9 (.k (.lf (.lst .nl 9 [] []))),none⟩] [0,3,4,6,7]) c8_34
abbrev c8_36:AC:=.seq (.ops 0 [⟨some 20,.mv (.t 5),none⟩,⟨some 21,.bin .shl (.t 20) (.k (.lf (.int .u64 8))),none⟩,⟨some 22,.mv (.t 4),none⟩,⟨some 23,.callp 16 0 [(.t 22)],none⟩,⟨some 24,.bin .or (.t 21) (.t 23),none⟩,⟨some 6,.as 0 0 (.t 24),none⟩] [0,3,4,6]) c8_35
abbrev c8_37:AC:=.seq (.ops 0 [⟨some 18,.mv (.t 4),none⟩,⟨some 19,.callp 16 0 [(.t 18)],none⟩,⟨some 5,.as 0 0 (.t 19),none⟩] [0,3,4,5]) c8_36
abbrev c8_38:AC:=.seq (.ops 0 [⟨some 15,.mv (.t 0),none⟩,⟨some 16,.bd [.str ⟨#[]⟩,.int .i64 0,.bool false] [(0,1,(.t 15))],none⟩,⟨some 17,.bx (.t 16),none⟩,⟨some 4,.as 0 0 (.t 17),none⟩] [0,3,4]) c8_37
abbrev c8_39:AC:=.seq c8_2 c8_38
abbrev c8_40:AC:=.seq (.ops 0 [⟨some 2,.as 42 9 (.k (.lf (.lst .nl 9 [] []))),none⟩,⟨some 3,.al [.int .i64 0,.int .i64 0],none⟩] [0,3]) c8_39
abbrev c8:AC:=c8_40
theorem c8_ok:compileFn Tryz.prog 8 = some (82,AC.strip c8,[.t 2,.c 3 2 true]):=by kernel_rfl
abbrev c16_0:AC:=.seq (.ops 0 [⟨some 2,.as 0 0 (.k (.lf (.int .i64 0))),none⟩] [2]) .ret
abbrev c16_1:AC:=.seq (.ops 0 [⟨some 13,.mv (.t 0),none⟩,⟨some 14,.nc (.t 13),none⟩,⟨some 15,.fa (.t 14) 2,none⟩,⟨none,.st (.t 15) (.k (.lf (.bool true))) 1,none⟩] []) c16_0
abbrev c16_2:AC:=.cond (.t 12) c16_1 .skip
abbrev c16_3:AC:=.seq (.ops 2 [⟨some 3,.mv (.t 0),none⟩,⟨some 4,.nc (.t 3),none⟩,⟨some 5,.fa (.t 4) 1,none⟩,⟨some 6,.ld (.t 5) 1 false,none⟩,⟨some 7,.mv (.t 0),none⟩,⟨some 8,.nc (.t 7),none⟩,⟨some 9,.fa (.t 8) 0,none⟩,⟨some 10,.ld (.t 9) 1 false,none⟩,⟨some 11,.lns (.t 10),none⟩,⟨some 12,.bin .geq (.t 6) (.t 11),none⟩] [0,12]) c16_2
abbrev c16_4:AC:=.seq (.ops 1 [⟨some 23,.mv (.t 0),none⟩,⟨some 24,.nc (.t 23),none⟩,⟨some 25,.fa (.t 24) 0,none⟩,⟨some 26,.ld (.t 25) 1 false,none⟩,⟨some 27,.mv (.t 0),none⟩,⟨some 28,.nc (.t 27),none⟩,⟨some 29,.fa (.t 28) 1,none⟩,⟨some 30,.ld (.t 29) 1 false,none⟩,⟨some 31,.bin .sub (.t 30) (.k (.lf (.int .i64 1))),none⟩,⟨some 32,.ixs (.t 26) (.t 31),none⟩,⟨some 33,.cvi .i64 (.t 32),none⟩,⟨some 2,.as 0 0 (.t 33),none⟩] [2]) .ret
abbrev c16_5:AC:=.seq (.ops 0 [⟨some 16,.mv (.t 0),none⟩,⟨some 17,.nc (.t 16),none⟩,⟨some 18,.fa (.t 17) 1,none⟩,⟨some 19,.ld (.t 18) 1 false,none⟩,⟨some 20,.bin .add (.t 19) (.k (.lf (.int .i64 1))),none⟩,⟨some 21,.nc (.t 16),none⟩,⟨some 22,.fa (.t 21) 1,none⟩,⟨none,.st (.t 22) (.t 20) 1,none⟩] [0]) c16_4
abbrev c16_6:AC:=.seq c16_3 c16_5
abbrev c16_7:AC:=.seq (.ops 0 [⟨some 2,.as 0 0 (.k (.lf (.int .i64 0))),none⟩] [0]) c16_6
abbrev c16:AC:=c16_7
theorem c16_ok:compileFn Tryz.prog 16 = some (34,AC.strip c16,[.t 2]):=by kernel_rfl
abbrev c17_0:AC:=.seq (.ops 0 [⟨some 12,.mv (.t 0),none⟩,⟨some 13,.callp 16 0 [(.t 12)],none⟩,⟨some 6,.as 0 0 (.t 13),none⟩] [0,1,4,5,6]) (.ops 0 [⟨some 14,.mv (.t 6),none⟩,⟨some 15,.bin .shl (.t 14) (.k (.lf (.int .u64 8))),none⟩,⟨some 16,.mv (.t 0),none⟩,⟨some 17,.callp 16 0 [(.t 16)],none⟩,⟨some 18,.bin .or (.t 15) (.t 17),none⟩,⟨some 19,.cvi .i16 (.t 18),none⟩,⟨some 20,.cvi .i64 (.t 19),none⟩,⟨some 21,.fa (.t 5) 1,none⟩,⟨none,.st (.t 21) (.t 20) 1,none⟩] [0,1,4,5])
abbrev c17_1:AC:=.cond (.t 11) c17_0 .skip
abbrev c17_2:AC:=.seq (.ops 0 [⟨some 10,.mv (.t 1),none⟩,⟨some 11,.call 15 [(.t 10),(.k (.lf (.int .i64 1)))],none⟩] [0,1,4,5,11]) c17_1
abbrev c17_3:AC:=.cond (.t 23) (.ops 0 [⟨some 24,.mv (.t 0),none⟩,⟨some 25,.callp 16 0 [(.t 24)],none⟩,⟨some 26,.fa (.t 5) 2,none⟩,⟨none,.st (.t 26) (.t 25) 1,none⟩] [0,1,4,5]) .skip
abbrev c17_4:AC:=.seq (.ops 0 [⟨some 22,.mv (.t 1),none⟩,⟨some 23,.call 15 [(.t 22),(.k (.lf (.int .i64 2)))],none⟩] [0,1,4,5,23]) c17_3
abbrev c17_5:AC:=.cond (.t 28) (.ops 0 [⟨some 29,.mv (.t 0),none⟩,⟨some 30,.callp 16 0 [(.t 29)],none⟩,⟨some 31,.fa (.t 5) 3,none⟩,⟨none,.st (.t 31) (.t 30) 1,none⟩] [0,1,4,5]) .skip
abbrev c17_6:AC:=.seq (.ops 0 [⟨some 27,.mv (.t 1),none⟩,⟨some 28,.call 15 [(.t 27),(.k (.lf (.int .i64 4)))],none⟩] [0,1,4,5,28]) c17_5
abbrev c17_7:AC:=.cond (.t 33) (.ops 0 [⟨some 34,.mv (.t 0),none⟩,⟨some 35,.mv (.t 0),none⟩,⟨some 36,.callp 16 0 [(.t 35)],none⟩,⟨some 37,.callp 28 0 [(.t 34),(.t 36)],none⟩,⟨some 38,.fa (.t 5) 4,none⟩,⟨none,.st (.t 38) (.t 37) 1,none⟩] [0,1,4,5]) .skip
abbrev c17_8:AC:=.seq (.ops 0 [⟨some 32,.mv (.t 1),none⟩,⟨some 33,.call 15 [(.t 32),(.k (.lf (.int .i64 8)))],none⟩] [0,1,4,5,33]) c17_7
abbrev c17_9:AC:=.cond (.t 42) .skip (.exit 0)
abbrev c17_10:AC:=.seq (.ops 0 [⟨some 43,.mv (.t 41),none⟩,⟨some 7,.as 0 0 (.t 43),none⟩] [0,4,5,7,41]) (.drw (.t 0) [⟨some 44,.mv (.t 7),none⟩,⟨some 45,.bin .quo (.t 44) (.k (.lf (.int .i64 8))),none⟩,⟨some 46,.fa (.t 5) 5,none⟩,⟨some 47,.iaa (.t 46) (.t 45) 4 1,none⟩,⟨some 48,.ld (.t 47) 1 false,none⟩,⟨some 49,.mv (.t 0),none⟩,⟨some 52,.mv (.t 7),none⟩,⟨some 53,.bin .rem (.t 52) (.k (.lf (.int .i64 8))),none⟩,⟨some 54,.bin .mul (.t 53) (.k (.lf (.int .i64 8))),none⟩,⟨some 57,.fa (.t 5) 5,none⟩] [⟨some 50,.callp 16 0 [(.t 49)],none⟩,⟨some 51,.cvi .u64 (.t 50),none⟩,⟨some 55,.bin .shl (.t 51) (.t 54),none⟩,⟨some 56,.bin .or (.t 48) (.t 55),none⟩,⟨some 58,.iaa (.t 57) (.t 45) 4 1,none⟩,⟨none,.st (.t 58) (.t 56) 1,none⟩] [0,4,5,41])
abbrev c17_11:AC:=.block 1 c17_10
abbrev c17_12:AC:=.seq c17_11 (.ops 0 [⟨some 59,.bin .add (.t 41) (.k (.lf (.int .i64 1))),none⟩,⟨some 41,.mv (.t 59),none⟩] [0,4,5,41])
abbrev c17_13:AC:=.seq c17_9 c17_12
abbrev c17_14:AC:=.seq (.ops 0 [⟨some 42,.bin .lss (.t 41) (.k (.lf (.int .i64 32))),none⟩] [0,4,5,41,42]) c17_13
abbrev c17_15:AC:=.loop c17_14 [0,4,5,41]
abbrev c17_16:AC:=.block 0 c17_15
abbrev c17_17:AC:=.seq (.ops 0 [⟨some 41,.mv (.k (.lf (.int .i64 0))),none⟩] [0,4,5,41]) c17_16
abbrev c17_18:AC:=.cond (.t 40) c17_17 .skip
abbrev c17_19:AC:=.seq (.ops 0 [⟨some 39,.mv (.t 1),none⟩,⟨some 40,.call 15 [(.t 39),(.k (.lf (.int .i64 16)))],none⟩] [0,4,5,40]) c17_18
abbrev c17_20:AC:=.seq (.ops 0 [⟨some 60,.ld (.t 5) 9 true,none⟩,⟨none,.st (.t 4) (.t 60) 9,none⟩] [4]) .ret
abbrev c17_21:AC:=.seq c17_19 c17_20
abbrev c17_22:AC:=.seq c17_8 c17_21
abbrev c17_23:AC:=.seq c17_6 c17_22
abbrev c17_24:AC:=.seq c17_4 c17_23
abbrev c17_25:AC:=.seq c17_2 c17_24
abbrev c17_26:AC:=.seq (.ops 0 [⟨some 8,.mv (.t 1),none⟩,⟨some 9,.bd [.int .i64 0,.int .i64 0,.int .i64 0,.int .i64 0,.str ⟨#[]⟩,.int .u64 0,.int .u64 0,.int .u64 0,.int .u64 0] [(0,1,(.t 8))],none⟩,⟨some 5,.al [.int .i64 0,.int .i64 0,.int .i64 0,.int .i64 0,.str ⟨#[]⟩,.int .u64 0,.int .u64 0,.int .u64 0,.int .u64 0],none⟩,⟨none,.st (.t 5) (.t 9) 9,none⟩] [0,1,4,5]) c17_25
abbrev c17_27:AC:=.seq (.ops 0 [⟨some 4,.al [.int .i64 0,.int .i64 0,.int .i64 0,.int .i64 0,.str ⟨#[]⟩,.int .u64 0,.int .u64 0,.int .u64 0,.int .u64 0],none⟩] [0,1,4]) c17_26
abbrev c17:AC:=c17_27
theorem c17_ok:compileFn Tryz.prog 17 = some (61,AC.strip c17,[.c 4 9 true]):=by kernel_rfl
abbrev c18_0:AC:=.seq (.ops 0 [⟨some 16,.mv (.t 0),none⟩,⟨some 17,.bd [.int .i64 0,.int .i64 0] [],none⟩,⟨some 4,.as 42 9 (.t 16),none⟩,⟨none,.st (.t 5) (.t 17) 2,none⟩] [4,5]) .ret
abbrev c18_1:AC:=.cond (.t 18) .skip (.ops 0 [⟨some 20,.bin .eql (.t 13) (.k (.lf (.int .i64 3))),none⟩,⟨some 18,.as 0 0 (.t 20),none⟩] [1,5,6,7,18])
abbrev c18_2:AC:=.seq (.ops 0 [⟨some 19,.bin .eql (.t 13) (.k (.lf (.int .i64 2))),none⟩,⟨some 18,.as 0 0 (.t 19),none⟩] [1,5,6,7,13,18]) c18_1
abbrev c18_3:AC:=.seq (.ops 0 [⟨some 21,.mv (.t 7),none⟩,⟨some 22,.bd [.int .i64 0,.int .i64 0] [(1,1,(.t 21))],none⟩,⟨some 4,.as 42 9 (.k (.lf (.lst .nl 9 [] []))),none⟩,⟨none,.st (.t 5) (.t 22) 2,none⟩] [4,5]) .ret
abbrev c18_4:AC:=.cond (.t 18) c18_3 .skip
abbrev c18_5:AC:=.seq c18_2 c18_4
abbrev c18_6:AC:=.cond (.t 14) c18_0 c18_5
abbrev c18_7:AC:=.seq (.ops 0 [⟨some 15,.bin .eql (.t 13) (.k (.lf (.int .i64 0))),none⟩,⟨some 14,.as 0 0 (.t 15),none⟩] [0,1,5,6,7,13,14]) c18_6
abbrev c18_8:AC:=.block 0 c18_7
abbrev c18_9:AC:=.seq (.ops 0 [⟨some 13,.mv (.t 7),none⟩] [0,1,5,6,7,13]) c18_8
abbrev c18_10:AC:=.seq (.ops 1 [⟨some 23,.mv (.t 1),none⟩,⟨some 24,.mv (.t 6),none⟩,⟨some 25,.ia (.t 23) (.t 24) 1,none⟩,⟨some 26,.ld (.t 25) 1 false,none⟩,⟨some 27,.mv (.t 7),none⟩,⟨some 28,.bd [.int .i64 0,.int .i64 0] [(0,1,(.t 26)),(1,1,(.t 27))],none⟩,⟨some 4,.as 42 9 (.k (.lf (.lst .nl 9 [] []))),none⟩,⟨none,.st (.t 5) (.t 28) 2,none⟩] [4,5]) .ret
abbrev c18_11:AC:=.seq c18_9 c18_10
abbrev c18_12:AC:=.seq (.ops 0 [⟨some 9,.mv (.t 0),none⟩,⟨some 10,.call 6 [(.t 9)],none⟩,⟨some 8,.mv (.t 10),none⟩,⟨some 11,.ext (.t 8) 0,none⟩,⟨some 12,.ext (.t 8) 1,none⟩,⟨some 6,.as 0 0 (.t 11),none⟩,⟨some 7,.as 0 0 (.t 12),none⟩] [0,1,5,6,7]) c18_11
abbrev c18_13:AC:=.seq (.ops 0 [⟨some 4,.as 42 9 (.k (.lf (.lst .nl 9 [] []))),none⟩,⟨some 5,.al [.int .i64 0,.int .i64 0],none⟩] [0,1,5]) c18_12
abbrev c18:AC:=c18_13
theorem c18_ok:compileFn Tryz.prog 18 = some (29,AC.strip c18,[.t 4,.c 5 2 true]):=by kernel_rfl
abbrev c28_0:AC:=.seq (.ops 0 [⟨some 4,.as 0 0 (.k (.lf (.str ⟨#[]⟩))),none⟩] [4]) .ret
abbrev c28_1:AC:=.seq (.ops 0 [⟨some 17,.mv (.t 0),none⟩,⟨some 18,.nc (.t 17),none⟩,⟨some 19,.fa (.t 18) 2,none⟩,⟨none,.st (.t 19) (.k (.lf (.bool true))) 1,none⟩] []) c28_0
abbrev c28_2:AC:=.cond (.t 16) c28_1 .skip
abbrev c28_3:AC:=.seq (.ops 2 [⟨some 5,.mv (.t 1),none⟩,⟨some 6,.mv (.t 0),none⟩,⟨some 7,.nc (.t 6),none⟩,⟨some 8,.fa (.t 7) 0,none⟩,⟨some 9,.ld (.t 8) 1 false,none⟩,⟨some 10,.lns (.t 9),none⟩,⟨some 11,.mv (.t 0),none⟩,⟨some 12,.nc (.t 11),none⟩,⟨some 13,.fa (.t 12) 1,none⟩,⟨some 14,.ld (.t 13) 1 false,none⟩,⟨some 15,.bin .sub (.t 10) (.t 14),none⟩,⟨some 16,.bin .gtr (.t 5) (.t 15),none⟩] [0,1,16]) c28_2
abbrev c28_4:AC:=.seq (.ops 1 [⟨some 28,.mv (.t 0),none⟩,⟨some 29,.nc (.t 28),none⟩,⟨some 30,.fa (.t 29) 0,none⟩,⟨some 31,.ld (.t 30) 1 false,none⟩,⟨some 32,.mv (.t 0),none⟩,⟨some 33,.nc (.t 32),none⟩,⟨some 34,.fa (.t 33) 1,none⟩,⟨some 35,.ld (.t 34) 1 false,none⟩,⟨some 36,.mv (.t 1),none⟩,⟨some 37,.bin .sub (.t 35) (.t 36),none⟩,⟨some 38,.mv (.t 0),none⟩,⟨some 39,.nc (.t 38),none⟩,⟨some 40,.fa (.t 39) 1,none⟩,⟨some 41,.ld (.t 40) 1 false,none⟩,⟨some 42,.sls (.t 31) (some (.t 37)) (some (.t 41)),none⟩,⟨some 4,.as 0 0 (.t 42),none⟩] [4]) .ret
abbrev c28_5:AC:=.seq (.ops 0 [⟨some 20,.mv (.t 0),none⟩,⟨some 21,.nc (.t 20),none⟩,⟨some 22,.fa (.t 21) 1,none⟩,⟨some 23,.ld (.t 22) 1 false,none⟩,⟨some 24,.mv (.t 1),none⟩,⟨some 25,.bin .add (.t 23) (.t 24),none⟩,⟨some 26,.nc (.t 20),none⟩,⟨some 27,.fa (.t 26) 1,none⟩,⟨none,.st (.t 27) (.t 25) 1,none⟩] [0,1]) c28_4
abbrev c28_6:AC:=.seq c28_3 c28_5
abbrev c28_7:AC:=.seq (.ops 0 [⟨some 4,.as 0 0 (.k (.lf (.str ⟨#[]⟩))),none⟩] [0,1]) c28_6
abbrev c28:AC:=c28_7
theorem c28_ok:compileFn Tryz.prog 28 = some (43,AC.strip c28,[.t 4]):=by kernel_rfl
end Go.Proofs.YthcpaohmajjopaaGreatDoor.I
set_option linter.unusedVariables false
set_option linter.unusedSimpArgs false
namespace Go.Proofs.YthcpaohmajjopaaGreatDoor.I
open Go Go.Proofs.YthcpaohmajjopaaGreatDoor.AM
variable {X:Cx}
abbrev srcL (b:ByteArray) (at':Nat) (sh:Bool):List L:=[.str b,.int .i64 at',.bool sh]
theorem r16a (b:ByteArray) (p:Nat) (sh:Bool) (hp:p < b.size) (hb:b.size ≤ 140737488351232):R X Tryz.prog 16 [.lf (.ptr 0 0)] [srcL b p sh] (.lf (.int .i64 (byteAt b (p:Int)))) [srcL b (p + 1) sh]:=by
 have w1:IntKind.i64.wrap ((p:Int) + 1) = ((p + 1:Nat):Int):=by rw [w64 (by omega) (by omega)];omega
 have w2:IntKind.i64.wrap (((p + 1:Nat):Int) - 1) = (p:Int):=by rw [w64 (by omega) (by omega)];omega
 have w3:IntKind.i64.wrap (byteAt b (p:Int)) = byteAt b (p:Int):=w64 (by have:=byteAt_0 b p;omega) (by have:=byteAt_1 b p;omega)
 refine R_i [] [] c16_ok rfl (by simp) ?_
 simp -implicitDefEqProofs (maxSteps:=2000000) only [c16,w1,w2,w3,↓reduceIte,S0,St.init,enum,Nat.reduceEqDiff,Nat.reduceAdd,reduceCtorEq,PV.cells,cellL,fillL,Nat.reduceLeDiff]
 with_reducible refine ite_pr (fun h=>?_) (fun h=>?_)
 ·omega
 exact ⟨by omega,by omega⟩
theorem r16b (b:ByteArray) (p:Nat) (sh:Bool) (hp:b.size ≤ p):R X Tryz.prog 16 [.lf (.ptr 0 0)] [srcL b p sh] (.lf (.int .i64 0)) [srcL b p true]:=by
 refine R_i [] [] c16_ok rfl (by simp) ?_
 simp -implicitDefEqProofs (maxSteps:=2000000) only [c16,↓reduceIte,S0,St.init,enum,Nat.reduceEqDiff,Nat.reduceAdd,reduceCtorEq,PV.cells,cellL,fillL,Nat.reduceLeDiff]
 with_reducible refine ite_pr (fun h=>?_) (fun h=>?_)
 ·trivial
 ·omega
theorem r28a (b:ByteArray) (p n:Nat) (sh:Bool) (hp:p + n ≤ b.size) (hb:b.size ≤ 140737488351232):R X Tryz.prog 28 [.lf (.ptr 0 0),.lf (.int .i64 n)] [srcL b p sh] (.lf (.str (b.extract p (p + n)))) [srcL b (p + n) sh]:=by
 have w1:IntKind.i64.wrap ((p:Int) + (n:Int)) = ((p + n:Nat):Int):=by rw [w64 (by omega) (by omega)];omega
 have w2:IntKind.i64.wrap (((p + n:Nat):Int) - (n:Int)) = (p:Int):=by rw [w64 (by omega) (by omega)];omega
 have w3:IntKind.i64.wrap ((b.size:Int) - (p:Int)) = (b.size:Int) - (p:Int):=w64 (by omega) (by omega)
 refine R_i [] [] c28_ok rfl (by simp) ?_
 simp -implicitDefEqProofs (maxSteps:=2000000) only [c28,w1,w2,w3,↓reduceIte,S0,St.init,enum,Nat.reduceEqDiff,Nat.reduceAdd,reduceCtorEq,PV.cells,cellL,fillL,Nat.reduceLeDiff]
 with_reducible refine ite_pr (fun h=>?_) (fun h=>?_)
 ·omega
 exact ⟨⟨by omega,by omega,by omega⟩,rfl⟩
theorem r28b (b:ByteArray) (p n:Nat) (sh:Bool) (hp:b.size < p + n) (h2:p ≤ b.size) (hn:n ≤ 140737488351232) (hb:b.size ≤ 140737488351232):R X Tryz.prog 28 [.lf (.ptr 0 0),.lf (.int .i64 n)] [srcL b p sh] (.lf (.str ⟨#[]⟩)) [srcL b p true]:=by
 have w3:IntKind.i64.wrap ((b.size:Int) - (p:Int)) = (b.size:Int) - (p:Int):=w64 (by omega) (by omega)
 refine R_i [] [] c28_ok rfl (by simp) ?_
 simp -implicitDefEqProofs (maxSteps:=2000000) only [c28,w3,↓reduceIte,S0,St.init,enum,Nat.reduceEqDiff,Nat.reduceAdd,reduceCtorEq,PV.cells,cellL,fillL,Nat.reduceLeDiff]
 with_reducible refine ite_pr (fun h=>?_) (fun h=>?_)
 ·trivial
 ·omega
end Go.Proofs.YthcpaohmajjopaaGreatDoor.I
set_option linter.unusedVariables false
set_option linter.unusedSimpArgs false
namespace Go.Proofs.YthcpaohmajjopaaGreatDoor.I
open Go Go.Proofs.YthcpaohmajjopaaGreatDoor.AM
variable {X:Cx}
def chkAns (code:List Ins) (pl:List Int):List Ins × Int × Int :=
 let r:=chk capX code
 if r.2 = 0 then (code,0,0) else if r.2 = 2 ∨ r.2 = 3 then ([],0,r.2) else ([],pl.getD r.1.toNat 0,r.2)
theorem chkGo_range (c:Ins → Bool) (len:Nat):∀ (q:List Ins) (i:Nat) (p:Int × Int),chkGo c len i q = some p → (i:Int) ≤ p.1 ∧ p.1 < (i:Int) + q.length
 | [],i,p,h=>by simp [chkGo] at h
 | x :: q,i,p,h=>by
  simp only [chkGo] at h
  split at h
  ·have:=chkGo_range c len q (i + 1) p h
   simp only [List.length_cons]
   omega
  ·obtain rfl:=Option.some.inj h
   simp only [List.length_cons]
   omega
theorem chk_range (c:Ins → Bool) (code:List Ins) (h0:(chk c code).2 ≠ 0) (h2:(chk c code).2 ≠ 2) (h3:(chk c code).2 ≠ 3):0 ≤ (chk c code).1 ∧ (chk c code).1 < code.length:=by
 unfold chk at *
 split at h2
 ·simp at h2
 ·rename_i hn
  rw [if_neg hn] at *
  split at h3
  ·simp at h3
  ·rename_i hz
   rw [if_neg hz] at *
   cases hg:chkGo c code.length 0 code with
   | none =>
    rw [hg] at h0
    simp only [Option.getD_none,chkEnd] at h0 ⊢
    split
    ·simp only;omega
    ·rename_i hh;rw [if_neg hh] at h0;simp at h0
   | some p =>
    have:=chkGo_range c code.length code 0 p hg
    simp only [Option.getD_some]
    omega
theorem r18 (hX:X.G 0 = some usesL) (code:List Ins) (pl:List Int) (hp:pl.length = code.length) (sp sp':List (List L)) :
  R X Tryz.prog 18 [.lf (.lst .ro 9 (code.map Ins.c) sp),.lf (.lst .ro 1 (pl.map fun n=>[.int .i64 n]) sp')] []
   (.tp [.lf (.lst .ro 9 ((chkAns code pl).1.map Ins.c) []),.ag [.int .i64 (chkAns code pl).2.1,.int .i64 (chkAns code pl).2.2]]) []:=by
 have h28:=r6x hX code sp
 have hrg:=chk_range capX code
 generalize hA:chkAns code pl = A
 simp only [chkAns] at hA
 refine R_i [] [512] c18_ok rfl (by simp) ?_
 generalize chk capX code = r at *
 simp -implicitDefEqProofs (maxSteps:=2000000) only [c18,↓reduceIte,S0,St.init,enum,Nat.reduceEqDiff,reduceCtorEq,PV.leaves,Nat.reduceMul,plT]
 refine wcall_s h28 rfl rfl ?_
 simp -implicitDefEqProofs (maxSteps:=2000000) only [c18,↓reduceIte,S0,v_ld_m,Nat.reduceEqDiff,Nat.reduceAdd,reduceCtorEq,St.clr,outV,ownsV,owns1,ownL,PV.cells,cellL,fillL,Nat.reduceMul,Nat.reduceLeDiff,plT,ne_eq,true_or]
 iterate 3 (all_goals try (with_reducible refine ite_pr (fun _=>?_) (fun _=>?_)))
 all_goals try contradiction
 ·rw [if_pos (by assumption)] at hA
  subst hA
  exact ⟨rfl,rfl,rfl⟩
 ·rw [if_neg (by assumption),if_pos (by omega)] at hA
  subst hA
  exact ⟨⟨rfl,rfl⟩,rfl,rfl⟩
 ·rw [if_neg (by assumption),if_pos (by omega)] at hA
  subst hA
  exact ⟨⟨rfl,rfl⟩,rfl,rfl⟩
 ·rw [if_neg (by assumption),if_neg (by omega)] at hA
  subst hA
  have:=hrg (by assumption) (by assumption) (by assumption)
  refine ⟨⟨by omega,by simp;omega⟩,by omega,?_⟩
  exact ⟨rfl,rfl,rfl⟩
end Go.Proofs.YthcpaohmajjopaaGreatDoor.I
set_option linter.unusedVariables false
set_option linter.unusedSimpArgs false
namespace Go.Proofs.YthcpaohmajjopaaGreatDoor.I
open Go Go.Proofs.YthcpaohmajjopaaGreatDoor.AM
variable {X:Cx}
def twoF (b:ByteArray) (p:Nat):Int:=if 32768 ≤ byteAt b (p:Int) * 256 + byteAt b ((p:Int) + 1) then byteAt b (p:Int) * 256 + byteAt b ((p:Int) + 1) - 65536 else byteAt b (p:Int) * 256 + byteAt b ((p:Int) + 1)
def orB (s:Int) (k:Nat):Int:=bits .or .u64 s (IntKind.u64.wrap (1 * 2 ^ min ((k:Int).tmod 64).toNat IntKind.u64.bits))
def withAt (q:Nat) (s:Int) (k:Nat):Int:=if k / 64 = q then orB s k else s
end Go.Proofs.YthcpaohmajjopaaGreatDoor.I
set_option linter.unusedVariables false
set_option linter.unusedSimpArgs false
namespace Go.Proofs.YthcpaohmajjopaaGreatDoor.I
open Go Go.Proofs.YthcpaohmajjopaaGreatDoor.AM
variable {X:Cx}
def nxV (b:ByteArray) (p:Nat):Int:=if p < b.size then byteAt b (p:Int) else 0
def nxP (b:ByteArray) (p:Nat):Nat:=if p < b.size then p + 1 else p
def nxS (b:ByteArray) (p:Nat) (sh:Bool):Bool:=if p < b.size then sh else true
theorem r16 (b:ByteArray) (p:Nat) (sh:Bool) (hb:b.size ≤ 140737488351232):R X Tryz.prog 16 [.lf (.ptr 0 0)] [srcL b p sh] (.lf (.int .i64 (nxV b p))) [srcL b (nxP b p) (nxS b p sh)]:=by
 unfold nxV nxP nxS
 by_cases h:p < b.size
 ·simp only [if_pos h];exact r16a b p sh h hb
 ·simp only [if_neg h];exact r16b b p sh (by omega)
theorem nxP_le {b:ByteArray} {p:Nat} (h:p ≤ b.size):nxP b p ≤ b.size:=by unfold nxP;split<;>omega
theorem nxV_0 (b:ByteArray) (p:Nat):0 ≤ nxV b p:=by unfold nxV;split;exact byteAt_0 b p;omega
theorem nxV_1 (b:ByteArray) (p:Nat):nxV b p ≤ 255:=by unfold nxV;split;exact byteAt_1 b p;omega
def txT (b:ByteArray) (p n:Nat):ByteArray:=if p + n ≤ b.size then b.extract p (p + n) else ⟨#[]⟩
def txP (b:ByteArray) (p n:Nat):Nat:=if p + n ≤ b.size then p + n else p
def txS (b:ByteArray) (p n:Nat) (sh:Bool):Bool:=if p + n ≤ b.size then sh else true
theorem r28 (b:ByteArray) (p n:Nat) (sh:Bool) (hp:p ≤ b.size) (hn:n ≤ 140737488351232) (hb:b.size ≤ 140737488351232):R X Tryz.prog 28 [.lf (.ptr 0 0),.lf (.int .i64 n)] [srcL b p sh] (.lf (.str (txT b p n))) [srcL b (txP b p n) (txS b p n sh)]:=by
 unfold txT txP txS
 by_cases h:p + n ≤ b.size
 ·simp only [if_pos h];exact r28a b p n sh h hb
 ·simp only [if_neg h];exact r28b b p n sh (by omega) hp hn hb
theorem txP_le {b:ByteArray} {p n:Nat} (h:p ≤ b.size):txP b p n ≤ b.size:=by unfold txP;split<;>omega
theorem r28' (b:ByteArray) (q p:Nat) (sh:Bool) (hp:p ≤ b.size) (hb:b.size ≤ 140737488351232):R X Tryz.prog 28 [.lf (.ptr 0 0),.lf (.int .i64 (nxV b q))] [srcL b p sh] (.lf (.str (txT b p (nxV b q).toNat))) [srcL b (txP b p (nxV b q).toNat) (txS b p (nxV b q).toNat sh)]:=by
 have:=r28 (X:=X) b p (nxV b q).toNat sh hp (by have:=nxV_1 b q;omega) hb
 rwa [Int.toNat_of_nonneg (nxV_0 b q)] at this
def ai16 (h l:Int):Int:=IntKind.i64.wrap (IntKind.i16.wrap (bits .or .i64 (IntKind.i64.wrap (h * 2 ^ min (Int.toNat 8) IntKind.i64.bits)) l))
def gA (f:Bool) (b:ByteArray) (p:Nat) (sh:Bool):Int × Nat × Bool:=if f then (ai16 (nxV b p) (nxV b (nxP b p)),nxP b (nxP b p),nxS b (nxP b p) (nxS b p sh)) else (0,p,sh)
def gB (f:Bool) (b:ByteArray) (p:Nat) (sh:Bool):Int × Nat × Bool:=if f then (nxV b p,nxP b p,nxS b p sh) else (0,p,sh)
def gT (f:Bool) (b:ByteArray) (p:Nat) (sh:Bool):ByteArray × Nat × Bool:=if f then (txT b (nxP b p) (nxV b p).toNat,txP b (nxP b p) (nxV b p).toNat,txS b (nxP b p) (nxV b p).toNat (nxS b p sh)) else (⟨#[]⟩,p,sh)
def setV (s v:Int) (k:Nat):Int:=bits .or .u64 s (IntKind.u64.wrap (IntKind.u64.wrap v * 2 ^ min (IntKind.i64.wrap (((k:Int).tmod 8) * 8)).toNat IntKind.u64.bits))
def setAt (q:Nat) (s v:Int) (k:Nat):Int:=if k / 8 = q then setV s v k else s
def gS (b:ByteArray):Nat → Nat → Nat → Bool → Int → Int → Int → Int → (Int × Int × Int × Int) × Nat × Bool
 | 0,_,p,sh,s0,s1,s2,s3=>((s0,s1,s2,s3),p,sh)
 | m + 1,k,p,sh,s0,s1,s2,s3=>gS b m (k + 1) (nxP b p) (nxS b p sh) (setAt 0 s0 (nxV b p) k) (setAt 1 s1 (nxV b p) k) (setAt 2 s2 (nxV b p) k) (setAt 3 s3 (nxV b p) k)
def gSet (f:Bool) (b:ByteArray) (p:Nat) (sh:Bool):(Int × Int × Int × Int) × Nat × Bool:=if f then gS b 32 0 p sh 0 0 0 0 else ((0,0,0,0),p,sh)
def insR (fa fb fn ft fs:Bool) (op:Int) (b:ByteArray) (p:Nat) (sh:Bool):Ins × Nat × Bool :=
 let A:=gA fa b p sh
 let B:=gB fb b A.2.1 A.2.2
 let N:=gB fn b B.2.1 B.2.2
 let T:=gT ft b N.2.1 N.2.2
 let S:=gSet fs b T.2.1 T.2.2
 (⟨op,A.1,B.1,N.1,T.1,S.1.1,S.1.2.1,S.1.2.2.1,S.1.2.2.2⟩,S.2.1,S.2.2)
theorem r17 (hX:X.G 0 = some usesL) (b:ByteArray) (p:Nat) (sh:Bool) (hb:b.size ≤ 140737488351232) (hp:p ≤ b.size) (k:Nat) (hk:k < 21) (r:Ins × Nat × Bool)
  (hr:insR (hasB k 1) (hasB k 2) (hasB k 4) (hasB k 8) (hasB k 16) k b p sh = r):R X Tryz.prog 17 [.lf (.ptr 0 0),.lf (.int .i64 k)] [srcL b p sh] (.ag r.1.c) [srcL b r.2.1 r.2.2]:=by
 have h1:=r15 hX k hk 1
 have h2:=r15 hX k hk 2
 have h4:=r15 hX k hk 4
 have h8:=r15 hX k hk 8
 have h16:=r15 hX k hk 16
 have key:∀ (m j:Nat) (p:Nat) (sh:Bool) (op a b' n:Int) (t:ByteArray) (s0 s1 s2 s3:Int),j + m = 32 → (⟨op,a,b',n,t,(gS b m j p sh s0 s1 s2 s3).1.1,(gS b m j p sh s0 s1 s2 s3).1.2.1,(gS b m j p sh s0 s1 s2 s3).1.2.2.1,(gS b m j p sh s0 s1 s2 s3).1.2.2.2⟩,(gS b m j p sh s0 s1 s2 s3).2) = r →
   LoopAt X Tryz.prog c17_14 [0,4,5,41] (blkK 0 (seqK X Tryz.prog c17_20 (retS [] [] 1 [RV.c 4 9 true] (PV.ag r.1.c) [srcL b r.2.1 r.2.2])))
    {m:=1,tm:=[(0,PV.lf (L.ptr 0 0)),(4,PV.lf (L.ptr 4 0)),(5,PV.lf (L.ptr 5 0)),(41,PV.lf (L.int IntKind.i64 (j:Int)))],
     ce:=[(0,[L.str b,L.int IntKind.i64 (p:Int),L.bool sh]),(0,[L.str b,L.int IntKind.i64 (p:Int),L.bool sh]),(4,[L.int .i64 0,L.int .i64 0,L.int .i64 0,L.int .i64 0,L.str ⟨#[]⟩,L.int .u64 0,L.int .u64 0,L.int .u64 0,L.int .u64 0]),(5,[L.int .i64 op,L.int .i64 a,L.int .i64 b',L.int .i64 n,L.str t,L.int .u64 s0,L.int .u64 s1,L.int .u64 s2,L.int .u64 s3])] }:=by
  intro m
  induction m with
  | zero =>
   intro j p sh op a b' n t s0 s1 s2 s3 hj hr
   obtain rfl:j = 32:=by omega
   subst hr
   intro Z hZ;apply hZ
   have hnl:¬ ((32:Nat):Int) < 32:=by omega
   simp -implicitDefEqProofs (maxSteps:=2000000) only [c17,Ins.c,gS,hnl,↓reduceIte,S0,Nat.reduceEqDiff,Nat.reduceAdd,reduceCtorEq,PV.cells,cellL,fillL]
  | succ m ih =>
   intro j p sh op a b' n t s0 s1 s2 s3 hj hr
   intro Z hZ;apply hZ
   have hw:IntKind.i64.wrap ((j:Int) + 1) = ((j + 1:Nat):Int):=by rw [w64 (by omega) (by omega)];omega
   have hlt:(j:Int) < 32:=by omega
   have hq:∃ q:Nat,q < 4 ∧ IntKind.i64.wrap ((j:Int).tdiv 8) = (q:Int) ∧ j / 8 = q:=⟨j / 8,by omega,by rw [w64]<;>simp [Int.tdiv_eq_ediv_of_nonneg]<;>omega,rfl⟩
   obtain ⟨q,hq4,e1,e2⟩:=hq
   have h30:=r16 (X:=X) b p sh hb
   simp only [gS,setAt,e2] at hr
   rcases (show q = 0 ∨ q = 1 ∨ q = 2 ∨ q = 3 by omega) with rfl | rfl | rfl | rfl
   all_goals
    simp -implicitDefEqProofs (maxSteps:=2000000) only [c17,hlt,hw,e1,Int.toNat_natCast,Nat.reduceMul,Nat.reduceAdd,Nat.mul_one,List.getElem?_cons_zero,List.getElem?_cons_succ,↓reduceIte,S0,Nat.reduceEqDiff,Nat.reduceAdd,reduceCtorEq,PV.leaves,ne_eq,s_drw,s_drwc,s_drwK,s_drwM,s_kn,s_kc,s_kK,s_drwE,ct_st,cA_0,dK_p,nP_p]
    refine ⟨by decide,⟨by decide,by decide⟩,by decide,?_⟩
    refine pcall_i h30 rfl rfl ?_
    simp -implicitDefEqProofs (maxSteps:=2000000) only [c17,hlt,hw,e1,Int.toNat_natCast,Nat.reduceMul,Nat.reduceAdd,Nat.mul_one,List.getElem?_cons_zero,List.getElem?_cons_succ,↓reduceIte,S0,Nat.reduceEqDiff,Nat.reduceAdd,reduceCtorEq,outV,ownsV,owns1,ownL,PV.cells,cellL,fillL,Nat.reduceLeDiff,s_drwL]
    refine ⟨by rw [w64 (by have:=Int.tmod_nonneg (b:=8) (show (0:Int) ≤ (j:Int) by omega);omega) (by have:=Int.tmod_lt_of_pos (j:Int) (show (0:Int) < 8 by omega);omega)];have:=Int.tmod_nonneg (b:=8) (show (0:Int) ≤ (j:Int) by omega);omega,⟨by decide,by decide⟩,?_⟩
    exact ih (j + 1) _ _ op a b' n t _ _ _ _ (by omega) hr Z hZ
 refine R_i [] [] c17_ok rfl (by simp) ?_
 obtain ⟨f,hf,g1,g2,g4,g8,g16⟩:=pat hk
 rw [g1,g2,g4,g8,g16] at hr
 rw [g1] at h1
 rw [g2] at h2
 rw [g4] at h4
 rw [g8] at h8
 rw [g16] at h16
 clear g1 g2 g4 g8 g16
 simp only [List.mem_cons,List.mem_nil_iff,or_false] at hf
 have a1:∀ p,IntKind.i64.wrap (nxV b p) = nxV b p:=fun p=>w64 (by have:=nxV_0 b p;omega) (by have:=nxV_1 b p;omega)
 rcases hf with rfl | rfl | rfl | rfl | rfl | rfl | rfl | rfl
 all_goals
  simp -implicitDefEqProofs (maxSteps:=2000000) only [c17,↓reduceIte,S0,St.init,enum,Nat.reduceEqDiff,Nat.reduceAdd,reduceCtorEq,PV.leaves,PV.cells,cellL,fillL,Nat.reduceBEq,Nat.reduceLeDiff,ne_eq]
  refine wcall_s h1 rfl rfl ?_
  simp -implicitDefEqProofs (maxSteps:=2000000) only [c17,↓reduceIte,S0,Nat.reduceEqDiff,reduceCtorEq,St.clr,outV,ownsV,owns1,ownL,PV.leaves]
  try (refine pcall_i (r16 (X:=X) b _ _ hb) rfl rfl ?_;simp -implicitDefEqProofs (maxSteps:=2000000) only [c17,↓reduceIte,S0,Nat.reduceEqDiff,reduceCtorEq,outV,ownsV,owns1,ownL,PV.leaves];refine ⟨by decide,?_⟩;refine pcall_i (r16 (X:=X) b _ _ hb) rfl rfl ?_;simp -implicitDefEqProofs (maxSteps:=2000000) only [c17,↓reduceIte,S0,Nat.reduceEqDiff,Nat.reduceAdd,reduceCtorEq,outV,ownsV,owns1,ownL,PV.leaves,PV.cells,cellL,fillL,Nat.reduceLeDiff])
  refine wcall_s h2 rfl rfl ?_
  simp -implicitDefEqProofs (maxSteps:=2000000) only [c17,↓reduceIte,S0,Nat.reduceEqDiff,reduceCtorEq,St.clr,outV,ownsV,owns1,ownL,PV.leaves]
  try (refine pcall_i (r16 (X:=X) b _ _ hb) rfl rfl ?_;simp -implicitDefEqProofs (maxSteps:=2000000) only [c17,↓reduceIte,S0,Nat.reduceEqDiff,Nat.reduceAdd,reduceCtorEq,outV,ownsV,owns1,ownL,PV.leaves,PV.cells,cellL,fillL,Nat.reduceLeDiff])
  refine wcall_s h4 rfl rfl ?_
  simp -implicitDefEqProofs (maxSteps:=2000000) only [c17,↓reduceIte,S0,Nat.reduceEqDiff,reduceCtorEq,St.clr,outV,ownsV,owns1,ownL,PV.leaves]
  try (refine pcall_i (r16 (X:=X) b _ _ hb) rfl rfl ?_;simp -implicitDefEqProofs (maxSteps:=2000000) only [c17,↓reduceIte,S0,Nat.reduceEqDiff,Nat.reduceAdd,reduceCtorEq,outV,ownsV,owns1,ownL,PV.leaves,PV.cells,cellL,fillL,Nat.reduceLeDiff])
  refine wcall_s h8 rfl rfl ?_
  simp -implicitDefEqProofs (maxSteps:=2000000) only [c17,↓reduceIte,S0,Nat.reduceEqDiff,reduceCtorEq,St.clr,outV,ownsV,owns1,ownL,PV.leaves]
  try (refine pcall_i (r16 (X:=X) b _ _ hb) rfl rfl ?_;simp -implicitDefEqProofs (maxSteps:=2000000) only [c17,↓reduceIte,S0,Nat.reduceEqDiff,reduceCtorEq,outV,ownsV,owns1,ownL,PV.leaves];refine pcall_i (r28' (X:=X) b _ _ _ (by first | exact nxP_le hp | exact nxP_le (nxP_le hp) | exact nxP_le (nxP_le (nxP_le hp)) | exact nxP_le (nxP_le (nxP_le (nxP_le hp))) | exact nxP_le (nxP_le (nxP_le (nxP_le (nxP_le hp))))) hb) rfl rfl ?_;simp -implicitDefEqProofs (maxSteps:=2000000) only [c17,↓reduceIte,S0,Nat.reduceEqDiff,Nat.reduceAdd,reduceCtorEq,outV,ownsV,owns1,ownL,PV.leaves,PV.cells,cellL,fillL,Nat.reduceLeDiff])
  refine wcall_s h16 rfl rfl ?_
  simp -implicitDefEqProofs (maxSteps:=2000000) only [c17,↓reduceIte,S0,Nat.reduceEqDiff,Nat.reduceAdd,reduceCtorEq,St.clr,outV,ownsV,owns1,ownL,PV.cells,cellL,fillL]
  simp only [insR,gA,gB,gT,gSet,if_true,Bool.false_eq_true,if_false] at hr
  first
   | exact key 32 0 _ _ _ _ _ _ _ _ _ _ _ rfl hr
   |(subst hr;simp -implicitDefEqProofs (maxSteps:=2000000) only [Ins.c,ai16,and_self,↓reduceIte,S0];done)
   |(subst hr;simp -implicitDefEqProofs (maxSteps:=2000000) only [Ins.c,ai16,and_self,↓reduceIte,S0,s_qguard,s_tguard,q_bqb,q_cvs,q_ext,q_fld,q_sll,q_mi,v_xor,v_slss,v_sleq,v_sgtr,v_sgeq,o_bqb,v_bqb,v_neg,o_cvs,v_cvs,v_cbs0,v_ext3,o_fld,v_fld,v_iaa_e,v_ld_m,v_st_e,v_nc_e,v_app_n,v_aps_n,v_sls_a,o_sll,v_sll_a,v_sll_b,v_sll_c,v_sll_d,o_mi,v_mi,e_put_n,e_get_n,e_keep1_n,e_asg_a,St.init,enum,Option.getD_none,Option.map_none,Nat.reduceEqDiff,Nat.reduceAdd,reduceCtorEq,cond_true,cond_false,if_true,if_false,Bool.not_eq_true,Bool.not_eq_false,decide_eq_false_iff_not ,t_if,t_u,t_no,t_nn,t_vr,r_part_f,one_2 ,St.clr,outV,ownsV,owns1,ownL,Bool.false_or,PV.leaves,PV.cells,cellL,datL,placeOf,fillL,Nat.reduceMul,Nat.reduceBEq,Nat.reduceLeDiff,Nat.reduceSub,Option.map_some ,kp_np,kp_ni,kp_f,kp_no,kps_b,kps_s,kps_np,kps_ni,kps_f,kps_u,kps_no,kc_np,kc_ni,kc_f,kc_u,kc_no,ro_np,ro_ni,ro_f,ro_u,ro_no,rk_np,rk_ni,rk_f,rk_no,wr_b,wr_i,wr_s,wr_np,wr_ni,wr_f,wr_u,wr_no,rl_b,rl_np,rl_ni,rl_f,rl_u,rl_no,ol_np,ol_f,ol_u,ol_no,kp_lnl,kps_lro,kps_lnl,ro_lnl,rk_lnl,wr_p,wr_lro,wr_lnl,kp_lv,kps_lo,kps_lv,ro_lv,rk_lv,wr_lo,wr_lv,rl_p,ol_ln,e_asg_v,e_asg_f,e_asg_np,pO_np,pO_ni,pO_f,pO_u,pO_no,pO_e,pO_a,pO_t,st_np1,st_ni1,st_f1,st_p,st_lr,st_ln,st_lv,dw_b,dw_np,dw_ni,dw_f,dw_u,dw_no,dw_lr,dw_ln,dw_lv,List.range_zero,plT,plC,nO_b,nO_i,nO_np,nO_ni,nO_f,nO_p,nO_a,nO_t,nO_lr,nO_lv,ne_eq,Int.reduceNeg,List.map_append,u8s_eq,i64s_eq,strs_eq,bools_eq,i64s_len,strs_len,bools_len,i64s_snoc,strs_snoc,bools_snoc,u8s_app,i64s_app,strs_app,v_ld_u8,v_ld_i64,v_ld_str,v_ld_bool,List.reduceReplicate,List.set_cons_zero,List.set_cons_succ,List.length_append,List.length_replicate,List.length_set,Nat.reduceLT,Nat.zero_lt_one,true_or,or_false,false_or,eq_self,implies_true,forall_const,q_s,q_b,q_n,kd_s,kd_b,ite_not,Decidable.not_not,Bool.and_eq_true,Bool.or_eq_true,Bool.not_eq_eq_eq_not ,kp_it,kp_g,kp_er,kp_en,kp_eo,kp_ev,kps_t,kps_it,kps_g,kps_fn,kps_er,kps_en,kps_eo,kps_ev,kc_it,kc_g,kc_en,kc_ev,rk_g,rk_er,rk_en,ro_t,ro_it,ro_g,ro_fn,ro_er,ro_en,ro_eo,ro_ev,rl_t,rl_it,rl_g,rl_er,rl_en,rl_eo,rl_ev,ol_p,ol_t,ol_g,ol_fn,ol_it,ol_er,ol_en,ol_eo,ol_ev,wr_t,wr_g,wr_fn,wr_it,wr_er,wr_en,wr_ev,ip_b,ip_i,ip_s,ip_np,ip_ni,ip_f,ip_u,ip_no,ip_p,ip_lr,ip_ln,ip_lo,ip_lv,ip_t,ip_g,ip_fn,ip_it,ta_b,ta_np,ta_ni,ta_f,ta_u,ta_no,ta_lr,ta_ln,ta_lo,ta_lv,ta_it,ta_g,ta_fn,ta_er,ta_en,ta_eo,ta_ev,tc_b,tc_i,tc_s,tc_np,tc_ni,tc_f,tc_u,tc_no,tc_p,tc_lr,tc_ln,tc_lo,tc_lv,tc_t,tc_it,tc_g,tc_fn,tc_er,tc_en,tc_eo,tc_ev,fc_np,fc_ni,fc_f,fc_no,fc_p,fc_lr,fc_ln,fc_lv,fc_it,fc_g,fc_fn,fc_er,fc_en,fc_eo,fc_ev,kl_ni,kl_f,kl_u,kl_no,kl_ln,kl_lv,kl_it,kl_g,kl_fn,kl_er,kl_en,kl_eo,kl_ev,rc_b,rc_i,rc_s,rc_np,rc_ni,rc_f,rc_u,rc_no,rc_p,rc_lr,rc_ln,rc_lo,rc_lv,rc_t,rc_it,rc_g,rc_fn,rc_er,rc_en,rc_eo,rc_ev,kf_n,pO_it,pO_g,e_asg_t,st_t1,nO_t0,e_asg_it,st_it1,nO_it0,dw_it0,e_asg_g,st_g1,nO_g0,dw_g0,e_asg_fn,st_fn1,nO_fn0,dw_fn0,e_asg_p0,st_p1,nO_p0,dw_p0,o_bad,o_rng,v_rng,o_nxt,v_nxt,v_ieq_n,v_ieq_i,v_peq_nn,v_peq_tn,v_peq_pn,v_peq_tt,o_p2u,v_p2u,v_p2uK,o_u2p,v_u2p,v_u2pK,v_ex0,v_ex1,v_ex2,o_usd,v_usd,ub_app,ub_snoc,ub_str,strOfNums_ub,o_ust,v_ust,o_mm,v_mm,o_mkf,v_mkf,v_lf_n,v_lf_c,wcald_i,s_bad,q_peq,q_ieq,q_p2u,q_u2p,q_ex,q_usd,q_mm,v_fa_g,v_nc_g,v_nc_f,t_p,t_g,t_f,isC,cplc,Nat.reduceMod,Nat.reduceDiv,rk_it,v_bx_l,s_drw,s_drwc,s_drwK,s_drwM,s_kn,s_kc,s_kK,s_drwE,s_drwL,ct_st,cA_0,cA_1,dK_b,dK_s,dK_np,dK_ni,dK_p,nP_b,nP_i,nP_s,nP_np,nP_p,nP_t,kp_sl,kps_sl,kc_sl,rk_sl,ro_sl,rl_sl,ol_sl,wr_sl,ip_sl,ta_sl,tc_sl,fc_sl,kl_sl,rc_sl,uw_b,uw_i,uw_s,uw_np,uw_ni,uw_f,uw_u,uw_no,uw_p,uw_lr,uw_ln,uw_lo,uw_lv,uw_t,uw_it,uw_g,uw_fn,uw_sl,uw_er,uw_en,uw_eo,uw_ev,e_asg_sl,st_sl1,nO_sl0,dw_sl0,pc_sl,pO_sl,nP_sl,v_ia_s,v_len_s,lv_rep,List.map_replicate,v_app_v,v_app_sl ,s_gd2,s_g2E,sm_b,sm_s,sm_np,sm_ni,g_b,g_i,g_s,g_np,g_ni,p_cn,p_1t,p_1g,p_1e,p_1l,p_1i,p_1s,p_1b,p_1a,p_1u,p_1n,c_cn,fx_n,fx_c,fx_b,fx_i,fx_s,fx_np,fx_ni,fx_lr,fx_ln,cg_i,cg_s,cg_np,cg_ni,cg_u,cg_no,cg_l,cg_e,cg_t,cg_f,cg_it,cg_g,cg_fn,cg_sl,cg_a,cg_tp,k_l,k_e,k_t,k_g,k_i,k_s,k_b,k_a,k_u,k_0,mo_bin,mo_cvi,mo_iaa,mo_nc ,kp_nf,kp_rp,kps_nf,kps_rp,kc_nf,kc_rp,rk_nf,rk_rp,ro_nf,ro_rp,rl_nf,rl_rp,ol_nf,ol_rp,wr_nf,wr_rp,ip_nf,ip_rp,ta_nf,ta_rp,tc_nf,tc_rp,fc_nf,fc_rp,kl_nf,kl_rp,rc_nf,rc_rp,uw_nf,uw_rp,fz_b,fz_i,fz_s,fz_np,fz_ni,fz_f,fz_u,fz_no,fz_p,fz_lr,fz_ln,fz_lo,fz_lv,fz_nf,fz_rp,fz_t,fz_it,fz_g,fz_fn,fz_sl,fz_er,fz_en,fz_eo,fz_ev,f1_b,f1_i,f1_s,f1_np,f1_ni,f1_f,f1_u,f1_no,f1_p,f1_lr,f1_ln,f1_lo,f1_lv,f1_nf,f1_rp,f1_t,f1_it,f1_g,f1_fn,f1_sl,f1_er,f1_en,f1_eo,f1_ev,fD_b,fD_i,fD_s,fD_np,fD_ni,fD_f,fD_u,fD_no,fD_p,fD_lr,fD_ln,fD_lo,fD_lv,fD_nf,fD_rp,fD_t,fD_it,fD_g,fD_fn,fD_sl,fD_er,fD_en,fD_eo,fD_ev,pO_nf,pO_r,e_asg_nf,st_nf1,nO_nf0,dw_nf0,e_asg_rp,st_rp1,nO_rp0,dw_rp0,wf_n,wf_c,wf_o,e_frz,t_nf,t_rp,v_fa_r,v_iaa_r,v_ld_r,v_nc_r,capL,isPtrC ,s_gdq,s_gqn,s_gqc,s_gqK,s_gqE,s_gq1,s_gq2,s_gqF,s_gqT,pv_p,sv_l,lk_mv,ns_mv,lk_bin,ns_bin,lk_cvi,ns_cvi,lk_fa,ns_fa,lk_iaa,ns_iaa,lk_nc,ns_nc,ns_ia,ns_len,ns_lns,lk_ld,ns_ld,ns_bs,ns_bd,ns_st,ns_ext,ns_fld,ns_app,g_fn,fx_fn ,cg_fn1,cg_fn2 ,s_gds,s_gsn,s_gsc,s_gsK,s_gsE,s_gs1,s_gs2,s_gsT,lo_ldt,lo_ldf,lo_p,so_st,so_p,ap_n,ap_c,lk_sll,lk_ia,p_1fn,k_fn,lo_mv,so_mv,lo_bin,so_bin,lo_cvi,so_cvi,lo_fa,so_fa,lo_iaa,so_iaa,lo_nc,so_nc,lo_ia,so_ia,lo_sll,so_sll,lo_len,so_len,tg_b,tg_i,tg_s,tg_np,tg_ni,tg_f,tg_u,tg_no,tg_p,tg_lr,tg_ln,tg_lo,tg_lv,tg_nf,tg_rp,tg_t,tg_it,tg_g,tg_fn,tg_sl,tg_er,tg_en,tg_eo,tg_ev,nC_b,nC_i,nC_s,nC_np,nC_ni,nC_f,nC_u,nC_no,nC_p,nC_lr,nC_ln,nC_lo,nC_lv,nC_nf,nC_rp,nC_t,nC_it,nC_g,nC_fn,nC_sl,nC_er,nC_en,nC_eo,nC_ev,v_callpn,v_callA,o_callg,gS_st,fl_n,fl_c,cB_t,cB_f,gv_0,o_bsf,wfd_n,wfd_c,wfd_o,wfd_p,wfd_q,s_bsC,pc_rp,pc_np,o_bxt,v_bxt,co_s,co_n,kps_lk,kc_lk,ro_lk,rl_lk,ol_lk,wr_lk,ip_lk,ta_lk,tc_lk,fc_lk,kl_lk,rc_lk,uw_lk,fz_lk,f1_lk,tg_lk,nC_lk,fD_lk,lp_np,lp_ni,lp_f,lp_u,lp_no,lp_ln,lp_lv,lp_nf,lp_rp,lp_lk,lp_t,lp_it,lp_g,lp_sl,lp_er,lp_en,lp_eo,lp_ev,pO_lk,e_asg_lk,st_lk1,nO_lk0,dw_lk0,v_len_n];exact ⟨rfl,rfl⟩)
end Go.Proofs.YthcpaohmajjopaaGreatDoor.I
set_option linter.unusedVariables false
set_option linter.unusedSimpArgs false
namespace Go.Proofs.YthcpaohmajjopaaGreatDoor.I
open Go Go.Proofs.YthcpaohmajjopaaGreatDoor.AM
variable {X:Cx}
def insK (b:ByteArray) (p:Nat):Ins × Nat × Bool :=
 insR (hasB (byteAt b p).toNat 1) (hasB (byteAt b p).toNat 2) (hasB (byteAt b p).toNat 4) (hasB (byteAt b p).toNat 8) (hasB (byteAt b p).toNat 16) (byteAt b p).toNat b (p + 1) false
def rd (b:ByteArray):Nat → Nat → List Ins → List Int → List Ins × Int × Int
 | 0,p,code,pl=>if p < b.size then ([],p,164) else chkAns code pl
 | m + 1,p,code,pl=>if b.size ≤ p then ([],b.size,164) else if byteAt b p < 1 ∨ 20 < byteAt b p then ([],p,164) else
  if (insK b p).2.2 = true then ([],b.size,164) else rd b m (insK b p).2.1 (code ++ [(insK b p).1]) (pl ++ [(p:Int)])
theorem gS_le (b:ByteArray):∀ (m k p:Nat) (sh:Bool) (s0 s1 s2 s3:Int),p ≤ b.size → (gS b m k p sh s0 s1 s2 s3).2.1 ≤ b.size
 | 0,_,_,_,_,_,_,_,h=>h
 | m + 1,k,p,sh,s0,s1,s2,s3,h=>gS_le b m _ _ _ _ _ _ _ (nxP_le h)
theorem insR_le {fa fb fn ft fs:Bool} {op:Int} {b:ByteArray} {p:Nat} {sh:Bool} (h:p ≤ b.size):(insR fa fb fn ft fs op b p sh).2.1 ≤ b.size:=by
 have hA:(gA fa b p sh).2.1 ≤ b.size:=by unfold gA;split;exact nxP_le (nxP_le h);exact h
 have hB:∀ f p sh,p ≤ b.size → (gB f b p sh).2.1 ≤ b.size:=fun f p sh h=>by unfold gB;split;exact nxP_le h;exact h
 have hT:∀ f p sh,p ≤ b.size → (gT f b p sh).2.1 ≤ b.size:=fun f p sh h=>by unfold gT;split;exact txP_le (nxP_le h);exact h
 have hS:∀ f p sh,p ≤ b.size → (gSet f b p sh).2.1 ≤ b.size:=fun f p sh h=>by unfold gSet;split;exact gS_le b _ _ _ _ _ _ _ _ h;exact h
 exact hS _ _ _ (hT _ _ _ (hB _ _ _ (hB _ _ _ hA)))
def cntR (b:ByteArray):Int:=bits .or .i64 (IntKind.i64.wrap (nxV b 0 * 2 ^ min (Int.toNat 8) IntKind.i64.bits)) (nxV b (nxP b 0))
def readA (b:ByteArray):List Ins × Int × Int :=
 if 1048576 < b.size then ([],0,2) else if b.size < 2 then ([],b.size,164) else rd b (cntR b).toNat 2 [] []
theorem r8 (hX:X.G 0 = some usesL) (b:ByteArray) (hb:b.size ≤ 140737488351232) (hc:0 ≤ cntR b ∧ cntR b ≤ 65535) (r:List Ins × Int × Int) (hr:readA b = r):R X Tryz.prog 8 [.lf (.str b)] []
   (.tp [.lf (.lst .ro 9 (r.1.map Ins.c) []),.ag [.int .i64 r.2.1,.int .i64 r.2.2]]) []:=by
 unfold readA at hr
 have hnn:bits .or .i64 (IntKind.i64.wrap (nxV b 0 * 2 ^ min (Int.toNat 8) IntKind.i64.bits)) (nxV b (nxP b 0)) = cntR b:=rfl
 generalize cntR b = n at *
 obtain ⟨n,rfl⟩:∃ n':Nat,n = n':=⟨n.toNat,by omega⟩
 rw [Int.toNat_natCast] at hr
 have key:∀ (m i:Nat) (p:Nat) (code:List Ins) (pl:List Int) (ls ps:List (List L)),ls = code.map Ins.c → ps = (pl.map fun x=>[L.int .i64 x]) → i + m = n → p ≤ b.size → pl.length = code.length → code.length ≤ i → rd b m p code pl = r →
   LoopAt X Tryz.prog c8_20 [0,3,4,7,8,25,26] (blkK 0 (seqK X Tryz.prog c8_32 (retS [] [256] 0 [RV.t 2,RV.c 3 2 true] (PV.tp [PV.lf (L.lst Tag.ro 9 (List.map Ins.c r.fst) []),PV.ag [L.int IntKind.i64 r.snd.fst,L.int IntKind.i64 r.snd.snd]]) [])))
    {m:=0,tm:=[(0,PV.lf (L.str b)),(3,PV.lf (L.ptr 3 0)),(4,PV.lf (L.ptr 17 0)),(7,PV.lf (L.lst (Tag.own 896 42) 9 ls [])),(8,PV.lf (L.lst (Tag.own 1024 3) 1 ps [])),(25,PV.lf (L.int IntKind.i64 (n:Int))),(26,PV.lf (L.int IntKind.i64 (i:Int)))],
     ce:=[(3,[L.int IntKind.i64 0,L.int IntKind.i64 0]),(17,[L.str b,L.int IntKind.i64 (p:Int),L.bool false])] }:=by
  clear hr hnn
  intro m
  induction m with
  | zero =>
   intro i p code pl ls ps hls hps hi hp hl hcl hr
   obtain rfl:i = n:=by omega
   have hnl:¬ ((i:Nat):Int) < (i:Int):=by omega
   intro Z hZ;apply hZ
   simp -implicitDefEqProofs (maxSteps:=2000000) only [c8,hnl,↓reduceIte,S0,Nat.reduceEqDiff,Nat.reduceAdd,reduceCtorEq,PV.leaves,PV.cells,cellL,fillL,Nat.reduceLeDiff,ne_eq,true_or]
   simp only [rd] at hr
   with_reducible refine ite_pr (fun h=>?_) (fun h=>?_)
   ·rw [if_pos (by omega)] at hr
    subst hr
    exact ⟨rfl,rfl,rfl⟩
   ·rw [if_neg (by omega)] at hr
    subst hr
    subst hls hps
    refine wcall_down (r18 hX code pl hl [] []) rfl ?_
    simp -implicitDefEqProofs (maxSteps:=2000000) only [c8,↓reduceIte,S0,Nat.reduceEqDiff,Nat.reduceAdd,St.clr,outV,ownsV,owns1,ownL,PV.cells,cellL,fillL,Nat.reduceBEq,true_or]
  | succ m ih =>
   intro i p code pl ls ps hls hps hi hp hl hcl hr
   have hlt:((i:Nat):Int) < (n:Int):=by omega
   have hw:IntKind.i64.wrap ((i:Int) + 1) = ((i + 1:Nat):Int):=by rw [w64 (by omega) (by omega)];omega
   intro Z hZ;apply hZ
   simp -implicitDefEqProofs (maxSteps:=2000000) only [c8,hlt,hw,↓reduceIte,S0,Nat.reduceEqDiff,reduceCtorEq,PV.leaves]
   refine pcall_i (r16 (X:=X) b p false hb) rfl rfl ?_
   simp only [rd] at hr
   by_cases hp2:b.size ≤ p
   ·rw [if_pos hp2] at hr
    subst hr
    have e:nxS b p false = true:=by unfold nxS;rw [if_neg (by omega)]
    simp -implicitDefEqProofs (maxSteps:=2000000) only [c8,hlt,hw,e,↓reduceIte,S0,Nat.reduceEqDiff,Nat.reduceAdd,reduceCtorEq,outV,ownsV,owns1,ownL,PV.cells,cellL,fillL,Nat.reduceMul,Nat.reduceBEq,Nat.reduceLeDiff,plT,ne_eq,true_or,isC,Nat.reduceMod,Nat.reduceDiv]
    rfl
   ·rw [if_neg hp2] at hr
    have e:nxS b p false = false:=by unfold nxS;rw [if_pos (by omega)]
    have e2:nxV b p = byteAt b p:=by unfold nxV;rw [if_pos (by omega)]
    have e3:nxP b p = p + 1:=by unfold nxP;rw [if_pos (by omega)]
    have h31:=r13 (X:=X) (byteAt b p)
    simp -implicitDefEqProofs (maxSteps:=2000000) only [c8,hlt,hw,e,e2,e3,↓reduceIte,S0,Nat.reduceEqDiff,reduceCtorEq,outV,ownsV,owns1,ownL,PV.leaves,Nat.reduceBEq,isC,Nat.reduceMod,Nat.reduceDiv]
    refine wcall_s h31 rfl rfl ?_
    by_cases hop:byteAt b p < 1 ∨ 20 < byteAt b p
    ·rw [if_pos hop] at hr
     subst hr
     rw [decide_eq_false (by omega)]
     simp -implicitDefEqProofs (maxSteps:=2000000) only [c8,↓reduceIte,S0,Nat.reduceEqDiff,Nat.reduceAdd,reduceCtorEq,St.clr,outV,ownsV,owns1,ownL,PV.cells,cellL,fillL,Nat.reduceMul,Nat.reduceBEq,Nat.reduceLeDiff,plT,ne_eq,true_or]
     rfl
    ·rw [if_neg hop] at hr
     rw [decide_eq_true (by omega)]
     have h32:=r17 hX b (p + 1) false hb (by omega) (byteAt b p).toNat (by omega) _ rfl
     have hle:(insK b p).2.1 ≤ b.size:=insR_le (by omega)
     rw [show insR (hasB (byteAt b p).toNat 1) (hasB (byteAt b p).toNat 2) (hasB (byteAt b p).toNat 4) (hasB (byteAt b p).toNat 8) (hasB (byteAt b p).toNat 16) (byteAt b p).toNat b (p + 1) false = insK b p from rfl] at h32
     rw [Int.toNat_of_nonneg (by omega)] at h32
     generalize insK b p = I at *
     simp -implicitDefEqProofs (maxSteps:=2000000) only [c8,↓reduceIte,S0,Nat.reduceEqDiff,reduceCtorEq,St.clr,outV,ownsV,owns1,ownL,PV.leaves,PV.cells,datL,Nat.reduceMul,Nat.reduceBEq,Nat.reduceLeDiff,plT,List.reduceReplicate,List.set_cons_zero,or_false]
     refine ⟨by simp only [hps,List.length_map];omega,?_⟩
     refine pcall_i h32 rfl rfl ?_
     cases hs:I.2.2 with
     | true =>
      rw [hs] at hr
      rw [if_pos rfl] at hr
      subst hr
      simp -implicitDefEqProofs (maxSteps:=2000000) only [c8,hs,Ins.c,↓reduceIte,S0,Nat.reduceEqDiff,Nat.reduceAdd,reduceCtorEq,outV,ownsV,owns1,ownL,PV.cells,cellL,datL,fillL,Nat.reduceMul,Nat.reduceBEq,Nat.reduceLeDiff,plT,ne_eq,List.reduceReplicate,List.set_cons_zero,true_or,or_false,isC,Nat.reduceMod,Nat.reduceDiv]
      exact ⟨by rw [hls,List.length_map];omega,rfl⟩
     | false =>
      rw [hs] at hr
      rw [if_neg (by decide)] at hr
      simp -implicitDefEqProofs (maxSteps:=2000000) only [c8,hs,hw,Ins.c,↓reduceIte,S0,Nat.reduceEqDiff,Nat.reduceAdd,reduceCtorEq,outV,ownsV,owns1,ownL,PV.cells,datL,Nat.reduceMul,Nat.reduceBEq,Nat.reduceLeDiff,List.range_zero,plT,List.reduceReplicate,List.set_cons_zero,or_false,isC,Nat.reduceMod,Nat.reduceDiv]
      exact ⟨by rw [hls,List.length_map];omega,ih (i + 1) I.2.1 (code ++ [I.1]) (pl ++ [(p:Int)]) _ _ (by simp [Ins.c,hls]) (by simp [hps]) (by omega) hle (by simp [hl]) (by simp;omega) hr Z hZ⟩
 refine R_i [] [256] c8_ok rfl (by simp) ?_
 simp -implicitDefEqProofs (maxSteps:=2000000) only [c8,↓reduceIte,S0,St.init,enum,Nat.reduceEqDiff,Nat.reduceAdd,reduceCtorEq,PV.leaves,PV.cells,cellL,fillL,Nat.reduceMul,Nat.reduceBEq,Nat.reduceLeDiff,plT,ne_eq,true_or]
 with_reducible refine ite_pr (fun h=>?_) (fun h=>?_)
 ·rw [if_pos (by omega)] at hr
  subst hr
  exact ⟨⟨rfl,rfl⟩,rfl,rfl⟩
 rw [if_neg (by omega)] at hr
 refine pcall_i (r16 (X:=X) b 0 false hb) rfl rfl ?_
 simp -implicitDefEqProofs (maxSteps:=2000000) only [c8,↓reduceIte,S0,Nat.reduceEqDiff,reduceCtorEq,outV,ownsV,owns1,ownL,PV.leaves]
 refine ⟨by decide,?_⟩
 refine pcall_i (r16 (X:=X) b (nxP b 0) (nxS b 0 false) hb) rfl rfl ?_
 simp -implicitDefEqProofs (maxSteps:=2000000) only [c8,hnn,↓reduceIte,S0,Nat.reduceEqDiff,reduceCtorEq,outV,ownsV,owns1,ownL,Nat.reduceMul,Nat.reduceBEq,List.range_zero,plT]
 by_cases h2:b.size < 2
 ·rw [if_pos h2] at hr
  subst hr
  have e:nxS b (nxP b 0) (nxS b 0 false) = true:=by unfold nxS nxP;(repeat' split)<;>first | rfl | omega
  rw [e]
  intro Z hZ;apply hZ
  simp -implicitDefEqProofs (maxSteps:=2000000) only [c8,↓reduceIte,S0,Nat.reduceEqDiff,Nat.reduceAdd,reduceCtorEq,PV.leaves,PV.cells,cellL,fillL,Nat.reduceMul,Nat.reduceBEq,Nat.reduceLeDiff,plT,ne_eq,true_or]
  with_reducible refine ite_pr (fun h=>?_) (fun h=>?_)
  ·refine pcall_i (r16 (X:=X) b _ true hb) rfl rfl ?_
   have e:nxS b (nxP b (nxP b 0)) true = true:=by unfold nxS;split<;>rfl
   rw [e]
   simp -implicitDefEqProofs (maxSteps:=2000000) only [c8,↓reduceIte,S0,Nat.reduceEqDiff,Nat.reduceAdd,reduceCtorEq,outV,ownsV,owns1,ownL,PV.cells,cellL,fillL,Nat.reduceMul,Nat.reduceBEq,Nat.reduceLeDiff,plT,ne_eq,true_or,isC,Nat.reduceMod,Nat.reduceDiv]
   rfl
  ·rfl
 ·rw [if_neg h2] at hr
  have e:nxS b (nxP b 0) (nxS b 0 false) = false:=by unfold nxS nxP;(repeat' split)<;>first | rfl | omega
  have e2:nxP b (nxP b 0) = 2:=by unfold nxP;(repeat' split)<;>omega
  rw [e,e2]
  exact key n 0 2 [] [] [] [] rfl rfl (by omega) (by omega) rfl (Nat.le_refl _) hr
end Go.Proofs.YthcpaohmajjopaaGreatDoor.I
set_option linter.unusedVariables false
set_option linter.unusedSimpArgs false
namespace Go.Proofs.YthcpaohmajjopaaGreatDoor.I
open Go Go.Proofs.YthcpaohmajjopaaGreatDoor.AM
variable {X:Cx}
theorem byte_k (b:ByteArray) (p:Int):(byteAt b p).toNat < 256 ∧ ((byteAt b p).toNat:Int) = byteAt b p:=by
 have:=byteAt_0 b p;have:=byteAt_1 b p;omega
def bitAt (b:ByteArray) (p k:Nat):Int:=((byteAt b ((p + k / 8:Nat):Int)).fdiv (2 ^ min (((k:Int).tmod 8)).toNat IntKind.i64.bits)).tmod 2
def rS (b:ByteArray) (p:Nat):Nat → Nat → Int → Int → Int → Int → Int × Int × Int × Int
 | 0,_,s0,s1,s2,s3=>(s0,s1,s2,s3)
 | m + 1,k,s0,s1,s2,s3=>if bitAt b p k = 1 then rS b p m (k + 1) (withAt 0 s0 k) (withAt 1 s1 k) (withAt 2 s2 k) (withAt 3 s3 k) else rS b p m (k + 1) s0 s1 s2 s3
end Go.Proofs.YthcpaohmajjopaaGreatDoor.I
set_option linter.unusedVariables false
set_option linter.unusedSimpArgs false
namespace Go.Proofs.YthcpaohmajjopaaGreatDoor.I
open Go Go.Proofs.YthcpaohmajjopaaGreatDoor.AM
theorem wrap_u64 {n:Nat} (h:n < 2 ^ 64):IntKind.u64.wrap (n:Int) = n:=by
 simp only [IntKind.wrap,IntKind.bits,IntKind.signed];simp;omega
theorem wrap_i64 {n:Nat} (h:n < 2 ^ 63):IntKind.i64.wrap (n:Int) = n:=w64 (by omega) (by omega)
theorem or_nat64 (x y:Nat) (hx:x < 2 ^ 64) (hy:y < 2 ^ 64):bits .or .u64 (x:Int) (y:Int) = ((x ||| y:Nat):Int):=by
 have h1:(BitVec.ofInt 64 (x:Int)).toNat = x:=by simp [BitVec.toNat_ofInt];omega
 have h2:(BitVec.ofInt 64 (y:Int)).toNat = y:=by simp [BitVec.toNat_ofInt];omega
 unfold bits
 simp only [BitVec.toNat_or]
 show IntKind.u64.wrap (((BitVec.ofInt 64 (x:Int)).toNat ||| (BitVec.ofInt 64 (y:Int)).toNat:Nat):Int) = _
 rw [h1,h2]
 exact wrap_u64 (Nat.or_lt_two_pow hx hy)
theorem or_nat63 (x y:Nat) (hx:x < 2 ^ 63) (hy:y < 2 ^ 63):bits .or .i64 (x:Int) (y:Int) = ((x ||| y:Nat):Int):=by
 have h1:(BitVec.ofInt 64 (x:Int)).toNat = x:=by simp [BitVec.toNat_ofInt];omega
 have h2:(BitVec.ofInt 64 (y:Int)).toNat = y:=by simp [BitVec.toNat_ofInt];omega
 unfold bits
 simp only [BitVec.toNat_or]
 show IntKind.i64.wrap (((BitVec.ofInt 64 (x:Int)).toNat ||| (BitVec.ofInt 64 (y:Int)).toNat:Nat):Int) = _
 rw [h1,h2]
 exact wrap_i64 (Nat.or_lt_two_pow hx hy)
theorem or_add {s v c:Nat} (h:s < 2 ^ c):s ||| (v * 2 ^ c) = s + v * 2 ^ c:=by
 rw [Nat.or_comm,← Nat.shiftLeft_eq,← Nat.shiftLeft_add_eq_or_of_lt h];omega
theorem or_hi (h l:Int) (h0:0 ≤ h) (h1:h ≤ 255) (l0:0 ≤ l) (l1:l ≤ 255):bits .or .i64 (IntKind.i64.wrap (h * 2 ^ min (Int.toNat 8) IntKind.i64.bits)) l = h * 256 + l:=by
 obtain ⟨h,rfl⟩:∃ n:Nat,h = n:=⟨h.toNat,by omega⟩
 obtain ⟨l,rfl⟩:∃ n:Nat,l = n:=⟨l.toNat,by omega⟩
 have e:(h:Int) * 2 ^ min (Int.toNat 8) IntKind.i64.bits = ((h * 2 ^ 8:Nat):Int):=by
  rw [show (2:Int) ^ min (Int.toNat 8) IntKind.i64.bits = 256 from by decide];omega
 rw [e,wrap_i64 (by omega),or_nat63 _ _ (by omega) (by omega),Nat.or_comm,or_add (by omega)]
 omega
theorem ai16_eq (h l:Int) (h0:0 ≤ h) (h1:h ≤ 255) (l0:0 ≤ l) (l1:l ≤ 255):ai16 h l = if 32768 ≤ h * 256 + l then h * 256 + l - 65536 else h * 256 + l:=by
 unfold ai16
 rw [or_hi h l h0 h1 l0 l1]
 have e:IntKind.i16.wrap (h * 256 + l) = if 32768 ≤ h * 256 + l then h * 256 + l - 65536 else h * 256 + l:=by
  simp only [IntKind.wrap,IntKind.bits,IntKind.signed];simp;split<;>omega
 rw [e]
 exact w64 (by split<;>omega) (by split<;>omega)
theorem cntR_eq {b:ByteArray} (h:2 ≤ b.size):cntR b = byteAt b 0 * 256 + byteAt b 1:=by
 have e0:nxV b 0 = byteAt b 0:=by unfold nxV;rw [if_pos (by omega)];rfl
 have e1:nxP b 0 = 1:=by unfold nxP;rw [if_pos (by omega)]
 have e2:nxV b 1 = byteAt b 1:=by unfold nxV;rw [if_pos (by omega)];rfl
 unfold cntR
 rw [e1,e0,e2,or_hi _ _ (byteAt_0 b _) (byteAt_1 b _) (byteAt_0 b _) (byteAt_1 b _)]
theorem cntR_bd (b:ByteArray):0 ≤ cntR b ∧ cntR b ≤ 65535:=by
 unfold cntR
 have a0:=nxV_0 b 0
 have a1:=nxV_1 b 0
 have b0:=nxV_0 b (nxP b 0)
 have b1:=nxV_1 b (nxP b 0)
 rw [or_hi _ _ a0 a1 b0 b1]
 omega
def W (B:Nat → Nat) (q:Nat):Nat → Nat
 | 0=>0
 | i + 1=>W B q i + B (8 * q + i) * 2 ^ (8 * i)
theorem W_lt {B:Nat → Nat} (hB:∀ j,B j < 256) (q:Nat):∀ i,W B q i < 2 ^ (8 * i)
 | 0=>by simp [W]
 | i + 1=>by
  have h1:=W_lt hB q i
  have h2:=hB (8 * q + i)
  have e:2 ^ (8 * (i + 1)) = 256 * 2 ^ (8 * i):=by rw [show 8 * (i + 1) = 8 + 8 * i by omega,Nat.pow_add]
  have h3:B (8 * q + i) * 2 ^ (8 * i) ≤ 255 * 2 ^ (8 * i):=Nat.mul_le_mul_right _ (by omega)
  simp only [W]
  omega
theorem W_split (B:Nat → Nat) (q i:Nat):∀ n,∃ t,W B q (i + 1 + n) = W B q i + 2 ^ (8 * i) * (B (8 * q + i) + 256 * t)
 | 0=>⟨0,by simp [W,Nat.mul_comm]⟩
 | n + 1=>by
  obtain ⟨t,h⟩:=W_split B q i n
  refine ⟨t + B (8 * q + (i + 1 + n)) * 2 ^ (8 * n),?_⟩
  rw [show i + 1 + (n + 1) = (i + 1 + n) + 1 by omega]
  simp only [W,h]
  rw [show 8 * (i + 1 + n) = 8 * i + (8 + 8 * n) by omega,Nat.pow_add,Nat.pow_add,show (2:Nat) ^ 8 = 256 from rfl]
  generalize B (8 * q + (i + 1 + n)) = B1
  generalize 2 ^ (8 * n) = Y
  generalize 2 ^ (8 * i) = Z
  have e:B1 * (Z * (256 * Y)) = Z * (256 * (B1 * Y)):=by ac_rfl
  rw [e,Nat.mul_add 256 t,← Nat.add_assoc (B (8 * q + i)),Nat.mul_add Z (_ + _),Nat.add_assoc]
theorem W_bit {B:Nat → Nat} (hB:∀ j,B j < 256) (q:Nat) {i r:Nat} (hi:i < 8) (hr:r < 8):(W B q 8 / 2 ^ (8 * i + r)) % 2 = (B (8 * q + i) / 2 ^ r) % 2:=by
 obtain ⟨t,h⟩:=W_split B q i (7 - i)
 rw [show i + 1 + (7 - i) = 8 by omega] at h
 rw [h,Nat.pow_add,← Nat.div_div_eq_div_mul,Nat.add_mul_div_left _ _ (Nat.two_pow_pos _),Nat.div_eq_of_lt (W_lt hB q i),Nat.zero_add]
 have e:(256:Nat) * t = 2 ^ r * (2 ^ (8 - r) * t):=by
  rw [← Nat.mul_assoc,← Nat.pow_add,show r + (8 - r) = 8 by omega]
 rw [e,Nat.add_mul_div_left _ _ (Nat.two_pow_pos _)]
 obtain ⟨u,hu⟩:∃ u,2 ^ (8 - r) * t = 2 * u:=⟨2 ^ (7 - r) * t,by rw [show 8 - r = (7 - r) + 1 by omega,Nat.pow_succ];simp only [Nat.mul_assoc,Nat.mul_comm,Nat.mul_left_comm]⟩
 rw [hu]
 omega
def bt (b:ByteArray) (p j:Nat):Nat:=(byteAt b ((p + j:Nat):Int)).toNat
theorem bt_lt (b:ByteArray) (p j:Nat):bt b p j < 256:=(byte_k b _).1
theorem bt_eq (b:ByteArray) (p j:Nat):((bt b p j:Nat):Int) = byteAt b ((p + j:Nat):Int):=(byte_k b _).2
theorem setV_eq {s v k:Nat} (hs:s < 2 ^ (8 * (k % 8))) (hv:v < 256):setV (s:Int) (v:Int) k = ((s + v * 2 ^ (8 * (k % 8)):Nat):Int):=by
 have e1:IntKind.i64.wrap (((k:Int).tmod 8) * 8) = ((8 * (k % 8):Nat):Int):=by
  rw [Int.tmod_eq_emod_of_nonneg (by omega),w64 (by omega) (by omega)];omega
 have e2:min (8 * (k % 8)) 64 = 8 * (k % 8):=by omega
 have hle:v * 2 ^ (8 * (k % 8)) < 2 ^ 64:=by
  have:v * 2 ^ (8 * (k % 8)) ≤ 255 * 2 ^ 56:=Nat.mul_le_mul (by omega) (Nat.pow_le_pow_right (by omega) (by omega))
  omega
 have hs2:s < 2 ^ 64:=Nat.lt_of_lt_of_le hs (Nat.pow_le_pow_right (by omega) (by omega))
 unfold setV
 rw [e1,Int.toNat_natCast,show IntKind.u64.bits = 64 from rfl,e2,wrap_u64 (n:=v) (by omega),show (v:Int) * 2 ^ (8 * (k % 8)) = ((v * 2 ^ (8 * (k % 8)):Nat):Int) by rw [Int.natCast_mul,Int.natCast_pow];rfl,wrap_u64 hle,or_nat64 _ _ hs2 hle,or_add hs]
theorem setAt_eq {B:Nat → Nat} (hB:∀ j,B j < 256) (q k:Nat):setAt q ((W B q (min 8 (k - 8 * q)):Nat):Int) ((B k:Nat):Int) k = ((W B q (min 8 (k + 1 - 8 * q)):Nat):Int):=by
 unfold setAt
 split
 ·rename_i h
  have e:min 8 (k - 8 * q) = k % 8:=by omega
  have e':min 8 (k + 1 - 8 * q) = k % 8 + 1:=by omega
  have e2:8 * q + k % 8 = k:=by omega
  rw [e,e',setV_eq (W_lt hB q _) (hB k)]
  simp only [W,e2]
 ·have e:min 8 (k + 1 - 8 * q) = min 8 (k - 8 * q):=by omega
  rw [e]
theorem gS_ok (b:ByteArray) (p:Nat) (hp:p + 32 ≤ b.size) (sh:Bool):∀ (m k:Nat),k + m = 32 →
  gS b m k (p + k) sh ((W (bt b p) 0 (min 8 (k - 8 * 0)):Nat):Int) ((W (bt b p) 1 (min 8 (k - 8 * 1)):Nat):Int) ((W (bt b p) 2 (min 8 (k - 8 * 2)):Nat):Int) ((W (bt b p) 3 (min 8 (k - 8 * 3)):Nat):Int) =
   ((((W (bt b p) 0 8:Nat):Int),((W (bt b p) 1 8:Nat):Int),((W (bt b p) 2 8:Nat):Int),((W (bt b p) 3 8:Nat):Int)),p + 32,sh)
 | 0,k,h=>by
  obtain rfl:k = 32:=by omega
  rfl
 | m + 1,k,h=>by
  have e1:nxV b (p + k) = ((bt b p k:Nat):Int):=by rw [bt_eq];unfold nxV;rw [if_pos (by omega)]
  have e2:nxP b (p + k) = p + (k + 1):=by unfold nxP;rw [if_pos (by omega)];omega
  have e3:nxS b (p + k) sh = sh:=by unfold nxS;rw [if_pos (by omega)]
  simp only [gS]
  rw [e1,e2,e3,setAt_eq (bt_lt b p),setAt_eq (bt_lt b p),setAt_eq (bt_lt b p),setAt_eq (bt_lt b p)]
  exact gS_ok b p hp sh m (k + 1) (by omega)
theorem orB_eq {s k:Nat} (hs:s < 2 ^ (k % 64)):orB (s:Int) k = ((s + 2 ^ (k % 64):Nat):Int):=by
 have e2:min (k % 64) 64 = k % 64:=by omega
 have hle:1 * 2 ^ (k % 64) < 2 ^ 64:=by rw [Nat.one_mul];exact Nat.pow_lt_pow_right (by omega) (by omega)
 have hs2:s < 2 ^ 64:=Nat.lt_of_lt_of_le hs (Nat.pow_le_pow_right (by omega) (by omega))
 unfold orB
 rw [Int.tmod_eq_emod_of_nonneg (by omega),show ((k:Int) % 64).toNat = k % 64 by omega,show IntKind.u64.bits = 64 from rfl,e2,show (1:Int) * 2 ^ (k % 64) = ((1 * 2 ^ (k % 64):Nat):Int) by rw [Int.natCast_mul,Int.natCast_pow];rfl,wrap_u64 hle,or_nat64 _ _ hs2 hle,or_add hs,Nat.one_mul]
theorem bitAt_eq (b:ByteArray) (p k:Nat):bitAt b p k = (((bt b p (k / 8)) / 2 ^ (k % 8) % 2:Nat):Int):=by
 unfold bitAt
 rw [← bt_eq,Int.tmod_eq_emod_of_nonneg (show (0:Int) ≤ (k:Int) by omega),show ((k:Int) % 8).toNat = k % 8 by omega,show IntKind.i64.bits = 64 from rfl,show min (k % 8) 64 = k % 8 by omega,show (2:Int) ^ (k % 8) = ((2 ^ (k % 8):Nat):Int) by rw [Int.natCast_pow];rfl,Int.fdiv_eq_ediv_of_nonneg _ (Int.natCast_nonneg _),← Int.natCast_ediv,Int.tmod_eq_emod_of_nonneg (Int.natCast_nonneg _)]
 rfl
theorem mod_min_step {w q k:Nat} (h:¬ k / 64 = q):w % 2 ^ (min 64 (k + 1 - 64 * q)) = w % 2 ^ (min 64 (k - 64 * q)):=by
 have e:min 64 (k + 1 - 64 * q) = min 64 (k - 64 * q):=by omega
 rw [e]
theorem mod_min_in {w q k:Nat} (h:k / 64 = q):w % 2 ^ (min 64 (k + 1 - 64 * q)) = w % 2 ^ (k % 64) + 2 ^ (k % 64) * (w / 2 ^ (k % 64) % 2):=by
 have e:min 64 (k + 1 - 64 * q) = k % 64 + 1:=by omega
 rw [e,Nat.mod_pow_succ]
theorem withAt_eq (b:ByteArray) (p q k:Nat) (hb1:bitAt b p k = 1):withAt q ((W (bt b p) q 8 % 2 ^ (min 64 (k - 64 * q)):Nat):Int) k = ((W (bt b p) q 8 % 2 ^ (min 64 (k + 1 - 64 * q)):Nat):Int):=by
 unfold withAt
 split
 ·rename_i h
  have e:min 64 (k - 64 * q) = k % 64:=by omega
  have hb2:(bt b p (k / 8)) / 2 ^ (k % 8) % 2 = 1:=by rw [bitAt_eq] at hb1;omega
  have hbit:=W_bit (bt_lt b p) q (i:=k % 64 / 8) (r:=k % 8) (by omega) (by omega)
  rw [show 8 * (k % 64 / 8) + k % 8 = k % 64 by omega,show 8 * q + k % 64 / 8 = k / 8 by omega,hb2] at hbit
  rw [mod_min_in h,e,orB_eq (Nat.mod_lt _ (Nat.two_pow_pos _)),hbit,Nat.mul_one]
 ·rename_i h
  rw [mod_min_step h]
theorem skip_eq (b:ByteArray) (p q k:Nat) (hb1:¬ bitAt b p k = 1):W (bt b p) q 8 % 2 ^ (min 64 (k - 64 * q)) = W (bt b p) q 8 % 2 ^ (min 64 (k + 1 - 64 * q)):=by
 by_cases h:k / 64 = q
 ·have e:min 64 (k - 64 * q) = k % 64:=by omega
  have hb2:(bt b p (k / 8)) / 2 ^ (k % 8) % 2 = 0:=by rw [bitAt_eq] at hb1;omega
  have hbit:=W_bit (bt_lt b p) q (i:=k % 64 / 8) (r:=k % 8) (by omega) (by omega)
  rw [show 8 * (k % 64 / 8) + k % 8 = k % 64 by omega,show 8 * q + k % 64 / 8 = k / 8 by omega,hb2] at hbit
  rw [mod_min_in h,e,hbit,Nat.mul_zero,Nat.add_zero]
 ·rw [mod_min_step h]
theorem rS_ok (b:ByteArray) (p:Nat):∀ (m k:Nat),k + m = 256 →
  rS b p m k ((W (bt b p) 0 8 % 2 ^ (min 64 (k - 64 * 0)):Nat):Int) ((W (bt b p) 1 8 % 2 ^ (min 64 (k - 64 * 1)):Nat):Int) ((W (bt b p) 2 8 % 2 ^ (min 64 (k - 64 * 2)):Nat):Int) ((W (bt b p) 3 8 % 2 ^ (min 64 (k - 64 * 3)):Nat):Int) =
   (((W (bt b p) 0 8:Nat):Int),((W (bt b p) 1 8:Nat):Int),((W (bt b p) 2 8:Nat):Int),((W (bt b p) 3 8:Nat):Int))
 | 0,k,h=>by
  obtain rfl:k = 256:=by omega
  have l:∀ q,W (bt b p) q 8 % 2 ^ 64 = W (bt b p) q 8:=fun q=>Nat.mod_eq_of_lt (W_lt (bt_lt b p) q 8)
  simp only [rS,show min 64 (256 - 64 * 0) = 64 from rfl,show min 64 (256 - 64 * 1) = 64 from rfl,show min 64 (256 - 64 * 2) = 64 from rfl,show min 64 (256 - 64 * 3) = 64 from rfl,l]
 | m + 1,k,h=>by
  simp only [rS]
  split
  ·rename_i hb1
   rw [withAt_eq b p _ k hb1,withAt_eq b p _ k hb1,withAt_eq b p _ k hb1,withAt_eq b p _ k hb1]
   exact rS_ok b p m (k + 1) (by omega)
  ·rename_i hb1
   rw [skip_eq b p _ k hb1,skip_eq b p _ k hb1,skip_eq b p _ k hb1,skip_eq b p _ k hb1]
   exact rS_ok b p m (k + 1) (by omega)
theorem sets_eq (b:ByteArray) (p:Nat) (hp:p + 32 ≤ b.size) (sh:Bool):gSet true b p sh = (rS b p 256 0 0 0 0 0,p + 32,sh):=by
 have h1:gS b 32 0 p sh 0 0 0 0 = _:=gS_ok b p hp sh 32 0 rfl
 have h2:=rS_ok b p 256 0 rfl
 have z:∀ q,W (bt b p) q 8 % 2 ^ (min 64 (0 - 64 * q)) = 0:=fun q=>by rw [show min 64 (0 - 64 * q) = 0 by omega,Nat.pow_zero,Nat.mod_one]
 rw [z,z,z,z] at h2
 unfold gSet
 rw [if_pos rfl,h1,show rS b p 256 0 0 0 0 0 = _ from h2]
end Go.Proofs.YthcpaohmajjopaaGreatDoor.I
set_option linter.unusedVariables false
set_option linter.unusedSimpArgs false
namespace Go.Proofs.YthcpaohmajjopaaGreatDoor.I
open Go Go.Proofs.YthcpaohmajjopaaGreatDoor.AM
variable {X:Cx}
def byI (z:Int):UInt8:=UInt8.ofNat (z % 256).toNat
theorem byI_nat (z:Int):((byI z).toNat:Int) = z % 256:=by
 unfold byI
 rw [UInt8.toNat_ofNat']
 omega
theorem wrap_u8 (z:Int):IntKind.u8.wrap z = ((byI z).toNat:Int):=by
 rw [byI_nat]
 simp [IntKind.wrap,IntKind.bits,IntKind.signed]
def numB (n:Int):List UInt8:=[byI (n / 256),byI n]
def wd (s0 s1 s2 s3:Nat) (q:Nat):Nat:=if q = 0 then s0 else if q = 1 then s1 else if q = 2 then s2 else s3
def hasN (s0 s1 s2 s3:Nat) (k:Nat):Bool:=decide (wd s0 s1 s2 s3 (k / 64) / 2 ^ (k % 64) % 2 = 1)
end Go.Proofs.YthcpaohmajjopaaGreatDoor.I
set_option linter.unusedVariables false
set_option linter.unusedSimpArgs false
namespace Go.Proofs.YthcpaohmajjopaaGreatDoor.I
open Go Go.Proofs.YthcpaohmajjopaaGreatDoor.AM
variable {X:Cx}
def memB (s0 s1 s2 s3:Nat):Nat → List UInt8
 | 0=>[]
 | m + 1=>memB s0 s1 s2 s3 m ++ [byI ((wd s0 s1 s2 s3 (m / 8) / 2 ^ (8 * (m % 8)) % 256:Nat):Int)]
theorem memB_len (s0 s1 s2 s3:Nat):∀ m,(memB s0 s1 s2 s3 m).length = m
 | 0=>rfl
 | m + 1=>by rw [memB,List.length_append,memB_len];rfl
end Go.Proofs.YthcpaohmajjopaaGreatDoor.I
set_option maxRecDepth 100000
namespace Go.Proofs.YthcpaohmajjopaaGreatDoor.I
open Go Go.Proofs.YthcpaohmajjopaaGreatDoor.AM
end Go.Proofs.YthcpaohmajjopaaGreatDoor.I
