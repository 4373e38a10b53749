/- Contracts, part Z5. -/
import Derived.Test.YthcpaohmajjopaaGreatDoorZ3
import Derived.Test.YthcpaohmajjopaaGreatDoorZ4
import Derived.Test.YthcpaohmajjopaaGreatDoorZ1
import Derived.Lib.AtoiErrMem
set_option linter.unusedVariables false
set_option linter.unusedSimpArgs false
namespace Go.Proofs.YthcpaohmajjopaaGreatDoor.I
open Go Go.Proofs.YthcpaohmajjopaaGreatDoor.AM
variable {X:Cx}
structure Rd where
 at_:Nat
 ba:Int
 bc:Int
abbrev rdL (s:ByteArray) (q:Rd):List L:=[.str s,.int .i64 (q.at_:Nat),.int .i64 q.ba,.int .i64 q.bc]
def pkF (s:ByteArray) (k:Nat):Int:=if k < s.size then byteAt s (k:Int) else -1
def failF (q:Rd) (a e:Int):Rd:=if q.bc = 0 then ⟨q.at_,a,e⟩ else q
def hexF (c:Int):Int:=if 48 ≤ c ∧ c ≤ 57 then c - 48 else if 97 ≤ c ∧ c ≤ 102 then c - 97 + 10 else -1
theorem byte_bd (s:ByteArray) (k:Int):0 ≤ byteAt s k ∧ byteAt s k ≤ 255:=by
 unfold byteAt
 have:=(s.data.toList.getD k.toNat 0).toNat_lt
 omega
theorem r69 (s:ByteArray) (q:Rd):R X Tryz.prog 69 [.lf (.ptr 0 0)] [rdL s q] (.lf (.int .i64 (pkF s q.at_))) [rdL s q]:=by
 obtain ⟨k,ba,bc⟩:=q
 have hb:=byte_bd s (k:Int)
 have w1:IntKind.i64.wrap (byteAt s (k:Int)) = byteAt s (k:Int):=w64 (by omega) (by omega)
 refine R_i [] [] c69_ok rfl (by simp) ?_
 unfold pkF
 by_cases h:k < s.size
 ·have h':(k:Int) < s.size:=by omega
  simp -implicitDefEqProofs (maxSteps:=2000000) only [c69,h',decide_true,w1,↓reduceIte,S0,St.init,enum,Nat.reduceEqDiff,reduceCtorEq,Int.reduceNeg]
  rw [if_pos h]
  exact ⟨by omega,rfl⟩
 ·have h':¬ (k:Int) < s.size:=by omega
  simp -implicitDefEqProofs (maxSteps:=2000000) only [c69,h',decide_false,↓reduceIte,S0,St.init,enum,Nat.reduceEqDiff,reduceCtorEq,Int.reduceNeg]
  rw [if_neg h]
theorem r92 (s:ByteArray) (q:Rd) (a e:Int):R X Tryz.prog 92 [.lf (.ptr 0 0),.lf (.int .i64 a),.lf (.int .i64 e)] [rdL s q] (.tp []) [rdL s (failF q a e)]:=by
 obtain ⟨k,ba,bc⟩:=q
 refine R_i [] [] c92_ok rfl (by simp) ?_
 unfold failF
 by_cases h:bc = 0
 ·subst h
  simp -implicitDefEqProofs (maxSteps:=2000000) only [c92,↓reduceIte,S0,St.init,enum,Nat.reduceEqDiff,Nat.reduceAdd,reduceCtorEq,PV.cells,cellL,fillL,Nat.reduceLeDiff,ne_eq]
 ·simp -implicitDefEqProofs (maxSteps:=2000000) only [c92,h,decide_false,↓reduceIte,S0,St.init,enum,Nat.reduceEqDiff,Nat.reduceAdd,reduceCtorEq]
theorem r111 (c:Int) (h0:0 ≤ c) (h1:c ≤ 255):R X Tryz.prog 111 [.lf (.int .u8 c)] [] (.lf (.int .i64 (hexF c))) []:=by
 refine R_i [] [] c111_ok rfl (by simp) ?_
 unfold hexF
 simp -implicitDefEqProofs (maxSteps:=2000000) only [c111,↓reduceIte,S0,St.init,enum,Nat.reduceEqDiff,reduceCtorEq,cond_false,Int.reduceNeg]
 by_cases a:48 ≤ c ∧ c ≤ 57
 ·rw [if_pos a.1,if_pos a.2,if_pos a,w8 (by omega) (by omega),w64 (by omega) (by omega)]
 ·rw [if_neg a]
  have fin:(if 97 ≤ c then if c ≤ 102 then IntKind.i64.wrap (IntKind.i64.wrap (IntKind.u8.wrap (c - 97)) + 10) = (if 97 ≤ c ∧ c ≤ 102 then c - 97 + 10 else -1) else -1 = (if 97 ≤ c ∧ c ≤ 102 then c - 97 + 10 else -1) else (-1:Int) = (if 97 ≤ c ∧ c ≤ 102 then c - 97 + 10 else -1)):=by
   by_cases b:97 ≤ c ∧ c ≤ 102
   ·rw [if_pos b.1,if_pos b.2,if_pos b,w8 (by omega) (by omega),w64 (x:=c - 97) (by omega) (by omega),w64 (by omega) (by omega)]
   ·rw [if_neg b]
    split
    ·rw [if_neg (by omega)]
    ·trivial
  split
  ·rw [if_neg (by omega)];exact fin
  ·exact fin
abbrev u4 (S:Nat → Nat):List L:=[.int .u64 (S 0:Nat),.int .u64 (S 1:Nat),.int .u64 (S 2:Nat),.int .u64 (S 3:Nat)]
def bd4 (S:Nat → Nat):Prop:=∀ q,S q < 2 ^ 64
def noS:Nat → Nat:=fun _=>0
def withS (S:Nat → Nat) (k:Nat):Nat → Nat:=fun q=>if k / 64 = q then S q ||| 2 ^ (k % 64) else S q
def uniS (S T:Nat → Nat):Nat → Nat:=fun q=>S q ||| T q
def lesS (S T:Nat → Nat):Nat → Nat:=fun q=>(bits .andNot .u64 (S q:Int) (T q:Int)).toNat
def spaS (lo:Nat):Nat → (Nat → Nat)
 | 0=>noS
 | n + 1=>withS (spaS lo n) (lo + n)
theorem bd_no:bd4 noS:=fun _=>by show 0 < _;decide
theorem bd_with {S:Nat → Nat} (h:bd4 S) (k:Nat):bd4 (withS S k):=fun q=>by
 unfold withS
 split
 ·exact Nat.or_lt_two_pow (h q) (Nat.pow_lt_pow_right (by decide) (Nat.mod_lt _ (by decide)))
 ·exact h q
theorem bd_uni {S T:Nat → Nat} (h:bd4 S) (h':bd4 T):bd4 (uniS S T):=fun q=>Nat.or_lt_two_pow (h q) (h' q)
theorem bd_spa (lo:Nat):∀ n,bd4 (spaS lo n)
 | 0=>bd_no
 | n + 1=>bd_with (bd_spa lo n) _
theorem or_u64 (x y:Nat) (hx:x < 2 ^ 64) (hy:y < 2 ^ 64):bits .or .u64 (x:Int) (y:Int) = ((x ||| y:Nat):Int):=by
 have h1:(BitVec.ofInt 64 (x:Int)).toNat = x:=by simp [BitVec.toNat_ofInt];omega
 have h2:(BitVec.ofInt 64 (y:Int)).toNat = y:=by simp [BitVec.toNat_ofInt];omega
 unfold bits
 simp only [BitVec.toNat_or]
 show IntKind.u64.wrap (((BitVec.ofInt 64 (x:Int)).toNat ||| (BitVec.ofInt 64 (y:Int)).toNat:Nat):Int) = _
 rw [h1,h2]
 exact wrap_u64 (Nat.or_lt_two_pow hx hy)
theorem r106 (S:Nat → Nat) (hS:bd4 S) (k:Nat) (hk:k < 256):R X Tryz.prog 106 [.ag (u4 S),.lf (.int .i64 k)] [] (.ag (u4 (withS S k))) []:=by
 have hq:∃ q:Nat,q < 4 ∧ IntKind.i64.wrap ((k:Int).tdiv 64) = (q:Int) ∧ k / 64 = q:=⟨k / 64,by omega,by rw [w64]<;>simp [Int.tdiv_eq_ediv]<;>omega,rfl⟩
 obtain ⟨q,hq4,e1,e2⟩:=hq
 have hm:0 ≤ (k:Int).tmod 64:=Int.tmod_nonneg _ (by omega)
 have hp:(2:Nat) ^ (k % 64) < 2 ^ 64:=Nat.pow_lt_pow_right (by decide) (Nat.mod_lt _ (by decide))
 have em:((k:Int).tmod 64).toNat = k % 64:=by rw [Int.tmod_eq_emod_of_nonneg (by omega)];omega
 have eO:∀ q,bits .or .u64 (S q:Int) (IntKind.u64.wrap (1 * 2 ^ min ((k:Int).tmod 64).toNat IntKind.u64.bits)) = ((S q ||| 2 ^ (k % 64):Nat):Int):=fun q=>by
  rw [em,show IntKind.u64.bits = 64 from rfl,show min (k % 64) 64 = k % 64 by omega,show (1:Int) * 2 ^ (k % 64) = ((2 ^ (k % 64):Nat):Int) by rw [Int.one_mul,Int.natCast_pow];rfl,wrap_u64 hp]
  exact or_u64 _ _ (hS q) hp
 have o0:=eO 0
 have o1:=eO 1
 have o2:=eO 2
 have o3:=eO 3
 clear eO em
 refine R_i [] [] c106_ok rfl (by simp) ?_
 unfold withS
 rcases (show q = 0 ∨ q = 1 ∨ q = 2 ∨ q = 3 by omega) with rfl | rfl | rfl | rfl
 all_goals (simp only [e2,if_true,reduceIte,Nat.reduceEqDiff];simp -implicitDefEqProofs (maxSteps:=2000000) only [c106,e1,o0,o1,o2,o3,Int.toNat_natCast,Nat.reduceMul,Nat.mul_one,List.getElem?_cons_zero,List.getElem?_cons_succ,↓reduceIte,S0,St.init,enum,Nat.reduceEqDiff,Nat.reduceAdd,reduceCtorEq,PV.cells,cellL,fillL,Nat.reduceBEq,Nat.reduceLeDiff,ne_eq])
 all_goals (refine ⟨by decide,⟨by decide,by decide⟩,by decide,hm,?_⟩;first | decide | (trace_state;sorry))
theorem r94 (lo hi:Nat) (hl:lo < 256) (hh:hi < 256):R X Tryz.prog 94 [.lf (.int .i64 lo),.lf (.int .i64 hi)] [] (.ag (u4 (spaS lo (hi + 1 - lo)))) []:=by
 have key:∀ (n m:Nat),n + m = hi + 1 - lo → LoopAt X Tryz.prog c94_4 [1,4,5,6] (blkK 0 (seqK X Tryz.prog c94_8 (retS [] [] 0 [RV.c 4 4 true] (.ag (u4 (spaS lo (hi + 1 - lo)))) [])))
   {m:=0,tm:=[(1,.lf (.int .i64 hi)),(4,.lf (.ptr 4 0)),(5,.lf (.ptr 5 0)),(6,.lf (.int .i64 (lo + m:Nat)))],ce:=[(4,u4 noS),(5,u4 (spaS lo m))] }:=by
  intro n
  induction n with
  | zero =>
   intro m hm
   obtain rfl:m = hi + 1 - lo:=by omega
   have hn:¬ ((lo + (hi + 1 - lo):Nat):Int) ≤ hi:=by omega
   intro Z hZ;apply hZ
   simp -implicitDefEqProofs (maxSteps:=2000000) only [c94,hn,decide_false,↓reduceIte,S0,Nat.reduceEqDiff,Nat.reduceAdd,PV.cells,cellL,fillL]
  | succ n ih =>
   intro m hm
   have hn:((lo + m:Nat):Int) ≤ hi:=by omega
   have h162:=r106 (X:=X) (spaS lo m) (bd_spa lo m) (lo + m) (by omega)
   have w1:IntKind.i64.wrap (((lo + m:Nat):Int) + 1) = ((lo + (m + 1):Nat):Int):=by rw [w64 (by omega) (by omega)];omega
   intro Z hZ;apply hZ
   have hz:=ih (m + 1) (by omega) Z hZ
   simp -implicitDefEqProofs (maxSteps:=2000000) only [c94,hn,decide_true,↓reduceIte,S0,Nat.reduceEqDiff,Nat.reduceAdd,PV.leaves]
   refine wcall_s h162 rfl rfl ?_
   simp -implicitDefEqProofs (maxSteps:=2000000) only [c94,w1,↓reduceIte,S0,Nat.reduceEqDiff,Nat.reduceAdd,St.clr,outV,ownsV,owns1,ownL,PV.cells,cellL,fillL,List.range_zero]
   exact hz
 refine R_i [] [] c94_ok rfl (by simp) ?_
 simp -implicitDefEqProofs (maxSteps:=2000000) only [c94,↓reduceIte,S0,St.init,enum,Nat.reduceEqDiff,reduceCtorEq,Nat.reduceBEq,List.range_zero]
 exact key (hi + 1 - lo) 0 rfl
theorem uni_cell (S T:Nat → Nat) (hS:bd4 S) (hT:bd4 T) (q:Nat):bits .or .u64 (S q:Int) (T q:Int) = ((uniS S T q:Nat):Int):=or_u64 _ _ (hS q) (hT q)
theorem r70 (S T:Nat → Nat) (hS:bd4 S) (hT:bd4 T):R X Tryz.prog 70 [.ag (u4 S),.ag (u4 T)] [] (.ag (u4 (uniS S T))) []:=by
 have o0:=uni_cell S T hS hT 0
 have o1:=uni_cell S T hS hT 1
 have o2:=uni_cell S T hS hT 2
 have o3:=uni_cell S T hS hT 3
 have w1:IntKind.i64.wrap 1 = 1:=by decide
 have w2:IntKind.i64.wrap 2 = 2:=by decide
 have w3:IntKind.i64.wrap 3 = 3:=by decide
 have w4:IntKind.i64.wrap 4 = 4:=by decide
 refine R_i [] [] c70_ok rfl (by simp) ?_
 simp -implicitDefEqProofs (maxSteps:=2000000) only [c70,↓reduceIte,S0,St.init,enum,Nat.reduceEqDiff,reduceCtorEq,Nat.reduceBEq,List.range_zero]
 intro Z hZ;apply hZ
 simp -implicitDefEqProofs (maxSteps:=2000000) only [c70,o0,o1,o2,o3,w1,w2,w3,w4,Int.reduceLT,Int.reduceAdd,Int.reduceToNat,Int.reduceLE,decide_true,decide_false,Nat.reduceLT,Nat.reduceAdd,Nat.mul_one,List.getElem?_cons_zero,List.getElem?_cons_succ,↓reduceIte,S0,Nat.reduceEqDiff,Nat.reduceAdd,PV.cells,cellL,fillL,Nat.reduceLeDiff,List.range_zero,Nat.reduceLT]
 refine ⟨by omega,by omega,by omega,?_⟩;apply hZ
 simp -implicitDefEqProofs (maxSteps:=2000000) only [c70,o0,o1,o2,o3,w1,w2,w3,w4,Int.reduceLT,Int.reduceAdd,Int.reduceToNat,Int.reduceLE,decide_true,decide_false,Nat.reduceLT,Nat.reduceAdd,Nat.mul_one,List.getElem?_cons_zero,List.getElem?_cons_succ,↓reduceIte,S0,Nat.reduceEqDiff,Nat.reduceAdd,PV.cells,cellL,fillL,Nat.reduceLeDiff,List.range_zero,Nat.reduceLT]
 refine ⟨by omega,by omega,by omega,?_⟩;apply hZ
 simp -implicitDefEqProofs (maxSteps:=2000000) only [c70,o0,o1,o2,o3,w1,w2,w3,w4,Int.reduceLT,Int.reduceAdd,Int.reduceToNat,Int.reduceLE,decide_true,decide_false,Nat.reduceLT,Nat.reduceAdd,Nat.mul_one,List.getElem?_cons_zero,List.getElem?_cons_succ,↓reduceIte,S0,Nat.reduceEqDiff,Nat.reduceAdd,PV.cells,cellL,fillL,Nat.reduceLeDiff,List.range_zero,Nat.reduceLT]
 refine ⟨by omega,by omega,by omega,?_⟩;apply hZ
 simp -implicitDefEqProofs (maxSteps:=2000000) only [c70,o0,o1,o2,o3,w1,w2,w3,w4,Int.reduceLT,Int.reduceAdd,Int.reduceToNat,Int.reduceLE,decide_true,decide_false,Nat.reduceLT,Nat.reduceAdd,Nat.mul_one,List.getElem?_cons_zero,List.getElem?_cons_succ,↓reduceIte,S0,Nat.reduceEqDiff,Nat.reduceAdd,PV.cells,cellL,fillL,List.range_zero,Nat.reduceLT]
 refine ⟨by omega,by omega,by omega,?_⟩;apply hZ
 simp -implicitDefEqProofs (maxSteps:=2000000) only [c70,o0,o1,o2,o3,w1,w2,w3,w4,Int.reduceLT,Int.reduceAdd,Int.reduceToNat,Int.reduceLE,decide_true,decide_false,Nat.reduceLT,Nat.reduceAdd,Nat.mul_one,List.getElem?_cons_zero,List.getElem?_cons_succ,↓reduceIte,S0,Nat.reduceEqDiff,Nat.reduceAdd,PV.cells,cellL,fillL,Nat.reduceLT]
theorem les_cell (S T:Nat → Nat) (q:Nat):bits .andNot .u64 (S q:Int) (T q:Int) = ((lesS S T q:Nat):Int) ∧ lesS S T q < 2 ^ 64:=by
 have h:0 ≤ bits .andNot .u64 (S q:Int) (T q:Int) ∧ bits .andNot .u64 (S q:Int) (T q:Int) < 2 ^ 64:=by
  unfold bits
  simp only [IntKind.wrap,IntKind.bits,IntKind.signed]
  simp
  omega
 unfold lesS
 omega
theorem bd_les (S T:Nat → Nat):bd4 (lesS S T):=fun q=>(les_cell S T q).2
theorem r110 (S T:Nat → Nat):R X Tryz.prog 110 [.ag (u4 S),.ag (u4 T)] [] (.ag (u4 (lesS S T))) []:=by
 have o0:=(les_cell S T 0).1
 have o1:=(les_cell S T 1).1
 have o2:=(les_cell S T 2).1
 have o3:=(les_cell S T 3).1
 have w1:IntKind.i64.wrap 1 = 1:=by decide
 have w2:IntKind.i64.wrap 2 = 2:=by decide
 have w3:IntKind.i64.wrap 3 = 3:=by decide
 have w4:IntKind.i64.wrap 4 = 4:=by decide
 refine R_i [] [] c110_ok rfl (by simp) ?_
 simp -implicitDefEqProofs (maxSteps:=2000000) only [c110,↓reduceIte,S0,St.init,enum,Nat.reduceEqDiff,reduceCtorEq,Nat.reduceBEq,List.range_zero]
 intro Z hZ;apply hZ
 simp -implicitDefEqProofs (maxSteps:=2000000) only [c110,o0,o1,o2,o3,w1,w2,w3,w4,Int.reduceLT,Int.reduceAdd,Int.reduceToNat,Int.reduceLE,decide_true,decide_false,Nat.reduceLT,Nat.reduceAdd,Nat.mul_one,List.getElem?_cons_zero,List.getElem?_cons_succ,↓reduceIte,S0,Nat.reduceEqDiff,Nat.reduceAdd,PV.cells,cellL,fillL,Nat.reduceLeDiff,List.range_zero,Nat.reduceLT]
 refine ⟨by omega,by omega,by omega,?_⟩;apply hZ
 simp -implicitDefEqProofs (maxSteps:=2000000) only [c110,o0,o1,o2,o3,w1,w2,w3,w4,Int.reduceLT,Int.reduceAdd,Int.reduceToNat,Int.reduceLE,decide_true,decide_false,Nat.reduceLT,Nat.reduceAdd,Nat.mul_one,List.getElem?_cons_zero,List.getElem?_cons_succ,↓reduceIte,S0,Nat.reduceEqDiff,Nat.reduceAdd,PV.cells,cellL,fillL,Nat.reduceLeDiff,List.range_zero,Nat.reduceLT]
 refine ⟨by omega,by omega,by omega,?_⟩;apply hZ
 simp -implicitDefEqProofs (maxSteps:=2000000) only [c110,o0,o1,o2,o3,w1,w2,w3,w4,Int.reduceLT,Int.reduceAdd,Int.reduceToNat,Int.reduceLE,decide_true,decide_false,Nat.reduceLT,Nat.reduceAdd,Nat.mul_one,List.getElem?_cons_zero,List.getElem?_cons_succ,↓reduceIte,S0,Nat.reduceEqDiff,Nat.reduceAdd,PV.cells,cellL,fillL,Nat.reduceLeDiff,List.range_zero,Nat.reduceLT]
 refine ⟨by omega,by omega,by omega,?_⟩;apply hZ
 simp -implicitDefEqProofs (maxSteps:=2000000) only [c110,o0,o1,o2,o3,w1,w2,w3,w4,Int.reduceLT,Int.reduceAdd,Int.reduceToNat,Int.reduceLE,decide_true,decide_false,Nat.reduceLT,Nat.reduceAdd,Nat.mul_one,List.getElem?_cons_zero,List.getElem?_cons_succ,↓reduceIte,S0,Nat.reduceEqDiff,Nat.reduceAdd,PV.cells,cellL,fillL,List.range_zero,Nat.reduceLT]
 refine ⟨by omega,by omega,by omega,?_⟩;apply hZ
 simp -implicitDefEqProofs (maxSteps:=2000000) only [c110,o0,o1,o2,o3,w1,w2,w3,w4,Int.reduceLT,Int.reduceAdd,Int.reduceToNat,Int.reduceLE,decide_true,decide_false,Nat.reduceLT,Nat.reduceAdd,Nat.mul_one,List.getElem?_cons_zero,List.getElem?_cons_succ,↓reduceIte,S0,Nat.reduceEqDiff,Nat.reduceAdd,PV.cells,cellL,fillL,Nat.reduceLT]
end Go.Proofs.YthcpaohmajjopaaGreatDoor.I
set_option linter.unusedVariables false
set_option linter.unusedSimpArgs false
namespace Go.Proofs.YthcpaohmajjopaaGreatDoor.I
open Go Go.Proofs.YthcpaohmajjopaaGreatDoor.AM
variable {X:Cx}
def hxF (s:ByteArray) (k:Nat):Int :=
 if k + 1 < s.size then (if 0 ≤ hexF (byteAt s (k:Int)) ∧ 0 ≤ hexF (byteAt s ((k + 1:Nat):Int)) then 16 * hexF (byteAt s (k:Int)) + hexF (byteAt s ((k + 1:Nat):Int)) else -1) else -1
def escF (s:ByteArray) (q:Rd):Int × Rd :=
 if pkF s (q.at_ + 1) = 110 then (10,⟨q.at_ + 2,q.ba,q.bc⟩) else if pkF s (q.at_ + 1) = 114 then (13,⟨q.at_ + 2,q.ba,q.bc⟩) else if pkF s (q.at_ + 1) = 116 then (9,⟨q.at_ + 2,q.ba,q.bc⟩) else
 if pkF s (q.at_ + 1) = 92 ∨ pkF s (q.at_ + 1) = 93 ∨ pkF s (q.at_ + 1) = 91 ∨ pkF s (q.at_ + 1) = 94 ∨ pkF s (q.at_ + 1) = 45 ∨ pkF s (q.at_ + 1) = 37 then (pkF s (q.at_ + 1),⟨q.at_ + 2,q.ba,q.bc⟩) else
 if pkF s (q.at_ + 1) = 120 ∧ 0 ≤ hxF s (q.at_ + 2) then (hxF s (q.at_ + 2),⟨q.at_ + 4,q.ba,q.bc⟩) else (0,failF ⟨q.at_ + 2,q.ba,q.bc⟩ q.at_ 6)
theorem hexF_bd (c:Int):-1 ≤ hexF c ∧ hexF c ≤ 15:=by
 unfold hexF
 split
 ·omega
 ·split<;>omega
theorem r105 (s:ByteArray) (q:Rd) (hq:q.at_ ≤ 1000000000000000000):R X Tryz.prog 105 [.lf (.ptr 0 0)] [rdL s q] (.lf (.int .i64 (escF s q).1)) [rdL s (escF s q).2]:=by
 obtain ⟨k,ba,bc⟩:=q
 simp only at hq
 have h151:=r69 (X:=X) s ⟨k + 1,ba,bc⟩
 have h159:=r92 (X:=X) s ⟨k + 2,ba,bc⟩ (k:Nat) 6
 have w1:IntKind.i64.wrap ((k:Int) + 1) = ((k + 1:Nat):Int):=by rw [w64 (by omega) (by omega)];omega
 have w2:IntKind.i64.wrap (((k + 1:Nat):Int) + 1) = ((k + 2:Nat):Int):=by rw [w64 (by omega) (by omega)];omega
 have w3:IntKind.i64.wrap (((k + 2:Nat):Int) + 1) = ((k + 3:Nat):Int):=by rw [w64 (by omega) (by omega)];omega
 have w4:IntKind.i64.wrap (((k + 2:Nat):Int) + 2) = ((k + 4:Nat):Int):=by rw [w64 (by omega) (by omega)];omega
 generalize hr:escF s ⟨k,ba,bc⟩ = r
 unfold escF at hr
 obtain ⟨v,q'⟩:=r
 simp only at h151 h159 hr ⊢
 generalize pkF s (k + 1) = b at *
 refine R_i [] [] c105_ok rfl (by simp) ?_
 simp -implicitDefEqProofs (maxSteps:=2000000) only [c105,w1,↓reduceIte,S0,St.init,enum,Nat.reduceEqDiff,Nat.reduceAdd,reduceCtorEq,PV.leaves,PV.cells,cellL,fillL,Nat.reduceLeDiff]
 refine pcall_i h151 rfl rfl ?_
 simp -implicitDefEqProofs (maxSteps:=2000000) only [c105,w2,↓reduceIte,S0,Nat.reduceEqDiff,Nat.reduceAdd,reduceCtorEq,outV,ownsV,owns1,ownL,PV.leaves,PV.cells,cellL,fillL,Nat.reduceLeDiff]
 by_cases b1:b = 110
 ·rw [if_pos b1] at hr ⊢;cases hr;exact ⟨rfl,rfl,rfl,rfl⟩
 rw [if_neg b1] at hr ⊢
 by_cases b2:b = 114
 ·rw [if_pos b2] at hr ⊢;cases hr;exact ⟨rfl,rfl,rfl,rfl⟩
 rw [if_neg b2] at hr ⊢
 by_cases b3:b = 116
 ·rw [if_pos b3] at hr ⊢;cases hr;exact ⟨rfl,rfl,rfl,rfl⟩
 rw [if_neg b3] at hr ⊢
 by_cases d92:b = 92
 ·subst d92
  rw [if_pos (by decide)] at hr
  cases hr
  simp only [if_true]
  first | trivial | exact ⟨rfl,rfl,rfl,rfl⟩ | simp
 rw [if_neg d92]
 by_cases d93:b = 93
 ·subst d93
  rw [if_pos (by decide)] at hr
  cases hr
  simp only [if_true]
  first | trivial | exact ⟨rfl,rfl,rfl,rfl⟩ | simp
 rw [if_neg d93]
 by_cases d91:b = 91
 ·subst d91
  rw [if_pos (by decide)] at hr
  cases hr
  simp only [if_true]
  first | trivial | exact ⟨rfl,rfl,rfl,rfl⟩ | simp
 rw [if_neg d91]
 by_cases d94:b = 94
 ·subst d94
  rw [if_pos (by decide)] at hr
  cases hr
  simp only [if_true]
  first | trivial | exact ⟨rfl,rfl,rfl,rfl⟩ | simp
 rw [if_neg d94]
 by_cases d45:b = 45
 ·subst d45
  rw [if_pos (by decide)] at hr
  cases hr
  simp only [if_true]
  first | trivial | exact ⟨rfl,rfl,rfl,rfl⟩ | simp
 rw [if_neg d45]
 by_cases d37:b = 37
 ·subst d37
  rw [if_pos (by decide)] at hr
  cases hr
  simp only [if_true]
  first | trivial | exact ⟨rfl,rfl,rfl,rfl⟩ | simp
 rw [if_neg d37]
 rw [if_neg (by omega)] at hr
 by_cases b4:b = 120
 ·subst b4
  rw [if_pos rfl,w3]
  have hx0:=byte_bd s ((k + 2:Nat):Int)
  have hx1:=byte_bd s ((k + 3:Nat):Int)
  have h170:=r111 (X:=X) (byteAt s ((k + 2:Nat):Int)) hx0.1 hx0.2
  have h170':=r111 (X:=X) (byteAt s ((k + 3:Nat):Int)) hx1.1 hx1.2
  by_cases hk:k + 3 < s.size
  ·have hk':((k + 3:Nat):Int) < s.size:=by omega
   rw [if_pos hk']
   refine ⟨⟨by omega,by omega⟩,?_⟩
   refine wcallq_i h170 rfl ?_
   simp -implicitDefEqProofs (maxSteps:=2000000) only [c105,w3,↓reduceIte,S0,Nat.reduceEqDiff,reduceCtorEq]
   refine ⟨⟨by omega,by omega⟩,?_⟩
   refine wcallq_i h170' rfl ?_
   have hxf:hxF s (k + 2) = if 0 ≤ hexF (byteAt s ((k + 2:Nat):Int)) ∧ 0 ≤ hexF (byteAt s ((k + 3:Nat):Int)) then 16 * hexF (byteAt s ((k + 2:Nat):Int)) + hexF (byteAt s ((k + 3:Nat):Int)) else -1:=by unfold hxF;rw [if_pos (by omega)]
   have hb0:=hexF_bd (byteAt s ((k + 2:Nat):Int))
   have hb1:=hexF_bd (byteAt s ((k + 3:Nat):Int))
   rw [hxf] at hr
   generalize hexF (byteAt s ((k + 2:Nat):Int)) = x at *
   generalize hexF (byteAt s ((k + 3:Nat):Int)) = y at *
   simp -implicitDefEqProofs (maxSteps:=2000000) only [c105,↓reduceIte,S0,Nat.reduceEqDiff,Nat.reduceAdd,reduceCtorEq,cond_false,PV.leaves,PV.cells,cellL,fillL,Nat.reduceLeDiff,nO_i]
   by_cases hxy:0 ≤ x ∧ 0 ≤ y
   ·rw [if_pos hxy,if_pos (by omega)] at hr
    cases hr
    rw [if_pos hxy.1,if_pos hxy.2,w4,w64 (x:=16 * x) (by omega) (by omega),w64 (by omega) (by omega)]
    exact ⟨rfl,rfl,rfl,rfl⟩
   ·rw [if_neg hxy,if_neg (by omega)] at hr
    cases hr
    split
    ·rw [if_neg (by omega)]
     refine pcall_i h159 rfl rfl ?_
     simp -implicitDefEqProofs (maxSteps:=2000000) only [c105,↓reduceIte,S0,outV,ownsV]
    ·refine pcall_i h159 rfl rfl ?_
     simp -implicitDefEqProofs (maxSteps:=2000000) only [c105,↓reduceIte,S0,outV,ownsV]
  ·have hk':¬ ((k + 3:Nat):Int) < s.size:=by omega
   have hxf:hxF s (k + 2) = -1:=by unfold hxF;rw [if_neg (by omega)]
   rw [if_neg hk']
   rw [hxf,if_neg (by omega)] at hr
   cases hr
   refine pcall_i h159 rfl rfl ?_
   simp -implicitDefEqProofs (maxSteps:=2000000) only [c105,↓reduceIte,S0,outV,ownsV]
 ·rw [if_neg b4]
  rw [if_neg (by omega)] at hr
  cases hr
  refine pcall_i h159 rfl rfl ?_
  simp -implicitDefEqProofs (maxSteps:=2000000) only [c105,↓reduceIte,S0,outV,ownsV]
theorem fail_at (q:Rd) (a e:Int):(failF q a e).at_ = q.at_:=by unfold failF;split<;>rfl
theorem esc_at (s:ByteArray) (q:Rd):(escF s q).2.at_ ≤ q.at_ + 4 ∧ q.at_ + 2 ≤ (escF s q).2.at_:=by
 unfold escF
 (repeat' split)<;>first | (simp only;omega) | (simp only [fail_at];omega)
def itmF (s:ByteArray) (q:Rd):Int × Rd :=
 if pkF s q.at_ = 92 then escF s q else if pkF s q.at_ < 32 ∨ 126 < pkF s q.at_ ∨ pkF s q.at_ = 93 ∨ pkF s q.at_ = 45 ∨ pkF s q.at_ = 37 then (0,failF q q.at_ 6) else (pkF s q.at_,⟨q.at_ + 1,q.ba,q.bc⟩)
theorem itm_at (s:ByteArray) (q:Rd):(itmF s q).2.at_ ≤ q.at_ + 4 ∧ q.at_ ≤ (itmF s q).2.at_:=by
 unfold itmF
 have:=esc_at s q
 (repeat' split)<;>first | omega | (simp only;omega) | (simp only [fail_at];omega)
theorem r93 (s:ByteArray) (q:Rd) (hq:q.at_ ≤ 1000000000000000000):R X Tryz.prog 93 [.lf (.ptr 0 0)] [rdL s q] (.lf (.int .i64 (itmF s q).1)) [rdL s (itmF s q).2]:=by
 have h151:=r69 (X:=X) s q
 have h159:=r92 (X:=X) s q (q.at_:Nat) 6
 have h166:=r105 (X:=X) s q hq
 generalize hr:itmF s q = r
 unfold itmF at hr
 generalize escF s q = es at *
 generalize pkF s q.at_ = b at *
 obtain ⟨v,q'⟩:=r
 obtain ⟨k,ba,bc⟩:=q
 simp only at hq h151 h159 hr
 have w1:IntKind.i64.wrap ((k:Int) + 1) = ((k + 1:Nat):Int):=by rw [w64 (by omega) (by omega)];omega
 refine R_i [] [] c93_ok rfl (by simp) ?_
 simp -implicitDefEqProofs (maxSteps:=2000000) only [c93,↓reduceIte,S0,St.init,enum,reduceCtorEq,PV.leaves]
 refine pcall_i h151 rfl rfl ?_
 by_cases b1:b = 92
 ·subst b1
  rw [if_pos rfl] at hr
  subst hr
  simp -implicitDefEqProofs (maxSteps:=2000000) only [c93,↓reduceIte,S0,Nat.reduceEqDiff,reduceCtorEq,outV,ownsV,owns1,ownL,PV.leaves]
  refine pcall_i h166 rfl rfl ?_
  simp -implicitDefEqProofs (maxSteps:=2000000) only [c93,↓reduceIte,S0,outV,ownsV,owns1,ownL]
 ·rw [if_neg b1] at hr
  simp -implicitDefEqProofs (maxSteps:=2000000) only [c93,b1,w1,↓reduceIte,S0,Nat.reduceEqDiff,Nat.reduceAdd,reduceCtorEq,cond_false,outV,ownsV,owns1,ownL,PV.leaves,PV.cells,cellL,fillL,Nat.reduceLeDiff,ite_not]
  by_cases h:b < 32 ∨ 126 < b ∨ b = 93 ∨ b = 45 ∨ b = 37
  ·rw [if_pos h] at hr
   cases hr
   repeat' (with_reducible refine ite_pr (fun _=>?_) (fun _=>?_))
   all_goals first
    |(refine pcall_i h159 rfl rfl ?_;simp -implicitDefEqProofs (maxSteps:=2000000) only [c93,↓reduceIte,S0,outV,ownsV];done)
    |(exfalso;omega)
  ·rw [if_neg h] at hr
   cases hr
   rw [if_neg (by omega),if_neg (by omega),if_neg (by omega),if_neg (by omega),if_neg (by omega)]
   exact ⟨rfl,rfl,rfl,rfl⟩
end Go.Proofs.YthcpaohmajjopaaGreatDoor.I
set_option linter.unusedVariables false
set_option linter.unusedSimpArgs false
namespace Go.Proofs.YthcpaohmajjopaaGreatDoor.I
open Go Go.Proofs.YthcpaohmajjopaaGreatDoor.AM
variable {X:Cx}
abbrev lowS:Nat → Nat:=spaS 97 26
abbrev uppS:Nat → Nat:=spaS 65 26
abbrev digS:Nat → Nat:=spaS 48 10
abbrev alpS:Nat → Nat:=uniS uppS lowS
def smlF (c:Int):(Nat → Nat) × Bool :=
 if c = 97 then (alpS,true) else if c = 99 then (withS (spaS 0 32) 127,true) else if c = 100 then (digS,true) else if c = 103 then (spaS 33 94,true) else if c = 108 then (lowS,true)
 else if c = 112 then (lesS (spaS 33 94) (uniS alpS digS),true) else if c = 115 then (withS (spaS 9 5) 32,true) else if c = 117 then (uppS,true) else if c = 119 then (uniS alpS digS,true)
 else if c = 120 then (uniS digS (uniS (spaS 65 6) (spaS 97 6)),true) else (noS,false)
theorem bd_sml (c:Int):bd4 (smlF c).1:=by
 unfold smlF
 (repeat' split)<;>first | exact bd_no | exact bd_spa _ _ | exact bd_with (bd_spa _ _) _ | exact bd_les _ _ | exact bd_uni (bd_spa _ _) (bd_spa _ _) | exact bd_uni (bd_uni (bd_spa _ _) (bd_spa _ _)) (bd_spa _ _) | exact bd_uni (bd_spa _ _) (bd_uni (bd_spa _ _) (bd_spa _ _))
theorem r104 (c:Int):R X Tryz.prog 104 [.lf (.int .u8 c)] [] (.tp [.ag (u4 (smlF c).1),.lf (.bool (smlF c).2)]) []:=by
 have a1:=r94 (X:=X) 65 90 (by decide) (by decide)
 have a2:=r94 (X:=X) 97 122 (by decide) (by decide)
 have a3:=r94 (X:=X) 48 57 (by decide) (by decide)
 have a4:=r70 (X:=X) uppS lowS (bd_spa _ _) (bd_spa _ _)
 have b1:=r94 (X:=X) 0 31 (by decide) (by decide)
 have b2:=r106 (X:=X) (spaS 0 32) (bd_spa _ _) 127 (by decide)
 have b3:=r94 (X:=X) 33 126 (by decide) (by decide)
 have b4:=r70 (X:=X) alpS digS (bd_uni (bd_spa _ _) (bd_spa _ _)) (bd_spa _ _)
 have b5:=r110 (X:=X) (spaS 33 94) (uniS alpS digS)
 have b6:=r94 (X:=X) 9 13 (by decide) (by decide)
 have b7:=r106 (X:=X) (spaS 9 5) (bd_spa _ _) 32 (by decide)
 have b8:=r94 (X:=X) 65 70 (by decide) (by decide)
 have b9:=r94 (X:=X) 97 102 (by decide) (by decide)
 have e1:=r70 (X:=X) (spaS 65 6) (spaS 97 6) (bd_spa _ _) (bd_spa _ _)
 have e2:=r70 (X:=X) digS (uniS (spaS 65 6) (spaS 97 6)) (bd_spa _ _) (bd_uni (bd_spa _ _) (bd_spa _ _))
 generalize hr:smlF c = r
 unfold smlF at hr
 obtain ⟨S,ok⟩:=r
 simp only [Nat.reduceAdd,Nat.reduceSub] at a1 a2 a3 b1 b3 b6 b8 b9 ⊢
 refine R_i [] [] c104_ok rfl (by simp) ?_
 simp -implicitDefEqProofs (maxSteps:=2000000) only [c104,↓reduceIte,S0,St.init,enum,Nat.reduceEqDiff,reduceCtorEq,PV.leaves]
 refine wcall_s a1 rfl rfl ?_
 simp -implicitDefEqProofs (maxSteps:=2000000) only [c104,↓reduceIte,S0,St.clr,outV,ownsV,owns1,ownL,PV.leaves]
 refine wcall_s a2 rfl rfl ?_
 simp -implicitDefEqProofs (maxSteps:=2000000) only [c104,↓reduceIte,S0,St.clr,outV,ownsV,owns1,ownL,PV.leaves]
 refine wcall_s a3 rfl rfl ?_
 simp -implicitDefEqProofs (maxSteps:=2000000) only [c104,↓reduceIte,S0,Nat.reduceEqDiff,Nat.reduceAdd,reduceCtorEq,St.clr,outV,ownsV,owns1,ownL,PV.leaves,PV.cells,cellL,fillL,Nat.reduceBEq]
 refine wcall_s a4 rfl rfl ?_
 simp -implicitDefEqProofs (maxSteps:=2000000) only [c104,↓reduceIte,S0,Nat.reduceEqDiff,Nat.reduceAdd,reduceCtorEq,St.clr,outV,ownsV,owns1,ownL,PV.leaves,PV.cells,cellL,fillL,Nat.reduceBEq,cg_i]
 by_cases h:c = 97
 ·subst h;rw [if_pos rfl] at hr ⊢;cases hr;simp
 rw [if_neg h] at hr ⊢
 by_cases h:c = 99
 ·subst h;rw [if_pos rfl] at hr ⊢;cases hr
  refine wcall_s b1 rfl rfl ?_
  simp -implicitDefEqProofs (maxSteps:=2000000) only [c104,↓reduceIte,S0,St.clr,outV,ownsV,owns1,ownL,PV.leaves]
  refine wcall_s b2 rfl rfl ?_
  simp -implicitDefEqProofs (maxSteps:=2000000) only [c104,↓reduceIte,S0,Nat.reduceEqDiff,Nat.reduceAdd,St.clr,outV,ownsV,owns1,ownL,PV.cells,cellL,fillL]
 rw [if_neg h] at hr ⊢
 by_cases h:c = 100
 ·subst h;rw [if_pos rfl] at hr ⊢;cases hr;simp
 rw [if_neg h] at hr ⊢
 by_cases h:c = 103
 ·subst h;rw [if_pos rfl] at hr ⊢;cases hr
  refine wcall_s b3 rfl rfl ?_
  simp -implicitDefEqProofs (maxSteps:=2000000) only [c104,↓reduceIte,S0,Nat.reduceEqDiff,Nat.reduceAdd,St.clr,outV,ownsV,owns1,ownL,PV.cells,cellL,fillL]
 rw [if_neg h] at hr ⊢
 by_cases h:c = 108
 ·subst h;rw [if_pos rfl] at hr ⊢;cases hr;simp
 rw [if_neg h] at hr ⊢
 by_cases h:c = 112
 ·subst h;rw [if_pos rfl] at hr ⊢;cases hr
  simp -implicitDefEqProofs (maxSteps:=2000000) only [c104,List.contains_cons,List.contains_nil,Nat.reduceBEq,Bool.or_self,Bool.false_or,Bool.or_false,Bool.true_or,Bool.or_true,↓reduceIte,S0,Nat.reduceEqDiff,Nat.reduceAdd,PV.leaves,Nat.reduceBEq,or_false]
  refine wcall_s b3 rfl rfl ?_
  simp -implicitDefEqProofs (maxSteps:=2000000) only [c104,↓reduceIte,S0,Nat.reduceEqDiff,St.clr,outV,ownsV,owns1,ownL,PV.leaves]
  refine wcall_s b4 rfl rfl ?_
  simp -implicitDefEqProofs (maxSteps:=2000000) only [c104,↓reduceIte,S0,Nat.reduceEqDiff,St.clr,outV,ownsV,owns1,ownL,PV.leaves]
  refine wcall_s b5 rfl rfl ?_
  simp -implicitDefEqProofs (maxSteps:=2000000) only [c104,↓reduceIte,S0,Nat.reduceEqDiff,Nat.reduceAdd,St.clr,outV,ownsV,owns1,ownL,PV.cells,cellL,fillL]
 rw [if_neg h] at hr ⊢
 by_cases h:c = 115
 ·subst h;rw [if_pos rfl] at hr ⊢;cases hr
  refine wcall_s b6 rfl rfl ?_
  simp -implicitDefEqProofs (maxSteps:=2000000) only [c104,↓reduceIte,S0,St.clr,outV,ownsV,owns1,ownL,PV.leaves]
  refine wcall_s b7 rfl rfl ?_
  simp -implicitDefEqProofs (maxSteps:=2000000) only [c104,↓reduceIte,S0,Nat.reduceEqDiff,Nat.reduceAdd,St.clr,outV,ownsV,owns1,ownL,PV.cells,cellL,fillL]
 rw [if_neg h] at hr ⊢
 by_cases h:c = 117
 ·subst h;rw [if_pos rfl] at hr ⊢;cases hr;simp
 rw [if_neg h] at hr ⊢
 by_cases h:c = 119
 ·subst h;rw [if_pos rfl] at hr ⊢;cases hr
  refine wcall_s b4 rfl rfl ?_
  simp -implicitDefEqProofs (maxSteps:=2000000) only [c104,↓reduceIte,S0,Nat.reduceEqDiff,Nat.reduceAdd,St.clr,outV,ownsV,owns1,ownL,PV.cells,cellL,fillL]
 rw [if_neg h] at hr ⊢
 by_cases h:c = 120
 ·subst h;rw [if_pos rfl] at hr ⊢;cases hr
  simp -implicitDefEqProofs (maxSteps:=2000000) only [c104,List.contains_cons,List.contains_nil,Nat.reduceBEq,Bool.or_self,Bool.false_or,Bool.or_false,Bool.true_or,Bool.or_true,↓reduceIte,S0,Nat.reduceAdd,PV.leaves,Nat.reduceBEq,or_false]
  refine wcall_s b8 rfl rfl ?_
  simp -implicitDefEqProofs (maxSteps:=2000000) only [c104,↓reduceIte,S0,Nat.reduceEqDiff,St.clr,outV,ownsV,owns1,ownL,PV.leaves]
  refine wcall_s b9 rfl rfl ?_
  simp -implicitDefEqProofs (maxSteps:=2000000) only [c104,↓reduceIte,S0,Nat.reduceEqDiff,St.clr,outV,ownsV,owns1,ownL,PV.leaves]
  refine wcall_s e1 rfl rfl ?_
  simp -implicitDefEqProofs (maxSteps:=2000000) only [c104,↓reduceIte,S0,Nat.reduceEqDiff,St.clr,outV,ownsV,owns1,ownL,PV.leaves]
  refine wcall_s e2 rfl rfl ?_
  simp -implicitDefEqProofs (maxSteps:=2000000) only [c104,↓reduceIte,S0,Nat.reduceEqDiff,Nat.reduceAdd,St.clr,outV,ownsV,owns1,ownL,PV.cells,cellL,fillL]
 rw [if_neg h] at hr ⊢
 cases hr
 exact ⟨⟨rfl,rfl,rfl,rfl⟩,rfl⟩
def notS (S:Nat → Nat):Nat → Nat:=fun q=>notW (S q)
theorem bd_not (S:Nat → Nat):bd4 (notS S):=fun q=>by show 18446744073709551615 - S q < _;omega
theorem r60s (S:Nat → Nat) (hS:bd4 S):R X Tryz.prog 60 [.ag (u4 S)] [] (.ag (u4 (notS S))) []:=r60 _ _ _ _ (hS 0) (hS 1) (hS 2) (hS 3)
def clsF (c:Int):(Nat → Nat) × Int :=
 if (smlF c).2 = true then ((smlF c).1,0) else if 65 ≤ c ∧ c ≤ 90 ∧ (smlF (c + 32)).2 = true then (notS (smlF (c + 32)).1,0) else (noS,10)
theorem bd_cls (c:Int):bd4 (clsF c).1:=by
 unfold clsF
 (repeat' split)<;>first | exact bd_sml _ | exact bd_not _ | exact bd_no
theorem r91 (c:Int) (h0:0 ≤ c) (h1:c ≤ 255):R X Tryz.prog 91 [.lf (.int .u8 c)] [] (.tp [.ag (u4 (clsF c).1),.lf (.int .i64 (clsF c).2)]) []:=by
 have a1:=r104 (X:=X) c
 have a2:=r104 (X:=X) (c + 32)
 have a3:=r60s (X:=X) (smlF (c + 32)).1 (bd_sml _)
 generalize hr:clsF c = r
 unfold clsF at hr
 generalize smlF c = S1 at *
 generalize smlF (c + 32) = S2 at *
 obtain ⟨S1,o1⟩:=S1
 obtain ⟨S2,o2⟩:=S2
 obtain ⟨S,e⟩:=r
 simp only at hr a1 a2 a3 ⊢
 refine R_i [] [] c91_ok rfl (by simp) ?_
 simp -implicitDefEqProofs (maxSteps:=2000000) only [c91,↓reduceIte,S0,St.init,enum,Nat.reduceEqDiff,reduceCtorEq,PV.leaves]
 refine wcall_s a1 rfl rfl ?_
 simp -implicitDefEqProofs (maxSteps:=2000000) only [c91,↓reduceIte,S0,Nat.reduceEqDiff,Nat.reduceAdd,reduceCtorEq,cond_false,St.clr,outV,ownsV,owns1,ownL,PV.leaves,PV.cells,cellL,fillL,Nat.reduceBEq]
 cases o1 with
 | true =>
  rw [if_pos rfl] at hr ⊢
  cases hr
  exact ⟨⟨rfl,rfl,rfl,rfl⟩,rfl⟩
 | false =>
  rw [if_neg (by decide)] at hr ⊢
  by_cases h:65 ≤ c ∧ c ≤ 90
  ·rw [if_pos h.1,if_pos h.2]
   have w1:IntKind.u8.wrap (c + 32) = c + 32:=w8 (by omega) (by omega)
   rw [w1]
   refine wcall_s a2 rfl rfl ?_
   simp -implicitDefEqProofs (maxSteps:=2000000) only [c91,↓reduceIte,S0,Nat.reduceEqDiff,Nat.reduceAdd,reduceCtorEq,St.clr,outV,ownsV,owns1,ownL,PV.leaves,PV.cells,cellL,fillL,Nat.reduceBEq]
   cases o2 with
   | true =>
    rw [if_pos ⟨h.1,h.2,rfl⟩] at hr
    cases hr
    rw [if_pos rfl]
    refine wcall_s a3 rfl rfl ?_
    simp -implicitDefEqProofs (maxSteps:=2000000) only [c91,↓reduceIte,S0,Nat.reduceEqDiff,Nat.reduceAdd,St.clr,outV,ownsV,owns1,ownL,PV.cells,cellL,fillL]
   | false =>
    rw [if_neg (fun k=>by cases k.2.2)] at hr
    cases hr
    rw [if_neg (by decide)]
    exact ⟨⟨rfl,rfl,rfl,rfl⟩,rfl⟩
  ·rw [if_neg (fun k=>h ⟨k.1,k.2.1⟩)] at hr
   cases hr
   repeat' (with_reducible refine ite_pr (fun _=>?_) (fun _=>?_))
   all_goals first
    | exact ⟨⟨rfl,rfl,rfl,rfl⟩,rfl⟩
    |(exfalso;omega)
end Go.Proofs.YthcpaohmajjopaaGreatDoor.I
set_option linter.unusedVariables false
set_option linter.unusedSimpArgs false
namespace Go.Proofs.YthcpaohmajjopaaGreatDoor.I
open Go Go.Proofs.YthcpaohmajjopaaGreatDoor.AM
variable {X:Cx}
def nB (z:Int):Nat:=z.toNat
def spnF (lo hi:Int):Nat → Nat:=spaS lo.toNat (hi.toNat + 1 - lo.toNat)
def memC (s:ByteArray) (q:Rd):(Nat → Nat) × Rd :=
 if 0 ≤ pkF s (q.at_ + 1) then
  (if (clsF (pkF s (q.at_ + 1))).2 = 0 then ((clsF (pkF s (q.at_ + 1))).1,⟨q.at_ + 2,q.ba,q.bc⟩)
   else ((clsF (pkF s (q.at_ + 1))).1,⟨q.at_ + 2,(failF q q.at_ (clsF (pkF s (q.at_ + 1))).2).ba,(failF q q.at_ (clsF (pkF s (q.at_ + 1))).2).bc⟩))
 else (noS,⟨q.at_ + 2,(failF q q.at_ 10).ba,(failF q q.at_ 10).bc⟩)
def mem2 (s:ByteArray) (a:Nat) (lo:Int × Rd):(Nat → Nat) × Rd :=
 if lo.2.bc = 0 ∧ pkF s lo.2.at_ = 45 then
  (let hi:=itmF s ⟨lo.2.at_ + 1,lo.2.ba,lo.2.bc⟩
   if hi.2.bc = 0 ∧ hi.1 < lo.1 then (spnF lo.1 hi.1,failF hi.2 a 1) else (spnF lo.1 hi.1,hi.2))
 else (spnF lo.1 lo.1,lo.2)
def memF (s:ByteArray) (q:Rd):(Nat → Nat) × Rd:=if pkF s q.at_ = 37 then memC s q else mem2 s q.at_ (itmF s q)
theorem pk_bd (s:ByteArray) (k:Nat):-1 ≤ pkF s k ∧ pkF s k ≤ 255:=by
 unfold pkF
 have:=byte_bd s (k:Int)
 split<;>omega
theorem hx_bd (s:ByteArray) (k:Nat):-1 ≤ hxF s k ∧ hxF s k ≤ 255:=by
 unfold hxF
 have h0:=hexF_bd (byteAt s (k:Int))
 have h1:=hexF_bd (byteAt s ((k + 1:Nat):Int))
 (repeat' split)<;>omega
theorem esc_bd (s:ByteArray) (q:Rd):0 ≤ (escF s q).1 ∧ (escF s q).1 ≤ 255:=by
 unfold escF
 have:=pk_bd s (q.at_ + 1)
 have:=hx_bd s (q.at_ + 2)
 (repeat' split)<;>simp only<;>omega
theorem itm_bd (s:ByteArray) (q:Rd):0 ≤ (itmF s q).1 ∧ (itmF s q).1 ≤ 255:=by
 unfold itmF
 have:=pk_bd s q.at_
 have:=esc_bd s q
 (repeat' split)<;>first | omega | (simp only;omega)
theorem bd_spn (lo hi:Int):bd4 (spnF lo hi):=bd_spa _ _
theorem bd_mem (s:ByteArray) (q:Rd):bd4 (memF s q).1:=by
 unfold memF memC mem2
 simp only
 (repeat' split)<;>first | exact bd_cls _ | exact bd_no | exact bd_spn _ _
theorem mem_at (s:ByteArray) (q:Rd):(memF s q).2.at_ ≤ q.at_ + 12 ∧ q.at_ ≤ (memF s q).2.at_:=by
 have h1:=itm_at s q
 have h2:=itm_at s ⟨(itmF s q).2.at_ + 1,(itmF s q).2.ba,(itmF s q).2.bc⟩
 unfold memF memC mem2
 simp only at h2 ⊢
 (repeat' split)<;>(simp only [fail_at];omega)
theorem r94i (lo hi:Int) (l0:0 ≤ lo) (l1:lo ≤ 255) (h0:0 ≤ hi) (h1:hi ≤ 255):R X Tryz.prog 94 [.lf (.int .i64 lo),.lf (.int .i64 hi)] [] (.ag (u4 (spnF lo hi))) []:=by
 have:=r94 (X:=X) lo.toNat hi.toNat (by omega) (by omega)
 rwa [Int.toNat_of_nonneg l0,Int.toNat_of_nonneg h0] at this
theorem r71 (s:ByteArray) (q:Rd) (hq:q.at_ ≤ 100000000000000000):R X Tryz.prog 71 [.lf (.ptr 0 0)] [rdL s q] (.ag (u4 (memF s q).1)) [rdL s (memF s q).2]:=by
 have h151:=r69 (X:=X) s q
 have h160:=r93 (X:=X) s q (by omega)
 have w1:IntKind.i64.wrap ((q.at_:Int) + 1) = ((q.at_ + 1:Nat):Int):=by rw [w64 (by omega) (by omega)];omega
 generalize hr:memF s q = r
 unfold memF at hr
 have hb:=pk_bd s q.at_
 obtain ⟨S,q'⟩:=r
 refine R_i [] [] c71_ok rfl (by simp) ?_
 simp -implicitDefEqProofs (maxSteps:=2000000) only [c71,↓reduceIte,S0,St.init,enum,Nat.reduceEqDiff,reduceCtorEq,PV.leaves,Nat.reduceBEq,Nat.reduceLeDiff]
 refine pcall_i h151 rfl rfl ?_
 by_cases hp:pkF s q.at_ = 37
 ·rw [if_pos hp] at hr
  simp -implicitDefEqProofs (maxSteps:=2000000) only [c71,hp,w1,↓reduceIte,S0,Nat.reduceEqDiff,Nat.reduceAdd,reduceCtorEq,outV,ownsV,owns1,ownL,PV.leaves,PV.cells,cellL,fillL,Nat.reduceBEq,Nat.reduceLeDiff]
  have h151':=r69 (X:=X) s ⟨q.at_ + 1,q.ba,q.bc⟩
  refine pcall_i h151' rfl rfl ?_
  have w2:IntKind.i64.wrap (((q.at_ + 1:Nat):Int) + 1) = ((q.at_ + 2:Nat):Int):=by rw [w64 (by omega) (by omega)];omega
  have h159:=fun e=>r92 (X:=X) s ⟨q.at_ + 1,q.ba,q.bc⟩ (q.at_:Nat) e
  have hf:∀ e,failF ⟨q.at_ + 1,q.ba,q.bc⟩ (q.at_:Nat) e = ⟨q.at_ + 1,(failF q q.at_ e).ba,(failF q q.at_ e).bc⟩:=fun e=>by unfold failF;split<;>rfl
  have hcb:=pk_bd s (q.at_ + 1)
  simp -implicitDefEqProofs (maxSteps:=2000000) only [c71,w2,↓reduceIte,S0,Nat.reduceEqDiff,Nat.reduceAdd,reduceCtorEq,outV,ownsV,owns1,ownL,PV.leaves,PV.cells,cellL,fillL,Nat.reduceLeDiff,ne_eq,ite_not]
  unfold memC at hr
  simp only [hf] at h159
  generalize pkF s (q.at_ + 1) = c at *
  by_cases hc:0 ≤ c
  ·rw [if_pos hc] at hr ⊢
   have h139:=r91 (X:=X) c hc hcb.2
   rw [w8 hc hcb.2]
   generalize clsF c = C at *
   obtain ⟨CS,ec⟩:=C
   simp only at hr h139
   refine wcall_s h139 rfl rfl ?_
   by_cases e0:ec = 0
   ·subst e0
    rw [if_pos rfl] at hr
    cases hr
    simp -implicitDefEqProofs (maxSteps:=2000000) only [c71,w2,↓reduceIte,S0,Nat.reduceEqDiff,Nat.reduceAdd,reduceCtorEq,St.clr,outV,ownsV,owns1,ownL,PV.leaves,PV.cells,cellL,fillL,Nat.reduceLeDiff,ne_eq,ite_not]
   ·rw [if_neg e0] at hr
    cases hr
    simp -implicitDefEqProofs (maxSteps:=2000000) only [c71,e0,decide_false,Bool.not_false,↓reduceIte,S0,Nat.reduceEqDiff,Nat.reduceAdd,reduceCtorEq,St.clr,outV,ownsV,owns1,ownL,PV.leaves,PV.cells,cellL,fillL,ne_eq]
    refine pcall_i (h159 ec) rfl rfl ?_
    simp -implicitDefEqProofs (maxSteps:=2000000) only [c71,w2,↓reduceIte,S0,Nat.reduceEqDiff,Nat.reduceAdd,reduceCtorEq,outV,ownsV,PV.cells,cellL,fillL,Nat.reduceLeDiff]
  ·rw [if_neg hc] at hr ⊢
   cases hr
   rw [if_neg (by decide)]
   refine pcall_i (h159 10) rfl rfl ?_
   simp -implicitDefEqProofs (maxSteps:=2000000) only [c71,w2,↓reduceIte,S0,Nat.reduceEqDiff,Nat.reduceAdd,reduceCtorEq,outV,ownsV,PV.cells,cellL,fillL,Nat.reduceLeDiff]
   exact ⟨rfl,rfl,rfl,rfl⟩
 ·rw [if_neg hp] at hr
  simp -implicitDefEqProofs (maxSteps:=2000000) only [c71,hp,decide_false,↓reduceIte,S0,Nat.reduceEqDiff,reduceCtorEq,outV,ownsV,owns1,ownL,PV.leaves]
  refine pcall_i h160 rfl rfl ?_
  simp -implicitDefEqProofs (maxSteps:=2000000) only [c71,↓reduceIte,S0,Nat.reduceEqDiff,Nat.reduceAdd,reduceCtorEq,cond_false,outV,ownsV,owns1,ownL,PV.leaves]
  have hi:=itm_bd s q
  have ha:=itm_at s q
  unfold mem2 at hr
  generalize itmF s q = I at *
  obtain ⟨lo,k,ba,bc⟩:=I
  simp only at hr hi ha ⊢
  have h161:=fun hi' h0 h1=>r94i (X:=X) lo hi' hi.1 hi.2 h0 h1
  by_cases h0:bc = 0
  ·subst h0
   rw [if_pos rfl]
   have h151':=r69 (X:=X) s ⟨k,ba,0⟩
   refine pcall_i h151' rfl rfl ?_
   by_cases h45:pkF s k = 45
   ·have wk:IntKind.i64.wrap ((k:Int) + 1) = ((k + 1:Nat):Int):=by rw [w64 (by omega) (by omega)];omega
    have h160':=r93 (X:=X) s ⟨k + 1,ba,0⟩ (by simp only;omega)
    rw [if_pos ⟨rfl,h45⟩] at hr
    have hi2:=itm_bd s ⟨k + 1,ba,0⟩
    simp -implicitDefEqProofs (maxSteps:=2000000) only [c71,h45,wk,↓reduceIte,S0,Nat.reduceEqDiff,Nat.reduceAdd,reduceCtorEq,cond_false,outV,ownsV,owns1,ownL,PV.leaves,PV.cells,cellL,fillL,Nat.reduceLeDiff]
    refine pcall_i h160' rfl rfl ?_
    generalize itmF s ⟨k + 1,ba,0⟩ = I at *
    obtain ⟨hv,k2,ba2,bc2⟩:=I
    simp only at hr hi2
    have h159:=r92 (X:=X) s ⟨k2,ba2,bc2⟩ (q.at_:Nat) 1
    simp -implicitDefEqProofs (maxSteps:=2000000) only [c71,↓reduceIte,S0,Nat.reduceEqDiff,Nat.reduceAdd,reduceCtorEq,cond_false,outV,ownsV,owns1,ownL,PV.leaves]
    by_cases hb2:bc2 = 0 ∧ hv < lo
    ·rw [if_pos hb2] at hr
     cases hr
     rw [if_pos hb2.1,if_pos hb2.2]
     refine pcall_i h159 rfl rfl ?_
     simp -implicitDefEqProofs (maxSteps:=2000000) only [c71,↓reduceIte,S0,Nat.reduceEqDiff,reduceCtorEq,outV,ownsV,PV.leaves]
     refine wcall_s (h161 hv hi2.1 hi2.2) rfl rfl ?_
     simp -implicitDefEqProofs (maxSteps:=2000000) only [c71,↓reduceIte,S0,Nat.reduceEqDiff,Nat.reduceAdd,reduceCtorEq,St.clr,outV,ownsV,owns1,ownL,PV.cells,cellL,fillL]
    ·rw [if_neg hb2] at hr
     cases hr
     repeat' (with_reducible refine ite_pr (fun _=>?_) (fun _=>?_))
     all_goals first
      |(exfalso;omega)
      |(refine wcall_s (h161 hv hi2.1 hi2.2) rfl rfl ?_;simp -implicitDefEqProofs (maxSteps:=2000000) only [c71,↓reduceIte,S0,Nat.reduceEqDiff,Nat.reduceAdd,reduceCtorEq,St.clr,outV,ownsV,owns1,ownL,PV.cells,cellL,fillL])
   ·rw [if_neg (fun h=>h45 h.2)] at hr
    cases hr
    simp -implicitDefEqProofs (maxSteps:=2000000) only [c71,h45,decide_false,↓reduceIte,S0,Nat.reduceEqDiff,reduceCtorEq,cond_false,outV,ownsV,owns1,ownL,PV.leaves]
    refine wcall_s (h161 lo hi.1 hi.2) rfl rfl ?_
    simp -implicitDefEqProofs (maxSteps:=2000000) only [c71,↓reduceIte,S0,Nat.reduceEqDiff,Nat.reduceAdd,reduceCtorEq,St.clr,outV,ownsV,owns1,ownL,PV.cells,cellL,fillL]
  ·rw [if_neg h0]
   rw [if_neg (fun h=>h0 h.1)] at hr
   cases hr
   refine wcall_s (h161 lo hi.1 hi.2) rfl rfl ?_
   simp -implicitDefEqProofs (maxSteps:=2000000) only [c71,↓reduceIte,S0,Nat.reduceEqDiff,Nat.reduceAdd,reduceCtorEq,St.clr,outV,ownsV,owns1,ownL,PV.cells,cellL,fillL]
end Go.Proofs.YthcpaohmajjopaaGreatDoor.I
set_option linter.unusedVariables false
set_option linter.unusedSimpArgs false
namespace Go.Proofs.YthcpaohmajjopaaGreatDoor.I
open Go Go.Proofs.YthcpaohmajjopaaGreatDoor.AM
variable {X:Cx}
def memsF (s:ByteArray):Nat → (Nat → Nat) → Rd → (Nat → Nat) × Rd
 | 0,S,q=>(S,q)
 | n + 1,S,q=>if q.bc = 0 ∧ ¬ pkF s q.at_ = 93 then memsF s n (uniS S (memF s q).1) (memF s q).2 else (S,q)
theorem itm_mv (s:ByteArray) (q:Rd):q.at_ < (itmF s q).2.at_ ∨ ¬ (itmF s q).2.bc = 0:=by
 have h:=(esc_at s q).2
 unfold itmF
 split
 ·left;omega
 ·split
  ·right
   unfold failF
   split
   ·simp
   ·simpa
  ·left;simp only;omega
theorem mem_mv (s:ByteArray) (q:Rd):q.at_ < (memF s q).2.at_ ∨ ¬ (memF s q).2.bc = 0:=by
 unfold memF
 split
 ·left
  unfold memC
  (repeat' split)<;>(simp only;omega)
 ·have h1:=itm_mv s q
  unfold mem2
  split
  ·rename_i h
   have h2:=(itm_at s ⟨(itmF s q).2.at_ + 1,(itmF s q).2.ba,(itmF s q).2.bc⟩).2
   have h3:=(itm_at s q).2
   simp only at h2 ⊢
   left
   split<;>(simp only [fail_at];omega)
  ·exact h1
theorem pk_lt {s:ByteArray} {k:Nat} (h:0 ≤ pkF s k):k < s.size:=by
 unfold pkF at h
 split at h
 ·assumption
 ·omega
theorem hx_lt {s:ByteArray} {k:Nat} (h:0 ≤ hxF s k):k + 1 < s.size:=by
 unfold hxF at h
 split at h
 ·assumption
 ·omega
theorem fail_nz (q:Rd) (a:Int) {e:Int} (he:¬ e = 0):¬ (failF q a e).bc = 0:=by
 unfold failF
 split
 ·exact he
 ·assumption
theorem esc_le (s:ByteArray) (q:Rd) (h:(escF s q).2.bc = 0):(escF s q).2.at_ ≤ s.size:=by
 unfold escF at h ⊢
 have p:=pk_lt (s:=s) (k:=q.at_ + 1)
 have x:=hx_lt (s:=s) (k:=q.at_ + 2)
 split
 ·have:=p (by omega);simp only;omega
 split
 ·have:=p (by omega);simp only;omega
 split
 ·have:=p (by omega);simp only;omega
 split
 ·have:=p (by omega);simp only;omega
 split
 ·rename_i g;have:=x g.2;simp only;omega
 ·rename_i g1 g2 g3 g4 g5
  rw [if_neg g1,if_neg g2,if_neg g3,if_neg g4,if_neg g5] at h
  exact absurd h (fail_nz _ _ (by decide))
theorem itm_le (s:ByteArray) (q:Rd) (h:(itmF s q).2.bc = 0):(itmF s q).2.at_ ≤ s.size:=by
 unfold itmF at h ⊢
 split
 ·rename_i g;rw [if_pos g] at h;exact esc_le s q h
 ·rename_i g
  rw [if_neg g] at h
  split
  ·rename_i g2
   rw [if_pos g2] at h
   exact absurd h (fail_nz _ _ (by decide))
  ·have:=pk_lt (s:=s) (k:=q.at_) (by omega)
   simp only;omega
theorem mem_le (s:ByteArray) (q:Rd) (h:(memF s q).2.bc = 0):(memF s q).2.at_ ≤ s.size:=by
 unfold memF at h ⊢
 split
 ·rename_i g
  rw [if_pos g] at h
  unfold memC at h ⊢
  split
  ·rename_i g2
   have:=pk_lt (s:=s) (k:=q.at_ + 1) g2
   split<;>(simp only;omega)
  ·rename_i g2
   rw [if_neg g2] at h
   exact absurd h (fail_nz _ _ (by decide))
 ·rename_i g
  rw [if_neg g] at h
  unfold mem2 at h ⊢
  split
  ·rename_i g2
   rw [if_pos g2] at h
   simp only at h ⊢
   split
   ·rename_i g3
    rw [if_pos g3] at h
    exact absurd h (fail_nz _ _ (by decide))
   ·rename_i g3
    rw [if_neg g3] at h
    exact itm_le s _ h
  ·rename_i g2
   rw [if_neg g2] at h
   exact itm_le s q h
def clrF (s:ByteArray) (k:Int):(Nat → Nat) × Int × Int × Int :=
 if k < 0 ∨ (s.size:Int) < k then (noS,0,0,1) else
 if ¬ pkF s k.toNat = 91 then (noS,0,k,6) else
 let t:=pkF s (k.toNat + 1) = 94
 let m:=memsF s (s.size + 1) noS ⟨if pkF s (k.toNat + 1) = 94 then k.toNat + 2 else k.toNat + 1,0,0⟩
 if ¬ m.2.bc = 0 then (noS,0,m.2.ba,m.2.bc) else (if pkF s (k.toNat + 1) = 94 then notS m.1 else m.1,(m.2.at_:Int) + 1,0,0)
theorem r54 (s:ByteArray) (hs:s.size ≤ 1000000000000000) (k:Int):R X Tryz.prog 54 [.lf (.str s),.lf (.int .i64 k)] [] (.tp [.ag (u4 (clrF s k).1),.lf (.int .i64 (clrF s k).2.1),.ag [.int .i64 (clrF s k).2.2.1,.int .i64 (clrF s k).2.2.2]]) []:=by
 generalize hr:clrF s k = r
 unfold clrF at hr
 obtain ⟨S,e,fa,fc⟩:=r
 refine R_i [] [] c54_ok rfl (by simp) ?_
 simp -implicitDefEqProofs (maxSteps:=2000000) only [c54,↓reduceIte,S0,St.init,enum,Nat.reduceEqDiff,Nat.reduceAdd,reduceCtorEq,cond_false,PV.leaves,PV.cells,cellL,fillL,Nat.reduceBEq,Nat.reduceLeDiff,ne_eq,ite_not]
 by_cases h1:k < 0 ∨ (s.size:Int) < k
 ·rw [if_pos h1] at hr
  cases hr
  repeat' (with_reducible refine ite_pr (fun _=>?_) (fun _=>?_))
  all_goals first
   | exact ⟨⟨rfl,rfl,rfl,rfl⟩,rfl,rfl,rfl⟩
   |(exfalso;omega)
 rw [if_neg h1] at hr
 rw [if_neg (by omega),if_neg (by omega)]
 obtain ⟨n,rfl⟩:∃ n:Nat,k = n:=⟨k.toNat,by omega⟩
 simp only [Int.toNat_natCast] at hr
 have hn:n ≤ s.size:=by omega
 have h151:=fun q=>r69 (X:=X) s q
 have w1:IntKind.i64.wrap ((n:Int) + 1) = ((n + 1:Nat):Int):=by rw [w64 (by omega) (by omega)];omega
 have w2:IntKind.i64.wrap (((n + 1:Nat):Int) + 1) = ((n + 2:Nat):Int):=by rw [w64 (by omega) (by omega)];omega
 refine pcall_i (h151 ⟨n,0,0⟩) rfl rfl ?_
 by_cases h2:pkF s n = 91
 ·rw [if_neg (fun h=>h h2)] at hr
  simp -implicitDefEqProofs (maxSteps:=2000000) only [c54,h2,w1,↓reduceIte,S0,Nat.reduceEqDiff,Nat.reduceAdd,reduceCtorEq,outV,ownsV,owns1,ownL,PV.leaves,PV.cells,cellL,fillL,Nat.reduceLeDiff,ne_eq,ite_not]
  refine pcall_i (h151 ⟨n + 1,0,0⟩) rfl rfl ?_
  simp -implicitDefEqProofs (maxSteps:=2000000) only [c54,w2,↓reduceIte,S0,Nat.reduceEqDiff,Nat.reduceAdd,outV,ownsV,owns1,ownL,PV.cells,cellL,fillL,Nat.reduceBEq,Nat.reduceLeDiff,List.range_zero]
  generalize hT:pkF s (n + 1) = t at *
  have key:∀ (m:Nat) (Sa:Nat → Nat) (q:Rd),bd4 Sa → (q.bc = 0 → q.at_ ≤ s.size + 1 ∧ s.size + 2 ≤ m + q.at_) → q.at_ ≤ s.size + 20 → ∀ M,memsF s m Sa q = M → (if ¬ M.2.bc = 0 then (noS,0,M.2.ba,M.2.bc) else (if t = 94 then notS M.1 else M.1,(M.2.at_:Int) + 1,0,0)) = (S,e,fa,fc) →
    LoopAt X Tryz.prog c54_11 [4,6,7,8,9] (blkK 0 (seqK X Tryz.prog c54_21 (retS [] [] 0 [RV.c 4 4 true,RV.t 5,RV.c 6 2 true] (PV.tp [PV.ag (u4 S),PV.lf (L.int IntKind.i64 e),PV.ag [L.int IntKind.i64 fa,L.int IntKind.i64 fc]]) [])))
     {m:=0,tm:=[(4,PV.lf (L.ptr 4 0)),(6,PV.lf (L.ptr 6 0)),(7,PV.lf (L.ptr 23 0)),(8,PV.lf (L.bool (decide (t = 94)))),(9,PV.lf (L.ptr 9 0))],
      ce:=[(4,[L.int IntKind.u64 0,L.int IntKind.u64 0,L.int IntKind.u64 0,L.int IntKind.u64 0]),(6,[L.int IntKind.i64 0,L.int IntKind.i64 0]),(23,rdL s q),(9,u4 Sa)] }:=by
   intro m
   induction m with
   | zero =>
    intro Sa q hS hq hq2 M hM hres
    have hM:M = (Sa,q):=hM.symm
    subst hM
    simp only at hres
    obtain ⟨k,ba,bc⟩:=q
    simp only at hq hres
    have hbc:¬ bc = 0:=fun h=>by have:=hq h;omega
    rw [if_pos hbc] at hres
    cases hres
    intro Z hZ;apply hZ
    simp -implicitDefEqProofs (maxSteps:=2000000) only [c54,hbc,decide_false,List.contains_cons,List.contains_nil,Nat.reduceBEq,Bool.or_self,Bool.false_or,Bool.or_false,Bool.true_or,Bool.or_true,↓reduceIte,S0,Nat.reduceEqDiff,Nat.reduceAdd,PV.cells,cellL,fillL,Nat.reduceBEq,ne_eq,or_false]
    exact ⟨rfl,rfl,rfl,rfl⟩
   | succ m ih =>
    intro Sa q hS hq hq2 M hM hres
    simp only [memsF] at hM
    have h151q:=h151 q
    by_cases hg:q.bc = 0 ∧ ¬ pkF s q.at_ = 93
    ·rw [if_pos hg] at hM
     have h153:=r71 (X:=X) s q (by omega)
     have bm:=bd_mem s q
     have h152:=r70 (X:=X) Sa (memF s q).1 hS bm
     have mv:=mem_mv s q
     have le:=mem_le s q
     have at12:=mem_at s q
     have hqq:=hq hg.1
     generalize memF s q = N at *
     obtain ⟨NS,q2⟩:=N
     simp only at h153 h152 mv le at12 bm hM
     have hih:=ih (uniS Sa NS) q2 (bd_uni hS bm) (fun h=>by have:=le h;rcases mv with mv | mv;exact ⟨by omega,by omega⟩;exact absurd h mv) (by omega) M hM hres
     intro Z hZ;apply hZ
     have hz:=hih Z hZ
     obtain ⟨k,ba,bc⟩:=q
     simp only at hg
     obtain ⟨rfl,h93⟩:=hg
     simp -implicitDefEqProofs (maxSteps:=2000000) only [c54,↓reduceIte,S0,Nat.reduceEqDiff,Nat.reduceAdd,cond_false,PV.leaves]
     refine pcall_i h151q rfl rfl ?_
     simp -implicitDefEqProofs (maxSteps:=2000000) only [c54,h93,decide_true,decide_false,Bool.not_false,List.contains_cons,List.contains_nil,Nat.reduceBEq,Bool.or_self,Bool.false_or,Bool.or_false,Bool.true_or,Bool.or_true,↓reduceIte,S0,Nat.reduceEqDiff,Nat.reduceAdd,cond_false,outV,ownsV,owns1,ownL,PV.leaves,ne_eq]
     repeat' (with_reducible refine And.intro ?_ ?_)
     all_goals
      refine pcall_i h153 rfl rfl ?_
      simp -implicitDefEqProofs (maxSteps:=2000000) only [c54,↓reduceIte,S0,Nat.reduceEqDiff,Nat.reduceAdd,outV,ownsV,owns1,ownL,PV.leaves]
      refine wcall_s h152 rfl rfl ?_
      simp -implicitDefEqProofs (maxSteps:=2000000) only [c54,↓reduceIte,S0,Nat.reduceEqDiff,Nat.reduceAdd,St.clr,outV,ownsV,owns1,ownL,PV.cells,cellL,fillL,List.range_zero]
      exact hz
    ·rw [if_neg hg] at hM
     subst hM
     obtain ⟨k,ba,bc⟩:=q
     simp only at hres hg
     have h89:=r60s (X:=X) Sa hS
     have wk:IntKind.i64.wrap ((k:Int) + 1) = ((k:Int) + 1):=w64 (by omega) (by simp only at hq2;omega)
     intro Z hZ;apply hZ
     by_cases hbc:bc = 0
     ·subst hbc
      have h93:pkF s k = 93:=Decidable.not_not.1 fun h=>hg ⟨rfl,h⟩
      rw [if_neg (by decide)] at hres
      simp -implicitDefEqProofs (maxSteps:=2000000) only [c54,↓reduceIte,S0,Nat.reduceEqDiff,Nat.reduceAdd,cond_false,PV.leaves]
      refine pcall_i h151q rfl rfl ?_
      by_cases ht:t = 94
      ·rw [if_pos ht] at hres
       cases hres
       simp -implicitDefEqProofs (maxSteps:=2000000) only [c54,h93,ht,decide_true,decide_false,Bool.not_true,↓reduceIte,S0,Nat.reduceEqDiff,Nat.reduceAdd,cond_false,outV,ownsV,owns1,ownL,PV.leaves,ne_eq,ite_not]
       refine wcall_s h89 rfl rfl ?_
       simp -implicitDefEqProofs (maxSteps:=2000000) only [c54,wk,List.contains_cons,List.contains_nil,Nat.reduceBEq,Bool.or_self,Bool.false_or,Bool.or_false,Bool.true_or,Bool.or_true,↓reduceIte,S0,Nat.reduceEqDiff,Nat.reduceAdd,St.clr,outV,ownsV,owns1,ownL,PV.cells,cellL,fillL]
      ·rw [if_neg ht] at hres
       cases hres
       simp -implicitDefEqProofs (maxSteps:=2000000) only [c54,h93,ht,wk,decide_true,decide_false,Bool.not_true,List.contains_cons,List.contains_nil,Nat.reduceBEq,Bool.or_self,Bool.false_or,Bool.or_false,Bool.true_or,Bool.or_true,↓reduceIte,S0,Nat.reduceEqDiff,Nat.reduceAdd,cond_false,outV,ownsV,owns1,ownL,PV.leaves,PV.cells,cellL,fillL,Nat.reduceBEq,ne_eq,or_false,ite_not]
     ·rw [if_pos hbc] at hres
      cases hres
      simp -implicitDefEqProofs (maxSteps:=2000000) only [c54,hbc,decide_false,List.contains_cons,List.contains_nil,Nat.reduceBEq,Bool.or_self,Bool.false_or,Bool.or_false,Bool.true_or,Bool.or_true,↓reduceIte,S0,Nat.reduceEqDiff,Nat.reduceAdd,PV.cells,cellL,fillL,Nat.reduceBEq,ne_eq,or_false]
      exact ⟨rfl,rfl,rfl,rfl⟩
  have hn1:=pk_lt (s:=s) (k:=n) (by omega)
  by_cases ht:t = 94
  ·have hn2:=pk_lt (s:=s) (k:=n + 1) (by omega)
   rw [if_pos ht]
   rw [if_pos ht] at hr
   exact key (s.size + 1) noS ⟨n + 2,0,0⟩ bd_no (fun _=>⟨by simp only;omega,by simp only;omega⟩) (by simp only;omega) _ rfl hr
  ·rw [if_neg ht]
   rw [if_neg ht] at hr
   exact key (s.size + 1) noS ⟨n + 1,0,0⟩ bd_no (fun _=>⟨by simp only;omega,by simp only;omega⟩) (by simp only;omega) _ rfl hr
 ·rw [if_pos h2] at hr
  cases hr
  simp -implicitDefEqProofs (maxSteps:=2000000) only [c54,h2,decide_false,Bool.not_false,↓reduceIte,S0,Nat.reduceEqDiff,Nat.reduceAdd,reduceCtorEq,outV,ownsV,owns1,ownL,PV.cells,cellL,fillL,Nat.reduceLeDiff,ne_eq]
  exact ⟨rfl,rfl,rfl,rfl⟩
end Go.Proofs.YthcpaohmajjopaaGreatDoor.I
set_option linter.unusedVariables false
set_option linter.unusedSimpArgs false
namespace Go.Proofs.YthcpaohmajjopaaGreatDoor.I
open Go Go.Proofs Go.Proofs.YthcpaohmajjopaaGreatDoor.AM
variable {X:Cx}
def cutB (c:UInt8):List UInt8 → List UInt8 × Option (List UInt8)
 | []=>([],none)
 | x :: l=>if x = c then ([],some l) else (x :: (cutB c l).1,(cutB c l).2)
theorem ix_cut (c:UInt8):∀ l:List UInt8,(Lib.indexByte l c = -1 ∧ cutB c l = (l,none)) ∨ ∃ k:Nat,Lib.indexByte l c = (k:Int) ∧ k < l.length ∧ cutB c l = (l.take k,some (l.drop (k + 1)))
 | []=>.inl ⟨rfl,rfl⟩
 | x :: l=>by
  unfold Lib.indexByte cutB
  by_cases h:x = c
  ·subst h
   right
   exact ⟨0,by simp,by simp,by simp⟩
  ·have hb:(x == c) = false:=by simpa using h
   rw [hb,if_neg h]
   rcases ix_cut c l with ⟨h1,h2⟩ | ⟨k,h1,h2,h3⟩
   ·left
    rw [h1,h2];exact ⟨rfl,rfl⟩
   ·right
    refine ⟨k + 1,?_,by simpa using h2,?_⟩
    ·rw [h1]
     have:¬ ((k:Int) == -1) = true:=by rw [beq_iff_eq];omega
     rw [if_neg (by decide),if_neg this];omega
    ·rw [h3];rfl
theorem cut_len (c:UInt8):∀ l:List UInt8,l.length = (cutB c l).1.length + (match (cutB c l).2 with | none=>0 | some r=>r.length + 1)
 | []=>rfl
 | x :: l=>by
  unfold cutB
  by_cases h:x = c
  ·rw [if_pos h];simp
  ·rw [if_neg h]
   have:=cut_len c l
   simp only [List.length_cons]
   cases h2:(cutB c l).2 with
   | none=>rw [h2] at this;simp only at this ⊢;omega
   | some r=>rw [h2] at this;simp only at this ⊢;omega
theorem ext_take (s:ByteArray) (k:Nat):s.extract 0 k = ⟨(s.data.toList.take k).toArray⟩:=by
 apply ba_eq;simp
theorem ext_drop (s:ByteArray) (k:Nat):s.extract k s.size = ⟨(s.data.toList.drop k).toArray⟩:=by
 apply ba_eq
 have h:s.data.toList.length = s.size:=size_len s
 simp only [ByteArray.data_extract,Array.toList_extract,List.extract,List.take_of_length_le,List.length_drop,h,Nat.le_refl,ByteArray.size,Array.length_toList]
 try simp
theorem r48 (s:ByteArray) (c:UInt8):R X Tryz.prog 48 [.lf (.str s),.lf (.str ⟨#[c]⟩)] [] (.lf (.int .i64 (Lib.indexByte s.data.toList c))) []:=by
 refine R_grow rfl fun E w vs hC ha=>?_
 cases ha with
 | cons a1 a2 =>
  cases a1
  cases a2 with
  | cons a3 a4 =>
   cases a3;cases a4
   refine (stringslite_Index_one s c w).mono ?_
   rintro e w' ⟨rfl,rfl⟩
   exact ⟨rfl,rfl,rfl,rfl,Nat.le_refl _,fun b _ _=>rfl⟩
theorem r33 (s:ByteArray) (hs:s.size ≤ 1000000000000000) (c:UInt8) (r:List UInt8 × Option (List UInt8)) (hr:cutB c s.data.toList = r):R X Tryz.prog 33 [.lf (.str s),.lf (.str ⟨#[c]⟩)] [] (.tp [.lf (.str ⟨r.1.toArray⟩),.lf (.str ⟨(r.2.getD []).toArray⟩),.lf (.bool r.2.isSome)]) []:=by
 have h48:=r48 (X:=X) s c
 have h:s.data.toList.length = s.size:=size_len s
 have hc1:(⟨#[c]⟩:ByteArray).size = 1:=rfl
 refine R_i [] [] c33_ok rfl (by simp) ?_
 rcases ix_cut c s.data.toList with ⟨h1,h2⟩ | ⟨k,h1,h2,h3⟩
 ·rw [h1] at h48
  rw [h2] at hr
  subst hr
  simp -implicitDefEqProofs (maxSteps:=2000000) only [c33,↓reduceIte,S0,St.init,enum,Option.getD_none,Nat.reduceEqDiff,reduceCtorEq,PV.leaves]
  refine wcall_s h48 rfl rfl ?_
  simp -implicitDefEqProofs (maxSteps:=2000000) only [c33,↓reduceIte,S0,Option.map_none,Nat.reduceEqDiff,reduceCtorEq,St.clr,outV,ownsV,owns1,ownL,Int.reduceNeg]
  rw [if_neg (by decide)]
  rfl
 ·rw [h1] at h48
  rw [h3] at hr
  subst hr
  have w1:IntKind.i64.wrap ((k:Int) + ((1:Nat):Int)) = ((k + 1:Nat):Int):=by rw [w64 (by omega) (by omega)];omega
  simp -implicitDefEqProofs (maxSteps:=2000000) only [c33,↓reduceIte,S0,St.init,enum,Nat.reduceEqDiff,reduceCtorEq,PV.leaves]
  refine wcall_s h48 rfl rfl ?_
  simp -implicitDefEqProofs (maxSteps:=2000000) only [c33,hc1,↓reduceIte,S0,Option.map_none,Nat.reduceEqDiff,reduceCtorEq,St.clr,outV,ownsV,owns1,ownL]
  rw [if_pos (by omega),w1,Int.toNat_natCast,Int.toNat_natCast,ext_take,ext_drop]
  exact ⟨⟨by omega,by omega⟩,⟨by omega,by omega⟩,rfl,rfl,rfl⟩
theorem r24 (s:ByteArray) (hs:s.size ≤ 1000000000000000) (c:UInt8) (r:List UInt8 × Option (List UInt8)) (hr:cutB c s.data.toList = r):R X Tryz.prog 24 [.lf (.str s),.lf (.str ⟨#[c]⟩)] [] (.tp [.lf (.str ⟨r.1.toArray⟩),.lf (.str ⟨(r.2.getD []).toArray⟩),.lf (.bool r.2.isSome)]) []:=by
 have h33:=r33 (X:=X) s hs c r hr
 refine R_i [] [] c24_ok rfl (by simp) ?_
 simp -implicitDefEqProofs (maxSteps:=2000000) only [c24,↓reduceIte,S0,St.init,enum,Nat.reduceEqDiff,reduceCtorEq,PV.leaves]
 refine wcall_s h33 rfl rfl ?_
 simp -implicitDefEqProofs (maxSteps:=2000000) only [c24,↓reduceIte,S0,Nat.reduceEqDiff,St.clr,outV,ownsV,owns1,ownL]
 done
theorem r62 (s:ByteArray) (c:UInt8):R X Tryz.prog 62 [.lf (.str s),.lf (.int .u8 c.toNat)] [] (.lf (.int .i64 (Lib.indexByte s.data.toList c))) []:=by
 refine R_i [] [] c62_ok rfl (by simp) ?_
 have hc:(c.toNat:Int).toNat.toUInt8 = c:=by rw [Int.toNat_natCast];simp
 simp -implicitDefEqProofs (maxSteps:=2000000) only [c62,hc,↓reduceIte,S0,St.init,enum,Nat.reduceEqDiff,reduceCtorEq,v_ex2]
 done
theorem r49 (s:ByteArray) (c:UInt8):R X Tryz.prog 49 [.lf (.str s),.lf (.int .u8 c.toNat)] [] (.lf (.int .i64 (Lib.indexByte s.data.toList c))) []:=by
 refine R_i [] [] c49_ok rfl (by simp) ?_
 simp -implicitDefEqProofs (maxSteps:=2000000) only [c49,↓reduceIte,S0,St.init,enum,Nat.reduceEqDiff,reduceCtorEq,PV.leaves]
 refine wcall_s (r62 s c) rfl rfl ?_
 simp -implicitDefEqProofs (maxSteps:=2000000) only [c49,↓reduceIte,S0,St.clr,outV,ownsV,owns1,ownL]
 done
def hasP (c:UInt8):List UInt8 → Bool
 | x :: _=>decide (x = c)
 | []=>false
theorem r50 (l:List UInt8) (c:UInt8):R X Tryz.prog 50 [.lf (.str ⟨l.toArray⟩),.lf (.str ⟨#[c]⟩)] [] (.lf (.bool (hasP c l))) []:=by
 refine R_i [] [] c50_ok rfl (by simp) ?_
 have hc1:(⟨#[c]⟩:ByteArray).size = 1:=rfl
 have hl:(⟨l.toArray⟩:ByteArray).size = l.length:=ba_size
 have hx:=ext_take ⟨l.toArray⟩ 1
 have ht:(((1:Nat):Int)).toNat = 1:=rfl
 simp -implicitDefEqProofs (maxSteps:=2000000) only [c50,hc1,hl,↓reduceIte,S0,St.init,enum,Option.map_none,Nat.reduceEqDiff,reduceCtorEq,cond_false]
 rw [ht,hx]
 cases l with
 | nil=>rw [if_neg (by decide)];rfl
 | cons x l =>
  rw [if_pos (by simp only [List.length_cons];omega)]
  refine ⟨⟨by omega,by simp only [List.length_cons];omega⟩,?_⟩
  unfold hasP
  congr 1
  simp
theorem r36 (l:List UInt8) (c:UInt8):R X Tryz.prog 36 [.lf (.str ⟨l.toArray⟩),.lf (.str ⟨#[c]⟩)] [] (.lf (.bool (hasP c l))) []:=by
 refine R_i [] [] c36_ok rfl (by simp) ?_
 simp -implicitDefEqProofs (maxSteps:=2000000) only [c36,↓reduceIte,S0,St.init,enum,Nat.reduceEqDiff,reduceCtorEq,PV.leaves]
 refine wcall_s (r50 l c) rfl rfl ?_
 simp -implicitDefEqProofs (maxSteps:=2000000) only [c36,↓reduceIte,S0,St.clr,outV,ownsV,owns1,ownL]
 done
theorem r52 (l:List UInt8) (c:UInt8):R X Tryz.prog 52 [.lf (.str ⟨l.toArray⟩),.lf (.str ⟨#[c]⟩)] [] (.lf (.str ⟨(if hasP c l = true then l.tail else l).toArray⟩)) []:=by
 refine R_i [] [] c52_ok rfl (by simp) ?_
 have hc1:(⟨#[c]⟩:ByteArray).size = 1:=rfl
 have hl:(⟨l.toArray⟩:ByteArray).size = l.length:=ba_size
 have hx:=ext_drop ⟨l.toArray⟩ 1
 rw [hl] at hx
 simp -implicitDefEqProofs (maxSteps:=2000000) only [c52,↓reduceIte,S0,St.init,enum,Nat.reduceEqDiff,reduceCtorEq,PV.leaves]
 refine wcall_s (r50 l c) rfl rfl ?_
 cases h:hasP c l with
 | true =>
  have ht:(((1:Nat):Int)).toNat = 1:=rfl
  simp -implicitDefEqProofs (maxSteps:=2000000) only [c52,hc1,hl,↓reduceIte,S0,Option.map_none,Nat.reduceEqDiff,reduceCtorEq,St.clr,outV,ownsV,owns1,ownL]
  rw [ht,hx]
  cases l with
  | nil=>cases h
  | cons x l=>exact ⟨⟨by omega,by simp only [List.length_cons];omega⟩,rfl⟩
 | false =>
  simp -implicitDefEqProofs (maxSteps:=2000000) only [c52,↓reduceIte,S0,Nat.reduceEqDiff,reduceCtorEq,St.clr,outV,ownsV,owns1,ownL]
  done
theorem r38 (l:List UInt8) (c:UInt8):R X Tryz.prog 38 [.lf (.str ⟨l.toArray⟩),.lf (.str ⟨#[c]⟩)] [] (.lf (.str ⟨(if hasP c l = true then l.tail else l).toArray⟩)) []:=by
 refine R_i [] [] c38_ok rfl (by simp) ?_
 simp -implicitDefEqProofs (maxSteps:=2000000) only [c38,↓reduceIte,S0,St.init,enum,Nat.reduceEqDiff,reduceCtorEq,PV.leaves]
 refine wcall_s (r52 l c) rfl rfl ?_
 simp -implicitDefEqProofs (maxSteps:=2000000) only [c38,↓reduceIte,S0,St.clr,outV,ownsV,owns1,ownL]
 done
end Go.Proofs.YthcpaohmajjopaaGreatDoor.I
set_option linter.unusedVariables false
set_option linter.unusedSimpArgs false
namespace Go.Proofs.YthcpaohmajjopaaGreatDoor.I
open Go Go.Proofs Go.Proofs.YthcpaohmajjopaaGreatDoor.AM
variable {X:Cx}
def findG (w:List UInt8):Nat → Nat → Nat
 | 0,_=>0
 | n + 1,op=>if nameF op = ⟨w.toArray⟩ then op else findG w n (op + 1)
def findF (w:List UInt8):Nat:=findG w 20 1
def fndE (k:Nat):Int:=if k = 0 then 5 else 0
theorem r34 (hX:X.G 1 = some namesL) (w:List UInt8) (F:Nat) (hF:findF w = F):R X Tryz.prog 34 [.lf (.str ⟨w.toArray⟩)] [] (.tp [.lf (.int .i64 F),.lf (.int .i64 (fndE F))]) []:=by
 have key:∀ (n op:Nat),op + n = 21 → 1 ≤ op → findG w n op = F → LoopAt X Tryz.prog c34_7 [0,4] (blkK 0 (seqK X Tryz.prog c34_11 (retS [] [] 0 [RV.t 2,RV.t 3] (PV.tp [PV.lf (L.int IntKind.i64 (F:Int)),PV.lf (L.int IntKind.i64 (fndE F))]) [])))
   {m:=0,tm:=[(0,PV.lf (L.str ⟨w.toArray⟩)),(4,PV.lf (L.int IntKind.i64 (op:Int)))],ce:=[] }:=by
  intro n
  induction n with
  | zero =>
   intro op hop h1 hf
   simp only [findG] at hf
   subst hf
   have hn:¬ (op:Int) ≤ 20:=by omega
   intro Z hZ;apply hZ
   simp -implicitDefEqProofs (maxSteps:=2000000) only [c34,hn,↓reduceIte,S0,Nat.reduceEqDiff,reduceCtorEq]
   exact ⟨rfl,rfl⟩
  | succ n ih =>
   intro op hop h1 hf
   have hn:(op:Int) ≤ 20:=by omega
   have hg:namesL[(op:Int).toNat * 1]? = some (.str (nameF op)):=by simpa using namesL_get (k:=op) (by omega)
   have w1:IntKind.i64.wrap ((op:Int) + 1) = ((op + 1:Nat):Int):=by rw [w64 (by omega) (by omega)];omega
   simp only [findG] at hf
   intro Z hZ;apply hZ
   simp -implicitDefEqProofs (maxSteps:=2000000) only [c34,hn,hX,hg,w1,↓reduceIte,S0,Nat.reduceEqDiff,reduceCtorEq,List.range_zero]
   refine ⟨⟨by omega,by omega⟩,?_⟩
   by_cases he:nameF op = ⟨w.toArray⟩
   ·rw [if_pos he] at hf
    subst hf
    rw [if_pos he]
    unfold fndE
    rw [if_neg (by omega)]
    exact ⟨rfl,rfl⟩
   ·rw [if_neg he] at hf
    rw [if_neg he]
    exact ih (op + 1) (by omega) (by omega) hf Z hZ
 refine R_i [] [] c34_ok rfl (by simp) ?_
 simp -implicitDefEqProofs (maxSteps:=2000000) only [c34,↓reduceIte,S0,St.init,enum,reduceCtorEq,List.range_zero]
 exact key 20 1 rfl (by omega) hF
def errX:L:=.iface 137 (.rp [] 0)
theorem unch_below {w w':World} (h:RowKit.Below w.heap.size w w'):Unch (fun _=>False) w w':=⟨h.os,h.tape,h.output,h.size,fun b hb _=>h.block b hb⟩
theorem R_new {f:Nat} {args:List PV} {n:Int} {T:Nat} (h:∀ (E:Env) (w:World) (vs:List Value),CxOK X E w → All2 (V E w) args vs → Calls Tryz.prog f vs.toArray w fun e w'=>∃ N,e = .returned (.tuple #[.int .i64 n,.iface T (.pointer (some ⟨N,0,none⟩))]) ∧ w.heap.size ≤ N ∧ N < w'.heap.size ∧ Unch (fun _=>False) w w') :
  R X Tryz.prog f args [] (.tp [.lf (.int .i64 n),.lf (.iface T (.rp [] 0))]) []:=by
 intro E w vs hX hI _ ha _
 refine (h E w vs hX ha).mono ?_
 rintro e w' ⟨N,rfl,hN,hN2,hU⟩
 have W:=(ext_step (m:=0) hI hU).1
 refine ⟨_,⟨fun b=>E.rd b ∨ b = N,E.κ,E.ω⟩,rfl,⟨W.un,⟨W.inj.kk,W.inj.ww,W.inj.kw,fun c b hc=>⟨?_,(W.inj.kr c b hc).2⟩,fun p b hp=>⟨?_,(W.inj.wr p b hp).2⟩⟩,?_,fun b hb _=>.inl hb,W.om,W.ka,W.k0,W.ty⟩,?_,fun c cs h=>by simp at h⟩
 ·rintro (h | rfl)
  ·exact (hI.kr c b hc).1 h
  ·have:=(hI.kr c _ hc).2;omega
 ·rintro (h | rfl)
  ·exact (hI.wr p b hp).1 h
  ·have:=(hI.wr p _ hp).2;omega
 ·rintro b (h | rfl)
  ·exact .inl h
  ·exact .inr (.inl hN)
 ·refine ⟨[_,_],rfl,.cons (D.int _ _) (.cons ?_ .nil)⟩
  exact D.iface _ _ _ (D.rp [] 0 N [] (.inr rfl) hN2 rfl (fun i u h=>by simp at h) (fun i c u h=>by simp at h))
theorem r51_ok (s:ByteArray) (hs:s.size ≤ 1000000000000000) (v:Int) (h:Lib.atoiAll s.data.toList = .ok v):R X Tryz.prog 51 [.lf (.str s)] [] (.tp [.lf (.int .i64 v),.lf .nili]) []:=by
 refine R_grow rfl fun E w vs hC ha=>?_
 cases ha with
 | cons a1 a2 =>
  cases a1
  cases a2
  refine (strconv_Atoi_ok s (by omega) v h w).mono ?_
  rintro e w' ⟨rfl,h | ⟨t,h⟩⟩
  ·subst h;exact ⟨rfl,rfl,rfl,rfl,Nat.le_refl _,fun b _ _=>rfl⟩
  ·subst h;exact ⟨rfl,unch_below (Lib.bytesWorld_below w 5 t)⟩
def ErrC (X:Cx) (g:Nat):Prop:=∃ T x,X.G g = some [.iface T x]
theorem heap_lt {w:World} {N:Nat} {o:Obj} (h:w.heap[N]? = some o):N < w.heap.size:=(Array.getElem?_eq_some_iff.1 h).1
theorem r51_bad (h5:ErrC X 5) (h6:ErrC X 6) (s:ByteArray) (hs:s.size ≤ 100000000000000) (h:∀ v,Lib.atoiAll s.data.toList ≠ .ok v):∃ n,R X Tryz.prog 51 [.lf (.str s)] [] (.tp [.lf (.int .i64 n),.lf errX]) []:=by
 have get:∀ {g:Nat} {E:Env} {w:World},ErrC X g → CxOK X E w → ∃ ev,w.cell? ⟨g,0,none⟩ = some ev ∧ (ev = .nilIface ∨ ∃ te pe,ev = .iface te pe):=by
  intro g E w ⟨T,x,hg⟩ hC
  obtain ⟨_,_,_,hc⟩:=hC g _ hg
  obtain ⟨u,h1,h2⟩:=hc 0 _ rfl
  cases h2
  exact ⟨_,h1,.inr ⟨_,_,rfl⟩⟩
 cases hA:Lib.atoiAll s.data.toList with
 | ok v=>exact absurd hA (h v)
 | «syntax» =>
  refine ⟨0,R_new fun E w vs hC ha=>?_⟩
  cases ha with
  | cons a1 a2 =>
   cases a1
   cases a2
   obtain ⟨ev,e1,e2⟩:=get h5 hC
   refine (strconv_Atoi_syntax s (by omega) hA ev w e1 e2).mono ?_
   rintro e w' ⟨N,rfl,hN,hc,hB⟩
   exact ⟨N,rfl,hN,heap_lt hc,unch_below hB⟩
 | range =>
  refine ⟨Lib.atoiSat s.data.toList,R_new fun E w vs hC ha=>?_⟩
  cases ha with
  | cons a1 a2 =>
   cases a1
   cases a2
   obtain ⟨ev,e1,e2⟩:=get h6 hC
   refine (strconv_Atoi_range s (by omega) hA ev w e1 e2).mono ?_
   rintro e w' ⟨N,rfl,hN,hc,hB⟩
   exact ⟨N,rfl,hN,heap_lt hc,unch_below hB⟩
end Go.Proofs.YthcpaohmajjopaaGreatDoor.I
set_option linter.unusedVariables false
set_option linter.unusedSimpArgs false
namespace Go.Proofs.YthcpaohmajjopaaGreatDoor.I
open Go Go.Proofs Go.Proofs.YthcpaohmajjopaaGreatDoor.AM
variable {X:Cx}
abbrev liL (l:List UInt8) (b:Bool):List L:=[.str ⟨l.toArray⟩,.bool b]
def wordF (l:List UInt8) (b:Bool):List UInt8 × (List UInt8 × Bool) :=
 if hasP 32 l = true then ((cutB 32 l.tail).1,(l.tail.drop (cutB 32 l.tail).1.length,b)) else ([],(l,true))
theorem hasP_ex {c:UInt8} {l:List UInt8} (h:hasP c l = true):∃ r,l = c :: r:=by
 cases l with
 | nil=>cases h
 | cons x r=>exact ⟨r,by simpa [hasP] using h⟩
theorem r35 (l:List UInt8) (hl:l.length ≤ 1000000000000000) (b:Bool):R X Tryz.prog 35 [.lf (.ptr 0 0)] [liL l b] (.lf (.str ⟨(wordF l b).1.toArray⟩)) [liL (wordF l b).2.1 (wordF l b).2.2]:=by
 have h36:=r36 (X:=X) l 32
 refine R_i [] [] c35_ok rfl (by simp) ?_
 unfold wordF
 cases h:hasP 32 l with
 | false =>
  rw [h] at h36
  simp -implicitDefEqProofs (maxSteps:=2000000) only [c35,↓reduceIte,S0,St.init,enum,reduceCtorEq,PV.leaves]
  refine wcall_s h36 rfl rfl ?_
  simp -implicitDefEqProofs (maxSteps:=2000000) only [c35,↓reduceIte,S0,Nat.reduceAdd,reduceCtorEq,St.clr,outV,ownsV,owns1,ownL,PV.cells,cellL,fillL]
  done
 | true =>
  rw [h] at h36
  obtain ⟨w,rfl⟩:=hasP_ex h
  have hz:(⟨(32 :: w).toArray⟩:ByteArray).size = w.length + 1:=by rw [ba_size];simp
  have hd1:=ext_drop ⟨(32 :: w).toArray⟩ 1
  rw [hz] at hd1
  have h49:=r49 (X:=X) ⟨w.toArray⟩ 32
  have e32:((32:UInt8).toNat:Int) = 32:=rfl
  have ht:(1:Int).toNat = 1:=rfl
  have hw:(⟨w.toArray⟩:ByteArray).size = w.length:=ba_size
  have hd1':(⟨(32 :: w).toArray⟩:ByteArray).extract 1 (w.length + 1) = ⟨w.toArray⟩:=by rw [hd1];rfl
  rw [e32] at h49
  simp only [List.tail_cons]
  simp only [List.length_cons] at hl
  simp -implicitDefEqProofs (maxSteps:=2000000) only [c35,↓reduceIte,S0,St.init,enum,reduceCtorEq,PV.leaves]
  refine wcall_s h36 rfl rfl ?_
  simp -implicitDefEqProofs (maxSteps:=2000000) only [c35,hz,ht,hd1',↓reduceIte,S0,Option.map_none,reduceCtorEq,St.clr,outV,ownsV,owns1,ownL,PV.leaves]
  refine ⟨⟨by omega,by omega⟩,?_⟩
  refine wcall_s h49 rfl rfl ?_
  rcases ix_cut 32 w with ⟨h1,h2⟩ | ⟨k,h1,h2,h3⟩
  ·rw [h2]
   have w1:IntKind.i64.wrap (1 + (w.length:Int)) = ((1 + w.length:Nat):Int):=by rw [w64 (by omega) (by omega)];omega
   have hn:¬ (0:Int) ≤ -1:=by decide
   have hd2:=ext_drop ⟨(32 :: w).toArray⟩ (1 + w.length)
   rw [hz] at hd2
   simp -implicitDefEqProofs (maxSteps:=2000000) only [c35,h1,hn,hz,hw,w1,Int.toNat_natCast,hd2,↓reduceIte,S0,Option.map_none,Nat.reduceEqDiff,Nat.reduceAdd,reduceCtorEq,St.clr,outV,ownsV,owns1,ownL,PV.cells,cellL,fillL,Nat.reduceLeDiff,Int.reduceNeg]
   refine ⟨⟨by omega,by omega⟩,?_⟩
   rw [Nat.add_comm];rfl
  ·rw [h3]
   have hk:(0:Int) ≤ (k:Int):=by omega
   have w1:IntKind.i64.wrap (1 + (k:Int)) = ((1 + k:Nat):Int):=by rw [w64 (by omega) (by omega)];omega
   have he:=ext_take ⟨w.toArray⟩ k
   have hs:(⟨(List.take k w).toArray⟩:ByteArray).size = k:=by rw [ba_size,List.length_take];omega
   have hd2:=ext_drop ⟨(32 :: w).toArray⟩ (1 + k)
   rw [hz] at hd2
   have htk:(List.take k w).length = k:=by rw [List.length_take];omega
   simp -implicitDefEqProofs (maxSteps:=2000000) only [c35,h1,hk,hz,hw,Int.toNat_natCast,↓reduceIte,S0,Option.map_none,Nat.reduceEqDiff,Nat.reduceAdd,reduceCtorEq,St.clr,outV,ownsV,owns1,ownL,PV.cells,cellL,fillL,Nat.reduceLeDiff]
   rw [he,hs,w1,Int.toNat_natCast,hd2,htk,Nat.add_comm]
   exact ⟨by omega,⟨by omega,by omega⟩,rfl,rfl⟩
def numO (w:List UInt8):Option Int:=match Lib.atoiAll w with
 | .ok v=>if 0 ≤ v ∧ v < 32768 ∧ Lib.itoa v = w then some v else none
 | _=>none
def numF (w:List UInt8) (b:Bool):Int × Bool:=match numO w with
 | some v=>(v,b)
 | none=>(0,true)
structure HY (X:Cx):Prop extends HX X where
 h5:ErrC X 5
 h6:ErrC X 6
theorem r37 (hX:HY X) (l w:List UInt8) (hw:w.length ≤ 100000000000000) (b:Bool):R X Tryz.prog 37 [.lf (.ptr 0 0),.lf (.str ⟨w.toArray⟩)] [liL l b] (.lf (.int .i64 (numF w b).1)) [liL l (numF w b).2]:=by
 have hz:(⟨w.toArray⟩:ByteArray).size = w.length:=ba_size
 refine R_i [] [] c37_ok rfl (by simp) ?_
 unfold numF numO
 by_cases h:∃ v,Lib.atoiAll w = .ok v
 ·obtain ⟨v,hv⟩:=h
  have hb:=Lib.atoiAll_bounds hv
  have h51:=r51_ok (X:=X) ⟨w.toArray⟩ (by omega) v hv
  have h30:=r30 (X:=X) hX.h2 v hb.1 hb.2
  rw [hv]
  simp -implicitDefEqProofs (maxSteps:=2000000) only [c37,↓reduceIte,S0,St.init,enum,Nat.reduceEqDiff,reduceCtorEq,PV.leaves]
  refine wcall_s h51 rfl rfl ?_
  simp -implicitDefEqProofs (maxSteps:=2000000) only [c37,↓reduceIte,S0,Nat.reduceEqDiff,Nat.reduceAdd,reduceCtorEq,cond_false,St.clr,outV,ownsV,owns1,ownL,PV.leaves,PV.cells,cellL,fillL,ite_not,v_ieq_n]
  by_cases h1:v < 0
  ·rw [if_pos h1,if_neg (by omega)]
   exact ⟨rfl,rfl⟩
  rw [if_neg h1]
  by_cases h2:32768 ≤ v
  ·rw [if_pos h2,if_neg (by omega)]
   exact ⟨rfl,rfl⟩
  rw [if_neg h2]
  have hd:(⟨(Lib.itoa v).toArray⟩:ByteArray) = ⟨w.toArray⟩ ↔ Lib.itoa v = w:=by
   constructor
   ·intro h;exact congrArg (fun s:ByteArray=>s.data.toList) h
   ·intro h;rw [h]
  have l1:decide (v < 0) = false:=decide_eq_false h1
  have l2:decide (32768 ≤ v) = false:=decide_eq_false h2
  refine wcall_s h30 rfl rfl ?_
  by_cases h3:Lib.itoa v = w
  ·rw [if_pos ⟨by omega,by omega,h3⟩]
   simp -implicitDefEqProofs (maxSteps:=2000000) only [c37,h3,↓reduceIte,S0,Nat.reduceEqDiff,Nat.reduceAdd,reduceCtorEq,cond_false,St.clr,outV,ownsV,owns1,ownL,PV.cells,cellL,fillL,ne_eq,ite_not]
   done
  ·rw [if_neg (fun h=>h3 h.2.2)]
   simp -implicitDefEqProofs (maxSteps:=2000000) only [c37,↓reduceIte,S0,Nat.reduceEqDiff,Nat.reduceAdd,reduceCtorEq,cond_false,St.clr,outV,ownsV,owns1,ownL,PV.cells,cellL,fillL,ne_eq,ite_not]
   rw [if_neg (fun h=>h3 (hd.1 h))]
   trivial
 ·have hnv:∀ v,Lib.atoiAll w ≠ .ok v:=fun v e=>h ⟨v,e⟩
  obtain ⟨n,h51⟩:=r51_bad (X:=X) hX.h5 hX.h6 ⟨w.toArray⟩ (by omega) hnv
  have e0:(match Lib.atoiAll w with
   | .ok v=>if 0 ≤ v ∧ v < 32768 ∧ Lib.itoa v = w then some v else none
   | _=>none) = none:=by
   cases hh:Lib.atoiAll w with
   | ok v=>exact absurd hh (hnv v)
   | «syntax»=>rfl
   | range=>rfl
  rw [e0]
  simp -implicitDefEqProofs (maxSteps:=2000000) only [c37,↓reduceIte,S0,St.init,enum,Nat.reduceEqDiff,reduceCtorEq,PV.leaves]
  refine wcall_down h51 rfl ?_
  simp -implicitDefEqProofs (maxSteps:=2000000) only [c37,errX,↓reduceIte,S0,Nat.reduceEqDiff,Nat.reduceAdd,reduceCtorEq,St.clr,outV,ownsV,owns1,ownL,PV.cells,cellL,fillL,ol_f,e_asg_f,v_ieq_i]
  done
def textF (l:List UInt8) (b:Bool):ByteArray × (List UInt8 × Bool) :=
 if hasP 32 l = true ∧ (cut ⟨l.toArray⟩ 1).2.2.1 = 0 ∧ (cut ⟨l.toArray⟩ 1).2.2.2 = 0 then ((cut ⟨l.toArray⟩ 1).1,(l.drop (cut ⟨l.toArray⟩ 1).2.1.toNat,b)) else (⟨#[]⟩,(l,true))
theorem r39 (l:List UInt8) (b:Bool):R X Tryz.prog 39 [.lf (.ptr 0 0)] [liL l b] (.lf (.str (textF l b).1)) [liL (textF l b).2.1 (textF l b).2.2]:=by
 have h36:=r36 (X:=X) l 32
 have h53:=r53 (X:=X) ⟨l.toArray⟩ 1 (by decide) (by decide)
 have hz:(⟨l.toArray⟩:ByteArray).size = l.length:=ba_size
 have hok:=cut_ok ⟨l.toArray⟩ 1
 refine R_i [] [] c39_ok rfl (by simp) ?_
 unfold textF
 generalize cut ⟨l.toArray⟩ 1 = C at *
 obtain ⟨C1,C2,C3,C4⟩:=C
 simp only at *
 cases h:hasP 32 l with
 | false =>
  rw [h] at h36
  rw [if_neg (fun h=>by cases h.1)]
  simp -implicitDefEqProofs (maxSteps:=2000000) only [c39,↓reduceIte,S0,St.init,enum,reduceCtorEq,PV.leaves]
  refine wcall_s h36 rfl rfl ?_
  simp -implicitDefEqProofs (maxSteps:=2000000) only [c39,↓reduceIte,S0,Nat.reduceAdd,reduceCtorEq,St.clr,outV,ownsV,owns1,ownL,PV.cells,cellL,fillL]
  done
 | true =>
  rw [h] at h36
  simp -implicitDefEqProofs (maxSteps:=2000000) only [c39,↓reduceIte,S0,St.init,enum,reduceCtorEq,PV.leaves]
  refine wcall_s h36 rfl rfl ?_
  simp -implicitDefEqProofs (maxSteps:=2000000) only [c39,↓reduceIte,S0,reduceCtorEq,St.clr,outV,ownsV,owns1,ownL,PV.leaves]
  refine wcall_s h53 rfl rfl ?_
  have hx:=ext_drop ⟨l.toArray⟩ C2.toNat
  rw [hz] at hx
  simp -implicitDefEqProofs (maxSteps:=2000000) only [c39,hz,hx,↓reduceIte,S0,Option.map_none,Nat.reduceEqDiff,Nat.reduceAdd,reduceCtorEq,St.clr,outV,ownsV,owns1,ownL,PV.cells,cellL,fillL,Nat.reduceBEq,Nat.reduceLeDiff,Bool.not_eq_eq_eq_not]
  by_cases hc:C3 = 0 ∧ C4 = 0
  ·obtain ⟨rfl,rfl⟩:=hc
   have:=hok rfl
   rw [if_neg (by decide),if_pos ⟨rfl,rfl⟩]
   rw [hz] at this
   exact ⟨⟨by omega,by omega⟩,rfl,rfl,rfl⟩
  ·rw [if_pos (by simp;omega),if_neg hc]
   exact ⟨rfl,rfl,rfl⟩
def setF (l:List UInt8) (b:Bool):(Nat → Nat) × (List UInt8 × Bool) :=
 if hasP 32 l = true ∧ (clrF ⟨l.toArray⟩ 1).2.2.1 = 0 ∧ (clrF ⟨l.toArray⟩ 1).2.2.2 = 0 then ((clrF ⟨l.toArray⟩ 1).1,(l.drop (clrF ⟨l.toArray⟩ 1).2.1.toNat,b)) else (noS,(l,true))
theorem mems_end (s:ByteArray):∀ (m:Nat) (Sa:Nat → Nat) (q:Rd),bd4 Sa → (q.bc = 0 → q.at_ ≤ s.size + 1 ∧ s.size + 2 ≤ m + q.at_) → bd4 (memsF s m Sa q).1 ∧ ((memsF s m Sa q).2.bc = 0 → pkF s (memsF s m Sa q).2.at_ = 93)
 | 0,Sa,q,hS,hq=>by
  refine ⟨hS,fun h=>?_⟩
  have:=hq h
  omega
 | m + 1,Sa,q,hS,hq=>by
  unfold memsF
  by_cases hg:q.bc = 0 ∧ ¬ pkF s q.at_ = 93
  ·rw [if_pos hg]
   have hqq:=hq hg.1
   have mv:=mem_mv s q
   have le:=mem_le s q
   exact mems_end s m _ _ (bd_uni hS (bd_mem s q)) (fun h=>by
    have:=le h
    rcases mv with mv | mv
    ·exact ⟨by omega,by omega⟩
    ·exact absurd h mv)
  ·rw [if_neg hg]
   exact ⟨hS,fun h=>Decidable.not_not.1 fun h2=>hg ⟨h,h2⟩⟩
theorem clr_ok (s:ByteArray) (k:Int):bd4 (clrF s k).1 ∧ ((clrF s k).2.2.2 = 0 → (clrF s k).2.2.1 = 0 ∧ 0 ≤ (clrF s k).2.1 ∧ (clrF s k).2.1 ≤ s.size):=by
 unfold clrF
 split
 ·exact ⟨bd_no,fun h=>absurd h (by decide)⟩
 rename_i h1
 split
 ·exact ⟨bd_no,fun h=>absurd h (by simp only;decide)⟩
 rename_i h2
 have hp:=pk_lt (s:=s) (k:=k.toNat) (by omega)
 have hp1:=pk_lt (s:=s) (k:=k.toNat + 1)
 have he:=mems_end s (s.size + 1) noS ⟨if pkF s (k.toNat + 1) = 94 then k.toNat + 2 else k.toNat + 1,0,0⟩ bd_no (fun _=>by
  simp only
  split
  ·have:=hp1 (by omega)
   exact ⟨by omega,by omega⟩
  ·exact ⟨by omega,by omega⟩)
 generalize memsF s (s.size + 1) noS ⟨if pkF s (k.toNat + 1) = 94 then k.toNat + 2 else k.toNat + 1,0,0⟩ = M at *
 simp only
 split
 ·rename_i h3
  exact ⟨bd_no,fun h=>absurd h h3⟩
 ·rename_i h3
  have h93:=he.2 (Decidable.not_not.1 h3)
  have hl:=pk_lt (s:=s) (k:=M.2.at_) (by omega)
  refine ⟨?_,fun _=>⟨rfl,by simp only;omega,by simp only;omega⟩⟩
  split
  ·exact bd_not _
  ·exact he.1
theorem r40 (l:List UInt8) (hl:l.length ≤ 100000000000000) (b:Bool):R X Tryz.prog 40 [.lf (.ptr 0 0)] [liL l b] (.ag (u4 (setF l b).1)) [liL (setF l b).2.1 (setF l b).2.2]:=by
 have h36:=r36 (X:=X) l 32
 have hz:(⟨l.toArray⟩:ByteArray).size = l.length:=ba_size
 have h54:=r54 (X:=X) ⟨l.toArray⟩ (by omega) 1
 have hok:=clr_ok ⟨l.toArray⟩ 1
 refine R_i [] [] c40_ok rfl (by simp) ?_
 unfold setF
 generalize clrF ⟨l.toArray⟩ 1 = C at *
 obtain ⟨C1,C2,C3,C4⟩:=C
 simp only at *
 cases h:hasP 32 l with
 | false =>
  rw [h] at h36
  rw [if_neg (fun h=>by cases h.1)]
  simp -implicitDefEqProofs (maxSteps:=2000000) only [c40,↓reduceIte,S0,St.init,enum,reduceCtorEq,PV.leaves,Nat.reduceBEq,Nat.reduceLeDiff]
  refine wcall_s h36 rfl rfl ?_
  simp -implicitDefEqProofs (maxSteps:=2000000) only [c40,↓reduceIte,S0,Nat.reduceEqDiff,Nat.reduceAdd,reduceCtorEq,St.clr,outV,ownsV,owns1,ownL,PV.cells,cellL,fillL]
  exact ⟨rfl,rfl,rfl,rfl⟩
 | true =>
  rw [h] at h36
  simp -implicitDefEqProofs (maxSteps:=2000000) only [c40,↓reduceIte,S0,St.init,enum,reduceCtorEq,PV.leaves,Nat.reduceBEq,Nat.reduceLeDiff]
  refine wcall_s h36 rfl rfl ?_
  simp -implicitDefEqProofs (maxSteps:=2000000) only [c40,↓reduceIte,S0,Nat.reduceEqDiff,reduceCtorEq,St.clr,outV,ownsV,owns1,ownL,PV.leaves]
  refine wcall_s h54 rfl rfl ?_
  have hx:=ext_drop ⟨l.toArray⟩ C2.toNat
  rw [hz] at hx
  simp -implicitDefEqProofs (maxSteps:=2000000) only [c40,hz,hx,↓reduceIte,S0,Option.map_none,Nat.reduceEqDiff,Nat.reduceAdd,reduceCtorEq,St.clr,outV,ownsV,owns1,ownL,PV.cells,cellL,fillL,Nat.reduceBEq,Nat.reduceLeDiff,Bool.not_eq_eq_eq_not]
  by_cases hc:C3 = 0 ∧ C4 = 0
  ·obtain ⟨rfl,rfl⟩:=hc
   have:=hok.2 rfl
   rw [if_neg (by decide),if_pos ⟨rfl,rfl⟩]
   rw [hz] at this
   exact ⟨⟨by omega,by omega⟩,⟨rfl,rfl,rfl,rfl⟩,rfl,rfl⟩
  ·rw [if_pos (by simp;omega),if_neg hc]
   exact ⟨⟨rfl,rfl,rfl,rfl⟩,rfl,rfl⟩
end Go.Proofs.YthcpaohmajjopaaGreatDoor.I
