/- Contracts, part Z6. -/
import Derived.Test.YthcpaohmajjopaaGreatDoorZ5
import Derived.Test.YthcpaohmajjopaaGreatDoorZ2
import Derived.Test.YthcpaohmajjopaaGreatDoorZ4
import Derived.Test.YthcpaohmajjopaaGreatDoorZ3
set_option linter.unusedVariables false
set_option linter.unusedSimpArgs false
namespace Go.Proofs.YthcpaohmajjopaaGreatDoor.I
open Go Go.Proofs Go.Proofs.YthcpaohmajjopaaGreatDoor.AM
variable {X:Cx}
abbrev St2:Type:=List UInt8 × Bool
def numW (p:St2):Int × St2:=((numF (wordF p.1 p.2).1 (wordF p.1 p.2).2.2).1,((wordF p.1 p.2).2.1,(numF (wordF p.1 p.2).1 (wordF p.1 p.2).2.2).2))
def tgtB (p:St2):Bool:=(wordF p.1 p.2).2.2 || !hasP 62 (wordF p.1 p.2).1
def tgtN (p:St2):Int × Bool:=numF (if hasP 62 (wordF p.1 p.2).1 = true then (wordF p.1 p.2).1.tail else (wordF p.1 p.2).1) (tgtB p)
def tgtW (at_:Nat) (p:St2):Int × St2:=((tgtN p).1 - at_,((wordF p.1 p.2).2.1,(tgtN p).2))
def aF (h1 h32:Bool) (at_:Nat) (p:St2):Int × St2:=if h32 then tgtW at_ p else if h1 then numW p else (0,p)
def bF (h:Bool) (p:St2):Int × St2:=if h then numW p else (0,p)
def tF (h:Bool) (p:St2):ByteArray × St2:=if h then textF p.1 p.2 else (⟨#[]⟩,p)
def sF (h:Bool) (p:St2):(Nat → Nat) × St2:=if h then setF p.1 p.2 else (noS,p)
structure Fld where
 a:Int × St2
 b:Int × St2
 n:Int × St2
 t:ByteArray × St2
 s:(Nat → Nat) × St2
def insF (h1 h2 h4 h8 h16 h32:Bool) (at_:Nat) (p:St2):Fld :=
 {a:=aF h1 h32 at_ p,b:=bF h2 (aF h1 h32 at_ p).2,n:=bF h4 (bF h2 (aF h1 h32 at_ p).2).2,t:=tF h8 (bF h4 (bF h2 (aF h1 h32 at_ p).2).2).2,
  s:=sF h16 (tF h8 (bF h4 (bF h2 (aF h1 h32 at_ p).2).2).2).2 }
def Fld.ins (f:Fld) (k:Nat):Ins:=⟨k,f.a.1,f.b.1,f.n.1,f.t.1,f.s.1 0,f.s.1 1,f.s.1 2,f.s.1 3⟩
def zeroI:Ins:=⟨0,0,0,0,⟨#[]⟩,0,0,0,0⟩
def insK' (k at_:Nat) (p:St2):Fld:=insF (hasB k 1) (hasB k 2) (hasB k 4) (hasB k 8) (hasB k 16) (hasB k 32) at_ p
def readF (l:List UInt8) (at_:Nat):Ins × Bool :=
 let c:=cutB 32 l
 let w:=wordF (32 :: c.2.getD []) false
 let k:=findF w.1
 if k = 0 ∨ c.1 ≠ Lib.itoa at_ then (zeroI,false)
 else if (insK' k at_ w.2).s.2.2 = true ∨ (insK' k at_ w.2).s.2.1 ≠ [] ∨ lineL at_ ((insK' k at_ w.2).ins k) ≠ l then (zeroI,false)
 else ((insK' k at_ w.2).ins k,true)
theorem find_bd (w:List UInt8):∀ n op,1 ≤ op → findG w n op = 0 ∨ (op ≤ findG w n op ∧ findG w n op < op + n)
 | 0,op,_=>.inl rfl
 | n + 1,op,h=>by
  unfold findG
  split
  ·right;omega
  ·rcases find_bd w n (op + 1) (by omega) with h1 | h1
   ·exact .inl h1
   ·right;omega
theorem num_bd (w:List UInt8) (b:Bool):0 ≤ (numF w b).1 ∧ (numF w b).1 < 32768:=by
 unfold numF numO
 cases Lib.atoiAll w with
 | ok v =>
  simp only
  split
  ·rename_i v' hv
   split at hv
   ·cases hv;simp only;omega
   ·cases hv
  ·exact ⟨Int.le_refl _,by show (0:Int) < 32768;decide⟩
 | «syntax»=>exact ⟨Int.le_refl _,by show (0:Int) < 32768;decide⟩
 | range=>exact ⟨Int.le_refl _,by show (0:Int) < 32768;decide⟩
theorem bF_bd (h:Bool) (p:St2):0 ≤ (bF h p).1 ∧ (bF h p).1 < 32768:=by
 unfold bF
 cases h
 ·exact ⟨Int.le_refl _,by show (0:Int) < 32768;decide⟩
 ·exact num_bd _ _
theorem sF_bd (h:Bool) (p:St2):bd4 (sF h p).1:=by
 unfold sF
 cases h
 ·exact bd_no
 ·simp only [if_true]
  unfold setF
  split
  ·exact (clr_ok _ _).1
  ·exact bd_no
theorem aF_bd (h1 h32:Bool) (at_:Nat) (p:St2) (hat:at_ ≤ 1000000):-1000000 ≤ (aF h1 h32 at_ p).1 ∧ (aF h1 h32 at_ p).1 < 32768 ∧ (h32 = true → 0 ≤ (at_:Int) + (aF h1 h32 at_ p).1 ∧ (at_:Int) + (aF h1 h32 at_ p).1 < 32768) ∧ (h32 = false → 0 ≤ (aF h1 h32 at_ p).1):=by
 unfold aF
 cases h32
 ·cases h1
  ·exact ⟨by show (-1000000:Int) ≤ 0;decide,by show (0:Int) < 32768;decide,(fun h=>by cases h),fun _=>Int.le_refl _⟩
  ·have:=num_bd (wordF p.1 p.2).1 (wordF p.1 p.2).2.2
   simp only [numW,if_true]
   exact ⟨by simp;omega,by simp;omega,(fun h=>by cases h),fun _=>by simp;omega⟩
 ·have:0 ≤ (tgtN p).1 ∧ (tgtN p).1 < 32768:=num_bd _ _
  simp only [tgtW,if_true]
  exact ⟨by omega,by omega,fun _=>by omega,fun h=>by cases h⟩
theorem scan_size (t:ByteArray) (q:Int):∀ (n:Nat) (i:Int) (acc:List Int),(scan t q n i acc).1.size ≤ acc.length + n
 | 0,i,acc=>Nat.zero_le _
 | n + 1,i,acc=>by
  rw [scan_succ]
  have hs:(strOfNums acc).size = acc.length:=by unfold strOfNums;rw [ba_size];simp
  have e0:(⟨#[]⟩:ByteArray).size = 0:=rfl
  split
  ·split
   ·show (strOfNums acc).size ≤ _;omega
   ·split
    ·exact Nat.zero_le _
    ·split
     ·split
      ·exact Nat.zero_le _
      ·have:=scan_size t q n (i + (esc t i).2) (acc ++ [(esc t i).1])
       simp only [List.length_append,List.length_cons,List.length_nil] at this
       omega
     ·have:=scan_size t q n (i + 1) (acc ++ [byteAt t i])
      simp only [List.length_append,List.length_cons,List.length_nil] at this
      omega
  ·exact Nat.zero_le _
theorem cut_size (t:ByteArray) (a:Int):(cut t a).1.size ≤ 65537:=by
 unfold cut
 split
 ·exact Nat.zero_le _
 rename_i h1
 split
 ·exact Nat.zero_le _
 split
 ·exact Nat.zero_le _
 ·have:=scan_size t (byteAt t a) (t.size + 1) (a + 1) []
  simp only [List.length_nil] at this
  omega
theorem tF_bd (h:Bool) (p:St2):(tF h p).1.size ≤ 65537:=by
 unfold tF
 cases h
 ·exact Nat.zero_le _
 ·simp only [if_true]
  unfold textF
  split
  ·exact cut_size _ _
  ·exact Nat.zero_le _
theorem u64b {S:Nat → Nat} (h:bd4 S) (q:Nat):0 ≤ ((S q:Nat):Int) ∧ ((S q:Nat):Int) ≤ 18446744073709551615:=by
 have:=h q
 omega
theorem ins_line {k at_:Nat} (hk:1 ≤ k) (hk2:k ≤ 20) (hat:at_ ≤ 1000000) (p:St2):LineOK at_ ((insK' k at_ p).ins k):=by
 have ha:=aF_bd (hasB k 1) (hasB k 32) at_ p hat
 have hb:=bF_bd (hasB k 2) (aF (hasB k 1) (hasB k 32) at_ p).2
 have hn:=bF_bd (hasB k 4) (bF (hasB k 2) (aF (hasB k 1) (hasB k 32) at_ p).2).2
 have hs:=sF_bd (hasB k 16) (tF (hasB k 8) (bF (hasB k 4) (bF (hasB k 2) (aF (hasB k 1) (hasB k 32) at_ p).2).2).2).2
 have s0:=hs 0
 have s1:=hs 1
 have s2:=hs 2
 have s3:=hs 3
 refine ⟨by omega,?_,?_,?_,?_,?_,?_,?_⟩
 ·show 1 ≤ (k:Int) ∧ (k:Int) ≤ 20;omega
 ·intro h
  have h':hasB k 32 = true:=h
  have:=ha.2.2.1 h'
  show _ ≤ (at_:Int) + (aF (hasB k 1) (hasB k 32) at_ p).1 ∧ (at_:Int) + (aF (hasB k 1) (hasB k 32) at_ p).1 < _
  omega
 ·intro h
  show _ ≤ (aF (hasB k 1) (hasB k 32) at_ p).1 ∧ (aF (hasB k 1) (hasB k 32) at_ p).1 ≤ _
  omega
 ·intro h1 h32
  exact ha.2.2.2 h32
 ·intro h
  show _ ≤ (bF (hasB k 2) (aF (hasB k 1) (hasB k 32) at_ p).2).1 ∧ (bF (hasB k 2) (aF (hasB k 1) (hasB k 32) at_ p).2).1 ≤ _
  omega
 ·intro h
  show _ ≤ (bF (hasB k 4) (bF (hasB k 2) (aF (hasB k 1) (hasB k 32) at_ p).2).2).1 ∧ (bF (hasB k 4) (bF (hasB k 2) (aF (hasB k 1) (hasB k 32) at_ p).2).2).1 ≤ _
  omega
 ·have ht:=tF_bd (hasB k 8) (bF (hasB k 4) (bF (hasB k 2) (aF (hasB k 1) (hasB k 32) at_ p).2).2).2
  refine ⟨?_,?_,?_,?_,?_,?_,?_,?_,?_⟩
  ·show _ ≤ (k:Int) ∧ (k:Int) ≤ _;omega
  ·show _ ≤ (aF (hasB k 1) (hasB k 32) at_ p).1 ∧ (aF (hasB k 1) (hasB k 32) at_ p).1 ≤ _;omega
  ·show _ ≤ (bF (hasB k 2) (aF (hasB k 1) (hasB k 32) at_ p).2).1 ∧ (bF (hasB k 2) (aF (hasB k 1) (hasB k 32) at_ p).2).1 ≤ _;omega
  ·show _ ≤ (bF (hasB k 4) (bF (hasB k 2) (aF (hasB k 1) (hasB k 32) at_ p).2).2).1 ∧ (bF (hasB k 4) (bF (hasB k 2) (aF (hasB k 1) (hasB k 32) at_ p).2).2).1 ≤ _;omega
  ·show (tF (hasB k 8) (bF (hasB k 4) (bF (hasB k 2) (aF (hasB k 1) (hasB k 32) at_ p).2).2).2).1.size ≤ _;omega
  ·exact u64b hs 0
  ·exact u64b hs 1
  ·exact u64b hs 2
  ·exact u64b hs 3
theorem cut_le (c:UInt8) (l:List UInt8):(cutB c l).1.length ≤ l.length ∧ ((cutB c l).2.getD []).length ≤ l.length:=by
 have:=cut_len c l
 cases h:(cutB c l).2 with
 | none=>rw [h] at this;simp only [Option.getD_none,List.length_nil] at this ⊢;omega
 | some r=>rw [h] at this;simp only [Option.getD_some] at this ⊢;omega
theorem word_le (l:List UInt8) (b:Bool):(wordF l b).1.length ≤ l.length ∧ (wordF l b).2.1.length ≤ l.length:=by
 unfold wordF
 split
 ·have:=(cut_le 32 l.tail).1
  simp only [List.length_tail,List.length_drop] at this ⊢
  omega
 ·simp
theorem aF_le (h1 h32:Bool) (at_:Nat) (p:St2):(aF h1 h32 at_ p).2.1.length ≤ p.1.length:=by
 unfold aF
 cases h32
 ·cases h1
  ·exact Nat.le_refl _
  ·exact (word_le p.1 p.2).2
 ·exact (word_le p.1 p.2).2
theorem bF_le (h:Bool) (p:St2):(bF h p).2.1.length ≤ p.1.length:=by
 unfold bF
 cases h
 ·exact Nat.le_refl _
 ·exact (word_le p.1 p.2).2
theorem tF_le (h:Bool) (p:St2):(tF h p).2.1.length ≤ p.1.length:=by
 unfold tF
 cases h
 ·exact Nat.le_refl _
 ·simp only [if_true]
  unfold textF
  split
  ·simp only [List.length_drop];omega
  ·exact Nat.le_refl _
theorem num_r (hX:HY X) (p:St2) (hl:p.1.length ≤ 100000000000000) :
  R X Tryz.prog 35 [.lf (.ptr 0 0)] [liL p.1 p.2] (.lf (.str ⟨(wordF p.1 p.2).1.toArray⟩)) [liL (wordF p.1 p.2).2.1 (wordF p.1 p.2).2.2] ∧
  R X Tryz.prog 37 [.lf (.ptr 0 0),.lf (.str ⟨(wordF p.1 p.2).1.toArray⟩)] [liL (wordF p.1 p.2).2.1 (wordF p.1 p.2).2.2] (.lf (.int .i64 (numW p).1)) [liL (numW p).2.1 (numW p).2.2] :=
 ⟨r35 _ (by omega) _,r37 hX _ _ (by have:=(word_le p.1 p.2).1;omega) _⟩
theorem lst_of {a b:List UInt8} (h:(⟨a.toArray⟩:ByteArray) = ⟨b.toArray⟩):a = b:=by simpa using congrArg (fun s:ByteArray=>s.data.toList) h
theorem tt_of {b:Bool} (h:¬ b = false):b = true:=by simpa using h
theorem nil_of {a:List UInt8} (h:(⟨a.toArray⟩:ByteArray) = ⟨#[]⟩):a = []:=by simpa using congrArg (fun s:ByteArray=>s.data.toList) h
theorem of_nil {a:List UInt8} (h:a = []):(⟨a.toArray⟩:ByteArray) = ⟨#[]⟩:=by rw [h]
theorem tgt_r (hX:HY X) (p:St2) (hl:p.1.length ≤ 100000000000000) :
  R X Tryz.prog 35 [.lf (.ptr 0 0)] [liL p.1 p.2] (.lf (.str ⟨(wordF p.1 p.2).1.toArray⟩)) [liL (wordF p.1 p.2).2.1 (wordF p.1 p.2).2.2] ∧
  R X Tryz.prog 36 [.lf (.str ⟨(wordF p.1 p.2).1.toArray⟩),.lf (.str ⟨#[62]⟩)] [] (.lf (.bool (hasP 62 (wordF p.1 p.2).1))) [] ∧
  R X Tryz.prog 38 [.lf (.str ⟨(wordF p.1 p.2).1.toArray⟩),.lf (.str ⟨#[62]⟩)] [] (.lf (.str ⟨(if hasP 62 (wordF p.1 p.2).1 = true then (wordF p.1 p.2).1.tail else (wordF p.1 p.2).1).toArray⟩)) [] ∧
  R X Tryz.prog 37 [.lf (.ptr 0 0),.lf (.str ⟨(if hasP 62 (wordF p.1 p.2).1 = true then (wordF p.1 p.2).1.tail else (wordF p.1 p.2).1).toArray⟩)] [liL (wordF p.1 p.2).2.1 (tgtB p)] (.lf (.int .i64 (tgtN p).1)) [liL (wordF p.1 p.2).2.1 (tgtN p).2] :=
 ⟨r35 _ (by omega) _,r36 _ _,r38 _ _,r37 hX _ _ (by
  have:=(word_le p.1 p.2).1
  split
  ·simp only [List.length_tail];omega
  ·omega) _⟩
set_option maxHeartbeats 4000000 in
theorem r25 (hX:HY X) (l:List UInt8) (hl:l.length ≤ 1000000000000) (at_:Nat) (hat:at_ ≤ 1000000) (r:Ins × Bool) (hr:readF l at_ = r) :
  R X Tryz.prog 25 [.lf (.str ⟨l.toArray⟩),.lf (.int .i64 (at_:Int))] [] (.tp [.ag r.1.c,.lf (.bool r.2)]) []:=by
 have hz:(⟨l.toArray⟩:ByteArray).size = l.length:=ba_size
 have h24:=r24 (X:=X) ⟨l.toArray⟩ (by omega) 32 _ rfl
 have cl:=cut_le 32 l
 unfold readF at hr
 simp only at hr h24
 generalize cutB 32 l = C at *
 obtain ⟨c1,c2⟩:=C
 simp only at *
 generalize c2.getD [] = rest at *
 have hb32:(⟨#[32]⟩:ByteArray) ++ ⟨rest.toArray⟩ = ⟨(32 :: rest).toArray⟩:=by apply ba_eq;simp
 have hrz:(⟨rest.toArray⟩:ByteArray).size = rest.length:=ba_size
 have h35:=r35 (X:=X) (32 :: rest) (by simp only [List.length_cons];omega) false
 have hwl:=word_le (32 :: rest) false
 generalize wordF (32 :: rest) false = W at *
 obtain ⟨w,p⟩:=W
 simp only at *
 have h34:=r34 (X:=X) hX.h0 w _ rfl
 have h30:=r30 (X:=X) hX.h2 at_ (by omega) (by omega)
 have hfb:=find_bd w 20 1 (by omega)
 rw [show findG w 20 1 = findF w from rfl] at hfb
 generalize findF w = k at *
 refine R_i [] [] c25_ok rfl (by simp) ?_
 have h1:(⟨#[32]⟩:ByteArray).size = 1:=rfl
 simp -implicitDefEqProofs (maxSteps:=2000000) only [c25,↓reduceIte,S0,St.init,enum,Nat.reduceEqDiff,reduceCtorEq,PV.leaves]
 refine wcall_s h24 rfl rfl ?_
 simp -implicitDefEqProofs (maxSteps:=2000000) only [c25,hb32,hrz,h1,↓reduceIte,S0,Nat.reduceEqDiff,Nat.reduceAdd,reduceCtorEq,St.clr,outV,ownsV,owns1,ownL,PV.leaves,PV.cells,cellL,fillL,Nat.reduceBEq,Nat.reduceLeDiff,ne_eq]
 refine ⟨by omega,?_⟩
 refine pcall_i h35 rfl rfl ?_
 simp -implicitDefEqProofs (maxSteps:=2000000) only [c25,↓reduceIte,S0,Nat.reduceEqDiff,outV,ownsV,owns1,ownL,PV.leaves]
 refine wcall_s h34 rfl rfl ?_
 by_cases hk0:k = 0
 ·subst hk0
  rw [if_pos (.inl rfl)] at hr
  subst hr
  have e5:fndE 0 = 5:=rfl
  have d5:¬ (5:Int) = 0:=by decide
  simp -implicitDefEqProofs (maxSteps:=2000000) only [c25,e5,d5,zeroI,Ins.c,↓reduceIte,S0,Nat.reduceEqDiff,Nat.reduceAdd,reduceCtorEq,cond_false,St.clr,outV,ownsV,owns1,ownL,PV.leaves,PV.cells,cellL,fillL,ne_eq,ite_not]
  done
 have hf0:fndE k = 0:=by unfold fndE;rw [if_neg hk0]
 simp -implicitDefEqProofs (maxSteps:=2000000) only [c25,hf0,↓reduceIte,S0,Nat.reduceEqDiff,reduceCtorEq,cond_false,St.clr,outV,ownsV,owns1,ownL,PV.leaves,ne_eq,Decidable.not_not]
 refine wcall_s h30 rfl rfl ?_
 by_cases hc1:c1 = Lib.itoa at_
 rotate_left
 ·rw [if_pos (.inr hc1)] at hr
  subst hr
  have hne:¬ (⟨c1.toArray⟩:ByteArray) = ⟨(Lib.itoa at_).toArray⟩:=fun h=>hc1 (by simpa using congrArg (fun s:ByteArray=>s.data.toList) h)
  simp -implicitDefEqProofs (maxSteps:=2000000) only [c25,zeroI,Ins.c,hne,↓reduceIte,S0,Nat.reduceEqDiff,Nat.reduceAdd,reduceCtorEq,cond_false,St.clr,outV,ownsV,owns1,ownL,PV.cells,cellL,fillL,ne_eq]
  done
 rw [if_neg (fun h=>h.elim hk0 (fun h=>h hc1))] at hr
 subst hc1
 have hkn:k < 21:=by omega
 have a1:=r15 (X:=X) hX.h1 k hkn 1
 have a2:=r15 (X:=X) hX.h1 k hkn 2
 have a4:=r15 (X:=X) hX.h1 k hkn 4
 have a8:=r15 (X:=X) hX.h1 k hkn 8
 have a16:=r15 (X:=X) hX.h1 k hkn 16
 have a32:=r15 (X:=X) hX.h1 k hkn 32
 have hli:=ins_line (k:=k) (at_:=at_) (by omega) (by omega) hat p
 have h20:=r20 hX.toHX at_ _ hli
 have hab:=aF_bd (hasB k 1) (hasB k 32) at_ p hat
 have l1:=aF_le (hasB k 1) (hasB k 32) at_ p
 have l2:=bF_le (hasB k 2) (aF (hasB k 1) (hasB k 32) at_ p).2
 have l3:=bF_le (hasB k 4) (bF (hasB k 2) (aF (hasB k 1) (hasB k 32) at_ p).2).2
 have l4:=tF_le (hasB k 8) (bF (hasB k 4) (bF (hasB k 2) (aF (hasB k 1) (hasB k 32) at_ p).2).2).2
 simp only [List.length_cons] at hwl
 have nA:=num_r hX p (by omega)
 have tA:=tgt_r hX p (by omega)
 have nB:=num_r hX (aF (hasB k 1) (hasB k 32) at_ p).2 (by omega)
 have nN:=num_r hX (bF (hasB k 2) (aF (hasB k 1) (hasB k 32) at_ p).2).2 (by omega)
 have tT:=r39 (X:=X) (bF (hasB k 4) (bF (hasB k 2) (aF (hasB k 1) (hasB k 32) at_ p).2).2).2.1 (bF (hasB k 4) (bF (hasB k 2) (aF (hasB k 1) (hasB k 32) at_ p).2).2).2.2
 have sS:=r40 (X:=X) (tF (hasB k 8) (bF (hasB k 4) (bF (hasB k 2) (aF (hasB k 1) (hasB k 32) at_ p).2).2).2).2.1 (by omega) (tF (hasB k 8) (bF (hasB k 4) (bF (hasB k 2) (aF (hasB k 1) (hasB k 32) at_ p).2).2).2).2.2
 have tN:0 ≤ (tgtN p).1 ∧ (tgtN p).1 < 32768:=num_bd _ _
 unfold insK' at hr h20
 obtain ⟨q,hq,e1,e2,e3,e4,e5,e6⟩:=pat6 hkn
 rw [e1] at a1
 rw [e2] at a2
 rw [e3] at a4
 rw [e4] at a8
 rw [e5] at a16
 rw [e6] at a32
 rw [e1,e2,e3,e4,e5,e6] at hr h20
 rw [e1,e6] at hab nB
 rw [e1,e2,e6] at nN
 rw [e1,e2,e3,e6] at tT
 rw [e1,e2,e3,e4,e6] at sS
 clear e1 e2 e3 e4 e5 e6 l1 l2 l3 l4 hli
 simp only [List.mem_cons,List.mem_nil_iff,or_false] at hq
 rcases hq with rfl | rfl | rfl | rfl | rfl | rfl | rfl | rfl
 all_goals simp only at a1 a2 a4 a8 a16 a32 hr h20 hab nB nN tT sS
 ·simp -implicitDefEqProofs (maxSteps:=2000000) only [c25,↓reduceIte,S0,Nat.reduceEqDiff,Nat.reduceAdd,reduceCtorEq,cond_false,St.clr,outV,ownsV,owns1,ownL,PV.leaves,PV.cells,cellL,fillL,Nat.reduceBEq,Nat.reduceLeDiff,ne_eq,ite_not]
  refine wcall_s a32 rfl rfl ?_
  simp -implicitDefEqProofs (maxSteps:=2000000) only [c25,↓reduceIte,S0,Nat.reduceEqDiff,reduceCtorEq,St.clr,outV,ownsV,owns1,ownL,PV.leaves]
  refine wcall_s a1 rfl rfl ?_
  simp -implicitDefEqProofs (maxSteps:=2000000) only [c25,↓reduceIte,S0,Nat.reduceEqDiff,reduceCtorEq,St.clr,outV,ownsV,owns1,ownL,PV.leaves]
  refine wcall_s a2 rfl rfl ?_
  simp -implicitDefEqProofs (maxSteps:=2000000) only [c25,↓reduceIte,S0,Nat.reduceEqDiff,reduceCtorEq,St.clr,outV,ownsV,owns1,ownL,PV.leaves]
  refine wcall_s a4 rfl rfl ?_
  simp -implicitDefEqProofs (maxSteps:=2000000) only [c25,↓reduceIte,S0,Nat.reduceEqDiff,reduceCtorEq,St.clr,outV,ownsV,owns1,ownL,PV.leaves]
  refine wcall_s a8 rfl rfl ?_
  simp -implicitDefEqProofs (maxSteps:=2000000) only [c25,↓reduceIte,S0,Nat.reduceEqDiff,reduceCtorEq,St.clr,outV,ownsV,owns1,ownL,PV.leaves]
  refine wcall_s a16 rfl rfl ?_
  simp -implicitDefEqProofs (maxSteps:=2000000) only [c25,↓reduceIte,S0,Nat.reduceEqDiff,Nat.reduceAdd,reduceCtorEq,cond_false,St.clr,outV,ownsV,owns1,ownL,PV.leaves,PV.cells,cellL,fillL,ne_eq,Decidable.not_not]
  with_reducible refine ite_pr (fun g1=>?_) (fun g1=>?_)
  ·with_reducible refine ite_pr (fun g2=>?_) (fun g2=>?_)
   ·refine wcall_s h20 rfl rfl ?_
    simp -implicitDefEqProofs (maxSteps:=2000000) only [c25,↓reduceIte,S0,Nat.reduceEqDiff,Nat.reduceAdd,reduceCtorEq,cond_false,St.clr,outV,ownsV,owns1,ownL,PV.cells,cellL,fillL,ne_eq,ite_not]
    with_reducible refine ite_pr (fun g3=>?_) (fun g3=>?_)
    ·rw [if_neg (by
      rintro (g | g | g)
      ·exact Bool.noConfusion (g1.symm.trans g)
      ·exact g (nil_of g2)
      ·exact g (lst_of g3))] at hr
     subst hr
     simp -implicitDefEqProofs (maxSteps:=2000000) only [c25,Fld.ins,Ins.c,↓reduceIte,S0]
     (repeat' (with_reducible refine And.intro ?_ ?_))<;>rfl
    ·rw [if_pos (.inr (.inr (fun g=>g3 (by rw [g]))))] at hr
     subst hr
     simp -implicitDefEqProofs (maxSteps:=2000000) only [c25,zeroI,Ins.c,↓reduceIte,S0]
     done
   ·rw [if_pos (.inr (.inl (fun g=>g2 (of_nil g))))] at hr
    subst hr
    simp -implicitDefEqProofs (maxSteps:=2000000) only [c25,zeroI,Ins.c,↓reduceIte,S0]
    done
  ·rw [if_pos (.inl (tt_of g1))] at hr
   subst hr
   simp -implicitDefEqProofs (maxSteps:=2000000) only [c25,zeroI,Ins.c,↓reduceIte,S0]
   done
 ·simp -implicitDefEqProofs (maxSteps:=2000000) only [c25,↓reduceIte,S0,Nat.reduceEqDiff,Nat.reduceAdd,reduceCtorEq,cond_false,St.clr,outV,ownsV,owns1,ownL,PV.leaves,PV.cells,cellL,fillL,Nat.reduceBEq,Nat.reduceLeDiff,ne_eq,ite_not]
  refine wcall_s a32 rfl rfl ?_
  simp -implicitDefEqProofs (maxSteps:=2000000) only [c25,↓reduceIte,S0,Nat.reduceEqDiff,reduceCtorEq,St.clr,outV,ownsV,owns1,ownL,PV.leaves]
  refine wcall_s a1 rfl rfl ?_
  simp -implicitDefEqProofs (maxSteps:=2000000) only [c25,↓reduceIte,S0,Nat.reduceEqDiff,reduceCtorEq,St.clr,outV,ownsV,owns1,ownL,PV.leaves]
  refine wcall_s a2 rfl rfl ?_
  simp -implicitDefEqProofs (maxSteps:=2000000) only [c25,↓reduceIte,S0,Nat.reduceEqDiff,reduceCtorEq,St.clr,outV,ownsV,owns1,ownL,PV.leaves]
  refine pcall_i nB.1 rfl rfl ?_
  simp -implicitDefEqProofs (maxSteps:=2000000) only [c25,↓reduceIte,S0,Nat.reduceEqDiff,outV,ownsV,owns1,ownL,PV.leaves]
  refine pcall_i nB.2 rfl rfl ?_
  simp -implicitDefEqProofs (maxSteps:=2000000) only [c25,↓reduceIte,S0,Nat.reduceEqDiff,Nat.reduceAdd,reduceCtorEq,outV,ownsV,owns1,ownL,PV.leaves,PV.cells,cellL,fillL,Nat.reduceLeDiff]
  refine wcall_s a4 rfl rfl ?_
  simp -implicitDefEqProofs (maxSteps:=2000000) only [c25,↓reduceIte,S0,Nat.reduceEqDiff,reduceCtorEq,St.clr,outV,ownsV,owns1,ownL,PV.leaves]
  refine wcall_s a8 rfl rfl ?_
  simp -implicitDefEqProofs (maxSteps:=2000000) only [c25,↓reduceIte,S0,Nat.reduceEqDiff,reduceCtorEq,St.clr,outV,ownsV,owns1,ownL,PV.leaves]
  refine wcall_s a16 rfl rfl ?_
  simp -implicitDefEqProofs (maxSteps:=2000000) only [c25,↓reduceIte,S0,Nat.reduceEqDiff,Nat.reduceAdd,reduceCtorEq,cond_false,St.clr,outV,ownsV,owns1,ownL,PV.leaves,PV.cells,cellL,fillL,ne_eq,Decidable.not_not]
  with_reducible refine ite_pr (fun g1=>?_) (fun g1=>?_)
  ·with_reducible refine ite_pr (fun g2=>?_) (fun g2=>?_)
   ·refine wcall_s h20 rfl rfl ?_
    simp -implicitDefEqProofs (maxSteps:=2000000) only [c25,↓reduceIte,S0,Nat.reduceEqDiff,Nat.reduceAdd,reduceCtorEq,cond_false,St.clr,outV,ownsV,owns1,ownL,PV.cells,cellL,fillL,ne_eq,ite_not]
    with_reducible refine ite_pr (fun g3=>?_) (fun g3=>?_)
    ·rw [if_neg (by
      rintro (g | g | g)
      ·exact Bool.noConfusion (g1.symm.trans g)
      ·exact g (nil_of g2)
      ·exact g (lst_of g3))] at hr
     subst hr
     simp -implicitDefEqProofs (maxSteps:=2000000) only [c25,Fld.ins,Ins.c,↓reduceIte,S0]
     (repeat' (with_reducible refine And.intro ?_ ?_))<;>rfl
    ·rw [if_pos (.inr (.inr (fun g=>g3 (by rw [g]))))] at hr
     subst hr
     simp -implicitDefEqProofs (maxSteps:=2000000) only [c25,zeroI,Ins.c,↓reduceIte,S0]
     done
   ·rw [if_pos (.inr (.inl (fun g=>g2 (of_nil g))))] at hr
    subst hr
    simp -implicitDefEqProofs (maxSteps:=2000000) only [c25,zeroI,Ins.c,↓reduceIte,S0]
    done
  ·rw [if_pos (.inl (tt_of g1))] at hr
   subst hr
   simp -implicitDefEqProofs (maxSteps:=2000000) only [c25,zeroI,Ins.c,↓reduceIte,S0]
   done
 ·simp -implicitDefEqProofs (maxSteps:=2000000) only [c25,↓reduceIte,S0,Nat.reduceEqDiff,Nat.reduceAdd,reduceCtorEq,cond_false,St.clr,outV,ownsV,owns1,ownL,PV.leaves,PV.cells,cellL,fillL,Nat.reduceBEq,Nat.reduceLeDiff,ne_eq,ite_not]
  refine wcall_s a32 rfl rfl ?_
  simp -implicitDefEqProofs (maxSteps:=2000000) only [c25,↓reduceIte,S0,Nat.reduceEqDiff,reduceCtorEq,St.clr,outV,ownsV,owns1,ownL,PV.leaves]
  refine wcall_s a1 rfl rfl ?_
  simp -implicitDefEqProofs (maxSteps:=2000000) only [c25,↓reduceIte,S0,Nat.reduceEqDiff,reduceCtorEq,St.clr,outV,ownsV,owns1,ownL,PV.leaves]
  refine wcall_s a2 rfl rfl ?_
  simp -implicitDefEqProofs (maxSteps:=2000000) only [c25,↓reduceIte,S0,Nat.reduceEqDiff,reduceCtorEq,St.clr,outV,ownsV,owns1,ownL,PV.leaves]
  refine wcall_s a4 rfl rfl ?_
  simp -implicitDefEqProofs (maxSteps:=2000000) only [c25,↓reduceIte,S0,Nat.reduceEqDiff,reduceCtorEq,St.clr,outV,ownsV,owns1,ownL,PV.leaves]
  refine wcall_s a8 rfl rfl ?_
  simp -implicitDefEqProofs (maxSteps:=2000000) only [c25,↓reduceIte,S0,Nat.reduceEqDiff,reduceCtorEq,St.clr,outV,ownsV,owns1,ownL,PV.leaves]
  refine wcall_s a16 rfl rfl ?_
  simp -implicitDefEqProofs (maxSteps:=2000000) only [c25,↓reduceIte,S0,Nat.reduceEqDiff,reduceCtorEq,St.clr,outV,ownsV,owns1,ownL,PV.leaves]
  refine pcall_i sS rfl rfl ?_
  simp -implicitDefEqProofs (maxSteps:=2000000) only [c25,↓reduceIte,S0,Nat.reduceEqDiff,Nat.reduceAdd,reduceCtorEq,cond_false,outV,ownsV,owns1,ownL,PV.leaves,PV.cells,cellL,fillL,ne_eq,Decidable.not_not]
  with_reducible refine ite_pr (fun g1=>?_) (fun g1=>?_)
  ·with_reducible refine ite_pr (fun g2=>?_) (fun g2=>?_)
   ·refine wcall_s h20 rfl rfl ?_
    simp -implicitDefEqProofs (maxSteps:=2000000) only [c25,↓reduceIte,S0,Nat.reduceEqDiff,Nat.reduceAdd,reduceCtorEq,cond_false,St.clr,outV,ownsV,owns1,ownL,PV.cells,cellL,fillL,ne_eq,ite_not]
    with_reducible refine ite_pr (fun g3=>?_) (fun g3=>?_)
    ·rw [if_neg (by
      rintro (g | g | g)
      ·exact Bool.noConfusion (g1.symm.trans g)
      ·exact g (nil_of g2)
      ·exact g (lst_of g3))] at hr
     subst hr
     simp -implicitDefEqProofs (maxSteps:=2000000) only [c25,Fld.ins,Ins.c,↓reduceIte,S0]
     (repeat' (with_reducible refine And.intro ?_ ?_))<;>rfl
    ·rw [if_pos (.inr (.inr (fun g=>g3 (by rw [g]))))] at hr
     subst hr
     simp -implicitDefEqProofs (maxSteps:=2000000) only [c25,zeroI,Ins.c,↓reduceIte,S0]
     done
   ·rw [if_pos (.inr (.inl (fun g=>g2 (of_nil g))))] at hr
    subst hr
    simp -implicitDefEqProofs (maxSteps:=2000000) only [c25,zeroI,Ins.c,↓reduceIte,S0]
    done
  ·rw [if_pos (.inl (tt_of g1))] at hr
   subst hr
   simp -implicitDefEqProofs (maxSteps:=2000000) only [c25,zeroI,Ins.c,↓reduceIte,S0]
   done
 ·simp -implicitDefEqProofs (maxSteps:=2000000) only [c25,↓reduceIte,S0,Nat.reduceEqDiff,Nat.reduceAdd,reduceCtorEq,cond_false,St.clr,outV,ownsV,owns1,ownL,PV.leaves,PV.cells,cellL,fillL,Nat.reduceBEq,Nat.reduceLeDiff,ne_eq,ite_not]
  refine wcall_s a32 rfl rfl ?_
  simp -implicitDefEqProofs (maxSteps:=2000000) only [c25,↓reduceIte,S0,Nat.reduceEqDiff,reduceCtorEq,St.clr,outV,ownsV,owns1,ownL,PV.leaves]
  refine pcall_i tA.1 rfl rfl ?_
  simp -implicitDefEqProofs (maxSteps:=2000000) only [c25,↓reduceIte,S0,Nat.reduceEqDiff,Nat.reduceAdd,reduceCtorEq,cond_false,outV,ownsV,owns1,ownL,PV.leaves,PV.cells,cellL,fillL]
  have hB:tgtB p = ((wordF p.1 p.2).2.2 || !hasP 62 (wordF p.1 p.2).1):=rfl
  have tA4:=tA.2.2.2
  have wT:=w64 (x:=(tgtN p).1 - at_) (by have:=tN;omega) (by have:=tN;omega)
  with_reducible refine ite_pr (fun g0=>?_) (fun g0=>?_)
  ·rw [hB,g0] at tA4
   rw [Bool.false_or] at tA4
   refine wcall_s tA.2.1 rfl rfl ?_
   simp -implicitDefEqProofs (maxSteps:=2000000) only [c25,↓reduceIte,S0,Nat.reduceEqDiff,Nat.reduceAdd,reduceCtorEq,cond_false,St.clr,outV,ownsV,owns1,ownL,PV.leaves,PV.cells,cellL,fillL]
   refine wcall_s tA.2.2.1 rfl rfl ?_
   simp -implicitDefEqProofs (maxSteps:=2000000) only [c25,↓reduceIte,S0,Nat.reduceEqDiff,St.clr,outV,ownsV,owns1,ownL,PV.leaves]
   refine pcall_i tA4 rfl rfl ?_
   simp -implicitDefEqProofs (maxSteps:=2000000) only [c25,wT,↓reduceIte,S0,Nat.reduceEqDiff,Nat.reduceAdd,reduceCtorEq,outV,ownsV,owns1,ownL,PV.leaves,PV.cells,cellL,fillL,Nat.reduceLeDiff]
   refine wcall_s a2 rfl rfl ?_
   simp -implicitDefEqProofs (maxSteps:=2000000) only [c25,↓reduceIte,S0,Nat.reduceEqDiff,reduceCtorEq,St.clr,outV,ownsV,owns1,ownL,PV.leaves]
   refine wcall_s a4 rfl rfl ?_
   simp -implicitDefEqProofs (maxSteps:=2000000) only [c25,↓reduceIte,S0,Nat.reduceEqDiff,reduceCtorEq,St.clr,outV,ownsV,owns1,ownL,PV.leaves]
   refine wcall_s a8 rfl rfl ?_
   simp -implicitDefEqProofs (maxSteps:=2000000) only [c25,↓reduceIte,S0,Nat.reduceEqDiff,reduceCtorEq,St.clr,outV,ownsV,owns1,ownL,PV.leaves]
   refine wcall_s a16 rfl rfl ?_
   simp -implicitDefEqProofs (maxSteps:=2000000) only [c25,↓reduceIte,S0,Nat.reduceEqDiff,Nat.reduceAdd,reduceCtorEq,cond_false,St.clr,outV,ownsV,owns1,ownL,PV.leaves,PV.cells,cellL,fillL,ne_eq,Decidable.not_not]
   with_reducible refine ite_pr (fun g1=>?_) (fun g1=>?_)
   ·with_reducible refine ite_pr (fun g2=>?_) (fun g2=>?_)
    ·refine wcall_s h20 rfl rfl ?_
     simp -implicitDefEqProofs (maxSteps:=2000000) only [c25,↓reduceIte,S0,Nat.reduceEqDiff,Nat.reduceAdd,reduceCtorEq,cond_false,St.clr,outV,ownsV,owns1,ownL,PV.cells,cellL,fillL,ne_eq,ite_not]
     with_reducible refine ite_pr (fun g3=>?_) (fun g3=>?_)
     ·rw [if_neg (by
       rintro (g | g | g)
       ·exact Bool.noConfusion (g1.symm.trans g)
       ·exact g (nil_of g2)
       ·exact g (lst_of g3))] at hr
      subst hr
      simp -implicitDefEqProofs (maxSteps:=2000000) only [c25,Fld.ins,Ins.c,↓reduceIte,S0]
      (repeat' (with_reducible refine And.intro ?_ ?_))<;>rfl
     ·rw [if_pos (.inr (.inr (fun g=>g3 (by rw [g]))))] at hr
      subst hr
      simp -implicitDefEqProofs (maxSteps:=2000000) only [c25,zeroI,Ins.c,↓reduceIte,S0]
      done
    ·rw [if_pos (.inr (.inl (fun g=>g2 (of_nil g))))] at hr
     subst hr
     simp -implicitDefEqProofs (maxSteps:=2000000) only [c25,zeroI,Ins.c,↓reduceIte,S0]
     done
   ·rw [if_pos (.inl (tt_of g1))] at hr
    subst hr
    simp -implicitDefEqProofs (maxSteps:=2000000) only [c25,zeroI,Ins.c,↓reduceIte,S0]
    done
  ·rw [hB,show (wordF p.1 p.2).2.2 = true from tt_of g0] at tA4
   rw [Bool.true_or] at tA4
   refine wcall_s tA.2.2.1 rfl rfl ?_
   simp -implicitDefEqProofs (maxSteps:=2000000) only [c25,↓reduceIte,S0,Nat.reduceEqDiff,St.clr,outV,ownsV,owns1,ownL,PV.leaves]
   refine pcall_i tA4 rfl rfl ?_
   simp -implicitDefEqProofs (maxSteps:=2000000) only [c25,wT,↓reduceIte,S0,Nat.reduceEqDiff,Nat.reduceAdd,reduceCtorEq,outV,ownsV,owns1,ownL,PV.leaves,PV.cells,cellL,fillL,Nat.reduceLeDiff]
   refine wcall_s a2 rfl rfl ?_
   simp -implicitDefEqProofs (maxSteps:=2000000) only [c25,↓reduceIte,S0,Nat.reduceEqDiff,reduceCtorEq,St.clr,outV,ownsV,owns1,ownL,PV.leaves]
   refine wcall_s a4 rfl rfl ?_
   simp -implicitDefEqProofs (maxSteps:=2000000) only [c25,↓reduceIte,S0,Nat.reduceEqDiff,reduceCtorEq,St.clr,outV,ownsV,owns1,ownL,PV.leaves]
   refine wcall_s a8 rfl rfl ?_
   simp -implicitDefEqProofs (maxSteps:=2000000) only [c25,↓reduceIte,S0,Nat.reduceEqDiff,reduceCtorEq,St.clr,outV,ownsV,owns1,ownL,PV.leaves]
   refine wcall_s a16 rfl rfl ?_
   simp -implicitDefEqProofs (maxSteps:=2000000) only [c25,↓reduceIte,S0,Nat.reduceEqDiff,Nat.reduceAdd,reduceCtorEq,cond_false,St.clr,outV,ownsV,owns1,ownL,PV.leaves,PV.cells,cellL,fillL,ne_eq,Decidable.not_not]
   with_reducible refine ite_pr (fun g1=>?_) (fun g1=>?_)
   ·with_reducible refine ite_pr (fun g2=>?_) (fun g2=>?_)
    ·refine wcall_s h20 rfl rfl ?_
     simp -implicitDefEqProofs (maxSteps:=2000000) only [c25,↓reduceIte,S0,Nat.reduceEqDiff,Nat.reduceAdd,reduceCtorEq,cond_false,St.clr,outV,ownsV,owns1,ownL,PV.cells,cellL,fillL,ne_eq,ite_not]
     with_reducible refine ite_pr (fun g3=>?_) (fun g3=>?_)
     ·rw [if_neg (by
       rintro (g | g | g)
       ·exact Bool.noConfusion (g1.symm.trans g)
       ·exact g (nil_of g2)
       ·exact g (lst_of g3))] at hr
      subst hr
      simp -implicitDefEqProofs (maxSteps:=2000000) only [c25,Fld.ins,Ins.c,↓reduceIte,S0]
      (repeat' (with_reducible refine And.intro ?_ ?_))<;>rfl
     ·rw [if_pos (.inr (.inr (fun g=>g3 (by rw [g]))))] at hr
      subst hr
      simp -implicitDefEqProofs (maxSteps:=2000000) only [c25,zeroI,Ins.c,↓reduceIte,S0]
      done
    ·rw [if_pos (.inr (.inl (fun g=>g2 (of_nil g))))] at hr
     subst hr
     simp -implicitDefEqProofs (maxSteps:=2000000) only [c25,zeroI,Ins.c,↓reduceIte,S0]
     done
   ·rw [if_pos (.inl (tt_of g1))] at hr
    subst hr
    simp -implicitDefEqProofs (maxSteps:=2000000) only [c25,zeroI,Ins.c,↓reduceIte,S0]
    done
 ·simp -implicitDefEqProofs (maxSteps:=2000000) only [c25,↓reduceIte,S0,Nat.reduceEqDiff,Nat.reduceAdd,reduceCtorEq,cond_false,St.clr,outV,ownsV,owns1,ownL,PV.leaves,PV.cells,cellL,fillL,Nat.reduceBEq,Nat.reduceLeDiff,ne_eq,ite_not]
  refine wcall_s a32 rfl rfl ?_
  simp -implicitDefEqProofs (maxSteps:=2000000) only [c25,↓reduceIte,S0,Nat.reduceEqDiff,reduceCtorEq,St.clr,outV,ownsV,owns1,ownL,PV.leaves]
  refine pcall_i tA.1 rfl rfl ?_
  simp -implicitDefEqProofs (maxSteps:=2000000) only [c25,↓reduceIte,S0,Nat.reduceEqDiff,Nat.reduceAdd,reduceCtorEq,cond_false,outV,ownsV,owns1,ownL,PV.leaves,PV.cells,cellL,fillL]
  have hB:tgtB p = ((wordF p.1 p.2).2.2 || !hasP 62 (wordF p.1 p.2).1):=rfl
  have tA4:=tA.2.2.2
  have wT:=w64 (x:=(tgtN p).1 - at_) (by have:=tN;omega) (by have:=tN;omega)
  with_reducible refine ite_pr (fun g0=>?_) (fun g0=>?_)
  ·rw [hB,g0] at tA4
   rw [Bool.false_or] at tA4
   refine wcall_s tA.2.1 rfl rfl ?_
   simp -implicitDefEqProofs (maxSteps:=2000000) only [c25,↓reduceIte,S0,Nat.reduceEqDiff,Nat.reduceAdd,reduceCtorEq,cond_false,St.clr,outV,ownsV,owns1,ownL,PV.leaves,PV.cells,cellL,fillL]
   refine wcall_s tA.2.2.1 rfl rfl ?_
   simp -implicitDefEqProofs (maxSteps:=2000000) only [c25,↓reduceIte,S0,Nat.reduceEqDiff,St.clr,outV,ownsV,owns1,ownL,PV.leaves]
   refine pcall_i tA4 rfl rfl ?_
   simp -implicitDefEqProofs (maxSteps:=2000000) only [c25,wT,↓reduceIte,S0,Nat.reduceEqDiff,Nat.reduceAdd,reduceCtorEq,outV,ownsV,owns1,ownL,PV.leaves,PV.cells,cellL,fillL,Nat.reduceLeDiff]
   refine wcall_s a2 rfl rfl ?_
   simp -implicitDefEqProofs (maxSteps:=2000000) only [c25,↓reduceIte,S0,Nat.reduceEqDiff,reduceCtorEq,St.clr,outV,ownsV,owns1,ownL,PV.leaves]
   refine pcall_i nB.1 rfl rfl ?_
   simp -implicitDefEqProofs (maxSteps:=2000000) only [c25,↓reduceIte,S0,Nat.reduceEqDiff,outV,ownsV,owns1,ownL,PV.leaves]
   refine pcall_i nB.2 rfl rfl ?_
   simp -implicitDefEqProofs (maxSteps:=2000000) only [c25,↓reduceIte,S0,Nat.reduceEqDiff,Nat.reduceAdd,reduceCtorEq,outV,ownsV,owns1,ownL,PV.leaves,PV.cells,cellL,fillL,Nat.reduceLeDiff]
   refine wcall_s a4 rfl rfl ?_
   simp -implicitDefEqProofs (maxSteps:=2000000) only [c25,↓reduceIte,S0,Nat.reduceEqDiff,reduceCtorEq,St.clr,outV,ownsV,owns1,ownL,PV.leaves]
   refine wcall_s a8 rfl rfl ?_
   simp -implicitDefEqProofs (maxSteps:=2000000) only [c25,↓reduceIte,S0,Nat.reduceEqDiff,reduceCtorEq,St.clr,outV,ownsV,owns1,ownL,PV.leaves]
   refine wcall_s a16 rfl rfl ?_
   simp -implicitDefEqProofs (maxSteps:=2000000) only [c25,↓reduceIte,S0,Nat.reduceEqDiff,Nat.reduceAdd,reduceCtorEq,cond_false,St.clr,outV,ownsV,owns1,ownL,PV.leaves,PV.cells,cellL,fillL,ne_eq,Decidable.not_not]
   with_reducible refine ite_pr (fun g1=>?_) (fun g1=>?_)
   ·with_reducible refine ite_pr (fun g2=>?_) (fun g2=>?_)
    ·refine wcall_s h20 rfl rfl ?_
     simp -implicitDefEqProofs (maxSteps:=2000000) only [c25,↓reduceIte,S0,Nat.reduceEqDiff,Nat.reduceAdd,reduceCtorEq,cond_false,St.clr,outV,ownsV,owns1,ownL,PV.cells,cellL,fillL,ne_eq,ite_not]
     with_reducible refine ite_pr (fun g3=>?_) (fun g3=>?_)
     ·rw [if_neg (by
       rintro (g | g | g)
       ·exact Bool.noConfusion (g1.symm.trans g)
       ·exact g (nil_of g2)
       ·exact g (lst_of g3))] at hr
      subst hr
      simp -implicitDefEqProofs (maxSteps:=2000000) only [c25,Fld.ins,Ins.c,↓reduceIte,S0]
      (repeat' (with_reducible refine And.intro ?_ ?_))<;>rfl
     ·rw [if_pos (.inr (.inr (fun g=>g3 (by rw [g]))))] at hr
      subst hr
      simp -implicitDefEqProofs (maxSteps:=2000000) only [c25,zeroI,Ins.c,↓reduceIte,S0]
      done
    ·rw [if_pos (.inr (.inl (fun g=>g2 (of_nil g))))] at hr
     subst hr
     simp -implicitDefEqProofs (maxSteps:=2000000) only [c25,zeroI,Ins.c,↓reduceIte,S0]
     done
   ·rw [if_pos (.inl (tt_of g1))] at hr
    subst hr
    simp -implicitDefEqProofs (maxSteps:=2000000) only [c25,zeroI,Ins.c,↓reduceIte,S0]
    done
  ·rw [hB,show (wordF p.1 p.2).2.2 = true from tt_of g0] at tA4
   rw [Bool.true_or] at tA4
   refine wcall_s tA.2.2.1 rfl rfl ?_
   simp -implicitDefEqProofs (maxSteps:=2000000) only [c25,↓reduceIte,S0,Nat.reduceEqDiff,St.clr,outV,ownsV,owns1,ownL,PV.leaves]
   refine pcall_i tA4 rfl rfl ?_
   simp -implicitDefEqProofs (maxSteps:=2000000) only [c25,wT,↓reduceIte,S0,Nat.reduceEqDiff,Nat.reduceAdd,reduceCtorEq,outV,ownsV,owns1,ownL,PV.leaves,PV.cells,cellL,fillL,Nat.reduceLeDiff]
   refine wcall_s a2 rfl rfl ?_
   simp -implicitDefEqProofs (maxSteps:=2000000) only [c25,↓reduceIte,S0,Nat.reduceEqDiff,reduceCtorEq,St.clr,outV,ownsV,owns1,ownL,PV.leaves]
   refine pcall_i nB.1 rfl rfl ?_
   simp -implicitDefEqProofs (maxSteps:=2000000) only [c25,↓reduceIte,S0,Nat.reduceEqDiff,outV,ownsV,owns1,ownL,PV.leaves]
   refine pcall_i nB.2 rfl rfl ?_
   simp -implicitDefEqProofs (maxSteps:=2000000) only [c25,↓reduceIte,S0,Nat.reduceEqDiff,Nat.reduceAdd,reduceCtorEq,outV,ownsV,owns1,ownL,PV.leaves,PV.cells,cellL,fillL,Nat.reduceLeDiff]
   refine wcall_s a4 rfl rfl ?_
   simp -implicitDefEqProofs (maxSteps:=2000000) only [c25,↓reduceIte,S0,Nat.reduceEqDiff,reduceCtorEq,St.clr,outV,ownsV,owns1,ownL,PV.leaves]
   refine wcall_s a8 rfl rfl ?_
   simp -implicitDefEqProofs (maxSteps:=2000000) only [c25,↓reduceIte,S0,Nat.reduceEqDiff,reduceCtorEq,St.clr,outV,ownsV,owns1,ownL,PV.leaves]
   refine wcall_s a16 rfl rfl ?_
   simp -implicitDefEqProofs (maxSteps:=2000000) only [c25,↓reduceIte,S0,Nat.reduceEqDiff,Nat.reduceAdd,reduceCtorEq,cond_false,St.clr,outV,ownsV,owns1,ownL,PV.leaves,PV.cells,cellL,fillL,ne_eq,Decidable.not_not]
   with_reducible refine ite_pr (fun g1=>?_) (fun g1=>?_)
   ·with_reducible refine ite_pr (fun g2=>?_) (fun g2=>?_)
    ·refine wcall_s h20 rfl rfl ?_
     simp -implicitDefEqProofs (maxSteps:=2000000) only [c25,↓reduceIte,S0,Nat.reduceEqDiff,Nat.reduceAdd,reduceCtorEq,cond_false,St.clr,outV,ownsV,owns1,ownL,PV.cells,cellL,fillL,ne_eq,ite_not]
     with_reducible refine ite_pr (fun g3=>?_) (fun g3=>?_)
     ·rw [if_neg (by
       rintro (g | g | g)
       ·exact Bool.noConfusion (g1.symm.trans g)
       ·exact g (nil_of g2)
       ·exact g (lst_of g3))] at hr
      subst hr
      simp -implicitDefEqProofs (maxSteps:=2000000) only [c25,Fld.ins,Ins.c,↓reduceIte,S0]
      (repeat' (with_reducible refine And.intro ?_ ?_))<;>rfl
     ·rw [if_pos (.inr (.inr (fun g=>g3 (by rw [g]))))] at hr
      subst hr
      simp -implicitDefEqProofs (maxSteps:=2000000) only [c25,zeroI,Ins.c,↓reduceIte,S0]
      done
    ·rw [if_pos (.inr (.inl (fun g=>g2 (of_nil g))))] at hr
     subst hr
     simp -implicitDefEqProofs (maxSteps:=2000000) only [c25,zeroI,Ins.c,↓reduceIte,S0]
     done
   ·rw [if_pos (.inl (tt_of g1))] at hr
    subst hr
    simp -implicitDefEqProofs (maxSteps:=2000000) only [c25,zeroI,Ins.c,↓reduceIte,S0]
    done
 ·simp -implicitDefEqProofs (maxSteps:=2000000) only [c25,↓reduceIte,S0,Nat.reduceEqDiff,Nat.reduceAdd,reduceCtorEq,cond_false,St.clr,outV,ownsV,owns1,ownL,PV.leaves,PV.cells,cellL,fillL,Nat.reduceBEq,Nat.reduceLeDiff,ne_eq,ite_not]
  refine wcall_s a32 rfl rfl ?_
  simp -implicitDefEqProofs (maxSteps:=2000000) only [c25,↓reduceIte,S0,Nat.reduceEqDiff,reduceCtorEq,St.clr,outV,ownsV,owns1,ownL,PV.leaves]
  refine pcall_i tA.1 rfl rfl ?_
  simp -implicitDefEqProofs (maxSteps:=2000000) only [c25,↓reduceIte,S0,Nat.reduceEqDiff,Nat.reduceAdd,reduceCtorEq,cond_false,outV,ownsV,owns1,ownL,PV.leaves,PV.cells,cellL,fillL]
  have hB:tgtB p = ((wordF p.1 p.2).2.2 || !hasP 62 (wordF p.1 p.2).1):=rfl
  have tA4:=tA.2.2.2
  have wT:=w64 (x:=(tgtN p).1 - at_) (by have:=tN;omega) (by have:=tN;omega)
  with_reducible refine ite_pr (fun g0=>?_) (fun g0=>?_)
  ·rw [hB,g0] at tA4
   rw [Bool.false_or] at tA4
   refine wcall_s tA.2.1 rfl rfl ?_
   simp -implicitDefEqProofs (maxSteps:=2000000) only [c25,↓reduceIte,S0,Nat.reduceEqDiff,Nat.reduceAdd,reduceCtorEq,cond_false,St.clr,outV,ownsV,owns1,ownL,PV.leaves,PV.cells,cellL,fillL]
   refine wcall_s tA.2.2.1 rfl rfl ?_
   simp -implicitDefEqProofs (maxSteps:=2000000) only [c25,↓reduceIte,S0,Nat.reduceEqDiff,St.clr,outV,ownsV,owns1,ownL,PV.leaves]
   refine pcall_i tA4 rfl rfl ?_
   simp -implicitDefEqProofs (maxSteps:=2000000) only [c25,wT,↓reduceIte,S0,Nat.reduceEqDiff,Nat.reduceAdd,reduceCtorEq,outV,ownsV,owns1,ownL,PV.leaves,PV.cells,cellL,fillL,Nat.reduceLeDiff]
   refine wcall_s a2 rfl rfl ?_
   simp -implicitDefEqProofs (maxSteps:=2000000) only [c25,↓reduceIte,S0,Nat.reduceEqDiff,reduceCtorEq,St.clr,outV,ownsV,owns1,ownL,PV.leaves]
   refine wcall_s a4 rfl rfl ?_
   simp -implicitDefEqProofs (maxSteps:=2000000) only [c25,↓reduceIte,S0,Nat.reduceEqDiff,reduceCtorEq,St.clr,outV,ownsV,owns1,ownL,PV.leaves]
   refine wcall_s a8 rfl rfl ?_
   simp -implicitDefEqProofs (maxSteps:=2000000) only [c25,↓reduceIte,S0,Nat.reduceEqDiff,reduceCtorEq,St.clr,outV,ownsV,owns1,ownL,PV.leaves]
   refine wcall_s a16 rfl rfl ?_
   simp -implicitDefEqProofs (maxSteps:=2000000) only [c25,↓reduceIte,S0,Nat.reduceEqDiff,reduceCtorEq,St.clr,outV,ownsV,owns1,ownL,PV.leaves]
   refine pcall_i sS rfl rfl ?_
   simp -implicitDefEqProofs (maxSteps:=2000000) only [c25,↓reduceIte,S0,Nat.reduceEqDiff,Nat.reduceAdd,reduceCtorEq,cond_false,outV,ownsV,owns1,ownL,PV.leaves,PV.cells,cellL,fillL,ne_eq,Decidable.not_not]
   with_reducible refine ite_pr (fun g1=>?_) (fun g1=>?_)
   ·with_reducible refine ite_pr (fun g2=>?_) (fun g2=>?_)
    ·refine wcall_s h20 rfl rfl ?_
     simp -implicitDefEqProofs (maxSteps:=2000000) only [c25,↓reduceIte,S0,Nat.reduceEqDiff,Nat.reduceAdd,reduceCtorEq,cond_false,St.clr,outV,ownsV,owns1,ownL,PV.cells,cellL,fillL,ne_eq,ite_not]
     with_reducible refine ite_pr (fun g3=>?_) (fun g3=>?_)
     ·rw [if_neg (by
       rintro (g | g | g)
       ·exact Bool.noConfusion (g1.symm.trans g)
       ·exact g (nil_of g2)
       ·exact g (lst_of g3))] at hr
      subst hr
      simp -implicitDefEqProofs (maxSteps:=2000000) only [c25,Fld.ins,Ins.c,↓reduceIte,S0]
      (repeat' (with_reducible refine And.intro ?_ ?_))<;>rfl
     ·rw [if_pos (.inr (.inr (fun g=>g3 (by rw [g]))))] at hr
      subst hr
      simp -implicitDefEqProofs (maxSteps:=2000000) only [c25,zeroI,Ins.c,↓reduceIte,S0]
      done
    ·rw [if_pos (.inr (.inl (fun g=>g2 (of_nil g))))] at hr
     subst hr
     simp -implicitDefEqProofs (maxSteps:=2000000) only [c25,zeroI,Ins.c,↓reduceIte,S0]
     done
   ·rw [if_pos (.inl (tt_of g1))] at hr
    subst hr
    simp -implicitDefEqProofs (maxSteps:=2000000) only [c25,zeroI,Ins.c,↓reduceIte,S0]
    done
  ·rw [hB,show (wordF p.1 p.2).2.2 = true from tt_of g0] at tA4
   rw [Bool.true_or] at tA4
   refine wcall_s tA.2.2.1 rfl rfl ?_
   simp -implicitDefEqProofs (maxSteps:=2000000) only [c25,↓reduceIte,S0,Nat.reduceEqDiff,St.clr,outV,ownsV,owns1,ownL,PV.leaves]
   refine pcall_i tA4 rfl rfl ?_
   simp -implicitDefEqProofs (maxSteps:=2000000) only [c25,wT,↓reduceIte,S0,Nat.reduceEqDiff,Nat.reduceAdd,reduceCtorEq,outV,ownsV,owns1,ownL,PV.leaves,PV.cells,cellL,fillL,Nat.reduceLeDiff]
   refine wcall_s a2 rfl rfl ?_
   simp -implicitDefEqProofs (maxSteps:=2000000) only [c25,↓reduceIte,S0,Nat.reduceEqDiff,reduceCtorEq,St.clr,outV,ownsV,owns1,ownL,PV.leaves]
   refine wcall_s a4 rfl rfl ?_
   simp -implicitDefEqProofs (maxSteps:=2000000) only [c25,↓reduceIte,S0,Nat.reduceEqDiff,reduceCtorEq,St.clr,outV,ownsV,owns1,ownL,PV.leaves]
   refine wcall_s a8 rfl rfl ?_
   simp -implicitDefEqProofs (maxSteps:=2000000) only [c25,↓reduceIte,S0,Nat.reduceEqDiff,reduceCtorEq,St.clr,outV,ownsV,owns1,ownL,PV.leaves]
   refine wcall_s a16 rfl rfl ?_
   simp -implicitDefEqProofs (maxSteps:=2000000) only [c25,↓reduceIte,S0,Nat.reduceEqDiff,reduceCtorEq,St.clr,outV,ownsV,owns1,ownL,PV.leaves]
   refine pcall_i sS rfl rfl ?_
   simp -implicitDefEqProofs (maxSteps:=2000000) only [c25,↓reduceIte,S0,Nat.reduceEqDiff,Nat.reduceAdd,reduceCtorEq,cond_false,outV,ownsV,owns1,ownL,PV.leaves,PV.cells,cellL,fillL,ne_eq,Decidable.not_not]
   with_reducible refine ite_pr (fun g1=>?_) (fun g1=>?_)
   ·with_reducible refine ite_pr (fun g2=>?_) (fun g2=>?_)
    ·refine wcall_s h20 rfl rfl ?_
     simp -implicitDefEqProofs (maxSteps:=2000000) only [c25,↓reduceIte,S0,Nat.reduceEqDiff,Nat.reduceAdd,reduceCtorEq,cond_false,St.clr,outV,ownsV,owns1,ownL,PV.cells,cellL,fillL,ne_eq,ite_not]
     with_reducible refine ite_pr (fun g3=>?_) (fun g3=>?_)
     ·rw [if_neg (by
       rintro (g | g | g)
       ·exact Bool.noConfusion (g1.symm.trans g)
       ·exact g (nil_of g2)
       ·exact g (lst_of g3))] at hr
      subst hr
      simp -implicitDefEqProofs (maxSteps:=2000000) only [c25,Fld.ins,Ins.c,↓reduceIte,S0]
      (repeat' (with_reducible refine And.intro ?_ ?_))<;>rfl
     ·rw [if_pos (.inr (.inr (fun g=>g3 (by rw [g]))))] at hr
      subst hr
      simp -implicitDefEqProofs (maxSteps:=2000000) only [c25,zeroI,Ins.c,↓reduceIte,S0]
      done
    ·rw [if_pos (.inr (.inl (fun g=>g2 (of_nil g))))] at hr
     subst hr
     simp -implicitDefEqProofs (maxSteps:=2000000) only [c25,zeroI,Ins.c,↓reduceIte,S0]
     done
   ·rw [if_pos (.inl (tt_of g1))] at hr
    subst hr
    simp -implicitDefEqProofs (maxSteps:=2000000) only [c25,zeroI,Ins.c,↓reduceIte,S0]
    done
 ·simp -implicitDefEqProofs (maxSteps:=2000000) only [c25,↓reduceIte,S0,Nat.reduceEqDiff,Nat.reduceAdd,reduceCtorEq,cond_false,St.clr,outV,ownsV,owns1,ownL,PV.leaves,PV.cells,cellL,fillL,Nat.reduceBEq,Nat.reduceLeDiff,ne_eq,ite_not]
  refine wcall_s a32 rfl rfl ?_
  simp -implicitDefEqProofs (maxSteps:=2000000) only [c25,↓reduceIte,S0,Nat.reduceEqDiff,reduceCtorEq,St.clr,outV,ownsV,owns1,ownL,PV.leaves]
  refine wcall_s a1 rfl rfl ?_
  simp -implicitDefEqProofs (maxSteps:=2000000) only [c25,↓reduceIte,S0,Nat.reduceEqDiff,reduceCtorEq,St.clr,outV,ownsV,owns1,ownL,PV.leaves]
  refine wcall_s a2 rfl rfl ?_
  simp -implicitDefEqProofs (maxSteps:=2000000) only [c25,↓reduceIte,S0,Nat.reduceEqDiff,reduceCtorEq,St.clr,outV,ownsV,owns1,ownL,PV.leaves]
  refine pcall_i nB.1 rfl rfl ?_
  simp -implicitDefEqProofs (maxSteps:=2000000) only [c25,↓reduceIte,S0,Nat.reduceEqDiff,outV,ownsV,owns1,ownL,PV.leaves]
  refine pcall_i nB.2 rfl rfl ?_
  simp -implicitDefEqProofs (maxSteps:=2000000) only [c25,↓reduceIte,S0,Nat.reduceEqDiff,Nat.reduceAdd,reduceCtorEq,outV,ownsV,owns1,ownL,PV.leaves,PV.cells,cellL,fillL,Nat.reduceLeDiff]
  refine wcall_s a4 rfl rfl ?_
  simp -implicitDefEqProofs (maxSteps:=2000000) only [c25,↓reduceIte,S0,Nat.reduceEqDiff,reduceCtorEq,St.clr,outV,ownsV,owns1,ownL,PV.leaves]
  refine pcall_i nN.1 rfl rfl ?_
  simp -implicitDefEqProofs (maxSteps:=2000000) only [c25,↓reduceIte,S0,Nat.reduceEqDiff,outV,ownsV,owns1,ownL,PV.leaves]
  refine pcall_i nN.2 rfl rfl ?_
  simp -implicitDefEqProofs (maxSteps:=2000000) only [c25,↓reduceIte,S0,Nat.reduceEqDiff,Nat.reduceAdd,reduceCtorEq,outV,ownsV,owns1,ownL,PV.leaves,PV.cells,cellL,fillL,Nat.reduceLeDiff]
  refine wcall_s a8 rfl rfl ?_
  simp -implicitDefEqProofs (maxSteps:=2000000) only [c25,↓reduceIte,S0,Nat.reduceEqDiff,reduceCtorEq,St.clr,outV,ownsV,owns1,ownL,PV.leaves]
  refine pcall_i tT rfl rfl ?_
  simp -implicitDefEqProofs (maxSteps:=2000000) only [c25,↓reduceIte,S0,Nat.reduceEqDiff,Nat.reduceAdd,reduceCtorEq,outV,ownsV,owns1,ownL,PV.leaves,PV.cells,cellL,fillL,Nat.reduceLeDiff]
  refine wcall_s a16 rfl rfl ?_
  simp -implicitDefEqProofs (maxSteps:=2000000) only [c25,↓reduceIte,S0,Nat.reduceEqDiff,Nat.reduceAdd,reduceCtorEq,cond_false,St.clr,outV,ownsV,owns1,ownL,PV.leaves,PV.cells,cellL,fillL,ne_eq,Decidable.not_not]
  with_reducible refine ite_pr (fun g1=>?_) (fun g1=>?_)
  ·with_reducible refine ite_pr (fun g2=>?_) (fun g2=>?_)
   ·refine wcall_s h20 rfl rfl ?_
    simp -implicitDefEqProofs (maxSteps:=2000000) only [c25,↓reduceIte,S0,Nat.reduceEqDiff,Nat.reduceAdd,reduceCtorEq,cond_false,St.clr,outV,ownsV,owns1,ownL,PV.cells,cellL,fillL,ne_eq,ite_not]
    with_reducible refine ite_pr (fun g3=>?_) (fun g3=>?_)
    ·rw [if_neg (by
      rintro (g | g | g)
      ·exact Bool.noConfusion (g1.symm.trans g)
      ·exact g (nil_of g2)
      ·exact g (lst_of g3))] at hr
     subst hr
     simp -implicitDefEqProofs (maxSteps:=2000000) only [c25,Fld.ins,Ins.c,↓reduceIte,S0]
     (repeat' (with_reducible refine And.intro ?_ ?_))<;>rfl
    ·rw [if_pos (.inr (.inr (fun g=>g3 (by rw [g]))))] at hr
     subst hr
     simp -implicitDefEqProofs (maxSteps:=2000000) only [c25,zeroI,Ins.c,↓reduceIte,S0]
     done
   ·rw [if_pos (.inr (.inl (fun g=>g2 (of_nil g))))] at hr
    subst hr
    simp -implicitDefEqProofs (maxSteps:=2000000) only [c25,zeroI,Ins.c,↓reduceIte,S0]
    done
  ·rw [if_pos (.inl (tt_of g1))] at hr
   subst hr
   simp -implicitDefEqProofs (maxSteps:=2000000) only [c25,zeroI,Ins.c,↓reduceIte,S0]
   done
 ·simp -implicitDefEqProofs (maxSteps:=2000000) only [c25,↓reduceIte,S0,Nat.reduceEqDiff,Nat.reduceAdd,reduceCtorEq,cond_false,St.clr,outV,ownsV,owns1,ownL,PV.leaves,PV.cells,cellL,fillL,Nat.reduceBEq,Nat.reduceLeDiff,ne_eq,ite_not]
  refine wcall_s a32 rfl rfl ?_
  simp -implicitDefEqProofs (maxSteps:=2000000) only [c25,↓reduceIte,S0,Nat.reduceEqDiff,reduceCtorEq,St.clr,outV,ownsV,owns1,ownL,PV.leaves]
  refine wcall_s a1 rfl rfl ?_
  simp -implicitDefEqProofs (maxSteps:=2000000) only [c25,↓reduceIte,S0,Nat.reduceEqDiff,reduceCtorEq,St.clr,outV,ownsV,owns1,ownL,PV.leaves]
  refine pcall_i nA.1 rfl rfl ?_
  simp -implicitDefEqProofs (maxSteps:=2000000) only [c25,↓reduceIte,S0,Nat.reduceEqDiff,outV,ownsV,owns1,ownL,PV.leaves]
  refine pcall_i nA.2 rfl rfl ?_
  simp -implicitDefEqProofs (maxSteps:=2000000) only [c25,↓reduceIte,S0,Nat.reduceEqDiff,Nat.reduceAdd,reduceCtorEq,outV,ownsV,owns1,ownL,PV.leaves,PV.cells,cellL,fillL,Nat.reduceLeDiff]
  refine wcall_s a2 rfl rfl ?_
  simp -implicitDefEqProofs (maxSteps:=2000000) only [c25,↓reduceIte,S0,Nat.reduceEqDiff,reduceCtorEq,St.clr,outV,ownsV,owns1,ownL,PV.leaves]
  refine pcall_i nB.1 rfl rfl ?_
  simp -implicitDefEqProofs (maxSteps:=2000000) only [c25,↓reduceIte,S0,Nat.reduceEqDiff,outV,ownsV,owns1,ownL,PV.leaves]
  refine pcall_i nB.2 rfl rfl ?_
  simp -implicitDefEqProofs (maxSteps:=2000000) only [c25,↓reduceIte,S0,Nat.reduceEqDiff,Nat.reduceAdd,reduceCtorEq,outV,ownsV,owns1,ownL,PV.leaves,PV.cells,cellL,fillL,Nat.reduceLeDiff]
  refine wcall_s a4 rfl rfl ?_
  simp -implicitDefEqProofs (maxSteps:=2000000) only [c25,↓reduceIte,S0,Nat.reduceEqDiff,reduceCtorEq,St.clr,outV,ownsV,owns1,ownL,PV.leaves]
  refine pcall_i nN.1 rfl rfl ?_
  simp -implicitDefEqProofs (maxSteps:=2000000) only [c25,↓reduceIte,S0,Nat.reduceEqDiff,outV,ownsV,owns1,ownL,PV.leaves]
  refine pcall_i nN.2 rfl rfl ?_
  simp -implicitDefEqProofs (maxSteps:=2000000) only [c25,↓reduceIte,S0,Nat.reduceEqDiff,Nat.reduceAdd,reduceCtorEq,outV,ownsV,owns1,ownL,PV.leaves,PV.cells,cellL,fillL,Nat.reduceLeDiff]
  refine wcall_s a8 rfl rfl ?_
  simp -implicitDefEqProofs (maxSteps:=2000000) only [c25,↓reduceIte,S0,Nat.reduceEqDiff,reduceCtorEq,St.clr,outV,ownsV,owns1,ownL,PV.leaves]
  refine pcall_i tT rfl rfl ?_
  simp -implicitDefEqProofs (maxSteps:=2000000) only [c25,↓reduceIte,S0,Nat.reduceEqDiff,Nat.reduceAdd,reduceCtorEq,outV,ownsV,owns1,ownL,PV.leaves,PV.cells,cellL,fillL,Nat.reduceLeDiff]
  refine wcall_s a16 rfl rfl ?_
  simp -implicitDefEqProofs (maxSteps:=2000000) only [c25,↓reduceIte,S0,Nat.reduceEqDiff,Nat.reduceAdd,reduceCtorEq,cond_false,St.clr,outV,ownsV,owns1,ownL,PV.leaves,PV.cells,cellL,fillL,ne_eq,Decidable.not_not]
  with_reducible refine ite_pr (fun g1=>?_) (fun g1=>?_)
  ·with_reducible refine ite_pr (fun g2=>?_) (fun g2=>?_)
   ·refine wcall_s h20 rfl rfl ?_
    simp -implicitDefEqProofs (maxSteps:=2000000) only [c25,↓reduceIte,S0,Nat.reduceEqDiff,Nat.reduceAdd,reduceCtorEq,cond_false,St.clr,outV,ownsV,owns1,ownL,PV.cells,cellL,fillL,ne_eq,ite_not]
    with_reducible refine ite_pr (fun g3=>?_) (fun g3=>?_)
    ·rw [if_neg (by
      rintro (g | g | g)
      ·exact Bool.noConfusion (g1.symm.trans g)
      ·exact g (nil_of g2)
      ·exact g (lst_of g3))] at hr
     subst hr
     simp -implicitDefEqProofs (maxSteps:=2000000) only [c25,Fld.ins,Ins.c,↓reduceIte,S0]
     (repeat' (with_reducible refine And.intro ?_ ?_))<;>rfl
    ·rw [if_pos (.inr (.inr (fun g=>g3 (by rw [g]))))] at hr
     subst hr
     simp -implicitDefEqProofs (maxSteps:=2000000) only [c25,zeroI,Ins.c,↓reduceIte,S0]
     done
   ·rw [if_pos (.inr (.inl (fun g=>g2 (of_nil g))))] at hr
    subst hr
    simp -implicitDefEqProofs (maxSteps:=2000000) only [c25,zeroI,Ins.c,↓reduceIte,S0]
    done
  ·rw [if_pos (.inl (tt_of g1))] at hr
   subst hr
   simp -implicitDefEqProofs (maxSteps:=2000000) only [c25,zeroI,Ins.c,↓reduceIte,S0]
   done
end Go.Proofs.YthcpaohmajjopaaGreatDoor.I
set_option linter.unusedVariables false
set_option linter.unusedSimpArgs false
namespace Go.Proofs.YthcpaohmajjopaaGreatDoor.I
open Go Go.Proofs Go.Proofs.YthcpaohmajjopaaGreatDoor.AM
variable {X:Cx}
def unlG:Nat → List UInt8 → Nat → List Ins → List Int → List Ins × Int × Int
 | 0,_,_,_,_=>([],0,0)
 | n + 1,l,i,code,pl =>
  if l = [] then chkAns code pl
  else if (readF (cutB 10 l).1 code.length).2 = true ∧ (cutB 10 l).2.isSome = true then
   unlG n ((cutB 10 l).2.getD []) (i + (cutB 10 l).1.length + 1) (code ++ [(readF (cutB 10 l).1 code.length).1]) (pl ++ [(i:Int)])
  else ([],i,6)
def unlA (s:ByteArray):List Ins × Int × Int:=if 65536 < s.size then ([],0,2) else unlG (s.size + 1) s.data.toList 0 [] []
set_option maxHeartbeats 1000000 in
theorem r11 (hX:HY X) (s:ByteArray) (r:List Ins × Int × Int) (hr:unlA s = r):R X Tryz.prog 11 [.lf (.str s)] []
   (.tp [.lf (.lst .ro 9 (r.1.map Ins.c) []),.ag [.int .i64 r.2.1,.int .i64 r.2.2]]) []:=by
 unfold unlA at hr
 have key:s.size ≤ 65536 → ∀ (n i:Nat) (code:List Ins) (pl:List Int) (ls ps:List (List L)),ls = code.map Ins.c → ps = (pl.map fun x=>[L.int .i64 x]) → pl.length = code.length → i ≤ s.size → s.size < i + n → code.length ≤ i → unlG n (s.data.toList.drop i) i code pl = r →
   LoopAt X Tryz.prog c11_13 [0,3,4,5,6] (blkK 0 (seqK X Tryz.prog c11_17 (retS [] [256] 0 [RV.t 2,RV.c 3 2 true] (PV.tp [PV.lf (L.lst Tag.ro 9 (List.map Ins.c r.fst) []),PV.ag [L.int IntKind.i64 r.snd.fst,L.int IntKind.i64 r.snd.snd]]) [])))
    {m:=0,tm:=[(0,PV.lf (L.str s)),(3,PV.lf (L.ptr 3 0)),(4,PV.lf (L.lst (Tag.own 512 42) 9 ls [])),(5,PV.lf (L.lst (Tag.own 640 3) 1 ps [])),(6,PV.lf (L.int IntKind.i64 (i:Int)))],
     ce:=[(3,[L.int IntKind.i64 0,L.int IntKind.i64 0])] }:=by
  intro hs n
  have hsl:s.data.toList.length = s.size:=size_len s
  induction n with
  | zero=>intro i code pl ls ps _ _ _ h1 h2;omega
  | succ n ih =>
   intro i code pl ls ps hls hps hpl h1 h2 h3 hu
   unfold unlG at hu
   by_cases hd:s.data.toList.drop i = []
   ·rw [if_pos hd] at hu
    have hi:s.data.toList.length ≤ i:=List.drop_eq_nil_iff.1 hd
    have hn:¬ (i:Int) < s.size:=by omega
    intro Z hZ;apply hZ
    simp -implicitDefEqProofs (maxSteps:=2000000) only [c11,hn,↓reduceIte,S0,Nat.reduceEqDiff,reduceCtorEq,PV.leaves]
    subst hls hps
    refine wcall_down (r18 hX.h1 code pl hpl [] []) rfl ?_
    rw [hu]
    simp -implicitDefEqProofs (maxSteps:=2000000) only [c11,↓reduceIte,S0,Nat.reduceEqDiff,Nat.reduceAdd,reduceCtorEq,St.clr,outV,ownsV,owns1,ownL,PV.cells,cellL,fillL,Nat.reduceBEq,true_or]
    done
   ·rw [if_neg hd] at hu
    have hlt:i < s.size:=by
     rcases Nat.lt_or_ge i s.size with h | h
     ·exact h
     ·exact absurd (List.drop_eq_nil_iff.2 (by omega)) hd
    have hn:(i:Int) < s.size:=by omega
    have hx:=ext_drop s i
    have hll:(s.data.toList.drop i).length = s.size - i:=by rw [List.length_drop];omega
    have hdd:∀ k,(s.data.toList.drop i).drop k = s.data.toList.drop (i + k):=fun k=>List.drop_drop
    have hcl:=cut_len 10 (s.data.toList.drop i)
    have hix:=ix_cut 10 (s.data.toList.drop i)
    generalize s.data.toList.drop i = l at *
    have hz:(⟨l.toArray⟩:ByteArray).size = l.length:=ba_size
    have h24:=r24 (X:=X) ⟨l.toArray⟩ (by omega) 10 _ rfl
    have hrest:(cutB 10 l).2.isSome = true → (cutB 10 l).2.getD [] = s.data.toList.drop (i + (cutB 10 l).1.length + 1):=by
     intro hsome
     rcases hix with ⟨_,g⟩ | ⟨k,_,g2,g⟩
     ·rw [g] at hsome;cases hsome
     ·rw [g]
      simp only [Option.getD_some]
      rw [hdd,List.length_take]
      congr 1;omega
    simp only at h24
    generalize cutB 10 l = C at *
    obtain ⟨c1,c2⟩:=C
    simp only at *
    have hc1:c1.length ≤ l.length:=by omega
    have h25:=r25 (X:=X) hX c1 (by omega) code.length (by omega) _ rfl
    have hlsl:ls.length = code.length:=by rw [hls,List.length_map]
    have hpsl:ps.length = code.length:=by rw [hps,List.length_map,hpl]
    generalize readF c1 code.length = A at *
    obtain ⟨x,ok⟩:=A
    simp only at *
    have hcz:(⟨c1.toArray⟩:ByteArray).size = c1.length:=ba_size
    intro Z hZ;apply hZ
    simp -implicitDefEqProofs (maxSteps:=2000000) only [c11,hn,Int.toNat_natCast,hx,↓reduceIte,S0,Option.map_none,Nat.reduceEqDiff,reduceCtorEq,PV.leaves]
    refine ⟨⟨by omega,by omega⟩,?_⟩
    refine wcall_s h24 rfl rfl ?_
    simp -implicitDefEqProofs (maxSteps:=2000000) only [c11,hlsl,↓reduceIte,S0,Nat.reduceEqDiff,reduceCtorEq,St.clr,outV,ownsV,owns1,ownL,PV.leaves]
    intro _
    refine wcall_s h25 rfl rfl ?_
    by_cases hb:ok = true ∧ c2.isSome = true
    ·rw [if_pos hb] at hu
     have hr:=hrest hb.2
     obtain ⟨rfl,hb⟩:=hb
     have wi:IntKind.i64.wrap ((i:Int) + IntKind.i64.wrap ((c1.length:Int) + 1)) = ((i + c1.length + 1:Nat):Int):=by
      rw [w64 (x:=(c1.length:Int) + 1) (by omega) (by omega),w64 (by omega) (by omega)];omega
     rw [hb]
     have hc2:∃ q,c2 = some q:=by cases c2 with | none=>cases hb | some q=>exact ⟨q,rfl⟩
     obtain ⟨q,rfl⟩:=hc2
     simp only [Option.getD_some] at hr hu
     simp only at hcl
     simp -implicitDefEqProofs (maxSteps:=2000000) only [c11,Ins.c,hcz,wi,↓reduceIte,S0,Nat.reduceEqDiff,Nat.reduceAdd,reduceCtorEq,cond_false,St.clr,outV,ownsV,owns1,ownL,PV.cells,cellL,datL,fillL,Nat.reduceMul,Nat.reduceBEq,Nat.reduceLeDiff,List.range_zero,plT,List.reduceReplicate,List.set_cons_zero,or_false,lp_lk]
     refine ⟨by omega,by omega,?_⟩
     exact ih (i + c1.length + 1) (code ++ [x]) (pl ++ [(i:Int)]) _ _ (by simp [hls,Ins.c]) (by simp [hps]) (by simp [hpl]) (by omega) (by omega) (by simp;omega) (by rw [← hr];exact hu) Z hZ
    ·rw [if_neg hb] at hu
     subst hu
     have hk:[256].contains 256 = true:=rfl
     cases ok with
     | false =>
      simp -implicitDefEqProofs (maxSteps:=2000000) only [c11,Ins.c,hk,↓reduceIte,S0,Nat.reduceEqDiff,Nat.reduceAdd,reduceCtorEq,St.clr,outV,ownsV,owns1,ownL,PV.cells,cellL,fillL,Nat.reduceMul,Nat.reduceBEq,Nat.reduceLeDiff,plT,ne_eq,true_or]
      done
     | true =>
      have hs:c2.isSome = false:=by
       cases h:c2.isSome with
       | false=>rfl
       | true=>exact absurd ⟨rfl,h⟩ hb
      rw [hs]
      simp -implicitDefEqProofs (maxSteps:=2000000) only [c11,Ins.c,hk,↓reduceIte,S0,Nat.reduceEqDiff,Nat.reduceAdd,reduceCtorEq,cond_false,St.clr,outV,ownsV,owns1,ownL,PV.cells,cellL,fillL,Nat.reduceMul,Nat.reduceBEq,Nat.reduceLeDiff,plT,ne_eq,true_or]
      done
 refine R_i [] [256] c11_ok rfl (by simp) ?_
 simp -implicitDefEqProofs (maxSteps:=2000000) only [c11,↓reduceIte,S0,St.init,enum,Nat.reduceEqDiff,Nat.reduceAdd,reduceCtorEq,PV.cells,cellL,fillL,Nat.reduceMul,Nat.reduceBEq,List.range_zero,plT,ne_eq,true_or]
 with_reducible refine ite_pr (fun h=>?_) (fun h=>?_)
 ·rw [if_pos (by omega)] at hr
  subst hr
  exact ⟨⟨rfl,rfl⟩,rfl,rfl⟩
 rw [if_neg (by omega)] at hr
 exact key (by omega) (s.size + 1) 0 [] [] [] [] rfl rfl rfl (by omega) (by omega) (by simp) hr
end Go.Proofs.YthcpaohmajjopaaGreatDoor.I
set_option linter.unusedVariables false
set_option linter.unusedSimpArgs false
namespace Go.Proofs.YthcpaohmajjopaaGreatDoor.I
open Go Go.Proofs Go.Proofs.YthcpaohmajjopaaGreatDoor.AM
def linG:Nat → List Ins → List UInt8
 | _,[]=>[]
 | i,x :: q=>(lineL i x ++ [10]) ++ linG (i + 1) q
end Go.Proofs.YthcpaohmajjopaaGreatDoor.I
set_option linter.unusedVariables false
set_option linter.unusedSimpArgs false
namespace Go.Proofs.YthcpaohmajjopaaGreatDoor.I
open Go Go.Proofs Go.Proofs.YthcpaohmajjopaaGreatDoor.AM
theorem At.nil (b:ByteArray) (p:Nat):At b p []:=⟨_,rfl⟩
theorem bb {f:Bool → Bool} (h1:f true = true) {s:Bool} (h:f s = false):s = false:=by
 cases s
 ·rfl
 ·rw [h1] at h;cases h
end Go.Proofs.YthcpaohmajjopaaGreatDoor.I
set_option linter.unusedVariables false
set_option linter.unusedSimpArgs false
namespace Go.Proofs.YthcpaohmajjopaaGreatDoor.I
open Go Go.Proofs Go.Proofs.YthcpaohmajjopaaGreatDoor.AM
theorem dec_dig:∀ (u:Nat) (b:UInt8),b ∈ Lib.decDigits u → 48 ≤ b.toNat ∧ b.toNat ≤ 57:=by
 intro u
 induction u using Nat.strongRecOn with
 | _ u ih =>
  intro b hb
  rw [Lib.decDigits] at hb
  by_cases h:u < 10
  ·rw [dif_pos h] at hb
   obtain rfl:=List.mem_singleton.1 hb
   rw [UInt8.toNat_ofNat'];omega
  ·rw [dif_neg h] at hb
   rcases List.mem_append.1 hb with hb | hb
   ·exact ih _ (by omega) b hb
   ·obtain rfl:=List.mem_singleton.1 hb
    rw [UInt8.toNat_ofNat'];omega
theorem dec_snoc (b:UInt8) (d:Nat) (hd:Lib.digitVal b = some d):∀ (l:List UInt8) (acc n:Nat),Lib.decFrom acc l = some n → Lib.decFrom acc (l ++ [b]) = some (n * 10 + d)
 | [],acc,n,h=>by
  obtain rfl:acc = n:=Option.some.inj h
  simp [Lib.decFrom,hd]
 | a :: t,acc,n,h=>by
  simp only [List.cons_append,Lib.decFrom] at h ⊢
  cases ha:Lib.digitVal a with
  | none=>rw [ha] at h;cases h
  | some x =>
   rw [ha] at h
   simp only at h ⊢
   exact dec_snoc b d hd t _ n h
theorem dig_val (u:Nat) (h:u < 10):Lib.digitVal (UInt8.ofNat (48 + u)) = some u:=by
 have e:(UInt8.ofNat (48 + u)).toNat = 48 + u:=by rw [UInt8.toNat_ofNat'];omega
 unfold Lib.digitVal
 rw [e,if_pos (by omega),show 48 + u - 48 = u by omega]
theorem dec_from:∀ u:Nat,Lib.decFrom 0 (Lib.decDigits u) = some u:=by
 intro u
 induction u using Nat.strongRecOn with
 | _ u ih =>
  rw [Lib.decDigits]
  by_cases h:u < 10
  ·rw [dif_pos h]
   unfold Lib.decFrom
   rw [dig_val u h]
   simp [Lib.decFrom]
  ·rw [dif_neg h,dec_snoc _ (u % 10) (dig_val _ (by omega)) _ _ _ (ih (u / 10) (by omega))]
   congr 1;omega
theorem dec_ne (u:Nat):Lib.decDigits u ≠ []:=by
 rw [Lib.decDigits]
 split<;>simp
theorem dec_short:∀ (k u:Nat),u < 10 ^ (k + 1) → (Lib.decDigits u).length ≤ k + 1
 | 0,u,h=>by rw [Lib.decDigits,dif_pos (by simpa using h)];exact Nat.le_refl 1
 | k + 1,u,h=>by
  rw [Lib.decDigits]
  by_cases h1:u < 10
  ·rw [dif_pos h1];simp
  ·rw [dif_neg h1,List.length_append]
   have:=dec_short k (u / 10) (by rw [Nat.pow_succ] at h;omega)
   simp only [List.length_cons,List.length_nil];omega
theorem atoi_dec (v:Nat):Lib.atoi (Lib.decDigits v) = some (v:Int):=by
 have hf:=dec_from v
 have hd:=dec_dig v
 have hn:=dec_ne v
 generalize Lib.decDigits v = l at *
 cases l with
 | nil=>exact absurd rfl hn
 | cons b r =>
  have hb:=hd b (List.mem_cons_self ..)
  have h45:(b == 45) = false:=by
   rw [beq_eq_false_iff_ne];intro e;rw [e] at hb;exact absurd hb (by decide)
  have h43:(b == 43) = false:=by
   rw [beq_eq_false_iff_ne];intro e;rw [e] at hb;exact absurd hb (by decide)
  unfold Lib.atoi
  simp only [h45,h43,Bool.false_eq_true,if_false]
  unfold Lib.decNat
  rw [if_neg (by simp),hf]
  rfl
theorem itoa_dec {v:Int} (h:0 ≤ v):Lib.itoa v = Lib.decDigits v.toNat:=by
 unfold Lib.itoa;rw [if_neg (by omega)]
theorem itoa_dig {v:Int} (h:0 ≤ v) (b:UInt8) (hb:b ∈ Lib.itoa v):48 ≤ b.toNat ∧ b.toNat ≤ 57:=by
 rw [itoa_dec h] at hb;exact dec_dig _ b hb
theorem numO_back {v:Int} (h0:0 ≤ v) (h1:v < 32768):numO (Lib.itoa v) = some v:=by
 have hs:=dec_short 4 v.toNat (by omega)
 have ha:Lib.atoiAll (Lib.itoa v) = .ok v:=by
  rw [itoa_dec h0,Lib.atoiAll_short _ (by omega),atoi_dec,Int.toNat_of_nonneg h0];rfl
 unfold numO
 rw [ha]
 simp only
 rw [if_pos ⟨h0,h1,trivial⟩]
theorem cut_mid (c:UInt8):∀ (l r:List UInt8),c ∉ l → cutB c (l ++ c :: r) = (l,some r)
 | [],r,_=>by simp [cutB]
 | x :: l,r,h=>by
  have hx:¬ x = c:=fun e=>h (e ▸ List.mem_cons_self ..)
  have hl:c ∉ l:=fun e=>h (List.mem_cons_of_mem _ e)
  simp only [List.cons_append,cutB]
  rw [if_neg hx,cut_mid c l r hl]
theorem cut_none (c:UInt8):∀ (l:List UInt8),c ∉ l → cutB c l = (l,none)
 | [],_=>rfl
 | x :: l,h=>by
  have hx:¬ x = c:=fun e=>h (e ▸ List.mem_cons_self ..)
  have hl:c ∉ l:=fun e=>h (List.mem_cons_of_mem _ e)
  simp only [cutB]
  rw [if_neg hx,cut_none c l hl]
def Blk (m:List UInt8):Prop:=m = [] ∨ ∃ r,m = 32 :: r
theorem Blk.app {a b:List UInt8} (ha:Blk a) (hb:Blk b):Blk (a ++ b):=by
 rcases ha with rfl | ⟨r,rfl⟩
 ·exact hb
 ·exact .inr ⟨r ++ b,rfl⟩
theorem Blk.one (r:List UInt8):Blk ([32] ++ r):=.inr ⟨r,rfl⟩
theorem Blk.ite {c:Prop} [Decidable c] {a b:List UInt8} (ha:Blk a) (hb:Blk b):Blk (if c then a else b):=by split<;>assumption
theorem word_back {w m:List UInt8} (hw:32 ∉ w) (hm:Blk m):wordF (32 :: (w ++ m)) false = (w,(m,false)):=by
 have hp:hasP 32 (32 :: (w ++ m)) = true:=rfl
 unfold wordF
 rw [if_pos hp]
 simp only [List.tail_cons]
 rcases hm with rfl | ⟨r,rfl⟩
 ·rw [List.append_nil,cut_none 32 w hw];simp
 ·rw [cut_mid 32 w r hw];simp
theorem no_dig {c:UInt8} (hc:c.toNat < 48) {v:Int} (h:0 ≤ v):c ∉ Lib.itoa v:=fun hm=>by
 have:=itoa_dig h c hm;omega
theorem num_back {v:Int} (h0:0 ≤ v) (h1:v < 32768) {m:List UInt8} (hm:Blk m):numW ([32] ++ Lib.itoa v ++ m,false) = (v,(m,false)):=by
 have hw:=word_back (w:=Lib.itoa v) (no_dig (by decide) h0) hm
 have e:[32] ++ Lib.itoa v ++ m = 32 :: (Lib.itoa v ++ m):=rfl
 unfold numW
 simp only [e,hw,numF,numO_back h0 h1]
theorem tgt_back {v:Int} (h0:0 ≤ v) (h1:v < 32768) (at_:Nat) {m:List UInt8} (hm:Blk m):tgtW at_ ([32,62] ++ Lib.itoa v ++ m,false) = (v - at_,(m,false)):=by
 have hn:32 ∉ (62 :: Lib.itoa v):=by
  intro h
  rcases List.mem_cons.1 h with h | h
  ·exact absurd h (by decide)
  ·exact no_dig (by decide) h0 h
 have hw:=word_back (w:=62 :: Lib.itoa v) hn hm
 have e:[32,62] ++ Lib.itoa v ++ m = 32 :: ((62 :: Lib.itoa v) ++ m):=rfl
 have hp:hasP 62 (62 :: Lib.itoa v) = true:=rfl
 unfold tgtW tgtN tgtB
 simp only [e,hw,hp,if_true,List.tail_cons,Bool.not_true,Bool.or_false,numF,numO_back h0 h1]
theorem scan_bodyG (t:ByteArray) (m:List UInt8):∀ (l:List UInt8) (n i:Nat) (acc:List Int),l.length < n → t.data.toList.drop i = body l ++ (39 :: m) → scan t 39 n i acc = (strOfNums (acc ++ l.map fun b=>(b.toNat:Int)),((i + (body l).length + 1:Nat):Int),0,0)
 | [],n + 1,i,acc,hn,h=>by
  have a0:=at_drop h 0 39 rfl
  simp only [Int.natCast_zero,Int.add_zero] at a0
  rw [scan_succ,if_pos (by omega),if_pos (by rw [a0.1];rfl)]
  simp [body]
 | c :: l,n + 1,i,acc,hn,h=>by
  have h':t.data.toList.drop i = wb c ++ (body l ++ (39 :: m)):=by rw [h];simp [body]
  rw [scan_step t n i acc c _ (by simp) h']
  have:=scan_bodyG t m l n (i + (wb c).length) (acc ++ [(c.toNat:Int)]) (by simpa using hn) (by rw [← List.drop_drop,h'];simp)
  rw [this]
  simp only [body,List.flatMap_cons,List.length_append,List.map_cons,List.append_assoc,List.singleton_append,Prod.mk.injEq,true_and]
  exact ⟨by omega,trivial⟩
theorem body_pr (l:List UInt8):∀ c ∈ body l,32 ≤ c.toNat:=by
 intro c hc
 obtain ⟨d,_,hd⟩:=List.mem_flatMap.1 hc
 have key:∀ d:UInt8,∀ c ∈ wb d,32 ≤ c.toNat:=all8 (by decide +kernel)
 exact key d c hd
theorem quo_small {t:ByteArray} (h:t.size ≤ 255):(quo t).1.data.toList = 39 :: body t.data.toList ++ [39]:=by
 have h1:=body_len t.data.toList
 rw [size_len] at h1
 unfold quo
 rw [if_neg (by omega),if_neg (by simp only [List.length_append,List.length_cons,List.length_nil];omega)]
theorem text_back {t:ByteArray} (ht:t.size ≤ 255) {m:List UInt8} (hl:([32] ++ (quo t).1.data.toList ++ m).length ≤ 65536):textF ([32] ++ (quo t).1.data.toList ++ m) false = (t,(m,false)):=by
 have hq:=quo_small ht
 have hp:hasP 32 ([32] ++ (quo t).1.data.toList ++ m) = true:=rfl
 rw [hq] at hl hp ⊢
 have e:[32] ++ (39 :: body t.data.toList ++ [39]) ++ m = 32 :: 39 :: (body t.data.toList ++ (39 :: m)):=by simp
 rw [e] at hl hp ⊢
 generalize hU:(⟨(32 :: 39 :: (body t.data.toList ++ (39 :: m))).toArray⟩:ByteArray) = u
 have hul:u.data.toList = 32 :: 39 :: (body t.data.toList ++ (39 :: m)):=by rw [← hU]
 have hus:u.size = (32 :: 39 :: (body t.data.toList ++ (39 :: m))).length:=by rw [← hU,ba_size]
 have b1:byteAt u 1 = 39:=by unfold byteAt;rw [hul];rfl
 have htl:t.data.toList.length = t.size:=size_len t
 have hbl:=body_len t.data.toList
 have hc:cut u 1 = (t,((2 + (body t.data.toList).length + 1:Nat):Int),0,0):=by
  unfold cut
  simp only [List.length_cons,List.length_append] at hus hl
  rw [if_neg (by omega),if_neg (by omega),if_neg (by rw [b1];simp;omega),b1]
  have:=scan_bodyG u m t.data.toList (u.size + 1) 2 [] (by omega) (by rw [hul];rfl)
  refine this.trans ?_
  rw [List.nil_append,strOfNums_ub]
 unfold textF
 rw [hU,hc,if_pos ⟨hp,rfl,rfl⟩]
 simp only [Int.toNat_natCast]
 have hd:List.drop (2 + (body t.data.toList).length + 1) (32 :: 39 :: (body t.data.toList ++ (39 :: m))) = m:=by
  rw [show 2 + (body t.data.toList).length + 1 = (body t.data.toList).length + 1 + 2 by omega]
  simp
 rw [hd]
theorem find_back:∀ k:Fin 21,1 ≤ k.val → findF (nameF k.val).data.toList = k.val:=by decide +kernel
theorem nm_no:∀ k:Fin 21,∀ b ∈ (nameF k.val).data.toList,b ≠ 32 ∧ b ≠ 10:=by decide +kernel
end Go.Proofs.YthcpaohmajjopaaGreatDoor.I
