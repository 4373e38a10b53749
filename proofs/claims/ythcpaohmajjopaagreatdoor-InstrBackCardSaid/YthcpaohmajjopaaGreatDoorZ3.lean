/- Contracts, part Z3. -/
import Derived.Test.YthcpaohmajjopaaGreatDoorZ2
import Derived.Test.YthcpaohmajjopaaGreatDoorZ1
import Derived.Test.YthcpaohmajjopaaGreatDoorAmLaid
import Derived.Test.YthcpaohmajjopaaGreatDoorProg
import Derived.Test.YthcpaohmajjopaaGreatDoorAmLeaf2
import Derived.Shelf.LaysM
import Derived.Shelf.LaysC
import Derived.Shelf.Strconv.Itoa3
import Derived.Shelf.Strconv.AtoiAll
import Derived.Shelf.Strings.Search2
import Derived.Shelf.Spec.TrailingZeros
set_option linter.unusedVariables false
set_option linter.unusedSimpArgs false
namespace Go.Proofs.YthcpaohmajjopaaGreatDoor.I
open Go Go.Proofs.YthcpaohmajjopaaGreatDoor.AM
variable {X:Cx}
theorem b10:IntKind.i64.wrap (1 - 1) = 0:=by decide
theorem t0:(0:Int).toNat = 0:=rfl
theorem t1:(1:Int).toNat = 1:=rfl
end Go.Proofs.YthcpaohmajjopaaGreatDoor.I
set_option linter.unusedVariables false
set_option linter.unusedSimpArgs false
namespace Go.Proofs.YthcpaohmajjopaaGreatDoor.I
open Go Go.Proofs.YthcpaohmajjopaaGreatDoor.AM
variable {X:Cx}
structure CodeOK (code:List Ins):Prop where
 pos:0 < code.length
 len:code.length ≤ 8192
 op:∀ (i:Nat) (x:Ins),code[i]? = some x → 1 ≤ x.op ∧ x.op ≤ 20
 tg:∀ (i:Nat) (x:Ins),code[i]? = some x → hasB x.op.toNat 32 = true → -(i:Int) ≤ x.a ∧ x.a < code.length - i
 on:∀ (i:Nat) (x:Ins),code[i]? = some x → hasB x.op.toNat 64 = true → i + 1 < code.length
theorem chkGo_ok (capF:Ins → Bool) (len:Nat):∀ (q:List Ins) (i:Nat),chkGo capF len i q = none → ∀ (j:Nat) (x:Ins),q[j]? = some x → errAt capF len (i + j) x = 0
 | [],i,_,j,x,hx=>by simp at hx
 | y :: q,i,h,j,x,hx=>by
  simp only [chkGo] at h
  split at h
  ·rename_i he
   cases j with
   | zero=>simp at hx;subst hx;exact he
   | succ j =>
    have:=chkGo_ok capF len q (i + 1) h j x (by simpa using hx)
    rwa [show i + 1 + j = i + (j + 1) by omega] at this
  ·cases h
theorem chkGo_ne (capF:Ins → Bool) (len:Nat):∀ (q:List Ins) (i:Nat) (p:Int × Int),chkGo capF len i q = some p → p.2 ≠ 0
 | [],i,p,h=>by simp [chkGo] at h
 | y :: q,i,p,h=>by
  simp only [chkGo] at h
  split at h
  ·exact chkGo_ne capF len q _ p h
  ·rename_i he
   obtain rfl:=Option.some.inj h
   exact he
theorem chk_ok {code:List Ins} (h:(chk capX code).2 = 0):CodeOK code:=by
 unfold chk at h
 split at h
 ·cases h
 rename_i h1
 split at h
 ·cases h
 rename_i h2
 have hpos:0 < code.length:=by omega
 cases hg:chkGo capX code.length 0 code with
 | some p =>
  rw [hg] at h
  exact absurd h (chkGo_ne _ _ _ _ _ hg)
 | none =>
  rw [hg] at h
  simp only [Option.getD_none,chkEnd] at h
  have hall:=chkGo_ok _ _ _ _ hg
  have hlast:¬ hasB (lastOp code).toNat 64 = true:=by
   intro hh;rw [if_pos hh] at h;cases h
  refine ⟨hpos,by omega,fun i x hx=>?_,fun i x hx h32=>?_,fun i x hx h64=>?_⟩
  ·have:=hall i x hx
   unfold errAt at this
   split at this
   ·cases this
   ·omega
  ·have:=hall i x hx
   rw [Nat.zero_add] at this
   unfold errAt at this
   split at this
   ·cases this
   ·split at this
    ·cases this
    ·split at this
     ·cases this
     ·rename_i hh
      by_cases h3:x.a < -(i:Int) ∨ (code.length:Int) - i ≤ x.a
      ·exact absurd ⟨h32,h3⟩ hh
      ·omega
  ·have hi:=(List.getElem?_eq_some_iff.1 hx).1
   obtain ⟨y,hy,hlo,_⟩:=last_get hpos
   by_cases e:i = code.length - 1
   ·subst e
    rw [hx] at hy
    cases hy
    rw [hlo] at hlast
    exact absurd h64 hlast
   ·omega
end Go.Proofs.YthcpaohmajjopaaGreatDoor.I
set_option linter.unusedVariables false
set_option linter.unusedSimpArgs false
namespace Go.Proofs.YthcpaohmajjopaaGreatDoor.I
open Go Go.Proofs.YthcpaohmajjopaaGreatDoor.AM
variable {X:Cx}
structure FitI (x:Ins):Prop where
 op:1 ≤ x.op ∧ x.op ≤ 20
 pl:x = x.plain x.op.toNat
 a:hasB x.op.toNat 1 = true → -32768 ≤ x.a ∧ x.a ≤ 32767
 b:hasB x.op.toNat 2 = true → 0 ≤ x.b ∧ x.b ≤ 255
 n:hasB x.op.toNat 4 = true → 0 ≤ x.n ∧ x.n ≤ 255
 t:x.t.size ≤ 255
theorem fit_tab:∀ k:Fin 21,(hasB k.val 1 = true → hasB k.val 32 = true ∨ k.val = 20) ∧ (hasB k.val 2 = true → k.val = 2 ∨ k.val = 5 ∨ k.val = 18 ∨ k.val = 20) ∧ (hasB k.val 4 = true → k.val = 18 ∨ k.val = 20) ∧ (hasB k.val 8 = true → k.val = 18 ∨ k.val = 20):=by decide +kernel
theorem cap_fit {b n:Int} {t:ByteArray} (h:capB b n t = true):0 ≤ n ∧ n ≤ 50 ∧ t.size ≤ 255:=by
 unfold capB at h
 split at h
 ·simp only [Bool.and_eq_true,decide_eq_true_eq] at h
  rw [h.1,h.2]
  exact ⟨by omega,by omega,by decide⟩
 ·unfold fldB at h
  simp only [Bool.and_eq_true,decide_eq_true_eq] at h
  refine ⟨h.1.1,h.1.2.1,?_⟩
  have h2:=h.2
  split at h2
  ·simp only [Bool.or_eq_true,decide_eq_true_eq] at h2
   rcases h2 with h2 | h2
   ·rw [h2];decide
   ·have:=h2.2.1;omega
  ·split at h2
   ·unfold tempB at h2
    simp only [Bool.and_eq_true,decide_eq_true_eq] at h2
    exact h2.1
   ·simp only [decide_eq_true_eq] at h2
    rw [h2];decide
theorem fit_of {len i:Nat} {x:Ins} (hlen:len ≤ 8192) (hi:i < len) (h:errAt capX len i x = 0):FitI x:=by
 unfold errAt at h
 split at h
 ·cases h
 rename_i h1
 have hop:1 ≤ x.op ∧ x.op ≤ 20:=by omega
 split at h
 ·cases h
 rename_i h2
 split at h
 ·cases h
 rename_i h3
 have hf:fitB (capX x) x.op.toNat x = true:=by simpa using h2
 unfold fitB at hf
 simp only [Bool.and_eq_true] at hf
 have hpl:=Ins.same_eq.1 hf.1
 have harg:=hf.2
 obtain ⟨t1,t2,t3,t4⟩:=fit_tab ⟨x.op.toNat,by omega⟩
 simp only at t1 t2 t3 t4
 have hcap:x.op.toNat = 18 ∨ x.op.toNat = 20 → capB x.b x.n x.t = true ∧ 1 ≤ x.b ∧ x.b ≤ 7 ∧ (x.op.toNat = 20 → 0 ≤ x.a ∧ x.a ≤ 255):=by
  intro hk
  unfold argB at harg
  rcases hk with hk | hk<;>rw [hk] at harg ⊢
  ·simp at harg
   exact ⟨harg.2,by omega,by omega,by omega⟩
  ·simp at harg
   exact ⟨harg.2,by omega,by omega,by omega⟩
 refine ⟨hop,hpl,fun ha=>?_,fun hb=>?_,fun hn=>?_,?_⟩
 ·rcases t1 ha with h32 | h20
  ·have:¬ (x.a < -(i:Int) ∨ (len:Int) - i ≤ x.a):=fun h=>h3 ⟨h32,h⟩
   omega
  ·have:=(hcap (.inr h20)).2.2.2 h20
   omega
 ·rcases t2 hb with hk | hk | hk | hk
  ·unfold argB at harg;rw [hk] at harg;simp at harg;exact harg
  ·unfold argB at harg;rw [hk] at harg;simp at harg;exact harg
  ·have:=hcap (.inl hk);omega
  ·have:=hcap (.inr hk);omega
 ·have:=cap_fit (hcap (t3 hn)).1
  omega
 ·by_cases h8:hasB x.op.toNat 8 = true
  ·exact (cap_fit (hcap (t4 h8)).1).2.2
  ·rw [hpl];simp only [Ins.plain,if_neg h8];decide
theorem fit_all {code:List Ins} (h:(chk capX code).2 = 0):∀ x ∈ code,FitI x:=by
 have hc:=chk_ok h
 intro x hx
 obtain ⟨i,hi⟩:=List.getElem?_of_mem hx
 have hil:=(List.getElem?_eq_some_iff.1 hi).1
 unfold chk at h
 split at h
 ·cases h
 split at h
 ·cases h
 cases hg:chkGo capX code.length 0 code with
 | some p =>
  rw [hg] at h
  exact absurd h (chkGo_ne _ _ _ _ _ hg)
 | none =>
  have:=chkGo_ok _ _ _ _ hg i x hi
  rw [Nat.zero_add] at this
  exact fit_of hc.len hil this
end Go.Proofs.YthcpaohmajjopaaGreatDoor.I
set_option linter.unusedVariables false
set_option linter.unusedSimpArgs false
namespace Go.Proofs.YthcpaohmajjopaaGreatDoor.I
open Go Go.Proofs.YthcpaohmajjopaaGreatDoor.AM
theorem wf64 {n:Int} (h:(Lit.int .i64 n).wf = true):-9223372036854775808 ≤ n ∧ n ≤ 9223372036854775807:=by
 simp only [Lit.wf,IntKind.min,IntKind.max,Bool.and_eq_true] at h;simp [IntKind.bits,IntKind.signed] at h;omega
theorem wfu64 {n:Int} (h:(Lit.int .u64 n).wf = true):0 ≤ n ∧ n ≤ 18446744073709551615:=by
 simp only [Lit.wf,IntKind.min,IntKind.max,Bool.and_eq_true] at h;simp [IntKind.bits,IntKind.signed] at h;omega
structure Ins.ok (x:Ins):Prop where
 op:-9223372036854775808 ≤ x.op ∧ x.op ≤ 9223372036854775807
 a:-9223372036854775808 ≤ x.a ∧ x.a ≤ 9223372036854775807
 b:-9223372036854775808 ≤ x.b ∧ x.b ≤ 9223372036854775807
 n:-9223372036854775808 ≤ x.n ∧ x.n ≤ 9223372036854775807
 t:x.t.size ≤ 140737488351232
 s0:0 ≤ x.s0 ∧ x.s0 ≤ 18446744073709551615
 s1:0 ≤ x.s1 ∧ x.s1 ≤ 18446744073709551615
 s2:0 ≤ x.s2 ∧ x.s2 ≤ 18446744073709551615
 s3:0 ≤ x.s3 ∧ x.s3 ≤ 18446744073709551615
theorem ins_of {l:List L} (h:WT Tryz.prog 42 l):∃ x:Ins,l = x.c ∧ x.ok:=by
 obtain ⟨lss,rfl,m0⟩:=h.inv_struct Tryz.underlying42
 obtain ⟨e0,es0,rfl,m1,n1⟩:=All2.cons_inv m0
 obtain ⟨e1,es1,rfl,m2,n2⟩:=All2.cons_inv n1
 obtain ⟨e2,es2,rfl,m3,n3⟩:=All2.cons_inv n2
 obtain ⟨e3,es3,rfl,m4,n4⟩:=All2.cons_inv n3
 obtain ⟨e4,es4,rfl,m5,n5⟩:=All2.cons_inv n4
 obtain ⟨e5,es5,rfl,m6,n6⟩:=All2.cons_inv n5
 obtain rfl:=All2.nil_inv n6
 obtain ⟨op,rfl,w1⟩:=m1.inv_int Tryz.underlying3
 obtain ⟨a,rfl,w2⟩:=m2.inv_int Tryz.underlying3
 obtain ⟨b,rfl,w3⟩:=m3.inv_int Tryz.underlying3
 obtain ⟨n,rfl,w4⟩:=m4.inv_int Tryz.underlying3
 obtain ⟨t,rfl,w5⟩:=m5.inv_str Tryz.underlying9
 obtain ⟨ss,rfl,hn,hs⟩:=m6.inv_array Tryz.underlying40
 match ss,hn,hs with
 | [z0,z1,z2,z3],_,hs =>
  obtain ⟨s0,rfl,q0⟩:=(hs 0 z0 rfl).inv_int Tryz.underlying38
  obtain ⟨s1,rfl,q1⟩:=(hs 1 z1 rfl).inv_int Tryz.underlying38
  obtain ⟨s2,rfl,q2⟩:=(hs 2 z2 rfl).inv_int Tryz.underlying38
  obtain ⟨s3,rfl,q3⟩:=(hs 3 z3 rfl).inv_int Tryz.underlying38
  exact ⟨⟨op,a,b,n,t,s0,s1,s2,s3⟩,rfl,⟨wf64 w1,wf64 w2,wf64 w3,wf64 w4,w5,wfu64 q0,wfu64 q1,wfu64 q2,wfu64 q3⟩⟩
theorem code_list:∀ (xs:List (List L)),(∀ x ∈ xs,∃ y:Ins,x = y.c ∧ y.ok) → ∃ code:List Ins,xs = code.map Ins.c ∧ ∀ y ∈ code,y.ok
 | [],_=>⟨[],rfl,fun y h=>by simp at h⟩
 | x :: xs,h=>by
  obtain ⟨y,rfl,h1⟩:=h x (by simp)
  obtain ⟨c,rfl,h2⟩:=code_list xs (fun z hz=>h z (by simp [hz]))
  refine ⟨y :: c,rfl,fun z hz=>?_⟩
  simp only [List.mem_cons] at hz
  rcases hz with rfl | hz
  ·exact h1
  ·exact h2 z hz
theorem code_of {ls:List L} (h:WT Tryz.prog 22 ls):∃ (code:List Ins) (sp:List (List L)),ls = [.lst .ro 9 (code.map Ins.c) sp] ∧ (∀ x ∈ code,x.ok) ∧ code.length ≤ 140737488351232:=by
 obtain ⟨xs,sp,rfl,hb,hm,hx⟩:=h.inv_lst Tryz.underlying22
 obtain ⟨code,rfl,hc⟩:=code_list xs (fun x h=>by
  obtain ⟨i,hi⟩:=List.getElem?_of_mem h
  exact ins_of (hx i x (by
   rw [List.getElem?_append_left]
   ·exact hi
   ·exact (List.getElem?_eq_some_iff.1 hi).1)))
 have h9:Tryz.prog.cellsOf 42 = 9:=by kernel_rfl
 have hbb:Tryz.prog.bytesOf 42 = 80:=by kernel_rfl
 rw [hbb] at hb
 refine ⟨code,sp,by rw [h9],hc,?_⟩
 simp only [List.length_map] at hb
 omega
theorem uses_glob {w:World} {fuel:Nat} {cs:Array Value} {ps:List MemPlace} {d:DataW Unit} (hv:w.var? Tryz.prog "harrow/instr.uses" = some cs)
  (h:DataW.trod (fun _=>()) Tryz.prog w 0 (fun _=>true) false fuel 70 cs.toList = some (d,ps)) (hd:d = .agg (usesN.map fun n=>.lit (.int .i64 n))):GlobOK w 0 usesL:=by
 subst hd
 exact glob_ints (by kernel_rfl) hv (table_ints Tryz.underlying70 Tryz.underlying3 (by kernel_rfl) (by kernel_rfl) h) (by decide)
end Go.Proofs.YthcpaohmajjopaaGreatDoor.I
set_option linter.unusedVariables false
set_option linter.unusedSimpArgs false
namespace Go.Proofs.YthcpaohmajjopaaGreatDoor.I
open Go Go.Proofs.YthcpaohmajjopaaGreatDoor.AM
variable {X:Cx}
theorem flat_ub (l:List UInt8):Flat (.lf (.lst (.own 0 5) 1 (ub l) [])):=by
 refine ⟨fun x hx c hc=>?_,rfl⟩
 obtain ⟨y,_,rfl⟩:=List.mem_map.1 hx
 simp at hc;subst hc;rfl
def insBF (f1 f2 f4 f8 f16:Bool) (x:Ins):List UInt8 :=
 [byI x.op] ++ (if f1 || f2 then numB x.a else []) ++ (if f4 then [byI x.b] else []) ++ (if f8 then [byI x.b,byI x.n,byI x.t.size] ++ x.t.data.toList else []) ++ (if f16 then memB x.s0.toNat x.s1.toNat x.s2.toNat x.s3.toNat 32 else [])
def insB (x:Ins):List UInt8:=insBF (refB (refF x.op.toNat) 1) (refB (refF x.op.toNat) 2) (refB (refF x.op.toNat) 4) (refB (refF x.op.toNat) 8) (refB (refF x.op.toNat) 16) x
def goB:List Ins → List UInt8 → List UInt8
 | [],acc=>acc
 | x :: q,acc=>if acc.length ≤ 1048576 then goB q (acc ++ insB x) else acc
def bytesA (code:List Ins):ByteArray × Int:=if ¬ (chk capX code).2 = 0 then (⟨#[]⟩,(chk capX code).2) else
 if 1048576 < (goB code (numB code.length)).length then (⟨#[]⟩,2) else (⟨(goB code (numB code.length)).toArray⟩,0)
theorem insB_len {x:Ins} (h:FitI x):(insB x).length ≤ 400:=by
 have:=h.t
 unfold insB insBF
 simp only [List.length_append,List.length_cons,List.length_nil]
 have e1:x.t.data.toList.length = x.t.size:=size_len _
 split<;>split<;>split<;>split<;>simp only [List.length_append,List.length_cons,List.length_nil,numB,memB_len]<;>omega
end Go.Proofs.YthcpaohmajjopaaGreatDoor.I
set_option linter.unusedVariables false
set_option linter.unusedSimpArgs false
namespace Go.Proofs.YthcpaohmajjopaaGreatDoor.I
open Go Go.Proofs.YthcpaohmajjopaaGreatDoor.AM
theorem gA_ok {b:ByteArray} {p:Nat} (sh:Bool) (h:p + 2 ≤ b.size):gA true b p sh = (twoF b p,p + 2,sh):=by
 have e0:nxV b p = byteAt b p:=by unfold nxV;rw [if_pos (by omega)]
 have e1:nxP b p = p + 1:=by unfold nxP;rw [if_pos (by omega)]
 have e2:nxV b (p + 1) = byteAt b ((p:Int) + 1):=by unfold nxV;rw [if_pos (by omega)];rfl
 have e3:nxP b (p + 1) = p + 2:=by unfold nxP;rw [if_pos (by omega)]
 have e4:nxS b p sh = sh:=by unfold nxS;rw [if_pos (by omega)]
 have e5:nxS b (p + 1) sh = sh:=by unfold nxS;rw [if_pos (by omega)]
 unfold gA
 rw [if_pos rfl,e1,e0,e2,e3,e4,e5,ai16_eq _ _ (byteAt_0 b _) (byteAt_1 b _) (byteAt_0 b _) (byteAt_1 b _)]
 rfl
theorem gB_ok {b:ByteArray} {p:Nat} (sh:Bool) (h:p + 1 ≤ b.size):gB true b p sh = (byteAt b (p:Int),p + 1,sh):=by
 unfold gB nxV nxP nxS
 rw [if_pos rfl,if_pos (by omega),if_pos (by omega),if_pos (by omega)]
theorem gT_ok {b:ByteArray} {p:Nat} (sh:Bool) (h:p + 1 + (byteAt b (p:Int)).toNat ≤ b.size):gT true b p sh = (b.extract (p + 1) (p + 1 + (byteAt b (p:Int)).toNat),p + 1 + (byteAt b (p:Int)).toNat,sh):=by
 have e0:nxV b p = byteAt b p:=by unfold nxV;rw [if_pos (by omega)]
 have e1:nxP b p = p + 1:=by unfold nxP;rw [if_pos (by omega)]
 have e4:nxS b p sh = sh:=by unfold nxS;rw [if_pos (by omega)]
 unfold gT
 rw [if_pos rfl,e0,e1,e4]
 unfold txT txP txS
 rw [if_pos h,if_pos h,if_pos h]
end Go.Proofs.YthcpaohmajjopaaGreatDoor.I
set_option linter.unusedVariables false
set_option linter.unusedSimpArgs false
namespace Go.Proofs.YthcpaohmajjopaaGreatDoor.I
open Go Go.Proofs.YthcpaohmajjopaaGreatDoor.AM
variable {X:Cx}
theorem flags_tab:∀ k:Fin 21,1 ≤ k.val → hasB k.val 1 = (refB (refF k.val) 1 || refB (refF k.val) 2) ∧ hasB k.val 2 = (refB (refF k.val) 4 || refB (refF k.val) 8) ∧ hasB k.val 4 = refB (refF k.val) 8 ∧ hasB k.val 8 = refB (refF k.val) 8 ∧ hasB k.val 16 = refB (refF k.val) 16 ∧ (refB (refF k.val) 4 = true → refB (refF k.val) 8 = false):=by decide +kernel
end Go.Proofs.YthcpaohmajjopaaGreatDoor.I
set_option linter.unusedVariables false
set_option linter.unusedSimpArgs false
namespace Go.Proofs.YthcpaohmajjopaaGreatDoor.I
open Go Go.Proofs.YthcpaohmajjopaaGreatDoor.AM
def At (b:ByteArray) (p:Nat) (l:List UInt8):Prop:=∃ post,b.data.toList.drop p = l ++ post
theorem At.app {b:ByteArray} {p:Nat} {l1 l2:List UInt8} (h:At b p (l1 ++ l2)):At b p l1 ∧ At b (p + l1.length) l2:=by
 obtain ⟨post,h⟩:=h
 refine ⟨⟨l2 ++ post,by rw [h,List.append_assoc]⟩,⟨post,?_⟩⟩
 rw [← List.drop_drop,h,List.append_assoc,List.drop_left' rfl]
theorem At.get {b:ByteArray} {p:Nat} {l:List UInt8} (h:At b p l) {j:Nat} {y:UInt8} (hy:l[j]? = some y):byteAt b ((p + j:Nat):Int) = y.toNat ∧ p + j < b.size:=by
 obtain ⟨post,h⟩:=h
 have h1:b.data.toList[p + j]? = some y:=by
  rw [← List.getElem?_drop,h,List.getElem?_append_left (List.getElem?_eq_some_iff.1 hy).1,hy]
 have h2:p + j < b.data.toList.length:=(List.getElem?_eq_some_iff.1 h1).1
 refine ⟨?_,by rw [size_len] at h2;exact h2⟩
 unfold byteAt
 rw [Int.toNat_natCast,List.getD_eq_getElem?_getD,h1];rfl
theorem At.le {b:ByteArray} {p:Nat} {l:List UInt8} (h:At b p l) (hl:0 < l.length):p + l.length ≤ b.size:=by
 have:=(h.get (j:=l.length - 1) (y:=l[l.length - 1]) (List.getElem?_eq_getElem (by omega))).2
 omega
theorem At.ext {b:ByteArray} {p:Nat} {l:List UInt8} (h:At b p l):(b.extract p (p + l.length)).data.toList = l:=by
 obtain ⟨post,h⟩:=h
 rw [ba_ext,List.drop_take,h,show p + l.length - p = l.length by omega,List.take_left' rfl]
theorem ba_eq {a b:ByteArray} (h:a.data.toList = b.data.toList):a = b:=by
 cases a;cases b
 simp only at h
 rw [Array.ext' h]
theorem gA_at {b:ByteArray} {p:Nat} {a:Int} (h:At b p (numB a)) (h1:-32768 ≤ a) (h2:a ≤ 32767) (sh:Bool):gA true b p sh = (a,p + 2,sh):=by
 have k0:=h.get (j:=0) rfl
 have k1:=h.get (j:=1) rfl
 rw [gA_ok sh (by omega)]
 have e0:byteAt b (p:Int) = (a / 256) % 256:=by rw [← byI_nat];exact k0.1
 have e1:byteAt b ((p:Int) + 1) = a % 256:=by rw [← byI_nat];exact k1.1
 unfold twoF
 rw [e0,e1]
 split
 ·rw [show a / 256 % 256 * 256 + a % 256 - 65536 = a by omega]
 ·rw [show a / 256 % 256 * 256 + a % 256 = a by omega]
theorem gB_at {b:ByteArray} {p:Nat} {v:Int} (h:At b p [byI v]) (h1:0 ≤ v) (h2:v ≤ 255) (sh:Bool):gB true b p sh = (v,p + 1,sh):=by
 have k0:=h.get (j:=0) rfl
 rw [gB_ok sh (by omega)]
 have e0:byteAt b (p:Int) = v % 256:=by rw [← byI_nat];exact k0.1
 rw [e0,show v % 256 = v by omega]
theorem gT_at {b:ByteArray} {p:Nat} {t:ByteArray} (h:At b p ([byI t.size] ++ t.data.toList)) (h2:t.size ≤ 255) (sh:Bool):gT true b p sh = (t,p + 1 + t.size,sh):=by
 have k0:=h.app.1.get (j:=0) rfl
 have e0:byteAt b (p:Int) = (t.size:Int) % 256:=by rw [← byI_nat];exact k0.1
 have e1:(byteAt b (p:Int)).toNat = t.size:=by rw [e0];omega
 have hle:=h.le (by simp)
 have hx:=h.app.2.ext
 simp only [List.length_append,List.length_cons,List.length_nil,size_len] at hle hx
 rw [gT_ok sh (by rw [e1];omega),e1,show b.extract (p + 1) (p + 1 + t.size) = t from ba_eq hx]
theorem memB_get (s0 s1 s2 s3:Nat):∀ (m j:Nat),j < m → (memB s0 s1 s2 s3 m)[j]? = some (byI ((wd s0 s1 s2 s3 (j / 8) / 2 ^ (8 * (j % 8)) % 256:Nat):Int))
 | 0,j,h=>by omega
 | m + 1,j,h=>by
  rw [memB]
  by_cases e:j = m
  ·subst e
   rw [List.getElem?_append_right (by rw [memB_len];exact Nat.le_refl _),memB_len,Nat.sub_self];rfl
  ·rw [List.getElem?_append_left (by rw [memB_len];omega)]
   exact memB_get s0 s1 s2 s3 m j (by omega)
theorem W_wd {B:Nat → Nat} {q s:Nat} (hB:∀ i,i < 8 → B (8 * q + i) = s / 2 ^ (8 * i) % 256):∀ i,i ≤ 8 → W B q i = s % 2 ^ (8 * i)
 | 0,_=>by simp [W,Nat.mod_one]
 | i + 1,h=>by
  rw [W,W_wd hB i (by omega),hB i (by omega),show 8 * (i + 1) = 8 * i + 8 by omega,Nat.pow_add,Nat.mod_mul,show (2:Nat) ^ 8 = 256 from rfl,Nat.mul_comm (2 ^ (8 * i))]
theorem gSet_at {b:ByteArray} {p:Nat} {s0 s1 s2 s3:Nat} (h:At b p (memB s0 s1 s2 s3 32)) (h0:s0 < 2 ^ 64) (h1:s1 < 2 ^ 64) (h2:s2 < 2 ^ 64) (h3:s3 < 2 ^ 64) (sh:Bool):gSet true b p sh = (((s0:Int),(s1:Int),(s2:Int),(s3:Int)),p + 32,sh):=by
 have hle:=h.le (by rw [memB_len];omega)
 rw [memB_len] at hle
 have hbt:∀ j,j < 32 → bt b p j = wd s0 s1 s2 s3 (j / 8) / 2 ^ (8 * (j % 8)) % 256:=by
  intro j hj
  have k:=(h.get (memB_get s0 s1 s2 s3 32 j hj)).1
  rw [byI_nat,← bt_eq] at k
  omega
 have hW:∀ q,q < 4 → W (bt b p) q 8 = wd s0 s1 s2 s3 q % 2 ^ (8 * 8):=by
  intro q hq
  refine W_wd (fun i hi=>?_) 8 (Nat.le_refl _)
  rw [hbt _ (by omega),show (8 * q + i) / 8 = q by omega,show (8 * q + i) % 8 = i by omega]
 have z:∀ q,W (bt b p) q 8 % 2 ^ (min 64 (0 - 64 * q)) = 0:=fun q=>by rw [show min 64 (0 - 64 * q) = 0 by omega,Nat.pow_zero,Nat.mod_one]
 have hr:=rS_ok b p 256 0 rfl
 rw [z,z,z,z] at hr
 rw [sets_eq b p hle sh]
 refine congrArg (fun t=>(t,p + 32,sh)) (hr.trans ?_)
 rw [hW 0 (by omega),hW 1 (by omega),hW 2 (by omega),hW 3 (by omega)]
 simp only [wd,if_true,Nat.one_ne_zero,if_false,Nat.reduceEqDiff]
 rw [Nat.mod_eq_of_lt h0,Nat.mod_eq_of_lt h1,Nat.mod_eq_of_lt h2,Nat.mod_eq_of_lt h3]
end Go.Proofs.YthcpaohmajjopaaGreatDoor.I
set_option linter.unusedVariables false
set_option linter.unusedSimpArgs false
namespace Go.Proofs.YthcpaohmajjopaaGreatDoor.I
open Go Go.Proofs.YthcpaohmajjopaaGreatDoor.AM
theorem ins_back (f1 f2 f4 f8 f16:Bool) (h48:f4 = true → f8 = false) (b:ByteArray) (p:Nat) (x:Ins) (hat:At b p (insBF f1 f2 f4 f8 f16 x))
  (ha:(f1 || f2) = true → -32768 ≤ x.a ∧ x.a ≤ 32767) (ha0:(f1 || f2) = false → x.a = 0)
  (hb:(f4 || f8) = true → 0 ≤ x.b ∧ x.b ≤ 255) (hb0:(f4 || f8) = false → x.b = 0)
  (hn:f8 = true → 0 ≤ x.n ∧ x.n ≤ 255) (hn0:f8 = false → x.n = 0) (ht:x.t.size ≤ 255) (ht0:f8 = false → x.t = ⟨#[]⟩)
  (hs:∃ n0 n1 n2 n3:Nat,x.s0 = n0 ∧ x.s1 = n1 ∧ x.s2 = n2 ∧ x.s3 = n3 ∧ n0 < 2 ^ 64 ∧ n1 < 2 ^ 64 ∧ n2 < 2 ^ 64 ∧ n3 < 2 ^ 64)
  (hs0:f16 = false → x.s0 = 0 ∧ x.s1 = 0 ∧ x.s2 = 0 ∧ x.s3 = 0) :
  insR (f1 || f2) (f4 || f8) f8 f8 f16 x.op b (p + 1) false = (x,p + (insBF f1 f2 f4 f8 f16 x).length,false):=by
 obtain ⟨op,a,bb,n,t,s0,s1,s2,s3⟩:=x
 obtain ⟨n0,n1,n2,n3,e0,e1,e2,e3,l0,l1,l2,l3⟩:=hs
 simp only at *
 subst e0 e1 e2 e3
 unfold insBF at hat ⊢
 simp only [Int.toNat_natCast] at hat ⊢
 generalize (f1 || f2) = F at *
 obtain ⟨q3,hS⟩:=hat.app
 obtain ⟨q2,hT⟩:=q3.app
 obtain ⟨q1,hB⟩:=q2.app
 obtain ⟨_,hA⟩:=q1.app
 clear hat q1 q2 q3
 have eA:gA F b (p + 1) false = (a,p + 1 + (if F = true then numB a else []).length,false):=by
  cases F
  ·rw [ha0 rfl];rfl
  ·exact gA_at hA (ha rfl).1 (ha rfl).2 false
 generalize (if F = true then numB a else []) = SA at *
 have hmb:(memB n0 n1 n2 n3 32).length = 32:=memB_len _ _ _ _ _
 have eS:∀ q,q = p + ([byI op] ++ SA ++ (if f4 = true then [byI bb] else []) ++ (if f8 = true then [byI bb,byI n,byI t.size] ++ t.data.toList else [])).length → gSet f16 b q false = (((n0:Int),(n1:Int),(n2:Int),(n3:Int)),q + (if f16 = true then memB n0 n1 n2 n3 32 else []).length,false):=by
  intro q hq
  subst hq
  cases f16
  ·obtain ⟨z0,z1,z2,z3⟩:=hs0 rfl
   rw [z0,z1,z2,z3];rfl
  ·rw [gSet_at hS l0 l1 l2 l3 false,if_pos rfl,hmb]
 generalize (if f16 = true then memB n0 n1 n2 n3 32 else []) = SS at *
 have hpos:∀ l:List UInt8,l.length = l.length:=fun _=>rfl
 cases f8
 ·have g1:∀ q,gB false b q false = (0,q,false):=fun q=>rfl
  have g2:∀ q,gT false b q false = (⟨#[]⟩,q,false):=fun q=>rfl
  rw [hn0 rfl,ht0 rfl]
  cases f4
  ·rw [hb0 rfl] at *
   simp only [insR,eA,g1,g2,Bool.or_false,eS (p + 1 + SA.length) (by simp;omega)]
   simp
   omega
  ·simp only [if_true,List.length_append,List.length_cons,List.length_nil] at hB
   have eB:gB true b (p + 1 + SA.length) false = (bb,p + 1 + SA.length + 1,false):=gB_at (by rwa [show p + (0 + 1 + SA.length) = p + 1 + SA.length by omega] at hB) (hb rfl).1 (hb rfl).2 false
   simp only [insR,eA,eB,g1,g2,Bool.or_false,eS (p + 1 + SA.length + 1) (by simp;omega)]
   simp
   omega
 ·have h4:f4 = false:=by
   cases f4
   ·rfl
   ·exact absurd (h48 rfl) (by decide)
  subst h4
  have hT':At b (p + 1 + SA.length) ([byI bb] ++ ([byI n] ++ ([byI t.size] ++ t.data.toList))):=by
   have e:p + ([byI op] ++ SA ++ (if false = true then [byI bb] else [])).length = p + 1 + SA.length:=by simp;omega
   rw [e] at hT
   exact hT
  obtain ⟨h1,hT1⟩:=hT'.app
  obtain ⟨h2,h3⟩:=hT1.app
  simp only [List.length_cons,List.length_nil,Nat.zero_add] at hT1 h2 h3
  have eB:gB true b (p + 1 + SA.length) false = (bb,p + 1 + SA.length + 1,false):=gB_at h1 (hb rfl).1 (hb rfl).2 false
  have eN:gB true b (p + 1 + SA.length + 1) false = (n,p + 1 + SA.length + 1 + 1,false):=gB_at h2 (hn rfl).1 (hn rfl).2 false
  have eT:gT true b (p + 1 + SA.length + 1 + 1) false = (t,p + 1 + SA.length + 1 + 1 + 1 + t.size,false):=gT_at h3 ht false
  have hts:t.data.toList.length = t.size:=size_len _
  simp only [insR,eA,eB,eN,eT,Bool.or_true,eS (p + 1 + SA.length + 1 + 1 + 1 + t.size) (by simp only [if_true,Bool.false_eq_true,if_false,List.length_append,List.length_cons,List.length_nil,hts];omega)]
  simp only [if_true,Bool.false_eq_true,if_false,List.length_append,List.length_cons,List.length_nil,hts,Prod.mk.injEq,true_and,and_true]
  omega
theorem insK_back {b:ByteArray} {p:Nat} {x:Ins} (h:FitI x) (hk:x.ok) (hat:At b p (insB x)):byteAt b (p:Int) = x.op ∧ insK b p = (x,p + (insB x).length,false):=by
 have hop:=h.op
 have hb0:byteAt b (p:Int) = x.op:=by
  have h0:At b p ([byI x.op] ++ ((if refB (refF x.op.toNat) 1 || refB (refF x.op.toNat) 2 then numB x.a else []) ++ ((if refB (refF x.op.toNat) 4 then [byI x.b] else []) ++ ((if refB (refF x.op.toNat) 8 then [byI x.b,byI x.n,byI x.t.size] ++ x.t.data.toList else []) ++ (if refB (refF x.op.toNat) 16 then memB x.s0.toNat x.s1.toNat x.s2.toNat x.s3.toNat 32 else []))))):=by
   unfold insB insBF at hat
   simpa only [List.append_assoc] using hat
  have:=(h0.app.1.get (j:=0) rfl).1
  rw [byI_nat] at this
  have e:byteAt b ((p + 0:Nat):Int) = byteAt b (p:Int):=rfl
  rw [e] at this
  omega
 refine ⟨hb0,?_⟩
 obtain ⟨g1,g2,g4,g8,g16,g48⟩:=flags_tab ⟨x.op.toNat,by omega⟩ (by show 1 ≤ x.op.toNat;omega)
 simp only at g1 g2 g4 g8 g16 g48
 have hpl:=h.pl
 have ha:=h.a
 have hb:=h.b
 have hn:=h.n
 have ht:=h.t
 unfold insK insB at *
 rw [hb0,Int.toNat_of_nonneg (by omega)]
 rw [g1] at ha
 rw [g2] at hb
 rw [g4] at hn
 rw [g1,g2,g4,g8,g16]
 have pa:x.a = if (refB (refF x.op.toNat) 1 || refB (refF x.op.toNat) 2) = true then x.a else 0:=by rw [← g1];exact congrArg Ins.a hpl
 have pb:x.b = if (refB (refF x.op.toNat) 4 || refB (refF x.op.toNat) 8) = true then x.b else 0:=by rw [← g2];exact congrArg Ins.b hpl
 have pn:x.n = if refB (refF x.op.toNat) 8 = true then x.n else 0:=by rw [← g4];exact congrArg Ins.n hpl
 have pt:x.t = if refB (refF x.op.toNat) 8 = true then x.t else ⟨#[]⟩:=by rw [← g8];exact congrArg Ins.t hpl
 have p0:x.s0 = if refB (refF x.op.toNat) 16 = true then x.s0 else 0:=by rw [← g16];exact congrArg Ins.s0 hpl
 have p1:x.s1 = if refB (refF x.op.toNat) 16 = true then x.s1 else 0:=by rw [← g16];exact congrArg Ins.s1 hpl
 have p2:x.s2 = if refB (refF x.op.toNat) 16 = true then x.s2 else 0:=by rw [← g16];exact congrArg Ins.s2 hpl
 have p3:x.s3 = if refB (refF x.op.toNat) 16 = true then x.s3 else 0:=by rw [← g16];exact congrArg Ins.s3 hpl
 generalize refF x.op.toNat = v at *
 refine ins_back (refB v 1) (refB v 2) (refB v 4) (refB v 8) (refB v 16) g48 b p x hat ha (fun e=>?_) hb (fun e=>?_) hn (fun e=>?_) ht (fun e=>?_) ⟨x.s0.toNat,x.s1.toNat,x.s2.toNat,x.s3.toNat,by have:=hk.s0;omega,by have:=hk.s1;omega,by have:=hk.s2;omega,by have:=hk.s3;omega,by have:=hk.s0;omega,by have:=hk.s1;omega,by have:=hk.s2;omega,by have:=hk.s3;omega⟩ (fun e=>?_)
 ·rw [pa,e];rfl
 ·rw [pb,e];rfl
 ·rw [pn,e];rfl
 ·rw [pt,e];rfl
 ·rw [p0,p1,p2,p3,e];exact ⟨rfl,rfl,rfl,rfl⟩
theorem rd_back {b:ByteArray}:∀ (q:List Ins) (p:Nat) (code:List Ins) (pl:List Int),(∀ x ∈ q,FitI x ∧ x.ok) → At b p (q.flatMap insB) → p + (q.flatMap insB).length = b.size → (chk capX (code ++ q)).2 = 0 → rd b q.length p code pl = (code ++ q,0,0)
 | [],p,code,pl,_,_,hsz,hc=>by
  simp only [List.flatMap_nil,List.length_nil,Nat.add_zero] at hsz
  rw [List.append_nil] at hc
  simp only [List.length_nil,rd]
  rw [if_neg (by omega),List.append_nil]
  unfold chkAns
  simp only [hc,if_true]
 | x :: q,p,code,pl,hall,hat,hsz,hc=>by
  rw [List.flatMap_cons] at hat hsz
  obtain ⟨h1,h2⟩:=hat.app
  have hx:=hall x (List.mem_cons_self ..)
  obtain ⟨k1,k2⟩:=insK_back hx.1 hx.2 h1
  have hlen:0 < (insB x).length:=by unfold insB insBF;simp only [List.length_append,List.length_cons,List.length_nil];omega
  rw [List.length_append] at hsz
  have hop:=hx.1.op
  simp only [List.length_cons,rd]
  rw [if_neg (by omega),if_neg (by omega),k2]
  simp only [Bool.false_eq_true,if_false]
  rw [rd_back q (p + (insB x).length) (code ++ [x]) (pl ++ [(p:Int)]) (fun y hy=>hall y (List.mem_cons_of_mem _ hy)) h2 (by omega) (by rw [List.append_assoc];exact hc),List.append_assoc]
  rfl
theorem goB_all:∀ (q:List Ins) (acc:List UInt8),(goB q acc).length ≤ 1048576 → goB q acc = acc ++ q.flatMap insB
 | [],acc,_=>by simp [goB]
 | x :: q,acc,h=>by
  simp only [goB] at h ⊢
  split at h
  ·rename_i h1
   rw [if_pos h1,goB_all q _ h,List.flatMap_cons,List.append_assoc]
  ·rename_i h1
   exact absurd h h1
theorem read_back {code:List Ins} (hok:∀ x ∈ code,x.ok) (h:(bytesA code).2 = 0):readA (bytesA code).1 = (code,0,0) ∧ (bytesA code).1.size ≤ 1048576 ∧ (chk capX code).2 = 0:=by
 unfold bytesA at h ⊢
 by_cases hc:(chk capX code).2 = 0
 ·rw [if_neg (by omega)] at h ⊢
  split at h
  ·cases h
  rename_i hle
  rw [if_neg hle]
  have hg:=goB_all code (numB code.length) (by omega)
  rw [hg] at hle ⊢
  generalize hb:(⟨(numB code.length ++ code.flatMap insB).toArray⟩:ByteArray) = b
  have hbl:b.data.toList = numB code.length ++ code.flatMap insB:=by rw [← hb]
  have hbs:b.size = 2 + (code.flatMap insB).length:=by rw [← hb,ba_size,List.length_append];rfl
  have hlen:=(chk_ok hc).len
  have hAt:At b 0 (numB code.length ++ code.flatMap insB):=⟨[],by rw [List.drop_zero,hbl,List.append_nil]⟩
  obtain ⟨h1,h2⟩:=hAt.app
  have k0:=(h1.get (j:=0) rfl).1
  have k1:=(h1.get (j:=1) rfl).1
  rw [byI_nat] at k0 k1
  have e0:byteAt b ((0 + 0:Nat):Int) = byteAt b 0:=rfl
  have e1:byteAt b ((0 + 1:Nat):Int) = byteAt b 1:=rfl
  rw [e0] at k0
  rw [e1] at k1
  show readA b = (code,0,0) ∧ b.size ≤ 1048576 ∧ (chk capX code).2 = 0
  refine ⟨?_,?_,hc⟩
  ·unfold readA
   rw [List.length_append,show (numB (code.length:Int)).length = 2 from rfl] at hle
   rw [if_neg (by omega),if_neg (by omega),cntR_eq (by omega),k0,k1,show ((code.length:Int) / 256 % 256 * 256 + (code.length:Int) % 256).toNat = code.length by omega]
   have hfit:=fit_all hc
   exact rd_back code 2 [] [] (fun x hx=>⟨hfit x hx,hok x hx⟩) h2 (by omega) hc
  ·rw [List.length_append,show (numB (code.length:Int)).length = 2 from rfl] at hle
   omega
 ·rw [if_pos hc] at h
  exact absurd h hc
end Go.Proofs.YthcpaohmajjopaaGreatDoor.I
set_option linter.unusedVariables false
set_option linter.unusedSimpArgs false
namespace Go.Proofs.YthcpaohmajjopaaGreatDoor.I
open Go Go.Proofs.YthcpaohmajjopaaGreatDoor.AM
variable {X:Cx}
abbrev bl (p:L) (l:List UInt8):List L:=[p,.lst (.own 3 5) 1 (ub l) []]
theorem bytesL_ub (s:ByteArray):bytesL s = ub s.data.toList:=rfl
def frsh (x:L):Prop:=x = .nilp ∨ x = .tptr 0 0 56
theorem r29 (x:L) (hx:frsh x) (y:List UInt8):R X Tryz.prog 29 [.lf (.tptr 0 0 56)] [bl x y] (.tp []) [bl (.tptr 0 0 56) y]:=by
 refine R_i [(3,3)] [] c29_ok rfl (by simp) ?_
 rcases hx with rfl | rfl
 ·simp -implicitDefEqProofs (maxSteps:=2000000) only [c29,↓reduceIte,S0,St.init,enum,Nat.reduceEqDiff,Nat.reduceAdd,reduceCtorEq,PV.cells,cellL,fillL,Nat.reduceLeDiff,Nat.reduceLT,true_or,st_t1,v_peq_nn,o_p2u,v_p2u,v_p2uK,o_u2p,v_u2p,v_u2pK,v_ex0]
  kernel_rfl
 ·simp -implicitDefEqProofs (maxSteps:=2000000) only [c29,↓reduceIte,S0,St.init,enum,Nat.reduceEqDiff,reduceCtorEq,true_or,v_peq_tn,v_peq_tt]
theorem r19 (x:L) (hx:frsh x) (y:List UInt8) (s:ByteArray) (hs:y.length + s.size ≤ 140737488355328):R X Tryz.prog 19 [.lf (.tptr 0 0 56),.lf (.str s)] [bl x y] (.tp [.lf (.int .i64 s.size),.lf .nili]) [bl (.tptr 0 0 56) (y ++ s.data.toList)]:=by
 refine R_i [(3,3)] [] c19_ok rfl (by simp) ?_
 rcases hx with rfl | rfl
 all_goals
  simp -implicitDefEqProofs (maxSteps:=2000000) only [c19,↓reduceIte,S0,St.init,enum,Nat.reduceEqDiff,reduceCtorEq,PV.leaves]
  refine pcall_i (r29 _ (by simp [frsh,toC]) y) rfl rfl ?_
  simp -implicitDefEqProofs (maxSteps:=2000000) only [c19,↓reduceIte,S0,Nat.reduceEqDiff,Nat.reduceAdd,reduceCtorEq,outV,ownsV,PV.cells,cellL,fillL,Nat.reduceMul,Nat.reduceBEq,plT,plC,true_or,isC,cplc,Nat.reduceMod,Nat.reduceDiv]
  exact ⟨hs,by rw [bytesL_ub,ub_app]⟩
def b8 (c:Int):UInt8:=UInt8.ofNat c.toNat
theorem b8_int {c:Int} (h0:0 ≤ c) (h1:c ≤ 255):((b8 c).toNat:Int) = c:=by
 have:(b8 c).toNat = c.toNat % 256:=rfl
 rw [this];omega
theorem b8_of (c:UInt8):b8 (c.toNat:Int) = c:=by simp [b8]
theorem r21 (x:L) (hx:frsh x) (y:List UInt8) (c:Int) (h0:0 ≤ c) (h1:c ≤ 255) (hs:y.length < 140737488355328):R X Tryz.prog 21 [.lf (.tptr 0 0 56),.lf (.int .u8 c)] [bl x y] (.lf .nili) [bl (.tptr 0 0 56) (y ++ [b8 c])]:=by
 refine R_i [(3,3)] [] c21_ok rfl (by simp) ?_
 rw [← b8_int h0 h1,b8_of]
 rcases hx with rfl | rfl
 all_goals
  simp -implicitDefEqProofs (maxSteps:=2000000) only [c21,↓reduceIte,S0,St.init,enum,Nat.reduceEqDiff,reduceCtorEq,PV.leaves]
  refine pcall_i (r29 _ (by simp [frsh,toC]) y) rfl rfl ?_
  simp -implicitDefEqProofs (maxSteps:=2000000) only [c21,↓reduceIte,S0,Nat.reduceEqDiff,Nat.reduceAdd,reduceCtorEq,outV,ownsV,PV.cells,cellL,datL,fillL,Nat.reduceMul,Nat.reduceBEq,Nat.reduceLeDiff,plT,plC,List.reduceReplicate,List.set_cons_zero,true_or,or_false,ub_snoc,isC,cplc,Nat.reduceMod,Nat.reduceDiv,lp_t]
  omega
theorem r22 (x:L) (hx:frsh x) (y:List UInt8):R X Tryz.prog 22 [.lf (.tptr 0 0 56)] [bl x y] (.lf (.int .i64 y.length)) [bl x y]:=by
 refine R_i [(3,3)] [] c22_ok rfl (by simp) ?_
 rcases hx with rfl | rfl
 all_goals
  simp -implicitDefEqProofs (maxSteps:=2000000) only [c22,↓reduceIte,S0,St.init,enum,reduceCtorEq,true_or,implies_true]
theorem r23 (x:L) (hx:frsh x) (y:List UInt8) (hy:0 < y.length):R X Tryz.prog 23 [.lf (.tptr 0 0 56)] [bl x y] (.lf (.str ⟨y.toArray⟩)) [[x,.undef]]:=by
 refine R_i [] [] c23_ok rfl (by simp) ?_
 rcases hx with rfl | rfl
 all_goals
  simp -implicitDefEqProofs (maxSteps:=2000000) only [c23,↓reduceIte,S0,St.init,enum,Nat.reduceEqDiff,reduceCtorEq,t_u,kp_np,implies_true,kp_eo,o_usd,v_usd,o_ust,v_ust,q_usd]
  exact hy
def hd (n:UInt8):UInt8:=if n < 10 then 48 + n else 87 + n
def wb (c:UInt8):List UInt8 :=
 if c = 10 then [92,110] else if c = 13 then [92,114] else if c = 9 then [92,116] else if c = 39 ∨ c = 92 then [92,c]
 else if 32 ≤ c ∧ c ≤ 126 then [c] else [92,120,hd (c / 16),hd (c % 16)]
theorem all8 {p:UInt8 → Prop} (h:∀ n:Fin 256,p (UInt8.ofNat n.val)) (c:UInt8):p c:=by
 have:=h ⟨c.toNat,c.toNat_lt⟩
 simpa using this
theorem sh4:∀ c:UInt8,((c.toNat:Int).fdiv (2 ^ min (Int.toNat 4) IntKind.u8.bits)) = ((c / 16).toNat:Int):=all8 (by decide +kernel)
theorem an15:∀ c:UInt8,Go.bits .and .u8 (c.toNat:Int) 15 = ((c % 16).toNat:Int):=all8 (by decide +kernel)
theorem digs:∀ c:UInt8,c < 16 → byteAt ⟨#[48,49,50,51,52,53,54,55,56,57,97,98,99,100,101,102]⟩ (c.toNat:Int) = ((hd c).toNat:Int):=all8 (by decide +kernel)
theorem d16:∀ c:UInt8,c / 16 < 16 ∧ c % 16 < 16 ∧ (c / 16).toNat < 16 ∧ (c % 16).toNat < 16:=all8 (by decide +kernel)
theorem wb_int:∀ c:UInt8,wb c = if (c.toNat:Int) = 10 then [92,110] else if (c.toNat:Int) = 13 then [92,114] else if (c.toNat:Int) = 9 then [92,116] else if (c.toNat:Int) = 39 ∨ (c.toNat:Int) = 92 then [92,c]
   else if 32 ≤ (c.toNat:Int) ∧ (c.toNat:Int) ≤ 126 then [c] else [92,120,hd (c / 16),hd (c % 16)]:=all8 (by decide +kernel)
theorem b8_92:b8 92 = 92:=rfl
theorem r44 (x:L) (hx:frsh x) (y:List UInt8) (c:UInt8) (hs:y.length < 140737488355000):R X Tryz.prog 44 [.lf (.tptr 0 0 56),.lf (.int .u8 c.toNat)] [bl x y] (.tp []) [bl (.tptr 0 0 56) (y ++ wb c)]:=by
 refine R_i [(3,3)] [] c44_ok rfl (by simp) ?_
 have hc:=c.toNat_lt
 have hw:=wb_int c
 rw [hw]
 have q:=d16 c
 have qa:=digs (c / 16) q.1
 have qb:=digs (c % 16) q.2.1
 have qc:=(hd (c / 16)).toNat_lt
 have qd:=(hd (c % 16)).toNat_lt
 rcases hx with rfl | rfl
 all_goals
  simp -implicitDefEqProofs (maxSteps:=2000000) only [c44,↓reduceIte,S0,St.init,enum,Nat.reduceEqDiff,reduceCtorEq,cond_false,PV.leaves,ite_not]
  repeat' (with_reducible refine ite_pr (fun _=>?_) (fun _=>?_))
  iterate 4
   all_goals try (first | refine pcall_i (r19 _ ?_ y _ ?_) rfl rfl ?_ | refine pcall_i (r21 _ ?_ _ _ ?_ ?_ ?_) rfl rfl ?_)
   all_goals try (first | exact Or.inl rfl | exact Or.inr rfl | omega | (simp only [ByteArray.size];simp;omega) | (simp;omega))
   all_goals try simp -implicitDefEqProofs (maxSteps:=2000000) only [c44,sh4,an15,qa,qb,↓reduceIte,S0,Nat.reduceEqDiff,Nat.reduceAdd,reduceCtorEq,outV,ownsV,owns1,ownL,PV.leaves,Nat.reduceMul,true_or,isC,cplc,Nat.reduceMod,Nat.reduceDiv]
   all_goals try (refine ⟨by omega,⟨by omega,?_⟩,?_⟩)
   all_goals try (refine ⟨⟨by omega,?_⟩,?_⟩)
   all_goals try (simp [ByteArray.size];omega)
  all_goals try (congr 1;simp [*,b8_of,b8_92];done)
  all_goals try (congr 1;simp [*,b8_of,b8_92];apply UInt8.toNat_inj.1;simp [b8];omega)
end Go.Proofs.YthcpaohmajjopaaGreatDoor.I
set_option linter.unusedVariables false
set_option linter.unusedSimpArgs false
namespace Go.Proofs.YthcpaohmajjopaaGreatDoor.I
open Go Go.Proofs.YthcpaohmajjopaaGreatDoor.AM
variable {X:Cx}
def body (l:List UInt8):List UInt8:=l.flatMap wb
def quo (s:ByteArray):ByteArray × Int :=
 if 65536 < s.size then (⟨#[]⟩,2) else if 65536 < (39 :: body s.data.toList ++ [39]).length then (⟨#[]⟩,2) else (⟨(39 :: body s.data.toList ++ [39]).toArray⟩,0)
def btq (s:ByteArray) (k:Nat):UInt8:=s.data.toList.getD k 0
theorem btq_int (s:ByteArray) (k:Nat):byteAt s (k:Int) = ((btq s k).toNat:Int):=rfl
theorem body_take {s:ByteArray} {k:Nat} (h:k < s.size):body (s.data.toList.take (k + 1)) = body (s.data.toList.take k) ++ wb (btq s k):=by
 have hl:k < s.data.toList.length:=by simpa using h
 rw [List.take_succ_eq_append_getElem hl]
 simp [body,btq,List.getD_eq_getElem?_getD,List.getElem?_eq_getElem hl]
theorem wb_len:∀ c:UInt8,1 ≤ (wb c).length ∧ (wb c).length ≤ 4:=all8 (by decide +kernel)
theorem body_len:∀ l:List UInt8,l.length ≤ (body l).length ∧ (body l).length ≤ 4 * l.length
 | []=>by simp [body]
 | c :: l=>by
  have:=body_len l
  have:=wb_len c
  simp only [body,List.flatMap_cons,List.length_append,List.length_cons] at *
  omega
theorem b8_39:b8 39 = 39:=rfl
theorem r31 (s:ByteArray):R X Tryz.prog 31 [.lf (.str s)] [] (.tp [.lf (.str (quo s).1),.lf (.int .i64 (quo s).2)]) []:=by
 refine R_i [] [] c31_ok rfl (by simp) ?_
 simp -implicitDefEqProofs (maxSteps:=2000000) only [c31,↓reduceIte,S0,St.init,enum,Nat.reduceEqDiff,reduceCtorEq,PV.leaves]
 refine ite_pr (fun hbig=>?_) (fun hsm=>?_)
 ·have:65536 < s.size:=by omega
  simp [quo,this]
 refine pcall_i (r21 _ (Or.inl rfl) [] _ (by omega) (by omega) (by simp)) rfl rfl ?_
 simp -implicitDefEqProofs (maxSteps:=2000000) only [c31,↓reduceIte,S0,Nat.reduceEqDiff,Nat.reduceAdd,reduceCtorEq,outV,ownsV,owns1,ownL,Nat.reduceMul,List.range_zero,isC,cplc,Nat.reduceMod,Nat.reduceDiv]
 have hz:∀ k,(body (s.data.toList.take k)).length ≤ 262144:=fun k=>by
  have h1:=body_len (s.data.toList.take k)
  have h2:(s.data.toList.take k).length ≤ s.size:=by simp;omega
  omega
 have key:∀ (n k:Nat),k + n = s.size → LoopAt X Tryz.prog c31_8 [0,4,11,12] (blkK 0 (seqK X Tryz.prog c31_17 (retS [] [] 0 [RV.t 2,RV.t 3] (.tp [.lf (.str (quo s).1),.lf (.int .i64 (quo s).2)]) [])))
   {m:=0,tm:=[(0,PV.lf (L.str s)),(4,PV.lf (L.tptr 4 0 56)),(11,PV.lf (L.int IntKind.i64 ↑s.size)),(12,PV.lf (L.int IntKind.i64 (k:Int)))],
    ce:=[(4,[L.tptr 4 0 56,L.lst (Tag.own 515 5) 1 (ub (39 :: body (s.data.toList.take k))) []])] }:=by
  intro n
  induction n with
  | zero =>
   intro k hk Z hZ
   apply hZ
   simp -implicitDefEqProofs (maxSteps:=2000000) only [c31,↓reduceIte,S0,Nat.reduceEqDiff,reduceCtorEq,PV.leaves]
   rw [if_neg (by omega)]
   refine pcall_i (r21 _ (Or.inr rfl) _ _ (by omega) (by omega) ?_) rfl rfl ?_
   ·have:=hz k;simp;omega
   simp -implicitDefEqProofs (maxSteps:=2000000) only [c31,↓reduceIte,S0,Nat.reduceEqDiff,Nat.reduceAdd,reduceCtorEq,outV,ownsV,owns1,ownL,PV.leaves,Nat.reduceMul,isC,cplc,Nat.reduceMod,Nat.reduceDiv]
   refine pcall_i (r22 _ (Or.inr rfl) _) rfl rfl ?_
   simp -implicitDefEqProofs (maxSteps:=2000000) only [c31,↓reduceIte,S0,Nat.reduceEqDiff,Nat.reduceAdd,outV,ownsV,owns1,ownL,PV.leaves,Nat.reduceMul,List.length_append,isC,cplc,Nat.reduceMod,Nat.reduceDiv]
   have ek:k = s.size:=by omega
   have et:s.data.toList.take k = s.data.toList:=List.take_of_length_le (by subst ek;simp)
   rw [et,b8_39]
   refine ite_pr (fun hb=>?_) (fun hb=>?_)
   ·have h1:65536 < (39 :: body s.data.toList ++ [39]).length:=by simp;omega
    unfold quo
    rw [if_neg (by omega),if_pos h1];exact ⟨rfl,rfl⟩
   ·refine pcall_i (r23 _ (Or.inr rfl) _ (by simp)) rfl rfl ?_
    simp -implicitDefEqProofs (maxSteps:=2000000) only [c31,↓reduceIte,S0,Nat.reduceEqDiff,outV,ownsV,owns1,ownL,isC,Nat.reduceMod,Nat.reduceDiv]
    have h1:¬ 65536 < (39 :: body s.data.toList ++ [39]).length:=by simp;omega
    unfold quo
    rw [if_neg (by omega),if_neg h1];exact ⟨rfl,rfl⟩
  | succ n ih =>
   intro k hk Z hZ
   apply hZ
   simp -implicitDefEqProofs (maxSteps:=2000000) only [c31,btq_int,↓reduceIte,S0,Nat.reduceEqDiff,reduceCtorEq,PV.leaves]
   rw [if_pos (by omega)]
   refine ⟨by omega,pcall_i (r44 _ (Or.inr rfl) _ _ ?_) rfl rfl ?_⟩
   ·have:=hz k;simp;omega
   simp -implicitDefEqProofs (maxSteps:=2000000) only [c31,↓reduceIte,S0,Nat.reduceEqDiff,Nat.reduceAdd,reduceCtorEq,outV,ownsV,Nat.reduceMul,List.range_zero,isC,cplc,Nat.reduceMod,Nat.reduceDiv]
   rw [w64 (by omega) (by omega)]
   have:=ih (k + 1) (by omega) Z hZ
   rw [body_take (by omega)] at this
   exact this
 exact key s.size 0 (by omega)
end Go.Proofs.YthcpaohmajjopaaGreatDoor.I
set_option linter.unusedVariables false
set_option linter.unusedSimpArgs false
namespace Go.Proofs.YthcpaohmajjopaaGreatDoor.I
open Go Go.Proofs.YthcpaohmajjopaaGreatDoor.AM
variable {X:Cx}
def hx (c:Int):Int:=if 48 ≤ c ∧ c ≤ 57 then c - 48 else if 97 ≤ c ∧ c ≤ 102 then c - 87 else -1
theorem hx_le (c:Int):hx c ≤ 15:=by unfold hx;split<;>(try split)<;>omega
theorem r90 (c:Int) (h0:0 ≤ c) (h1:c ≤ 255):R X Tryz.prog 90 [.lf (.int .u8 c)] [] (.tp [.lf (.int .u8 (if 0 ≤ hx c then hx c else 0)),.lf (.bool (decide (0 ≤ hx c)))]) []:=by
 refine R_i [] [] c90_ok rfl (by simp) ?_
 simp -implicitDefEqProofs (maxSteps:=2000000) only [c90,↓reduceIte,S0,St.init,enum,Nat.reduceEqDiff,reduceCtorEq,cond_false]
 unfold hx
 repeat' split
 all_goals (try simp (disch:=omega) only [w8,w64])
 all_goals (simp;try omega)
def esc (t:ByteArray) (i:Int):Int × Int :=
 if (t.size:Int) ≤ i + 1 then (0,0)
 else if byteAt t (i + 1) = 110 then (10,2)
 else if byteAt t (i + 1) = 114 then (13,2)
 else if byteAt t (i + 1) = 116 then (9,2)
 else if byteAt t (i + 1) = 92 ∨ byteAt t (i + 1) = 39 ∨ byteAt t (i + 1) = 34 then (byteAt t (i + 1),2)
 else if byteAt t (i + 1) = 120 ∧ i + 3 < t.size ∧ 0 ≤ hx (byteAt t (i + 2)) ∧ 0 ≤ hx (byteAt t (i + 3)) then (hx (byteAt t (i + 2)) * 16 + hx (byteAt t (i + 3)),4)
 else (0,0)
theorem or_nib (x y:Int) (h0:0 ≤ x) (h1:x ≤ 15) (h2:0 ≤ y) (h3:y ≤ 15):Go.bits .or .u8 (x * 16) y = x * 16 + y:=by
 have key:∀ a b:Fin 16,Go.bits .or .u8 ((a.val:Int) * 16) (b.val:Int) = (a.val:Int) * 16 + b.val:=by decide +kernel
 have:=key ⟨x.toNat,by omega⟩ ⟨y.toNat,by omega⟩
 simpa [Int.toNat_of_nonneg h0,Int.toNat_of_nonneg h2] using this
theorem r68 (t:ByteArray) (i:Int) (hn:t.size ≤ 65536) (h0:0 ≤ i) (h1:i < t.size):R X Tryz.prog 68 [.lf (.str t),.lf (.int .i64 i)] [] (.tp [.lf (.int .u8 (esc t i).1),.lf (.int .i64 (esc t i).2)]) []:=by
 have l2:=hx_le (byteAt t (i + 2))
 have l3:=hx_le (byteAt t (i + 3))
 have a1:=w64 (x:=i + 1) (by omega) (by omega)
 have a2:=w64 (x:=i + 2) (by omega) (by omega)
 have a3:=w64 (x:=i + 3) (by omega) (by omega)
 refine R_i [] [] c68_ok rfl (by simp) ?_
 simp -implicitDefEqProofs (maxSteps:=2000000) only [c68,a1,a2,a3,↓reduceIte,S0,St.init,enum,Nat.reduceEqDiff,reduceCtorEq,PV.leaves]
 repeat' (with_reducible first | refine ite_pr (fun _=>?_) (fun _=>?_) | refine And.intro ?_ ?_)
 all_goals try (refine wcall_s (r90 _ (byteAt_0 ..) (byteAt_1 ..)) rfl rfl ?_;simp -implicitDefEqProofs (maxSteps:=2000000) only [c68,a1,a2,a3,↓reduceIte,S0,Nat.reduceEqDiff,reduceCtorEq,St.clr,outV,ownsV,owns1,ownL,PV.leaves];refine ⟨by omega,wcall_s (r90 _ (byteAt_0 ..) (byteAt_1 ..)) rfl rfl ?_⟩;simp -implicitDefEqProofs (maxSteps:=2000000) only [c68,a1,a2,a3,↓reduceIte,S0,Nat.reduceEqDiff,reduceCtorEq,cond_false,St.clr,outV,ownsV,owns1,ownL])
 repeat' (with_reducible first | refine ite_pr (fun _=>?_) (fun _=>?_) | refine And.intro ?_ ?_)
 all_goals try omega
 all_goals try (simp [esc, *];done)
 rename_i p2 p3
 rw [if_pos p2,if_pos p3,show (2:Int) ^ min (Int.toNat 4) IntKind.u8.bits = 16 by decide,w8 (by omega) (by omega),or_nib _ _ p2 l2 p3 l3]
 simp [esc, *]
theorem esc_len (t:ByteArray) (i:Int):(esc t i).2 = 0 ∨ (2 ≤ (esc t i).2 ∧ (esc t i).2 ≤ 4 ∧ i + (esc t i).2 ≤ t.size):=by
 unfold esc
 (repeat' split)<;>first | (left;rfl) | (right;refine ⟨by simp,by simp,?_⟩;simp;omega)
def scan (t:ByteArray) (q:Int):Nat → Int → List Int → ByteArray × Int × Int × Int
 | 0,_,_=>(⟨#[]⟩,0,t.size,22)
 | n + 1,i,acc =>
  if i < (t.size:Int) then
   if byteAt t i = q then (strOfNums acc,i + 1,0,0)
   else if byteAt t i < 32 ∨ byteAt t i = 127 then (⟨#[]⟩,0,i,22)
   else if byteAt t i = 92 then
    if (esc t i).2 = 0 then (⟨#[]⟩,0,i,21) else scan t q n (i + (esc t i).2) (acc ++ [(esc t i).1])
   else scan t q n (i + 1) (acc ++ [byteAt t i])
  else (⟨#[]⟩,0,t.size,22)
def cut (t:ByteArray) (a:Int):ByteArray × Int × Int × Int :=
 if (t.size:Int) > 65536 then (⟨#[]⟩,0,0,2)
 else if a < 0 ∨ a > t.size then (⟨#[]⟩,0,0,1)
 else if a = t.size ∨ (byteAt t a ≠ 39 ∧ byteAt t a ≠ 34) then (⟨#[]⟩,0,a,20)
 else scan t (byteAt t a) (t.size + 1) (a + 1) []
theorem r53 (t:ByteArray) (a:Int) (ha:-9223372036854775808 ≤ a) (hb:a ≤ 9223372036854775807):R X Tryz.prog 53 [.lf (.str t),.lf (.int .i64 a)] [] (.tp [.lf (.str (cut t a).1),.lf (.int .i64 (cut t a).2.1),.ag [.int .i64 (cut t a).2.2.1,.int .i64 (cut t a).2.2.2]]) []:=by
 refine R_i [] [] c53_ok rfl (by simp) ?_
 have key:t.size ≤ 65536 → 0 ≤ a → a < t.size → ∀ (n:Nat) (i:Int) (acc:List Int),0 ≤ i → (t.size:Int) - i < n → acc.length + n ≤ 65600 → scan t (byteAt t a) n i acc = cut t a →
   LoopAt X Tryz.prog c53_30 [0,1,6,7,8] (blkK 1 (seqK X Tryz.prog c53_34 (retS [] [] 0 [RV.t 4,RV.t 5,RV.c 6 2 true] (PV.tp [PV.lf (L.str (cut t a).fst),PV.lf (L.int IntKind.i64 (cut t a).snd.fst),PV.ag [L.int IntKind.i64 (cut t a).snd.snd.fst,L.int IntKind.i64 (cut t a).snd.snd.snd]]) [])))
    ⟨0,[(0,PV.lf (L.str t)),(1,PV.lf (L.int IntKind.i64 a)),(6,PV.lf (L.ptr 6 0)),(7,PV.lf (L.lst (Tag.own 896 5) 1 (u8s acc) [])),(8,PV.lf (L.int IntKind.i64 i))],[(6,[L.int IntKind.i64 0,L.int IntKind.i64 0])]⟩:=by
  intro hn h0 h1 n
  generalize cut t a = r
  induction n with
  | zero =>
   intro i acc hi hlt hl he Z hZ
   apply hZ
   simp -implicitDefEqProofs (maxSteps:=2000000) only [c53,↓reduceIte,S0,Nat.reduceEqDiff,Nat.reduceAdd,reduceCtorEq,cond_false,PV.leaves,PV.cells,cellL,datL,fillL,Nat.reduceMul,Nat.reduceBEq,Nat.reduceLeDiff,List.range_zero,plT,ne_eq,List.reduceReplicate,List.set_cons_zero,or_false,ite_not]
   rw [if_neg (by omega),← he]
   simp [scan]
  | succ n ih =>
   intro i acc hi hlt hl he Z hZ
   apply hZ
   have hel:=esc_len t i
   simp -implicitDefEqProofs (maxSteps:=2000000) only [c53,↓reduceIte,S0,Nat.reduceEqDiff,Nat.reduceAdd,reduceCtorEq,cond_false,PV.leaves,PV.cells,cellL,datL,fillL,Nat.reduceMul,Nat.reduceBEq,Nat.reduceLeDiff,List.range_zero,plT,ne_eq,List.reduceReplicate,List.set_cons_zero,or_false,ite_not]
   repeat' (with_reducible first | refine ite_pr (fun _=>?_) (fun _=>?_) | refine And.intro ?_ ?_)
   all_goals try (refine wcall_s (r68 t i hn hi (by assumption)) rfl rfl ?_;simp -implicitDefEqProofs (maxSteps:=2000000) only [c53,↓reduceIte,S0,Nat.reduceEqDiff,Nat.reduceAdd,reduceCtorEq,St.clr,outV,ownsV,owns1,ownL,PV.cells,cellL,datL,fillL,Nat.reduceMul,Nat.reduceBEq,Nat.reduceLeDiff,List.range_zero,plT,ne_eq,List.reduceReplicate,List.set_cons_zero,or_false])
   repeat' (with_reducible first | refine ite_pr (fun _=>?_) (fun _=>?_) | refine And.intro ?_ ?_)
   all_goals try omega
   all_goals try (rw [← he];unfold scan;(repeat' split)<;>first | omega | rfl)
   all_goals try (rw [← he,w64 (by omega) (by omega)];unfold scan;(repeat' split)<;>first | omega | rfl)
   all_goals (rw [w64 (by omega) (by omega)];refine ih _ _ ?_ ?_ ?_ ?_ Z hZ)
   all_goals try omega
   all_goals try (simp only [List.length_append,List.length_cons,List.length_nil];omega)
   all_goals (rw [← he];conv=>rhs;unfold scan)
   all_goals ((repeat' split)<;>first | omega | rfl)
 simp -implicitDefEqProofs (maxSteps:=2000000) only [c53,↓reduceIte,S0,St.init,enum,Nat.reduceEqDiff,Nat.reduceAdd,reduceCtorEq,cond_false,PV.cells,cellL,fillL,Nat.reduceMul,Nat.reduceLeDiff,List.range_zero,plT,ne_eq,ite_not]
 repeat' (with_reducible first | refine ite_pr (fun _=>?_) (fun _=>?_) | refine And.intro ?_ ?_)
 all_goals try omega
 all_goals try (rw [w64 (by omega) (by omega)];refine key (by omega) (by omega) (by omega) (t.size + 1) (a + 1) [] (by omega) (by omega) (by simp;omega) ?_)
 all_goals (unfold cut;(repeat' split)<;>first | omega | rfl)
theorem scan_ok (t:ByteArray) (q:Int):∀ (n:Nat) (i:Int) (acc:List Int),(scan t q n i acc).2.2.2 = 0 → (scan t q n i acc).2.2.1 = 0 ∧ i < (scan t q n i acc).2.1 ∧ (scan t q n i acc).2.1 ≤ t.size:=by
 intro n
 induction n with
 | zero=>intro i acc h;exact absurd h (by simp [scan])
 | succ n ih =>
  intro i acc h
  have hl:=esc_len t i
  unfold scan at h ⊢
  by_cases c0:i < (t.size:Int)
  ·rw [if_pos c0] at h ⊢
   by_cases c1:byteAt t i = q
   ·rw [if_pos c1] at h ⊢;exact ⟨rfl,by simp;omega,by simp;omega⟩
   rw [if_neg c1] at h ⊢
   by_cases c2:byteAt t i < 32 ∨ byteAt t i = 127
   ·rw [if_pos c2] at h;exact absurd h (by simp)
   rw [if_neg c2] at h ⊢
   by_cases c3:byteAt t i = 92
   ·rw [if_pos c3] at h ⊢
    by_cases c4:(esc t i).2 = 0
    ·rw [if_pos c4] at h;exact absurd h (by simp)
    ·rw [if_neg c4] at h ⊢
     have:=ih _ _ h
     exact ⟨this.1,by omega,this.2.2⟩
   ·rw [if_neg c3] at h ⊢
    have:=ih _ _ h
    exact ⟨this.1,by omega,this.2.2⟩
  ·rw [if_neg c0] at h;exact absurd h (by simp)
theorem cut_ok (t:ByteArray) (a:Int) (h:(cut t a).2.2.2 = 0):(cut t a).2.2.1 = 0 ∧ 0 ≤ a ∧ a + 2 ≤ (cut t a).2.1 ∧ (cut t a).2.1 ≤ t.size ∧ t.size ≤ 65536 ∧ a < t.size ∧ (byteAt t a = 39 ∨ byteAt t a = 34) ∧ cut t a = scan t (byteAt t a) (t.size + 1) (a + 1) []:=by
 by_cases h1:(t.size:Int) > 65536
 ·unfold cut at h;rw [if_pos h1] at h;exact absurd h (by simp)
 by_cases h2:a < 0 ∨ a > t.size
 ·unfold cut at h;rw [if_neg h1,if_pos h2] at h;exact absurd h (by simp)
 by_cases h3:a = t.size ∨ (byteAt t a ≠ 39 ∧ byteAt t a ≠ 34)
 ·unfold cut at h;rw [if_neg h1,if_neg h2,if_pos h3] at h;exact absurd h (by simp)
 have e:cut t a = scan t (byteAt t a) (t.size + 1) (a + 1) []:=by unfold cut;rw [if_neg h1,if_neg h2,if_neg h3]
 have e2:byteAt t a = 39 ∨ byteAt t a = 34:=by
  by_cases h:byteAt t a = 39
  ·exact .inl h
  ·by_cases h':byteAt t a = 34
   ·exact .inr h'
   ·exact absurd (.inr ⟨h,h'⟩) h3
 have hs:=scan_ok t (byteAt t a) (t.size + 1) (a + 1) [] (by rw [← e];exact h)
 rw [← e] at hs
 exact ⟨hs.1,by omega,by omega,hs.2.2,by omega,by omega,e2,e⟩
theorem at_drop {t:ByteArray} {i:Nat} {l:List UInt8} (h:t.data.toList.drop i = l) (j:Nat) (c:UInt8) (hc:l[j]? = some c):byteAt t ((i:Int) + (j:Int)) = c.toNat ∧ i + j < t.size:=by
 subst h
 rw [List.getElem?_drop] at hc
 have e:((i:Int) + (j:Int)).toNat = i + j:=by omega
 unfold byteAt
 rw [e,List.getD_eq_getElem?_getD,hc]
 refine ⟨rfl,?_⟩
 have:=(List.getElem?_eq_some_iff.1 hc).1
 simpa using this
theorem hx_hd:∀ c:UInt8,0 ≤ hx ((hd (c / 16)).toNat) ∧ 0 ≤ hx ((hd (c % 16)).toNat) ∧ hx ((hd (c / 16)).toNat) * 16 + hx ((hd (c % 16)).toNat) = (c.toNat:Int):=all8 (by decide +kernel)
theorem scan_succ (t:ByteArray) (q:Int) (n:Nat) (i:Int) (acc:List Int):scan t q (n + 1) i acc =
  if i < (t.size:Int) then
   if byteAt t i = q then (strOfNums acc,i + 1,0,0)
   else if byteAt t i < 32 ∨ byteAt t i = 127 then (⟨#[]⟩,0,i,22)
   else if byteAt t i = 92 then
    if (esc t i).2 = 0 then (⟨#[]⟩,0,i,21) else scan t q n (i + (esc t i).2) (acc ++ [(esc t i).1])
   else scan t q n (i + 1) (acc ++ [byteAt t i])
  else (⟨#[]⟩,0,t.size,22):=rfl
theorem esc_step (t:ByteArray) (n i:Nat) (acc:List Int) (v:Int) (k:Nat) (h0:byteAt t i = 92) (hi:i < t.size) (he:esc t i = (v,(k:Int))) (hk:k ≠ 0):scan t 39 (n + 1) i acc = scan t 39 n (i + k:Nat) (acc ++ [v]):=by
 rw [scan_succ,if_pos (by omega),if_neg (by omega),if_neg (by omega),if_pos h0,he,if_neg (by simp only;omega)]
 simp
theorem scan_step (t:ByteArray) (n i:Nat) (acc:List Int) (c:UInt8) (r:List UInt8) (hr:r ≠ []) (h:t.data.toList.drop i = wb c ++ r):scan t 39 (n + 1) i acc = scan t 39 n (i + (wb c).length:Nat) (acc ++ [(c.toNat:Int)]):=by
 have at':=fun j c hc=>at_drop h j c hc
 have hc:=c.toNat_lt
 obtain ⟨d,r',rfl⟩:∃ d r',r = d :: r':=by cases r with | nil=>exact absurd rfl hr | cons d r'=>exact ⟨d,r',rfl⟩
 have hw:=wb_int c
 have two:∀ x:UInt8,wb c = [92,x] → esc t i = ((c.toNat:Int),2) → scan t 39 (n + 1) i acc = scan t 39 n (i + (wb c).length:Nat) (acc ++ [(c.toNat:Int)]):=by
  intro x hx he
  rw [hx] at at' ⊢
  have a0:=at' 0 92 rfl
  simp only [Int.natCast_zero,Int.add_zero] at a0
  exact esc_step t n i acc _ 2 a0.1 (by omega) he (by omega)
 have one:∀ x:UInt8,wb c = [92,x] → byteAt t (i + 1) = x.toNat ∧ i + 1 < t.size:=by
  intro x hx
  rw [hx] at at'
  exact at' 1 x rfl
 by_cases e1:(c.toNat:Int) = 10
 ·rw [if_pos e1] at hw
  have:=one _ hw
  exact two _ hw (by unfold esc;rw [if_neg (by omega),if_pos (by rw [this.1];rfl),e1])
 rw [if_neg e1] at hw
 by_cases e2:(c.toNat:Int) = 13
 ·rw [if_pos e2] at hw
  have:=one _ hw
  exact two _ hw (by unfold esc;rw [if_neg (by omega),this.1];simp [e2])
 rw [if_neg e2] at hw
 by_cases e3:(c.toNat:Int) = 9
 ·rw [if_pos e3] at hw
  have:=one _ hw
  exact two _ hw (by unfold esc;rw [if_neg (by omega),this.1];simp [e3])
 rw [if_neg e3] at hw
 by_cases e4:(c.toNat:Int) = 39 ∨ (c.toNat:Int) = 92
 ·rw [if_pos e4] at hw
  have:=one _ hw
  exact two _ hw (by unfold esc;rw [if_neg (by omega),this.1];rcases e4 with e4 | e4<;>simp [e4])
 rw [if_neg e4] at hw
 by_cases e5:32 ≤ (c.toNat:Int) ∧ (c.toNat:Int) ≤ 126
 ·rw [if_pos e5] at hw
  rw [hw] at at' ⊢
  have a0:=at' 0 c rfl
  simp only [Int.natCast_zero,Int.add_zero] at a0
  rw [scan_succ,if_pos (by omega),a0.1,if_neg (by omega),if_neg (by omega),if_neg (by omega)]
  rfl
 ·rw [if_neg e5] at hw
  rw [hw] at at' ⊢
  have a0:=at' 0 92 rfl
  have a1:=at' 1 120 rfl
  have a2:=at' 2 (hd (c / 16)) rfl
  have a3:=at' 3 (hd (c % 16)) rfl
  have q:=hx_hd c
  simp only [Int.natCast_zero,Int.add_zero] at a0
  refine esc_step t n i acc _ 4 a0.1 (by omega) ?_ (by omega)
  have b1:byteAt t (i + 1) = 120:=a1.1
  have b2:byteAt t (i + 2) = (hd (c / 16)).toNat:=a2.1
  have b3:byteAt t (i + 3) = (hd (c % 16)).toNat:=a3.1
  unfold esc
  rw [if_neg (by omega),b1,b2,b3]
  simp [q.1,q.2.1,q.2.2,show (i:Int) + 3 < t.size by omega]
end Go.Proofs.YthcpaohmajjopaaGreatDoor.I
set_option maxRecDepth 100000
namespace Go.Proofs.YthcpaohmajjopaaGreatDoor.I
open Go Go.Proofs.YthcpaohmajjopaaGreatDoor.AM
abbrev c54_0:AC:=.seq (.ops 0 [⟨some 18,.bd [.int .u64 0,.int .u64 0,.int .u64 0,.int .u64 0] [],none⟩,⟨some 19,.bd [.int .i64 0,.int .i64 0] [(1,1,(.k (.lf (.int .i64 1))))],none⟩,⟨none,.st (.t 4) (.t 18) 4,none⟩,⟨some 5,.as 0 0 (.k (.lf (.int .i64 0))),none⟩,⟨none,.st (.t 6) (.t 19) 2,none⟩] [4,5,6]) .ret
abbrev c54_1:AC:=.cond (.t 17) c54_0 .skip
abbrev c54_2:AC:=.seq (.ops 0 [⟨some 10,.mv (.t 1),none⟩,⟨some 11,.bin .lss (.t 10) (.k (.lf (.int .i64 0))),none⟩,⟨some 12,.mv (.t 11),none⟩,⟨some 13,.mv (.t 1),some (12,false)⟩,⟨some 14,.mv (.t 0),some (12,false)⟩,⟨some 15,.lns (.t 14),some (12,false)⟩,⟨some 16,.bin .gtr (.t 13) (.t 15),some (12,false)⟩,⟨some 17,.pk (.t 12) (.k (.lf (.bool true))) (.t 16),none⟩] [0,1,4,6,17]) c54_1
abbrev c54_3:AC:=.seq (.ops 0 [⟨some 27,.bd [.int .u64 0,.int .u64 0,.int .u64 0,.int .u64 0] [],none⟩,⟨some 28,.mv (.t 1),none⟩,⟨some 29,.bd [.int .i64 0,.int .i64 0] [(0,1,(.t 28)),(1,1,(.k (.lf (.int .i64 6))))],none⟩,⟨none,.st (.t 4) (.t 27) 4,none⟩,⟨some 5,.as 0 0 (.k (.lf (.int .i64 0))),none⟩,⟨none,.st (.t 6) (.t 29) 2,none⟩] [4,5,6]) .ret
abbrev c54_4:AC:=.cond (.t 26) c54_3 .skip
abbrev c54_5:AC:=.seq (.ops 0 [⟨some 24,.mv (.t 7),none⟩,⟨some 25,.callp 69 0 [(.t 24)],none⟩,⟨some 26,.bin .neq (.t 25) (.k (.lf (.int .i64 91))),none⟩] [1,4,6,7,26]) c54_4
abbrev c54_6:AC:=.cond (.t 40) (.ops 0 [⟨some 41,.mv (.t 7),none⟩,⟨some 42,.nc (.t 41),none⟩,⟨some 43,.fa (.t 42) 1,none⟩,⟨some 44,.ld (.t 43) 1 false,none⟩,⟨some 45,.bin .add (.t 44) (.k (.lf (.int .i64 1))),none⟩,⟨some 46,.nc (.t 41),none⟩,⟨some 47,.fa (.t 46) 1,none⟩,⟨none,.st (.t 47) (.t 45) 1,none⟩] [4,6,7,8]) .skip
abbrev c54_7:AC:=.seq (.ops 0 [⟨some 40,.mv (.t 8),none⟩] [4,6,7,8,40]) c54_6
abbrev c54_8:AC:=.cond (.t 58) .skip (.exit 0)
abbrev c54_9:AC:=.seq (.ops 0 [⟨some 48,.mv (.t 7),none⟩,⟨some 49,.nc (.t 48),none⟩,⟨some 50,.fa (.t 49) 2,none⟩,⟨some 51,.fa (.t 50) 1,none⟩,⟨some 52,.ld (.t 51) 1 false,none⟩,⟨some 53,.bin .eql (.t 52) (.k (.lf (.int .i64 0))),none⟩,⟨some 54,.mv (.t 53),none⟩,⟨some 55,.mv (.t 7),some (54,true)⟩,⟨some 56,.callp 69 0 [(.t 55)],some (54,true)⟩,⟨some 57,.bin .neq (.t 56) (.k (.lf (.int .i64 93))),some (54,true)⟩,⟨some 58,.pk (.t 54) (.t 57) (.k (.lf (.bool false))),none⟩] [4,6,7,8,9,58]) c54_8
abbrev c54_10:AC:=.block 1 (.gdt (.one ⟨some 60,.mv (.t 7),none⟩ (.alt (.one ⟨some 59,.ld (.t 9) 4 true,none⟩ (.one ⟨some 61,.callp 71 0 [(.t 60)],none⟩ (.one ⟨some 62,.call 70 [(.t 59),(.t 61)],none⟩ (.one ⟨none,.st (.t 9) (.t 62) 4,none⟩ .nil)))) (.one ⟨some 61,.callp 71 0 [(.t 60)],none⟩ (.one ⟨some 59,.ld (.t 9) 4 true,none⟩ (.one ⟨some 62,.call 70 [(.t 59),(.t 61)],none⟩ (.one ⟨none,.st (.t 9) (.t 62) 4,none⟩ .nil)))))) [4,6,7,8,9])
abbrev c54_11:AC:=.seq c54_9 c54_10
abbrev c54_12:AC:=.loop c54_11 [4,6,7,8,9]
abbrev c54_13:AC:=.block 0 c54_12
abbrev c54_14:AC:=.seq (.gdr [7] [⟨some 70,.mv (.t 7),none⟩,⟨some 71,.nc (.t 70),none⟩,⟨some 72,.fa (.t 71) 2,none⟩,⟨some 73,.ld (.t 72) 2 true,none⟩] [⟨some 69,.bd [.int .u64 0,.int .u64 0,.int .u64 0,.int .u64 0] [],none⟩,⟨none,.st (.t 4) (.t 69) 4,none⟩,⟨some 5,.as 0 0 (.k (.lf (.int .i64 0))),none⟩,⟨none,.st (.t 6) (.t 73) 2,none⟩] [4,5,6]) .ret
abbrev c54_15:AC:=.cond (.t 68) c54_14 .skip
abbrev c54_16:AC:=.seq (.ops 0 [⟨some 63,.mv (.t 7),none⟩,⟨some 64,.nc (.t 63),none⟩,⟨some 65,.fa (.t 64) 2,none⟩,⟨some 66,.fa (.t 65) 1,none⟩,⟨some 67,.ld (.t 66) 1 false,none⟩,⟨some 68,.bin .neq (.t 67) (.k (.lf (.int .i64 0))),none⟩] [4,6,7,8,9,68]) c54_15
abbrev c54_17:AC:=.cond (.t 74) (.ops 0 [⟨some 75,.ld (.t 9) 4 true,none⟩,⟨some 76,.call 60 [(.t 75)],none⟩,⟨none,.st (.t 9) (.t 76) 4,none⟩] [4,6,7,9]) .skip
abbrev c54_18:AC:=.seq (.ops 0 [⟨some 74,.mv (.t 8),none⟩] [4,6,7,9,74]) c54_17
abbrev c54_19:AC:=.seq (.gdt (.one ⟨some 78,.mv (.t 7),none⟩ (.one ⟨some 79,.nc (.t 78),none⟩ (.one ⟨some 80,.fa (.t 79) 1,none⟩ (.alt (.one ⟨some 77,.ld (.t 9) 4 true,none⟩ (.alt (.one ⟨some 81,.ld (.t 80) 1 false,none⟩ (.one ⟨some 82,.bin .add (.t 81) (.k (.lf (.int .i64 1))),none⟩ (.alt (.one ⟨some 83,.bd [.int .i64 0,.int .i64 0] [],none⟩ (.one ⟨none,.st (.t 4) (.t 77) 4,none⟩ (.one ⟨some 5,.as 0 0 (.t 82),none⟩ (.one ⟨none,.st (.t 6) (.t 83) 2,none⟩ .nil)))) (.one ⟨none,.st (.t 4) (.t 77) 4,none⟩ (.alt (.one ⟨some 83,.bd [.int .i64 0,.int .i64 0] [],none⟩ (.one ⟨some 5,.as 0 0 (.t 82),none⟩ (.one ⟨none,.st (.t 6) (.t 83) 2,none⟩ .nil))) (.one ⟨some 5,.as 0 0 (.t 82),none⟩ (.one ⟨some 83,.bd [.int .i64 0,.int .i64 0] [],none⟩ (.one ⟨none,.st (.t 6) (.t 83) 2,none⟩ .nil)))))))) (.alt (.one ⟨some 83,.bd [.int .i64 0,.int .i64 0] [],none⟩ (.alt (.one ⟨some 81,.ld (.t 80) 1 false,none⟩ (.one ⟨some 82,.bin .add (.t 81) (.k (.lf (.int .i64 1))),none⟩ (.one ⟨none,.st (.t 4) (.t 77) 4,none⟩ (.one ⟨some 5,.as 0 0 (.t 82),none⟩ (.one ⟨none,.st (.t 6) (.t 83) 2,none⟩ .nil))))) (.one ⟨none,.st (.t 4) (.t 77) 4,none⟩ (.one ⟨some 81,.ld (.t 80) 1 false,none⟩ (.one ⟨some 82,.bin .add (.t 81) (.k (.lf (.int .i64 1))),none⟩ (.one ⟨some 5,.as 0 0 (.t 82),none⟩ (.one ⟨none,.st (.t 6) (.t 83) 2,none⟩ .nil))))))) (.one ⟨none,.st (.t 4) (.t 77) 4,none⟩ (.alt (.one ⟨some 81,.ld (.t 80) 1 false,none⟩ (.one ⟨some 82,.bin .add (.t 81) (.k (.lf (.int .i64 1))),none⟩ (.alt (.one ⟨some 83,.bd [.int .i64 0,.int .i64 0] [],none⟩ (.one ⟨some 5,.as 0 0 (.t 82),none⟩ (.one ⟨none,.st (.t 6) (.t 83) 2,none⟩ .nil))) (.one ⟨some 5,.as 0 0 (.t 82),none⟩ (.one ⟨some 83,.bd [.int .i64 0,.int .i64 0] [],none⟩ (.one ⟨none,.st (.t 6) (.t 83) 2,none⟩ .nil)))))) (.one ⟨some 83,.bd [.int .i64 0,.int .i64 0] [],none⟩ (.one ⟨some 81,.ld (.t 80) 1 false,none⟩ (.one ⟨some 82,.bin .add (.t 81) (.k (.lf (.int .i64 1))),none⟩ (.one ⟨some 5,.as 0 0 (.t 82),none⟩ (.one ⟨none,.st (.t 6) (.t 83) 2,none⟩ .nil)))))))))) (.alt (.one ⟨some 81,.ld (.t 80) 1 false,none⟩ (.one ⟨some 82,.bin .add (.t 81) (.k (.lf (.int .i64 1))),none⟩ (.alt (.one ⟨some 77,.ld (.t 9) 4 true,none⟩ (.alt (.one ⟨some 83,.bd [.int .i64 0,.int .i64 0] [],none⟩ (.one ⟨none,.st (.t 4) (.t 77) 4,none⟩ (.one ⟨some 5,.as 0 0 (.t 82),none⟩ (.one ⟨none,.st (.t 6) (.t 83) 2,none⟩ .nil)))) (.one ⟨none,.st (.t 4) (.t 77) 4,none⟩ (.alt (.one ⟨some 83,.bd [.int .i64 0,.int .i64 0] [],none⟩ (.one ⟨some 5,.as 0 0 (.t 82),none⟩ (.one ⟨none,.st (.t 6) (.t 83) 2,none⟩ .nil))) (.one ⟨some 5,.as 0 0 (.t 82),none⟩ (.one ⟨some 83,.bd [.int .i64 0,.int .i64 0] [],none⟩ (.one ⟨none,.st (.t 6) (.t 83) 2,none⟩ .nil))))))) (.one ⟨some 83,.bd [.int .i64 0,.int .i64 0] [],none⟩ (.one ⟨some 77,.ld (.t 9) 4 true,none⟩ (.one ⟨none,.st (.t 4) (.t 77) 4,none⟩ (.one ⟨some 5,.as 0 0 (.t 82),none⟩ (.one ⟨none,.st (.t 6) (.t 83) 2,none⟩ .nil)))))))) (.one ⟨some 83,.bd [.int .i64 0,.int .i64 0] [],none⟩ (.alt (.one ⟨some 77,.ld (.t 9) 4 true,none⟩ (.alt (.one ⟨some 81,.ld (.t 80) 1 false,none⟩ (.one ⟨some 82,.bin .add (.t 81) (.k (.lf (.int .i64 1))),none⟩ (.one ⟨none,.st (.t 4) (.t 77) 4,none⟩ (.one ⟨some 5,.as 0 0 (.t 82),none⟩ (.one ⟨none,.st (.t 6) (.t 83) 2,none⟩ .nil))))) (.one ⟨none,.st (.t 4) (.t 77) 4,none⟩ (.one ⟨some 81,.ld (.t 80) 1 false,none⟩ (.one ⟨some 82,.bin .add (.t 81) (.k (.lf (.int .i64 1))),none⟩ (.one ⟨some 5,.as 0 0 (.t 82),none⟩ (.one ⟨none,.st (.t 6) (.t 83) 2,none⟩ .nil))))))) (.one ⟨some 81,.ld (.t 80) 1 false,none⟩ (.one ⟨some 82,.bin .add (.t 81) (.k (.lf (.int .i64 1))),none⟩ (.one ⟨some 77,.ld (.t 9) 4 true,none⟩ (.one ⟨none,.st (.t 4) (.t 77) 4,none⟩ (.one ⟨some 5,.as 0 0 (.t 82),none⟩ (.one ⟨none,.st (.t 6) (.t 83) 2,none⟩ .nil))))))))))))) [4,5,6]) .ret
abbrev c54_20:AC:=.seq c54_18 c54_19
abbrev c54_21:AC:=.seq c54_16 c54_20
abbrev c54_22:AC:=.seq c54_13 c54_21
abbrev c54_23:AC:=.seq (.ops 0 [⟨some 9,.al [.int .u64 0,.int .u64 0,.int .u64 0,.int .u64 0],none⟩] [4,6,7,8,9]) c54_22
abbrev c54_24:AC:=.seq c54_7 c54_23
abbrev c54_25:AC:=.seq (.ops 0 [⟨some 37,.mv (.t 7),none⟩,⟨some 38,.callp 69 0 [(.t 37)],none⟩,⟨some 39,.bin .eql (.t 38) (.k (.lf (.int .i64 94))),none⟩,⟨some 8,.as 0 0 (.t 39),none⟩] [4,6,7,8]) c54_24
abbrev c54_26:AC:=.seq (.ops 0 [⟨some 30,.mv (.t 7),none⟩,⟨some 31,.nc (.t 30),none⟩,⟨some 32,.fa (.t 31) 1,none⟩,⟨some 33,.ld (.t 32) 1 false,none⟩,⟨some 34,.bin .add (.t 33) (.k (.lf (.int .i64 1))),none⟩,⟨some 35,.nc (.t 30),none⟩,⟨some 36,.fa (.t 35) 1,none⟩,⟨none,.st (.t 36) (.t 34) 1,none⟩] [4,6,7]) c54_25
abbrev c54_27:AC:=.seq c54_5 c54_26
abbrev c54_28:AC:=.seq (.ops 0 [⟨some 20,.mv (.t 0),none⟩,⟨some 21,.mv (.t 1),none⟩,⟨some 22,.bd [.str ⟨#[]⟩,.int .i64 0,.int .i64 0,.int .i64 0] [(0,1,(.t 20)),(1,1,(.t 21))],none⟩,⟨some 23,.bx (.t 22),none⟩,⟨some 7,.as 0 0 (.t 23),none⟩] [1,4,6,7]) c54_27
abbrev c54_29:AC:=.seq c54_2 c54_28
abbrev c54_30:AC:=.seq (.ops 0 [⟨some 4,.al [.int .u64 0,.int .u64 0,.int .u64 0,.int .u64 0],none⟩,⟨some 5,.as 0 0 (.k (.lf (.int .i64 0))),none⟩,⟨some 6,.al [.int .i64 0,.int .i64 0],none⟩] [0,1,4,6]) c54_29
abbrev c54:AC:=c54_30
theorem c54_ok:compileFn Tryz.prog 54 = some (84,AC.strip c54,[.c 4 4 true,.t 5,.c 6 2 true]):=by kernel_rfl
abbrev c69_0:AC:=.seq (.ops 1 [⟨some 13,.mv (.t 0),none⟩,⟨some 14,.nc (.t 13),none⟩,⟨some 15,.fa (.t 14) 0,none⟩,⟨some 16,.ld (.t 15) 1 false,none⟩,⟨some 17,.mv (.t 0),none⟩,⟨some 18,.nc (.t 17),none⟩,⟨some 19,.fa (.t 18) 1,none⟩,⟨some 20,.ld (.t 19) 1 false,none⟩,⟨some 21,.ixs (.t 16) (.t 20),none⟩,⟨some 22,.cvi .i64 (.t 21),none⟩,⟨some 2,.as 0 0 (.t 22),none⟩] [2]) .ret
abbrev c69_1:AC:=.cond (.t 12) c69_0 .skip
abbrev c69_2:AC:=.seq (.ops 2 [⟨some 3,.mv (.t 0),none⟩,⟨some 4,.nc (.t 3),none⟩,⟨some 5,.fa (.t 4) 1,none⟩,⟨some 6,.ld (.t 5) 1 false,none⟩,⟨some 7,.mv (.t 0),none⟩,⟨some 8,.nc (.t 7),none⟩,⟨some 9,.fa (.t 8) 0,none⟩,⟨some 10,.ld (.t 9) 1 false,none⟩,⟨some 11,.lns (.t 10),none⟩,⟨some 12,.bin .lss (.t 6) (.t 11),none⟩] [0,12]) c69_1
abbrev c69_3:AC:=.seq (.ops 0 [⟨some 2,.as 0 0 (.k (.lf (.int .i64 (-1)))),none⟩] [2]) .ret
abbrev c69_4:AC:=.seq c69_2 c69_3
abbrev c69_5:AC:=.seq (.ops 0 [⟨some 2,.as 0 0 (.k (.lf (.int .i64 0))),none⟩] [0]) c69_4
abbrev c69:AC:=c69_5
theorem c69_ok:compileFn Tryz.prog 69 = some (23,AC.strip c69,[.t 2]):=by kernel_rfl
abbrev c70_0:AC:=.cond (.t 7) .skip (.exit 0)
abbrev c70_1:AC:=.seq (.ops 0 [⟨some 8,.mv (.t 6),none⟩,⟨some 5,.as 0 0 (.t 8),none⟩] [2,3,4,5,6]) (.ops 1 [⟨some 9,.mv (.t 5),none⟩,⟨some 10,.iaa (.t 2) (.t 9) 4 1,none⟩,⟨some 11,.ld (.t 10) 1 false,none⟩,⟨some 12,.mv (.t 5),none⟩,⟨some 13,.iaa (.t 3) (.t 12) 4 1,none⟩,⟨some 14,.ld (.t 13) 1 false,none⟩,⟨some 15,.bin .or (.t 11) (.t 14),none⟩,⟨some 16,.iaa (.t 2) (.t 9) 4 1,none⟩,⟨none,.st (.t 16) (.t 15) 1,none⟩] [2,3,4,6])
abbrev c70_2:AC:=.block 1 c70_1
abbrev c70_3:AC:=.seq c70_2 (.ops 0 [⟨some 17,.bin .add (.t 6) (.k (.lf (.int .i64 1))),none⟩,⟨some 6,.mv (.t 17),none⟩] [2,3,4,6])
abbrev c70_4:AC:=.seq c70_0 c70_3
abbrev c70_5:AC:=.seq (.ops 0 [⟨some 7,.bin .lss (.t 6) (.k (.lf (.int .i64 4))),none⟩] [2,3,4,6,7]) c70_4
abbrev c70_6:AC:=.loop c70_5 [2,3,4,6]
abbrev c70_7:AC:=.block 0 c70_6
abbrev c70_8:AC:=.seq (.ops 0 [⟨some 6,.mv (.k (.lf (.int .i64 0))),none⟩] [2,3,4,6]) c70_7
abbrev c70_9:AC:=.seq (.ops 0 [⟨some 18,.ld (.t 2) 4 true,none⟩,⟨none,.st (.t 4) (.t 18) 4,none⟩] [4]) .ret
abbrev c70_10:AC:=.seq c70_8 c70_9
abbrev c70_11:AC:=.seq (.ops 0 [⟨some 2,.bx (.t 0),none⟩,⟨some 3,.bx (.t 1),none⟩,⟨some 4,.al [.int .u64 0,.int .u64 0,.int .u64 0,.int .u64 0],none⟩] [2,3,4]) c70_10
abbrev c70:AC:=c70_11
theorem c70_ok:compileFn Tryz.prog 70 = some (19,AC.strip c70,[.c 4 4 true]):=by kernel_rfl
abbrev c71_0:AC:=.cond (.t 27) (.ops 0 [⟨some 29,.mv (.t 6),none⟩,⟨some 30,.cvi .u8 (.t 29),none⟩,⟨some 31,.call 91 [(.t 30)],none⟩,⟨some 28,.mv (.t 31),none⟩,⟨some 32,.ext (.t 28) 0,none⟩,⟨some 33,.ext (.t 28) 1,none⟩,⟨none,.st (.t 4) (.t 32) 4,none⟩,⟨some 5,.as 0 0 (.t 33),none⟩] [0,2,3,4,5]) .skip
abbrev c71_1:AC:=.seq (.ops 0 [⟨some 26,.mv (.t 6),none⟩,⟨some 27,.bin .geq (.t 26) (.k (.lf (.int .i64 0))),none⟩] [0,2,3,4,5,6,27]) c71_0
abbrev c71_2:AC:=.seq (.ops 0 [⟨some 24,.mv (.t 0),none⟩,⟨some 25,.callp 69 0 [(.t 24)],none⟩,⟨some 6,.as 0 0 (.t 25),none⟩] [0,2,3,4,5,6]) c71_1
abbrev c71_3:AC:=.cond (.t 35) (.ops 0 [⟨some 36,.mv (.t 0),none⟩,⟨some 37,.mv (.t 3),none⟩,⟨some 38,.mv (.t 5),none⟩,⟨some 39,.callp 92 0 [(.t 36),(.t 37),(.t 38)],none⟩] [0,2,4]) .skip
abbrev c71_4:AC:=.seq (.ops 0 [⟨some 34,.mv (.t 5),none⟩,⟨some 35,.bin .neq (.t 34) (.k (.lf (.int .i64 0))),none⟩] [0,2,3,4,5,35]) c71_3
abbrev c71_5:AC:=.seq (.ops 0 [⟨some 47,.ld (.t 4) 4 true,none⟩,⟨none,.st (.t 2) (.t 47) 4,none⟩] [2]) .ret
abbrev c71_6:AC:=.seq (.ops 0 [⟨some 40,.mv (.t 0),none⟩,⟨some 41,.nc (.t 40),none⟩,⟨some 42,.fa (.t 41) 1,none⟩,⟨some 43,.ld (.t 42) 1 false,none⟩,⟨some 44,.bin .add (.t 43) (.k (.lf (.int .i64 1))),none⟩,⟨some 45,.nc (.t 40),none⟩,⟨some 46,.fa (.t 45) 1,none⟩,⟨none,.st (.t 46) (.t 44) 1,none⟩] [2,4]) c71_5
abbrev c71_7:AC:=.seq c71_4 c71_6
abbrev c71_8:AC:=.seq c71_2 c71_7
abbrev c71_9:AC:=.seq (.ops 0 [⟨some 23,.bd [.int .u64 0,.int .u64 0,.int .u64 0,.int .u64 0] [],none⟩,⟨some 4,.al [.int .u64 0,.int .u64 0,.int .u64 0,.int .u64 0],none⟩,⟨none,.st (.t 4) (.t 23) 4,none⟩,⟨some 5,.as 0 0 (.k (.lf (.int .i64 10))),none⟩] [0,2,3,4,5]) c71_8
abbrev c71_10:AC:=.seq (.ops 0 [⟨some 16,.mv (.t 0),none⟩,⟨some 17,.nc (.t 16),none⟩,⟨some 18,.fa (.t 17) 1,none⟩,⟨some 19,.ld (.t 18) 1 false,none⟩,⟨some 20,.bin .add (.t 19) (.k (.lf (.int .i64 1))),none⟩,⟨some 21,.nc (.t 16),none⟩,⟨some 22,.fa (.t 21) 1,none⟩,⟨none,.st (.t 22) (.t 20) 1,none⟩] [0,2,3]) c71_9
abbrev c71_11:AC:=.cond (.t 15) c71_10 .skip
abbrev c71_12:AC:=.seq (.ops 0 [⟨some 13,.mv (.t 0),none⟩,⟨some 14,.callp 69 0 [(.t 13)],none⟩,⟨some 15,.bin .eql (.t 14) (.k (.lf (.int .i64 37))),none⟩] [0,2,3,15]) c71_11
abbrev c71_13:AC:=.cond (.t 81) (.ops 0 [⟨some 82,.mv (.t 0),none⟩,⟨some 83,.mv (.t 3),none⟩,⟨some 84,.callp 92 0 [(.t 82),(.t 83),(.k (.lf (.int .i64 1)))],none⟩] [2,7,8]) .skip
abbrev c71_14:AC:=.seq (.ops 0 [⟨some 71,.mv (.t 0),none⟩,⟨some 72,.nc (.t 71),none⟩,⟨some 73,.fa (.t 72) 2,none⟩,⟨some 74,.fa (.t 73) 1,none⟩,⟨some 75,.ld (.t 74) 1 false,none⟩,⟨some 76,.bin .eql (.t 75) (.k (.lf (.int .i64 0))),none⟩,⟨some 77,.mv (.t 76),none⟩,⟨some 78,.mv (.t 8),some (77,true)⟩,⟨some 79,.mv (.t 7),some (77,true)⟩,⟨some 80,.bin .lss (.t 78) (.t 79),some (77,true)⟩,⟨some 81,.pk (.t 77) (.t 80) (.k (.lf (.bool false))),none⟩] [0,2,3,7,8,81]) c71_13
abbrev c71_15:AC:=.seq (.ops 0 [⟨some 69,.mv (.t 0),none⟩,⟨some 70,.callp 93 0 [(.t 69)],none⟩,⟨some 8,.as 0 0 (.t 70),none⟩] [0,2,3,7,8]) c71_14
abbrev c71_16:AC:=.seq (.ops 0 [⟨some 62,.mv (.t 0),none⟩,⟨some 63,.nc (.t 62),none⟩,⟨some 64,.fa (.t 63) 1,none⟩,⟨some 65,.ld (.t 64) 1 false,none⟩,⟨some 66,.bin .add (.t 65) (.k (.lf (.int .i64 1))),none⟩,⟨some 67,.nc (.t 62),none⟩,⟨some 68,.fa (.t 67) 1,none⟩,⟨none,.st (.t 68) (.t 66) 1,none⟩] [0,2,3,7]) c71_15
abbrev c71_17:AC:=.cond (.t 61) c71_16 .skip
abbrev c71_18:AC:=.seq (.ops 0 [⟨some 51,.mv (.t 0),none⟩,⟨some 52,.nc (.t 51),none⟩,⟨some 53,.fa (.t 52) 2,none⟩,⟨some 54,.fa (.t 53) 1,none⟩,⟨some 55,.ld (.t 54) 1 false,none⟩,⟨some 56,.bin .eql (.t 55) (.k (.lf (.int .i64 0))),none⟩,⟨some 57,.mv (.t 56),none⟩,⟨some 58,.mv (.t 0),some (57,true)⟩,⟨some 59,.callp 69 0 [(.t 58)],some (57,true)⟩,⟨some 60,.bin .eql (.t 59) (.k (.lf (.int .i64 45))),some (57,true)⟩,⟨some 61,.pk (.t 57) (.t 60) (.k (.lf (.bool false))),none⟩] [0,2,3,7,8,61]) c71_17
abbrev c71_19:AC:=.seq (.ops 0 [⟨some 85,.mv (.t 7),none⟩,⟨some 86,.mv (.t 8),none⟩,⟨some 87,.call 94 [(.t 85),(.t 86)],none⟩,⟨none,.st (.t 2) (.t 87) 4,none⟩] [2]) .ret
abbrev c71_20:AC:=.seq c71_18 c71_19
abbrev c71_21:AC:=.seq (.ops 0 [⟨some 50,.mv (.t 7),none⟩,⟨some 8,.as 0 0 (.t 50),none⟩] [0,2,3,7,8]) c71_20
abbrev c71_22:AC:=.seq (.ops 0 [⟨some 48,.mv (.t 0),none⟩,⟨some 49,.callp 93 0 [(.t 48)],none⟩,⟨some 7,.as 0 0 (.t 49),none⟩] [0,2,3,7]) c71_21
abbrev c71_23:AC:=.seq c71_12 c71_22
abbrev c71_24:AC:=.seq (.ops 0 [⟨some 9,.mv (.t 0),none⟩,⟨some 10,.nc (.t 9),none⟩,⟨some 11,.fa (.t 10) 1,none⟩,⟨some 12,.ld (.t 11) 1 false,none⟩,⟨some 3,.as 0 0 (.t 12),none⟩] [0,2,3]) c71_23
abbrev c71_25:AC:=.seq (.ops 0 [⟨some 2,.al [.int .u64 0,.int .u64 0,.int .u64 0,.int .u64 0],none⟩] [0,2]) c71_24
abbrev c71:AC:=c71_25
theorem c71_ok:compileFn Tryz.prog 71 = some (88,AC.strip c71,[.c 2 4 true]):=by kernel_rfl
abbrev c91_0:AC:=.seq (.ops 0 [⟨some 14,.ld (.t 4) 4 true,none⟩,⟨none,.st (.t 2) (.t 14) 4,none⟩,⟨some 3,.as 0 0 (.k (.lf (.int .i64 0))),none⟩] [2,3]) .ret
abbrev c91_1:AC:=.cond (.t 13) c91_0 .skip
abbrev c91_2:AC:=.seq (.ops 0 [⟨some 13,.mv (.t 5),none⟩] [0,2,4,13]) c91_1
abbrev c91_3:AC:=.seq (.ops 0 [⟨some 9,.mv (.t 0),none⟩,⟨some 10,.call 104 [(.t 9)],none⟩,⟨some 8,.mv (.t 10),none⟩,⟨some 11,.ext (.t 8) 0,none⟩,⟨some 12,.ext (.t 8) 1,none⟩,⟨some 4,.al [.int .u64 0,.int .u64 0,.int .u64 0,.int .u64 0],none⟩,⟨none,.st (.t 4) (.t 11) 4,none⟩,⟨some 5,.as 0 0 (.t 12),none⟩] [0,2,4,5]) c91_2
abbrev c91_4:AC:=.seq (.ops 0 [⟨some 28,.ld (.t 6) 4 true,none⟩,⟨some 29,.call 60 [(.t 28)],none⟩,⟨none,.st (.t 2) (.t 29) 4,none⟩,⟨some 3,.as 0 0 (.k (.lf (.int .i64 0))),none⟩] [2,3]) .ret
abbrev c91_5:AC:=.cond (.t 27) c91_4 .skip
abbrev c91_6:AC:=.seq (.ops 0 [⟨some 27,.mv (.t 7),none⟩] [2,6,27]) c91_5
abbrev c91_7:AC:=.seq (.ops 0 [⟨some 22,.mv (.t 0),none⟩,⟨some 23,.bin .add (.t 22) (.k (.lf (.int .u8 32))),none⟩,⟨some 24,.call 104 [(.t 23)],none⟩,⟨some 21,.mv (.t 24),none⟩,⟨some 25,.ext (.t 21) 0,none⟩,⟨some 26,.ext (.t 21) 1,none⟩,⟨some 6,.al [.int .u64 0,.int .u64 0,.int .u64 0,.int .u64 0],none⟩,⟨none,.st (.t 6) (.t 25) 4,none⟩,⟨some 7,.as 0 0 (.t 26),none⟩] [2,6,7]) c91_6
abbrev c91_8:AC:=.cond (.t 20) c91_7 .skip
abbrev c91_9:AC:=.seq (.ops 0 [⟨some 15,.mv (.t 0),none⟩,⟨some 16,.bin .geq (.t 15) (.k (.lf (.int .u8 65))),none⟩,⟨some 17,.mv (.t 16),none⟩,⟨some 18,.mv (.t 0),some (17,true)⟩,⟨some 19,.bin .leq (.t 18) (.k (.lf (.int .u8 90))),some (17,true)⟩,⟨some 20,.pk (.t 17) (.t 19) (.k (.lf (.bool false))),none⟩] [0,2,20]) c91_8
abbrev c91_10:AC:=.seq (.ops 0 [⟨some 30,.bd [.int .u64 0,.int .u64 0,.int .u64 0,.int .u64 0] [],none⟩,⟨none,.st (.t 2) (.t 30) 4,none⟩,⟨some 3,.as 0 0 (.k (.lf (.int .i64 10))),none⟩] [2,3]) .ret
abbrev c91_11:AC:=.seq c91_9 c91_10
abbrev c91_12:AC:=.seq c91_3 c91_11
abbrev c91_13:AC:=.seq (.ops 0 [⟨some 2,.al [.int .u64 0,.int .u64 0,.int .u64 0,.int .u64 0],none⟩,⟨some 3,.as 0 0 (.k (.lf (.int .i64 0))),none⟩] [0,2]) c91_12
abbrev c91:AC:=c91_13
theorem c91_ok:compileFn Tryz.prog 91 = some (31,AC.strip c91,[.c 2 4 true,.t 3]):=by kernel_rfl
abbrev c92_0:AC:=.cond (.t 11) (.ops 0 [⟨some 12,.mv (.t 0),none⟩,⟨some 13,.mv (.t 1),none⟩,⟨some 14,.mv (.t 2),none⟩,⟨some 15,.bd [.int .i64 0,.int .i64 0] [(0,1,(.t 13)),(1,1,(.t 14))],none⟩,⟨some 16,.nc (.t 12),none⟩,⟨some 17,.fa (.t 16) 2,none⟩,⟨none,.st (.t 17) (.t 15) 2,none⟩] []) .skip
abbrev c92_1:AC:=.seq (.ops 0 [⟨some 6,.mv (.t 0),none⟩,⟨some 7,.nc (.t 6),none⟩,⟨some 8,.fa (.t 7) 2,none⟩,⟨some 9,.fa (.t 8) 1,none⟩,⟨some 10,.ld (.t 9) 1 false,none⟩,⟨some 11,.bin .eql (.t 10) (.k (.lf (.int .i64 0))),none⟩] [0,1,2,11]) c92_0
abbrev c92:AC:=c92_1
theorem c92_ok:compileFn Tryz.prog 92 = some (18,AC.strip c92,[]):=by kernel_rfl
abbrev c93_0:AC:=.seq (.ops 0 [⟨some 9,.mv (.t 0),none⟩,⟨some 10,.callp 105 0 [(.t 9)],none⟩,⟨some 2,.as 0 0 (.t 10),none⟩] [2]) .ret
abbrev c93_1:AC:=.seq (.ops 0 [⟨some 2,.as 0 0 (.k (.lf (.int .i64 0))),none⟩] [2]) .ret
abbrev c93_2:AC:=.seq (.ops 0 [⟨some 30,.mv (.t 0),none⟩,⟨some 31,.mv (.t 0),none⟩,⟨some 32,.nc (.t 31),none⟩,⟨some 33,.fa (.t 32) 1,none⟩,⟨some 34,.ld (.t 33) 1 false,none⟩,⟨some 35,.callp 92 0 [(.t 30),(.t 34),(.k (.lf (.int .i64 6)))],none⟩] []) c93_1
abbrev c93_3:AC:=.cond (.t 11) c93_2 .skip
abbrev c93_4:AC:=.seq (.ops 0 [⟨some 12,.mv (.t 3),none⟩,⟨some 13,.bin .lss (.t 12) (.k (.lf (.int .i64 32))),none⟩,⟨some 14,.mv (.t 13),none⟩,⟨some 15,.mv (.t 3),some (14,false)⟩,⟨some 16,.bin .gtr (.t 15) (.k (.lf (.int .i64 126))),some (14,false)⟩,⟨some 17,.pk (.t 14) (.k (.lf (.bool true))) (.t 16),none⟩,⟨some 18,.mv (.t 17),none⟩,⟨some 19,.mv (.t 3),some (18,false)⟩,⟨some 20,.bin .eql (.t 19) (.k (.lf (.int .i64 93))),some (18,false)⟩,⟨some 21,.pk (.t 18) (.k (.lf (.bool true))) (.t 20),none⟩,⟨some 22,.mv (.t 21),none⟩,⟨some 23,.mv (.t 3),some (22,false)⟩,⟨some 24,.bin .eql (.t 23) (.k (.lf (.int .i64 45))),some (22,false)⟩,⟨some 25,.pk (.t 22) (.k (.lf (.bool true))) (.t 24),none⟩,⟨some 26,.mv (.t 25),none⟩,⟨some 27,.mv (.t 3),some (26,false)⟩,⟨some 28,.bin .eql (.t 27) (.k (.lf (.int .i64 37))),some (26,false)⟩,⟨some 29,.pk (.t 26) (.k (.lf (.bool true))) (.t 28),none⟩,⟨some 11,.as 0 0 (.t 29),none⟩] [0,3,11]) c93_3
abbrev c93_5:AC:=.cond (.t 6) c93_0 c93_4
abbrev c93_6:AC:=.seq (.ops 0 [⟨some 7,.mv (.t 3),none⟩,⟨some 8,.bin .eql (.t 7) (.k (.lf (.int .i64 92))),none⟩,⟨some 6,.as 0 0 (.t 8),none⟩] [0,3,6]) c93_5
abbrev c93_7:AC:=.block 0 c93_6
abbrev c93_8:AC:=.seq (.ops 0 [⟨some 43,.mv (.t 3),none⟩,⟨some 2,.as 0 0 (.t 43),none⟩] [2]) .ret
abbrev c93_9:AC:=.seq (.ops 0 [⟨some 36,.mv (.t 0),none⟩,⟨some 37,.nc (.t 36),none⟩,⟨some 38,.fa (.t 37) 1,none⟩,⟨some 39,.ld (.t 38) 1 false,none⟩,⟨some 40,.bin .add (.t 39) (.k (.lf (.int .i64 1))),none⟩,⟨some 41,.nc (.t 36),none⟩,⟨some 42,.fa (.t 41) 1,none⟩,⟨none,.st (.t 42) (.t 40) 1,none⟩] [3]) c93_8
abbrev c93_10:AC:=.seq c93_7 c93_9
abbrev c93_11:AC:=.seq (.ops 0 [⟨some 4,.mv (.t 0),none⟩,⟨some 5,.callp 69 0 [(.t 4)],none⟩,⟨some 3,.as 0 0 (.t 5),none⟩] [0,3]) c93_10
abbrev c93_12:AC:=.seq (.ops 0 [⟨some 2,.as 0 0 (.k (.lf (.int .i64 0))),none⟩] [0]) c93_11
abbrev c93:AC:=c93_12
theorem c93_ok:compileFn Tryz.prog 93 = some (44,AC.strip c93,[.t 2]):=by kernel_rfl
abbrev c94_0:AC:=.cond (.t 10) .skip (.exit 0)
abbrev c94_1:AC:=.seq (.ops 0 [⟨some 8,.mv (.t 6),none⟩,⟨some 9,.mv (.t 1),none⟩,⟨some 10,.bin .leq (.t 8) (.t 9),none⟩] [1,4,5,6,10]) c94_0
abbrev c94_2:AC:=.block 1 (.ops 0 [⟨some 13,.ld (.t 5) 4 true,none⟩,⟨some 14,.mv (.t 6),none⟩,⟨some 15,.call 106 [(.t 13),(.t 14)],none⟩,⟨none,.st (.t 5) (.t 15) 4,none⟩] [1,4,5,6])
abbrev c94_3:AC:=.seq c94_2 (.ops 0 [⟨some 11,.mv (.t 6),none⟩,⟨some 12,.bin .add (.t 11) (.k (.lf (.int .i64 1))),none⟩,⟨some 6,.as 0 0 (.t 12),none⟩] [1,4,5,6])
abbrev c94_4:AC:=.seq c94_1 c94_3
abbrev c94_5:AC:=.loop c94_4 [1,4,5,6]
abbrev c94_6:AC:=.block 0 c94_5
abbrev c94_7:AC:=.seq (.ops 0 [⟨some 7,.mv (.t 0),none⟩,⟨some 6,.as 0 0 (.t 7),none⟩] [1,4,5,6]) c94_6
abbrev c94_8:AC:=.seq (.ops 0 [⟨some 16,.ld (.t 5) 4 true,none⟩,⟨none,.st (.t 4) (.t 16) 4,none⟩] [4]) .ret
abbrev c94_9:AC:=.seq c94_7 c94_8
abbrev c94_10:AC:=.seq (.ops 0 [⟨some 5,.al [.int .u64 0,.int .u64 0,.int .u64 0,.int .u64 0],none⟩] [0,1,4,5]) c94_9
abbrev c94_11:AC:=.seq (.ops 0 [⟨some 4,.al [.int .u64 0,.int .u64 0,.int .u64 0,.int .u64 0],none⟩] [0,1,4]) c94_10
abbrev c94:AC:=c94_11
theorem c94_ok:compileFn Tryz.prog 94 = some (17,AC.strip c94,[.c 4 4 true]):=by kernel_rfl
abbrev c104_0:AC:=.seq (.ops 0 [⟨some 17,.ld (.t 7) 4 true,none⟩,⟨none,.st (.t 2) (.t 17) 4,none⟩,⟨some 3,.as 0 0 (.k (.lf (.bool true))),none⟩] [2,3]) .ret
abbrev c104_1:AC:=.seq (.ops 0 [⟨some 20,.call 94 [(.k (.lf (.int .i64 0))),(.k (.lf (.int .i64 31)))],none⟩,⟨some 21,.call 106 [(.t 20),(.k (.lf (.int .i64 127)))],none⟩,⟨none,.st (.t 2) (.t 21) 4,none⟩,⟨some 3,.as 0 0 (.k (.lf (.bool true))),none⟩] [2,3]) .ret
abbrev c104_2:AC:=.seq (.ops 0 [⟨some 24,.ld (.t 6) 4 true,none⟩,⟨none,.st (.t 2) (.t 24) 4,none⟩,⟨some 3,.as 0 0 (.k (.lf (.bool true))),none⟩] [2,3]) .ret
abbrev c104_3:AC:=.seq (.ops 0 [⟨some 27,.call 94 [(.k (.lf (.int .i64 33))),(.k (.lf (.int .i64 126)))],none⟩,⟨none,.st (.t 2) (.t 27) 4,none⟩,⟨some 3,.as 0 0 (.k (.lf (.bool true))),none⟩] [2,3]) .ret
abbrev c104_4:AC:=.seq (.ops 0 [⟨some 30,.ld (.t 5) 4 true,none⟩,⟨none,.st (.t 2) (.t 30) 4,none⟩,⟨some 3,.as 0 0 (.k (.lf (.bool true))),none⟩] [2,3]) .ret
abbrev c104_5:AC:=.seq (.gdr [7,6] [⟨some 34,.ld (.t 7) 4 true,none⟩,⟨some 35,.ld (.t 6) 4 true,none⟩] [⟨some 33,.call 94 [(.k (.lf (.int .i64 33))),(.k (.lf (.int .i64 126)))],none⟩,⟨some 36,.call 70 [(.t 34),(.t 35)],none⟩,⟨some 37,.call 110 [(.t 33),(.t 36)],none⟩,⟨none,.st (.t 2) (.t 37) 4,none⟩,⟨some 3,.as 0 0 (.k (.lf (.bool true))),none⟩] [2,3]) .ret
abbrev c104_6:AC:=.seq (.ops 0 [⟨some 40,.call 94 [(.k (.lf (.int .i64 9))),(.k (.lf (.int .i64 13)))],none⟩,⟨some 41,.call 106 [(.t 40),(.k (.lf (.int .i64 32)))],none⟩,⟨none,.st (.t 2) (.t 41) 4,none⟩,⟨some 3,.as 0 0 (.k (.lf (.bool true))),none⟩] [2,3]) .ret
abbrev c104_7:AC:=.seq (.ops 0 [⟨some 44,.ld (.t 4) 4 true,none⟩,⟨none,.st (.t 2) (.t 44) 4,none⟩,⟨some 3,.as 0 0 (.k (.lf (.bool true))),none⟩] [2,3]) .ret
abbrev c104_8:AC:=.seq (.ops 0 [⟨some 47,.ld (.t 7) 4 true,none⟩,⟨some 48,.ld (.t 6) 4 true,none⟩,⟨some 49,.call 70 [(.t 47),(.t 48)],none⟩,⟨none,.st (.t 2) (.t 49) 4,none⟩,⟨some 3,.as 0 0 (.k (.lf (.bool true))),none⟩] [2,3]) .ret
abbrev c104_9:AC:=.seq (.gdr [6] [⟨some 52,.ld (.t 6) 4 true,none⟩] [⟨some 53,.call 94 [(.k (.lf (.int .i64 65))),(.k (.lf (.int .i64 70)))],none⟩,⟨some 54,.call 94 [(.k (.lf (.int .i64 97))),(.k (.lf (.int .i64 102)))],none⟩,⟨some 55,.call 70 [(.t 53),(.t 54)],none⟩,⟨some 56,.call 70 [(.t 52),(.t 55)],none⟩,⟨none,.st (.t 2) (.t 56) 4,none⟩,⟨some 3,.as 0 0 (.k (.lf (.bool true))),none⟩] [2,3]) .ret
abbrev c104_10:AC:=.cond (.t 50) c104_9 .skip
abbrev c104_11:AC:=.seq (.ops 0 [⟨some 51,.bin .eql (.t 14) (.k (.lf (.int .u8 120))),none⟩,⟨some 50,.as 0 0 (.t 51),none⟩] [2,6,50]) c104_10
abbrev c104_12:AC:=.cond (.t 45) c104_8 c104_11
abbrev c104_13:AC:=.seq (.ops 0 [⟨some 46,.bin .eql (.t 14) (.k (.lf (.int .u8 119))),none⟩,⟨some 45,.as 0 0 (.t 46),none⟩] [2,6,7,14,45]) c104_12
abbrev c104_14:AC:=.cond (.t 42) c104_7 c104_13
abbrev c104_15:AC:=.seq (.ops 0 [⟨some 43,.bin .eql (.t 14) (.k (.lf (.int .u8 117))),none⟩,⟨some 42,.as 0 0 (.t 43),none⟩] [2,4,6,7,14,42]) c104_14
abbrev c104_16:AC:=.cond (.t 38) c104_6 c104_15
abbrev c104_17:AC:=.seq (.ops 0 [⟨some 39,.bin .eql (.t 14) (.k (.lf (.int .u8 115))),none⟩,⟨some 38,.as 0 0 (.t 39),none⟩] [2,4,6,7,14,38]) c104_16
abbrev c104_18:AC:=.cond (.t 31) c104_5 c104_17
abbrev c104_19:AC:=.seq (.ops 0 [⟨some 32,.bin .eql (.t 14) (.k (.lf (.int .u8 112))),none⟩,⟨some 31,.as 0 0 (.t 32),none⟩] [2,4,6,7,14,31]) c104_18
abbrev c104_20:AC:=.cond (.t 28) c104_4 c104_19
abbrev c104_21:AC:=.seq (.ops 0 [⟨some 29,.bin .eql (.t 14) (.k (.lf (.int .u8 108))),none⟩,⟨some 28,.as 0 0 (.t 29),none⟩] [2,4,5,6,7,14,28]) c104_20
abbrev c104_22:AC:=.cond (.t 25) c104_3 c104_21
abbrev c104_23:AC:=.seq (.ops 0 [⟨some 26,.bin .eql (.t 14) (.k (.lf (.int .u8 103))),none⟩,⟨some 25,.as 0 0 (.t 26),none⟩] [2,4,5,6,7,14,25]) c104_22
abbrev c104_24:AC:=.cond (.t 22) c104_2 c104_23
abbrev c104_25:AC:=.seq (.ops 0 [⟨some 23,.bin .eql (.t 14) (.k (.lf (.int .u8 100))),none⟩,⟨some 22,.as 0 0 (.t 23),none⟩] [2,4,5,6,7,14,22]) c104_24
abbrev c104_26:AC:=.cond (.t 18) c104_1 c104_25
abbrev c104_27:AC:=.seq (.ops 0 [⟨some 19,.bin .eql (.t 14) (.k (.lf (.int .u8 99))),none⟩,⟨some 18,.as 0 0 (.t 19),none⟩] [2,4,5,6,7,14,18]) c104_26
abbrev c104_28:AC:=.cond (.t 15) c104_0 c104_27
abbrev c104_29:AC:=.seq (.ops 0 [⟨some 16,.bin .eql (.t 14) (.k (.lf (.int .u8 97))),none⟩,⟨some 15,.as 0 0 (.t 16),none⟩] [2,4,5,6,7,14,15]) c104_28
abbrev c104_30:AC:=.block 0 c104_29
abbrev c104_31:AC:=.seq (.ops 0 [⟨some 14,.mv (.t 0),none⟩] [2,4,5,6,7,14]) c104_30
abbrev c104_32:AC:=.seq (.ops 0 [⟨some 57,.bd [.int .u64 0,.int .u64 0,.int .u64 0,.int .u64 0] [],none⟩,⟨none,.st (.t 2) (.t 57) 4,none⟩,⟨some 3,.as 0 0 (.k (.lf (.bool false))),none⟩] [2,3]) .ret
abbrev c104_33:AC:=.seq c104_31 c104_32
abbrev c104_34:AC:=.seq (.ops 0 [⟨some 11,.ld (.t 4) 4 true,none⟩,⟨some 12,.ld (.t 5) 4 true,none⟩,⟨some 13,.call 70 [(.t 11),(.t 12)],none⟩,⟨some 7,.al [.int .u64 0,.int .u64 0,.int .u64 0,.int .u64 0],none⟩,⟨none,.st (.t 7) (.t 13) 4,none⟩] [0,2,4,5,6,7]) c104_33
abbrev c104_35:AC:=.seq (.ops 0 [⟨some 8,.call 94 [(.k (.lf (.int .i64 65))),(.k (.lf (.int .i64 90)))],none⟩,⟨some 9,.call 94 [(.k (.lf (.int .i64 97))),(.k (.lf (.int .i64 122)))],none⟩,⟨some 10,.call 94 [(.k (.lf (.int .i64 48))),(.k (.lf (.int .i64 57)))],none⟩,⟨some 4,.al [.int .u64 0,.int .u64 0,.int .u64 0,.int .u64 0],none⟩,⟨some 5,.al [.int .u64 0,.int .u64 0,.int .u64 0,.int .u64 0],none⟩,⟨some 6,.al [.int .u64 0,.int .u64 0,.int .u64 0,.int .u64 0],none⟩,⟨none,.st (.t 4) (.t 8) 4,none⟩,⟨none,.st (.t 5) (.t 9) 4,none⟩,⟨none,.st (.t 6) (.t 10) 4,none⟩] [0,2,4,5,6]) c104_34
abbrev c104_36:AC:=.seq (.ops 0 [⟨some 2,.al [.int .u64 0,.int .u64 0,.int .u64 0,.int .u64 0],none⟩,⟨some 3,.as 0 0 (.k (.lf (.bool false))),none⟩] [0,2]) c104_35
abbrev c104:AC:=c104_36
theorem c104_ok:compileFn Tryz.prog 104 = some (58,AC.strip c104,[.c 2 4 true,.t 3]):=by kernel_rfl
abbrev c105_0:AC:=.seq (.ops 0 [⟨some 2,.as 0 0 (.k (.lf (.int .i64 10))),none⟩] [2]) .ret
abbrev c105_1:AC:=.seq (.ops 0 [⟨some 2,.as 0 0 (.k (.lf (.int .i64 13))),none⟩] [2]) .ret
abbrev c105_2:AC:=.seq (.ops 0 [⟨some 2,.as 0 0 (.k (.lf (.int .i64 9))),none⟩] [2]) .ret
abbrev c105_3:AC:=.cond (.t 34) .skip (.ops 0 [⟨some 40,.bin .eql (.t 27) (.k (.lf (.int .i64 37))),none⟩,⟨some 34,.as 0 0 (.t 40),none⟩] [0,3,4,27,34])
abbrev c105_4:AC:=.seq (.ops 0 [⟨some 39,.bin .eql (.t 27) (.k (.lf (.int .i64 45))),none⟩,⟨some 34,.as 0 0 (.t 39),none⟩] [0,3,4,27,34]) c105_3
abbrev c105_5:AC:=.cond (.t 34) .skip c105_4
abbrev c105_6:AC:=.seq (.ops 0 [⟨some 38,.bin .eql (.t 27) (.k (.lf (.int .i64 94))),none⟩,⟨some 34,.as 0 0 (.t 38),none⟩] [0,3,4,27,34]) c105_5
abbrev c105_7:AC:=.cond (.t 34) .skip c105_6
abbrev c105_8:AC:=.seq (.ops 0 [⟨some 37,.bin .eql (.t 27) (.k (.lf (.int .i64 91))),none⟩,⟨some 34,.as 0 0 (.t 37),none⟩] [0,3,4,27,34]) c105_7
abbrev c105_9:AC:=.cond (.t 34) .skip c105_8
abbrev c105_10:AC:=.seq (.ops 0 [⟨some 36,.bin .eql (.t 27) (.k (.lf (.int .i64 93))),none⟩,⟨some 34,.as 0 0 (.t 36),none⟩] [0,3,4,27,34]) c105_9
abbrev c105_11:AC:=.cond (.t 34) .skip c105_10
abbrev c105_12:AC:=.seq (.ops 0 [⟨some 35,.bin .eql (.t 27) (.k (.lf (.int .i64 92))),none⟩,⟨some 34,.as 0 0 (.t 35),none⟩] [0,3,4,27,34]) c105_11
abbrev c105_13:AC:=.seq (.ops 0 [⟨some 41,.mv (.t 4),none⟩,⟨some 2,.as 0 0 (.t 41),none⟩] [2]) .ret
abbrev c105_14:AC:=.seq (.ops 0 [⟨some 89,.mv (.t 5),none⟩,⟨some 90,.bin .mul (.k (.lf (.int .i64 16))) (.t 89),none⟩,⟨some 91,.mv (.t 6),none⟩,⟨some 92,.bin .add (.t 90) (.t 91),none⟩,⟨some 2,.as 0 0 (.t 92),none⟩] [2]) .ret
abbrev c105_15:AC:=.seq (.ops 0 [⟨some 82,.mv (.t 0),none⟩,⟨some 83,.nc (.t 82),none⟩,⟨some 84,.fa (.t 83) 1,none⟩,⟨some 85,.ld (.t 84) 1 false,none⟩,⟨some 86,.bin .add (.t 85) (.k (.lf (.int .i64 2))),none⟩,⟨some 87,.nc (.t 82),none⟩,⟨some 88,.fa (.t 87) 1,none⟩,⟨none,.st (.t 88) (.t 86) 1,none⟩] [5,6]) c105_14
abbrev c105_16:AC:=.cond (.t 81) c105_15 .skip
abbrev c105_17:AC:=.seq (.ops 0 [⟨some 76,.mv (.t 5),none⟩,⟨some 77,.bin .geq (.t 76) (.k (.lf (.int .i64 0))),none⟩,⟨some 78,.mv (.t 77),none⟩,⟨some 79,.mv (.t 6),some (78,true)⟩,⟨some 80,.bin .geq (.t 79) (.k (.lf (.int .i64 0))),some (78,true)⟩,⟨some 81,.pk (.t 78) (.t 80) (.k (.lf (.bool false))),none⟩] [0,3,5,6,81]) c105_16
abbrev c105_18:AC:=.seq (.ops 1 [⟨some 55,.mv (.t 0),none⟩,⟨some 56,.nc (.t 55),none⟩,⟨some 57,.fa (.t 56) 0,none⟩,⟨some 58,.ld (.t 57) 1 false,none⟩,⟨some 59,.mv (.t 0),none⟩,⟨some 60,.nc (.t 59),none⟩,⟨some 61,.fa (.t 60) 1,none⟩,⟨some 62,.ld (.t 61) 1 false,none⟩,⟨some 63,.ixs (.t 58) (.t 62),none⟩,⟨some 64,.call 111 [(.t 63)],none⟩,⟨some 65,.mv (.t 0),none⟩,⟨some 66,.nc (.t 65),none⟩,⟨some 67,.fa (.t 66) 0,none⟩,⟨some 68,.ld (.t 67) 1 false,none⟩,⟨some 69,.mv (.t 0),none⟩,⟨some 70,.nc (.t 69),none⟩,⟨some 71,.fa (.t 70) 1,none⟩,⟨some 72,.ld (.t 71) 1 false,none⟩,⟨some 73,.bin .add (.t 72) (.k (.lf (.int .i64 1))),none⟩,⟨some 74,.ixs (.t 68) (.t 73),none⟩,⟨some 75,.call 111 [(.t 74)],none⟩,⟨some 5,.as 0 0 (.t 64),none⟩,⟨some 6,.as 0 0 (.t 75),none⟩] [0,3,5,6]) c105_17
abbrev c105_19:AC:=.cond (.t 54) c105_18 .skip
abbrev c105_20:AC:=.seq (.ops 2 [⟨some 44,.mv (.t 0),none⟩,⟨some 45,.nc (.t 44),none⟩,⟨some 46,.fa (.t 45) 1,none⟩,⟨some 47,.ld (.t 46) 1 false,none⟩,⟨some 48,.bin .add (.t 47) (.k (.lf (.int .i64 1))),none⟩,⟨some 49,.mv (.t 0),none⟩,⟨some 50,.nc (.t 49),none⟩,⟨some 51,.fa (.t 50) 0,none⟩,⟨some 52,.ld (.t 51) 1 false,none⟩,⟨some 53,.lns (.t 52),none⟩,⟨some 54,.bin .lss (.t 48) (.t 53),none⟩] [0,3,54]) c105_19
abbrev c105_21:AC:=.cond (.t 42) c105_20 .skip
abbrev c105_22:AC:=.seq (.ops 0 [⟨some 43,.bin .eql (.t 27) (.k (.lf (.int .i64 120))),none⟩,⟨some 42,.as 0 0 (.t 43),none⟩] [0,3,42]) c105_21
abbrev c105_23:AC:=.cond (.t 34) c105_13 c105_22
abbrev c105_24:AC:=.seq c105_12 c105_23
abbrev c105_25:AC:=.cond (.t 32) c105_2 c105_24
abbrev c105_26:AC:=.seq (.ops 0 [⟨some 33,.bin .eql (.t 27) (.k (.lf (.int .i64 116))),none⟩,⟨some 32,.as 0 0 (.t 33),none⟩] [0,3,4,27,32]) c105_25
abbrev c105_27:AC:=.cond (.t 30) c105_1 c105_26
abbrev c105_28:AC:=.seq (.ops 0 [⟨some 31,.bin .eql (.t 27) (.k (.lf (.int .i64 114))),none⟩,⟨some 30,.as 0 0 (.t 31),none⟩] [0,3,4,27,30]) c105_27
abbrev c105_29:AC:=.cond (.t 28) c105_0 c105_28
abbrev c105_30:AC:=.seq (.ops 0 [⟨some 29,.bin .eql (.t 27) (.k (.lf (.int .i64 110))),none⟩,⟨some 28,.as 0 0 (.t 29),none⟩] [0,3,4,27,28]) c105_29
abbrev c105_31:AC:=.block 0 c105_30
abbrev c105_32:AC:=.seq (.ops 0 [⟨some 27,.mv (.t 4),none⟩] [0,3,4,27]) c105_31
abbrev c105_33:AC:=.seq (.ops 0 [⟨some 2,.as 0 0 (.k (.lf (.int .i64 0))),none⟩] [2]) .ret
abbrev c105_34:AC:=.seq (.ops 0 [⟨some 93,.mv (.t 0),none⟩,⟨some 94,.mv (.t 3),none⟩,⟨some 95,.callp 92 0 [(.t 93),(.t 94),(.k (.lf (.int .i64 6)))],none⟩] []) c105_33
abbrev c105_35:AC:=.seq c105_32 c105_34
abbrev c105_36:AC:=.seq (.ops 0 [⟨some 20,.mv (.t 0),none⟩,⟨some 21,.nc (.t 20),none⟩,⟨some 22,.fa (.t 21) 1,none⟩,⟨some 23,.ld (.t 22) 1 false,none⟩,⟨some 24,.bin .add (.t 23) (.k (.lf (.int .i64 1))),none⟩,⟨some 25,.nc (.t 20),none⟩,⟨some 26,.fa (.t 25) 1,none⟩,⟨none,.st (.t 26) (.t 24) 1,none⟩] [0,3,4]) c105_35
abbrev c105_37:AC:=.seq (.ops 0 [⟨some 18,.mv (.t 0),none⟩,⟨some 19,.callp 69 0 [(.t 18)],none⟩,⟨some 4,.as 0 0 (.t 19),none⟩] [0,3,4]) c105_36
abbrev c105_38:AC:=.seq (.ops 0 [⟨some 11,.mv (.t 0),none⟩,⟨some 12,.nc (.t 11),none⟩,⟨some 13,.fa (.t 12) 1,none⟩,⟨some 14,.ld (.t 13) 1 false,none⟩,⟨some 15,.bin .add (.t 14) (.k (.lf (.int .i64 1))),none⟩,⟨some 16,.nc (.t 11),none⟩,⟨some 17,.fa (.t 16) 1,none⟩,⟨none,.st (.t 17) (.t 15) 1,none⟩] [0,3]) c105_37
abbrev c105_39:AC:=.seq (.ops 0 [⟨some 7,.mv (.t 0),none⟩,⟨some 8,.nc (.t 7),none⟩,⟨some 9,.fa (.t 8) 1,none⟩,⟨some 10,.ld (.t 9) 1 false,none⟩,⟨some 3,.as 0 0 (.t 10),none⟩] [0,3]) c105_38
abbrev c105_40:AC:=.seq (.ops 0 [⟨some 2,.as 0 0 (.k (.lf (.int .i64 0))),none⟩] [0]) c105_39
abbrev c105:AC:=c105_40
theorem c105_ok:compileFn Tryz.prog 105 = some (96,AC.strip c105,[.t 2]):=by kernel_rfl
abbrev c106_0:AC:=.seq (.ops 0 [⟨some 14,.ld (.t 2) 4 true,none⟩,⟨none,.st (.t 4) (.t 14) 4,none⟩] [4]) .ret
abbrev c106_1:AC:=.seq (.ops 1 [⟨some 5,.mv (.t 1),none⟩,⟨some 6,.bin .quo (.t 5) (.k (.lf (.int .i64 64))),none⟩,⟨some 7,.iaa (.t 2) (.t 6) 4 1,none⟩,⟨some 8,.ld (.t 7) 1 false,none⟩,⟨some 9,.mv (.t 1),none⟩,⟨some 10,.bin .rem (.t 9) (.k (.lf (.int .i64 64))),none⟩,⟨some 11,.bin .shl (.k (.lf (.int .u64 1))) (.t 10),none⟩,⟨some 12,.bin .or (.t 8) (.t 11),none⟩,⟨some 13,.iaa (.t 2) (.t 6) 4 1,none⟩,⟨none,.st (.t 13) (.t 12) 1,none⟩] [2,4]) c106_0
abbrev c106_2:AC:=.seq (.ops 0 [⟨some 2,.bx (.t 0),none⟩,⟨some 4,.al [.int .u64 0,.int .u64 0,.int .u64 0,.int .u64 0],none⟩] [1,2,4]) c106_1
abbrev c106:AC:=c106_2
theorem c106_ok:compileFn Tryz.prog 106 = some (15,AC.strip c106,[.c 4 4 true]):=by kernel_rfl
abbrev c110_0:AC:=.cond (.t 7) .skip (.exit 0)
abbrev c110_1:AC:=.seq (.ops 0 [⟨some 8,.mv (.t 6),none⟩,⟨some 5,.as 0 0 (.t 8),none⟩] [2,3,4,5,6]) (.ops 1 [⟨some 9,.mv (.t 5),none⟩,⟨some 10,.iaa (.t 2) (.t 9) 4 1,none⟩,⟨some 11,.ld (.t 10) 1 false,none⟩,⟨some 12,.mv (.t 5),none⟩,⟨some 13,.iaa (.t 3) (.t 12) 4 1,none⟩,⟨some 14,.ld (.t 13) 1 false,none⟩,⟨some 15,.bin .andNot (.t 11) (.t 14),none⟩,⟨some 16,.iaa (.t 2) (.t 9) 4 1,none⟩,⟨none,.st (.t 16) (.t 15) 1,none⟩] [2,3,4,6])
abbrev c110_2:AC:=.block 1 c110_1
abbrev c110_3:AC:=.seq c110_2 (.ops 0 [⟨some 17,.bin .add (.t 6) (.k (.lf (.int .i64 1))),none⟩,⟨some 6,.mv (.t 17),none⟩] [2,3,4,6])
abbrev c110_4:AC:=.seq c110_0 c110_3
abbrev c110_5:AC:=.seq (.ops 0 [⟨some 7,.bin .lss (.t 6) (.k (.lf (.int .i64 4))),none⟩] [2,3,4,6,7]) c110_4
abbrev c110_6:AC:=.loop c110_5 [2,3,4,6]
abbrev c110_7:AC:=.block 0 c110_6
abbrev c110_8:AC:=.seq (.ops 0 [⟨some 6,.mv (.k (.lf (.int .i64 0))),none⟩] [2,3,4,6]) c110_7
abbrev c110_9:AC:=.seq (.ops 0 [⟨some 18,.ld (.t 2) 4 true,none⟩,⟨none,.st (.t 4) (.t 18) 4,none⟩] [4]) .ret
abbrev c110_10:AC:=.seq c110_8 c110_9
abbrev c110_11:AC:=.seq (.ops 0 [⟨some 2,.bx (.t 0),none⟩,⟨some 3,.bx (.t 1),none⟩,⟨some 4,.al [.int .u64 0,.int .u64 0,.int .u64 0,.int .u64 0],none⟩] [2,3,4]) c110_10
abbrev c110:AC:=c110_11
theorem c110_ok:compileFn Tryz.prog 110 = some (19,AC.strip c110,[.c 4 4 true]):=by kernel_rfl
abbrev c111_0:AC:=.seq (.ops 0 [⟨some 10,.mv (.t 0),none⟩,⟨some 11,.bin .sub (.t 10) (.k (.lf (.int .u8 48))),none⟩,⟨some 12,.cvi .i64 (.t 11),none⟩,⟨some 2,.as 0 0 (.t 12),none⟩] [2]) .ret
abbrev c111_1:AC:=.seq (.ops 0 [⟨some 20,.mv (.t 0),none⟩,⟨some 21,.bin .sub (.t 20) (.k (.lf (.int .u8 97))),none⟩,⟨some 22,.cvi .i64 (.t 21),none⟩,⟨some 23,.bin .add (.t 22) (.k (.lf (.int .i64 10))),none⟩,⟨some 2,.as 0 0 (.t 23),none⟩] [2]) .ret
abbrev c111_2:AC:=.cond (.t 13) c111_1 .skip
abbrev c111_3:AC:=.seq (.ops 0 [⟨some 14,.mv (.t 0),none⟩,⟨some 15,.bin .geq (.t 14) (.k (.lf (.int .u8 97))),none⟩,⟨some 16,.mv (.t 15),none⟩,⟨some 17,.mv (.t 0),some (16,true)⟩,⟨some 18,.bin .leq (.t 17) (.k (.lf (.int .u8 102))),some (16,true)⟩,⟨some 19,.pk (.t 16) (.t 18) (.k (.lf (.bool false))),none⟩,⟨some 13,.as 0 0 (.t 19),none⟩] [0,13]) c111_2
abbrev c111_4:AC:=.cond (.t 3) c111_0 c111_3
abbrev c111_5:AC:=.seq (.ops 0 [⟨some 4,.mv (.t 0),none⟩,⟨some 5,.bin .geq (.t 4) (.k (.lf (.int .u8 48))),none⟩,⟨some 6,.mv (.t 5),none⟩,⟨some 7,.mv (.t 0),some (6,true)⟩,⟨some 8,.bin .leq (.t 7) (.k (.lf (.int .u8 57))),some (6,true)⟩,⟨some 9,.pk (.t 6) (.t 8) (.k (.lf (.bool false))),none⟩,⟨some 3,.as 0 0 (.t 9),none⟩] [0,3]) c111_4
abbrev c111_6:AC:=.block 0 c111_5
abbrev c111_7:AC:=.seq (.ops 0 [⟨some 2,.as 0 0 (.k (.lf (.int .i64 (-1)))),none⟩] [2]) .ret
abbrev c111_8:AC:=.seq c111_6 c111_7
abbrev c111_9:AC:=.seq (.ops 0 [⟨some 2,.as 0 0 (.k (.lf (.int .i64 0))),none⟩] [0]) c111_8
abbrev c111:AC:=c111_9
theorem c111_ok:compileFn Tryz.prog 111 = some (24,AC.strip c111,[.t 2]):=by kernel_rfl
end Go.Proofs.YthcpaohmajjopaaGreatDoor.I
set_option maxRecDepth 100000
namespace Go.Proofs.YthcpaohmajjopaaGreatDoor.I
open Go Go.Proofs.YthcpaohmajjopaaGreatDoor.AM
abbrev c47_0:AC:=.seq (.ops 0 [⟨some 2,.as 0 0 (.k (.lf (.str ⟨#[92,110]⟩))),none⟩] [2]) .ret
abbrev c47_1:AC:=.seq (.ops 0 [⟨some 2,.as 0 0 (.k (.lf (.str ⟨#[92,114]⟩))),none⟩] [2]) .ret
abbrev c47_2:AC:=.seq (.ops 0 [⟨some 2,.as 0 0 (.k (.lf (.str ⟨#[92,116]⟩))),none⟩] [2]) .ret
abbrev c47_3:AC:=.cond (.t 10) .skip (.ops 0 [⟨some 16,.bin .eql (.t 3) (.k (.lf (.int .i64 37))),none⟩,⟨some 10,.as 0 0 (.t 16),none⟩] [0,10])
abbrev c47_4:AC:=.seq (.ops 0 [⟨some 15,.bin .eql (.t 3) (.k (.lf (.int .i64 45))),none⟩,⟨some 10,.as 0 0 (.t 15),none⟩] [0,3,10]) c47_3
abbrev c47_5:AC:=.cond (.t 10) .skip c47_4
abbrev c47_6:AC:=.seq (.ops 0 [⟨some 14,.bin .eql (.t 3) (.k (.lf (.int .i64 94))),none⟩,⟨some 10,.as 0 0 (.t 14),none⟩] [0,3,10]) c47_5
abbrev c47_7:AC:=.cond (.t 10) .skip c47_6
abbrev c47_8:AC:=.seq (.ops 0 [⟨some 13,.bin .eql (.t 3) (.k (.lf (.int .i64 91))),none⟩,⟨some 10,.as 0 0 (.t 13),none⟩] [0,3,10]) c47_7
abbrev c47_9:AC:=.cond (.t 10) .skip c47_8
abbrev c47_10:AC:=.seq (.ops 0 [⟨some 12,.bin .eql (.t 3) (.k (.lf (.int .i64 93))),none⟩,⟨some 10,.as 0 0 (.t 12),none⟩] [0,3,10]) c47_9
abbrev c47_11:AC:=.cond (.t 10) .skip c47_10
abbrev c47_12:AC:=.seq (.ops 0 [⟨some 11,.bin .eql (.t 3) (.k (.lf (.int .i64 92))),none⟩,⟨some 10,.as 0 0 (.t 11),none⟩] [0,3,10]) c47_11
abbrev c47_13:AC:=.seq (.ops 0 [⟨some 17,.mv (.t 0),none⟩,⟨some 18,.cvi .u8 (.t 17),none⟩,⟨some 19,.bs 5 1 1 [.int .u8 0] [(0,(.t 18))],none⟩,⟨some 20,.cbs (.t 19),none⟩,⟨some 21,.bin .add (.k (.lf (.str ⟨#[92]⟩))) (.t 20),none⟩,⟨some 2,.as 0 0 (.t 21),none⟩] [2]) .ret
abbrev c47_14:AC:=.cond (.t 10) c47_13 .skip
abbrev c47_15:AC:=.seq c47_12 c47_14
abbrev c47_16:AC:=.cond (.t 8) c47_2 c47_15
abbrev c47_17:AC:=.seq (.ops 0 [⟨some 9,.bin .eql (.t 3) (.k (.lf (.int .i64 9))),none⟩,⟨some 8,.as 0 0 (.t 9),none⟩] [0,3,8]) c47_16
abbrev c47_18:AC:=.cond (.t 6) c47_1 c47_17
abbrev c47_19:AC:=.seq (.ops 0 [⟨some 7,.bin .eql (.t 3) (.k (.lf (.int .i64 13))),none⟩,⟨some 6,.as 0 0 (.t 7),none⟩] [0,3,6]) c47_18
abbrev c47_20:AC:=.cond (.t 4) c47_0 c47_19
abbrev c47_21:AC:=.seq (.ops 0 [⟨some 5,.bin .eql (.t 3) (.k (.lf (.int .i64 10))),none⟩,⟨some 4,.as 0 0 (.t 5),none⟩] [0,3,4]) c47_20
abbrev c47_22:AC:=.block 0 c47_21
abbrev c47_23:AC:=.seq (.ops 0 [⟨some 3,.mv (.t 0),none⟩] [0,3]) c47_22
abbrev c47_24:AC:=.seq (.ops 0 [⟨some 28,.mv (.t 0),none⟩,⟨some 29,.cvi .u8 (.t 28),none⟩,⟨some 30,.bs 5 1 1 [.int .u8 0] [(0,(.t 29))],none⟩,⟨some 31,.cbs (.t 30),none⟩,⟨some 2,.as 0 0 (.t 31),none⟩] [2]) .ret
abbrev c47_25:AC:=.cond (.t 27) c47_24 .skip
abbrev c47_26:AC:=.seq (.ops 0 [⟨some 22,.mv (.t 0),none⟩,⟨some 23,.bin .geq (.t 22) (.k (.lf (.int .i64 32))),none⟩,⟨some 24,.mv (.t 23),none⟩,⟨some 25,.mv (.t 0),some (24,true)⟩,⟨some 26,.bin .leq (.t 25) (.k (.lf (.int .i64 126))),some (24,true)⟩,⟨some 27,.pk (.t 24) (.t 26) (.k (.lf (.bool false))),none⟩] [0,27]) c47_25
abbrev c47_27:AC:=.seq (.reg [⟨some 32,.mv (.t 0),none⟩,⟨some 33,.bin .quo (.t 32) (.k (.lf (.int .i64 16))),none⟩,⟨some 34,.ixs (.k (.lf (.str ⟨#[48,49,50,51,52,53,54,55,56,57,97,98,99,100,101,102]⟩))) (.t 33),none⟩,⟨some 35,.mv (.t 0),none⟩,⟨some 36,.bin .rem (.t 35) (.k (.lf (.int .i64 16))),none⟩,⟨some 37,.ixs (.k (.lf (.str ⟨#[48,49,50,51,52,53,54,55,56,57,97,98,99,100,101,102]⟩))) (.t 36),none⟩] [⟨some 38,.bs 5 1 2 [.int .u8 0] [(0,(.t 34)),(1,(.t 37))],none⟩,⟨some 39,.cbs (.t 38),none⟩,⟨some 40,.bin .add (.k (.lf (.str ⟨#[92,120]⟩))) (.t 39),none⟩,⟨some 2,.as 0 0 (.t 40),none⟩] [2]) .ret
abbrev c47_28:AC:=.seq c47_26 c47_27
abbrev c47_29:AC:=.seq c47_23 c47_28
abbrev c47_30:AC:=.seq (.ops 0 [⟨some 2,.as 0 0 (.k (.lf (.str ⟨#[]⟩))),none⟩] [0]) c47_29
abbrev c47:AC:=c47_30
theorem c47_ok:compileFn Tryz.prog 47 = some (41,AC.strip c47,[.t 2]):=by kernel_rfl
abbrev c60_0:AC:=.cond (.t 5) .skip (.exit 0)
abbrev c60_1:AC:=.seq (.ops 0 [⟨some 6,.mv (.t 4),none⟩,⟨some 3,.as 0 0 (.t 6),none⟩] [1,2,3,4]) (.ops 0 [⟨some 7,.mv (.t 3),none⟩,⟨some 8,.mv (.t 3),none⟩,⟨some 9,.iaa (.t 1) (.t 8) 4 1,none⟩,⟨some 10,.ld (.t 9) 1 false,none⟩,⟨some 11,.un .xor (.t 10),none⟩,⟨some 12,.iaa (.t 1) (.t 7) 4 1,none⟩,⟨none,.st (.t 12) (.t 11) 1,none⟩] [1,2,4])
abbrev c60_2:AC:=.block 1 c60_1
abbrev c60_3:AC:=.seq c60_2 (.ops 0 [⟨some 13,.bin .add (.t 4) (.k (.lf (.int .i64 1))),none⟩,⟨some 4,.mv (.t 13),none⟩] [1,2,4])
abbrev c60_4:AC:=.seq c60_0 c60_3
abbrev c60_5:AC:=.seq (.ops 0 [⟨some 5,.bin .lss (.t 4) (.k (.lf (.int .i64 4))),none⟩] [1,2,4,5]) c60_4
abbrev c60_6:AC:=.loop c60_5 [1,2,4]
abbrev c60_7:AC:=.block 0 c60_6
abbrev c60_8:AC:=.seq (.ops 0 [⟨some 4,.mv (.k (.lf (.int .i64 0))),none⟩] [1,2,4]) c60_7
abbrev c60_9:AC:=.seq (.ops 0 [⟨some 14,.ld (.t 1) 4 true,none⟩,⟨none,.st (.t 2) (.t 14) 4,none⟩] [2]) .ret
abbrev c60_10:AC:=.seq c60_8 c60_9
abbrev c60_11:AC:=.seq (.ops 0 [⟨some 1,.bx (.t 0),none⟩,⟨some 2,.al [.int .u64 0,.int .u64 0,.int .u64 0,.int .u64 0],none⟩] [1,2]) c60_10
abbrev c60:AC:=c60_11
theorem c60_ok:compileFn Tryz.prog 60 = some (15,AC.strip c60,[.c 2 4 true]):=by kernel_rfl
abbrev c45_0:AC:=.seq (.ops 0 [⟨some 3,.ld (.t 1) 4 true,none⟩,⟨some 4,.call 60 [(.t 3)],none⟩,⟨some 5,.bd [.int .u64 0,.int .u64 0,.int .u64 0,.int .u64 0] [],none⟩,⟨some 6,.beq false [2,2,2,2] (.t 4) (.t 5),none⟩,⟨some 2,.as 0 0 (.t 6),none⟩] [2]) .ret
abbrev c45_1:AC:=.seq (.ops 0 [⟨some 1,.bx (.t 0),none⟩,⟨some 2,.as 0 0 (.k (.lf (.bool false))),none⟩] [1]) c45_0
abbrev c45:AC:=c45_1
theorem c45_ok:compileFn Tryz.prog 45 = some (7,AC.strip c45,[.t 2]):=by kernel_rfl
abbrev c32_0:AC:=.seq (.ops 0 [⟨some 2,.as 0 0 (.k (.lf (.str ⟨#[91,94,93]⟩))),none⟩] [2]) .ret
abbrev c32_1:AC:=.cond (.t 7) c32_0 .skip
abbrev c32_2:AC:=.seq (.ops 0 [⟨some 6,.ld (.t 1) 4 true,none⟩,⟨some 7,.call 45 [(.t 6)],none⟩] [1,7]) c32_1
abbrev c32_3:AC:=.cond (.t 13) .skip (.exit 0)
abbrev c32_4:AC:=.cond (.t 25) (.ops 0 [⟨some 26,.callp 19 0 [(.t 3),(.k (.lf (.str ⟨#[45]⟩)))],none⟩] [3,5,10,11,12]) .skip
abbrev c32_5:AC:=.seq (.ops 0 [⟨some 20,.fa (.t 5) 1,none⟩,⟨some 21,.ld (.t 20) 1 false,none⟩,⟨some 22,.fa (.t 5) 0,none⟩,⟨some 23,.ld (.t 22) 1 false,none⟩,⟨some 24,.bin .add (.t 23) (.k (.lf (.int .i64 1))),none⟩,⟨some 25,.bin .gtr (.t 21) (.t 24),none⟩] [3,5,10,11,12,25]) c32_4
abbrev c32_6:AC:=.cond (.t 31) (.ops 0 [⟨some 32,.fa (.t 5) 1,none⟩,⟨some 33,.ld (.t 32) 1 false,none⟩,⟨some 34,.call 47 [(.t 33)],none⟩,⟨some 35,.callp 19 0 [(.t 3),(.t 34)],none⟩] [3,10,11,12]) .skip
abbrev c32_7:AC:=.seq (.ops 0 [⟨some 27,.fa (.t 5) 1,none⟩,⟨some 28,.ld (.t 27) 1 false,none⟩,⟨some 29,.fa (.t 5) 0,none⟩,⟨some 30,.ld (.t 29) 1 false,none⟩,⟨some 31,.bin .gtr (.t 28) (.t 30),none⟩] [3,5,10,11,12,31]) c32_6
abbrev c32_8:AC:=.seq c32_5 c32_7
abbrev c32_9:AC:=.seq (.ops 0 [⟨some 16,.fa (.t 5) 0,none⟩,⟨some 17,.ld (.t 16) 1 false,none⟩,⟨some 18,.call 47 [(.t 17)],none⟩,⟨some 19,.callp 19 0 [(.t 3),(.t 18)],none⟩] [3,5,10,11,12]) c32_8
abbrev c32_10:AC:=.seq (.ops 0 [⟨some 14,.ia (.t 10) (.t 12) 2,none⟩,⟨some 15,.ld (.t 14) 2 true,none⟩,⟨some 5,.al [.int .i64 0,.int .i64 0],none⟩,⟨none,.st (.t 5) (.t 15) 2,none⟩] [3,5,10,11,12]) c32_9
abbrev c32_11:AC:=.block 1 c32_10
abbrev c32_12:AC:=.seq c32_11 (.ops 0 [⟨some 36,.bin .add (.t 12) (.k (.lf (.int .i64 1))),none⟩,⟨some 12,.mv (.t 36),none⟩] [3,10,11,12])
abbrev c32_13:AC:=.seq c32_3 c32_12
abbrev c32_14:AC:=.seq (.ops 0 [⟨some 13,.bin .lss (.t 12) (.t 11),none⟩] [3,10,11,12,13]) c32_13
abbrev c32_15:AC:=.loop c32_14 [3,10,11,12]
abbrev c32_16:AC:=.block 0 c32_15
abbrev c32_17:AC:=.seq (.ops 0 [⟨some 9,.ld (.t 1) 4 true,none⟩,⟨some 10,.call 46 [(.t 9)],none⟩,⟨some 11,.len (.t 10),none⟩,⟨some 12,.mv (.k (.lf (.int .i64 0))),none⟩] [3,10,11,12]) c32_16
abbrev c32_18:AC:=.seq (.ops 0 [⟨some 38,.callp 23 0 [(.t 3)],none⟩,⟨some 2,.as 0 0 (.t 38),none⟩] [2]) .ret
abbrev c32_19:AC:=.seq (.ops 0 [⟨some 37,.callp 19 0 [(.t 3),(.k (.lf (.str ⟨#[93]⟩)))],none⟩] [3]) c32_18
abbrev c32_20:AC:=.seq c32_17 c32_19
abbrev c32_21:AC:=.seq (.ops 0 [⟨some 8,.callp 19 0 [(.t 3),(.k (.lf (.str ⟨#[91]⟩)))],none⟩] [1,3]) c32_20
abbrev c32_22:AC:=.seq (.ops 0 [⟨some 3,.alt 56 [.nilp,.lst (.own 387 5) 1 [] []],none⟩] [1,3]) c32_21
abbrev c32_23:AC:=.seq c32_2 c32_22
abbrev c32_24:AC:=.seq (.ops 0 [⟨some 1,.bx (.t 0),none⟩,⟨some 2,.as 0 0 (.k (.lf (.str ⟨#[]⟩))),none⟩] [1]) c32_23
abbrev c32:AC:=c32_24
theorem c32_ok:compileFn Tryz.prog 32 = some (39,AC.strip c32,[.t 2]):=by kernel_rfl
end Go.Proofs.YthcpaohmajjopaaGreatDoor.I
namespace Go.Proofs.YthcpaohmajjopaaGreatDoor.I
open Go Go.Shelf Go.Proofs Go.RowKit Go.Sort
def laysM171_ren:Go.Shelf.Ren:=⟨fun | 171=>30 | 243=>43 | 246=>59 | 283=>77 | 284=>78 | 285=>79 | 286=>80 | 129=>97 | 317=>96 | 318=>98 | 319=>99 | 320=>100 | 337=>107 | 338=>82 | n=>n,fun | 3=>3 | 9=>9 | 2=>2 | 4=>4 | 171=>126 | 0=>0 | 53=>38 | 37=>37 | 5=>5 | 173=>129 | 212=>149 | 51=>131 | 20=>20 | 213=>150 | 46=>36 | 232=>168 | 233=>152 | n=>n,fun | 17=>3 | 18=>7 | 19=>4 | n=>n⟩
theorem laysM171:Go.Proofs.LaysM.n171 Tryz.prog laysM171_ren:={
 mixed:=by kernel_rfl
 f129:=Tryz.func97.trans (congrArg some (by kernel_rfl))
 f171:=Tryz.func30.trans (congrArg some (by kernel_rfl))
 f243:=Tryz.func43.trans (congrArg some (by kernel_rfl))
 f246:=Tryz.func59.trans (congrArg some (by kernel_rfl))
 f283:=Tryz.func77.trans (congrArg some (by kernel_rfl))
 f284:=Tryz.func78.trans (congrArg some (by kernel_rfl))
 f285:=Tryz.func79.trans (congrArg some (by kernel_rfl))
 f286:=Tryz.func80.trans (congrArg some (by kernel_rfl))
 f317:=Tryz.func96.trans (congrArg some (by kernel_rfl))
 f318:=Tryz.func98.trans (congrArg some (by kernel_rfl))
 f319:=Tryz.func99.trans (congrArg some (by kernel_rfl))
 f320:=Tryz.func100.trans (congrArg some (by kernel_rfl))
 f337:=Tryz.func107.trans (congrArg some (by kernel_rfl))
 f338:=Tryz.func82.trans (congrArg some (by kernel_rfl))
 t0:=Tryz.underlying0
 a0:=Tryz.isAgg0
 z0:=Tryz.sizeOf0
 v0:=Tryz.zeroValue0
 t2:=Tryz.underlying2
 a2:=Tryz.isAgg2
 z2:=Tryz.sizeOf2
 v2:=Tryz.zeroValue2
 t3:=Tryz.underlying3
 a3:=Tryz.isAgg3
 z3:=Tryz.sizeOf3
 v3:=Tryz.zeroValue3
 t4:=Tryz.underlying4
 a4:=Tryz.isAgg4
 z4:=Tryz.sizeOf4
 v4:=Tryz.zeroValue4
 t5:=Tryz.underlying5
 a5:=Tryz.isAgg5
 z5:=Tryz.sizeOf5
 v5:=Tryz.zeroValue5
 t9:=Tryz.underlying9
 a9:=Tryz.isAgg9
 z9:=Tryz.sizeOf9
 v9:=Tryz.zeroValue9
 t20:=Tryz.underlying20
 a20:=Tryz.isAgg20
 z20:=Tryz.sizeOf20
 v20:=Tryz.zeroValue20
 t37:=Tryz.underlying37
 a37:=Tryz.isAgg37
 z37:=Tryz.sizeOf37
 v37:=Tryz.zeroValue37
 t46:=Tryz.underlying36
 a46:=Tryz.isAgg36
 z46:=Tryz.sizeOf36
 v46:=Tryz.zeroValue36
 t51:=Tryz.underlying131
 a51:=Tryz.isAgg131
 z51:=Tryz.sizeOf131
 v51:=Tryz.zeroValue131
 t53:=Tryz.underlying38
 a53:=Tryz.isAgg38
 z53:=Tryz.sizeOf38
 v53:=Tryz.zeroValue38
 t171:=Tryz.underlying126
 a171:=Tryz.isAgg126
 z171:=Tryz.sizeOf126
 v171:=Tryz.zeroValue126
 t173:=Tryz.underlying129
 a173:=Tryz.isAgg129
 z173:=Tryz.sizeOf129
 v173:=Tryz.zeroValue129
 t212:=Tryz.underlying149
 a212:=Tryz.isAgg149
 z212:=Tryz.sizeOf149
 v212:=Tryz.zeroValue149
 t213:=Tryz.underlying150
 a213:=Tryz.isAgg150
 z213:=Tryz.sizeOf150
 t232:=Tryz.underlying168
 a232:=Tryz.isAgg168
 z232:=Tryz.sizeOf168
 v232:=Tryz.zeroValue168
 t233:=Tryz.underlying152
 a233:=Tryz.isAgg152
 z233:=Tryz.sizeOf152
 v233:=Tryz.zeroValue152
 g17:=by kernel_rfl
 g18:=by kernel_rfl
 g19:=by kernel_rfl
 i0:=by kernel_rfl
 i2:=by kernel_rfl
 i3:=by kernel_rfl
 i4:=by kernel_rfl
 i5:=by kernel_rfl
 i9:=by kernel_rfl
 i20:=by kernel_rfl
 i37:=by kernel_rfl
 i46:=by kernel_rfl
 i51:=by kernel_rfl
 i53:=by kernel_rfl
 i171:=by kernel_rfl
 i173:=by kernel_rfl
 i212:=by kernel_rfl
 i232:=by kernel_rfl
 i233:=by kernel_rfl
 m17:=by kernel_rfl
 m18:=by kernel_rfl
 m19:=by kernel_rfl }
theorem strconv_Itoa (n:Int) (h0:-9223372036854775808 ≤ n) (h1:n ≤ 9223372036854775807) (w:World) (htab:Lib.TabIs Tryz.prog w "internal/strconv.uint64pow10" .u64 Lib.pow10Tab) :
  Calls Tryz.prog 30 #[.int .i64 n] w fun e w'=>e = .returned (.string ⟨(Lib.itoa n).toArray⟩) ∧ ∃ k os,w' = grow (w.drewN k) os:=Any.strconv_Itoa laysM171 n h0 h1 w htab
def laysC172_ren:Go.Shelf.Ren:=⟨fun | 172=>51 | 244=>66 | 245=>67 | 247=>85 | 279=>86 | 280=>87 | 281=>88 | 282=>89 | 287=>101 | 316=>102 | 171=>30 | 205=>103 | 321=>108 | 322=>109 | 243=>43 | 246=>59 | 283=>77 | 284=>78 | 285=>79 | 286=>80 | 129=>97 | 317=>96 | 318=>98 | 319=>99 | 320=>100 | 337=>107 | 338=>82 | n=>n,fun | 9=>9 | 3=>3 | 75=>58 | 76=>59 | 4=>4 | 5=>5 | 167=>134 | 37=>37 | 0=>0 | 85=>135 | 2=>2 | 168=>137 | 53=>38 | 175=>153 | 46=>36 | 210=>157 | 127=>76 | 145=>166 | 143=>164 | 21=>21 | 171=>126 | 173=>129 | 212=>149 | 51=>131 | 20=>20 | 213=>150 | 232=>168 | 233=>152 | 80=>63 | n=>n,fun | 15=>5 | 16=>6 | 17=>3 | 18=>7 | 19=>4 | n=>n⟩
theorem laysC172:Go.Proofs.LaysC.n172 Tryz.prog laysC172_ren:={
 mixed:=by kernel_rfl
 f129:=Tryz.func97.trans (congrArg some (by kernel_rfl))
 f171:=Tryz.func30.trans (congrArg some (by kernel_rfl))
 f172:=Tryz.func51.trans (congrArg some (by kernel_rfl))
 f205:=Tryz.func103.trans (congrArg some (by kernel_rfl))
 f243:=Tryz.func43.trans (congrArg some (by kernel_rfl))
 f244:=Tryz.func66.trans (congrArg some (by kernel_rfl))
 f245:=Tryz.func67.trans (congrArg some (by kernel_rfl))
 f246:=Tryz.func59.trans (congrArg some (by kernel_rfl))
 f247:=Tryz.func85.trans (congrArg some (by kernel_rfl))
 f279:=Tryz.func86.trans (congrArg some (by kernel_rfl))
 f280:=Tryz.func87.trans (congrArg some (by kernel_rfl))
 f281:=Tryz.func88.trans (congrArg some (by kernel_rfl))
 f282:=Tryz.func89.trans (congrArg some (by kernel_rfl))
 f283:=Tryz.func77.trans (congrArg some (by kernel_rfl))
 f284:=Tryz.func78.trans (congrArg some (by kernel_rfl))
 f285:=Tryz.func79.trans (congrArg some (by kernel_rfl))
 f286:=Tryz.func80.trans (congrArg some (by kernel_rfl))
 f287:=Tryz.func101.trans (congrArg some (by kernel_rfl))
 f316:=Tryz.func102.trans (congrArg some (by kernel_rfl))
 f317:=Tryz.func96.trans (congrArg some (by kernel_rfl))
 f318:=Tryz.func98.trans (congrArg some (by kernel_rfl))
 f319:=Tryz.func99.trans (congrArg some (by kernel_rfl))
 f320:=Tryz.func100.trans (congrArg some (by kernel_rfl))
 f321:=Tryz.func108.trans (congrArg some (by kernel_rfl))
 f322:=Tryz.func109.trans (congrArg some (by kernel_rfl))
 f337:=Tryz.func107.trans (congrArg some (by kernel_rfl))
 f338:=Tryz.func82.trans (congrArg some (by kernel_rfl))
 t0:=Tryz.underlying0
 a0:=Tryz.isAgg0
 z0:=Tryz.sizeOf0
 v0:=Tryz.zeroValue0
 t2:=Tryz.underlying2
 a2:=Tryz.isAgg2
 z2:=Tryz.sizeOf2
 v2:=Tryz.zeroValue2
 t3:=Tryz.underlying3
 a3:=Tryz.isAgg3
 z3:=Tryz.sizeOf3
 v3:=Tryz.zeroValue3
 t4:=Tryz.underlying4
 a4:=Tryz.isAgg4
 z4:=Tryz.sizeOf4
 v4:=Tryz.zeroValue4
 t5:=Tryz.underlying5
 a5:=Tryz.isAgg5
 z5:=Tryz.sizeOf5
 v5:=Tryz.zeroValue5
 t9:=Tryz.underlying9
 a9:=Tryz.isAgg9
 z9:=Tryz.sizeOf9
 v9:=Tryz.zeroValue9
 t20:=Tryz.underlying20
 a20:=Tryz.isAgg20
 z20:=Tryz.sizeOf20
 v20:=Tryz.zeroValue20
 t21:=Tryz.underlying21
 a21:=Tryz.isAgg21
 z21:=Tryz.sizeOf21
 v21:=Tryz.zeroValue21
 t37:=Tryz.underlying37
 a37:=Tryz.isAgg37
 z37:=Tryz.sizeOf37
 v37:=Tryz.zeroValue37
 t46:=Tryz.underlying36
 a46:=Tryz.isAgg36
 z46:=Tryz.sizeOf36
 v46:=Tryz.zeroValue36
 t51:=Tryz.underlying131
 a51:=Tryz.isAgg131
 z51:=Tryz.sizeOf131
 v51:=Tryz.zeroValue131
 t53:=Tryz.underlying38
 a53:=Tryz.isAgg38
 z53:=Tryz.sizeOf38
 v53:=Tryz.zeroValue38
 t75:=Tryz.underlying58
 a75:=Tryz.isAgg58
 z75:=Tryz.sizeOf58
 v75:=Tryz.zeroValue58
 t76:=Tryz.underlying59
 a76:=Tryz.isAgg59
 z76:=Tryz.sizeOf59
 v76:=Tryz.zeroValue59
 t85:=Tryz.underlying135
 a85:=Tryz.isAgg135
 z85:=Tryz.sizeOf135
 v85:=Tryz.zeroValue135
 t127:=Tryz.underlying76
 a127:=Tryz.isAgg76
 z127:=Tryz.sizeOf76
 v127:=Tryz.zeroValue76
 t143:=Tryz.underlying164
 a143:=Tryz.isAgg164
 z143:=Tryz.sizeOf164
 v143:=Tryz.zeroValue164
 t145:=Tryz.underlying166
 a145:=Tryz.isAgg166
 z145:=Tryz.sizeOf166
 v145:=Tryz.zeroValue166
 t167:=Tryz.underlying134
 a167:=Tryz.isAgg134
 z167:=Tryz.sizeOf134
 v167:=Tryz.zeroValue134
 t168:=Tryz.underlying137
 a168:=Tryz.isAgg137
 z168:=Tryz.sizeOf137
 v168:=Tryz.zeroValue137
 t171:=Tryz.underlying126
 a171:=Tryz.isAgg126
 z171:=Tryz.sizeOf126
 v171:=Tryz.zeroValue126
 t173:=Tryz.underlying129
 a173:=Tryz.isAgg129
 z173:=Tryz.sizeOf129
 v173:=Tryz.zeroValue129
 t175:=Tryz.underlying153
 a175:=Tryz.isAgg153
 z175:=Tryz.sizeOf153
 v175:=Tryz.zeroValue153
 t210:=Tryz.underlying157
 a210:=Tryz.isAgg157
 z210:=Tryz.sizeOf157
 v210:=Tryz.zeroValue157
 t212:=Tryz.underlying149
 a212:=Tryz.isAgg149
 z212:=Tryz.sizeOf149
 v212:=Tryz.zeroValue149
 t213:=Tryz.underlying150
 a213:=Tryz.isAgg150
 z213:=Tryz.sizeOf150
 t232:=Tryz.underlying168
 a232:=Tryz.isAgg168
 z232:=Tryz.sizeOf168
 v232:=Tryz.zeroValue168
 t233:=Tryz.underlying152
 a233:=Tryz.isAgg152
 z233:=Tryz.sizeOf152
 v233:=Tryz.zeroValue152
 g15:=by kernel_rfl
 g16:=by kernel_rfl
 g17:=by kernel_rfl
 g18:=by kernel_rfl
 g19:=by kernel_rfl
 t80:=Tryz.underlying63
 a80:=Tryz.isAgg63
 z80:=Tryz.sizeOf63
 v80:=Tryz.zeroValue63
 i0:=by kernel_rfl
 i2:=by kernel_rfl
 i3:=by kernel_rfl
 i4:=by kernel_rfl
 i5:=by kernel_rfl
 i9:=by kernel_rfl
 i20:=by kernel_rfl
 i21:=by kernel_rfl
 i37:=by kernel_rfl
 i46:=by kernel_rfl
 i51:=by kernel_rfl
 i53:=by kernel_rfl
 i75:=by kernel_rfl
 i76:=by kernel_rfl
 i80:=by kernel_rfl
 i85:=by kernel_rfl
 i127:=by kernel_rfl
 i143:=by kernel_rfl
 i145:=by kernel_rfl
 i167:=by kernel_rfl
 i168:=by kernel_rfl
 i171:=by kernel_rfl
 i173:=by kernel_rfl
 i175:=by kernel_rfl
 i210:=by kernel_rfl
 i212:=by kernel_rfl
 i232:=by kernel_rfl
 i233:=by kernel_rfl
 m15:=by kernel_rfl
 m16:=by kernel_rfl
 m17:=by kernel_rfl
 m18:=by kernel_rfl
 m19:=by kernel_rfl
 c0:=by kernel_rfl
 c2:=by kernel_rfl
 c3:=by kernel_rfl
 c4:=by kernel_rfl
 c5:=by kernel_rfl
 c9:=by kernel_rfl
 c20:=by kernel_rfl
 c21:=by kernel_rfl
 c37:=by kernel_rfl
 c46:=by kernel_rfl
 c51:=by kernel_rfl
 c53:=by kernel_rfl
 c75:=by kernel_rfl
 c76:=by kernel_rfl
 c80:=by kernel_rfl
 c85:=by kernel_rfl
 c127:=by kernel_rfl
 c143:=by kernel_rfl
 c145:=by kernel_rfl
 c167:=by kernel_rfl
 c168:=by kernel_rfl
 c171:=by kernel_rfl
 c173:=by kernel_rfl
 c175:=by kernel_rfl
 c210:=by kernel_rfl
 c212:=by kernel_rfl
 c213:=by kernel_rfl
 c232:=by kernel_rfl
 c233:=by kernel_rfl }
theorem strconv_Atoi_ok (s:ByteArray) (hmax:s.size ≤ 9223372036854775806) (v:Int) (h:Lib.atoiAll s.data.toList = .ok v) (w:World) :
  Calls Tryz.prog 51 #[.string s] w fun e w'=>e = .returned (.tuple #[.int .i64 v,.nilIface]) ∧ (w' = w ∨ ∃ t,w' = Lib.bytesWorld w 5 t):=Any.strconv_Atoi_ok laysC172 s hmax v h w
theorem strconv_Atoi_syntax (s:ByteArray) (hlim:s.size ≤ 281474976710656) (h:Lib.atoiAll s.data.toList = .«syntax») (ev:Value) (w:World) (hv:w.cell? ⟨5,0,none⟩ = some ev) (hev:ev = .nilIface ∨ ∃ te pe,ev = .iface te pe) :
  Calls Tryz.prog 51 #[.string s] w fun e w'=>∃ N,e = .returned (.tuple #[.int .i64 (0),.iface 137 (.pointer (some ⟨N,0,none⟩))]) ∧ w.heap.size ≤ N ∧ w'.heap[N]? = some (.cells #[.string ⟨#[65,116,111,105]⟩,.string s,ev] 157 (0,0)) ∧ Below w.heap.size w w':=Any.strconv_Atoi_syntax laysC172 s hlim h ev w hv hev
theorem strconv_Atoi_range (s:ByteArray) (hlim:s.size ≤ 281474976710656) (h:Lib.atoiAll s.data.toList = .range) (ev:Value) (w:World) (hv:w.cell? ⟨6,0,none⟩ = some ev) (hev:ev = .nilIface ∨ ∃ te pe,ev = .iface te pe) :
  Calls Tryz.prog 51 #[.string s] w fun e w'=>∃ N,e = .returned (.tuple #[.int .i64 (Lib.atoiSat s.data.toList),.iface 137 (.pointer (some ⟨N,0,none⟩))]) ∧ w.heap.size ≤ N ∧ w'.heap[N]? = some (.cells #[.string ⟨#[65,116,111,105]⟩,.string s,ev] 157 (0,0)) ∧ Below w.heap.size w w':=Any.strconv_Atoi_range laysC172 s hlim h ev w hv hev
def lays219_ren:Go.Shelf.Ren:=⟨fun | 219=>48 | 217=>62 | 225=>63 | 224=>64 | 267=>65 | 266=>83 | 314=>84 | n=>n,fun | 9=>9 | 3=>3 | 4=>4 | 5=>5 | 46=>36 | 146=>132 | 51=>131 | n=>n,fun | 1=>2 | n=>n⟩
theorem lays219:Go.Proofs.Lays.n219 Tryz.prog lays219_ren:={
 mixed:=by kernel_rfl
 f217:=Tryz.func62.trans (congrArg some (by kernel_rfl))
 f219:=Tryz.func48.trans (congrArg some (by kernel_rfl))
 f224:=Tryz.func64.trans (congrArg some (by kernel_rfl))
 f225:=Tryz.func63.trans (congrArg some (by kernel_rfl))
 f266:=Tryz.func83.trans (congrArg some (by kernel_rfl))
 f267:=Tryz.func65.trans (congrArg some (by kernel_rfl))
 f314:=Tryz.func84.trans (congrArg some (by kernel_rfl))
 t3:=Tryz.underlying3
 a3:=Tryz.isAgg3
 z3:=Tryz.sizeOf3
 v3:=Tryz.zeroValue3
 t4:=Tryz.underlying4
 a4:=Tryz.isAgg4
 z4:=Tryz.sizeOf4
 v4:=Tryz.zeroValue4
 t5:=Tryz.underlying5
 a5:=Tryz.isAgg5
 z5:=Tryz.sizeOf5
 v5:=Tryz.zeroValue5
 t9:=Tryz.underlying9
 a9:=Tryz.isAgg9
 z9:=Tryz.sizeOf9
 v9:=Tryz.zeroValue9
 t46:=Tryz.underlying36
 a46:=Tryz.isAgg36
 z46:=Tryz.sizeOf36
 v46:=Tryz.zeroValue36
 t51:=Tryz.underlying131
 a51:=Tryz.isAgg131
 z51:=Tryz.sizeOf131
 v51:=Tryz.zeroValue131
 t146:=Tryz.underlying132
 a146:=Tryz.isAgg132
 z146:=Tryz.sizeOf132
 v146:=Tryz.zeroValue132
 g1:=by kernel_rfl }
theorem stringslite_Index_one (s:ByteArray) (c:UInt8) (w:World) :
  Calls Tryz.prog 48 #[.string s,.string ⟨#[c]⟩] w fun e w'=>e = .returned (.int .i64 (Lib.indexByte s.data.toList c)) ∧ w' = w:=Any.stringslite_Index_one lays219 s c w
def lays729_ren:Go.Shelf.Ren:=⟨fun | 29=>82 | n=>n,fun | 22=>38 | 3=>3 | 4=>4 | 25=>36 | 54=>152 | 0=>0 | 5=>5 | n=>n,fun | 1=>4 | n=>n⟩
theorem lays729:Go.Proofs.Lays7.n29 Tryz.prog lays729_ren:={
 mixed:=by kernel_rfl
 f29:=Tryz.func82.trans (congrArg some (by kernel_rfl))
 t0:=Tryz.underlying0
 a0:=Tryz.isAgg0
 z0:=Tryz.sizeOf0
 v0:=Tryz.zeroValue0
 i0:=by kernel_rfl
 t3:=Tryz.underlying3
 a3:=Tryz.isAgg3
 z3:=Tryz.sizeOf3
 v3:=Tryz.zeroValue3
 i3:=by kernel_rfl
 t4:=Tryz.underlying4
 a4:=Tryz.isAgg4
 z4:=Tryz.sizeOf4
 v4:=Tryz.zeroValue4
 i4:=by kernel_rfl
 t5:=Tryz.underlying5
 a5:=Tryz.isAgg5
 z5:=Tryz.sizeOf5
 v5:=Tryz.zeroValue5
 i5:=by kernel_rfl
 t22:=Tryz.underlying38
 a22:=Tryz.isAgg38
 z22:=Tryz.sizeOf38
 v22:=Tryz.zeroValue38
 i22:=by kernel_rfl
 t25:=Tryz.underlying36
 a25:=Tryz.isAgg36
 z25:=Tryz.sizeOf36
 v25:=Tryz.zeroValue36
 i25:=by kernel_rfl
 t54:=Tryz.underlying152
 a54:=Tryz.isAgg152
 z54:=Tryz.sizeOf152
 g1:=by kernel_rfl }
theorem itoa30 (n:Int) (h0:-9223372036854775808 ≤ n) (h1:n ≤ 9223372036854775807) (w:World) (htab:Lib.TabIs Tryz.prog w "internal/strconv.uint64pow10" .u64 Lib.pow10Tab) :
  Calls Tryz.prog 30 #[.int .i64 n] w fun e w'=>e = .returned (.string ⟨(Lib.itoa n).toArray⟩) ∧ ∃ k os,w' = Go.Sort.grow (w.drewN k) os:=strconv_Itoa n h0 h1 w htab
theorem tz82 (x:Nat) (hx:x < 18446744073709551616) (w:World) (hT:x ≠ 0 → TabAt 4 Lib.deBruijn64tab w) :
  Calls Tryz.prog 82 #[.int .u64 x] w fun e w'=>e = .returned (.int .i64 (Lib.ctz 64 x)) ∧ w' = w:=Any7.bits_TrailingZeros64 lays729 x hx w hT
end Go.Proofs.YthcpaohmajjopaaGreatDoor.I
