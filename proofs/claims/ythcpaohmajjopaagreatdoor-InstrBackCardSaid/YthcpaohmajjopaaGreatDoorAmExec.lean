/- The abstract machine, part Exec. -/
import Derived.Test.YthcpaohmajjopaaGreatDoorAmCode
import Derived.Test.YthcpaohmajjopaaGreatDoorAmDraw3
import Derived.Test.YthcpaohmajjopaaGreatDoorAmDraw5
import Derived.Test.YthcpaohmajjopaaGreatDoorAmCallk
set_option linter.unusedVariables false
set_option linter.unusedSimpArgs false
namespace Go.Proofs.YthcpaohmajjopaaGreatDoor.AM
open Go
variable {X:Cx}
def AC.strip:AC → AC
 | .ops dr l _=>.ops dr l []
 | .reg hd tl _=>.reg hd tl []
 | .drw src hd tl _=>.drw src hd tl []
 | .gdr ts hd tl _=>.gdr ts hd tl []
 | .gdq hd tl _=>.gdq hd tl []
 | .gds hd tl _=>.gds hd tl []
 | .gd2 ts hd a b _=>.gd2 ts hd a b []
 | .gdt t _=>.gdt t []
 | .seq a b=>.seq a.strip b.strip
 | .cond c a b=>.cond c a.strip b.strip
 | .block id b=>.block id b.strip
 | .loop b _=>.loop b.strip []
 | .bad=>.bad
 | x=>x
def compileOps (P:Program) (ops:Array Oper) (n:Nat):List Oper → Option (List AOper)
 | []=>some []
 | o :: os=>match compileOper P ops n o,compileOps P ops n os with
  | some x,some xs=>some (x :: xs)
  | _,_=>none
def quietN:List AOper → Nat
 | []=>0
 | o :: os=>match o.op with
  | .as _ _ _=>quietN os + 1
  | op=>if isQ op then quietN os + 1 else 0
def descFrom (ops:Array Oper):Nat → Nat → List Nat → List Nat
 | 0,_,S=>S
 | k + 1,i,S=>descFrom ops k (i + 1) (match ops[i]? with
  | some o=>if o.after.any (fun e=>Region.binds .any e && S.contains e.on) then S ++ [i] else S
  | none=>S)
def compileAt (P:Program) (ops:Array Oper) (n:Nat):List Nat → Option (List AOper)
 | []=>some []
 | i :: r=>match ops[i]? with
  | some o=>match compileOper P ops n o,compileAt P ops n r with
   | some x,some xs=>some (x :: xs)
   | _,_=>none
  | none=>none
def callpAt:Nat → List AOper → Option Nat
 | _,[]=>none
 | i,o :: r=>match o.op with
  | .callp _ _ _=>some i
  | _=>callpAt (i + 1) r
def okHd (l:List AOper):Bool:=l.all fun o=>o.g.isNone && isK o.op
def okRest (m:Nat):List Nat → List AOper → Bool
 | [i],[_]=>i == m
 | _ :: is,o :: os=>o.g.isNone && isQ o.op && okRest m is os
 | _,_=>false
def okTl (m:Nat):List Nat → List AOper → Bool
 | _ :: is,o :: os=>o.g.isNone && (match o.op with | .callp _ _ _=>true | _=>false) && okRest m is os
 | _,_=>false
def srcOf (hd tl:List AOper):AO :=
 match tl with
 | o :: _=>match o.op with
  | .callp _ ip args=>match args[ip]? with
   | some (.t t)=>match hd.find? (fun h=>h.d == some t) with
    | some h=>match h.op with
     | .mv x=>x
     | _=>.t t
    | none=>.t t
   | some x=>x
   | none=>.t 0
  | _=>.t 0
 | []=>.t 0
def drwAt (P:Program) (ops:Array Oper) (n s:Nat):Option AC :=
 let tlI:=descFrom ops (ops.size - (s + 1)) (s + 1) [s]
 let hdI:=(List.range ops.size).filter fun i=>!tlI.contains i
 match compileAt P ops n hdI,compileAt P ops n tlI with
 | some hd,some tl=>if drawB .any ops hdI tlI && okHd hd && okTl (ops.size - 1) tlI tl then some (.drw (srcOf hd tl) hd tl []) else none
 | _,_=>none
def drwC (P:Program) (ops:Array Oper) (n:Nat) (l:List AOper):Option AC:=(callpAt 0 l).bind fun s=>drwAt P ops n s
def storesAt:Nat → List AOper → List Nat
 | _,[]=>[]
 | i,o :: r=>match o.op with
  | .st _ _ _=>i :: storesAt (i + 1) r
  | _=>storesAt (i + 1) r
def okSrt (anc:List Nat):List Nat → List AOper → Bool
 | [],[]=>true
 | i :: is,o :: os=>o.g.isNone && (isU o.op || (isQ o.op && anc.contains i)) && okSrt anc is os
 | _,_=>false
def srtAt (P:Program) (ops:Array Oper) (n:Nat) (l:List AOper):Option AC :=
 match storesAt 0 l with
 | s :: _ :: _ =>
  match descFrom ops (ops.size - (s + 1)) (s + 1) [s] with
  | s' :: r =>
   let hdI:=(List.range ops.size).filter fun i=>!(s' :: r).contains i
   match compileAt P ops n hdI,compileAt P ops n (s' :: r) with
   | some hd,some tl=>if srtB .any ops s' hdI (s' :: r) && okSrt (ancOf .any ops s') hdI hd && tl.all (fun o=>o.g.isNone) && decide (s' < ops.size) then some (.reg hd tl []) else none
   | _,_=>none
  | []=>none
 | _=>none
def midBad (l:List AOper):Bool:=l.dropLast.any fun o=>match o.op with
 | .as _ _ _=>false
 | .call _ _=>false
 | op=>!isQ op
def notKAt:Nat → List AOper → Option Nat
 | _,[]=>none
 | i,o :: r=>if isK o.op then notKAt (i + 1) r else some i
def addrT:AO → List Nat
 | .t n=>[n]
 | .k _=>[]
def addrs:List AOper → List Nat
 | []=>[]
 | o :: r=>(match o.op with
  | .fa x _=>addrT x
  | .ld x _ _=>addrT x
  | .nc x=>addrT x
  | .iaa x _ _ _=>addrT x
  | .mv x=>addrT x
  | _=>[]) ++ addrs r
def tsOf (hd tl:List AOper):List Nat:=(addrs hd).filter fun t=>!(hd ++ tl).any fun o=>o.d == some t
def gdrAt (P:Program) (ops:Array Oper) (n s:Nat):Option AC :=
 let tlI:=descFrom ops (ops.size - (s + 1)) (s + 1) [s]
 let hdI:=(List.range ops.size).filter fun i=>!tlI.contains i
 match compileAt P ops n hdI,compileAt P ops n tlI with
 | some hd,some tl=>if drawB .any ops hdI tlI && okHd hd && tl.all (fun o=>o.g.isNone) && tlI.getLast? == some (ops.size - 1) then some (.gdr (tsOf hd tl) hd tl []) else none
 | _,_=>none
def lastC (P:Program) (ops:Array Oper) (n:Nat):Option AC :=
 match compileAt P ops n (List.range (ops.size - 1)),compileAt P ops n [ops.size - 1] with
 | some hd,some [t]=>if drawB .any ops (List.range (ops.size - 1)) [ops.size - 1] && hd.all (fun o=>o.g.isNone && isQ o.op) && t.g.isNone && !isQ t.op then some (.reg hd [t] []) else none
 | _,_=>none
def gdqAt (P:Program) (ops:Array Oper) (n s:Nat):Option AC :=
 let tlI:=descFrom ops (ops.size - (s + 1)) (s + 1) [s]
 let hdI:=(List.range ops.size).filter fun i=>!tlI.contains i
 match compileAt P ops n hdI,compileAt P ops n tlI with
 | some hd,some tl=>if drawB .any ops hdI tlI && okHd hd && tl.all (fun o=>o.g.isNone) && tl.dropLast.all (fun o=>isQ o.op || isN o.op) && tlI.getLast? == some (ops.size - 1) then some (.gdq hd tl []) else none
 | _,_=>none
def notHAt:Nat → List AOper → Option Nat
 | _,[]=>none
 | i,o :: r=>if isU o.op || isLd o.op then notHAt (i + 1) r else some i
def okHs (hd:List AOper):Bool:=hd.all fun o=>o.g.isNone && (isU o.op || isLd o.op)
def gdsAt (P:Program) (ops:Array Oper) (n s:Nat):Option AC :=
 let tlI:=descFrom ops (ops.size - (s + 1)) (s + 1) [s]
 let hdI:=(List.range ops.size).filter fun i=>!tlI.contains i
 match compileAt P ops n hdI,compileAt P ops n tlI with
 | some hd,some tl=>if drawB .any ops hdI tlI && okHs hd && tl.all (fun o=>o.g.isNone) && tl.dropLast.all (fun o=>isQ o.op || isSt o.op) && tlI.getLast? == some (ops.size - 1) then some (.gds hd tl []) else none
 | _,_=>none
def gdsC (P:Program) (ops:Array Oper) (n:Nat) (l:List AOper):Option AC:=if midBad l && (drwC P ops n l).isNone then (notHAt 0 l).bind fun s=>gdsAt P ops n s else none
def gdqC (P:Program) (ops:Array Oper) (n:Nat) (l:List AOper):Option AC:=if midBad l && (drwC P ops n l).isNone then (notKAt 0 l).bind fun s=>gdqAt P ops n s else none
def hasG (l:List AOper):Bool:=l.any fun o=>match o.op with
 | .callg _ _ _=>true
 | _=>false
def wrPt (l:List AOper):Bool:=(l.any fun o=>match o.op with
 | .callp _ _ _=>true
 | _=>false) && (l.any fun o=>match o.op with
 | .ld _ _ true=>true
 | _=>false) && (match l.getLast? with
 | some o=>match o.op with
  | .st _ _ _=>true
  | _=>false
 | none=>false)
def gdrC (P:Program) (ops:Array Oper) (n:Nat) (l:List AOper):Option AC:=if midBad l && !hasG l && !wrPt l && (drwC P ops n l).isNone then (notKAt 0 l).bind fun s=>gdrAt P ops n s else none
def puAt (P:Program) (ops:Array Oper) (n i:Nat):Bool :=
 match ops[i]? with
 | some o=>match compileOper P ops n o with
  | some x=>x.g.isNone && isU x.op
  | none=>false
 | none=>false
def gd2Of (P:Program) (ops:Array Oper) (n:Nat) (hdI ra rb:List Nat):Option AC :=
 match compileAt P ops n hdI,compileAt P ops n ra,compileAt P ops n rb with
 | some hd,some a,some b=>if draw2B .any ops (puAt P ops n) hdI ra rb && okHd hd && a.all (fun o=>o.g.isNone) && b.all (fun o=>o.g.isNone) && ra.getLast? == some (ops.size - 1) && rb.getLast? == some (ops.size - 1) && !puAt P ops n (ops.size - 1) then some (.gd2 (tsOf hd (a ++ b)) hd a b []) else none
 | _,_,_=>none
def gd2At (P:Program) (ops:Array Oper) (n:Nat) (l:List AOper) (s:Nat):Option AC :=
 let d1:=descFrom ops (ops.size - (s + 1)) (s + 1) [s]
 match (List.range ops.size).find? (fun i=>!d1.contains i && !((l[i]?).map fun o=>isK o.op).getD true) with
 | some s2 =>
  let d2:=descFrom ops (ops.size - (s2 + 1)) (s2 + 1) [s2]
  let ra:=(List.range ops.size).filter fun i=>d1.contains i || d2.contains i
  gd2Of P ops n ((List.range ops.size).filter fun i=>!ra.contains i) ra (s2 :: ra.filter fun i=>!(i == s2))
 | none=>none
def gd2C (P:Program) (ops:Array Oper) (n:Nat) (l:List AOper):Option AC:=if tailB .any ops && midBad l then (notKAt 0 l).bind fun s=>gd2At P ops n l s else none
def midBad2 (P:Program) (l:List AOper):Bool:=l.dropLast.any fun o=>match o.op with
 | .as _ k (.t _)=>!(k == 0)
 | .as _ _ (.k _)=>false
 | .call f _=>match P.funcs[f]? with
  | some fn=>fn.resultTypes.any (isSlT P)
  | none=>false
 | op=>!isQ op
def otA (P:Program) (ops:Array Oper) (n:Nat) (g:Array Bool → Option OT) (listed:Array Bool):List Nat → Option OT
 | []=>none
 | i :: r=>match (ops[i]?).bind (compileOper P ops n),g (listed.setIfInBounds i true) with
  | some o,some t=>if o.g.isNone then (match r with
   | []=>some (.one o t)
   | _ :: _=>(otA P ops n g listed r).map fun t2=>.alt (.one o t) t2) else none
  | _,_=>none
def otB (P:Program) (ops:Array Oper) (n:Nat):Nat → Array Bool → Option OT
 | 0,listed=>if Region.ready .any ops listed == [] then some .nil else none
 | f + 1,listed=>match (Region.ready .any ops listed).find? (fun i=>puAt P ops n i && decide (i < ops.size - 1) && Region.free .any ops listed i) with
  | some i=>match (ops[i]?).bind (compileOper P ops n),otB P ops n f (listed.setIfInBounds i true) with
   | some o,some t=>some (.one o t)
   | _,_=>none
  | none=>otA P ops n (otB P ops n f) listed (Region.ready .any ops listed)
def leavesT:OT → Nat
 | .nil=>1
 | .one _ t=>leavesT t
 | .alt a b=>leavesT a + leavesT b
def gdtC (P:Program) (ops:Array Oper) (n:Nat) (l:List AOper):Option AC :=
 if tailB .any ops && midBad2 P l && waitsB .any ops (ops.size - 1) then (match otB P ops n ops.size (Array.replicate ops.size false) with
  | some t=>if leavesT t ≤ 16 then some (.gdt t []) else none
  | none=>none) else none
def compileC (P:Program) (n:Nat):Code → Option AC
 | .skip=>some .skip
 | .refuse _=>some .bad
 | .region _ ops false=>(compileOps P ops n ops.toList).map fun l=>.ops 0 l []
 | .region _ ops true=>if P.follows .mixedOrders then (match compileOps P ops n ops.toList with
  | none=>none
  | some l=>if quietN l + 1 < ops.size ∧ tailsB .any ops (quietN l) = true then some (.reg (l.take (quietN l)) (l.drop (quietN l)) [])
   else match srtAt P ops n l with
   | some ac=>some ac
   | none=>match gdqC P ops n l with
   | some ac=>some ac
   | none=>match gdrC P ops n l with
   | some ac=>some ac
   | none=>match gd2C P ops n l with
   | some ac=>some ac
   | none=>match gdtC P ops n l with
   | some ac=>some ac
   | none=>if tailB .any ops then some (.ops 1 l []) else match drwC P ops n l with
    | some ac=>some ac
    | none=>match gdsC P ops n l with
    | some ac=>some ac
    | none=>match lastC P ops n with
    | some ac=>some ac
    | none=>if Region.lexB .any ops then some (.ops 2 l []) else none) else none
 | .seq a b=>match compileC P n a,compileC P n b with
  | some x,some y=>some (.seq x y)
  | _,_=>none
 | .cond c a b=>match cOpd P 0 c,compileC P n a,compileC P n b with
  | some z,some x,some y=>some (.cond z x y)
  | _,_,_=>none
 | .block id b=>(compileC P n b).map (.block id)
 | .loop b=>(compileC P n b).map fun x=>.loop x []
 | .exit id=>some (.exit id)
 | .ret=>some .ret
 | _=>none
def QRel (E0:Env) (w0:World) (n:Nat) (Q:Out → St → Prop):Exit → Act → World → Prop
 | .normal,a,w=>∃ σ,Q .nrm σ ∧ Rel E0 w0 n σ a w
 | .exit id,a,w=>∃ σ,Q (.ex id) σ ∧ Rel E0 w0 n σ a w
 | .ret,a,w=>∃ σ,Q .ret σ ∧ Rel E0 w0 n σ a w
 | _,_,_=>False
theorem compileOper_spec {P:Program} {ops:Array Oper} {n:Nat} {o:Oper} {ao:AOper} (h:compileOper P ops n o = some ao) :
  ao.d = o.dst ∧ (∀ t,o.dst = some t → t < n) ∧ compileOp P o = some ao.op ∧ match o.guard with
   | none=>ao.g = none
   | some (j,want)=>∃ t,(ops[j]?).bind (·.dst) = some t ∧ t < n ∧ ao.g = some (t,want):=by
 unfold compileOper at h
 split at h
 ·rename_i hd
  have hd':∀ t,o.dst = some t → t < n:=by
   intro t ht
   simpa [dstB,ht] using hd
  split at h
  ·rename_i op hop
   split at h
   ·rename_i hg
    cases h
    exact ⟨rfl,hd',hop,by simp [hg]⟩
   ·rename_i j want hg
    split at h
    ·rename_i t ht
     split at h
     ·rename_i hlt
      cases h
      exact ⟨rfl,hd',hop,by simp only [hg];exact ⟨t,ht,hlt,rfl⟩⟩
     ·cases h
    ·cases h
  ·cases h
 ·cases h
theorem yielded_bool {E0 E:Env} {w0 w:World} {n:Nat} {σ:St} {a:Act} {ops:Array Oper} {j t:Nat} {b:Bool} (hE:RelE E0 w0 n E σ a w) (q1:(ops[j]?).bind (·.dst) = some t) (q2:t < n) (hb:a.tmps.getD t undef = .bool b):yielded ops a.tmps j = some b:=by
 have hlt:t < a.tmps.size:=by rw [hE.size];exact q2
 have:a.tmps[t]? = some (.bool b):=by
  rw [Array.getD_eq_getD_getElem?] at hb
  rw [Array.getElem?_eq_getElem hlt] at hb ⊢
  simpa using hb
 simp [yielded,q1,this]
theorem yielded_undef {E0 E:Env} {w0 w:World} {n:Nat} {σ:St} {a:Act} {ops:Array Oper} {j t:Nat} (hE:RelE E0 w0 n E σ a w) (q1:(ops[j]?).bind (·.dst) = some t) (q2:t < n) (hb:a.tmps.getD t undef = undef):yielded ops a.tmps j = none:=by
 have hlt:t < a.tmps.size:=by rw [hE.size];exact q2
 have:a.tmps[t]? = some undef:=by
  rw [Array.getD_eq_getD_getElem?] at hb
  rw [Array.getElem?_eq_getElem hlt] at hb ⊢
  simpa using hb
 simp [yielded,q1,this,undef]
theorem RelE.known {E0 E:Env} {w0 w:World} {n:Nat} {σ:St} {a:Act} {t:Nat} {pv:PV} (hE:RelE E0 w0 n E σ a w) (q2:t < n) (hv:V E w pv (a.tmps.getD t undef)):RelE E0 w0 n E { σ with tm:=(t,pv) :: σ.tm } a w:=by
 refine ⟨hE.size,hE.dfr,fun u pv' hu=>?_,hE.ce,hE.ws⟩
 simp only [Go.Proofs.YthcpaohmajjopaaGreatDoor.AM.get] at hu
 split at hu
 ·rename_i e
  subst e
  cases hu
  exact ⟨q2,hv⟩
 ·exact hE.tm u pv' hu
theorem sound_ops {P:Program} {ops:Array Oper} {n:Nat} {E0:Env} {w0:World} {K:St → Prop} {Q:Exit → Act → World → Prop} (hX0:CxOK X E0 w0) (hI0:Inj E0 w0) (hK:∀ σ a w,K σ → Rel E0 w0 n σ a w → Q .normal a w) :
  ∀ (l:List Oper) (k:Nat) (al:List AOper) (σ:St) (a:Act) (w:World),(∀ j,l[j]? = ops[k + j]?) → compileOps P ops n l = some al → Rel E0 w0 n σ a w → wops X P al σ K → wpOps P ops Q (List.range' k l.length) a w
 | [],k,al,σ,a,w,hl,hc,hr,hw=>by
  simp only [compileOps,Option.some.injEq] at hc
  subst hc
  exact hK σ a w hw hr
 | o :: os,k,al,σ,a,w,hl,hc,hr,hw=>by
  simp only [compileOps] at hc
  split at hc
  case h_2=>cases hc
  rename_i x xs h1 h2
  obtain rfl:=Option.some.inj hc
  have h0:ops[k]? = some o:=by simpa using (hl 0).symm
  have hl':∀ j,os[j]? = ops[k + 1 + j]?:=fun j=>by have:=hl (j + 1);simpa [Nat.add_assoc,Nat.add_comm 1 j] using this
  obtain ⟨s1,s2,s3,s4⟩:=compileOper_spec h1
  have ih:=sound_ops (P:=P) (ops:=ops) hX0 hI0 hK os (k + 1) xs
  simp only [List.length_cons,List.range'_succ,wpOps,h0]
  obtain ⟨E,hE⟩:=hr
  have step:∀ {σ1:St},RelE E0 w0 n E σ1 a w → wop X P σ1 x.d x.op (fun σ=>wops X P xs σ K) → o.wp P a w (wpOps P ops Q (List.range' (k + 1) os.length)) Q:=by
   intro σ1 h3 h4
   rw [s1] at h4
   refine Oper.wp_mono ?_ (sound_op s3 (hX0.step hI0 h3.ws) h3 s2 h4)
   rintro a' w' ⟨σ',h5,h6⟩
   exact ih σ' a' w' hl' h2 h6 h5
  simp only [wops] at hw
  cases hg:o.guard with
  | none =>
   rw [hg] at s4
   simp only [s4] at hw
   have:Region.wanted o (yielded ops a.tmps) = true:=by simp [Region.wanted,hg]
   rw [if_pos this]
   exact .inl (step hE hw)
  | some jw =>
   obtain ⟨j,want⟩:=jw
   rw [hg] at s4
   obtain ⟨t,q1,q2,q3⟩:=s4
   simp only [q3] at hw
   have hty:∀ (b:Bool),a.tmps.getD t undef = .bool b → yielded ops a.tmps j = some b:=by
    intro b hb
    have hlt:t < a.tmps.size:=by rw [hE.size];exact q2
    have:a.tmps[t]? = some (.bool b):=by
     rw [Array.getD_eq_getD_getElem?] at hb
     rw [Array.getElem?_eq_getElem hlt] at hb ⊢
     simpa using hb
    simp [yielded,q1,this]
   have hun:a.tmps.getD t undef = undef → yielded ops a.tmps j = none:=by
    intro hb
    have hlt:t < a.tmps.size:=by rw [hE.size];exact q2
    have:a.tmps[t]? = some undef:=by
     rw [Array.getD_eq_getD_getElem?] at hb
     rw [Array.getElem?_eq_getElem hlt] at hb ⊢
     simpa using hb
    simp [yielded,q1,this,undef]
   have hv:=hE.get t
   split at hw
   ·rename_i b hb
    rw [show (get σ.tm t).getD (.lf .undef) = σ.ev (.t t) from rfl,hb] at hv
    have hval:=V_bool hv
    have hy:=hty b hval
    have known:∀ b',b = b' → RelE E0 w0 n E { σ with tm:=(t,.lf (.bool b')) :: σ.tm } a w:=by
     rintro b' rfl
     refine ⟨hE.size,hE.dfr,fun u pv hu=>?_,hE.ce,hE.ws⟩
     simp only [Go.Proofs.YthcpaohmajjopaaGreatDoor.AM.get] at hu
     split at hu
     ·rename_i e
      subst e
      cases hu
      exact ⟨q2,hv⟩
     ·exact hE.tm u pv hu
    by_cases hbw:b = want
    ·have:Region.wanted o (yielded ops a.tmps) = true:=by simp [Region.wanted,hg,hy,hbw]
     rw [if_pos this]
     exact .inl (step (known _ hbw) (hw.1 hbw))
    ·have hbw':b = !want:=by cases b<;>cases want<;>simp_all
     have:¬ Region.wanted o (yielded ops a.tmps) = true:=by simp [Region.wanted,hg,hy,hbw]
     rw [if_neg this]
     have h3:=hw.2 hbw'
     rw [s1] at h3
     exact ih _ _ w hl' h2 ⟨E,(known _ hbw').put s2 (V.no_ E w)⟩ h3
   ·rename_i hb
    rw [show (get σ.tm t).getD (.lf .undef) = σ.ev (.t t) from rfl,hb] at hv
    have hval:a.tmps.getD t undef = undef:=hv
    have hy:=hun hval
    have:¬ Region.wanted o (yielded ops a.tmps) = true:=by simp [Region.wanted,hg,hy]
    rw [if_neg this]
    rw [s1] at hw
    exact ih _ _ w hl' h2 ⟨E,hE.put s2 (V.no_ E w)⟩ hw
   ·exact hw.elim
theorem mapL1_id (v:PV):mapL1 (fun x=>x) v = v:=by cases v<;>simp [mapL1]
theorem mapL_id (v:PV):mapL (fun x=>x) v = v:=by
 cases v with
 | tp vs =>
  simp only [mapL]
  congr 1
  have:mapL1 (fun x:L=>x) = id:=funext mapL1_id
  rw [this];simp
 | lf x=>rfl
 | ag cs=>simp [mapL,mapL1]
theorem RelE.ext {E0 E:Env} {w0 w w':World} {n:Nat} {σ:St} {a:Act} (h:RelE E0 w0 n E σ a w) (hU:Unch (fun _=>False) w w'):RelE E0 w0 n E σ a w':=by
 obtain ⟨hW,hS⟩:=ext_step (m:=σ.m) h.ws.inj hU
 refine ⟨h.size,h.dfr,fun t pv ht=>⟨(h.tm t pv ht).1,?_⟩,fun c cs hc=>?_,h.ws.trans hW⟩
 ·have:=(h.tm t pv ht).2.map (f:=fun x=>x) (E':=E) (w':=w') (fun x v hx=>LeafV.keep hS x v hx)
  rwa [mapL_id] at this
 ·obtain ⟨b,u,T,k1,k2,k3⟩:=h.ce c cs hc
  exact ⟨b,u,T,k1,by rw [hU.block b (lt_of_heap k2) (fun h=>h)];exact k2,k3.imp (fun x v hx=>LeafV.keep hS x v hx)⟩
theorem detL_eq {E:Env} {w:World} {x:L} {v u:Value} (h:detL x = some u) (hv:LeafV E w x v):v = u:=by
 unfold detL at h
 split at h
 case h_6 =>
  cases h
  obtain ⟨A,cap,rfl,rfl,rfl,-,-⟩:=hv
  rfl
 all_goals first | (cases h;done) | (cases h;cases hv;rfl)
theorem detLs_eq {E:Env} {w:World}:∀ {xs:List L} {vs us:List Value},detLs xs = some us → All2 (LeafV E w) xs vs → vs = us
 | [],_,us,h,hv=>by cases hv;simpa [detLs] using h
 | x :: xs,_,us,h,hv=>by
  cases hv with
  | cons h1 h2 =>
   simp only [detLs] at h
   split at h
   ·rename_i v vs' k1 k2
    cases h
    rw [detL_eq k1 h1,detLs_eq k2 h2]
   ·cases h
theorem det1_eq {E:Env} {w:World} {x:PV} {v u:Value} (h:det1 x = some u) (hv:V1 E w x v):v = u:=by
 cases x with
 | lf x=>exact detL_eq h hv
 | ag cs =>
  obtain ⟨us,k1,rfl⟩:=Option.map_eq_some_iff.1 h
  obtain ⟨vs,rfl,h2⟩:=hv
  rw [detLs_eq k1 h2]
 | tp _=>cases h
theorem det1s_eq {E:Env} {w:World}:∀ {xs:List PV} {vs us:List Value},det1s xs = some us → All2 (V1 E w) xs vs → vs = us
 | [],_,us,h,hv=>by cases hv;simpa [det1s] using h
 | x :: xs,_,us,h,hv=>by
  cases hv with
  | cons h1 h2 =>
   simp only [det1s] at h
   split at h
   ·rename_i v vs' k1 k2
    cases h
    rw [det1_eq k1 h1,det1s_eq k2 h2]
   ·cases h
theorem detPV_eq {E:Env} {w:World} {x:PV} {v u:Value} (h:detPV x = some u) (hv:V E w x v):v = u:=by
 cases x with
 | lf x=>exact det1_eq (x:=.lf x) h hv
 | ag cs=>exact det1_eq (x:=.ag cs) h hv
 | tp vs =>
  obtain ⟨us,k1,rfl⟩:=Option.map_eq_some_iff.1 h
  obtain ⟨vs',rfl,h2⟩:=hv
  rw [det1s_eq k1 h2]
theorem detL_mk {x:L} {u:Value} (E:Env) (w:World) (h:detL x = some u):LeafV E w x u:=by
 unfold detL at h
 split at h
 case h_6=>cases h;exact ⟨none,0,rfl,rfl,rfl,rfl,rfl⟩
 ·cases h;exact D.bool _
 ·cases h;exact D.int _ _
 ·cases h;exact D.str _
 ·cases h;exact D.nilp
 ·cases h;exact D.nili
 ·cases h
theorem detLs_mk (E:Env) (w:World):∀ {xs:List L} {us:List Value},detLs xs = some us → All2 (LeafV E w) xs us
 | [],us,h=>by
  simp only [detLs,Option.some.injEq] at h
  subst h
  exact .nil
 | x :: xs,us,h=>by
  simp only [detLs] at h
  split at h
  ·rename_i v vs' k1 k2
   cases h
   exact .cons (detL_mk E w k1) (detLs_mk E w k2)
  ·cases h
theorem det1_mk {x:PV} {u:Value} (E:Env) (w:World) (h:det1 x = some u):V1 E w x u:=by
 cases x with
 | lf x=>exact detL_mk E w h
 | ag cs =>
  obtain ⟨us,k1,rfl⟩:=Option.map_eq_some_iff.1 h
  exact ⟨us,rfl,detLs_mk E w k1⟩
 | tp _=>cases h
theorem det1s_mk (E:Env) (w:World):∀ {xs:List PV} {us:List Value},det1s xs = some us → All2 (V1 E w) xs us
 | [],us,h=>by
  simp only [det1s,Option.some.injEq] at h
  subst h
  exact .nil
 | x :: xs,us,h=>by
  simp only [det1s] at h
  split at h
  ·rename_i v vs' k1 k2
   cases h
   exact .cons (det1_mk E w k1) (det1s_mk E w k2)
  ·cases h
theorem det_V {x:PV} {u:Value} (E:Env) (w:World) (h:detPV x = some u):V E w x u:=by
 cases x with
 | lf x=>exact det1_mk (x:=.lf x) E w h
 | ag cs=>exact det1_mk (x:=.ag cs) E w h
 | tp vs =>
  obtain ⟨us,k1,rfl⟩:=Option.map_eq_some_iff.1 h
  exact ⟨us,rfl,det1s_mk E w k1⟩
theorem compile_as {P:Program} {o:Oper} {e k:Nat} {x:AO} (h:compileOp P o = some (.as e k x)):∃ x',o.op = .assign x' ∧ cOpd P o.type x' = some x:=by
 unfold compileOp at h
 split at h
 case h_2 x' ho =>
  split at h
  ·rename_i y h1
   refine ⟨x',ho,?_⟩
   split at h
   ·obtain ⟨n,_,h2⟩:=Option.map_eq_some_iff.1 h
    cases h2;exact h1
   ·cases h;exact h1
  ·cases h
 all_goals (try (obtain ⟨_,_,h2⟩:=Option.map_eq_some_iff.1 h;cases h2;done))
 all_goals (repeat' split at h)
 all_goals first
  |(cases h;done)
  |(obtain ⟨_,_,h2⟩:=Option.map_eq_some_iff.1 h;cases h2;done)
  |(obtain ⟨_,_,h2⟩:=Option.map_eq_some_iff.1 h;unfold callOf at h2;(repeat' split at h2)<;>cases h2;done)
theorem compile_call {P:Program} {o:Oper} {f:Nat} {args:List AO} (h:compileOp P o = some (.call f args)) :
  ∃ c fn,o.op = .call c ∧ c.callee = .value (.func f) ∧ P.funcs[f]? = some fn ∧ (fn.name == "runtime.NumGoroutine") = false ∧ fn.body.isNone = false ∧ cArgs P c.args.toList fn.params.toList = some args:=by
 unfold compileOp at h
 split at h
 all_goals first
  |(exfalso;(repeat' split at h)<;>first | (cases h;done) | (obtain ⟨_,_,h2⟩:=Option.map_eq_some_iff.1 h;first | (cases h2;done) | (split at h2<;>cases h2;done));done)
  | skip
 rename_i c ho
 split at h
 all_goals first
  |(exfalso;(repeat' split at h)<;>first | (cases h;done) | (obtain ⟨_,_,h2⟩:=Option.map_eq_some_iff.1 h;first | (cases h2;done) | (split at h2<;>cases h2;done));done)
  | skip
 rename_i f' hc
 split at h
 ·rename_i fn hf
  split at h
  ·split at h<;>cases h
  ·rename_i h1
   obtain ⟨args',h2,h3⟩:=Option.map_eq_some_iff.1 h
   unfold callOf at h3
   split at h3
   ·split at h3<;>cases h3
   cases h3
   exact ⟨c,fn,ho,hc,hf,by simpa using fun e=>h1 (.inr e),by cases hb:fn.body with | none=>exact absurd (.inl (by rw [hb];rfl)) h1 | some _=>rfl,h2⟩
 ·cases h
theorem sound_q {P:Program} {o:Oper} {ao:AOp} (h:compileOp P o = some ao) {E0 E:Env} {w0 w:World} {n:Nat} {σ:St} {a:Act} {K:St → Prop} (hX:CxOK X E w) (hr:RelE E0 w0 n E σ a w) (hd:∀ t,o.dst = some t → t < n) (hw:wopq X P σ o.dst ao K) :
  ∃ pv v,(∀ w',Unch (fun _=>False) w w' → o.quietAt P a (Unch (fun _=>False) w) w' v) ∧ V E w pv v ∧ K (σ.put o.dst pv):=by
 have gen:isQ ao = true → wop X P σ o.dst ao K → ∃ pv v,(∀ w',Unch (fun _=>False) w w' → o.quietAt P a (Unch (fun _=>False) w) w' v) ∧ V E w pv v ∧ K (σ.put o.dst pv):=by
  intro hq hw
  obtain ⟨pv,v,h1,h2,h3⟩:=(sound_op' h).2.1 hq hX hr hd hw
  exact ⟨pv,v,fun w' hU=>by unfold Oper.quietAt;rw [h1 w' hU];exact ⟨rfl,rfl⟩,h2,h3⟩
 cases ao<;>simp only [wopq] at hw<;>(try exact gen hw.1 hw.2)
 case as e k x =>
  obtain ⟨x',ho,hx⟩:=compile_as h
  exact ⟨_,_,fun w' hU=>by unfold Oper.quietAt;simp [execOp,ho,Oper.quietUpon],cOpd_ev hx hr,hw.2⟩
 case call f args =>
  obtain ⟨r,hR,hdet,hK⟩:=hw
  obtain ⟨u,hu⟩:=Option.isSome_iff_exists.1 hdet
  obtain ⟨c,fn,ho,hc,hf,hname,hb,ha⟩:=compile_call h
  have key:∀ w',Unch (fun _=>False) w w' → Calls P f (c.args.map a.eval) w' (fun e w''=>∃ v E',e = .returned v ∧ V E' w'' r v ∧ Unch (fun _=>False) w' w''):=by
   intro w' hU
   have hr':=hr.ext hU
   have hall:=cArgs_all hr' c.args.toList fn.params.toList args ha
   have hvs:(c.args.map a.eval) = (c.args.toList.map a.eval).toArray:=by rw [← Array.toList_map]
   have hV:All2 (V ⟨fun b=>E.rd b ∨ ∃ p,E.ω p = some b,fun _=>none,fun _=>none⟩ w') (args.map fun x=>mapL roL (σ.ev x)) (c.args.toList.map a.eval):=by
    have gen:∀ {as:List AO} {us:List Value},All2 (fun x v=>V E w' (σ.ev x) v) as us → All2 (V ⟨fun b=>E.rd b ∨ ∃ p,E.ω p = some b,fun _=>none,fun _=>none⟩ w') (as.map fun x=>mapL roL (σ.ev x)) us:=by
     intro as us h
     induction h with
     | nil=>exact .nil
     | cons q1 q2 ih=>exact .cons (arg_V (fun b h=>.inl h) (fun y _ p b _ h=>.inr ⟨p,h⟩) q1) ih
    exact gen hall
   rw [hvs]
   refine (hR _ w' _ (((hX.step hr.ws.inj (ext_step (m:=0) hr.ws.inj hU).1)).sub (fun b h=>Or.inl h)) (inj_none _ _) (fun _ _=>rfl) hV (fun _ _ h=>by simp at h)).mono ?_
   rintro e w'' ⟨v,E',rfl,W,hv,_⟩
   exact ⟨v,E',rfl,hv,⟨W.un.os,W.un.tape,W.un.output,W.un.size,fun b hb _=>W.un.block b hb (by rintro (⟨c,hc⟩ | ⟨p,hp⟩);(simp at hc);(simp at hp))⟩⟩
  refine ⟨r,u,fun w' hU=>?_,?_,hK⟩
  ·unfold Oper.quietAt
   have he:a.eval (.func f) = .func (.func f) #[] #[]:=rfl
   have run:(execOp a.eval o).run P w' = .ok (.enter f (c.args.map a.eval)) w':=by
    simp only [execOp,ho,resolve,hc,he,Deferred.ofValue,invoke,callFunc,Sem.run_bind,Sem.run_pure,Result.andThen_ok,run_program,hf,hname,hb]
    simp
   rw [run]
   refine ⟨rfl,(key w' hU).mono ?_⟩
   rintro e w'' ⟨v,E',rfl,hv,hU'⟩
   rw [detPV_eq hu hv]
   exact ⟨rfl,⟨hU'.os.trans hU.os,hU'.tape.trans hU.tape,hU'.output.trans hU.output,Nat.le_trans hU.size hU'.size,fun b hb hn=>by rw [hU'.block b (Nat.lt_of_lt_of_le hb hU.size) hn,hU.block b hb hn]⟩⟩
  ·exact det_V E w hu
theorem compileOps_split {P:Program} {ops:Array Oper} {n:Nat} {x:Oper}:∀ (l:List Oper) (al:List AOper),True → compileOps P ops n (l ++ [x]) = some al → ∃ al' ao,al = al' ++ [ao] ∧ compileOps P ops n l = some al' ∧ compileOper P ops n x = some ao
 | [],al,_,h=>by
  simp only [List.nil_append,compileOps] at h
  split at h
  ·rename_i y ys h1 h2
   cases h
   cases h2
   exact ⟨[],y,rfl,rfl,h1⟩
  ·cases h
 | o :: os,al,_,h=>by
  simp only [List.cons_append,compileOps] at h
  split at h
  ·rename_i y ys h1 h2
   cases h
   obtain ⟨al',ao,rfl,k1,k2⟩:=compileOps_split os ys trivial h2
   exact ⟨y :: al',ao,rfl,by simp [compileOps,h1,k1],k2⟩
  ·cases h
theorem wopsT_split {P:Program} {ao:AOper} {K:St → Prop}:∀ (l:List AOper) (σ:St),wopsT X P (l ++ [ao]) σ K = wopsq X P l σ fun σ=>wops X P [ao] σ K
 | [],σ=>rfl
 | o :: os,σ=>by
  have:o :: os ++ [ao] = o :: (os ++ [ao]):=rfl
  rw [this]
  cases h:os ++ [ao] with
  | nil=>simp at h
  | cons y ys =>
   simp only [wopsT,wopsq]
   congr 1
   funext σ'
   rw [← h,wopsT_split os σ']
theorem sound_wq {P:Program} {ops:Array Oper} {n:Nat} {E0 E:Env} {w0 w:World} {K:St → Prop} {Z:Act → Prop} (hX:CxOK X E w) (hK:∀ σ a,K σ → RelE E0 w0 n E σ a w → Z a) :
  ∀ (l:List Oper) (al:List AOper) (σ:St) (a:Act),compileOps P ops n l = some al → RelE E0 w0 n E σ a w → wopsq X P al σ K → wpQuiet P ops (Unch (fun _=>False) w) Z l a
 | [],al,σ,a,hc,hr,hw=>by
  simp only [compileOps,Option.some.injEq] at hc
  subst hc
  exact hK σ a hw hr
 | o :: os,al,σ,a,hc,hE,hw=>by
  simp only [compileOps] at hc
  split at hc
  case h_2=>cases hc
  rename_i x xs h1 h2
  obtain rfl:=Option.some.inj hc
  obtain ⟨s1,s2,s3,s4⟩:=compileOper_spec h1
  have ih:=sound_wq (P:=P) (ops:=ops) hX hK os xs
  simp only [wpQuiet]
  have step:∀ {σ1:St},RelE E0 w0 n E σ1 a w → wopq X P σ1 x.d x.op (fun σ=>wopsq X P xs σ K) → o.quiet P a (Unch (fun _=>False) w) (wpQuiet P ops (Unch (fun _=>False) w) Z os):=by
   intro σ1 h3 h4
   rw [s1] at h4
   obtain ⟨pv,v,k1,k2,k3⟩:=sound_q s3 hX h3 s2 h4
   exact ⟨v,k1,ih _ _ h2 (h3.put s2 k2) k3⟩
  simp only [wopsq,gw] at hw
  cases hg:o.guard with
  | none =>
   rw [hg] at s4
   simp only [s4] at hw
   have:Region.wanted o (yielded ops a.tmps) = true:=by simp [Region.wanted,hg]
   rw [if_pos this]
   exact step hE hw
  | some jw =>
   obtain ⟨j,want⟩:=jw
   rw [hg] at s4
   obtain ⟨t,q1,q2,q3⟩:=s4
   simp only [q3] at hw
   have hv:=hE.get t
   rw [show (get σ.tm t).getD (.lf .undef) = σ.ev (.t t) from rfl] at hv
   split at hw
   ·rename_i b hb
    rw [hb] at hv
    have hval:=V_bool hv
    have hy:=yielded_bool hE q1 q2 hval
    by_cases hbw:b = want
    ·have:Region.wanted o (yielded ops a.tmps) = true:=by simp [Region.wanted,hg,hy,hbw]
     rw [if_pos this]
     exact step (hE.known q2 (hbw ▸ hv)) (hw.1 hbw)
    ·have hbw':b = !want:=by cases b<;>cases want<;>simp_all
     have:¬ Region.wanted o (yielded ops a.tmps) = true:=by simp [Region.wanted,hg,hy,hbw]
     rw [if_neg this]
     have h3:=hw.2 hbw'
     rw [s1] at h3
     exact ih _ _ h2 ((hE.known q2 (hbw' ▸ hv)).put s2 (V.no_ E w)) h3
   ·rename_i hb
    rw [hb] at hv
    have hval:a.tmps.getD t undef = undef:=hv
    have hy:=yielded_undef hE q1 q2 hval
    have:¬ Region.wanted o (yielded ops a.tmps) = true:=by simp [Region.wanted,hg,hy]
    rw [if_neg this]
    rw [s1] at hw
    exact ih _ _ h2 (hE.put s2 (V.no_ E w)) hw
   ·exact hw.elim
theorem compileOps_cut {P:Program} {ops:Array Oper} {n:Nat}:∀ (k:Nat) (l:List Oper) (al:List AOper),compileOps P ops n l = some al → compileOps P ops n (l.take k) = some (al.take k) ∧ compileOps P ops n (l.drop k) = some (al.drop k)
 | 0,l,al,h=>⟨by simp [compileOps],by simpa using h⟩
 | k + 1,[],al,h=>by
  simp only [compileOps,Option.some.injEq] at h
  subst h
  simp [compileOps]
 | k + 1,o :: os,al,h=>by
  simp only [compileOps] at h
  split at h
  ·rename_i y ys h1 h2
   cases h
   obtain ⟨q1,q2⟩:=compileOps_cut k os ys h2
   exact ⟨by simp [compileOps,h1,q1],by simpa using q2⟩
  ·cases h
theorem compile_callp {P:Program} {o:Oper} {f ip:Nat} {args:List AO} (h:compileOp P o = some (.callp f ip args)) :
  ∃ c fn,o.op = .call c ∧ c.callee = .value (.func f) ∧ P.funcs[f]? = some fn ∧ (fn.name == "runtime.NumGoroutine") = false ∧ fn.body.isNone = false ∧ cArgs P c.args.toList fn.params.toList = some args:=by
 unfold compileOp at h
 split at h
 all_goals first
  |(exfalso;(repeat' split at h)<;>first | (cases h;done) | (obtain ⟨_,_,h2⟩:=Option.map_eq_some_iff.1 h;first | (cases h2;done) | (split at h2<;>cases h2;done));done)
  | skip
 rename_i c ho
 split at h
 all_goals first
  |(exfalso;(repeat' split at h)<;>first | (cases h;done) | (obtain ⟨_,_,h2⟩:=Option.map_eq_some_iff.1 h;first | (cases h2;done) | (split at h2<;>cases h2;done));done)
  | skip
 rename_i f' hc
 split at h
 ·rename_i fn hf
  split at h
  ·split at h<;>cases h
  ·rename_i h1
   obtain ⟨args',h2,h3⟩:=Option.map_eq_some_iff.1 h
   unfold callOf at h3
   split at h3
   ·split at h3
    ·cases h3
    cases h3
    exact ⟨c,fn,ho,hc,hf,by simpa using fun e=>h1 (.inr e),by cases hb:fn.body with | none=>exact absurd (.inl (by rw [hb];rfl)) h1 | some _=>rfl,h2⟩
   cases h3
 ·cases h
theorem wpart_det {cs:List L} {off n:Nat} {agg:Bool} {K:PV → Prop} (h:wpart cs off n agg K):∃ pv,K pv ∧ ∀ K',K' pv → wpart cs off n agg K':=by
 unfold wpart at h ⊢
 split at h
 ·rename_i ha;simp only [ha,if_true];exact ⟨_,h.2,fun K' hk=>⟨h.1,hk⟩⟩
 ·rename_i ha
  simp only [ha,if_false]
  obtain ⟨c,h1,h2⟩:=h
  exact ⟨_,h2,fun K' hk=>⟨c,h1,hk⟩⟩
theorem wbin_det {op:BinOp} {x y:PV} {K:PV → Prop} (h:wbin op x y K):∃ pv,K pv ∧ ∀ K',K' pv → wbin op x y K':=by
 unfold wbin at h ⊢
 split at h
 ·cases op<;>simp only at h ⊢
  case quo=>exact ⟨_,h.2.2,fun K' hk=>⟨h.1,h.2.1,hk⟩⟩
  case rem=>exact ⟨_,h.2.2,fun K' hk=>⟨h.1,h.2.1,hk⟩⟩
  all_goals exact ⟨_,h.2,fun K' hk=>⟨h.1,hk⟩⟩
 ·cases op<;>simp only at h ⊢
  case add=>exact ⟨_,h.2,fun K' hk=>⟨h.1,hk⟩⟩
  all_goals first
   | exact h.elim
   | exact ⟨_,h,fun K' hk=>hk⟩
 ·exact h.elim
theorem wop_det {P:Program} {σ:St} {d:Option Nat} {op:AOp} {K:St → Prop} (hk:isK op = true) (h:wop X P σ d op K):∃ pv,K (σ.put d pv) ∧ ∀ K',K' (σ.put d pv) → wop X P σ d op K':=by
 cases op<;>simp only [isK,reduceCtorEq] at hk<;>simp only [wop] at h ⊢
 case mv=>exact ⟨_,h,fun K' hk=>hk⟩
 case bin=>obtain ⟨pv,h1,h2⟩:=wbin_det h;exact ⟨pv,h1,fun K' hk=>h2 _ hk⟩
 case cvi =>
  split at h
  ·exact ⟨_,h,fun K' hk=>hk⟩
  ·exact h.elim
 case fa =>
  split at h
  all_goals first
   | exact h.elim
   | exact ⟨_,h,fun K' hk=>hk⟩
 case iaa =>
  split at h
  all_goals first
   | exact h.elim
   | exact ⟨_,h.2,fun K' hk=>⟨h.1,hk⟩⟩
 case ld =>
  split at h
  all_goals first
   | exact h.elim
   |(obtain ⟨hi,h2⟩:=h;obtain ⟨pv,h3,h4⟩:=wpart_det h2;exact ⟨pv,h3,fun K' hk=>⟨hi,h4 _ hk⟩⟩)
   |(obtain ⟨cs,h1,h2⟩:=h;obtain ⟨pv,h3,h4⟩:=wpart_det h2;exact ⟨pv,h3,fun K' hk=>⟨cs,h1,h4 _ hk⟩⟩)
   |(obtain ⟨pv,h3,h4⟩:=wpart_det h;exact ⟨pv,h3,fun K' hk=>h4 _ hk⟩)
 case nc =>
  split at h
  all_goals first
   | exact h.elim
   | exact ⟨_,h,fun K' hk=>hk⟩
theorem isQ_of_isK {op:AOp} (h:isK op = true):isQ op = true:=by
 cases op<;>simp [isK,isQ] at h ⊢
theorem detK_eq {E E':Env} {w w':World} {pv:PV} {v v':Value} (hd:detK pv = true) (hκ:E'.κ = E.κ) (h:V E w pv v) (h':V E' w' pv v'):v' = v:=by
 cases pv with
 | lf x =>
  cases x<;>simp only [detK,Bool.false_eq_true,reduceCtorEq] at hd
  case ptr c o =>
   obtain ⟨b,h1,h2⟩:=h
   obtain ⟨b',h3,h4⟩:=h'
   rw [hκ,h1] at h3
   cases h3
   rw [h2,h4]
  all_goals
   (cases h;cases h';rfl)
 | ag _=>simp [detK] at hd
 | tp _=>simp [detK] at hd
theorem detK_cut {c:Nat} {pv:PV} (hd:detK pv = true):mapL (killCl c) pv = pv:=by
 cases pv with
 | lf x=>cases x<;>first | rfl | (simp [detK] at hd)
 | ag _=>simp [detK] at hd
 | tp _=>simp [detK] at hd
theorem Cut.put {c t:Nat} {σ:St} {pv:PV} (h:Cut c σ) (hd:detK pv = true):Cut c (σ.put (some t) pv):=by
 refine ⟨h.1,fun u pv' hu=>?_,h.2.2⟩
 simp only [St.put,Go.Proofs.YthcpaohmajjopaaGreatDoor.AM.get] at hu
 split at hu
 ·cases hu;exact detK_cut hd
 ·exact h.2.1 u pv' hu
theorem put_inj {σ:St} {t:Nat} {x y:PV} (h:σ.put (some t) x = σ.put (some t) y):x = y:=by
 simp only [St.put,St.mk.injEq,List.cons.injEq,Prod.mk.injEq,true_and,and_true] at h
 exact h
def WK (X:Cx) (c:Nat) (E:Env) (w:World) (w':World):Prop:=∃ E1,CxOK X E1 w' ∧ KeepK c E w E1 w'
theorem KeepK.refl (c:Nat) (E:Env) (w:World):KeepK c E w E w:=⟨rfl,fun _ _ _ _ _ _ h=>h⟩
theorem sound_hd {P:Program} {ops:Array Oper} {n:Nat} {E0 E:Env} {w0 w:World} {c:Nat} {K:St → Prop} {Z:Act → Prop} (hX:CxOK X E w) (hK:∀ σ a,K σ → Cut c σ → RelE E0 w0 n E σ a w → Z a) :
  ∀ (is:List Nat) (al:List AOper) (σ:St) (a:Act),compileAt P ops n is = some al → okHd al = true → Cut c σ → RelE E0 w0 n E σ a w → wopsk X P al σ K → wpYs P ops (WK X c E w) Z is a
 | [],al,σ,a,hc,_,hcut,hr,hw=>by
  simp only [compileAt,Option.some.injEq] at hc
  subst hc
  exact hK σ a hw hcut hr
 | i :: is,al,σ,a,hc,hok,hcut,hr,hw=>by
  simp only [compileAt] at hc
  split at hc
  case h_2=>cases hc
  rename_i o ho
  split at hc
  case h_2=>cases hc
  rename_i x xs h1 h2
  obtain rfl:=Option.some.inj hc
  simp only [okHd,List.all_cons,Bool.and_eq_true,Option.isNone_iff_eq_none] at hok
  obtain ⟨⟨hg,hk⟩,hok'⟩:=hok
  obtain ⟨s1,s2,s3,s4⟩:=compileOper_spec h1
  simp only [wopsk] at hw
  rw [s1] at hw
  have hguard:o.guard = none:=by
   cases hgg:o.guard with
   | none=>rfl
   | some jw =>
    obtain ⟨j,want⟩:=jw
    rw [hgg] at s4
    obtain ⟨t,_,_,q⟩:=s4
    rw [hg] at q;cases q
  have hwant:Region.wanted o (yielded ops a.tmps) = true:=by simp [Region.wanted,hguard]
  cases hdst:o.dst with
  | none =>
   rw [hdst] at hw
   obtain ⟨pv,h3,_⟩:=wop_det hk hw
   cases h3.1
  | some t =>
   rw [hdst] at hw
   obtain ⟨pv,⟨h3,h3'⟩,h4⟩:=wop_det hk hw
   have hdet:detK pv = true:=by simpa [detD,detG,St.put,Go.Proofs.YthcpaohmajjopaaGreatDoor.AM.get] using h3
   have at_:∀ (E1:Env) (w1:World),CxOK X E1 w1 → RelE E0 w0 n E1 σ a w1 → ∃ v,(execOp a.eval o).run P w1 = .ok (.value v) w1 ∧ V E1 w1 pv v:=by
    intro E1 w1 hX1 hr1
    have hw1:=h4 (fun σ'=>σ' = σ.put (some t) pv) rfl
    rw [← hdst] at hw1
    obtain ⟨pv',v,k1,k2,k3⟩:=(sound_op' s3).2.1 (isQ_of_isK hk) hX1 hr1 s2 hw1
    rw [hdst] at k3
    have:=put_inj k3
    subst this
    exact ⟨v,k1 w1 (Unch.refl _ _),k2⟩
   obtain ⟨v,g1,g2⟩:=at_ E w hX hr
   refine ⟨o,v,ho,.inl ⟨hwant,?_⟩,?_⟩
   ·rintro w1 ⟨E1,hX1,hκ,hkeep⟩
    obtain ⟨v1,g3,g4⟩:=at_ E1 w1 hX1 (hkeep E0 w0 n σ a hcut hr)
    rw [g3,detK_eq hdet hκ g2 g4]
   ·have hr':=hr.put s2 (by exact g2)
    rw [hdst] at hr'
    rw [hdst]
    exact sound_hd hX hK is xs _ _ h2 hok' (hcut.put hdet) hr' h3'
theorem sound_rest {P:Program} {ops:Array Oper} {n m:Nat} {E0 E:Env} {w0 w:World} {c:Nat} {K:St → Prop} {Q:Exit → Act → World → Prop} (hX0:CxOK X E0 w0) (hI0:Inj E0 w0) (hK:∀ σ a w,K σ → Rel E0 w0 n σ a w → Q .normal a w) (hm:m + 1 = ops.size) :
  ∀ (is:List Nat) (al:List AOper) (σ:St) (a:Act) (w1:World) (E1:Env),compileAt P ops n is = some al → okRest m is al = true → WK X c E w w1 → RelE E0 w0 n E1 σ a w1 → wops X P al σ K → wpTl P ops Q (WK X c E w) m is a w1
 | [],al,σ,a,w1,E1,hc,hok,_,hr,hw=>by simp [okRest] at hok
 | i :: is,al,σ,a,w1,E1,hc,hok,hS,hr,hw=>by
  simp only [compileAt] at hc
  split at hc
  case h_2=>cases hc
  rename_i o ho
  split at hc
  case h_2=>cases hc
  rename_i x xs h1 h2
  obtain rfl:=Option.some.inj hc
  obtain ⟨s1,s2,s3,s4⟩:=compileOper_spec h1
  have hX1:=hX0.step hI0 hr.ws
  by_cases hlast:is = [] ∧ xs = []
  ·obtain ⟨rfl,rfl⟩:=hlast
   simp only [okRest,beq_iff_eq] at hok
   subst hok
   simp only [wpTl]
   have:=sound_ops (P:=P) (ops:=ops) (n:=n) (E0:=E0) (w0:=w0) (K:=K) (Q:=Q) hX0 hI0 hK [o] i [x] σ a w1 (fun j=>by
    cases j with
    | zero=>simpa using ho.symm
    | succ j=>simp;omega) (by simp [compileOps,h1]) ⟨E1,hr⟩ hw
   simp only [List.length_cons,List.length_nil,List.range'_one,wpOps_cons] at this
   refine wpOp_mono (fun a' w' hq=>⟨fun h=>absurd rfl h,hq⟩) this
  ·have hok':x.g = none ∧ isQ x.op = true ∧ okRest m is xs = true:=by
    cases is with
    | nil =>
     cases xs with
     | nil=>exact absurd ⟨rfl,rfl⟩ hlast
     | cons _ _=>simp [okRest] at hok
    | cons i' is =>
     cases xs with
     | nil=>simp [compileAt] at h2;(repeat' split at h2)<;>simp at h2
     | cons x' xs =>
      simp only [okRest,Bool.and_eq_true,Option.isNone_iff_eq_none] at hok
      exact ⟨hok.1.1,hok.1.2,by simpa using hok.2⟩
   obtain ⟨hg,hq,hok''⟩:=hok'
   have hguard:o.guard = none:=by
    cases hgg:o.guard with
    | none=>rfl
    | some jw =>
     obtain ⟨j,want⟩:=jw
     rw [hgg] at s4
     obtain ⟨t,_,_,q⟩:=s4
     rw [hg] at q;cases q
   have hwant:Region.wanted o (yielded ops a.tmps) = true:=by simp [Region.wanted,hguard]
   simp only [wops,hg] at hw
   rw [s1] at hw
   obtain ⟨pv,v,k1,k2,k3⟩:=(sound_op' s3).2.1 hq hX1 hr s2 hw
   simp only [wpTl,wpOp,ho,hwant,if_true]
   exact .inl (wp_value (k1 w1 (Unch.refl _ _)) ⟨fun _=>hS,sound_rest hX0 hI0 hK hm is xs _ _ w1 E1 h2 hok'' hS (hr.put s2 k2) k3⟩)
theorem sound_hz {P:Program} {ops:Array Oper} {n:Nat} {E0 E:Env} {w0 w:World} {anc:List Nat} {K:St → Prop} {Z:Act → Prop} (hX:CxOK X E w) (hK:∀ σ a,K σ → RelE E0 w0 n E σ a w → Z a) :
  ∀ (is:List Nat) (al:List AOper) (σ:St) (a:Act),compileAt P ops n is = some al → okSrt anc is al = true → RelE E0 w0 n E σ a w → wopsq X P al σ K → wpYz P ops anc (Unch (fun _=>False) w) Z is a
 | [],al,σ,a,hc,_,hr,hw=>by
  simp only [compileAt,Option.some.injEq] at hc
  subst hc
  exact hK σ a hw hr
 | i :: is,al,σ,a,hc,hok,hr,hw=>by
  simp only [compileAt] at hc
  split at hc
  case h_2=>cases hc
  rename_i o ho
  split at hc
  case h_2=>cases hc
  rename_i x xs h1 h2
  obtain rfl:=Option.some.inj hc
  simp only [okSrt,Bool.and_eq_true,Option.isNone_iff_eq_none,Bool.or_eq_true] at hok
  obtain ⟨⟨hg,hk⟩,hok'⟩:=hok
  obtain ⟨s1,s2,s3,s4⟩:=compileOper_spec h1
  have hguard:o.guard = none:=by
   cases hgg:o.guard with
   | none=>rfl
   | some jw =>
    obtain ⟨j,want⟩:=jw
    rw [hgg] at s4
    obtain ⟨t,_,_,q⟩:=s4
    rw [hg] at q;cases q
  have hwant:Region.wanted o (yielded ops a.tmps) = true:=by simp [Region.wanted,hguard]
  have hq:isQ x.op = true:=by
   rcases hk with hk | hk
   ·cases hx:x.op<;>rw [hx] at hk<;>simp [isU] at hk<;>rfl
   ·exact hk.1
  simp only [wopsq,gw,hg] at hw
  rw [s1] at hw
  have hw':wop X P σ o.dst x.op (fun σ=>wopsq X P xs σ K):=by
   cases hx:x.op<;>rw [hx] at hw hq<;>simp only [wopq] at hw<;>first | exact hw.2 | (simp [isQ] at hq)
  rcases hk with hk | hk
  ·obtain ⟨pv,v,k1,k2,k3⟩:=(sound_op' s3).2.2.1 hk hX hr s2 hw'
   exact ⟨o,v,ho,.inl (.inl ⟨hwant,fun w' _=>k1 w'⟩),sound_hz hX hK is xs _ _ h2 hok' (hr.put s2 k2) k3⟩
  ·obtain ⟨pv,v,k1,k2,k3⟩:=(sound_op' s3).2.1 hq hX hr s2 hw'
   exact ⟨o,v,ho,.inr ⟨by simpa using hk.2,.inl ⟨hwant,fun w' hU=>k1 w' hU⟩⟩,sound_hz hX hK is xs _ _ h2 hok' (hr.put s2 k2) k3⟩
theorem sound_row {P:Program} {ops:Array Oper} {n:Nat} {E0:Env} {w0:World} {K:St → Prop} {Q:Exit → Act → World → Prop} (hX0:CxOK X E0 w0) (hI0:Inj E0 w0) (hK:∀ σ a w,K σ → Rel E0 w0 n σ a w → Q .normal a w) :
  ∀ (is:List Nat) (al:List AOper) (σ:St) (a:Act) (w:World),compileAt P ops n is = some al → (al.all fun o=>o.g.isNone) = true → Rel E0 w0 n σ a w → wops X P al σ K → wpOps P ops Q is a w
 | [],al,σ,a,w,hc,_,hr,hw=>by
  simp only [compileAt,Option.some.injEq] at hc
  subst hc
  exact hK σ a w hw hr
 | i :: is,al,σ,a,w,hc,hok,hr,hw=>by
  simp only [compileAt] at hc
  split at hc
  case h_2=>cases hc
  rename_i o ho
  split at hc
  case h_2=>cases hc
  rename_i x xs h1 h2
  obtain rfl:=Option.some.inj hc
  simp only [List.all_cons,Bool.and_eq_true,Option.isNone_iff_eq_none] at hok
  obtain ⟨hg,hok'⟩:=hok
  obtain ⟨s1,s2,s3,s4⟩:=compileOper_spec h1
  have hguard:o.guard = none:=by
   cases hgg:o.guard with
   | none=>rfl
   | some jw =>
    obtain ⟨j,want⟩:=jw
    rw [hgg] at s4
    obtain ⟨t,_,_,q⟩:=s4
    rw [hg] at q;cases q
  have hwant:Region.wanted o (yielded ops a.tmps) = true:=by simp [Region.wanted,hguard]
  simp only [wops,hg] at hw
  rw [s1] at hw
  obtain ⟨E,hE⟩:=hr
  rw [wpOps_cons]
  simp only [wpOp,ho,hwant,if_true]
  refine .inl (Oper.wp_mono ?_ (sound_op s3 (hX0.step hI0 hE.ws) hE s2 hw))
  rintro a' w' ⟨σ',h5,h6⟩
  exact sound_row hX0 hI0 hK is xs σ' a' w' h2 hok' h6 h5
theorem sound_srt {P:Program} {ops:Array Oper} {n:Nat} {E0 E:Env} {w0 w:World} {id:Nat} {l hd tl:List AOper} {K:St → Prop} {Q:Exit → Act → World → Prop} {σ:St} {a:Act} (hX0:CxOK X E0 w0) (hI0:Inj E0 w0) (hK:∀ σ a w,K σ → Rel E0 w0 n σ a w → Q .normal a w) (hQ:∀ c a w,Q (.panic c) a w → False)
  (hm:P.follows .mixedOrders = true) (hc:srtAt P ops n l = some (.reg hd tl [])) (hr:RelE E0 w0 n E σ a w) (hw:wopsq X P hd σ fun σ=>wops X P tl σ K):(Code.region id ops true).wp P Q a w:=by
 unfold srtAt at hc
 split at hc
 case h_2=>cases hc
 split at hc
 case h_2=>cases hc
 rename_i s r _
 simp only at hc
 split at hc
 case h_2=>cases hc
 rename_i hd' tl' c1 c2
 split at hc
 case isFalse=>cases hc
 rename_i hok
 simp only [Option.some.injEq,AC.reg.injEq,and_true] at hc
 obtain ⟨rfl,rfl⟩:=hc
 simp only [Bool.and_eq_true,decide_eq_true_eq] at hok
 obtain ⟨⟨⟨hB,hokh⟩,hokt⟩,hs⟩:=hok
 have hU:Unch (fun _=>False) w { w with drawn:=w.drawn + 1 }:=⟨rfl,rfl,rfl,Nat.le_refl _,fun _ _ _=>rfl⟩
 have hr1:=hr.ext hU
 refine wp_region_srt (S0:=Unch (fun _=>False) { w with drawn:=w.drawn + 1 }) hm hB hs hQ (Unch.refl _ _) ?_
 refine sound_hz (n:=n) (E0:=E0) (w0:=w0) (hX0.step hI0 hr1.ws) (fun σ1 a1 hk hr2=>?_) _ hd' σ a c1 hokh hr1 hw
 exact sound_row hX0 hI0 hK _ tl' σ1 a1 _ c2 hokt ⟨E,hr2⟩ hk
theorem sound_drw {P:Program} {ops:Array Oper} {src:AO} {n s:Nat} {E0 E:Env} {w0 w:World} {id:Nat} {hd tl:List AOper} {K:St → Prop} {Q:Exit → Act → World → Prop} {σ:St} {a:Act} (hX0:CxOK X E0 w0) (hI0:Inj E0 w0) (hK:∀ σ a w,K σ → Rel E0 w0 n σ a w → Q .normal a w) (hQ:∀ c a w,Q (.panic c) a w → False)
  (hm:P.follows .mixedOrders = true) (hc:drwAt P ops n s = some (.drw src hd tl [])) (hr:RelE E0 w0 n E σ a w) (hw:wdrw X P src hd σ K tl):(Code.region id ops true).wp P Q a w:=by
 unfold drwAt at hc
 simp only at hc
 generalize descFrom ops (ops.size - (s + 1)) (s + 1) [s] = tlI at hc
 generalize (List.range ops.size).filter (fun i=>!tlI.contains i) = hdI at hc
 split at hc
 case h_2=>cases hc
 rename_i hd' tl' c1 c2
 split at hc
 case isFalse=>cases hc
 rename_i hok
 simp only [Option.some.injEq,AC.drw.injEq,and_true] at hc
 obtain ⟨_,rfl,rfl⟩:=hc
 simp only [Bool.and_eq_true] at hok
 obtain ⟨⟨hB,hokh⟩,hokt⟩:=hok
 have hU:Unch (fun _=>False) w { w with drawn:=w.drawn + 1 }:=⟨rfl,rfl,rfl,Nat.le_refl _,fun _ _ _=>rfl⟩
 have hr1:=hr.ext hU
 have hX1:=hX0.step hI0 hr1.ws
 cases tl' with
 | nil=>exact hw.elim
 | cons o rest =>
  cases tlI with
  | nil=>simp [compileAt] at c2
  | cons i is =>
   simp only [compileAt] at c2
   split at c2
   case h_2=>cases c2
   rename_i oo ho
   split at c2
   case h_2=>cases c2
   rename_i x xs h1 h2
   cases c2
   simp only [okTl,Bool.and_eq_true,Option.isNone_iff_eq_none] at hokt
   obtain ⟨⟨hg,hcp⟩,hokr⟩:=hokt
   obtain ⟨s1,s2,s3,s4⟩:=compileOper_spec h1
   have hguard:oo.guard = none:=by
    cases hgg:oo.guard with
    | none=>rfl
    | some jw =>
     obtain ⟨j,want⟩:=jw
     rw [hgg] at s4
     obtain ⟨t,_,_,q⟩:=s4
     rw [hg] at q;cases q
   simp only [wdrw] at hw
   split at hw
   case h_2=>exact hw.elim
   rename_i f ip args hop
   split at hw
   case h_2=>exact hw.elim
   rename_i c hip
   obtain ⟨cs,hcs,hw⟩:=hw
   have hlt:i < ops.size:=(Array.getElem?_eq_some_iff.1 ho).1
   refine wp_region_drw (S:=WK X c E { w with drawn:=w.drawn + 1 }) hm hB hQ ⟨E,hX1,KeepK.refl _ _ _⟩ ?_
   refine sound_hd (n:=n) (E0:=E0) (w0:=w0) hX1 (fun σ1 a1 hk hcut hr2=>?_) hdI hd' _ a c1 hokh (Cut.cutc c σ) (hr1.cutc c) hw
   obtain ⟨g1,g2,g3⟩:=hk
   have hwant:Region.wanted oo (yielded ops a1.tmps) = true:=by simp [Region.wanted,hguard]
   rw [hop] at s3
   obtain ⟨cl,fn,q1,q2,q3,q4,q5,q6⟩:=compile_callp s3
   have hr3:RelE E0 w0 n E { m:=σ1.m,tm:=σ1.tm,ce:=(c,cs) :: σ1.ce } a1 { w with drawn:=w.drawn + 1 }:=by
    refine ⟨hr2.size,hr2.dfr,hr2.tm,fun c' cs' h=>?_,hr2.ws⟩
    simp only [Go.Proofs.YthcpaohmajjopaaGreatDoor.AM.get] at h
    split at h
    ·rename_i e
     cases h
     subst e
     exact hr1.ce _ _ hcs
    ·exact hr2.ce c' cs' h
   rw [s1] at g3
   simp only [wpTl,wpOp,ho,hwant,if_true]
   refine .inl (Oper.wp_mono ?_ (sound_callpk (K:=fun σ=>wops X P rest σ K) q1 q2 q3 q4 q5 q6 hX1 hr3 s2 g1 g2 g3))
   rintro a' w' ⟨σ',E1,k1,k2,k3⟩
   have hS:WK X c E { w with drawn:=w.drawn + 1 } w':=⟨E1,hX0.step hI0 k2.ws,k3⟩
   exact ⟨fun _=>hS,sound_rest (E:=E) (w:={ w with drawn:=w.drawn + 1 }) hX0 hI0 hK (by omega) is rest σ' a' w' E1 h2 hokr hS k2 k1⟩
theorem sound_hdg {P:Program} {ops:Array Oper} {n m:Nat} {E:Env} {w:World} {cs ts:List Nat} {ce:List (Nat × List L)} {a0:Act} {K:St → Prop} {Z:Act → Prop} (hX:CxOK X E w)
  (hK:∀ σf a,K σf → RelE E w n E σf a w → (∀ t ∈ ts,a.tmps.getD t undef = a0.tmps.getD t undef) → Z a) :
  ∀ (is:List Nat) (al:List AOper) (σ σf:St) (a:Act),compileAt P ops n is = some al → okHd al = true → GoodS cs ce m σ → RelE E w n E σ a w → RelE E w n E σf a w → (∀ t ∈ ts,a.tmps.getD t undef = a0.tmps.getD t undef) → (∀ o ∈ al,∀ t ∈ ts,o.d ≠ some t) →
   wopsg X P cs al σ σf K → wpYs P ops (SG X cs ce m E w) Z is a
 | [],al,σ,σf,a,hc,_,_,_,hf,ht,_,hw=>by
  simp only [compileAt,Option.some.injEq] at hc
  subst hc
  exact hK σf a hw hf ht
 | i :: is,al,σ,σf,a,hc,hok,hg,hr,hf,ht,hav,hw=>by
  simp only [compileAt] at hc
  split at hc
  case h_2=>cases hc
  rename_i o ho
  split at hc
  case h_2=>cases hc
  rename_i x xs h1 h2
  obtain rfl:=Option.some.inj hc
  simp only [okHd,List.all_cons,Bool.and_eq_true,Option.isNone_iff_eq_none] at hok
  obtain ⟨⟨hgn,hk⟩,hok'⟩:=hok
  obtain ⟨s1,s2,s3,s4⟩:=compileOper_spec h1
  simp only [wopsg] at hw
  have hd1:=hav x (List.mem_cons_self ..)
  have hguard:o.guard = none:=by
   cases hgg:o.guard with
   | none=>rfl
   | some jw =>
    obtain ⟨j,want⟩:=jw
    rw [hgg] at s4
    obtain ⟨t,_,_,q⟩:=s4
    rw [hgn] at q;cases q
  have hwant:Region.wanted o (yielded ops a.tmps) = true:=by simp [Region.wanted,hguard]
  have keepT:∀ (v:Value),(∀ u ∈ ts,(a.put o.dst v).tmps.getD u undef = a0.tmps.getD u undef):=by
   intro v u hu
   rw [s1] at hd1
   cases hdst:o.dst with
   | none=>exact ht u hu
   | some t =>
    simp only [Act.put]
    rw [getD_set_ne _ _ _ _ _ (fun e=>hd1 u hu (by rw [hdst,e]))]
    exact ht u hu
  have keepG:∀ (pv:PV),(goodV cs pv = true ∨ pv = .lf .undef) → GoodS cs ce m (σ.put o.dst pv):=by
   intro pv hpv
   cases hdst:o.dst with
   | none=>exact hg
   | some t =>
    refine ⟨hg.1,hg.2.1,fun u pv' hu=>?_⟩
    simp only [St.put,Go.Proofs.YthcpaohmajjopaaGreatDoor.AM.get] at hu
    split at hu
    ·cases hu;exact hpv
    ·exact hg.2.2 u pv' hu
  split at hw
  ·rename_i y hmv
   have hop:x.op = .mv y:=by
    cases hx:x.op<;>rw [hx] at hmv<;>simp [mvOf] at hmv
    rw [hmv]
   rw [s1] at hw
   rw [hop] at s3
   obtain ⟨pv,v,k1,k2,k3⟩:=(sound_op' s3).2.2.1 rfl hX hf s2 (K:=fun σ'=>σ' = σf.put o.dst (σf.ev y)) (by simp only [wop])
   obtain ⟨pv',v',k1',k2',k3'⟩:=(sound_op' s3).2.2.1 rfl hX hr s2 (K:=fun σ'=>σ' = σ.put o.dst (σ.ev y)) (by simp only [wop])
   obtain rfl:v' = v:=by
    have h1:=k1 w
    have h2:=k1' w
    rw [h1] at h2
    simpa using h2.symm
   refine ⟨o,v',ho,.inl ⟨hwant,fun w1 _=>k1 w1⟩,?_⟩
   have hf':=hf.put s2 k2
   rw [k3] at hf'
   have hr':=hr.put s2 k2'
   rw [k3'] at hr'
   have hr2:RelE E w n E (σ.put o.dst (cutG cs (σ.ev y))) (a.put o.dst v') w:=by
    cases hdst:o.dst with
    | none=>rw [hdst] at hr';exact hr'
    | some t =>
     rw [hdst] at hr'
     refine ⟨hr'.size,hr'.dfr,fun u pv'' hu=>?_,hr'.ce,hr'.ws⟩
     simp only [St.put,Go.Proofs.YthcpaohmajjopaaGreatDoor.AM.get] at hu
     split at hu
     ·rename_i e
      cases hu
      subst e
      have:=hr'.tm t (σ.ev y) (by simp [St.put,Go.Proofs.YthcpaohmajjopaaGreatDoor.AM.get])
      refine ⟨this.1,?_⟩
      unfold cutG
      split
      ·exact this.2
      ·exact trivial
     ·rename_i e
      exact hr'.tm u pv'' (by simp only [St.put,Go.Proofs.YthcpaohmajjopaaGreatDoor.AM.get];rw [if_neg e];exact hu)
   exact sound_hdg hX hK is xs (σ.put o.dst (cutG cs (σ.ev y))) (σf.put o.dst (σf.ev y)) _ h2 hok' (keepG _ (by
    unfold cutG
    split
    ·rename_i h;exact .inl (goodV_of0 h)
    ·exact .inr rfl)) hr2 hf' (keepT v') (fun o' ho'=>hav o' (List.mem_cons_of_mem _ ho')) hw
  rw [s1] at hw
  cases hdst:o.dst with
  | none =>
   rw [hdst] at hw
   obtain ⟨pv,h3,_⟩:=wop_det hk hw
   cases h3.1
  | some t =>
   rw [hdst] at hw
   obtain ⟨pv,⟨h3,h3'⟩,h4⟩:=wop_det hk hw
   have hgood:goodV cs pv = true:=by simpa [goodD,goodO,St.put,Go.Proofs.YthcpaohmajjopaaGreatDoor.AM.get] using h3
   have hev:evD (σ.put (some t) pv) (some t) = pv:=by simp [evD,St.ev,St.put,Go.Proofs.YthcpaohmajjopaaGreatDoor.AM.get]
   rw [hev] at h3'
   have at_:∀ (E1:Env) (w1:World),CxOK X E1 w1 → RelE E w n E1 σ a w1 → ∃ v,(execOp a.eval o).run P w1 = .ok (.value v) w1 ∧ V E1 w1 pv v:=by
    intro E1 w1 hX1 hr1
    have hw1:=h4 (fun σ'=>σ' = σ.put (some t) pv) rfl
    rw [← hdst] at hw1
    obtain ⟨pv',v,k1,k2,k3⟩:=(sound_op' s3).2.1 (isQ_of_isK hk) hX1 hr1 s2 hw1
    rw [hdst] at k3
    have:=put_inj k3
    subst this
    exact ⟨v,k1 w1 (Unch.refl _ _),k2⟩
   obtain ⟨v,g1,g2⟩:=at_ E w hX hr
   refine ⟨o,v,ho,.inl ⟨hwant,?_⟩,?_⟩
   ·rintro w1 ⟨E1,hX1,hkeep⟩
    obtain ⟨v1,g3,g4⟩:=at_ E1 w1 hX1 (hkeep.rel hg hr)
    rw [g3,goodV_eq hgood hkeep.kp g2 g4]
   ·have hr':=hr.put s2 (by exact g2)
    have hf':=hf.put s2 (by exact g2)
    have hkt:=keepT v
    have hkg:=keepG pv (.inl hgood)
    rw [hdst] at hr' hf' hkt hkg
    rw [hdst]
    exact sound_hdg hX hK is xs (σ.put (some t) pv) (σf.put (some t) pv) _ h2 hok' hkg hr' hf' hkt (fun o' ho'=>hav o' (List.mem_cons_of_mem _ ho')) h3'
theorem sound_rowg {P:Program} {ops:Array Oper} {n k:Nat} {E0 E:Env} {w0 w:World} {ts:List Nat} {σ0:St} {a0:Act} {K:St → Prop} {Q:Exit → Act → World → Prop} (hX:CxOK X E w) (hK:∀ σ a w,K σ → Rel E0 w0 n σ a w → Q .normal a w)
  (hr0:RelE E w n E σ0 a0 w) (hws:WStep σ0.m E0 w0 E w) (hk:∀ o,ops[k]? = some o → True) :
  ∀ (is:List Nat) (al:List AOper) (σ:St) (a:Act) (w1:World) (E1:Env),compileAt P ops n is = some al → (al.all fun o=>o.g.isNone) = true → is.getLast? = some k → RelE E w n E1 σ a w1 → (∀ t ∈ ts,a.tmps.getD t undef = a0.tmps.getD t undef) → (∀ o ∈ al,∀ t ∈ ts,o.d ≠ some t) →
   wopsr X P σ0 ts al σ K → wpTl P ops Q (SG X (ptrsAt σ0 ts) (cellsAt σ0 (ptrsAt σ0 ts)) σ0.m E w) k is a w1
 | [],al,σ,a,w1,E1,hc,_,hl,_,_,_,hw=>by simp at hl
 | i :: is,al,σ,a,w1,E1,hc,hok,hl,hr,ht,hav,hw=>by
  simp only [compileAt] at hc
  split at hc
  case h_2=>cases hc
  rename_i o ho
  split at hc
  case h_2=>cases hc
  rename_i x xs h1 h2
  obtain rfl:=Option.some.inj hc
  obtain ⟨s1,s2,s3,s4⟩:=compileOper_spec h1
  simp only [List.all_cons,Bool.and_eq_true,Option.isNone_iff_eq_none] at hok
  obtain ⟨hgn,hok'⟩:=hok
  have hd1:=hav x (List.mem_cons_self ..)
  have hguard:o.guard = none:=by
   cases hgg:o.guard with
   | none=>rfl
   | some jw =>
    obtain ⟨j,want⟩:=jw
    rw [hgg] at s4
    obtain ⟨t,_,_,q⟩:=s4
    rw [hgn] at q;cases q
  have hwant:Region.wanted o (yielded ops a.tmps) = true:=by simp [Region.wanted,hguard]
  have hX1:=hX.step hr0.ws.inj hr.ws
  rw [s1] at hd1
  cases is with
  | nil =>
   simp only [compileAt,Option.some.injEq] at h2
   subst h2
   simp only [List.getLast?_singleton,Option.some.injEq] at hl
   subst hl
   simp only [wopsr] at hw
   rw [s1] at hw
   simp only [wpTl,wpOp,ho,hwant,if_true]
   refine .inl (Oper.wp_mono ?_ (sound_op s3 hX1 hr s2 hw))
   rintro a' w' ⟨σ',⟨hm,h5⟩,E2,h6⟩
   refine ⟨fun h=>absurd rfl h,hK σ' a' w' h5 ⟨E2,h6.size,h6.dfr,h6.tm,h6.ce,?_⟩⟩
   have:=h6.ws
   rw [hm] at this ⊢
   exact hws.trans this
  | cons i' is =>
   cases xs with
   | nil=>simp [compileAt] at h2;(repeat' split at h2)<;>simp at h2
   | cons x' xs =>
    simp only [wopsr] at hw
    rw [s1] at hw
    rw [wpTl]
    simp only [wpOp,ho,hwant,if_true]
    refine .inl (Oper.wp_mono ?_ (Oper.wp_tmps (sound_op s3 hX1 hr s2 hw)))
    rintro a' w' ⟨⟨σ',⟨hm,hks,h5⟩,E2,h6⟩,htm⟩
    have ht':∀ t ∈ ts,a'.tmps.getD t undef = a0.tmps.getD t undef:=fun t hts=>(htm t (hd1 t hts)).trans (ht t hts)
    obtain ⟨k1,k2⟩:=keepG_of (cs:=ts) hr0 hm h6 ts ht' hks
    have hS:SG X (ptrsAt σ0 ts) (cellsAt σ0 (ptrsAt σ0 ts)) σ0.m E w w':=by
     refine ⟨E2,hX.step hr0.ws.inj h6.ws,⟨by have:=h6.ws;rw [hm] at this;exact this,k1,fun c y hy=>?_⟩⟩
     obtain ⟨q1,q2⟩:=get_cellsAt hy
     exact h6.ce c y ((k2 c q2).trans q1)
    exact ⟨fun _=>hS,sound_rowg hX hK hr0 hws hk (i' :: is) (x' :: xs) σ' a' w' E2 h2 hok' (by simpa using hl) h6 ht' (fun o' ho'=>hav o' (List.mem_cons_of_mem _ ho')) h5⟩
def SQ (E:Env) (w w1:World):Prop:=∀ c b,E.κ c = some b → w1.heap[b]? = w.heap[b]?
theorem put_m {σ:St} {d:Option Nat} {pv:PV}:(σ.put d pv).m = σ.m:=by cases d<;>rfl
theorem sound_hq {P:Program} {ops:Array Oper} {n m:Nat} {E0 E:Env} {w0 w:World} {K:St → Prop} {Z:Act → Prop} (hX:CxOK X E w) (hK:∀ σ a,K σ → σ.m = m → RelE E0 w0 n E σ a w → Z a) :
  ∀ (is:List Nat) (al:List AOper) (σ:St) (a:Act),compileAt P ops n is = some al → okHd al = true → σ.m = m → RelE E0 w0 n E σ a w → wopsh X P al σ K → wpYs P ops (SQ E w) Z is a
 | [],al,σ,a,hc,_,hm,hr,hw=>by
  simp only [compileAt,Option.some.injEq] at hc
  subst hc
  exact hK σ a hw hm hr
 | i :: is,al,σ,a,hc,hok,hm,hr,hw=>by
  simp only [compileAt] at hc
  split at hc
  case h_2=>cases hc
  rename_i o ho
  split at hc
  case h_2=>cases hc
  rename_i x xs h1 h2
  obtain rfl:=Option.some.inj hc
  simp only [okHd,List.all_cons,Bool.and_eq_true,Option.isNone_iff_eq_none] at hok
  obtain ⟨⟨hgn,hk⟩,hok'⟩:=hok
  obtain ⟨s1,s2,s3,s4⟩:=compileOper_spec h1
  simp only [wopsh] at hw
  rw [s1] at hw
  have hguard:o.guard = none:=by
   cases hgg:o.guard with
   | none=>rfl
   | some jw =>
    obtain ⟨j,want⟩:=jw
    rw [hgg] at s4
    obtain ⟨t,_,_,q⟩:=s4
    rw [hgn] at q;cases q
  have hwant:Region.wanted o (yielded ops a.tmps) = true:=by simp [Region.wanted,hguard]
  obtain ⟨hl,hw⟩:=hw
  by_cases hld:isLd x.op = true
  ·obtain ⟨pv,v,k1,k2,k3⟩:=(sound_op' s3).2.2.2.1 hld hX hr s2 hw hl
   exact ⟨o,v,ho,.inl ⟨hwant,fun w1 hS=>k1 w1 (fun l _ b hb j _ _=>World.cell?_of_block (hS l.1 b hb))⟩,sound_hq hX hK is xs _ _ h2 hok' (put_m.trans hm) (hr.put s2 k2) k3⟩
  ·have hu:isU x.op = true:=by
    cases hx:x.op<;>rw [hx] at hk hld<;>simp [isK,isLd] at hk hld<;>rfl
   obtain ⟨pv,v,k1,k2,k3⟩:=(sound_op' s3).2.2.1 hu hX hr s2 hw
   exact ⟨o,v,ho,.inl ⟨hwant,fun w1 _=>k1 w1⟩,sound_hq hX hK is xs _ _ h2 hok' (put_m.trans hm) (hr.put s2 k2) k3⟩
theorem sound_tq {P:Program} {ops:Array Oper} {n k m:Nat} {E0 E:Env} {w0 w:World} {K:St → Prop} {Q:Exit → Act → World → Prop} (hX:CxOK X E w) (hI:Inj E w) (hK:∀ σ a w,K σ → Rel E0 w0 n σ a w → Q .normal a w) (hws:WStep m E0 w0 E w) :
  ∀ (is:List Nat) (al:List AOper) (σ:St) (a:Act) (w1:World) (E1:Env),compileAt P ops n is = some al → (al.all fun o=>o.g.isNone) = true → (al.dropLast.all fun o=>isQ o.op || isN o.op) = true → is.getLast? = some k → RelE E w n E1 σ a w1 → SQ E w w1 →
   wopst X P m al σ K → wpTl P ops Q (SQ E w) k is a w1
 | [],al,σ,a,w1,E1,hc,_,_,hl,_,_,hw=>by simp at hl
 | i :: is,al,σ,a,w1,E1,hc,hok,hdl,hl,hr,hS,hw=>by
  simp only [compileAt] at hc
  split at hc
  case h_2=>cases hc
  rename_i o ho
  split at hc
  case h_2=>cases hc
  rename_i x xs h1 h2
  obtain rfl:=Option.some.inj hc
  obtain ⟨s1,s2,s3,s4⟩:=compileOper_spec h1
  simp only [List.all_cons,Bool.and_eq_true,Option.isNone_iff_eq_none] at hok
  obtain ⟨hgn,hok'⟩:=hok
  have hguard:o.guard = none:=by
   cases hgg:o.guard with
   | none=>rfl
   | some jw =>
    obtain ⟨j,want⟩:=jw
    rw [hgg] at s4
    obtain ⟨t,_,_,q⟩:=s4
    rw [hgn] at q;cases q
  have hwant:Region.wanted o (yielded ops a.tmps) = true:=by simp [Region.wanted,hguard]
  have hX1:=hX.step hI hr.ws
  cases is with
  | nil =>
   simp only [compileAt,Option.some.injEq] at h2
   subst h2
   simp only [List.getLast?_singleton,Option.some.injEq] at hl
   subst hl
   simp only [wopst] at hw
   rw [s1] at hw
   simp only [wpTl,wpOp,ho,hwant,if_true]
   refine .inl (Oper.wp_mono ?_ (sound_op s3 hX1 hr s2 hw))
   rintro a' w' ⟨σ',⟨hm,h5⟩,E2,h6⟩
   refine ⟨fun h=>absurd rfl h,hK σ' a' w' h5 ⟨E2,h6.size,h6.dfr,h6.tm,h6.ce,?_⟩⟩
   have:=h6.ws
   rw [hm] at this ⊢
   exact hws.trans this
  | cons i' is =>
   cases xs with
   | nil=>simp [compileAt] at h2;(repeat' split at h2)<;>simp at h2
   | cons x' xs =>
    simp only [wopst] at hw
    rw [s1] at hw
    simp only [List.dropLast_cons_cons,List.all_cons,Bool.and_eq_true] at hdl
    obtain ⟨hcl,hdl'⟩:=hdl
    rw [wpTl]
    simp only [wpOp,ho,hwant,if_true]
    obtain ⟨hns,hw⟩:=hw
    simp only [Bool.or_eq_true] at hcl
    rcases hcl with hq | hn
    ·obtain ⟨pv,v,k1,k2,k3⟩:=(sound_op' s3).2.1 hq hX1 hr s2 hw
     exact .inl (wp_value (k1 w1 (Unch.refl _ _)) ⟨fun _=>hS,sound_tq hX hI hK hws (i' :: is) (x' :: xs) _ _ w1 E1 h2 hok' hdl' (by simpa using hl) (hr.put s2 k2) hS k3.2⟩)
    ·refine .inl (Oper.wp_mono ?_ ((sound_op' s3).2.2.2.2.1 hn hX1 hr s2 hw))
     rintro a' w' ⟨⟨σ',⟨hm,h5⟩,E2,h6⟩,hN⟩
     have hS':SQ E w w':=by
      intro c b hc
      have hb:=(hI.kr c b hc).2
      rw [hN hns b (Nat.lt_of_lt_of_le hb hr.ws.un.size) (fun p hp=>?_)]
      ·exact hS c b hc
      ·rcases hr.ws.om p b hp with h | ⟨q,hq⟩
       ·omega
       ·exact hI.kw c q b hc hq
     exact ⟨fun _=>hS',sound_tq hX hI hK hws (i' :: is) (x' :: xs) σ' a' w' E2 h2 hok' hdl' (by simpa using hl) h6 hS' h5⟩
theorem sound_gdq {P:Program} {ops:Array Oper} {n s:Nat} {E0 E:Env} {w0 w:World} {id:Nat} {hd tl:List AOper} {K:St → Prop} {Q:Exit → Act → World → Prop} {σ:St} {a:Act} (hX0:CxOK X E0 w0) (hI0:Inj E0 w0) (hK:∀ σ a w,K σ → Rel E0 w0 n σ a w → Q .normal a w) (hQ:∀ c a w,Q (.panic c) a w → False)
  (hm:P.follows .mixedOrders = true) (hc:gdqAt P ops n s = some (.gdq hd tl [])) (hr:RelE E0 w0 n E σ a w) (hw:wgdq X P hd tl σ K):(Code.region id ops true).wp P Q a w:=by
 unfold gdqAt at hc
 simp only at hc
 generalize descFrom ops (ops.size - (s + 1)) (s + 1) [s] = tlI at hc
 generalize (List.range ops.size).filter (fun i=>!tlI.contains i) = hdI at hc
 split at hc
 case h_2=>cases hc
 rename_i hd' tl' c1 c2
 split at hc
 case isFalse=>cases hc
 rename_i hok
 simp only [Option.some.injEq,AC.gdq.injEq,and_true] at hc
 obtain ⟨rfl,rfl⟩:=hc
 simp only [Bool.and_eq_true,beq_iff_eq] at hok
 obtain ⟨⟨⟨⟨hB,hokh⟩,hokt⟩,hdl⟩,hlast⟩:=hok
 have hU:Unch (fun _=>False) w { w with drawn:=w.drawn + 1 }:=⟨rfl,rfl,rfl,Nat.le_refl _,fun _ _ _=>rfl⟩
 have hr1:=hr.ext hU
 have hX1:=hX0.step hI0 hr1.ws
 have hrB:RelE E { w with drawn:=w.drawn + 1 } n E σ a { w with drawn:=w.drawn + 1 }:=⟨hr1.size,hr1.dfr,hr1.tm,hr1.ce,WStep.refl hr1.ws.inj⟩
 refine wp_region_drw (S:=SQ E { w with drawn:=w.drawn + 1 }) hm hB hQ (fun _ _ _=>rfl) ?_
 refine sound_hq (m:=σ.m) hX1 (fun σf a1 hk _ hrf=>?_) hdI hd' σ a c1 hokh rfl hrB hw
 exact sound_tq hX1 hr1.ws.inj hK hr1.ws tlI tl' σf a1 _ E c2 hokt (by simpa using hdl) hlast hrf (fun _ _ _=>rfl) hk
theorem wop_det2 {P:Program} {σ:St} {d:Option Nat} {op:AOp} {K:St → Prop} (hk:(isU op || isLd op) = true) (h:wop X P σ d op K):∃ pv,K (σ.put d pv) ∧ ∀ K',K' (σ.put d pv) → wop X P σ d op K':=by
 by_cases hK:isK op = true
 ·exact wop_det hK h
 ·cases op<;>simp only [isU,isLd,isK,Bool.or_self,Bool.or_true,Bool.or_false,not_true_eq_false,reduceCtorEq,Bool.false_eq_true] at hk hK<;>simp only [wop] at h ⊢
  case ia =>
   split at h
   all_goals first
    | exact h.elim
    | exact ⟨_,h.2.2,fun K' hk=>⟨h.1,h.2.1,hk⟩⟩
  case sll =>
   split at h
   all_goals first
    | exact h.elim
    | exact ⟨_,h,fun K' hk=>hk⟩
    | exact ⟨_,h.2,fun K' hk=>⟨h.1,hk⟩⟩
    | exact ⟨_,h.2.2,fun K' hk=>⟨h.1,h.2.1,hk⟩⟩
  case ext =>
   split at h
   ·obtain ⟨pv,h1,h2⟩:=h
    exact ⟨pv,h2,fun K' hk=>⟨pv,h1,hk⟩⟩
   ·exact h.elim
def wopsh3 (X:Cx) (P:Program) (LS:List (Nat × Nat × Nat)):List AOper → St → (St → Prop) → Prop
 | [],σ,K=>K σ
 | o :: os,σ,K=>ldOK σ o.op = true ∧ (∀ l,l ∈ locOf σ o.op → l ∈ LS) ∧ wop X P σ o.d o.op fun σ'=>wopsh3 X P LS os σ' K
theorem hs_locs {P:Program}:∀ (al:List AOper) (ls:List (Nat × Nat × Nat)) (σ:St) (K:List (Nat × Nat × Nat) → St → Prop),okHs al = true → wopsh2 X P al ls σ K → ∃ LS,(∀ l,l ∈ ls → l ∈ LS) ∧ wopsh3 X P LS al σ (K LS)
 | [],ls,σ,K,_,h=>⟨ls,fun _ h=>h,h⟩
 | o :: os,ls,σ,K,hok,h=>by
  simp only [okHs,List.all_cons,Bool.and_eq_true] at hok
  obtain ⟨⟨_,hk⟩,hok'⟩:=hok
  obtain ⟨hl,hw⟩:=h
  obtain ⟨pv,h1,h2⟩:=wop_det2 hk hw
  obtain ⟨LS,h3,h4⟩:=hs_locs os _ _ K hok' h1
  exact ⟨LS,fun l hl=>h3 l (List.mem_append_right _ hl),hl,fun l hl=>h3 l (List.mem_append_left _ hl),h2 _ h4⟩
def SL (E:Env) (w:World) (LS:List (Nat × Nat × Nat)) (w1:World):Prop:=∀ l,l ∈ LS → ∀ b,E.κ l.1 = some b → ∀ j,l.2.1 ≤ j → j < l.2.1 + l.2.2 → w1.cell? ⟨b,j,none⟩ = w.cell? ⟨b,j,none⟩
theorem sound_hs {P:Program} {ops:Array Oper} {n m:Nat} {E0 E:Env} {w0 w:World} {LS:List (Nat × Nat × Nat)} {K:St → Prop} {Z:Act → Prop} (hX:CxOK X E w) (hK:∀ σ a,K σ → σ.m = m → RelE E0 w0 n E σ a w → Z a) :
  ∀ (is:List Nat) (al:List AOper) (σ:St) (a:Act),compileAt P ops n is = some al → okHs al = true → σ.m = m → RelE E0 w0 n E σ a w → wopsh3 X P LS al σ K → wpYs P ops (SL E w LS) Z is a
 | [],al,σ,a,hc,_,hm,hr,hw=>by
  simp only [compileAt,Option.some.injEq] at hc
  subst hc
  exact hK σ a hw hm hr
 | i :: is,al,σ,a,hc,hok,hm,hr,hw=>by
  simp only [compileAt] at hc
  split at hc
  case h_2=>cases hc
  rename_i o ho
  split at hc
  case h_2=>cases hc
  rename_i x xs h1 h2
  obtain rfl:=Option.some.inj hc
  simp only [okHs,List.all_cons,Bool.and_eq_true,Option.isNone_iff_eq_none,Bool.or_eq_true] at hok
  obtain ⟨⟨hgn,hk⟩,hok'⟩:=hok
  have hok2:okHs xs = true:=by simpa [okHs] using hok'
  obtain ⟨s1,s2,s3,s4⟩:=compileOper_spec h1
  simp only [wopsh3] at hw
  rw [s1] at hw
  have hguard:o.guard = none:=by
   cases hgg:o.guard with
   | none=>rfl
   | some jw =>
    obtain ⟨j,want⟩:=jw
    rw [hgg] at s4
    obtain ⟨t,_,_,q⟩:=s4
    rw [hgn] at q;cases q
  have hwant:Region.wanted o (yielded ops a.tmps) = true:=by simp [Region.wanted,hguard]
  obtain ⟨hl,hls,hw⟩:=hw
  rcases hk with hu | hld
  ·obtain ⟨pv,v,k1,k2,k3⟩:=(sound_op' s3).2.2.1 hu hX hr s2 hw
   exact ⟨o,v,ho,.inl ⟨hwant,fun w1 _=>k1 w1⟩,sound_hs hX hK is xs _ _ h2 hok2 (put_m.trans hm) (hr.put s2 k2) k3⟩
  ·obtain ⟨pv,v,k1,k2,k3⟩:=(sound_op' s3).2.2.2.1 hld hX hr s2 hw hl
   exact ⟨o,v,ho,.inl ⟨hwant,fun w1 hS=>k1 w1 (fun l hl b hb j j1 j2=>hS l (hls l hl) b hb j j1 j2)⟩,sound_hs hX hK is xs _ _ h2 hok2 (put_m.trans hm) (hr.put s2 k2) k3⟩
theorem sound_ts {P:Program} {ops:Array Oper} {n k m:Nat} {E0 E:Env} {w0 w:World} {LS:List (Nat × Nat × Nat)} {K:St → Prop} {Q:Exit → Act → World → Prop} (hX:CxOK X E w) (hI:Inj E w) (hK:∀ σ a w,K σ → Rel E0 w0 n σ a w → Q .normal a w) (hws:WStep m E0 w0 E w) :
  ∀ (is:List Nat) (al:List AOper) (σ:St) (a:Act) (w1:World),compileAt P ops n is = some al → (al.all fun o=>o.g.isNone) = true → (al.dropLast.all fun o=>isQ o.op || isSt o.op) = true → is.getLast? = some k → RelE E w n E σ a w1 → SL E w LS w1 →
   wopss X P m LS al σ K → wpTl P ops Q (SL E w LS) k is a w1
 | [],al,σ,a,w1,hc,_,_,hl,_,_,hw=>by simp at hl
 | i :: is,al,σ,a,w1,hc,hok,hdl,hl,hr,hS,hw=>by
  simp only [compileAt] at hc
  split at hc
  case h_2=>cases hc
  rename_i o ho
  split at hc
  case h_2=>cases hc
  rename_i x xs h1 h2
  obtain rfl:=Option.some.inj hc
  obtain ⟨s1,s2,s3,s4⟩:=compileOper_spec h1
  simp only [List.all_cons,Bool.and_eq_true,Option.isNone_iff_eq_none] at hok
  obtain ⟨hgn,hok'⟩:=hok
  have hguard:o.guard = none:=by
   cases hgg:o.guard with
   | none=>rfl
   | some jw =>
    obtain ⟨j,want⟩:=jw
    rw [hgg] at s4
    obtain ⟨t,_,_,q⟩:=s4
    rw [hgn] at q;cases q
  have hwant:Region.wanted o (yielded ops a.tmps) = true:=by simp [Region.wanted,hguard]
  have hX1:=hX.step hI hr.ws
  cases is with
  | nil =>
   simp only [compileAt,Option.some.injEq] at h2
   subst h2
   simp only [List.getLast?_singleton,Option.some.injEq] at hl
   subst hl
   simp only [wopss] at hw
   rw [s1] at hw
   simp only [wpTl,wpOp,ho,hwant,if_true]
   refine .inl (Oper.wp_mono ?_ (sound_op s3 hX1 hr s2 hw))
   rintro a' w' ⟨σ',⟨hm,h5⟩,E2,h6⟩
   refine ⟨fun h=>absurd rfl h,hK σ' a' w' h5 ⟨E2,h6.size,h6.dfr,h6.tm,h6.ce,?_⟩⟩
   have:=h6.ws
   rw [hm] at this ⊢
   exact hws.trans this
  | cons i' is =>
   cases xs with
   | nil=>simp [compileAt] at h2;(repeat' split at h2)<;>simp at h2
   | cons x' xs =>
    simp only [wopss] at hw
    rw [s1] at hw
    simp only [List.dropLast_cons_cons,List.all_cons,Bool.and_eq_true] at hdl
    obtain ⟨hcl,hdl'⟩:=hdl
    rw [wpTl]
    simp only [wpOp,ho,hwant,if_true]
    obtain ⟨hst,hw⟩:=hw
    simp only [Bool.or_eq_true] at hcl
    rcases hcl with hq | hn
    ·obtain ⟨pv,v,k1,k2,k3⟩:=(sound_op' s3).2.1 hq hX1 hr s2 hw
     exact .inl (wp_value (k1 w1 (Unch.refl _ _)) ⟨fun _=>hS,sound_ts hX hI hK hws (i' :: is) (x' :: xs) _ _ w1 h2 hok' hdl' (by simpa using hl) (hr.put s2 k2) hS k3.2⟩)
    ·refine .inl (Oper.wp_mono ?_ ((sound_op' s3).2.2.2.2.2 hn LS hX1 hr s2 hw hst))
     rintro a' w' ⟨σ',⟨hm,h5⟩,h6,hA⟩
     have hS':SL E w LS w':=fun l hl b hb j j1 j2=>(hA l hl b hb j j1 j2).trans (hS l hl b hb j j1 j2)
     exact ⟨fun _=>hS',sound_ts hX hI hK hws (i' :: is) (x' :: xs) σ' a' w' h2 hok' hdl' (by simpa using hl) h6 hS' h5⟩
theorem sound_gds {P:Program} {ops:Array Oper} {n s:Nat} {E0 E:Env} {w0 w:World} {id:Nat} {hd tl:List AOper} {K:St → Prop} {Q:Exit → Act → World → Prop} {σ:St} {a:Act} (hX0:CxOK X E0 w0) (hI0:Inj E0 w0) (hK:∀ σ a w,K σ → Rel E0 w0 n σ a w → Q .normal a w) (hQ:∀ c a w,Q (.panic c) a w → False)
  (hm:P.follows .mixedOrders = true) (hc:gdsAt P ops n s = some (.gds hd tl [])) (hr:RelE E0 w0 n E σ a w) (hw:wgds X P hd tl σ K):(Code.region id ops true).wp P Q a w:=by
 unfold gdsAt at hc
 simp only at hc
 generalize descFrom ops (ops.size - (s + 1)) (s + 1) [s] = tlI at hc
 generalize (List.range ops.size).filter (fun i=>!tlI.contains i) = hdI at hc
 split at hc
 case h_2=>cases hc
 rename_i hd' tl' c1 c2
 split at hc
 case isFalse=>cases hc
 rename_i hok
 simp only [Option.some.injEq,AC.gds.injEq,and_true] at hc
 obtain ⟨rfl,rfl⟩:=hc
 simp only [Bool.and_eq_true,beq_iff_eq] at hok
 obtain ⟨⟨⟨⟨hB,hokh⟩,hokt⟩,hdl⟩,hlast⟩:=hok
 have hU:Unch (fun _=>False) w { w with drawn:=w.drawn + 1 }:=⟨rfl,rfl,rfl,Nat.le_refl _,fun _ _ _=>rfl⟩
 have hr1:=hr.ext hU
 have hX1:=hX0.step hI0 hr1.ws
 have hrB:RelE E { w with drawn:=w.drawn + 1 } n E σ a { w with drawn:=w.drawn + 1 }:=⟨hr1.size,hr1.dfr,hr1.tm,hr1.ce,WStep.refl hr1.ws.inj⟩
 obtain ⟨LS,_,hw⟩:=hs_locs hd' [] σ _ hokh hw
 refine wp_region_drw (S:=SL E { w with drawn:=w.drawn + 1 } LS) hm hB hQ (fun _ _ _ _ _ _ _=>rfl) ?_
 refine sound_hs (m:=σ.m) hX1 (fun σf a1 hk _ hrf=>?_) hdI hd' σ a c1 hokh rfl hrB hw
 exact sound_ts hX1 hr1.ws.inj hK hr1.ws tlI tl' σf a1 _ c2 hokt (by simpa using hdl) hlast hrf (fun _ _ _ _ _ _ _=>rfl) hk
theorem sound_hu {P:Program} {ops:Array Oper} {n:Nat} {E0 E:Env} {w0 w:World} {K:St → Prop} {Z:Act → Prop} (hX:CxOK X E w) (hK:∀ σ a,K σ → RelE E0 w0 n E σ a w → Z a) :
  ∀ (is:List Nat) (al:List AOper) (σ:St) (a:Act),compileAt P ops n is = some al → (al.all fun o=>o.g.isNone && isQ o.op) = true → RelE E0 w0 n E σ a w → wopsq X P al σ K → wpYs P ops (Unch (fun _=>False) w) Z is a
 | [],al,σ,a,hc,_,hr,hw=>by
  simp only [compileAt,Option.some.injEq] at hc
  subst hc
  exact hK σ a hw hr
 | i :: is,al,σ,a,hc,hok,hr,hw=>by
  simp only [compileAt] at hc
  split at hc
  case h_2=>cases hc
  rename_i o ho
  split at hc
  case h_2=>cases hc
  rename_i x xs h1 h2
  obtain rfl:=Option.some.inj hc
  simp only [List.all_cons,Bool.and_eq_true,Option.isNone_iff_eq_none] at hok
  obtain ⟨⟨hg,hq⟩,hok'⟩:=hok
  obtain ⟨s1,s2,s3,s4⟩:=compileOper_spec h1
  have hguard:o.guard = none:=by
   cases hgg:o.guard with
   | none=>rfl
   | some jw =>
    obtain ⟨j,want⟩:=jw
    rw [hgg] at s4
    obtain ⟨t,_,_,q⟩:=s4
    rw [hg] at q;cases q
  have hwant:Region.wanted o (yielded ops a.tmps) = true:=by simp [Region.wanted,hguard]
  simp only [wopsq,gw,hg] at hw
  rw [s1] at hw
  have hw':wop X P σ o.dst x.op (fun σ=>wopsq X P xs σ K):=by
   cases hx:x.op<;>rw [hx] at hw hq<;>simp only [wopq] at hw<;>first | exact hw.2 | (simp [isQ] at hq)
  obtain ⟨pv,v,k1,k2,k3⟩:=(sound_op' s3).2.1 hq hX hr s2 hw'
  exact ⟨o,v,ho,.inl ⟨hwant,fun w1 hU=>k1 w1 hU⟩,sound_hu hX hK is xs _ _ h2 (by simpa using hok') (hr.put s2 k2) k3⟩
theorem sound_last {P:Program} {ops:Array Oper} {n:Nat} {E0 E:Env} {w0 w:World} {id:Nat} {hd tl:List AOper} {K:St → Prop} {Q:Exit → Act → World → Prop} {σ:St} {a:Act} (hX0:CxOK X E0 w0) (hI0:Inj E0 w0) (hK:∀ σ a w,K σ → Rel E0 w0 n σ a w → Q .normal a w) (hQ:∀ c a w,Q (.panic c) a w → False)
  (hm:P.follows .mixedOrders = true) (hc:lastC P ops n = some (.reg hd tl [])) (hr:RelE E0 w0 n E σ a w) (hw:wopsq X P hd σ fun σ=>wops X P tl σ K):(Code.region id ops true).wp P Q a w:=by
 unfold lastC at hc
 split at hc
 case h_2=>cases hc
 rename_i hd' t c1 c2
 split at hc
 case isFalse=>cases hc
 rename_i hok
 simp only [Option.some.injEq,AC.reg.injEq,and_true] at hc
 obtain ⟨rfl,rfl⟩:=hc
 simp only [Bool.and_eq_true,Option.isNone_iff_eq_none] at hok
 obtain ⟨⟨⟨hB,hokh⟩,hgt⟩,_⟩:=hok
 have hU:Unch (fun _=>False) w { w with drawn:=w.drawn + 1 }:=⟨rfl,rfl,rfl,Nat.le_refl _,fun _ _ _=>rfl⟩
 have hr1:=hr.ext hU
 have hX1:=hX0.step hI0 hr1.ws
 refine wp_region_drw (S:=Unch (fun _=>False) { w with drawn:=w.drawn + 1 }) hm hB hQ (Unch.refl _ _) ?_
 refine sound_hu hX1 (fun σ1 a1 hk hr2=>?_) _ hd' σ a c1 (by simpa [Bool.and_eq_true] using hokh) hr1 hw
 simp only [compileAt] at c2
 split at c2
 case h_2=>cases c2
 rename_i o ho
 split at c2
 case h_2=>cases c2
 rename_i x xs h1 h2
 simp only [Option.some.injEq,List.cons.injEq] at c2 h2
 obtain ⟨rfl,_⟩:=c2
 obtain ⟨s1,s2,s3,s4⟩:=compileOper_spec h1
 have hguard:o.guard = none:=by
  cases hgg:o.guard with
  | none=>rfl
  | some jw =>
   obtain ⟨j,want⟩:=jw
   rw [hgg] at s4
   obtain ⟨t,_,_,q⟩:=s4
   rw [hgt] at q;cases q
 have hwant:Region.wanted o (yielded ops a1.tmps) = true:=by simp [Region.wanted,hguard]
 simp only [wops,hgt] at hk
 rw [s1] at hk
 simp only [wpTl,wpOp,ho,hwant,if_true]
 refine .inl (Oper.wp_mono ?_ (sound_op s3 hX1 hr2 s2 hk))
 rintro a' w' ⟨σ',h5,h6⟩
 exact ⟨fun h=>absurd rfl h,hK σ' a' w' h5 h6⟩
theorem tsOf_free {hd tl:List AOper}:∀ o ∈ hd ++ tl,∀ t ∈ tsOf hd tl,o.d ≠ some t:=by
 intro o ho t ht e
 have h:=(List.mem_filter.1 ht).2
 simp only [Bool.not_eq_true',List.any_eq_false] at h
 exact h o ho (by simp [e])
theorem sound_gdr {P:Program} {ops:Array Oper} {ts:List Nat} {n s:Nat} {E0 E:Env} {w0 w:World} {id:Nat} {hd tl:List AOper} {K:St → Prop} {Q:Exit → Act → World → Prop} {σ:St} {a:Act} (hX0:CxOK X E0 w0) (hI0:Inj E0 w0) (hK:∀ σ a w,K σ → Rel E0 w0 n σ a w → Q .normal a w) (hQ:∀ c a w,Q (.panic c) a w → False)
  (hm:P.follows .mixedOrders = true) (hc:gdrAt P ops n s = some (.gdr ts hd tl [])) (hr:RelE E0 w0 n E σ a w) (hw:wgdr X P ts hd tl σ K):(Code.region id ops true).wp P Q a w:=by
 unfold gdrAt at hc
 simp only at hc
 generalize descFrom ops (ops.size - (s + 1)) (s + 1) [s] = tlI at hc
 generalize (List.range ops.size).filter (fun i=>!tlI.contains i) = hdI at hc
 split at hc
 case h_2=>cases hc
 rename_i hd' tl' c1 c2
 split at hc
 case isFalse=>cases hc
 rename_i hok
 simp only [Option.some.injEq,AC.gdr.injEq,and_true] at hc
 obtain ⟨hts,rfl,rfl⟩:=hc
 simp only [Bool.and_eq_true,beq_iff_eq] at hok
 obtain ⟨⟨⟨hB,hokh⟩,hokt⟩,hlast⟩:=hok
 have hfree:=tsOf_free (hd:=hd') (tl:=tl')
 rw [hts] at hfree
 have hU:Unch (fun _=>False) w { w with drawn:=w.drawn + 1 }:=⟨rfl,rfl,rfl,Nat.le_refl _,fun _ _ _=>rfl⟩
 have hr1:=hr.ext hU
 have hX1:=hX0.step hI0 hr1.ws
 have hrB:RelE E { w with drawn:=w.drawn + 1 } n E σ a { w with drawn:=w.drawn + 1 }:=⟨hr1.size,hr1.dfr,hr1.tm,hr1.ce,WStep.refl hr1.ws.inj⟩
 have hce:CellsV E { w with drawn:=w.drawn + 1 } (get (cellsAt σ (ptrsAt σ ts))):=fun c y hy=>hrB.ce c y (get_cellsAt hy).1
 refine wp_region_drw (S:=SG X (ptrsAt σ ts) (cellsAt σ (ptrsAt σ ts)) σ.m E { w with drawn:=w.drawn + 1 }) hm hB hQ ⟨E,hX1,WStep.refl hr1.ws.inj,fun _ _=>rfl,hce⟩ ?_
 refine sound_hdg (ts:=ts) (a0:=a) (cs:=ptrsAt σ ts) (ce:=cellsAt σ (ptrsAt σ ts)) (m:=σ.m) hX1 (fun σf a1 hk hrf ht=>?_) hdI hd' (σ.cutg (ptrsAt σ ts)) σ a c1 hokh ⟨rfl,rfl,fun t pv h=>?_⟩ ?_ hrB (fun _ _=>rfl) (fun o ho=>hfree o (List.mem_append_left _ ho)) hw
 ·exact sound_rowg hX1 hK hrB hr1.ws (fun _ _=>trivial) tlI tl' σf a1 _ E c2 hokt hlast hrf ht (fun o ho=>hfree o (List.mem_append_right _ ho)) hk
 ·simp only [St.cutg,get_mapSnd] at h
  obtain ⟨pv',_,rfl⟩:=Option.map_eq_some_iff.1 h
  unfold cutG
  split
  ·rename_i hg;exact .inl (goodV_of0 hg)
  ·exact .inr rfl
 ·refine ⟨hrB.size,hrB.dfr,fun t pv h=>?_,hce,hrB.ws⟩
  simp only [St.cutg,get_mapSnd] at h
  obtain ⟨pv',h',rfl⟩:=Option.map_eq_some_iff.1 h
  obtain ⟨q1,q2⟩:=hrB.tm t pv' h'
  refine ⟨q1,?_⟩
  unfold cutG
  split
  ·exact q2
  ·exact trivial
theorem sound_rowp {P:Program} {ops:Array Oper} {n k:Nat} {E0 E:Env} {w0 w:World} {ts:List Nat} {σ0:St} {a0:Act} {K:St → Prop} {Q:Exit → Act → World → Prop} (hX:CxOK X E w) (hK:∀ σ a w,K σ → Rel E0 w0 n σ a w → Q .normal a w)
  (hr0:RelE E w n E σ0 a0 w) (hws:WStep σ0.m E0 w0 E w) (hk:puAt P ops n k = false) :
  ∀ (is:List Nat) (al:List AOper) (σ:St) (a:Act) (w1:World) (E1:Env),compileAt P ops n is = some al → (al.all fun o=>o.g.isNone) = true → is.getLast? = some k → RelE E w n E1 σ a w1 → (∀ t ∈ ts,a.tmps.getD t undef = a0.tmps.getD t undef) → (∀ o ∈ al,∀ t ∈ ts,o.d ≠ some t) →
   wopsr X P σ0 ts al σ K → wpTlp P ops Q (SG X (ptrsAt σ0 ts) (cellsAt σ0 (ptrsAt σ0 ts)) σ0.m E w) k (puAt P ops n) is a w1
 | [],al,σ,a,w1,E1,hc,_,hl,_,_,_,hw=>by simp at hl
 | i :: is,al,σ,a,w1,E1,hc,hok,hl,hr,ht,hav,hw=>by
  simp only [compileAt] at hc
  split at hc
  case h_2=>cases hc
  rename_i o ho
  split at hc
  case h_2=>cases hc
  rename_i x xs h1 h2
  obtain rfl:=Option.some.inj hc
  obtain ⟨s1,s2,s3,s4⟩:=compileOper_spec h1
  simp only [List.all_cons,Bool.and_eq_true,Option.isNone_iff_eq_none] at hok
  obtain ⟨hgn,hok'⟩:=hok
  have hd1:=hav x (List.mem_cons_self ..)
  have hguard:o.guard = none:=by
   cases hgg:o.guard with
   | none=>rfl
   | some jw =>
    obtain ⟨j,want⟩:=jw
    rw [hgg] at s4
    obtain ⟨t,_,_,q⟩:=s4
    rw [hgn] at q;cases q
  have hwant:Region.wanted o (yielded ops a.tmps) = true:=by simp [Region.wanted,hguard]
  have hX1:=hX.step hr0.ws.inj hr.ws
  rw [s1] at hd1
  cases is with
  | nil =>
   simp only [compileAt,Option.some.injEq] at h2
   subst h2
   simp only [List.getLast?_singleton,Option.some.injEq] at hl
   subst hl
   simp only [wopsr] at hw
   rw [s1] at hw
   rw [wpTlp,if_neg (by rw [hk];decide)]
   simp only [wpTlp,wpOp,ho,hwant,if_true]
   refine .inl (Oper.wp_mono ?_ (sound_op s3 hX1 hr s2 hw))
   rintro a' w' ⟨σ',⟨hm,h5⟩,E2,h6⟩
   refine ⟨fun h=>absurd rfl h,hK σ' a' w' h5 ⟨E2,h6.size,h6.dfr,h6.tm,h6.ce,?_⟩⟩
   have:=h6.ws
   rw [hm] at this ⊢
   exact hws.trans this
  | cons i' is =>
   cases xs with
   | nil=>simp [compileAt] at h2;(repeat' split at h2)<;>simp at h2
   | cons x' xs =>
    simp only [wopsr] at hw
    rw [s1] at hw
    rw [wpTlp]
    by_cases hp:puAt P ops n i = true
    ·rw [if_pos hp]
     have hu:isU x.op = true:=by
      unfold puAt at hp
      simp only [ho,h1,Bool.and_eq_true] at hp
      exact hp.2
     obtain ⟨pv,v,k1,k2,hm,hks,h5⟩:=(sound_op' s3).2.2.1 hu hX1 hr s2 hw
     have ht':∀ t ∈ ts,(a.put o.dst v).tmps.getD t undef = a0.tmps.getD t undef:=by
      intro t hts
      cases hdst:o.dst with
      | none=>exact ht t hts
      | some d =>
       simp only [Act.put]
       rw [getD_set_ne _ _ _ _ _ (fun e=>hd1 t hts (by rw [hdst,e]))]
       exact ht t hts
     exact ⟨o,v,ho,.inl ⟨hwant,fun w' _=>k1 w'⟩,sound_rowp hX hK hr0 hws hk (i' :: is) (x' :: xs) _ _ w1 E1 h2 hok' (by simpa using hl) (hr.put s2 k2) ht' (fun o' ho'=>hav o' (List.mem_cons_of_mem _ ho')) h5⟩
    ·rw [if_neg hp]
     simp only [wpOp,ho,hwant,if_true]
     refine .inl (Oper.wp_mono ?_ (Oper.wp_tmps (sound_op s3 hX1 hr s2 hw)))
     rintro a' w' ⟨⟨σ',⟨hm,hks,h5⟩,E2,h6⟩,htm⟩
     have ht':∀ t ∈ ts,a'.tmps.getD t undef = a0.tmps.getD t undef:=fun t hts=>(htm t (hd1 t hts)).trans (ht t hts)
     obtain ⟨k1,k2⟩:=keepG_of (cs:=ts) hr0 hm h6 ts ht' hks
     have hS:SG X (ptrsAt σ0 ts) (cellsAt σ0 (ptrsAt σ0 ts)) σ0.m E w w':=by
      refine ⟨E2,hX.step hr0.ws.inj h6.ws,⟨by have:=h6.ws;rw [hm] at this;exact this,k1,fun c y hy=>?_⟩⟩
      obtain ⟨q1,q2⟩:=get_cellsAt hy
      exact h6.ce c y ((k2 c q2).trans q1)
     exact ⟨fun _=>hS,sound_rowp hX hK hr0 hws hk (i' :: is) (x' :: xs) σ' a' w' E2 h2 hok' (by simpa using hl) h6 ht' (fun o' ho'=>hav o' (List.mem_cons_of_mem _ ho')) h5⟩
theorem sound_gd2 {P:Program} {ops:Array Oper} {ts:List Nat} {n:Nat} {E0 E:Env} {w0 w:World} {id:Nat} {hdI ra rb:List Nat} {hd ta tb:List AOper} {K:St → Prop} {Q:Exit → Act → World → Prop} {σ:St} {a:Act} (hX0:CxOK X E0 w0) (hI0:Inj E0 w0) (hK:∀ σ a w,K σ → Rel E0 w0 n σ a w → Q .normal a w) (hQ:∀ c a w,Q (.panic c) a w → False)
  (hm:P.follows .mixedOrders = true) (hc:gd2Of P ops n hdI ra rb = some (.gd2 ts hd ta tb [])) (hr:RelE E0 w0 n E σ a w) (hw:wgd2 X P ts hd ta tb σ K):(Code.region id ops true).wp P Q a w:=by
 unfold gd2Of at hc
 split at hc
 case h_2=>cases hc
 rename_i hd' ta' tb' c1 c2 c3
 split at hc
 case isFalse=>cases hc
 rename_i hok
 simp only [Option.some.injEq,AC.gd2.injEq,and_true] at hc
 obtain ⟨hts,rfl,rfl,rfl⟩:=hc
 simp only [Bool.and_eq_true,beq_iff_eq,Bool.not_eq_true'] at hok
 obtain ⟨⟨⟨⟨⟨⟨hB,hokh⟩,hoka⟩,hokb⟩,hla⟩,hlb⟩,hpk⟩:=hok
 have hfree:=tsOf_free (hd:=hd') (tl:=ta' ++ tb')
 rw [hts] at hfree
 have hU:Unch (fun _=>False) w { w with drawn:=w.drawn + 1 }:=⟨rfl,rfl,rfl,Nat.le_refl _,fun _ _ _=>rfl⟩
 have hr1:=hr.ext hU
 have hX1:=hX0.step hI0 hr1.ws
 have hrB:RelE E { w with drawn:=w.drawn + 1 } n E σ a { w with drawn:=w.drawn + 1 }:=⟨hr1.size,hr1.dfr,hr1.tm,hr1.ce,WStep.refl hr1.ws.inj⟩
 have hce:CellsV E { w with drawn:=w.drawn + 1 } (get (cellsAt σ (ptrsAt σ ts))):=fun c y hy=>hrB.ce c y (get_cellsAt hy).1
 refine wp_region_drw2 (S:=SG X (ptrsAt σ ts) (cellsAt σ (ptrsAt σ ts)) σ.m E { w with drawn:=w.drawn + 1 }) hm hB hQ ⟨E,hX1,WStep.refl hr1.ws.inj,fun _ _=>rfl,hce⟩ ?_
 refine sound_hdg (ts:=ts) (a0:=a) (cs:=ptrsAt σ ts) (ce:=cellsAt σ (ptrsAt σ ts)) (m:=σ.m) hX1 (fun σf a1 hk hrf ht=>?_) hdI hd' (σ.cutg (ptrsAt σ ts)) σ a c1 hokh ⟨rfl,rfl,fun t pv h=>?_⟩ ?_ hrB (fun _ _=>rfl) (fun o ho=>hfree o (List.mem_append_left _ ho)) hw
 ·exact ⟨sound_rowp hX1 hK hrB hr1.ws hpk ra ta' σf a1 _ E c2 hoka hla hrf ht (fun o ho=>hfree o (List.mem_append_right _ (List.mem_append_left _ ho))) hk.1,
   sound_rowp hX1 hK hrB hr1.ws hpk rb tb' σf a1 _ E c3 hokb hlb hrf ht (fun o ho=>hfree o (List.mem_append_right _ (List.mem_append_right _ ho))) hk.2⟩
 ·simp only [St.cutg,get_mapSnd] at h
  obtain ⟨pv',_,rfl⟩:=Option.map_eq_some_iff.1 h
  unfold cutG
  split
  ·rename_i hg;exact .inl (goodV_of0 hg)
  ·exact .inr rfl
 ·refine ⟨hrB.size,hrB.dfr,fun t pv h=>?_,hce,hrB.ws⟩
  simp only [St.cutg,get_mapSnd] at h
  obtain ⟨pv',h',rfl⟩:=Option.map_eq_some_iff.1 h
  obtain ⟨q1,q2⟩:=hrB.tm t pv' h'
  refine ⟨q1,?_⟩
  unfold cutG
  split
  ·exact q2
  ·exact trivial
theorem sound_otA {P:Program} {ops:Array Oper} {n f:Nat} {E0:Env} {w0:World} {K:St → Prop} {Q:Exit → Act → World → Prop} (hX0:CxOK X E0 w0) (hI0:Inj E0 w0) {g:Array Bool → Option OT} {listed:Array Bool}
  (ih:∀ i t σ a w,i ∈ Region.ready .any ops listed → g (listed.setIfInBounds i true) = some t → Rel E0 w0 n σ a w → wpot X P t σ K → wpAnyK P .any ops Q (fun _=>True) (ops.size - 1) f (listed.setIfInBounds i true) a w) :
  ∀ (l:List Nat) (t:OT) (σ:St) (a:Act) (w:World),(∀ i ∈ l,i ∈ Region.ready .any ops listed) → otA P ops n g listed l = some t → Rel E0 w0 n σ a w → wpot X P t σ K →
   ∀ i ∈ l,wpOp P ops Q i (fun a' w'=>(i ≠ ops.size - 1 → True) ∧ wpAnyK P .any ops Q (fun _=>True) (ops.size - 1) f (listed.setIfInBounds i true) a' w') a w
 | [],t,σ,a,w,_,hc,_,_=>by simp [otA] at hc
 | j :: r,t,σ,a,w,hl,hc,hr,hw=>by
  simp only [otA] at hc
  split at hc
  case h_2=>cases hc
  rename_i x tj h1 h2
  split at hc
  case isFalse=>cases hc
  rename_i hg
  obtain ⟨o,ho,h1⟩:=Option.bind_eq_some_iff.1 h1
  obtain ⟨s1,s2,s3,s4⟩:=compileOper_spec h1
  have hgn:x.g = none:=by simpa using hg
  have hguard:o.guard = none:=by
   cases hgg:o.guard with
   | none=>rfl
   | some jw =>
    obtain ⟨j',want⟩:=jw
    rw [hgg] at s4
    obtain ⟨t',_,_,q⟩:=s4
    rw [hgn] at q;cases q
  have hwant:Region.wanted o (yielded ops a.tmps) = true:=by simp [Region.wanted,hguard]
  have first:wop X P σ x.d x.op (fun σ'=>wpot X P tj σ' K) → wpOp P ops Q j (fun a' w'=>(j ≠ ops.size - 1 → True) ∧ wpAnyK P .any ops Q (fun _=>True) (ops.size - 1) f (listed.setIfInBounds j true) a' w') a w:=by
   intro hw1
   obtain ⟨E,hE⟩:=hr
   rw [s1] at hw1
   simp only [wpOp,ho,hwant,if_true]
   refine .inl (Oper.wp_mono ?_ (sound_op s3 (hX0.step hI0 hE.ws) hE s2 hw1))
   rintro a' w' ⟨σ',h5,h6⟩
   exact ⟨fun _=>trivial,ih j tj σ' a' w' (hl j (List.mem_cons_self ..)) h2 h6 h5⟩
  cases r with
  | nil =>
   simp only [Option.some.injEq] at hc
   subst hc
   intro i hi
   rcases List.mem_cons.1 hi with rfl | hi
   ·exact first hw
   ·cases hi
  | cons j2 r =>
   simp only at hc
   obtain ⟨t2,h3,rfl⟩:=Option.map_eq_some_iff.1 hc
   obtain ⟨hwa,hwb⟩:=hw
   intro i hi
   rcases List.mem_cons.1 hi with rfl | hi
   ·exact first hwa
   ·exact sound_otA hX0 hI0 ih (j2 :: r) t2 σ a w (fun i hi=>hl i (List.mem_cons_of_mem _ hi)) h3 hr hwb i hi
theorem sound_otB {P:Program} {ops:Array Oper} {n:Nat} {E0:Env} {w0:World} {K:St → Prop} {Q:Exit → Act → World → Prop} (hX0:CxOK X E0 w0) (hI0:Inj E0 w0) (hK:∀ σ a w,K σ → Rel E0 w0 n σ a w → Q .normal a w) (hQ:∀ c a w,Q (.panic c) a w → False)
  (hs:Region.noSelect ops = true) (hwt:WaitsT .any ops (ops.size - 1)) :
  ∀ (f:Nat) (t:OT) (σ:St) (a:Act) (w:World) (listed:Array Bool),Closed .any ops listed → otB P ops n f listed = some t → Rel E0 w0 n σ a w → wpot X P t σ K → wpAnyK P .any ops Q (fun _=>True) (ops.size - 1) f listed a w
 | 0,t,σ,a,w,listed,hcl,hc,hr,hw=>by
  simp only [otB] at hc
  split at hc
  ·rename_i h
   cases hc
   exact ⟨by simpa using h,hK σ a w hw hr⟩
  ·cases hc
 | f + 1,t,σ,a,w,listed,hcl,hc,hr,hw=>by
  simp only [otB] at hc
  split at hc
  ·rename_i i hi
   have hmem:=List.mem_of_find?_eq_some hi
   have hp:=List.find?_some hi
   simp only [Bool.and_eq_true,decide_eq_true_eq] at hp
   split at hc
   case h_2=>cases hc
   rename_i x t' h1 h2
   simp only [Option.some.injEq] at hc
   subst hc
   obtain ⟨o,ho,h1⟩:=Option.bind_eq_some_iff.1 h1
   obtain ⟨s1,s2,s3,s4⟩:=compileOper_spec h1
   have hpu:=hp.1.1
   unfold puAt at hpu
   simp only [ho,h1,Bool.and_eq_true] at hpu
   have hgn:x.g = none:=by simpa using hpu.1
   have hguard:o.guard = none:=by
    cases hgg:o.guard with
    | none=>rfl
    | some jw =>
     obtain ⟨j',want⟩:=jw
     rw [hgg] at s4
     obtain ⟨t',_,_,q⟩:=s4
     rw [hgn] at q;cases q
   have hwant:Region.wanted o (yielded ops a.tmps) = true:=by simp [Region.wanted,hguard]
   obtain ⟨E,hE⟩:=hr
   simp only [wpot] at hw
   rw [s1] at hw
   obtain ⟨pv,v,k1,k2,h5⟩:=(sound_op' s3).2.2.1 hpu.2 (hX0.step hI0 hE.ws) hE s2 hw
   exact wpAnyK_first hwt hp.1.2 ho (Region.noSelect_spec hs) (fun c a w h=>(hQ c _ w h).elim) _ listed a w hcl (Region.free_spec ho hp.2) hmem (.inl ⟨hwant,fun w' _=>k1 w'⟩) trivial
    (sound_otB hX0 hI0 hK hQ hs hwt f t' _ _ w _ (hcl.set hmem) h2 ⟨E,hE.put s2 k2⟩ h5)
  ·have key:=sound_otA (X:=X) (P:=P) (ops:=ops) (n:=n) (f:=f) (K:=K) (Q:=Q) hX0 hI0 (g:=otB P ops n f) (listed:=listed) (fun i t σ a w hi h1 h2 h3=>sound_otB hX0 hI0 hK hQ hs hwt f t σ a w _ (hcl.set hi) h1 h2 h3)
    _ t σ a w (fun i hi=>hi) hc hr hw
   refine ⟨fun h0=>?_,fun i hi=>key i hi⟩
   rw [h0] at hc
   simp [otA] at hc
theorem sound_gdt {P:Program} {ops:Array Oper} {n:Nat} {E0 E:Env} {w0 w:World} {id:Nat} {l:List AOper} {t:OT} {K:St → Prop} {Q:Exit → Act → World → Prop} {σ:St} {a:Act} (hX0:CxOK X E0 w0) (hI0:Inj E0 w0) (hK:∀ σ a w,K σ → Rel E0 w0 n σ a w → Q .normal a w) (hQ:∀ c a w,Q (.panic c) a w → False)
  (hm:P.follows .mixedOrders = true) (hc:gdtC P ops n l = some (.gdt t [])) (hr:RelE E0 w0 n E σ a w) (hw:wpot X P t σ K):(Code.region id ops true).wp P Q a w:=by
 unfold gdtC at hc
 split at hc
 case isFalse=>cases hc
 rename_i hb
 split at hc
 case h_2=>cases hc
 rename_i t' ht
 split at hc
 case isFalse=>cases hc
 simp only [Option.some.injEq,AC.gdt.injEq,and_true] at hc
 subst hc
 simp only [Bool.and_eq_true] at hb
 have hsel:Region.noSelect ops = true:=by
  have:=hb.1.1
  simp only [tailB,Bool.and_eq_true] at this
  exact this.1.1.1
 have hU:Unch (fun _=>False) w { w with drawn:=w.drawn + 1 }:=⟨rfl,rfl,rfl,Nat.le_refl _,fun _ _ _=>rfl⟩
 have hr1:=hr.ext hU
 refine wp_region_any hm (wpAny_of_K (S:=fun _=>True) (n:=ops.size - 1) _ _ _ _ ?_)
 exact sound_otB hX0 hI0 hK hQ hsel (.of_B hb.2) ops.size t' σ a _ _ (Closed.none _) ht ⟨E,hr1⟩ hw
theorem gdtC_shape {P:Program} {ops:Array Oper} {n:Nat} {l:List AOper} {ac:AC} (h:gdtC P ops n l = some ac):∃ t,ac = .gdt t []:=by
 unfold gdtC at h
 split at h
 ·split at h
  ·split at h
   ·cases h;exact ⟨_,rfl⟩
   ·cases h
  ·cases h
 ·cases h
theorem gd2Of_shape {P:Program} {ops:Array Oper} {n:Nat} {hdI ra rb:List Nat} {ac:AC} (h:gd2Of P ops n hdI ra rb = some ac):∃ ts hd a b,ac = .gd2 ts hd a b []:=by
 unfold gd2Of at h
 split at h
 ·split at h
  ·cases h;exact ⟨_,_,_,_,rfl⟩
  ·cases h
 ·cases h
theorem sound_code {P:Program} {n:Nat} {E0:Env} {w0:World} (hX0:CxOK X E0 w0) (hI0:Inj E0 w0):∀ (c:Code) (ac:AC) (Q:Out → St → Prop) (σ:St) (a:Act) (w:World),compileC P n c = some ac.strip → Rel E0 w0 n σ a w → awp X P ac Q σ → c.wp P (QRel E0 w0 n Q) a w:=by
 intro c
 induction c with
 | skip =>
  intro ac Q σ a w hc hr hw
  cases ac<;>simp [compileC,AC.strip] at hc
  exact wp_skip ⟨σ,hw,hr⟩
 | region id ops dr =>
  intro ac Q σ a w hc hr hw
  cases dr with
  | true =>
   simp only [compileC] at hc
   split at hc
   case isFalse=>cases hc
   rename_i hm
   have hU:Unch (fun _=>False) w { w with drawn:=w.drawn + 1 }:=⟨rfl,rfl,rfl,Nat.le_refl _,fun _ _ _=>rfl⟩
   obtain ⟨E,hE⟩:=hr
   split at hc
   case h_1=>cases hc
   rename_i l h1
   split at hc
   ·rename_i hB
    obtain ⟨hlt,hB⟩:=hB
    cases ac<;>simp [AC.strip] at hc
    rename_i hd tl keep
    obtain ⟨rfl,rfl⟩:=hc
    refine wp_region_row (C:=Unch (fun _=>False) w) hm hB hU ?_
    have hcut:=compileOps_cut (P:=P) (ops:=ops) (n:=n) (quietN l) ops.toList l h1
    simp only [awp] at hw
    refine sound_wq (K:=fun σ=>wops X P (l.drop (quietN l)) σ fun σ=>Q .nrm (σ.restrict keep)) (hX0.step hI0 hE.ws) (fun σ' a' hk hr' w' hw'=>?_) _ _ σ a hcut.1 hE hw
    have hr2:=hr'.ext hw'
    have:=sound_ops (P:=P) (ops:=ops) (n:=n) (E0:=E0) (w0:=w0) (K:=fun σ=>Q .nrm (σ.restrict keep)) (Q:=QRel E0 w0 n Q) hX0 hI0 (fun σ a w hk hr=>⟨_,hk,hr.choose,hr.choose_spec.restrict keep⟩) (ops.toList.drop (quietN l)) (quietN l) _ σ' a' w' (fun j=>by
     rw [List.getElem?_drop];simp) hcut.2 ⟨E,hr2⟩ hk
    rw [List.length_drop,Array.length_toList] at this
    exact this
   split at hc
   ·rename_i ac' hac
    have hac2:ac' = ac.strip:=by simpa using hc
    have hshape:∃ hd tl,ac' = .reg hd tl []:=by
     have h9:=hac
     unfold srtAt at h9
     split at h9
     ·split at h9
      ·simp only at h9
       split at h9
       ·split at h9
        ·cases h9;exact ⟨_,_,rfl⟩
        ·cases h9
       ·cases h9
      ·cases h9
     ·cases h9
    obtain ⟨hd,tl,rfl⟩:=hshape
    cases ac<;>simp [AC.strip] at hac2
    rename_i hd' tl' keep
    obtain ⟨rfl,rfl⟩:=hac2
    simp only [awp] at hw
    exact sound_srt (K:=fun σ=>Q .nrm (σ.restrict keep)) hX0 hI0 (fun σ a w hk hr=>⟨_,hk,hr.choose,hr.choose_spec.restrict keep⟩) (fun _ _ _ h=>h) hm hac hE hw
   split at hc
   ·rename_i ac' hac
    have hac2:ac' = ac.strip:=by simpa using hc
    unfold gdqC at hac
    split at hac
    case isFalse=>cases hac
    obtain ⟨s,_,hat⟩:=Option.bind_eq_some_iff.1 hac
    have hshape:∃ hd tl,ac' = .gdq hd tl []:=by
     have h9:=hat
     unfold gdqAt at h9
     simp only at h9
     split at h9
     ·split at h9
      ·cases h9;exact ⟨_,_,rfl⟩
      ·cases h9
     ·cases h9
    obtain ⟨hd,tl,rfl⟩:=hshape
    cases ac<;>simp [AC.strip] at hac2
    rename_i hd' tl' keep
    obtain ⟨rfl,rfl⟩:=hac2
    simp only [awp] at hw
    exact sound_gdq (K:=fun σ=>Q .nrm (σ.restrict keep)) hX0 hI0 (fun σ a w hk hr=>⟨_,hk,hr.choose,hr.choose_spec.restrict keep⟩) (fun _ _ _ h=>h) hm hat hE hw
   split at hc
   ·rename_i ac' hac
    have hac2:ac' = ac.strip:=by simpa using hc
    unfold gdrC at hac
    split at hac
    case isFalse=>cases hac
    obtain ⟨s,_,hat⟩:=Option.bind_eq_some_iff.1 hac
    have hshape:∃ ts hd tl,ac' = .gdr ts hd tl []:=by
     have h9:=hat
     unfold gdrAt at h9
     simp only at h9
     split at h9
     ·split at h9
      ·cases h9;exact ⟨_,_,_,rfl⟩
      ·cases h9
     ·cases h9
    obtain ⟨ts,hd,tl,rfl⟩:=hshape
    cases ac<;>simp [AC.strip] at hac2
    rename_i ts' hd' tl' keep
    obtain ⟨rfl,rfl,rfl⟩:=hac2
    simp only [awp] at hw
    exact sound_gdr (K:=fun σ=>Q .nrm (σ.restrict keep)) hX0 hI0 (fun σ a w hk hr=>⟨_,hk,hr.choose,hr.choose_spec.restrict keep⟩) (fun _ _ _ h=>h) hm hat hE hw
   split at hc
   ·rename_i ac' hac
    have hac2:ac' = ac.strip:=by simpa using hc
    unfold gd2C at hac
    split at hac
    case isFalse=>cases hac
    obtain ⟨s,_,hat⟩:=Option.bind_eq_some_iff.1 hac
    unfold gd2At at hat
    simp only at hat
    split at hat
    case h_2=>cases hat
    obtain ⟨ts,hd,ta,tb,rfl⟩:=gd2Of_shape hat
    cases ac<;>simp [AC.strip] at hac2
    rename_i ts' hd' ta' tb' keep
    obtain ⟨rfl,rfl,rfl,rfl⟩:=hac2
    simp only [awp] at hw
    exact sound_gd2 (K:=fun σ=>Q .nrm (σ.restrict keep)) hX0 hI0 (fun σ a w hk hr=>⟨_,hk,hr.choose,hr.choose_spec.restrict keep⟩) (fun _ _ _ h=>h) hm hat hE hw
   split at hc
   ·rename_i ac' hac
    have hac2:ac' = ac.strip:=by simpa using hc
    obtain ⟨t,rfl⟩:=gdtC_shape hac
    cases ac<;>simp [AC.strip] at hac2
    rename_i t' keep
    obtain rfl:=hac2
    simp only [awp] at hw
    exact sound_gdt (K:=fun σ=>Q .nrm (σ.restrict keep)) hX0 hI0 (fun σ a w hk hr=>⟨_,hk,hr.choose,hr.choose_spec.restrict keep⟩) (fun _ _ _ h=>h) hm hac hE hw
   split at hc
   ·rename_i hB
    cases ac<;>simp [AC.strip] at hc
    rename_i dr l' keep
    obtain ⟨rfl,rfl⟩:=hc
    refine wp_region_tail (C:=Unch (fun _=>False) w) hm hB hU ?_
    have hpos:0 < ops.size:=by
     simp only [tailB,Bool.and_eq_true,decide_eq_true_eq] at hB
     exact hB.1.2
    have hsplit:ops.toList = ops.toList.take (ops.size - 1) ++ [ops[ops.size - 1]]:=by
     have:=List.take_append_drop (ops.size - 1) ops.toList
     conv=>lhs;rw [← this]
     congr 1
     rw [List.drop_eq_getElem_cons (by simp;omega)]
     simp
     omega
    obtain ⟨al,ao,rfl,g1,g2⟩:=compileOps_split (P:=P) (ops:=ops) (n:=n) _ _ trivial (by rw [← hsplit];exact h1)
    simp only [awp] at hw
    rw [wopsT_split] at hw
    refine sound_wq (K:=fun σ=>wops X P [ao] σ fun σ=>Q .nrm (σ.restrict keep)) (hX0.step hI0 hE.ws) (fun σ' a' hk hr' w' hw'=>?_) _ al σ a g1 hE hw
    have hr2:=hr'.ext hw'
    have:=sound_ops (P:=P) (ops:=ops) (n:=n) (E0:=E0) (w0:=w0) (K:=fun σ=>Q .nrm (σ.restrict keep)) (Q:=QRel E0 w0 n Q) hX0 hI0 (fun σ a w hk hr=>⟨_,hk,hr.choose,hr.choose_spec.restrict keep⟩) [ops[ops.size - 1]] (ops.size - 1) [ao] σ' a' w' (fun j=>by
     cases j with
     | zero=>simp
     | succ j=>simp;omega) (by simp [compileOps,g2]) ⟨E,hr2⟩ hk
    simp only [List.length_cons,List.length_nil,List.range'_one,wpOps_cons] at this
    exact this
   ·split at hc
    ·rename_i ac' hac
     have hac2:ac' = ac.strip:=by simpa using hc
     obtain ⟨s,_,hat⟩:=Option.bind_eq_some_iff.1 hac
     have hshape:∃ src hd tl,ac' = .drw src hd tl []:=by
      have h9:=hat
      unfold drwAt at h9
      simp only at h9
      split at h9
      ·split at h9
       ·cases h9;exact ⟨_,_,_,rfl⟩
       ·cases h9
      ·cases h9
     obtain ⟨src,hd,tl,rfl⟩:=hshape
     cases ac<;>simp [AC.strip] at hac2
     rename_i src' hd' tl' keep
     obtain ⟨rfl,rfl,rfl⟩:=hac2
     simp only [awp] at hw
     exact sound_drw (K:=fun σ=>Q .nrm (σ.restrict keep)) hX0 hI0 (fun σ a w hk hr=>⟨_,hk,hr.choose,hr.choose_spec.restrict keep⟩) (fun _ _ _ h=>h) hm hat hE hw
    split at hc
    ·rename_i ac' hac
     have hac2:ac' = ac.strip:=by simpa using hc
     unfold gdsC at hac
     split at hac
     case isFalse=>cases hac
     obtain ⟨s,_,hat⟩:=Option.bind_eq_some_iff.1 hac
     have hshape:∃ hd tl,ac' = .gds hd tl []:=by
      have h9:=hat
      unfold gdsAt at h9
      simp only at h9
      split at h9
      ·split at h9
       ·cases h9;exact ⟨_,_,rfl⟩
       ·cases h9
      ·cases h9
     obtain ⟨hd,tl,rfl⟩:=hshape
     cases ac<;>simp [AC.strip] at hac2
     rename_i hd' tl' keep
     obtain ⟨rfl,rfl⟩:=hac2
     simp only [awp] at hw
     exact sound_gds (K:=fun σ=>Q .nrm (σ.restrict keep)) hX0 hI0 (fun σ a w hk hr=>⟨_,hk,hr.choose,hr.choose_spec.restrict keep⟩) (fun _ _ _ h=>h) hm hat hE hw
    split at hc
    ·rename_i ac' hac
     have hac2:ac' = ac.strip:=by simpa using hc
     have hshape:∃ hd tl,ac' = .reg hd tl []:=by
      have h9:=hac
      unfold lastC at h9
      split at h9
      ·split at h9
       ·cases h9;exact ⟨_,_,rfl⟩
       ·cases h9
      ·cases h9
     obtain ⟨hd,tl,rfl⟩:=hshape
     cases ac<;>simp [AC.strip] at hac2
     rename_i hd' tl' keep
     obtain ⟨rfl,rfl⟩:=hac2
     simp only [awp] at hw
     exact sound_last (K:=fun σ=>Q .nrm (σ.restrict keep)) hX0 hI0 (fun σ a w hk hr=>⟨_,hk,hr.choose,hr.choose_spec.restrict keep⟩) (fun _ _ _ h=>h) hm hac hE hw
    split at hc
    case isFalse=>cases hc
    rename_i hB
    cases ac<;>simp [AC.strip] at hc
    rename_i dr l' keep
    obtain ⟨rfl,rfl⟩:=hc
    refine wp_region_quiet (C:=Unch (fun _=>False) w) hm hB hU ?_
    exact sound_wq (K:=fun σ=>Q .nrm (σ.restrict keep)) (hX0.step hI0 hE.ws) (fun σ' a' hk hr' w' hw'=>⟨_,hk,E,(hr'.ext hw').restrict keep⟩) _ l σ a h1 hE hw
  | false =>
   simp only [compileC] at hc
   obtain ⟨l,h1,h2⟩:=Option.map_eq_some_iff.1 hc
   cases ac<;>simp [AC.strip] at h2
   rename_i dr l' keep
   obtain ⟨rfl,rfl⟩:=h2
   refine wp_region ?_
   have:=sound_ops (P:=P) (ops:=ops) (n:=n) (E0:=E0) (w0:=w0) (K:=fun σ=>Q .nrm (σ.restrict keep)) (Q:=QRel E0 w0 n Q) hX0 hI0 (fun σ a w hk hr=>⟨_,hk,hr.choose,hr.choose_spec.restrict keep⟩) ops.toList 0 l σ a w (fun j=>by simp) h1 hr hw
   rwa [← List.range_eq_range',Array.length_toList] at this
 | seq x y ihx ihy =>
  intro ac Q σ a w hc hr hw
  simp only [compileC] at hc
  split at hc
  case h_2=>cases hc
  rename_i x' y' h1 h2
  cases ac<;>simp [AC.strip] at hc
  rename_i xa ya
  obtain ⟨rfl,rfl⟩:=hc
  refine wp_seq (wp_mono (ihx xa _ σ a w h1 hr hw) ?_)
  intro e a' w' hq
  cases e with
  | normal =>
   obtain ⟨σ',q1,q2⟩:=hq
   exact ihy ya Q σ' a' w' h2 q2 q1
  | exit id=>exact hq
  | ret=>exact hq
  | goto l=>exact hq
  | panic ch=>exact hq
  | outgrown=>exact hq
 | cond z x y ihx ihy =>
  intro ac Q σ a w hc hr hw
  simp only [compileC] at hc
  split at hc
  case h_2=>cases hc
  rename_i z' x' y' h0 h1 h2
  cases ac<;>simp [AC.strip] at hc
  rename_i za xa ya
  obtain ⟨rfl,rfl,rfl⟩:=hc
  simp only [awp] at hw
  split at hw
  ·rename_i t ht
   obtain ⟨E,hE⟩:=hr
   have hv:=cOpd_ev h0 hE
   rw [ht] at hv
   exact wp_cond_split (V_bool hv) (fun e=>ihx xa Q σ a w h1 ⟨E,hE⟩ (hw.1 e)) (fun e=>ihy ya Q σ a w h2 ⟨E,hE⟩ (hw.2 e))
  ·exact hw.elim
 | block id b ih =>
  intro ac Q σ a w hc hr hw
  simp only [compileC] at hc
  obtain ⟨b',h1,h2⟩:=Option.map_eq_some_iff.1 hc
  cases ac<;>simp [AC.strip] at h2
  rename_i id' ba
  obtain ⟨rfl,rfl⟩:=h2
  refine wp_block (wp_mono (ih ba _ σ a w h1 hr hw) ?_)
  intro e a' w' hq
  cases e with
  | normal=>exact hq
  | exit i =>
   obtain ⟨σ',q1,q2⟩:=hq
   simp only [Exit.inBlock]
   split
   ·rename_i e
    simp only [e,if_true] at q1
    exact ⟨σ',q1,q2⟩
   ·rename_i e
    simp only [e,if_false] at q1
    exact ⟨σ',q1,q2⟩
  | ret=>exact hq
  | goto l=>exact hq
  | panic ch=>exact hq
  | outgrown=>exact hq
 | loop b ih =>
  intro ac Q σ a w hc hr hw
  simp only [compileC] at hc
  obtain ⟨b',h1,h2⟩:=Option.map_eq_some_iff.1 hc
  cases ac<;>simp [AC.strip] at h2
  rename_i ba keep
  subst h2
  have key:=hw (fun σ=>∀ a w,Rel E0 w0 n σ a w → ∀ (f:Frame) (k:List Item) (cs:List Frame),∃ e a' w',QRel E0 w0 n Q e a' w' ∧ Arrives P (lone (f.at a (.code b :: .inLoop b :: k)) cs w) f k cs e a' w') (by
   intro σ hb a w hr f k cs
   obtain ⟨e,a',w',hq,harr⟩:=ih ba _ σ a w h1 hr hb f (.inLoop b :: k) cs
   cases e with
   | normal =>
    obtain ⟨σ',q1,q2⟩:=hq
    obtain ⟨e2,a2,w2,hq2,harr2⟩:=q1 a' w' ⟨_,q2.choose_spec.head keep⟩ f k cs
    exact ⟨e2,a2,w2,hq2,.of_steps (Steps.trans harr (.one step_inLoop)) harr2⟩
   | exit id=>exact ⟨.exit id,a',w',hq,.pass (x:=.inLoop b) rfl (fun _ _=>.inl (by simp)) harr⟩
   | ret=>exact ⟨.ret,a',w',hq,.pass (x:=.inLoop b) rfl (fun _ _=>.inl (by simp)) harr⟩
   | goto l=>exact hq.elim
   | panic ch=>exact hq.elim
   | outgrown=>exact hq.elim)
  intro f k cs
  obtain ⟨e,a',w',hq,harr⟩:=key a w ⟨_,hr.choose_spec.head keep⟩ f k cs
  exact ⟨e,a',w',hq,.of_steps (.one step_loop) harr⟩
 | exit id =>
  intro ac Q σ a w hc hr hw
  cases ac<;>simp [compileC,AC.strip] at hc
  subst hc
  exact wp_exit ⟨σ,hw,hr⟩
 | ret =>
  intro ac Q σ a w hc hr hw
  cases ac<;>simp [compileC,AC.strip] at hc
  exact wp_ret ⟨σ,hw,hr⟩
 | refuse y =>
  intro ac Q σ a w hc hr hw
  cases ac<;>simp [compileC,AC.strip] at hc
  exact hw.elim
 | _ =>
  intro ac Q σ a w hc hr hw
  simp [compileC] at hc
end Go.Proofs.YthcpaohmajjopaaGreatDoor.AM
