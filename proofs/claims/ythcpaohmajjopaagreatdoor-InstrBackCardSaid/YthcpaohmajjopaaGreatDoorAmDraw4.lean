/- The abstract machine, part Draw4. -/
import Derived.Test.YthcpaohmajjopaaGreatDoorAmDraw2
set_option linter.unusedVariables false
set_option linter.unusedSimpArgs false
namespace Go.Proofs.YthcpaohmajjopaaGreatDoor.AM
open Go
variable {X:Cx}
theorem Oper.wp_tmps {P:Program} {o:Oper} {a:Act} {w:World} {K:Act → World → Prop} {Q:Exit → Act → World → Prop} (hh:o.wp P a w K Q) :
  o.wp P a w (fun a' w'=>K a' w' ∧ ∀ t,o.dst ≠ some t → a'.tmps.getD t undef = a.tmps.getD t undef) Q:=by
 have put:∀ (a:Act) (v:Value) (t:Nat),o.dst ≠ some t → (a.put o.dst v).tmps.getD t undef = a.tmps.getD t undef:=by
  intro a v t ht
  cases hd:o.dst with
  | none=>rfl
  | some d=>simp only [Act.put];exact getD_set_ne _ _ _ _ _ (fun e=>ht (by rw [hd,e]))
 unfold Oper.wp at *
 generalize (execOp a.eval o).run P w = r at *
 cases r with
 | ok n w' =>
  cases n<;>simp only [Oper.upon] at hh ⊢ <;>
   first
    | exact ⟨hh,fun t ht=>put _ _ t ht⟩
    | exact Calls.mono hh (fun e w'' he=>by cases e<;>first | exact ⟨he,fun t ht=>put _ _ t ht⟩ | exact he)
    | exact Rows.mono hh (fun _ _ he=>⟨he,fun t ht=>put _ _ t ht⟩)
 | halt x w'=>cases x<;>simp only [Oper.upon] at hh ⊢<;>exact hh
structure KeepG (cs:List Nat) (ce:List (Nat × List L)) (m:Nat) (E:Env) (w:World) (E1:Env) (w1:World):Prop where
 ws:WStep m E w E1 w1
 kp:∀ c,c ∈ cs → E1.κ c = E.κ c
 ce:CellsV E1 w1 (get ce)
def SG (X:Cx) (cs:List Nat) (ce:List (Nat × List L)) (m:Nat) (E:Env) (w:World) (w1:World):Prop:=∃ E1,CxOK X E1 w1 ∧ KeepG cs ce m E w E1 w1
def GoodS (cs:List Nat) (ce:List (Nat × List L)) (m:Nat) (σ:St):Prop:=σ.m = m ∧ σ.ce = ce ∧ ∀ t pv,get σ.tm t = some pv → goodV cs pv = true ∨ pv = .lf .undef
theorem simL_eq {E E1:Env} {w w1:World} {x:L} {v:Value} (hx:simL x = true) (h:LeafV E w x v):LeafV E1 w1 x v ∧ ∀ v1,LeafV E1 w1 x v1 → v1 = v:=by
 cases x<;>simp only [simL,Bool.false_eq_true,reduceCtorEq] at hx
 case bool=>cases h;exact ⟨.bool _,fun _ h=>by cases h;rfl⟩
 case int=>cases h;exact ⟨.int _ _,fun _ h=>by cases h;rfl⟩
 case str=>cases h;exact ⟨.str _,fun _ h=>by cases h;rfl⟩
 case nilp=>cases h;exact ⟨.nilp,fun _ h=>by cases h;rfl⟩
 case nili=>cases h;exact ⟨.nili,fun _ h=>by cases h;rfl⟩
theorem simLs_eq {E E1:Env} {w w1:World}:∀ {xs:List L} {vs:List Value},xs.all simL = true → All2 (LeafV E w) xs vs → All2 (LeafV E1 w1) xs vs ∧ ∀ vs1,All2 (LeafV E1 w1) xs vs1 → vs1 = vs
 | [],_,_,h=>by cases h;exact ⟨.nil,fun _ h=>by cases h;rfl⟩
 | x :: xs,_,hx,h=>by
  cases h with
  | cons h1 h2 =>
   simp only [List.all_cons,Bool.and_eq_true] at hx
   obtain ⟨a1,a2⟩:=simL_eq (E1:=E1) (w1:=w1) hx.1 h1
   obtain ⟨b1,b2⟩:=simLs_eq (E1:=E1) (w1:=w1) hx.2 h2
   exact ⟨.cons a1 b1,fun _ h=>by cases h with | cons k1 k2=>rw [a2 _ k1,b2 _ k2]⟩
theorem goodV_of0 {cs:List Nat} {pv:PV} (h:goodV0 cs pv = true):goodV cs pv = true:=by
 cases pv<;>simp only [goodV0,Bool.false_eq_true] at h<;>exact h
theorem goodV_to {cs:List Nat} {E E1:Env} {w w1:World} {pv:PV} {v:Value} (hg:goodV cs pv = true) (hk:∀ c,c ∈ cs → E1.κ c = E.κ c) (h:V E w pv v):V E1 w1 pv v:=by
 cases pv with
 | lf x =>
  cases x<;>simp only [goodV,goodL,Bool.false_eq_true,reduceCtorEq] at hg
  case ptr c o =>
   obtain ⟨b,h1,h2⟩:=h
   exact ⟨b,by rw [hk c (by simpa using hg)];exact h1,h2⟩
  case bool=>cases h;exact .bool _
  case int=>cases h;exact .int _ _
  case str=>cases h;exact .str _
  case nilp=>cases h;exact .nilp
  case nili=>cases h;exact .nili
  case fn f a b =>
   cases a<;>cases b<;>simp only [goodV,goodL,Bool.false_eq_true,reduceCtorEq] at hg
   obtain ⟨us,vs,h1,h2,h3⟩:=h
   cases h2;cases h3
   exact ⟨[],[],h1,.nil,.nil⟩
 | ag xs =>
  obtain ⟨vs,rfl,h2⟩:=h
  exact ⟨vs,rfl,(simLs_eq hg h2).1⟩
 | tp _=>simp [goodV] at hg
theorem goodV_eq {cs:List Nat} {E E1:Env} {w w1:World} {pv:PV} {v v1:Value} (hg:goodV cs pv = true) (hk:∀ c,c ∈ cs → E1.κ c = E.κ c) (h:V E w pv v) (h1:V E1 w1 pv v1):v1 = v:=by
 cases pv with
 | lf x =>
  cases x<;>simp only [goodV,goodL,Bool.false_eq_true,reduceCtorEq] at hg
  case ptr c o =>
   obtain ⟨b,k1,k2⟩:=h
   obtain ⟨b',k3,k4⟩:=h1
   rw [hk c (by simpa using hg),k1] at k3
   cases k3
   rw [k2,k4]
  case fn f a b =>
   cases a<;>cases b<;>simp only [goodV,goodL,Bool.false_eq_true,reduceCtorEq] at hg
   obtain ⟨us,vs,q1,q2,q3⟩:=h
   obtain ⟨us',vs',q4,q5,q6⟩:=h1
   cases q2;cases q3;cases q5;cases q6
   rw [q1,q4]
  all_goals (cases h;cases h1;rfl)
 | ag xs =>
  obtain ⟨vs,rfl,h2⟩:=h
  obtain ⟨vs1,rfl,h3⟩:=h1
  rw [(simLs_eq (E1:=E1) (w1:=w1) hg h2).2 _ h3]
 | tp _=>simp [goodV] at hg
theorem KeepG.rel {cs:List Nat} {ce:List (Nat × List L)} {m:Nat} {E E1:Env} {w w1:World} (k:KeepG cs ce m E w E1 w1) {n:Nat} {σ:St} {a:Act} (hg:GoodS cs ce m σ) (hr:RelE E w n E σ a w):RelE E w n E1 σ a w1:=by
 obtain ⟨g1,g2,g3⟩:=hg
 refine ⟨hr.size,hr.dfr,fun t pv ht=>⟨(hr.tm t pv ht).1,?_⟩,by rw [g2];exact k.ce,by rw [g1];exact k.ws⟩
 rcases g3 t pv ht with h | rfl
 ·exact goodV_to h k.kp (hr.tm t pv ht).2
 ·exact trivial
theorem get_cellsAt {σ:St}:∀ {cs:List Nat} {c:Nat} {x:List L},get (cellsAt σ cs) c = some x → get σ.ce c = some x ∧ c ∈ cs
 | [],_,_,h=>by simp [cellsAt,get] at h
 | d :: r,c,x,h=>by
  simp only [cellsAt] at h
  cases hy:get σ.ce d with
  | some y =>
   simp only [hy,ccons,get] at h
   split at h
   ·rename_i e
    cases h;subst e
    exact ⟨hy,List.mem_cons_self ..⟩
   ·have:=get_cellsAt h
    exact ⟨this.1,List.mem_cons_of_mem _ this.2⟩
  | none =>
   simp only [hy,ccons] at h
   have:=get_cellsAt h
   exact ⟨this.1,List.mem_cons_of_mem _ this.2⟩
theorem keepG_of {cs:List Nat} {σ0 σ':St} {n:Nat} {E E1:Env} {w w1:World} {a0 a':Act} (hr0:RelE E w n E σ0 a0 w) (hm:σ'.m = σ0.m) (hr:RelE E w n E1 σ' a' w1):∀ (ts:List Nat),(∀ t ∈ ts,a'.tmps.getD t undef = a0.tmps.getD t undef) → keepS σ0 σ' ts →
  (∀ c ∈ ptrsAt σ0 ts,E1.κ c = E.κ c) ∧ (∀ c ∈ ptrsAt σ0 ts,get σ'.ce c = get σ0.ce c)
 | [],_,_=>⟨fun _ h=>by simp [ptrsAt] at h,fun _ h=>by simp [ptrsAt] at h⟩
 | t :: r,ht,hk=>by
  simp only [keepS] at hk
  obtain ⟨i1,i2⟩:=keepG_of (cs:=cs) hr0 hm hr r (fun u hu=>ht u (List.mem_cons_of_mem _ hu)) hk.2
  simp only [ptrsAt]
  cases hc:ptr1 (get σ0.tm t) with
  | some c =>
   simp only [pcons]
   unfold ptr1 at hc
   split at hc
   case h_2=>cases hc
   rename_i c' o ho
   cases hc
   rw [ho] at hk
   obtain ⟨⟨k1,k2⟩,_⟩:=hk
   obtain ⟨b,q1,q2⟩:=(hr0.tm t _ ho).2
   obtain ⟨b',q3,q4⟩:=(hr.tm t _ k1).2
   rw [ht t (List.mem_cons_self ..),q2] at q4
   obtain rfl:b' = b:=by
    have:=Value.pointer.inj q4
    cases this;rfl
   exact ⟨fun d hd=>by
    rcases List.mem_cons.1 hd with rfl | hd
    ·rw [q3,q1]
    ·exact i1 d hd,fun d hd=>by
    rcases List.mem_cons.1 hd with rfl | hd
    ·exact k2
    ·exact i2 d hd⟩
  | none=>exact ⟨i1,i2⟩
end Go.Proofs.YthcpaohmajjopaaGreatDoor.AM
