/- The abstract machine, part Callz. -/
import Derived.Test.YthcpaohmajjopaaGreatDoorAmCalls
set_option linter.unusedVariables false
set_option linter.unusedSimpArgs false
namespace Go.Proofs.YthcpaohmajjopaaGreatDoor.AM
open Go
variable {X:Cx}
theorem incall_inj {E:Env} {w:World} {c:Nat} (h:Inj E w):Inj (E.incall c) w:=by
 have kK:∀ i b,(E.incall c).κ i = some b → i = 0 ∧ E.κ c = some b:=by
  intro i b hi
  simp only [Env.incall] at hi
  split at hi
  ·exact ⟨‹_›,hi⟩
  ·cases hi
 have kO:∀ q b,(E.incall c).ω q = some b → isC 0 q = true ∧ E.ω (cplc c q) = some b:=by
  intro q b hq
  simp only [Env.incall] at hq
  split at hq
  ·exact ⟨‹_›,hq⟩
  ·cases hq
 refine ⟨fun i j b h1 h2=>?_,fun q q' b h1 h2=>?_,fun i q b h1 h2=>h.kw c _ b (kK i b h1).2 (kO q b h2).2,fun i b h1=>h.kr c b (kK i b h1).2,fun q b h1=>h.wr _ b (kO q b h1).2⟩
 ·have:=(kK i b h1).1;have:=(kK j b h2).1;omega
 ·obtain ⟨a1,a2⟩:=kO q b h1
  obtain ⟨b1,b2⟩:=kO q' b h2
  have:=h.ww _ _ _ a2 b2
  rw [← cplc_cplc' (c:=c) a1,← cplc_cplc' (c:=c) b1,this]
theorem argsA_V {E E2:Env} {w:World} {cc:Nat} {σ:St} {args:List AO} {us:List Value} (hκ:E2.κ = E.κ) (hrd:∀ b,E.rd b → E2.rd b) (hall:All2 (fun x v=>V E w (σ.ev x) v) args us) (hplaces:∀ y ∈ args.flatMap (fun x=>(σ.ev x).leaves),∀ p b,placeOf y = some p → E.ω p = some b → E2.rd b) :
  All2 (V (E2.incall cc) w) (args.map fun x=>mapL (toA cc) (σ.ev x)) us:=by
 have one:∀ {x:PV} {v:Value},V E w x v → (∀ y ∈ x.leaves,∀ p b,placeOf y = some p → E.ω p = some b → E2.rd b) → V (E2.incall cc) w (mapL (toA cc) x) v:=by
  intro x v h g
  have leafs:∀ {xs:List L} {us:List Value},All2 (LeafV E w) xs us → (∀ y ∈ xs,∀ p b,placeOf y = some p → E.ω p = some b → E2.rd b) → All2 (LeafV (E2.incall cc) w) (xs.map (toA cc)) us:=by
   intro xs us h
   induction h with
   | nil=>intro _;exact .nil
   | cons q1 q2 ih=>intro g;exact .cons (toA_leaf hκ hrd (g _ (List.mem_cons_self ..)) q1) (ih (fun y hy=>g y (List.mem_cons_of_mem _ hy)))
  have one1:∀ {x:PV} {v:Value},V1 E w x v → (∀ y ∈ x.cells,∀ p b,placeOf y = some p → E.ω p = some b → E2.rd b) → V1 (E2.incall cc) w (mapL1 (toA cc) x) v:=by
   intro x v h g
   cases x with
   | lf x=>exact toA_leaf hκ hrd (g x (by simp [PV.cells])) h
   | ag xs =>
    obtain ⟨vs,h1,h2⟩:=h
    exact ⟨vs,h1,leafs h2 g⟩
   | tp _=>exact h.elim
  cases x with
  | lf x=>exact one1 (x:=.lf x) h g
  | ag xs=>exact one1 (x:=.ag xs) h g
  | tp xs =>
   obtain ⟨us,h1,h2⟩:=h
   refine ⟨us,h1,?_⟩
   have gen:∀ {xs:List PV} {us:List Value},All2 (V1 E w) xs us → (∀ y ∈ xs.flatMap PV.cells,∀ p b,placeOf y = some p → E.ω p = some b → E2.rd b) → All2 (V1 (E2.incall cc) w) (xs.map (mapL1 (toA cc))) us:=by
    intro xs us h
    induction h with
    | nil=>intro _;exact .nil
    | cons q1 q2 ih=>intro g;exact .cons (one1 q1 (fun y hy=>g y (by simp only [List.flatMap_cons];exact List.mem_append_left _ hy))) (ih (fun y hy=>g y (by simp only [List.flatMap_cons];exact List.mem_append_right _ hy)))
   exact gen h2 g
 have gen:∀ {as:List AO} {us:List Value},All2 (fun x v=>V E w (σ.ev x) v) as us → (∀ y ∈ as.flatMap (fun x=>(σ.ev x).leaves),∀ p b,placeOf y = some p → E.ω p = some b → E2.rd b) → All2 (V (E2.incall cc) w) (as.map fun x=>mapL (toA cc) (σ.ev x)) us:=by
  intro as us h
  induction h with
  | nil=>intro _;exact .nil
  | cons q1 q2 ih=>intro g;exact .cons (one q1 (fun y hy=>g y (by simp only [List.flatMap_cons];exact List.mem_append_left _ hy))) (ih (fun y hy=>g y (by simp only [List.flatMap_cons];exact List.mem_append_right _ hy)))
 exact gen hall hplaces
theorem sound_callp {P:Program} {o:Oper} {c:Call} {f:FuncId} {fn:Func} {ip:Nat} {args:List AO} (ho:o.op = .call c) (hc:c.callee = .value (.func f)) (hf:P.funcs[f]? = some fn) (hname:(fn.name == "runtime.NumGoroutine") = false) (hb:fn.body.isNone = false) (ha:cArgs P c.args.toList fn.params.toList = some args):Sound X P o (.callp f ip args):=by
 intro E0 E w0 w n σ a K Q hX hr hd hw
 simp only [wop] at hw
 split at hw
 case h_2=>exact sound_callA ho hc hf hname hb ha hX hr hd hw
 rename_i cc hip
 obtain ⟨cs,hcs,r,cs',hR,hres,hK⟩:=hw
 have hall:=cArgs_all hr c.args.toList fn.params.toList args ha
 have run:(execOp a.eval o).run P w = .ok (.enter f (c.args.map a.eval)) w:=by
  have he:a.eval (.func f) = .func (.func f) #[] #[]:=rfl
  simp only [execOp,ho,resolve,hc,he,Deferred.ofValue,invoke,callFunc,Sem.run_bind,Sem.run_pure,Result.andThen_ok,run_program,hf,hname,hb]
  simp
 have hvs:(c.args.map a.eval) = (c.args.toList.map a.eval).toArray:=by rw [← Array.toList_map]
 obtain ⟨E2,hr2,hκ,hrd,hplaces,hω,hω2,hm,_⟩:=RelE.downs (args.flatMap fun x=>(σ.ev x).leaves) hr
 obtain ⟨b,u,T,hb1,hb2,hb3⟩:=hr2.ce cc cs hcs
 have hV:All2 (V (E2.incall cc) w) (args.map fun x=>mapL (toA cc) (σ.ev x)) (c.args.toList.map a.eval):=argsA_V hκ hrd hall hplaces
 have:=hR (E2.incall cc) w _ ((hX.sub hrd).sub (fun b hb=>hb)) (incall_inj hr2.ws.inj) (fun i hi=>by simp only [List.length_cons,List.length_nil] at hi;simp only [Env.incall];rw [if_neg (by omega)]) hV (fun j x hx=>by
  cases j with
  | zero =>
   simp only [List.getElem?_cons_zero,Option.some.injEq] at hx
   subst hx
   exact ⟨b,u,T,by simp [Env.incall,hb1],hb2,hb3.map_left _ (fun x v hx=>toC_leaf x v hx)⟩
  | succ j=>simp at hx)
 unfold Oper.wp
 rw [run,Oper.upon_enter,hvs]
 refine this.mono ?_
 rintro e w' ⟨v,E',rfl,W,hv,hcell⟩
 obtain ⟨b',u',T',k1,k2,k3⟩:=hcell 0 cs' rfl
 have hk:=W.k0 0 (by simp)
 rw [k1] at hk
 simp only [Env.incall,if_true,hb1,Option.some.injEq] at hk
 subst hk
 exact ⟨_,hK,callp_fin hr2 hd ⟨hr2.ws.inj,W⟩ hb1 hres hv ⟨u',T',k2,k3⟩⟩
end Go.Proofs.YthcpaohmajjopaaGreatDoor.AM
