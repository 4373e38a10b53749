/- The abstract machine, part Callg. -/
import Derived.Test.YthcpaohmajjopaaGreatDoorAmCallz
set_option linter.unusedVariables false
set_option linter.unusedSimpArgs false
namespace Go.Proofs.YthcpaohmajjopaaGreatDoor.AM
open Go
variable {X:Cx}
theorem toG_leaf {E E2:Env} {w:World} {c:Nat} (hκ:E2.κ = E.κ) (hrd:∀ b,E.rd b → E2.rd b) (hω:∀ q,isC c q = true → E2.ω q = E.ω q) {x:L} (hp:noC c x = true → ∀ p b,placeOf x = some p → E.ω p = some b → E2.rd b) {v:Value} (h:LeafV E w x v):LeafV (E2.incall c) w (toG c x) v:=by
 cases x with
 | lst t sz xs sp =>
  cases t with
  | own q e =>
   simp only [toG]
   split
   ·rename_i hq
    obtain ⟨A,cap,h1,h2⟩:=h
    refine ⟨A,cap,h1,own_env h2 (fun g hg=>?_) hrd⟩
    simp only [Env.incall,isC_cplc,if_true,cplc_cplc hq]
    rw [hω q hq];exact hg
   ·rename_i hq
    exact toA_leaf (c:=c) hκ hrd (hp (by simp [noC,placeOf,hq])) h
  | vw q =>
   simp only [toG]
   split
   ·trivial
   ·rename_i hq
    exact toA_leaf (c:=c) hκ hrd (hp (by simp [noC,placeOf,hq])) h
  | ro=>exact toA_leaf (c:=c) hκ hrd (fun p b e=>by cases e) h
  | nl=>exact h
 | _=>exact toA_leaf (c:=c) hκ hrd (hp (by simp [noC,placeOf])) h
theorem argsG_V {E E2:Env} {w:World} {cc:Nat} {σ:St} {args:List AO} {us:List Value} (hκ:E2.κ = E.κ) (hrd:∀ b,E.rd b → E2.rd b) (hω:∀ q,isC cc q = true → E2.ω q = E.ω q) (hall:All2 (fun x v=>V E w (σ.ev x) v) args us) (hplaces:∀ y ∈ args.flatMap (fun x=>(σ.ev x).leaves),noC cc y = true → ∀ p b,placeOf y = some p → E.ω p = some b → E2.rd b) :
  All2 (V (E2.incall cc) w) (args.map fun x=>mapL (toG cc) (σ.ev x)) us:=by
 have one:∀ {x:PV} {v:Value},V E w x v → (∀ y ∈ x.leaves,noC cc y = true → ∀ p b,placeOf y = some p → E.ω p = some b → E2.rd b) → V (E2.incall cc) w (mapL (toG cc) x) v:=by
  intro x v h g
  have leafs:∀ {xs:List L} {us:List Value},All2 (LeafV E w) xs us → (∀ y ∈ xs,noC cc y = true → ∀ p b,placeOf y = some p → E.ω p = some b → E2.rd b) → All2 (LeafV (E2.incall cc) w) (xs.map (toG cc)) us:=by
   intro xs us h
   induction h with
   | nil=>intro _;exact .nil
   | cons q1 q2 ih=>intro g;exact .cons (toG_leaf hκ hrd hω (g _ (List.mem_cons_self ..)) q1) (ih (fun y hy=>g y (List.mem_cons_of_mem _ hy)))
  have one1:∀ {x:PV} {v:Value},V1 E w x v → (∀ y ∈ x.cells,noC cc y = true → ∀ p b,placeOf y = some p → E.ω p = some b → E2.rd b) → V1 (E2.incall cc) w (mapL1 (toG cc) x) v:=by
   intro x v h g
   cases x with
   | lf x=>exact toG_leaf hκ hrd hω (g x (by simp [PV.cells])) h
   | ag xs =>
    obtain ⟨vs,h1,h2⟩:=h
    exact ⟨vs,h1,leafs h2 g⟩
   | tp _=>exact h.elim
  cases x with
  | lf x=>exact one1 (x:=.lf x) h g
  | ag xs=>exact one1 (x:=.ag xs) h g
  | tp xs =>
   obtain ⟨us,h1,h2⟩:=h
   refine ⟨us,h1,?_⟩
   have gen:∀ {xs:List PV} {us:List Value},All2 (V1 E w) xs us → (∀ y ∈ xs.flatMap PV.cells,noC cc y = true → ∀ p b,placeOf y = some p → E.ω p = some b → E2.rd b) → All2 (V1 (E2.incall cc) w) (xs.map (mapL1 (toG cc))) us:=by
    intro xs us h
    induction h with
    | nil=>intro _;exact .nil
    | cons q1 q2 ih=>intro g;exact .cons (one1 q1 (fun y hy=>g y (by simp only [List.flatMap_cons];exact List.mem_append_left _ hy))) (ih (fun y hy=>g y (by simp only [List.flatMap_cons];exact List.mem_append_right _ hy)))
   exact gen h2 g
 have gen:∀ {as:List AO} {us:List Value},All2 (fun x v=>V E w (σ.ev x) v) as us → (∀ y ∈ as.flatMap (fun x=>(σ.ev x).leaves),noC cc y = true → ∀ p b,placeOf y = some p → E.ω p = some b → E2.rd b) → All2 (V (E2.incall cc) w) (as.map fun x=>mapL (toG cc) (σ.ev x)) us:=by
  intro as us h
  induction h with
  | nil=>intro _;exact .nil
  | cons q1 q2 ih=>intro g;exact .cons (one q1 (fun y hy=>g y (by simp only [List.flatMap_cons];exact List.mem_append_left _ hy))) (ih (fun y hy=>g y (by simp only [List.flatMap_cons];exact List.mem_append_right _ hy)))
 exact gen hall hplaces
theorem sound_callG {P:Program} {o:Oper} {c:Call} {f:FuncId} {fn:Func} {ip:Nat} {args:List AO} (ho:o.op = .call c) (hc:c.callee = .value (.func f)) (hf:P.funcs[f]? = some fn) (hname:(fn.name == "runtime.NumGoroutine") = false) (hb:fn.body.isNone = false) (ha:cArgs P c.args.toList fn.params.toList = some args)
  {E0 E:Env} {w0 w:World} {n:Nat} {σ:St} {a:Act} {K:St → Prop} {Q:Exit → Act → World → Prop} (hX:CxOK X E w) (hr:RelE E0 w0 n E σ a w) (hd:∀ t,o.dst = some t → t < n) (hw:wcallG X P σ o.dst f ip args K):o.wp P a w (fun a' w'=>∃ σ',K σ' ∧ Rel E0 w0 n σ' a' w') Q:=by
 obtain ⟨cc,jp,p,e,sz,xs,sp,σ1,hj,hpne,hip,hw⟩:=hw
 have hr0:∃ E1,RelE E0 w0 n E1 σ1 a w ∧ CxOK X E1 w:=by
  rcases hpne with ⟨_,rfl⟩ | ⟨hpne,rfl⟩
  ·exact ⟨E,hr,hX⟩
  ·exact ⟨E.ren p (gvP cc),hr.step (E':=E.ren p (gvP cc)) (w':=w) (ren_ws hr.ws.inj) (fun y v hy=>ren_leaf hpne _ _ (noP_killP _ y) (killP_leaf (E:=E) (w:=w) _ y v hy)) (fun _ _ _ _ h1 h2 _=>⟨h1,h2⟩),hX.sub (fun b hb=>hb)⟩
 obtain ⟨E1,hr1,hX1⟩:=hr0
 obtain ⟨cs,hcs,r,cs',hR,hres,hK⟩:=hw
 have hall:=cArgs_all hr1 c.args.toList fn.params.toList args ha
 have run:(execOp a.eval o).run P w = .ok (.enter f (c.args.map a.eval)) w:=by
  have he:a.eval (.func f) = .func (.func f) #[] #[]:=rfl
  simp only [execOp,ho,resolve,hc,he,Deferred.ofValue,invoke,callFunc,Sem.run_bind,Sem.run_pure,Result.andThen_ok,run_program,hf,hname,hb]
  simp
 have hvs:(c.args.map a.eval) = (c.args.toList.map a.eval).toArray:=by rw [← Array.toList_map]
 obtain ⟨E2,hr2,hκ,hrd,hplaces,hω,hω2,hm,_⟩:=RelE.downs (((args.flatMap fun x=>(σ1.ev x).leaves) ++ cellO (get σ1.ce cc)).filter (noC cc)) hr1
 obtain ⟨b,u,T,hb1,hb2,hb3⟩:=hr2.ce cc cs hcs
 have hV:All2 (V (E2.incall cc) w) (args.map fun x=>mapL (toG cc) (σ1.ev x)) (c.args.toList.map a.eval) :=
  argsG_V hκ hrd (fun q hq=>hω2 q (fun x hx e=>by
   have h1:=(List.mem_filter.1 hx).2
   simp [noC,e,hq] at h1)) hall (fun y hy h1 p b=>hplaces y (List.mem_filter.2 ⟨List.mem_append_left _ hy,h1⟩) p b)
 have:=hR (E2.incall cc) w _ ((hX1.sub hrd).sub (fun b hb=>hb)) (incall_inj hr2.ws.inj) (fun i hi=>by simp only [List.length_cons,List.length_nil] at hi;simp only [Env.incall];rw [if_neg (by omega)]) hV (fun j x hx=>by
  cases j with
  | zero =>
   simp only [List.getElem?_cons_zero,Option.some.injEq] at hx
   subst hx
   exact ⟨b,u,T,by simp [Env.incall,hb1],hb2,hb3.map_left _ (fun x v hx=>toC_leaf x v hx)⟩
  | succ j=>simp at hx)
 unfold Oper.wp
 rw [run,Oper.upon_enter,hvs]
 refine this.mono ?_
 rintro e w' ⟨v,E',rfl,W,hv,hcell⟩
 obtain ⟨b',u',T',k1,k2,k3⟩:=hcell 0 cs' rfl
 have hk:=W.k0 0 (by simp)
 rw [k1] at hk
 simp only [Env.incall,if_true,hb1,Option.some.injEq] at hk
 subst hk
 exact ⟨_,hK,callp_fin hr2 hd ⟨hr2.ws.inj,W⟩ hb1 hres hv ⟨u',T',k2,k3⟩⟩
theorem sound_callg {P:Program} {o:Oper} {c:Call} {f:FuncId} {fn:Func} {ip:Nat} {args:List AO} (ho:o.op = .call c) (hc:c.callee = .value (.func f)) (hf:P.funcs[f]? = some fn) (hname:(fn.name == "runtime.NumGoroutine") = false) (hb:fn.body.isNone = false) (ha:cArgs P c.args.toList fn.params.toList = some args):Sound X P o (.callg f ip args):=by
 intro E0 E w0 w n σ a K Q hX hr hd hw
 simp only [wop] at hw
 rcases hw with hw | hw
 ·exact sound_callp (ip:=ip) ho hc hf hname hb ha hX hr hd (by simp only [wop];exact hw)
 ·exact sound_callG ho hc hf hname hb ha hX hr hd hw
end Go.Proofs.YthcpaohmajjopaaGreatDoor.AM
