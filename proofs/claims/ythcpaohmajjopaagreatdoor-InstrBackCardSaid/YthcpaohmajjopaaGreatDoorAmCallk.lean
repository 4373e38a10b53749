/- The abstract machine, part Callk. -/
import Derived.Test.YthcpaohmajjopaaGreatDoorAmCallz
set_option linter.unusedVariables false
set_option linter.unusedSimpArgs false
namespace Go.Proofs.YthcpaohmajjopaaGreatDoor.AM
open Go
variable {X:Cx}
def Cut (c:Nat) (σ:St):Prop:=get σ.ce c = none ∧ (∀ t pv,get σ.tm t = some pv → mapL (killCl c) pv = pv) ∧ ∀ c' cs,get σ.ce c' = some cs → cs.map (killCl c) = cs
def KeepK (c:Nat) (E:Env) (w:World) (E1:Env) (w':World):Prop:=E1.κ = E.κ ∧ ∀ (E0:Env) (w0:World) (n:Nat) (σ:St) (a:Act),Cut c σ → RelE E0 w0 n E σ a w → RelE E0 w0 n E1 σ a w'
theorem killCl_idem (c:Nat) (x:L):killCl c (killCl c x) = killCl c x:=by
 cases x<;>try rfl
 case lst t sz xs sp=>by_cases h:tagC c t = true<;>simp [killCl,h]
 case ep t sz xs sp i o=>by_cases h:tagC c t = true<;>simp [killCl,h]
 case it q s i=>by_cases h:isC c q = true<;>simp [killCl,h]
theorem mapL1_idem {f:L → L} (hf:∀ x,f (f x) = f x) (x:PV):mapL1 f (mapL1 f x) = mapL1 f x:=by
 cases x<;>simp [mapL1,hf]
theorem mapL_idem {f:L → L} (hf:∀ x,f (f x) = f x) (x:PV):mapL f (mapL f x) = mapL f x:=by
 cases x with
 | lf x=>exact mapL1_idem hf (.lf x)
 | ag xs=>exact mapL1_idem hf (.ag xs)
 | tp xs =>
  simp only [mapL,List.map_map]
  congr 1
  exact List.map_congr_left fun x _=>mapL1_idem hf x
theorem Cut.cutc (c:Nat) (σ:St):Cut c (σ.cutc c):=by
 refine ⟨get_del_same _ _,fun t pv h=>?_,fun c' cs h=>?_⟩
 ·simp only [St.cutc,get_mapSnd] at h
  obtain ⟨pv',_,rfl⟩:=Option.map_eq_some_iff.1 h
  exact mapL_idem (killCl_idem c) pv'
 ·by_cases e:c' = c
  ·subst e;simp only [St.cutc] at h;rw [get_del_same] at h;cases h
  ·simp only [St.cutc] at h
   rw [get_del_ne _ e,get_mapSnd] at h
   obtain ⟨cs',_,rfl⟩:=Option.map_eq_some_iff.1 h
   simp [killCl_idem]
theorem killCl_leaf {E:Env} {w:World} (c:Nat) (x:L) (v:Value) (h:LeafV E w x v):LeafV E w (killCl c x) v:=by
 cases x<;>try exact h
 all_goals
  simp only [killCl];split
  ·trivial
  ·exact h
theorem RelE.cutc {E0 E:Env} {w0 w:World} {n:Nat} {σ:St} {a:Act} (h:RelE E0 w0 n E σ a w) (c:Nat):RelE E0 w0 n E (σ.cutc c) a w:=by
 have h1:=h.same (f:=killCl c) (fun x v=>killCl_leaf c x v)
 exact h1.weak rfl (fun _ _ h=>h) (fun c' cs h=>by
  by_cases e:c' = c
  ·subst e;simp only [St.cutc] at h;rw [get_del_same] at h;cases h
  ·simp only [St.cutc] at h;rwa [get_del_ne _ e] at h)
theorem keep_callc {E E':Env} {w w':World} {c:Nat} (H:CallE E w E' w' c) (t:Nat):KeepK c E w (E.callc w E' c t false) w':=by
 refine ⟨rfl,fun E0 w0 n σ a hC hr=>?_⟩
 have S:=callc_step (m:=σ.m) H t false
 have h1:=hr.step (f:=killCl c) S.1 (fun x v hx=>killCl_step S.2 (fun q hq=>hq.elim (fun h=>by cases h.1) (fun h=>h)) x v hx) (fun c' b' u T g1 g2 g3=>by
  have hne:c' ≠ c:=by
   rintro rfl
   rw [hC.1] at g3;cases g3
  exact ⟨g1,by rw [H.other hne g1];exact g2⟩)
 refine h1.weak rfl (fun t pv ht=>?_) (fun c' cs hc=>?_)
 ·simp only [St.mapAll,get_mapSnd,ht,Option.map_some,hC.2.1 t pv ht]
 ·simp only [St.mapAll,get_mapSnd,hc,Option.map_some,hC.2.2 c' cs hc]
theorem callp_fink {E0 E E':Env} {w0 w w':World} {n:Nat} {σ:St} {a:Act} {c:Nat} (hr:RelE E0 w0 n E σ a w) {t:Nat} (hd:t < n) (H:CallE E w E' w' c) {b:Nat} (hb:E.κ c = some b) {r:PV} {v:Value} (hres:resOK r = true) (hown:ownsV r = false) (hV:V E' w' r v)
  {cs':List L} (hcell:∃ u T,w'.heap[b]? = some (.cells u T (0,0)) ∧ All2 (LeafV E' w') cs' u.toList):RelE E0 w0 n (E.callc w E' c t false) ((callpSt σ c cs' (some t) r).put (some t) (outV (some t) r)) (a.put (some t) v) w':=by
 have S:=callc_step (m:=σ.m) H t false
 have hf:∀ x v,LeafV E w x v → LeafV (E.callc w E' c t false) w' (kf c (some t) r x) v:=fun x v hx=>by
  simp only [kf,hown]
  exact killCl_step S.2 (fun q hq=>hq.elim (fun h=>by cases h.1) (fun h=>h)) x v hx
 have main:RelE E0 w0 n (E.callc w E' c t false) (callpSt σ c cs' (some t) r) a w':=by
  have h0:RelE E0 w0 n E { σ with ce:=del σ.ce c } a w:=hr.weak rfl (fun _ _ h=>h) (fun c' cs h=>by
   by_cases e:c' = c
   ·subst e;rw [get_del_same] at h;cases h
   ·rwa [get_del_ne _ e] at h)
  have h1:=h0.step (f:=kf c (some t) r) S.1 hf (fun c' b' u T g1 g2 g3=>by
   have hne:c' ≠ c:=by
    rintro rfl
    rw [get_del_same] at g3;cases g3
   exact ⟨g1,by rw [H.other hne g1];exact g2⟩)
  refine ⟨h1.size,h1.dfr,h1.tm,fun c' cs h=>?_,h1.ws⟩
  simp only [callpSt,Go.Proofs.YthcpaohmajjopaaGreatDoor.AM.get] at h
  split at h
  ·rename_i e
   subst e
   obtain rfl:=Option.some.inj h
   obtain ⟨u,T,k1,k2⟩:=hcell
   exact ⟨b,u,T,hb,k1,k2.map_left _ (fun x v hx=>fromC_leaf H x v hx)⟩
  ·rw [del_mapSnd] at h
   exact h1.ce c' cs h
 refine main.put (fun t' e=>by cases e;exact hd) ?_
 have:=outc_V (E:=E) (w:=w) (c:=c) (d:=t) hres hV
 rw [hown] at this
 exact this
theorem detK_own {t:Nat} {r:PV} (hres:resOK r = true) (h:detK (mapL (outL t) r) = true):ownsV r = false:=by
 cases r with
 | lf x=>cases x<;>simp_all [mapL,mapL1,outL,detK,ownsV,owns1,ownL]
 | ag _=>simp [mapL,mapL1,detK] at h
 | tp _=>simp [mapL,detK] at h
theorem down_none:∀ (l:List L) (σ:St),l.all noPl = true → σ.down l = σ
 | [],σ,_=>rfl
 | x :: l,σ,h=>by
  simp only [List.all_cons,Bool.and_eq_true,noPl,Option.isNone_iff_eq_none] at h
  simp only [St.down,h.1]
  exact down_none l σ (by simpa [noPl] using h.2)
theorem sound_callpk {P:Program} {o:Oper} {c:Call} {f:FuncId} {fn:Func} {ip:Nat} {args:List AO} (ho:o.op = .call c) (hc:c.callee = .value (.func f)) (hf:P.funcs[f]? = some fn) (hname:(fn.name == "runtime.NumGoroutine") = false) (hb:fn.body.isNone = false) (ha:cArgs P c.args.toList fn.params.toList = some args)
  {E0 E:Env} {w0 w:World} {n:Nat} {σ:St} {a:Act} {K:St → Prop} {Q:Exit → Act → World → Prop} {cc:Nat} (hX:CxOK X E w) (hr:RelE E0 w0 n E σ a w) (hd:∀ t,o.dst = some t → t < n) (hip:callArg ip args σ = some cc) (hpl:(args.flatMap fun x=>(σ.ev x).leaves).all noPl = true)
  (hw:wop X P σ o.dst (.callp f ip args) fun σ'=>detD σ' o.dst = true ∧ K σ'):o.wp P a w (fun a' w'=>∃ σ' E1,K σ' ∧ RelE E0 w0 n E1 σ' a' w' ∧ KeepK cc E w E1 w') Q:=by
 simp only [wop] at hw
 rw [show (args[ip]?).bind (fun x=>ptrC (σ.ev x)) = some cc from hip] at hw
 simp only [down_none _ _ hpl] at hw
 obtain ⟨cs,hcs,r,cs',hR,hres,hdet,hK⟩:=hw
 have hplaces:∀ y ∈ (args.flatMap fun x=>(σ.ev x).leaves),∀ p b,placeOf y = some p → E.ω p = some b → E.rd b:=by
  intro y hy p b hp
  have:=List.all_eq_true.1 hpl y hy
  simp [noPl,hp] at this
 have hall:=cArgs_all hr c.args.toList fn.params.toList args ha
 have run:(execOp a.eval o).run P w = .ok (.enter f (c.args.map a.eval)) w:=by
  have he:a.eval (.func f) = .func (.func f) #[] #[]:=rfl
  simp only [execOp,ho,resolve,hc,he,Deferred.ofValue,invoke,callFunc,Sem.run_bind,Sem.run_pure,Result.andThen_ok,run_program,hf,hname,hb]
  simp
 have hvs:(c.args.map a.eval) = (c.args.toList.map a.eval).toArray:=by rw [← Array.toList_map]
 obtain ⟨b,u,T,hb1,hb2,hb3⟩:=hr.ce cc cs hcs
 have hV:All2 (V (E.incall cc) w) (args.map fun x=>mapL (toA cc) (σ.ev x)) (c.args.toList.map a.eval):=by
  have one:∀ {x:PV} {v:Value},V E w x v → (∀ y ∈ x.leaves,∀ p b,placeOf y = some p → E.ω p = some b → E.rd b) → V (E.incall cc) w (mapL (toA cc) x) v:=by
   intro x v h g
   have leafs:∀ {xs:List L} {us:List Value},All2 (LeafV E w) xs us → (∀ y ∈ xs,∀ p b,placeOf y = some p → E.ω p = some b → E.rd b) → All2 (LeafV (E.incall cc) w) (xs.map (toA cc)) us:=by
    intro xs us h
    induction h with
    | nil=>intro _;exact .nil
    | cons q1 q2 ih=>intro g;exact .cons (toA_leaf rfl (fun _ h=>h) (g _ (List.mem_cons_self ..)) q1) (ih (fun y hy=>g y (List.mem_cons_of_mem _ hy)))
   have one1:∀ {x:PV} {v:Value},V1 E w x v → (∀ y ∈ x.cells,∀ p b,placeOf y = some p → E.ω p = some b → E.rd b) → V1 (E.incall cc) w (mapL1 (toA cc) x) v:=by
    intro x v h g
    cases x with
    | lf x=>exact toA_leaf rfl (fun _ h=>h) (g x (by simp [PV.cells])) h
    | ag xs =>
     obtain ⟨vs,h1,h2⟩:=h
     exact ⟨vs,h1,leafs h2 g⟩
    | tp _=>exact h.elim
   cases x with
   | lf x=>exact one1 (x:=.lf x) h g
   | ag xs=>exact one1 (x:=.ag xs) h g
   | tp xs =>
    obtain ⟨us,h1,h2⟩:=h
    refine ⟨us,h1,?_⟩
    have gen:∀ {xs:List PV} {us:List Value},All2 (V1 E w) xs us → (∀ y ∈ xs.flatMap PV.cells,∀ p b,placeOf y = some p → E.ω p = some b → E.rd b) → All2 (V1 (E.incall cc) w) (xs.map (mapL1 (toA cc))) us:=by
     intro xs us h
     induction h with
     | nil=>intro _;exact .nil
     | cons q1 q2 ih=>intro g;exact .cons (one1 q1 (fun y hy=>g y (by simp only [List.flatMap_cons];exact List.mem_append_left _ hy))) (ih (fun y hy=>g y (by simp only [List.flatMap_cons];exact List.mem_append_right _ hy)))
    exact gen h2 g
  have gen:∀ {as:List AO} {us:List Value},All2 (fun x v=>V E w (σ.ev x) v) as us → (∀ y ∈ as.flatMap (fun x=>(σ.ev x).leaves),∀ p b,placeOf y = some p → E.ω p = some b → E.rd b) → All2 (V (E.incall cc) w) (as.map fun x=>mapL (toA cc) (σ.ev x)) us:=by
   intro as us h
   induction h with
   | nil=>intro _;exact .nil
   | cons q1 q2 ih=>intro g;exact .cons (one q1 (fun y hy=>g y (by simp only [List.flatMap_cons];exact List.mem_append_left _ hy))) (ih (fun y hy=>g y (by simp only [List.flatMap_cons];exact List.mem_append_right _ hy)))
  exact gen hall hplaces
 have:=hR (E.incall cc) w _ (hX.sub (fun b hb=>hb)) (incall_inj hr.ws.inj) (fun i hi=>by simp only [List.length_cons,List.length_nil] at hi;simp only [Env.incall];rw [if_neg (by omega)]) hV (fun j x hx=>by
  cases j with
  | zero =>
   simp only [List.getElem?_cons_zero,Option.some.injEq] at hx
   subst hx
   exact ⟨b,u,T,by simp [Env.incall,hb1],hb2,hb3.map_left _ (fun x v hx=>toC_leaf x v hx)⟩
  | succ j=>simp at hx)
 unfold Oper.wp
 rw [run,Oper.upon_enter,hvs]
 refine this.mono ?_
 rintro e w' ⟨v,E',rfl,W,hv,hcell⟩
 obtain ⟨b',u',T',k1,k2,k3⟩:=hcell 0 cs' rfl
 have hk:=W.k0 0 (by simp)
 rw [k1] at hk
 simp only [Env.incall,if_true,hb1,Option.some.injEq] at hk
 subst hk
 cases hdst:o.dst with
 | none=>rw [hdst] at hdet;cases hdet
 | some t =>
  rw [hdst] at hdet hK
  have ht:detK (mapL (outL t) r) = true:=by simpa [detD,detG,St.put,Go.Proofs.YthcpaohmajjopaaGreatDoor.AM.get,outV] using hdet
  have H:CallE E w E' w' cc:=⟨hr.ws.inj,W⟩
  exact ⟨_,_,hK,callp_fink hr (hd t hdst) H hb1 hres (detK_own hres ht) hv ⟨u',T',k2,k3⟩,keep_callc H t⟩
end Go.Proofs.YthcpaohmajjopaaGreatDoor.AM
