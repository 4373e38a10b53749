/- The abstract machine, part Ops9. -/
import Derived.Test.YthcpaohmajjopaaGreatDoorAmOps8
set_option linter.unusedVariables false
set_option linter.unusedSimpArgs false
namespace Go.Proofs.YthcpaohmajjopaaGreatDoor.AM
open Go
variable {X:Cx}
theorem killPs_step {E E':Env} {w w':World} {ps:List Nat} (S:Step E w E' w' (fun q=>q ∈ ps) (fun _=>False)) (x:L) (v:Value) (h:LeafV E w x v):LeafV E' w' (killPs ps x) v:=by
 have gen:∀ y:L,leafFree (fun q=>q ∈ ps) (fun _=>False) y → LeafV E w y v → LeafV E' w' y v:=fun y hf hy=>hy.step S hf
 have tf:∀ t:Tag,tagKs ps t = false → t.free (fun q=>q ∈ ps):=by
  intro t h
  cases t with
  | own q e=>simpa [tagKs,Tag.free] using h
  | vw q=>simpa [tagKs,Tag.free] using h
  | _=>trivial
 cases x with
 | lst t sz xs sp =>
  cases h1:tagKs ps t with
  | true=>simp only [killPs,h1,if_true];trivial
  | false=>simp only [killPs,h1,Bool.false_eq_true,if_false];exact gen _ (tf t h1) h
 | ep t sz xs sp i o =>
  cases h1:tagKs ps t with
  | true=>simp only [killPs,h1,if_true];trivial
  | false=>simp only [killPs,h1,Bool.false_eq_true,if_false];exact gen _ (tf t h1) h
 | ptr c o=>exact gen _ (fun h=>h) h
 | tptr c o T=>exact gen _ (fun h=>h) h
 | sl c o z l cp=>exact gen _ (fun h=>h) h
 | gl g1 o1=>exact gen _ trivial h
 | fn f a1 b1=>exact gen _ (fun _ _ _ _ h=>h) h
 | it q s i =>
  cases h1:ps.contains q with
  | true=>simp only [killPs,h1,if_true];trivial
  | false=>simp only [killPs,h1,Bool.false_eq_true,if_false];exact gen _ (show ¬ q ∈ ps by simpa using h1) h
 | undef=>trivial
 | no=>exact h
 | bool b=>exact gen _ trivial h
 | int k n=>exact gen _ trivial h
 | str s=>exact gen _ trivial h
 | nilp=>exact gen _ trivial h
 | iface t v=>exact gen _ trivial h
 | nili=>exact gen _ trivial h
 | nilf=>exact gen _ trivial h
 | ln _=>exact gen _ trivial h
 | rp _ _=>exact gen _ trivial h
theorem roL_arg {E:Env} {w:World} {Rb:Nat → Prop} (hrd:∀ b,E.rd b → Rb b) {x:L} (hp:∀ p b,placeOf x = some p → E.ω p = some b → Rb b) {v:Value} (h:LeafV E w x v):LeafV ⟨Rb,fun _=>none,fun _=>none⟩ w (roL x) v:=by
 by_cases hx:datL x = true
 ·exact (roL_D hrd hp hx h).leaf
 ·cases x
  case fn f a b =>
   have e:roL (.fn f a b) = .undef:=by
    have:pureL a b = false:=by simpa [datL] using hx
    simp [roL,this]
   rw [e];trivial
  all_goals first | trivial | exact h | simp [datL] at hx
theorem arg_V {E:Env} {w:World} {Rb:Nat → Prop} (hrd:∀ b,E.rd b → Rb b) {x:PV} (hp:∀ y ∈ x.leaves,∀ p b,placeOf y = some p → E.ω p = some b → Rb b) {v:Value} (h:V E w x v):V ⟨Rb,fun _=>none,fun _=>none⟩ w (mapL roL x) v:=by
 have gen:∀ {cs:List L} {us:List Value},All2 (LeafV E w) cs us → (∀ y ∈ cs,∀ p b,placeOf y = some p → E.ω p = some b → Rb b) → All2 (LeafV ⟨Rb,fun _=>none,fun _=>none⟩ w) (cs.map roL) us:=by
  intro cs us h
  induction h with
  | nil=>intro _;exact .nil
  | cons q1 q2 ih=>intro g;exact .cons (roL_arg hrd (g _ (List.mem_cons_self ..)) q1) (ih (fun y hy=>g y (List.mem_cons_of_mem _ hy)))
 have gen1:∀ {x:PV} {v:Value},V1 E w x v → (∀ y ∈ x.cells,∀ p b,placeOf y = some p → E.ω p = some b → Rb b) → V1 ⟨Rb,fun _=>none,fun _=>none⟩ w (mapL1 roL x) v:=by
  intro x v h g
  cases x with
  | lf x=>exact roL_arg hrd (g _ (by simp [PV.cells])) h
  | ag cs =>
   obtain ⟨vs,h1,h2⟩:=h
   exact ⟨vs,h1,gen h2 g⟩
  | tp vs=>exact h.elim
 cases x with
 | lf x=>exact gen1 (x:=.lf x) h hp
 | ag cs=>exact gen1 (x:=.ag cs) h hp
 | tp xs =>
  obtain ⟨us,h1,h2⟩:=h
  refine ⟨us,h1,?_⟩
  have gen2:∀ {xs:List PV} {us:List Value},All2 (V1 E w) xs us → (∀ y ∈ xs.flatMap PV.cells,∀ p b,placeOf y = some p → E.ω p = some b → Rb b) → All2 (V1 ⟨Rb,fun _=>none,fun _=>none⟩ w) (xs.map (mapL1 roL)) us:=by
   intro xs us h
   induction h with
   | nil=>intro _;exact .nil
   | cons q1 q2 ih=>intro g;exact .cons (gen1 q1 (fun y hy=>g y (by simp only [List.flatMap_cons];exact List.mem_append_left _ hy))) (ih (fun y hy=>g y (by simp only [List.flatMap_cons];exact List.mem_append_right _ hy)))
  exact gen2 h2 hp
theorem leaf_flat {E E':Env} {w w':World} {x:L} {v:Value} (hx:flatL x = true) (h:LeafV E w x v):LeafV E' w' x v:=by
 cases x<;>first | (simp [flatL] at hx;done) | (cases h;constructor)
theorem D_flat {Rb Rb':Nat → Prop} {w w':World} {x:L} {v:Value} (hx:flatL x = true) (h:D Rb w x v):D Rb' w' x v:=by
 cases h<;>first | (simp [flatL] at hx;done) | constructor
def Env.call (E:Env) (w:World) (E':Env) (d:Nat) (own:Bool):Env :=
 {rd:=fun b=>(E.rd b ∧ b < w.heap.size) ∨ (E'.rd b ∧ w.heap.size ≤ b),κ:=E.κ,
  ω:=fun q=>if own = true ∧ q ∈ [plT d 0,plT d 1,plT d 2] then E'.ω (q - 128 * d) else E.ω q }
theorem call_step {m:Nat} {E E':Env} {w w':World} (hI:Inj E w) (hI':Inj E' w') (U:Unch (fun _=>False) w w') (hω:∀ p b,E'.ω p = some b → w.heap.size ≤ b) (d:Nat) (own:Bool) :
  WStep m E w (E.call w E' d own) w' ∧ Step E w (E.call w E' d own) w' (fun q=>own = true ∧ q ∈ [plT d 0,plT d 1,plT d 2]) (fun _=>False):=by
 have hsz:=U.size
 have key:∀ q b,(E.call w E' d own).ω q = some b → ((own = true ∧ q ∈ [plT d 0,plT d 1,plT d 2]) ∧ E'.ω (q - 128 * d) = some b) ∨ (¬ (own = true ∧ q ∈ [plT d 0,plT d 1,plT d 2]) ∧ E.ω q = some b):=by
  intro q b hq
  simp only [Env.call] at hq
  split at hq
  ·exact .inl ⟨‹_›,hq⟩
  ·exact .inr ⟨‹_›,hq⟩
 have ge:∀ q,q ∈ [plT d 0,plT d 1,plT d 2] → 128 * d ≤ q:=by
  intro q hq
  simp [plT] at hq
  omega
 refine ⟨⟨⟨U.os,U.tape,U.output,U.size,fun b hb _=>U.block b hb (fun h=>h)⟩,⟨hI.kk,?_,?_,?_,?_⟩,?_,fun b hb hlt=>.inl ⟨hb,hlt⟩,?_,fun c b hb=>.inr ⟨c,hb⟩,fun _ _=>rfl,fun c b u T _ hc hu=>⟨u,(U.block b (hI.kr c b hc).2 (fun h=>h)).trans hu⟩⟩,
  ⟨hsz,fun b hb hr=>⟨.inl ⟨hr,hb⟩,U.block b hb (fun h=>h)⟩,?_,fun _ _ _ h=>h,fun c b u T _ hc hu=>⟨u,(U.block b (hI.kr c b hc).2 (fun h=>h)).trans hu⟩⟩⟩
 ·intro q q' b hq hq'
  rcases key q b hq with ⟨e1,h1⟩ | ⟨e1,h1⟩<;>rcases key q' b hq' with ⟨e3,h3⟩ | ⟨e3,h3⟩
  ·have:=hI'.ww _ _ _ h1 h3
   have g1:=ge q e1.2
   have g2:=ge q' e3.2
   omega
  ·have:=hω _ _ h1;have:=(hI.wr q' b h3).2;omega
  ·have:=hω _ _ h3;have:=(hI.wr q b h1).2;omega
  ·exact hI.ww _ _ _ h1 h3
 ·intro c q b hc hq
  rcases key q b hq with ⟨e1,h1⟩ | ⟨e1,h1⟩
  ·have:=hω _ _ h1;have:=(hI.kr c b hc).2;omega
  ·exact hI.kw c q b hc h1
 ·intro c b hc
  have:=hI.kr c b hc
  refine ⟨fun h=>?_,by omega⟩
  rcases h with h | h
  ·exact this.1 h.1
  ·omega
 ·intro q b hq
  rcases key q b hq with ⟨e1,h1⟩ | ⟨e1,h1⟩
  ·have g:=hω _ _ h1
   refine ⟨fun h=>?_,(hI'.wr _ b h1).2⟩
   rcases h with h | h
   ·omega
   ·exact (hI'.wr _ b h1).1 h.1
  ·have:=hI.wr q b h1
   refine ⟨fun h=>?_,by omega⟩
   rcases h with h | h
   ·exact this.1 h.1
   ·omega
 ·intro b hb
  rcases hb with hb | hb
  ·exact .inl hb.1
  ·exact .inr (.inl hb.2)
 ·intro q b hq
  rcases key q b hq with ⟨e1,h1⟩ | ⟨e1,h1⟩
  ·exact .inl (hω _ _ h1)
  ·exact .inr ⟨q,h1⟩
 ·intro q b hq hb
  exact ⟨by simp only [Env.call];rw [if_neg hq];exact hb,U.block b (hI.wr q b hb).2 (fun h=>h)⟩
theorem out_leaf {E E':Env} {w w':World} {d:Nat} {own:Bool} {x:L} {v:Value} (hrd:(∀ b,E'.rd b → b < w.heap.size → E.rd b) ∨ Flat1 x) (hown:ownL x = true → own = true) (hx:resL x = true) (h:LeafV E' w' x v):LeafV (E.call w E' d own) w' (outL d x) v:=by
 have dm:(∀ b,E'.rd b → b < w.heap.size → E.rd b) → ∀ y u,D E'.rd w' y u → D (E.call w E' d own).rd w' y u:=fun h y u hd=>hd.mono (fun b hb _=>⟨by
  by_cases hlt:b < w.heap.size
  ·exact .inl ⟨h b hb hlt,hlt⟩
  ·exact .inr ⟨hb,by omega⟩,rfl⟩) (Nat.le_refl _)
 cases x with
 | lst t sz xs sp =>
  obtain ⟨A,cap,h1,h2⟩:=h
  refine ⟨A,cap,h1,?_⟩
  cases t with
  | ro =>
   rcases hrd with hrd | hrd
   ·exact dm hrd _ _ h2
   ·simp [Flat1,flatL] at hrd
  | nl=>exact h2
  | own p e =>
   have ho:=hown rfl
   have hp:p = 0 ∨ p = 2 ∨ p = 4:=by simpa [resL,resT,or_assoc] using hx
   rcases h2 with h2 | ⟨g,cur,k1,k2,k3,k4,k5,k6,k7⟩
   ·exact .inl h2
   ·refine .inr ⟨g,cur,k1,?_,k3,k4,k5,k6,?_⟩
    ·simp only [Env.call]
     rw [if_pos ⟨ho,by simp [plT];omega⟩,show 128 * d + p - 128 * d = p by omega]
     exact k2
    ·rcases hrd with hrd | hrd
     ·exact k7.mono (dm hrd)
     ·obtain ⟨hf,hs⟩:=hrd
      subst hs
      intro i x hx
      obtain ⟨q1,q2⟩:=k7 i x hx
      refine ⟨q1,fun j c hc=>?_⟩
      obtain ⟨u,hu,hd⟩:=q2 j c hc
      exact ⟨u,hu,D_flat (hf x (by simpa using List.mem_of_getElem? hx) c (List.mem_of_getElem? hc)) hd⟩
  | vw p=>simp [resL,resT] at hx
 | ep t sz xs sp i o=>trivial
 | ptr c o=>trivial
 | tptr c o T=>trivial
 | sl c o z l cp=>trivial
 | it q s i=>trivial
 | gl g o=>cases h;exact D.gl g o
 | fn f a b =>
  simp only [outL]
  split
  ·rename_i hp
   rcases hrd with hrd | hrd
   ·exact (dm hrd _ _ (fn_D hp h)).leaf
   ·simp [Flat1,flatL] at hrd
  ·trivial
 | undef=>trivial
 | no=>exact h
 | bool b=>exact leaf_flat rfl h
 | int k n=>exact leaf_flat rfl h
 | str s=>exact leaf_flat rfl h
 | nilp=>exact leaf_flat rfl h
 | nili=>exact leaf_flat rfl h
 | iface t y =>
  rcases hrd with hrd | hrd
  ·exact dm hrd _ _ h
  ·simp [Flat1,flatL] at hrd
 | nilf =>
  rcases hrd with hrd | hrd
  ·exact dm hrd _ _ h
  ·simp [Flat1,flatL] at hrd
 | ln _ =>
  rcases hrd with hrd | hrd
  ·exact dm hrd _ _ h
  ·simp [Flat1,flatL] at hrd
 | rp _ _ =>
  rcases hrd with hrd | hrd
  ·exact dm hrd _ _ h
  ·simp [Flat1,flatL] at hrd
theorem out_V1 {E E':Env} {w w':World} {d:Nat} {own:Bool} {x:PV} {v:Value} (hrd:(∀ b,E'.rd b → b < w.heap.size → E.rd b) ∨ Flat1V x) (hown:owns1 x = true → own = true)
  (hx:res1 x = true) (h:V1 E' w' x v):V1 (E.call w E' d own) w' (mapL1 (outL d) x) v:=by
 cases x with
 | lf x=>exact out_leaf hrd hown hx h
 | ag cs =>
  obtain ⟨vs,h1,h2⟩:=h
  refine ⟨vs,h1,?_⟩
  have gen:∀ {cs:List L} {us:List Value},All2 (LeafV E' w') cs us → ((∀ b,E'.rd b → b < w.heap.size → E.rd b) ∨ ∀ c ∈ cs,Flat1 c) → (cs.any ownL = true → own = true) → cs.all resL = true → All2 (LeafV (E.call w E' d own) w') (cs.map (outL d)) us:=by
   intro cs us h
   induction h with
   | nil=>intro _ _ _;exact .nil
   | cons q1 q2 ih =>
    intro g1 g2 g3
    simp only [List.all_cons,Bool.and_eq_true] at g3
    refine .cons (out_leaf (g1.imp (fun h=>h) (fun h=>h _ (List.mem_cons_self ..))) (fun ho=>g2 (by simp [ho])) g3.1 q1) (ih (g1.imp (fun h=>h) (fun h c hc=>h c (List.mem_cons_of_mem _ hc))) (fun ho=>g2 (by simp only [List.any_cons,ho,Bool.or_true])) g3.2)
  exact gen h2 hrd hown hx
 | tp vs=>exact h.elim
theorem call_fin {E0 E E':Env} {w0 w w':World} {n:Nat} {σ:St} {a:Act} (hr:RelE E0 w0 n E σ a w) {d:Option Nat} (hd:∀ t,d = some t → t < n) {r:PV} {v:Value} (hI':Inj E' w') (U:Unch (fun _=>False) w w') (hω:∀ p b,E'.ω p = some b → w.heap.size ≤ b)
  (hrd:(∀ b,E'.rd b → b < w.heap.size → E.rd b) ∨ Flat r) (hres:resOK r = true) (hV:V E' w' r v):Rel E0 w0 n ((σ.clr d r).put d (outV d r)) (a.put d v) w':=by
 cases d with
 | none =>
  have S:=ext_step (m:=σ.m) hr.ws.inj U
  exact ⟨E,hr.world S.1 (LeafV.keep S.2) (fun c b u T h1 h2 _=>⟨h1,by rw [U.block b (hr.ws.inj.kr c b h1).2 (fun h=>h)];exact h2⟩)⟩
 | some t =>
  have S:=call_step (m:=σ.m) hr.ws.inj hI' U hω t (ownsV r)
  have hcells:∀ c b u T,E.κ c = some b → w.heap[b]? = some (.cells u T (0,0)) → (Go.Proofs.YthcpaohmajjopaaGreatDoor.AM.get σ.ce c).isSome = true → (E.call w E' t (ownsV r)).κ c = some b ∧ w'.heap[b]? = some (.cells u T (0,0)) :=
   fun c b u T h1 h2 _=>⟨h1,by rw [U.block b (hr.ws.inj.kr c b h1).2 (fun h=>h)];exact h2⟩
  have h1:RelE E0 w0 n (E.call w E' t (ownsV r)) (σ.clr (some t) r) a w':=by
   unfold St.clr
   simp only
   split
   ·rename_i ho
    exact hr.step S.1 (killPs_step (S.2.mono (fun q hq=>hq.2))) hcells
   ·rename_i ho
    exact hr.world S.1 (LeafV.keep (S.2.mono (fun q hq=>ho hq.1))) hcells
  refine ⟨_,h1.put hd ?_⟩
  simp only [outV]
  cases r with
  | lf x=>exact out_V1 (x:=.lf x) hrd (fun h=>h) hres hV
  | ag cs=>exact out_V1 (x:=.ag cs) hrd (fun h=>h) hres hV
  | tp vs =>
   obtain ⟨us,h1,h2⟩:=hV
   refine ⟨us,h1,?_⟩
   have gen:∀ {xs:List PV} {us:List Value},All2 (V1 E' w') xs us → ((∀ b,E'.rd b → b < w.heap.size → E.rd b) ∨ Flat (.tp xs)) → (ownsV (.tp xs) = true → ownsV (.tp vs) = true) → resOK (.tp xs) = true → All2 (V1 (E.call w E' t (ownsV (.tp vs))) w') (xs.map (mapL1 (outL t))) us:=by
    intro xs us h
    induction h with
    | nil=>intro _ _ _;exact .nil
    | cons q1 q2 ih =>
     intro g1 g2 g3
     simp only [resOK,List.all_cons,Bool.and_eq_true] at g3
     refine .cons (out_V1 (g1.imp (fun h=>h) (fun h=>h _ (List.mem_cons_self ..))) (fun ho=>g2 (by simp only [ownsV,List.any_cons,Bool.or_eq_true];exact .inl ho)) g3.1 q1)
      (ih (g1.imp (fun h=>h) (fun h y hy=>h y (List.mem_cons_of_mem _ hy))) (fun ho=>g2 (by simp only [ownsV,List.any_cons,Bool.or_eq_true] at ho ⊢;exact .inr ho)) g3.2)
   exact gen h2 hrd (fun h=>h) hres
theorem cArgs_all {P:Program} {E0 E:Env} {w0 w:World} {n:Nat} {σ:St} {a:Act} (hr:RelE E0 w0 n E σ a w):∀ (xs:List Operand) (ts:List TypeId) (as:List AO),cArgs P xs ts = some as → All2 (fun x v=>V E w (σ.ev x) v) as (xs.map a.eval)
 | [],ts,as,h=>by
  simp only [cArgs,Option.some.injEq] at h
  subst h
  exact .nil
 | x :: xs,ts,as,h=>by
  unfold cArgs at h
  split at h
  ·rename_i y ys h1 h2
   obtain rfl:=(Option.some.inj h).symm
   exact .cons (cOpd_ev h1 hr) (cArgs_all hr xs ts.tail ys h2)
  ·cases h
theorem inj_none (Rb:Nat → Prop) (w:World):Inj ⟨Rb,fun _=>none,fun _=>none⟩ w :=
 ⟨fun _ _ _ h=>by simp at h,fun _ _ _ h=>by simp at h,fun _ _ _ h=>by simp at h,fun _ _ h=>by simp at h,fun _ _ h=>by simp at h⟩
theorem CxOK.sub {X:Cx} {E E':Env} {w:World} (h:CxOK X E w) (hs:∀ b,E.rd b → E'.rd b):CxOK X E' w:=by
 intro g cs hg
 obtain ⟨h1,h2,h0,h3⟩:=h g cs hg
 refine ⟨hs g h1,h2,h0,fun j c hc=>?_⟩
 obtain ⟨u,h4,h5⟩:=h3 j c hc
 exact ⟨u,h4,h5.mono (fun b hb _=>⟨hs b hb,rfl⟩) (Nat.le_refl _)⟩
theorem sound_callA {P:Program} {o:Oper} {c:Call} {f:FuncId} {fn:Func} {args:List AO} (ho:o.op = .call c) (hc:c.callee = .value (.func f)) (hf:P.funcs[f]? = some fn) (hname:(fn.name == "runtime.NumGoroutine") = false) (hb:fn.body.isNone = false) (ha:cArgs P c.args.toList fn.params.toList = some args)  {E0 E:Env} {w0 w:World} {n:Nat} {σ:St} {a:Act} {K:St → Prop} {Q:Exit → Act → World → Prop} (hx:CxOK X E w) (hr:RelE E0 w0 n E σ a w) (hd:∀ t,o.dst = some t → t < n) (hw:wcallA X P σ o.dst f args K):o.wp P a w (fun a' w'=>∃ σ',K σ' ∧ Rel E0 w0 n σ' a' w') Q:=by
 obtain ⟨r,hR,hres,hw⟩:=hw
 have hall:=cArgs_all hr c.args.toList fn.params.toList args ha
 have run:(execOp a.eval o).run P w = .ok (.enter f (c.args.map a.eval)) w:=by
  have he:a.eval (.func f) = .func (.func f) #[] #[]:=rfl
  simp only [execOp,ho,resolve,hc,he,Deferred.ofValue,invoke,callFunc,Sem.run_bind,Sem.run_pure,Result.andThen_ok,run_program,hf,hname,hb]
  simp
 have hvs:(c.args.map a.eval) = (c.args.toList.map a.eval).toArray:=by rw [← Array.toList_map]
 have fin:∀ (E2:Env) (σ2:St),RelE E0 w0 n E2 σ2 a w → ∀ Rb:Nat → Prop,(∀ b,E.rd b → Rb b) → (∀ y ∈ args.flatMap (fun x=>(σ.ev x).leaves),∀ p b,placeOf y = some p → E.ω p = some b → Rb b) → ((∀ b,Rb b → E2.rd b) ∨ Flat r) → K ((σ2.clr o.dst r).put o.dst (outV o.dst r)) →
   o.wp P a w (fun a' w'=>∃ σ',K σ' ∧ Rel E0 w0 n σ' a' w') Q:=by
  intro E2 σ2 hr2 Rb h1 h2 h3 hK
  have hV:All2 (V ⟨Rb,fun _=>none,fun _=>none⟩ w) (args.map fun x=>mapL roL (σ.ev x)) (c.args.toList.map a.eval):=by
   have gen:∀ {as:List AO} {us:List Value},All2 (fun x v=>V E w (σ.ev x) v) as us → (∀ y ∈ as.flatMap (fun x=>(σ.ev x).leaves),∀ p b,placeOf y = some p → E.ω p = some b → Rb b) → All2 (V ⟨Rb,fun _=>none,fun _=>none⟩ w) (as.map fun x=>mapL roL (σ.ev x)) us:=by
    intro as us h
    induction h with
    | nil=>intro _;exact .nil
    | cons q1 q2 ih=>intro g;exact .cons (arg_V h1 (fun y hy=>g y (by simp only [List.flatMap_cons];exact List.mem_append_left _ hy)) q1) (ih (fun y hy=>g y (by simp only [List.flatMap_cons];exact List.mem_append_right _ hy)))
   exact gen hall h2
  have:=hR ⟨Rb,fun _=>none,fun _=>none⟩ w _ (hx.sub h1) (inj_none _ _) (fun _ _=>rfl) hV (fun _ _ h=>by simp at h)
  unfold Oper.wp
  rw [run,Oper.upon_enter,hvs]
  refine this.mono ?_
  rintro e w' ⟨v,E',rfl,W,hv,_⟩
  have U:Unch (fun _=>False) w w':=⟨W.un.os,W.un.tape,W.un.output,W.un.size,fun b hb _=>W.un.block b hb (by rintro (⟨c,hc⟩ | ⟨p,hp⟩);(simp at hc);(simp at hp))⟩
  have hω:∀ p b,E'.ω p = some b → w.heap.size ≤ b:=fun p b hp=>by
   rcases W.om p b hp with h | ⟨q,hq⟩
   ·exact h
   ·simp at hq
  have hrd:(∀ b,E'.rd b → b < w.heap.size → E2.rd b) ∨ Flat r:=h3.imp (fun h b hb hlt=>by
   rcases W.rd b hb with h4 | h4 | ⟨p,hp⟩ | ⟨c,_,hc⟩
   ·exact h b h4
   ·omega
   ·simp at hp
   ·simp at hc) (fun h=>h)
  exact ⟨_,hK,call_fin hr2 hd W.inj U hω hrd hres hv⟩
 rcases hw with ⟨hflat,hK⟩ | hK
 ·exact fin E σ hr (fun b=>E.rd b ∨ ∃ p,E.ω p = some b) (fun b h=>.inl h) (fun y _ p b _ h=>.inr ⟨p,h⟩) (.inr hflat) hK
 ·obtain ⟨E2,hr2,hκ,hrd,hplaces,hω,hω2,hm,_⟩:=RelE.downs (args.flatMap fun x=>(σ.ev x).leaves) hr
  exact fin E2 _ hr2 E2.rd hrd hplaces (.inl fun _ h=>h) hK
end Go.Proofs.YthcpaohmajjopaaGreatDoor.AM
