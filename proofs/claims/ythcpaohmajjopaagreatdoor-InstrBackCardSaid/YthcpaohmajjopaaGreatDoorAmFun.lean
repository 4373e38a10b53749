/- The abstract machine, part Fun. -/
import Derived.Test.YthcpaohmajjopaaGreatDoorAmExec
import Derived.Laws.Sem
set_option linter.unusedVariables false
set_option linter.unusedSimpArgs false
namespace Go.Proofs.YthcpaohmajjopaaGreatDoor.AM
open Go
variable {X:Cx}
inductive RV where
 | t (n:Nat)
 | c (n sz:Nat) (agg:Bool)
def cRes (P:Program):List ResultVar → Option (List RV)
 | []=>some []
 | .tmp t :: r=>(cRes P r).map fun l=>.t t :: l
 | .cell a ty :: r=>match szOf P ty,P.underlying ty,cRes P r with
  | some n,some _,some l=>some (.c a n (isAggT P ty) :: l)
  | _,_,_=>none
def compileFn (P:Program) (f:Nat):Option (Nat × AC × List RV) :=
 match P.funcs[f]? with
 | some fn=>match fn.body with
  | some c=>match compileC P fn.ntmps c,cRes P fn.results.toList with
   | some ac,some rs=>some (fn.ntmps,ac,rs)
   | _,_=>none
  | none=>none
 | none=>none
def enum {α:Type}:Nat → List α → List (Nat × α)
 | _,[]=>[]
 | i,x :: xs=>(i,x) :: enum (i + 1) xs
theorem get_enum {α:Type}:∀ (l:List α) (i t:Nat) (x:α),get (enum i l) t = some x ↔ i ≤ t ∧ l[t - i]? = some x
 | [],i,t,x=>by simp [enum,get]
 | y :: ys,i,t,x=>by
  simp only [enum,get]
  split
  ·rename_i e
   subst e
   simp
  ·rename_i e
   rw [get_enum ys (i + 1) t x]
   constructor
   ·rintro ⟨h1,h2⟩
    refine ⟨by omega,?_⟩
    rw [show t - i = (t - (i + 1)) + 1 by omega,List.getElem?_cons_succ]
    exact h2
   ·rintro ⟨h1,h2⟩
    refine ⟨by omega,?_⟩
    rwa [show t - i = (t - (i + 1)) + 1 by omega,List.getElem?_cons_succ] at h2
def St.init (args:List PV) (cs:List (List L)):St:={ m:=cs.length,tm:=enum 0 args,ce:=enum 0 cs }
def tagTo (ρ:List (Nat × Nat)) (dn:List Nat) (xs:List (List L)):Tag → Tag → Prop
 | .own q e,.own p e'=>e = e' ∧ get ρ p = some q
 | .nl,.own _ _=>xs = []
 | .nl,.nl=>True
 | .nl,.ro=>True
 | .ro,.ro=>True
 | .own q _,.ro=>dn.contains q = true
 | .vw q,.ro=>dn.contains q = true
 | _,_=>False
def ownT:Tag → Bool
 | .own _ _=>true
 | _=>false
def leafTo (m:Nat) (ρ:List (Nat × Nat)) (dn:List Nat):L → L → Prop
 | _,.undef=>True
 | .lst t sz xs sp,.lst t' sz' xs' sp'=>xs = xs' ∧ (sz = sz' ∨ (xs' = [] ∧ sp' = [] ∧ ownT t = false)) ∧ (sp' = [] ∨ sp' = sp) ∧ tagTo ρ dn xs' t t'
 | .lst _ _ _ _,_=>False
 | .ptr c o,.ptr c' o'=>c = c' ∧ o = o' ∧ c < m
 | .tptr c o T,.tptr c' o' T'=>c = c' ∧ o = o' ∧ T = T' ∧ c < m
 | x,y=>datL x = true ∧ x = y
def leavesTo (m:Nat) (ρ:List (Nat × Nat)) (dn:List Nat):List L → List L → Prop
 | [],[]=>True
 | x :: xs,y :: ys=>leafTo m ρ dn x y ∧ leavesTo m ρ dn xs ys
 | _,_=>False
def pv1To (m:Nat) (ρ:List (Nat × Nat)) (dn:List Nat):PV → PV → Prop
 | .lf x,.lf y=>leafTo m ρ dn x y
 | .ag xs,.ag ys=>leavesTo m ρ dn xs ys
 | _,_=>False
def pv1sTo (m:Nat) (ρ:List (Nat × Nat)) (dn:List Nat):List PV → List PV → Prop
 | [],[]=>True
 | x :: xs,y :: ys=>pv1To m ρ dn x y ∧ pv1sTo m ρ dn xs ys
 | _,_=>False
def pvTo (m:Nat) (ρ:List (Nat × Nat)) (dn:List Nat):PV → PV → Prop
 | .tp xs,.tp ys=>pv1sTo m ρ dn xs ys
 | x,y=>pv1To m ρ dn x y
def cellsTo (ρ:List (Nat × Nat)) (dn:List Nat) (m:Nat) (σ:St):Nat → List (List L) → Prop
 | _,[]=>True
 | j,c :: cs=>j < m ∧ (∃ g,get σ.ce j = some g ∧ leavesTo m ρ dn g c) ∧ cellsTo ρ dn m σ (j + 1) cs
def rhoOK (dn:List Nat):List (Nat × Nat) → Bool
 | []=>true
 |(p,q) :: r=>!(r.any fun x=>x.1 == p || x.2 == q) && !dn.contains q && rhoOK dn r
def resOf (σ:St):List RV → (List PV → Prop) → Prop
 | [],K=>K []
 | .t n :: r,K=>resOf σ r fun l=>K (σ.ev (.t n) :: l)
 | .c n sz agg :: r,K=>match σ.ev (.t n) with
  | .lf (.ptr c o)=>∃ cs,get σ.ce c = some cs ∧ wpart cs o sz agg fun v=>resOf σ r fun l=>K (v :: l)
  | _=>False
def oneOf:List PV → PV
 | [x]=>x
 | l=>.tp l
def retQ (m:Nat) (rs:List RV) (r:PV) (cs':List (List L)) (o:Out) (σ:St):Prop :=
 match o with
 | .ex _=>False
 | _=>σ.m = m ∧ resOf σ rs fun l=>∃ ρ dn,rhoOK dn ρ = true ∧ pvTo m ρ dn (oneOf l) r ∧ cellsTo ρ dn m σ 0 cs'
theorem rho_key:∀ {ρ:List (Nat × Nat)} {dn:List Nat} {p q:Nat},rhoOK dn ρ = true → get ρ p = some q → dn.contains q = false ∧ (p,q) ∈ ρ
 | [],_,_,_,_,h=>by simp [get] at h
 |(a,b) :: r,dn,p,q,h,hg=>by
  simp only [rhoOK,Bool.and_eq_true,Bool.not_eq_true'] at h
  simp only [get] at hg
  split at hg
  ·rename_i e
   cases hg
   subst e
   exact ⟨h.1.2,List.mem_cons_self⟩
  ·have:=rho_key h.2 hg
   exact ⟨this.1,List.mem_cons_of_mem _ this.2⟩
theorem rho_inj:∀ {ρ:List (Nat × Nat)} {dn:List Nat} {p p' q:Nat},rhoOK dn ρ = true → get ρ p = some q → get ρ p' = some q → p = p'
 | [],_,_,_,_,_,h,_=>by simp [get] at h
 |(a,b) :: r,dn,p,p',q,h,h1,h2=>by
  simp only [rhoOK,Bool.and_eq_true,Bool.not_eq_true'] at h
  have hne:∀ x ∈ r,x.2 ≠ b:=by
   intro x hx e
   have:=List.any_eq_false.1 h.1.1 x hx
   simp [e] at this
  simp only [get] at h1 h2
  split at h1
  ·rename_i e1
   cases h1
   split at h2
   ·rename_i e2;omega
   ·exact absurd rfl (hne _ (rho_key h.2 h2).2)
  ·split at h2
   ·cases h2
    exact absurd rfl (hne _ (rho_key h.2 h1).2)
   ·exact rho_inj h.2 h1 h2
def Env.out (E:Env) (m:Nat) (ρ:List (Nat × Nat)) (dn:List Nat):Env :=
 {rd:=fun b=>E.rd b ∨ ∃ q,dn.contains q = true ∧ E.ω q = some b,κ:=fun c=>if c < m then E.κ c else none,ω:=fun p=>(get ρ p).bind E.ω }
theorem out_ws {E:Env} {w:World} {m:Nat} {ρ:List (Nat × Nat)} {dn:List Nat} (h:Inj E w) (hρ:rhoOK dn ρ = true):WStep m E w (E.out m ρ dn) w:=by
 have kO:∀ p b,(E.out m ρ dn).ω p = some b → ∃ q,get ρ p = some q ∧ E.ω q = some b:=by
  intro p b hb
  simp only [Env.out] at hb
  cases hg:get ρ p with
  | none=>rw [hg] at hb;cases hb
  | some q=>rw [hg] at hb;exact ⟨q,rfl,hb⟩
 have kK:∀ c b,(E.out m ρ dn).κ c = some b → E.κ c = some b:=by
  intro c b hb
  simp only [Env.out] at hb
  split at hb
  ·exact hb
  ·cases hb
 refine ⟨Unch.refl _ _,⟨fun c c' b h1 h2=>h.kk c c' b (kK _ _ h1) (kK _ _ h2),?_,?_,?_,?_⟩,?_,fun b hb _=>.inl hb,?_,fun c b hb=>.inr ⟨c,kK c b hb⟩,fun c hc=>by simp [Env.out,hc],fun c b u T _ _ hu=>⟨u,hu⟩⟩
 ·intro p p' b h1 h2
  obtain ⟨q,g1,e1⟩:=kO p b h1
  obtain ⟨q',g2,e2⟩:=kO p' b h2
  have:=h.ww q q' b e1 e2
  subst this
  exact rho_inj hρ g1 g2
 ·intro c p b h1 h2
  obtain ⟨q,_,e1⟩:=kO p b h2
  exact h.kw c q b (kK _ _ h1) e1
 ·intro c b h1
  have h2:=kK c b h1
  refine ⟨?_,(h.kr c b h2).2⟩
  rintro (h3 | ⟨q,_,h3⟩)
  ·exact (h.kr c b h2).1 h3
  ·exact h.kw c q b h2 h3
 ·intro p b h1
  obtain ⟨q,g1,e1⟩:=kO p b h1
  refine ⟨?_,(h.wr q b e1).2⟩
  rintro (h3 | ⟨q',hq',h3⟩)
  ·exact (h.wr q b e1).1 h3
  ·have:=h.ww q q' b e1 h3
   subst this
   rw [(rho_key hρ g1).1] at hq'
   cases hq'
 ·rintro b (h3 | ⟨q,_,h3⟩)
  ·exact .inl h3
  ·exact .inr (.inr (.inl ⟨q,h3⟩))
 ·intro p b h1
  obtain ⟨q,_,e1⟩:=kO p b h1
  exact .inr ⟨q,e1⟩
theorem D.rd {Rb Rb':Nat → Prop} {w:World} (h:∀ b,Rb b → Rb' b) {x:L} {v:Value} (hD:D Rb w x v):D Rb' w x v:=hD.mono (fun b hb _=>⟨h b hb,rfl⟩) (Nat.le_refl _)
theorem D_less {Rb:Nat → Prop} {w:World} {sz:Nat} {xs sp:List (List L)} {v:Value} (h:D Rb w (.lst .ro sz xs sp) v):D Rb w (.lst .ro sz xs []) v:=by
 cases h with
 | lst _ _ _ A cap us hc hm ha hs hu hd =>
  have up:∀ (i:Nat) (x:List L),(xs ++ [])[i]? = some x → (xs ++ sp)[i]? = some x:=by
   intro i x hx
   rw [List.append_nil] at hx
   rw [List.getElem?_append_left (List.getElem?_eq_some_iff.1 hx).1]
   exact hx
  exact .lst sz xs [] A cap us (by simp;omega) hm (fun hp=>ha (by simp at hp;omega)) (fun i x hx=>hs i x (up i x hx)) (fun a hA i x j c hx hj=>hu a hA i x j c (up i x hx) hj) (fun i x j c hx hj=>hd i x j c (up i x hx) hj)
theorem leaf_out {E:Env} {w:World} {m:Nat} {ρ:List (Nat × Nat)} {dn:List Nat} {x y:L} {v:Value} (hto:leafTo m ρ dn x y) (h:LeafV E w x v):LeafV (E.out m ρ dn) w y v:=by
 have hrd:∀ b,E.rd b → (E.out m ρ dn).rd b:=fun b hb=>.inl hb
 have dat:datL x = true → (∀ t sz xs sp,x ≠ .lst t sz xs sp) → LeafV (E.out m ρ dn) w x v:=by
  intro hd hl
  cases x with
  | lst t sz xs sp=>exact absurd rfl (hl t sz xs sp)
  | undef=>cases hd
  | no=>cases hd
  | ptr _ _=>cases hd
  | tptr _ _ _=>cases hd
  | sl _ _ _ _ _=>cases hd
  | it _ _ _=>cases hd
  | fn f a b=>exact D.leaf (D.rd hrd (fn_D hd h))
  | ep _ _ _ _ _ _=>cases hd
  | _=>exact D.rd hrd h
 cases y with
 | undef=>trivial
 | lst t' sz' xs' sp' =>
  cases x with
  | lst t sz xs sp =>
   simp only [leafTo] at hto
   obtain ⟨rfl,hsz,hsp,ht⟩:=hto
   obtain ⟨A,cap,h1,h2⟩:=h
   refine ⟨A,cap,h1,?_⟩
   have toRo:D (E.out m ρ dn).rd w (.lst .ro sz xs sp) (.slice A xs.length cap) → D (E.out m ρ dn).rd w (.lst .ro sz' xs sp') (.slice A xs.length cap):=by
    intro q
    have q':D (E.out m ρ dn).rd w (.lst .ro sz xs sp') (.slice A xs.length cap):=by
     rcases hsp with rfl | rfl
     ·exact D_less q
     ·exact q
    rcases hsz with rfl | ⟨rfl,rfl,_⟩
    ·exact q'
    ·cases q' with
     | lst _ _ _ _ _ us hc hm ha hs hu hd=>exact D_nil _ _ _ _ _ hm
   cases t with
   | ro =>
    cases t' with
    | ro=>exact toRo (D.rd hrd h2)
    | _=>exact ht.elim
   | nl =>
    obtain ⟨rfl,rfl,rfl,rfl⟩:=h2
    have:sp' = []:=by rcases hsp with h | h<;>exact h
    subst this
    cases t' with
    | ro=>exact D_nil _ _ _ _ _ (by simp)
    | nl=>exact ⟨rfl,rfl,rfl,rfl⟩
    | own p e=>exact .inl ⟨rfl,rfl,rfl,rfl⟩
    | vw p=>exact ht.elim
   | own q e =>
    cases t' with
    | ro=>exact toRo (h2.toD hrd (fun p b hk hb=>.inr ⟨p,by simp [tagK] at hk;rw [← hk];exact ht,hb⟩))
    | nl=>exact ht.elim
    | vw p=>exact ht.elim
    | own p e' =>
     obtain ⟨rfl,hp⟩:=ht
     rcases h2 with ⟨rfl,rfl,rfl,rfl⟩ | ⟨g,cur,q1,q2,q3,q4,q5,q6,q7⟩
     ·have:sp' = []:=by rcases hsp with h | h<;>exact h
      subst this
      exact .inl ⟨rfl,rfl,rfl,rfl⟩
     ·rcases hsz with rfl | ⟨rfl,rfl,hno⟩
      ·refine .inr ⟨g,cur,q1,by simp [Env.out,hp,q2],q3,?_,q5,q6,?_⟩
       ·rcases hsp with rfl | rfl
        ·simp;omega
        ·exact q4
       ·intro i x hx
        have hx':(xs ++ sp)[i]? = some x:=by
         rcases hsp with rfl | rfl
         ·rw [List.append_nil] at hx
          rw [List.getElem?_append_left (List.getElem?_eq_some_iff.1 hx).1]
          exact hx
         ·exact hx
        obtain ⟨k1,k2⟩:=q7 i x hx'
        exact ⟨k1,fun j c hc=>by
         obtain ⟨u,hu,hd⟩:=k2 j c hc
         exact ⟨u,hu,hd.rd hrd⟩⟩
      ·cases hno
   | vw q =>
    cases t' with
    | ro=>exact toRo (h2.toD hrd (fun p b hk hb=>.inr ⟨p,by simp [tagK] at hk;rw [← hk];exact ht,hb⟩))
    | _=>exact ht.elim
  | _=>simp [leafTo] at hto
 | _ =>
  unfold leafTo at hto
  split at hto
  ·trivial
  ·rename_i e;cases e
  ·exact hto.elim
  ·rename_i e
   first
    |(cases e;done)
    |(cases e
      obtain ⟨rfl,rfl,hlt⟩:=hto
      obtain ⟨b,h1,h2⟩:=h
      exact ⟨b,by simp only [Env.out];rw [if_pos hlt];exact h1,h2⟩)
  ·rename_i e
   first
    |(cases e;done)
    |(cases e
      obtain ⟨rfl,rfl,rfl,hlt⟩:=hto
      obtain ⟨b,u,h1,h2,h3⟩:=h
      exact ⟨b,u,by simp only [Env.out];rw [if_pos hlt];exact h1,h2,h3⟩)
  ·obtain ⟨hd,rfl⟩:=hto
   exact dat hd (fun t sz xs sp e=>by cases e)
theorem leaves_out {E:Env} {w:World} {m:Nat} {ρ:List (Nat × Nat)} {dn:List Nat}:∀ {xs ys:List L} {vs:List Value},leavesTo m ρ dn xs ys → All2 (LeafV E w) xs vs → All2 (LeafV (E.out m ρ dn) w) ys vs
 | [],[],_,_,h=>by cases h;exact .nil
 | x :: xs,y :: ys,_,ht,h=>by
  cases h with
  | cons h1 h2=>exact .cons (leaf_out ht.1 h1) (leaves_out ht.2 h2)
 | [],_ :: _,_,ht,_=>ht.elim
 | _ :: _,[],_,ht,_=>ht.elim
theorem pv1_out {E:Env} {w:World} {m:Nat} {ρ:List (Nat × Nat)} {dn:List Nat} {x y:PV} {v:Value} (ht:pv1To m ρ dn x y) (h:V1 E w x v):V1 (E.out m ρ dn) w y v:=by
 cases x<;>cases y<;>simp only [pv1To] at ht
 ·exact leaf_out ht h
 ·obtain ⟨vs,h1,h2⟩:=h
  exact ⟨vs,h1,leaves_out ht h2⟩
theorem pv1s_out {E:Env} {w:World} {m:Nat} {ρ:List (Nat × Nat)} {dn:List Nat}:∀ {xs ys:List PV} {vs:List Value},pv1sTo m ρ dn xs ys → All2 (V1 E w) xs vs → All2 (V1 (E.out m ρ dn) w) ys vs
 | [],[],_,_,h=>by cases h;exact .nil
 | x :: xs,y :: ys,_,ht,h=>by
  cases h with
  | cons h1 h2=>exact .cons (pv1_out ht.1 h1) (pv1s_out ht.2 h2)
 | [],_ :: _,_,ht,_=>ht.elim
 | _ :: _,[],_,ht,_=>ht.elim
theorem pv_out {E:Env} {w:World} {m:Nat} {ρ:List (Nat × Nat)} {dn:List Nat} {x y:PV} {v:Value} (ht:pvTo m ρ dn x y) (h:V E w x v):V (E.out m ρ dn) w y v:=by
 cases x<;>cases y<;>simp only [pvTo,pv1To] at ht
 ·exact pv1_out (x:=.lf _) (y:=.lf _) ht h
 ·exact pv1_out (x:=.ag _) (y:=.ag _) ht h
 ·obtain ⟨vs,h1,h2⟩:=h
  exact ⟨vs,h1,pv1s_out ht h2⟩
theorem run_mapM_list {P:Program} {w:World} {α:Type} (g:α → Sem Value):∀ (l:List α) (vs:List Value),All2 (fun a v=>(g a).run P w = .ok v w) l vs → (l.mapM g).run P w = .ok vs w
 | _,_,.nil=>by simp
 | _,_,.cons h1 h2=>by simp [List.mapM_cons,h1,run_mapM_list g _ _ h2]
def readRes (tmps:Array Value):ResultVar → Sem Value
 | .tmp t=>pure (tmps.getD t undef)
 | .cell a t=>do loadVar t (← asAddr (tmps.getD a undef))
theorem results_eq (fn:Func) (tmps:Array Value):results fn tmps = (do
  let vs ← fn.results.mapM (readRes tmps)
  pure (if h:vs.size = 1 then vs[0] else .tuple vs)):=by
 unfold results
 congr 1
theorem res_sound {P:Program} {n:Nat} {E0 E:Env} {w0 w:World} {σ:St} {a:Act} (hr:RelE E0 w0 n E σ a w):∀ (l:List ResultVar) (rs:List RV) (K:List PV → Prop),cRes P l = some rs → resOf σ rs K →
  ∃ pvs vs,K pvs ∧ All2 (V E w) pvs vs ∧ All2 (fun r v=>(readRes a.tmps r).run P w = .ok v w) l vs
 | [],rs,K,hc,h=>by
  simp only [cRes,Option.some.injEq] at hc
  subst hc
  exact ⟨[],[],h,.nil,.nil⟩
 | .tmp t :: l,rs,K,hc,h=>by
  simp only [cRes] at hc
  obtain ⟨rs',h1,rfl⟩:=Option.map_eq_some_iff.1 hc
  obtain ⟨pvs,vs,k1,k2,k3⟩:=res_sound hr l rs' _ h1 h
  exact ⟨_,_,k1,.cons (hr.get t) k2,.cons (by simp [readRes]) k3⟩
 | .cell t ty :: l,rs,K,hc,h=>by
  simp only [cRes] at hc
  split at hc
  case h_2=>cases hc
  rename_i sz d rs' h1 h2 h3
  cases hc
  simp only [resOf] at h
  have hx:=hr.get t
  rw [show (get σ.tm t).getD (.lf .undef) = σ.ev (.t t) from rfl] at hx
  generalize σ.ev (.t t) = px at hx h
  split at h
  ·rename_i c off
   obtain ⟨cs,hcs,h⟩:=h
   obtain ⟨b,hb,ex⟩:=V_ptr hx
   obtain ⟨b',u,T,hb',hh,hall⟩:=hr.ce c cs hcs
   obtain rfl:b = b':=by rw [hb] at hb';exact Option.some.inj hb'
   obtain ⟨pv,v,hrun,hv,hK⟩:=load_sound (a:=⟨b,0,none⟩) (off:=off) h2 h1 (fun j c hj=>by
    obtain ⟨y,hy,hl⟩:=hall.get j c hj
    exact ⟨y,by rw [add_cell,cell_of_cells hh];simpa using hy,hl⟩) h
   replace hrun:=hrun w (Unch.refl _ _)
   rw [add_cell,Nat.zero_add] at hrun
   obtain ⟨pvs,vs,k1,k2,k3⟩:=res_sound hr l rs' _ h3 hK
   refine ⟨_,_,k1,.cons hv k2,.cons ?_ k3⟩
   simp only [readRes,ex]
   simpa [Instr.loadAt,Instr.sureAddr,asAddr] using hrun
  ·exact h.elim
theorem V_of_one {E:Env} {w:World} {pvs:List PV} {vs:List Value} (h:All2 (V E w) pvs vs) {r:PV} {m:Nat} {ρ:List (Nat × Nat)} {dn:List Nat} (hto:pvTo m ρ dn (oneOf pvs) r):V E w (oneOf pvs) (if h:vs.toArray.size = 1 then vs.toArray[0] else .tuple vs.toArray):=by
 cases h with
 | nil=>exact ⟨[],by simp,.nil⟩
 | cons h1 h2 =>
  cases h2 with
  | nil=>exact h1
  | cons h2 h3 =>
   rw [dif_neg (by simp)]
   refine ⟨_,rfl,?_⟩
   simp only [oneOf] at hto
   cases r with
   | lf _=>exact hto.elim
   | ag _=>exact hto.elim
   | tp ys =>
    have gen:∀ {xs ys:List PV} {vs:List Value},pv1sTo m ρ dn xs ys → All2 (V E w) xs vs → All2 (V1 E w) xs vs:=by
     intro xs
     induction xs with
     | nil=>intro ys vs _ h;cases h;exact .nil
     | cons x xs ih =>
      intro ys vs ht h
      cases ys with
      | nil=>exact ht.elim
      | cons y ys =>
       cases h with
       | cons g1 g2 =>
        refine .cons ?_ (ih ht.2 g2)
        cases x with
        | lf _=>exact g1
        | ag _=>exact g1
        | tp _=>exact ht.1.elim
    exact gen hto (.cons h1 (.cons h2 h3))
theorem cells_out {E:Env} {w:World} {m:Nat} {ρ:List (Nat × Nat)} {dn:List Nat} {σ:St} (h:CellsV E w (get σ.ce)):∀ (cs:List (List L)) (j0:Nat),cellsTo ρ dn m σ j0 cs → ∀ j c,cs[j]? = some c → ∃ b u T,(E.out m ρ dn).κ (j0 + j) = some b ∧ w.heap[b]? = some (.cells u T (0,0)) ∧ All2 (LeafV (E.out m ρ dn) w) c u.toList
 | [],_,_,j,c,hj=>by simp at hj
 | x :: xs,j0,ht,j,c,hj=>by
  obtain ⟨h1,⟨g,hg,h2⟩,h3⟩:=ht
  cases j with
  | zero =>
   simp only [List.getElem?_cons_zero,Option.some.injEq] at hj
   subst hj
   obtain ⟨b,u,T,k1,k2,k3⟩:=h j0 g hg
   exact ⟨b,u,T,by simp [Env.out,h1,k1],k2,leaves_out h2 k3⟩
  | succ j =>
   have:=cells_out h xs (j0 + 1) h3 j c (by simpa using hj)
   rwa [show j0 + 1 + j = j0 + (j + 1) by omega] at this
theorem R_intro {P:Program} {f nt:Nat} {ac:AC} {rs:List RV} (hc:compileFn P f = some (nt,ac.strip,rs)) {args:List PV} {cs:List (List L)} {r:PV} {cs':List (List L)} (hn:args.length ≤ nt)
  {Q:Out → St → Prop} (hQ:∀ o σ,Q o σ → retQ cs.length rs r cs' o σ) (h:awp X P ac Q (St.init args cs)):R X P f args cs r cs':=by
 intro E w vs hX hI hκ hargs hcs
 unfold compileFn at hc
 split at hc
 case h_2=>cases hc
 rename_i fn hf
 split at hc
 case h_2=>cases hc
 rename_i c hb
 split at hc
 case h_2=>cases hc
 rename_i ac' rs' h1 h2
 simp only [Option.some.injEq,Prod.mk.injEq] at hc
 obtain ⟨rfl,e2,e3⟩:=hc
 rw [e2] at h1
 rw [e3] at h2
 have hlen:=hargs.length
 have h0:RelE E w fn.ntmps E (St.init args cs) { tmps:=vs.toArray ++ Array.replicate (fn.ntmps - vs.toArray.size) undef,defers:=[] } w:=by
  refine ⟨by simp;omega,rfl,fun t pv ht=>?_,fun c x hx=>?_,?_⟩
  ·simp only [St.init,get_enum] at ht
   obtain ⟨_,ht⟩:=ht
   rw [Nat.sub_zero] at ht
   obtain ⟨v,hv,hV⟩:=hargs.get t pv ht
   have hlt:=(List.getElem?_eq_some_iff.1 ht).1
   refine ⟨by omega,?_⟩
   have:(vs.toArray ++ Array.replicate (fn.ntmps - vs.toArray.size) undef).getD t undef = v:=by
    rw [Array.getD_eq_getD_getElem?,Array.getElem?_append_left (by simp;omega)]
    simp [hv]
   rw [this]
   exact hV
  ·simp only [St.init,get_enum] at hx
   exact hcs c x (by simpa using hx.2)
  ·exact WStep.refl hI
 refine calls_of_wp hf hb (wp_mono (sound_code hX hI c ac _ _ _ _ h1 ⟨E,h0⟩ h) ?_)
 have fin:∀ (σ:St) (a:Act) (w':World),retQ cs.length rs r cs' .nrm σ → Rel E w fn.ntmps σ a w' →
   a.defers = [] ∧ ∃ v,(results fn a.tmps).run P w' = .ok v w' ∧ ∃ v' E',Ending.returned v = .returned v' ∧ WStep cs.length E w E' w' ∧ V E' w' r v' ∧ CellsV E' w' (fun j=>cs'[j]?):=by
  rintro σ a w' ⟨hm,hres⟩ ⟨E1,hr⟩
  obtain ⟨pvs,us,⟨ρ,dn,q1,q2,q3⟩,k2,k3⟩:=res_sound hr _ _ _ h2 hres
  refine ⟨hr.dfr,_,?_,_,E1.out cs.length ρ dn,rfl,?_,pv_out q2 (V_of_one k2 q2),?_⟩
  ·rw [results_eq]
   have:(fn.results.mapM (readRes a.tmps)).run P w' = .ok us.toArray w':=by
    rw [Array.mapM_eq_mapM_toList]
    simp [run_mapM_list _ _ _ k3]
   simp only [Sem.run_bind,this,Result.andThen_ok,Sem.run_pure]
  ·have:=hr.ws
   rw [hm] at this
   exact this.trans (out_ws hr.ws.inj q1)
  ·intro j c hj
   have:=cells_out hr.ce cs' 0 q3 j c hj
   simpa using this
 intro e a w' hq
 cases e with
 | normal=>obtain ⟨σ,q1,q2⟩:=hq;exact fin σ a w' (hQ _ _ q1) q2
 | ret=>obtain ⟨σ,q1,q2⟩:=hq;exact fin σ a w' (hQ .ret _ q1) q2
 | exit id=>obtain ⟨σ,q1,q2⟩:=hq;exact (hQ _ _ q1).elim
 | goto l=>exact hq.elim
 | panic ch=>exact hq.elim
 | outgrown=>exact hq.elim
end Go.Proofs.YthcpaohmajjopaaGreatDoor.AM
