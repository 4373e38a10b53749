/- The abstract machine, part Rel. -/
import Derived.Test.YthcpaohmajjopaaGreatDoorAmMach
set_option linter.unusedVariables false
set_option linter.unusedSimpArgs false
namespace Go.Proofs.YthcpaohmajjopaaGreatDoor.AM
open Go
theorem Unch.refl (N:Nat → Prop) (w:World):Unch N w w:=⟨rfl,rfl,rfl,Nat.le_refl _,fun _ _ _=>rfl⟩
theorem WStep.refl {m:Nat} {E:Env} {w:World} (h:Inj E w):WStep m E w E w :=
 ⟨Unch.refl _ _,h,fun _ h=>.inl h,fun _ h _=>h,fun p _ h=>.inr ⟨p,h⟩,fun c _ h=>.inr ⟨c,h⟩,fun _ _=>rfl,fun c b u T _ _ h=>⟨u,h⟩⟩
theorem WStep.trans {m:Nat} {E0 E E':Env} {w0 w w':World} (h:WStep m E0 w0 E w) (k:WStep m E w E' w'):WStep m E0 w0 E' w' where
 un:=⟨k.un.os.trans h.un.os,k.un.tape.trans h.un.tape,k.un.output.trans h.un.output,Nat.le_trans h.un.size k.un.size,fun b hb hN=>by
  have hsz:=h.un.size
  rw [k.un.block b (by omega) ?_,h.un.block b hb hN]
  rintro (⟨c,hc⟩ | ⟨p,hp⟩)
  ·rcases h.ka c b hc with h1 | h1
   ·omega
   ·exact hN (.inl h1)
  ·rcases h.om p b hp with h1 | h1
   ·omega
   ·exact hN (.inr h1)⟩
 inj:=k.inj
 rd b hb:=by
  have hsz:=h.un.size
  rcases k.rd b hb with h1 | h1 | ⟨p,hp⟩ | ⟨c,hc,hk⟩
  ·exact h.rd b h1
  ·exact .inr (.inl (by omega))
  rotate_left
  ·rcases h.ka c b hk with h2 | ⟨q,hq⟩
   ·exact .inr (.inl h2)
   ·refine .inr (.inr (.inr ⟨q,?_,hq⟩))
    rcases Nat.lt_or_ge q m with h3 | h3
    ·have:=h.inj.kk q c b ((h.k0 q h3).trans hq) hk
     omega
    ·exact h3
  ·rcases h.om p b hp with h2 | h2
   ·exact .inr (.inl h2)
   ·exact .inr (.inr (.inl h2))
 rd0 b hb hlt:=k.rd0 b (h.rd0 b hb hlt) (by have:=h.un.size;omega)
 om p b hb:=by
  have hsz:=h.un.size
  rcases k.om p b hb with h1 | ⟨q,hq⟩
  ·exact .inl (by omega)
  ·exact h.om q b hq
 ka c b hb:=by
  have hsz:=h.un.size
  rcases k.ka c b hb with h1 | ⟨q,hq⟩
  ·exact .inl (by omega)
  ·exact h.ka q b hq
 k0 c hc:=(k.k0 c hc).trans (h.k0 c hc)
 ty c b u T hc hb hu:=by
  obtain ⟨u',h1⟩:=h.ty c b u T hc hb hu
  exact k.ty c b u' T hc ((h.k0 c hc).trans hb) h1
theorem WStep.old {m:Nat} {E E':Env} {w w':World} (h:WStep m E w E' w') (hI:Inj E w) {b:Nat} (hb:E.rd b) (hlt:b < w.heap.size):E'.rd b ∧ w'.heap[b]? = w.heap[b]?:=by
 refine ⟨h.rd0 b hb hlt,h.un.block b hlt ?_⟩
 rintro (⟨c,hc⟩ | ⟨p,hp⟩)
 ·exact (hI.kr c b hc).1 hb
 ·exact (hI.wr p b hp).1 hb
theorem CxOK.step {X:Cx} {m:Nat} {E E':Env} {w w':World} (hx:CxOK X E w) (hI:Inj E w) (h:WStep m E w E' w'):CxOK X E' w':=by
 intro g cs hg
 obtain ⟨h1,h2,h0,h3⟩:=hx g cs hg
 refine ⟨(h.old hI h1 h2).1,by have:=h.un.size;omega,(World.cell?_of_block (by exact (h.old hI h1 h2).2)).trans h0,fun j c hc=>?_⟩
 obtain ⟨u,h4,h5⟩:=h3 j c hc
 exact ⟨u,(World.cell?_of_block (by exact (h.old hI h1 h2).2)).trans h4,h5.mono (fun b hb hlt=>h.old hI hb hlt) h.un.size⟩
structure RelE (E0:Env) (w0:World) (n:Nat) (E:Env) (σ:St) (a:Act) (w:World):Prop where
 size:a.tmps.size = n
 dfr:a.defers = []
 tm:∀ t pv,get σ.tm t = some pv → t < n ∧ V E w pv (a.tmps.getD t undef)
 ce:CellsV E w (get σ.ce)
 ws:WStep σ.m E0 w0 E w
def Rel (E0:Env) (w0:World) (n:Nat) (σ:St) (a:Act) (w:World):Prop:=∃ E,RelE E0 w0 n E σ a w
theorem get_del_same {α:Type}:∀ (l:List (Nat × α)) (k:Nat),get (del l k) k = none
 | [],_=>rfl
 |(a,v) :: r,k=>by
  unfold del
  split
  ·exact get_del_same r k
  ·rename_i h;simp only [get,if_neg h];exact get_del_same r k
theorem get_del_ne {α:Type}:∀ (l:List (Nat × α)) {k j:Nat},j ≠ k → get (del l k) j = get l j
 | [],_,_,_=>rfl
 |(a,v) :: r,k,j,h=>by
  unfold del
  split
  ·rename_i e
   rw [get_del_ne r h]
   simp only [get]
   rw [if_neg (by omega)]
  ·simp only [get]
   split
   ·rfl
   ·exact get_del_ne r h
theorem get_mapSnd {α β:Type} (f:α → β):∀ (l:List (Nat × α)) (k:Nat),get (mapSnd f l) k = (get l k).map f
 | [],_=>rfl
 |(a,v) :: r,k=>by
  simp only [mapSnd,get]
  split
  ·rfl
  ·exact get_mapSnd f r k
theorem get_restrict {α:Type} (l:List (Nat × α)):∀ (keep:List Nat) (k:Nat) (v:α),get (keep.filterMap fun t=>(get l t).map fun v=>(t,v)) k = some v → get l k = some v
 | [],_,_,h=>by simp [get] at h
 | t :: ts,k,v,h=>by
  simp only [List.filterMap_cons] at h
  cases hg:get l t with
  | none=>rw [hg] at h;exact get_restrict l ts k v h
  | some u =>
   rw [hg] at h
   simp only [Option.map_some,get] at h
   split at h
   ·rename_i e;subst e;rw [hg];exact h
   ·exact get_restrict l ts k v h
theorem getD_set_same (xs:Array Value) (d:Nat) (v z:Value) (h:d < xs.size):(xs.setIfInBounds d v).getD d z = v:=by
 simp [Array.getD,h]
theorem getD_set_ne (xs:Array Value) (d t:Nat) (v z:Value) (h:d ≠ t):(xs.setIfInBounds d v).getD t z = xs.getD t z:=by
 simp only [Array.getD_eq_getD_getElem?,Array.getElem?_setIfInBounds_ne h]
theorem RelE.put {E0 E:Env} {w0 w:World} {n:Nat} {σ:St} {a:Act} {d:Option Nat} {pv:PV} {v:Value} (h:RelE E0 w0 n E σ a w) (hd:∀ t,d = some t → t < n) (hv:V E w pv v):RelE E0 w0 n E (σ.put d pv) (a.put d v) w:=by
 cases d with
 | none=>exact h
 | some d =>
  refine ⟨by simpa [Act.put] using h.size,h.dfr,fun t pv' ht=>?_,h.ce,h.ws⟩
  simp only [St.put,get] at ht
  split at ht
  ·rename_i e
   subst e
   obtain rfl:=Option.some.inj ht
   exact ⟨hd _ rfl,by simp only [Act.put];rw [getD_set_same _ _ _ _ (by rw [h.size];exact hd _ rfl)];exact hv⟩
  ·rename_i e
   obtain ⟨h1,h2⟩:=h.tm t pv' ht
   exact ⟨h1,by simp only [Act.put];rw [getD_set_ne _ _ _ _ _ e];exact h2⟩
theorem V.no_ (E:Env) (w:World):V E w (.lf .no) Go.undef:=rfl
theorem RelE.get {E0 E:Env} {w0 w:World} {n:Nat} {σ:St} {a:Act} (h:RelE E0 w0 n E σ a w) (t:Nat):V E w ((get σ.tm t).getD (.lf .undef)) (a.tmps.getD t undef):=by
 cases hg:Go.Proofs.YthcpaohmajjopaaGreatDoor.AM.get σ.tm t with
 | none=>exact trivial
 | some pv=>exact (h.tm t pv hg).2
theorem RelE.step {E0 E E':Env} {w0 w w':World} {n:Nat} {σ:St} {a:Act} (h:RelE E0 w0 n E σ a w) (W:WStep σ.m E w E' w') {f:L → L} (hf:∀ x v,LeafV E w x v → LeafV E' w' (f x) v)
  (hc:∀ c b u T,E.κ c = some b → w.heap[b]? = some (.cells u T (0,0)) → (Go.Proofs.YthcpaohmajjopaaGreatDoor.AM.get σ.ce c).isSome = true → E'.κ c = some b ∧ w'.heap[b]? = some (.cells u T (0,0))):RelE E0 w0 n E' (σ.mapAll f) a w' where
 size:=h.size
 dfr:=h.dfr
 tm t pv ht:=by
  simp only [St.mapAll,get_mapSnd] at ht
  obtain ⟨pv',h1,rfl⟩:=Option.map_eq_some_iff.1 ht
  obtain ⟨h2,h3⟩:=h.tm t pv' h1
  exact ⟨h2,h3.map hf⟩
 ce c cs hcs:=by
  simp only [St.mapAll,get_mapSnd] at hcs
  obtain ⟨cs',h1,rfl⟩:=Option.map_eq_some_iff.1 hcs
  obtain ⟨b,u,T,h2,h3,h4⟩:=h.ce c cs' h1
  obtain ⟨h5,h6⟩:=hc c b u T h2 h3 (by rw [h1];rfl)
  exact ⟨b,u,T,h5,h6,h4.map_left f hf⟩
 ws:=h.ws.trans W
theorem RelE.weak {E0 E:Env} {w0 w:World} {n:Nat} {σ σ':St} {a:Act} (h:RelE E0 w0 n E σ a w) (hm:σ'.m = σ.m) (ht:∀ t pv,Go.Proofs.YthcpaohmajjopaaGreatDoor.AM.get σ'.tm t = some pv → Go.Proofs.YthcpaohmajjopaaGreatDoor.AM.get σ.tm t = some pv) (hc:∀ c cs,Go.Proofs.YthcpaohmajjopaaGreatDoor.AM.get σ'.ce c = some cs → Go.Proofs.YthcpaohmajjopaaGreatDoor.AM.get σ.ce c = some cs):RelE E0 w0 n E σ' a w :=
 ⟨h.size,h.dfr,fun t pv q=>h.tm t pv (ht t pv q),fun c cs q=>h.ce c cs (hc c cs q),hm ▸ h.ws⟩
theorem RelE.restrict {E0 E:Env} {w0 w:World} {n:Nat} {σ:St} {a:Act} (h:RelE E0 w0 n E σ a w) (keep:List Nat):RelE E0 w0 n E (σ.restrict keep) a w :=
 h.weak rfl (fun t pv q=>get_restrict _ keep t pv q) (fun _ _ q=>q)
theorem RelE.head {E0 E:Env} {w0 w:World} {n:Nat} {σ:St} {a:Act} (h:RelE E0 w0 n E σ a w) (keep:List Nat):RelE E0 w0 n E (σ.head keep) a w :=
 h.weak rfl (fun t pv q=>get_restrict _ keep t pv q) (fun c cs q=>get_restrict _ _ c cs q)
theorem killP_leaf {E:Env} {w:World} (p:Nat) (x:L) (v:Value) (h:LeafV E w x v):LeafV E w (killP p x) v:=by
 cases x<;>try exact h
 case lst t sz xs sp =>
  simp only [killP];split
  ·trivial
  ·exact h
 case ep t sz xs sp i o =>
  simp only [killP];split
  ·trivial
  ·exact h
 case it q s i =>
  simp only [killP];split
  ·trivial
  ·exact h
theorem RelE.same {E0 E:Env} {w0 w:World} {n:Nat} {σ:St} {a:Act} (h:RelE E0 w0 n E σ a w) {f:L → L} (hf:∀ x v,LeafV E w x v → LeafV E w (f x) v):RelE E0 w0 n E (σ.mapAll f) a w :=
 h.step (WStep.refl h.ws.inj) hf (fun _ _ _ _ h1 h2 _=>⟨h1,h2⟩)
end Go.Proofs.YthcpaohmajjopaaGreatDoor.AM
