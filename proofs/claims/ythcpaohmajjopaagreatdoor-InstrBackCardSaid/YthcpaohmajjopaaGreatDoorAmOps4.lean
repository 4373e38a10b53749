/- The abstract machine, part Ops4. -/
import Derived.Test.YthcpaohmajjopaaGreatDoorAmOps3
set_option linter.unusedVariables false
set_option linter.unusedSimpArgs false
namespace Go.Proofs.YthcpaohmajjopaaGreatDoor.AM
open Go
theorem RelE.world {E0 E E':Env} {w0 w w':World} {n:Nat} {σ:St} {a:Act} (h:RelE E0 w0 n E σ a w) (W:WStep σ.m E w E' w') (hf:∀ x v,LeafV E w x v → LeafV E' w' x v)
  (hc:∀ c b u T,E.κ c = some b → w.heap[b]? = some (.cells u T (0,0)) → (Go.Proofs.YthcpaohmajjopaaGreatDoor.AM.get σ.ce c).isSome = true → E'.κ c = some b ∧ w'.heap[b]? = some (.cells u T (0,0))):RelE E0 w0 n E' σ a w' where
 size:=h.size
 dfr:=h.dfr
 tm t pv ht:=by
  obtain ⟨h2,h3⟩:=h.tm t pv ht
  have idm:mapL (fun x=>x) pv = pv:=by
   cases pv with
   | lf x=>rfl
   | ag cs=>simp [mapL,mapL1]
   | tp vs =>
    simp only [mapL]
    congr 1
    have:mapL1 (fun x=>x) = fun v=>v:=by funext v;cases v<;>simp [mapL1]
    rw [this];simp
  exact ⟨h2,by have:=h3.map (f:=fun x=>x) hf;rwa [idm] at this⟩
 ce c cs hcs:=by
  obtain ⟨b,u,T,h2,h3,h4⟩:=h.ce c cs hcs
  obtain ⟨h5,h6⟩:=hc c b u T h2 h3 (by rw [hcs];rfl)
  exact ⟨b,u,T,h5,h6,h4.imp hf⟩
 ws:=h.ws.trans W
theorem V_cells {E:Env} {w:World} {pv:PV} {v:Value} (h:V E w pv v) (hc:pv.cells.all cellL = true) (hl:pv.cells.length ≠ 0 ∨ ∀ vs,pv ≠ .tp vs):All2 (LeafV E w) pv.cells v.cells.toList ∧ ∀ u ∈ v.cells.toList,u.oneCell' = true:=by
 have one:∀ {cs:List L} {vs:List Value},All2 (LeafV E w) cs vs → cs.all cellL = true → ∀ u ∈ vs,u.oneCell' = true:=by
  intro cs vs h
  induction h with
  | nil=>intro _ u hu;cases hu
  | cons h1 h2 ih =>
   intro hc u hu
   simp only [List.all_cons,Bool.and_eq_true] at hc
   cases hu with
   | head=>exact (leaf_one hc.1 h1).2
   | tail _ hu=>exact ih hc.2 u hu
 cases pv with
 | lf x =>
  have hx:cellL x = true:=by simpa [PV.cells] using hc
  have e:=leaf_one hx h
  rw [e.1]
  exact ⟨.cons h .nil,fun u hu=>by simp at hu;subst hu;exact e.2⟩
 | ag cs =>
  obtain ⟨vs,rfl,hall⟩:=V_ag h
  exact ⟨hall,one hall hc⟩
 | tp vs =>
  rcases hl with hl | hl
  ·exact absurd rfl hl
  ·exact absurd rfl (hl vs)
theorem setCells_heap (b:Nat) {T:TypeId}:∀ (vs:List Value) (o:Nat) (w:World) (cur:Array Value),w.heap[b]? = some (.cells cur T (0,0)) → o + vs.length ≤ cur.size →
  ∃ cur':Array Value,(w.setCells b o vs).heap[b]? = some (.cells cur' T (0,0)) ∧ cur'.toList = cur.toList.take o ++ vs ++ cur.toList.drop (o + vs.length) ∧ (w.setCells b o vs).os = w.os ∧ (w.setCells b o vs).tape = w.tape ∧ (w.setCells b o vs).output = w.output ∧ (w.setCells b o vs).heap.size = w.heap.size ∧ ∀ k,k ≠ b → (w.setCells b o vs).heap[k]? = w.heap[k]?
 | [],o,w,cur,h,hle=>⟨cur,h,by simp,rfl,rfl,rfl,rfl,fun _ _=>rfl⟩
 | v :: vs,o,w,cur,h,hle=>by
  simp only [List.length_cons] at hle
  obtain ⟨cur',h1,h2,h3,h4,h5,h6,h7⟩:=setCells_heap b vs (o + 1) (w.setCell ⟨b,o,none⟩ v) (cur.setIfInBounds o v) (heap_setCell_same w b o cur T v h) (by simp;omega)
  refine ⟨cur',h1,?_,h3.trans rfl,h4.trans rfl,h5.trans rfl,h6.trans (by simp [World.setCell]),fun k hk=>(h7 k hk).trans (heap_setCell_other w ⟨b,o,none⟩ k v hk)⟩
  rw [h2]
  simp only [Array.toList_setIfInBounds,List.length_cons]
  have hlt:o < cur.toList.length:=by simp;omega
  rw [List.take_set,List.drop_set]
  rw [if_pos (show o < o + 1 + vs.length by omega)]
  have e1:(List.take (o + 1) cur.toList).set o v = cur.toList.take o ++ [v]:=by
   rw [List.take_succ_eq_append_getElem hlt]
   rw [List.set_append_right _ _ (by simp;omega)]
   have hlt':o < cur.size:=by simpa using hlt
   simp [Nat.min_eq_left (Nat.le_of_lt hlt')]
  rw [e1]
  simp [Nat.add_assoc,Nat.add_comm 1]
theorem run_storeVar' {P:Program} {t:TypeId} {n:Nat} (hs:szOf P t = some n) {w:World} {b o:Nat} {T:TypeId} {cur:Array Value} (h:w.heap[b]? = some (.cells cur T (0,0))) {v:Value} (hn:v.cells.toList.length = n) (hle:o + n ≤ cur.size) (h1:∀ u ∈ v.cells.toList,u.oneCell' = true) :
  (Instr.storeAt t (.pointer (some ⟨b,o,none⟩)) v).run P w = .ok () (w.setCells b o v.cells.toList):=by
 have hcell:∀ j,j < v.cells.toList.length → (w.cell? ⟨b,o + j,none⟩).isSome = true:=fun j hj=>by
  rw [cell_of_cells h];rw [Array.getElem?_eq_getElem (by omega)];rfl
 have hfr:∀ j,j < v.cells.toList.length → w.frozen? ⟨b,o + j,none⟩ = false:=fun j _=>by simp [World.frozen?,h]
 have:=run_storeCells_cells (P:=P) b o v.cells.toList 0 w (fun j hj=>by simpa using hcell j hj) (fun j hj=>by simpa using hfr j hj) h1
 have hsz:v.cells.size = n:=by rw [← hn];simp
 unfold Instr.storeAt Instr.sureAddr storeVar
 simp only [Sem.run_bind,Sem.run_pure,Result.andThen_ok,run_sizeOf' hs]
 rw [if_neg (by rw [hsz];simp)]
 simpa using this
theorem fill_all2 {E:Env} {w:World} {cs xs:List L} {us vs:List Value} (h1:All2 (LeafV E w) cs us) (h2:All2 (LeafV E w) xs vs) (o:Nat):All2 (LeafV E w) (fillL cs o xs) (us.take o ++ vs ++ us.drop (o + vs.length)):=by
 unfold fillL
 rw [h2.length]
 exact ((h1.take o).append h2).append (h1.drop _)
theorem RelE.setCell' {E0 E:Env} {w0 w:World} {n:Nat} {σ:St} {a:Act} (hr:RelE E0 w0 n E σ a w) {c o:Nat} {cs xs:List L} (hc:Go.Proofs.YthcpaohmajjopaaGreatDoor.AM.get σ.ce c = some cs) {b:Nat} (hb:E.κ c = some b) {vs:List Value} (hv:All2 (LeafV E w) xs vs) (hle:o + xs.length ≤ cs.length) :
  RelE E0 w0 n E { σ with ce:=(c,fillL cs o xs) :: del σ.ce c } a (w.setCells b o vs):=by
 obtain ⟨b',u,T,hb',hh,hall⟩:=hr.ce c cs hc
 obtain rfl:b = b':=by rw [hb] at hb';exact Option.some.inj hb'
 have hul:u.size = cs.length:=by rw [hall.length];simp
 obtain ⟨cur',h1,h2,h3,h4,h5,h6,h7⟩:=setCells_heap b vs o w u hh (by rw [hul,← hv.length];exact hle)
 have W:=write_step (m:=σ.m) hr.ws.inj (b0:=b) (.inl ⟨c,hb⟩) h3 h4 h5 h6 h7 (fun _ u' T' _ hu'=>by rw [hh] at hu';cases hu';exact ⟨cur',h1⟩)
 have hfree:∀ p,¬ E.ω p = some b:=fun p hp=>hr.ws.inj.kw c p b hb hp
 have tf:∀ t:Tag,t.free (fun p=>E.ω p = some b):=fun t=>by cases t<;>simp [Tag.free,hfree]
 have hf:∀ x v,LeafV E w x v → LeafV E (w.setCells b o vs) x v:=fun x v hx=>hx.step W.2 (by cases x<;>first | exact tf _ | trivial | exact fun h=>h | exact hfree _ | exact fun _ _ _ _ h=>h)
 have h0:RelE E0 w0 n E { σ with ce:=del σ.ce c } a w:=hr.weak rfl (fun _ _ h=>h) (fun c' cs' h=>by
  by_cases e:c' = c
  ·subst e;rw [get_del_same] at h;cases h
  ·rwa [get_del_ne _ e] at h)
 have h8:=h0.world W.1 hf (fun c' b' u' T' k1 k2 k3=>by
  have hne:c' ≠ c:=by rintro rfl;rw [get_del_same] at k3;cases k3
  have hbne:b' ≠ b:=fun e=>hne (hr.ws.inj.kk c' c b (e ▸ k1) hb)
  exact ⟨k1,by rw [h7 b' hbne];exact k2⟩)
 refine ⟨h8.size,h8.dfr,h8.tm,fun c' cs' h=>?_,h8.ws⟩
 simp only [Go.Proofs.YthcpaohmajjopaaGreatDoor.AM.get] at h
 split at h
 ·rename_i e
  subst e
  obtain rfl:=Option.some.inj h
  exact ⟨b,cur',T,hb,h1,by rw [h2];exact fill_all2 (hall.imp hf) (hv.imp hf) o⟩
 ·exact h8.ce c' cs' h
theorem RelE.downs {E0:Env} {w0 w:World} {n:Nat} {a:Act}:∀ (xs:List L) {E:Env} {σ:St},RelE E0 w0 n E σ a w → ∃ E',RelE E0 w0 n E' (σ.down xs) a w ∧ E'.κ = E.κ ∧ (∀ b,E.rd b → E'.rd b) ∧
  (∀ x ∈ xs,∀ p b,placeOf x = some p → E.ω p = some b → E'.rd b) ∧ (∀ p b,E'.ω p = some b → E.ω p = some b) ∧ (∀ p,(∀ x ∈ xs,placeOf x ≠ some p) → E'.ω p = E.ω p) ∧ (σ.down xs).m = σ.m ∧ (∀ b,E'.rd b → E.rd b ∨ ∃ p,E.ω p = some b)
 | [],E,σ,h=>⟨E,h,rfl,fun _ h=>h,(by intro x hx;cases hx),fun _ _ h=>h,fun _ _=>rfl,rfl,fun _ h=>.inl h⟩
 | x :: xs,E,σ,h=>by
  unfold St.down
  cases hp:placeOf x with
  | none =>
   obtain ⟨E',h1,h2,h3,h4,h5,h6,h7,h8⟩:=RelE.downs xs h
   refine ⟨E',h1,h2,h3,fun y hy p b hq hb=>?_,h5,fun p hq=>h6 p (fun y hy=>hq y (List.mem_cons_of_mem _ hy)),h7,h8⟩
   cases hy with
   | head=>rw [hp] at hq;cases hq
   | tail _ hy=>exact h4 y hy p b hq hb
  | some q =>
   have h0:=h.step (E':=E.down q) (w':=w) (f:=roP q) (down_ws h.ws.inj q).1 (roP_leaf h.ws.inj q) (fun _ _ _ _ h1 h2 _=>⟨h1,h2⟩)
   obtain ⟨E',h1,h2,h3,h4,h5,h6,h7,h8⟩:=RelE.downs xs h0
   have hω:∀ p b,(E.down q).ω p = some b → E.ω p = some b:=fun p b hb=>by
    simp only [Env.down,upd] at hb
    split at hb
    ·cases hb
    ·exact hb
   refine ⟨E',h1,h2,fun b hb=>h3 b (.inl hb),fun y hy p b hq hb=>?_,fun p b hb=>hω p b (h5 p b hb),fun p hq=>?_,h7,fun b hb=>?_⟩
   ·by_cases e:p = q
    ·subst e;exact h3 b (.inr hb)
    ·have hb':(E.down q).ω p = some b:=by simp only [Env.down];rw [upd_ne _ _ e];exact hb
     cases hy with
     | head=>rw [hp] at hq;exact absurd (Option.some.inj hq).symm e
     | tail _ hy=>exact h4 y hy p b hq hb'
   ·rw [h6 p (fun y hy=>hq y (List.mem_cons_of_mem _ hy))]
    have hne:p ≠ q:=by
     rintro rfl
     exact hq x (List.mem_cons_self ..) hp
    simp only [Env.down]
    exact upd_ne _ _ hne
   ·rcases h8 b hb with h9 | ⟨p,hp'⟩
    ·rcases h9 with h9 | h9
     ·exact .inl h9
     ·exact .inr ⟨q,h9⟩
    ·exact .inr ⟨p,hω p b hp'⟩
theorem modify_append_left {α:Type} (f:α → α) (xs sp:List α) (i:Nat):(xs ++ sp).modify i f = xs.modify i f ++ (if i < xs.length then sp else sp.modify (i - xs.length) f):=by
 apply List.ext_getElem?
 intro k
 by_cases hk:k < xs.length
 ·rw [List.getElem?_append_left (by simpa using hk)]
  simp only [List.getElem?_modify,List.getElem?_append_left hk]
 ·rw [List.getElem?_append_right (by simpa using hk)]
  simp only [List.getElem?_modify,List.getElem?_append_right (Nat.le_of_not_lt hk),List.length_modify]
  by_cases hi:i < xs.length
  ·rw [if_pos hi]
   cases sp[k - xs.length]?<;>simp [show ¬ i = k by omega]
  ·rw [if_neg hi,List.getElem?_modify]
   by_cases e:i = k
   ·cases sp[k - xs.length]?<;>simp [e]
   ·cases sp[k - xs.length]?<;>simp [e,show ¬ i - xs.length = k - xs.length by omega]
theorem fillL_length {cs vs:List L} {o:Nat} (h:o + vs.length ≤ cs.length):(fillL cs o vs).length = cs.length:=by
 simp [fillL];omega
theorem Row.write {Rb Rb':Nat → Prop} {w w':World} {sz i o:Nat} {xs:List (List L)} {vals vs vals':List Value} {cs:List L} (h:Row Rb w sz xs vals) (hm:∀ c u,D Rb w c u → D Rb' w' c u)
  (hv:All2 (fun c u=>D Rb' w' c u) cs vs) (hle:o + cs.length ≤ sz) (hbig:i * sz + o + cs.length ≤ vals.length) (he:vals' = vals.take (i * sz + o) ++ vs ++ vals.drop (i * sz + o + vs.length)):Row Rb' w' sz (wrX i o cs xs) vals':=by
 have hl:=hv.length
 have out:∀ k,(k < i * sz + o ∨ i * sz + o + vs.length ≤ k) → vals'[k]? = vals[k]?:=by
  intro k hk
  subst he
  rcases hk with hk | hk
  ·rw [List.append_assoc,List.getElem?_append_left (by simp;omega),List.getElem?_take_of_lt hk]
  ·rw [List.getElem?_append_right (by simp;omega),List.getElem?_drop]
   congr 1
   simp
   omega
 have ins:∀ j,j < vs.length → vals'[i * sz + o + j]? = vs[j]?:=by
  intro j hj
  subst he
  rw [List.append_assoc,List.getElem?_append_right (by simp;omega),List.getElem?_append_left (by simp;omega)]
  congr 1
  simp
  omega
 intro k x hx
 simp only [wrX,List.getElem?_modify] at hx
 by_cases hk:i = k
 ·subst hk
  simp only [if_true] at hx
  obtain ⟨x0,hx0,rfl⟩:=Option.map_eq_some_iff.1 hx
  obtain ⟨h1,h2⟩:=h i x0 hx0
  refine ⟨by rw [fillL_length (by omega)];exact h1,fun j c hc=>?_⟩
  by_cases ho:j < o
  ·have:x0[j]? = some c:=by
    simp only [fillL,List.append_assoc] at hc
    rwa [List.getElem?_append_left (by simp;omega),List.getElem?_take_of_lt ho] at hc
   obtain ⟨u,hu,hd⟩:=h2 j c this
   exact ⟨u,by rw [out _ (.inl (by omega))];exact hu,hm _ _ hd⟩
  ·by_cases ho2:j < o + cs.length
   ·have:cs[j - o]? = some c:=by
     simp only [fillL,List.append_assoc] at hc
     rw [List.getElem?_append_right (by simp;omega),List.getElem?_append_left (by simp;omega)] at hc
     simpa [Nat.min_eq_left (show o ≤ x0.length by omega)] using hc
    obtain ⟨u,hu,hd⟩:=hv.get _ c this
    refine ⟨u,?_,hd⟩
    have:=ins (j - o) (by omega)
    rw [show i * sz + j = i * sz + o + (j - o) by omega,this]
    exact hu
   ·have:x0[j]? = some c:=by
     simp only [fillL] at hc
     rw [List.getElem?_append_right (by simp;omega),List.getElem?_drop] at hc
     rw [← hc];congr 1;simp;omega
    obtain ⟨u,hu,hd⟩:=h2 j c this
    exact ⟨u,by rw [out _ (.inr (by omega))];exact hu,hm _ _ hd⟩
 ·simp only [if_neg hk] at hx
  have hx':xs[k]? = some x:=by simpa using hx
  obtain ⟨h1,h2⟩:=h k x hx'
  refine ⟨h1,fun j c hc=>?_⟩
  obtain ⟨u,hu,hd⟩:=h2 j c hc
  refine ⟨u,?_,hm _ _ hd⟩
  have hj:j < sz:=by have:=(List.getElem?_eq_some_iff.1 hc).1;omega
  rw [out _ ?_]
  ·exact hu
  ·rcases Nat.lt_or_gt_of_ne hk with hlt | hgt
   ·right
    have:(i + 1) * sz ≤ k * sz:=Nat.mul_le_mul_right _ hlt
    rw [Nat.add_mul] at this
    omega
   ·left
    have:(k + 1) * sz ≤ i * sz:=Nat.mul_le_mul_right _ hgt
    rw [Nat.add_mul] at this
    omega
end Go.Proofs.YthcpaohmajjopaaGreatDoor.AM
