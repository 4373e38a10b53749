/- The abstract machine, part Ops5. -/
import Derived.Test.YthcpaohmajjopaaGreatDoorAmOps4
set_option linter.unusedVariables false
set_option linter.unusedSimpArgs false
namespace Go.Proofs.YthcpaohmajjopaaGreatDoor.AM
open Go
variable {X:Cx}
theorem wrX_length (i o:Nat) (vs:List L) (xs:List (List L)):(wrX i o vs xs).length = xs.length:=by simp [wrX]
theorem wrS_length (i o:Nat) (vs:List L) (n:Nat) (sp:List (List L)):(wrS i o vs n sp).length = sp.length:=by unfold wrS;split<;>simp
theorem wrX_append (i o:Nat) (vs:List L) (xs sp:List (List L)):wrX i o vs xs ++ wrS i o vs xs.length sp = wrX i o vs (xs ++ sp):=by
 unfold wrX wrS
 rw [modify_append_left]
theorem wr_own {E:Env} {w w':World} {p e sz i o cap:Nat} {xs sp:List (List L)} {A:Option Addr} {cs:List L} {vs:List Value} {g:Nat} {cur cur':Array Value} {T:TypeId} (hp:E.ω p = some g) (hg:w.heap[g]? = some (.cells cur T (0,0))) (hg':w'.heap[g]? = some (.cells cur' T (0,0)))
  (hc:cur'.toList = cur.toList.take (i * sz + o) ++ vs ++ cur.toList.drop (i * sz + o + vs.length)) (hle:o + cs.length ≤ sz) (hbig:i * sz + o + cs.length ≤ cur.size) (hm:∀ c u,D E.rd w c u → D E.rd w' c u) (hv:All2 (fun c u=>D E.rd w' c u) cs vs)
  (h:OwnV E w p e sz xs sp A cap):OwnV E w' p e sz (wrX i o cs xs) (wrS i o cs xs.length sp) A cap:=by
 rcases h with ⟨h1,h2,rfl,rfl⟩ | ⟨g1,cur1,h1,h2,h3,h4,h5,h6,h7⟩
 ·exact .inl ⟨h1,h2,by simp [wrX],by simp [wrS]⟩
 ·obtain rfl:g1 = g:=by rw [hp] at h2;exact (Option.some.inj h2).symm
  rw [hg] at h3
  simp only [Option.some.injEq,Obj.cells.injEq] at h3
  obtain ⟨rfl,rfl,_⟩:=h3
  refine .inr ⟨g1,cur',h1,hp,hg',by rw [wrX_length,wrS_length];exact h4,h5,?_,?_⟩
  ·have:cur'.toList.length = cur.toList.length:=by rw [hc];simp;have:=hv.length;omega
   simpa [h6] using this
  ·rw [wrX_append]
   exact h7.write hm hv hle (by simpa using hbig) hc
theorem sound_st {P:Program} {o:Oper} {t:TypeId} {x y:Operand} {ax ay:AO} {n0:Nat} (ho:o.op = .store t x y) (h1:cOpd P 0 x = some ax) (h2:cOpd P t y = some ay) (hn:szOf P t = some n0) (hn0:n0 ≠ 0) (hdn:o.dst = none):Sound X P o (.st ax ay n0):=by
 intro E0 E w0 w n σ a K Q hx hr hd hw
 have hx:=cOpd_ev h1 hr
 have hy:=cOpd_ev h2 hr
 simp only [wop] at hw
 generalize σ.ev ax = px at hx hw
 generalize σ.ev ay = py at hy hw
 obtain ⟨hlen,hcell,hw⟩:=hw
 obtain ⟨hall,hone⟩:=V_cells hy hcell (.inl (by omega))
 have hvl:=hall.length
 have hput:∀ a:Act,a.put o.dst undef = a:=fun a=>by rw [hdn];rfl
 split at hw
 ·rename_i c off
  obtain ⟨cs,hc,hle,hK⟩:=hw
  obtain ⟨b,hb,ex⟩:=V_ptr hx
  obtain ⟨b',u,T,hb',hh,hcs⟩:=hr.ce c cs hc
  obtain rfl:b = b':=by rw [hb] at hb';exact Option.some.inj hb'
  have hul:u.size = cs.length:=by rw [hcs.length];simp
  have run:(execOp a.eval o).run P w = .ok .skip (w.setCells b off (a.eval y).cells.toList):=by
   simp only [execOp,ho,ex,Sem.run_bind]
   rw [run_storeVar' (v:=a.eval y) (o:=off) hn hh (by omega) (by omega) hone]
   rfl
  have h3:=hr.setCell' (o:=off) hc hb hall (by omega)
  refine wp_skip_ run ⟨_,hK,?_⟩
  rw [hput]
  unfold St.stC
  split
  ·rename_i q e sz xs sp
   split
   ·exact ⟨E,h3⟩
   ·rename_i hq
    have hqp:q ≠ plC c off:=by simpa using hq
    exact ⟨_,h3.step (E':=E.ren q (plC c off)) (w':=w.setCells b off (a.eval y).cells.toList) (ren_ws h3.ws.inj) (fun y v hy=>ren_leaf hqp _ _ (noP_killP _ y) (killP_leaf (E:=E) _ y v hy)) (fun _ _ _ _ h1 h2 _=>⟨h1,h2⟩)⟩
  ·exact ⟨E,h3⟩
 ·rename_i c off T0
  obtain ⟨cs,hc,hle,hK⟩:=hw
  obtain ⟨b,u0,hb,ex,_⟩:=V_tptr hx
  obtain ⟨b',u,T,hb',hh,hcs⟩:=hr.ce c cs hc
  obtain rfl:b = b':=by rw [hb] at hb';exact Option.some.inj hb'
  have hul:u.size = cs.length:=by rw [hcs.length];simp
  have run:(execOp a.eval o).run P w = .ok .skip (w.setCells b off (a.eval y).cells.toList):=by
   simp only [execOp,ho,ex,Sem.run_bind]
   rw [run_storeVar' (v:=a.eval y) (o:=off) hn hh (by omega) (by omega) hone]
   rfl
  have h3:=hr.setCell' (o:=off) hc hb hall (by omega)
  refine wp_skip_ run ⟨_,hK,?_⟩
  rw [hput]
  unfold St.stC
  split
  ·rename_i q e sz xs sp
   split
   ·exact ⟨E,h3⟩
   ·rename_i hq
    have hqp:q ≠ plC c off:=by simpa using hq
    exact ⟨_,h3.step (E':=E.ren q (plC c off)) (w':=w.setCells b off (a.eval y).cells.toList) (ren_ws h3.ws.inj) (fun y v hy=>ren_leaf hqp _ _ (noP_killP _ y) (killP_leaf (E:=E) _ y v hy)) (fun _ _ _ _ h1 h2 _=>⟨h1,h2⟩)⟩
  ·exact ⟨E,h3⟩
 ·rename_i p e sz xs sp i off
  obtain ⟨hle,hdat,hnp,hK⟩:=hw
  obtain ⟨ad,cap,hh,hi,ex⟩:=V_ep hx
  rcases hh with ⟨hA,_⟩ | ⟨g,cur,hA,hg,hheap,hcap,hmax,hsz,hrow⟩
  ·cases hA
  ·obtain rfl:=Option.some.inj hA
   obtain ⟨E1,hr1,hκ,hrd,hplaces,hω,hω2,hm,_⟩:=RelE.downs py.cells hr
   have hg1:E1.ω p = some g:=by rw [hω2 p hnp];exact hg
   have hbig:i * sz + off + py.cells.length ≤ cur.size:=by
    have:(i + 1) * sz ≤ cap * sz:=Nat.mul_le_mul_right _ (by omega)
    rw [Nat.add_mul] at this
    omega
   have hbig':i * sz + off + n0 ≤ cur.size:=by omega
   have run:(execOp a.eval o).run P w = .ok .skip (w.setCells g (i * sz + off) (a.eval y).cells.toList):=by
    simp only [execOp,ho,ex,Sem.run_bind,add_cell,Nat.zero_add]
    rw [run_storeVar' (v:=a.eval y) hn hheap (by omega) hbig' hone]
    rfl
   obtain ⟨cur',k1,k2,k3,k4,k5,k6,k7⟩:=setCells_heap g (a.eval y).cells.toList (i * sz + off) w cur hheap (by omega)
   have W:=write_step (m:=(σ.down py.cells).m) hr1.ws.inj (b0:=g) (.inr ⟨p,hg1⟩) k3 k4 k5 k6 k7 (fun c u T hc _=>absurd hg1 (hr1.ws.inj.kw c p g hc))
   have hD:∀ c u,D E1.rd w c u → D E1.rd (w.setCells g (i * sz + off) (a.eval y).cells.toList) c u:=fun c u h=>h.mono (fun b hb hlt=>⟨hb,(W.2.ro b hlt hb).2⟩) W.2.size
   have hvD:All2 (fun c u=>D E1.rd (w.setCells g (i * sz + off) (a.eval y).cells.toList) c u) (py.cells.map roL) (a.eval y).cells.toList:=by
    have gen:∀ {cs:List L} {us:List Value},All2 (LeafV E w) cs us → (∀ c ∈ cs,c ∈ py.cells) → cs.all datL = true → All2 (fun c u=>D E1.rd (w.setCells g (i * sz + off) (a.eval y).cells.toList) c u) (cs.map roL) us:=by
     intro cs us h
     induction h with
     | nil=>intro _ _;exact .nil
     | cons h1 h2 ih =>
      intro hmem hall
      simp only [List.all_cons,Bool.and_eq_true] at hall
      refine .cons (hD _ _ (roL_D hrd (fun p b hp hb=>hplaces _ (hmem _ (List.mem_cons_self ..)) p b hp hb) hall.1 h1)) (ih (fun c hc=>hmem c (List.mem_cons_of_mem _ hc)) hall.2)
    exact gen hall (fun c h=>h) hdat
   have hf:∀ x v,LeafV E1 w x v → LeafV E1 (w.setCells g (i * sz + off) (a.eval y).cells.toList) (wrP p sz i off (py.cells.map roL) x) v:=by
    intro x v hl
    have gen:∀ z:L,leafFree (fun q=>E1.ω q = some g) (fun _=>False) z → LeafV E1 w z v → LeafV E1 (w.setCells g (i * sz + off) (a.eval y).cells.toList) z v:=fun z hf hz=>hz.step W.2 hf
    have inj:∀ q,q ≠ p → ¬ E1.ω q = some g:=fun q hq hh=>hq (hr1.ws.inj.ww _ _ _ hh hg1)
    have hle':off + (py.cells.map roL).length ≤ sz:=by simp;omega
    have hbig'':i * sz + off + (py.cells.map roL).length ≤ cur.size:=by simp;omega
    cases x with
    | lst t z xs1 sp1 =>
     cases t with
     | own q e1 =>
      simp only [wrP]
      split
      ·rename_i hq
       obtain rfl:q = p:=by simpa using hq
       split
       ·rename_i hz
        obtain rfl:z = sz:=by simpa using hz
        obtain ⟨A,cap1,hv1,hO⟩:=hl
        exact ⟨A,cap1,by rw [wrX_length];exact hv1,wr_own hg1 hheap k1 k2 hle' hbig'' hD hvD hO⟩
       ·trivial
      ·rename_i hq
       exact gen _ (inj q (by simpa using hq)) hl
     | vw q =>
      simp only [wrP]
      split
      ·trivial
      ·rename_i hq
       exact gen _ (inj q (by simpa using hq)) hl
     | ro=>exact gen _ trivial hl
     | nl=>exact gen _ trivial hl
    | ep t z xs1 sp1 j o1 =>
     cases t with
     | own q e1 =>
      simp only [wrP]
      split
      ·rename_i hq
       obtain rfl:q = p:=by simpa using hq
       split
       ·rename_i hz
        obtain rfl:z = sz:=by simpa using hz
        obtain ⟨ad1,cap1,hO,hj,hv1⟩:=hl
        exact ⟨ad1,cap1,wr_own hg1 hheap k1 k2 hle' hbig'' hD hvD hO,by rw [wrX_length];exact hj,hv1⟩
       ·trivial
      ·rename_i hq
       exact gen _ (inj q (by simpa using hq)) hl
     | vw q =>
      simp only [wrP]
      split
      ·trivial
      ·rename_i hq
       exact gen _ (inj q (by simpa using hq)) hl
     | ro=>exact gen _ trivial hl
     | nl=>exact gen _ trivial hl
    | ptr c o1=>exact gen _ (fun h=>h) hl
    | tptr c o1 T=>exact gen _ (fun h=>h) hl
    | sl c o1 z l cp=>exact gen _ (fun h=>h) hl
    | gl g1 o1=>exact gen _ trivial hl
    | fn f a1 b1=>exact gen _ (fun _ _ _ _ h=>h) hl
    | it q s1 i1 =>
     simp only [wrP]
     split
     ·trivial
     ·rename_i hq
      exact gen _ (inj q (by simpa using hq)) hl
    | undef=>trivial
    | no=>exact hl
    | bool b=>exact gen _ trivial hl
    | int k n=>exact gen _ trivial hl
    | str s=>exact gen _ trivial hl
    | nilp=>exact gen _ trivial hl
    | iface t v=>exact gen _ trivial hl
    | nili=>exact gen _ trivial hl
    | nilf=>exact gen _ trivial hl
    | ln _=>exact gen _ trivial hl
    | rp _ _=>exact gen _ trivial hl
   refine wp_skip_ run ⟨_,hK,E1,?_⟩
   rw [hput]
   exact hr1.step W.1 hf (fun c b u T q1 q2 _=>⟨q1,by
    have:b ≠ g:=fun e=>hr1.ws.inj.kw c p b q1 (e ▸ hg1)
    rw [k7 b this];exact q2⟩)
 ·exact hw.elim
theorem setCells_out {b:Nat} {T:TypeId} {vs:List Value} {o:Nat} {w:World} {cur:Array Value} (h:w.heap[b]? = some (.cells cur T (0,0))) (hle:o + vs.length ≤ cur.size) (k j:Nat) (hk:k = b → ¬ (o ≤ j ∧ j < o + vs.length)):(w.setCells b o vs).cell? ⟨k,j,none⟩ = w.cell? ⟨k,j,none⟩:=by
 obtain ⟨cur',h1,h2,_,_,_,_,h7⟩:=setCells_heap b vs o w cur h hle
 by_cases e:k = b
 ·subst e
  rw [cell_of_cells h1,cell_of_cells h,← Array.getElem?_toList,h2,← Array.getElem?_toList]
  have:=hk rfl
  by_cases hj:j < o
  ·rw [List.append_assoc,List.getElem?_append_left (by simp;omega),List.getElem?_take_of_lt hj]
  ·rw [List.getElem?_append_right (by simp;omega),List.getElem?_drop]
   congr 1
   simp
   omega
 ·exact World.cell?_of_block (h7 k e)
theorem sound_stT {P:Program} {o:Oper} {t:TypeId} {x y:Operand} {ax ay:AO} {n0:Nat} (ho:o.op = .store t x y) (h1:cOpd P 0 x = some ax) (h2:cOpd P t y = some ay) (hn:szOf P t = some n0) (hn0:n0 ≠ 0) (hdn:o.dst = none):SoundT X P o (.st ax ay n0):=by
 intro E0 E w0 w n σ a K Q ls hx hr hd hw hst
 have hx:=cOpd_ev h1 hr
 have hy:=cOpd_ev h2 hr
 simp only [wop] at hw
 simp only [stOK] at hst
 generalize σ.ev ax = px at hx hw hst
 generalize σ.ev ay = py at hy hw hst
 unfold stOKv at hst
 split at hst
 case h_2=>cases hst
 rename_i c off
 simp only [Bool.and_eq_true,Bool.not_eq_true'] at hst
 obtain ⟨hap,hown⟩:=hst
 obtain ⟨hlen,hcell,hw⟩:=hw
 obtain ⟨hall,hone⟩:=V_cells hy hcell (.inl (by omega))
 have hvl:=hall.length
 have hput:∀ a:Act,a.put o.dst undef = a:=fun a=>by rw [hdn];rfl
 obtain ⟨cs,hc,hle,hK⟩:=hw
 obtain ⟨b,hb,ex⟩:=V_ptr hx
 obtain ⟨b',u,T,hb',hh,hcs⟩:=hr.ce c cs hc
 obtain rfl:b = b':=by rw [hb] at hb';exact Option.some.inj hb'
 have hul:u.size = cs.length:=by rw [hcs.length];simp
 have run:(execOp a.eval o).run P w = .ok .skip (w.setCells b off (a.eval y).cells.toList):=by
  simp only [execOp,ho,ex,Sem.run_bind]
  rw [run_storeVar' (v:=a.eval y) (o:=off) hn hh (by omega) (by omega) hone]
  rfl
 have h3:=hr.setCell' (o:=off) hc hb hall (by omega)
 refine wp_skip_ run ⟨_,hK,?_,fun l hl k hk j j1 j2=>setCells_out hh (by omega) k j (fun e=>?_)⟩
 ·rw [hput]
  unfold St.stC
  split
  ·rename_i q e sz xs sp
   simp [ownsV,owns1,ownL] at hown
  ·exact h3
 ·have h4:=List.all_eq_true.1 hap l hl
  simp only [Bool.or_eq_true,Bool.not_eq_true',beq_eq_false_iff_ne,decide_eq_true_eq] at h4
  rcases h4 with (h4 | h4) | h4
  ·exact absurd (hr.ws.inj.kk l.1 c k hk (e ▸ hb)) h4
  ·omega
  ·omega
end Go.Proofs.YthcpaohmajjopaaGreatDoor.AM
