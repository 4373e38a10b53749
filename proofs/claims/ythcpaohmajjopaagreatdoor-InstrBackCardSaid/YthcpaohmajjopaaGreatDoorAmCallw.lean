/- The abstract machine, part Callw. -/
import Derived.Test.YthcpaohmajjopaaGreatDoorAmCallk
set_option linter.unusedVariables false
set_option linter.unusedSimpArgs false
namespace Go.Proofs.YthcpaohmajjopaaGreatDoor.AM
open Go
variable {X:Cx}
def Env.more (E:Env) (w:World) (E':Env):Env:={ rd:=fun b=>E.rd b ∨ (w.heap.size ≤ b ∧ E'.rd b),κ:=E.κ,ω:=E.ω }
theorem callw_step {m:Nat} {E E':Env} {w w':World} {g p:Nat} (hI:Inj E w) (hg:E.ω p = some g) (W:WStep 1 ⟨E.rd,fun i=>if i = 0 then some g else none,fun _=>none⟩ w E' w') :
  WStep m E w (E.more w E') w' ∧ Step E w (E.more w E') w' (fun q=>q = p) (fun _=>False):=by
 have hsz:=W.un.size
 have blk:∀ b,b < w.heap.size → b ≠ g → w'.heap[b]? = w.heap[b]?:=fun b hb hne=>W.un.block b hb (by
  rintro (⟨i,hi⟩ | ⟨q,hq⟩)
  ·simp only at hi
   split at hi
   ·exact hne (Option.some.inj hi).symm
   ·cases hi
  ·cases hq)
 have ty:∀ c b u T,E.κ c = some b → w.heap[b]? = some (.cells u T (0,0)) → ∃ u',w'.heap[b]? = some (.cells u' T (0,0)):=fun c b u T h hu=>⟨u,(blk b (hI.kr c b h).2 (fun e=>hI.kw c p b h (e ▸ hg))).trans hu⟩
 refine ⟨⟨⟨W.un.os,W.un.tape,W.un.output,hsz,fun b hb hn=>blk b hb (fun e=>hn (.inr ⟨p,e ▸ hg⟩))⟩,⟨hI.kk,hI.ww,hI.kw,fun c b h=>⟨fun hh=>hh.elim (hI.kr c b h).1 (fun h2=>by have:=(hI.kr c b h).2;omega),by have:=(hI.kr c b h).2;omega⟩,fun c b h=>⟨fun hh=>hh.elim (hI.wr c b h).1 (fun h2=>by have:=(hI.wr c b h).2;omega),by have:=(hI.wr c b h).2;omega⟩⟩,
   fun b h=>h.elim .inl (fun h=>.inr (.inl h.1)),fun b h _=>.inl h,fun p b h=>.inr ⟨p,h⟩,fun c b h=>.inr ⟨c,h⟩,fun _ _=>rfl,fun c b u T _=>ty c b u T⟩,
  ⟨hsz,fun b hb hr=>⟨.inl hr,blk b hb (fun e=>(hI.wr p g hg).1 (e ▸ hr))⟩,fun q b hq hb=>⟨hb,blk b (hI.wr q b hb).2 (fun e=>hq (hI.ww q p b hb (e ▸ hg)))⟩,fun _ _ _ h=>h,fun c b u T _=>ty c b u T⟩⟩
theorem roL_env {Rb:Nat → Prop} {w:World} (κ ω:Nat → Option Nat) {x:L} {v:Value} (q:LeafV ⟨Rb,fun _=>none,fun _=>none⟩ w (roL x) v):LeafV ⟨Rb,κ,ω⟩ w (roL x) v:=by
 cases x with
 | ptr c' o=>trivial
 | tptr c' o T=>trivial
 | sl c' o z l cp=>trivial
 | it q s i=>trivial
 | gl g o=>exact q
 | fn f a b =>
  simp only [roL] at q ⊢
  split
  ·rename_i hp
   rw [if_pos hp] at q
   exact D.leaf (E:=⟨Rb,κ,ω⟩) (fn_D (E:=⟨Rb,fun _=>none,fun _=>none⟩) hp q)
  ·trivial
 | lst t sz xs sp=>exact q
 | ep t sz xs sp i o=>trivial
 | undef=>trivial
 | no=>exact q
 | bool b=>exact q
 | int k n=>exact q
 | str s=>exact q
 | nilp=>exact q
 | iface t v=>exact q
 | nili=>exact q
 | nilf=>exact q
 | ln _=>exact q
 | rp _ _=>exact q
theorem V_ro2 {E:Env} {w:World} (κ ω:Nat → Option Nat) {x:PV} {v:Value} (h:V E w x v) (g:∀ y ∈ x.leaves,placeOf y = none):V ⟨E.rd,κ,ω⟩ w (mapL roL x) v:=by
 have leaf:∀ {x:L} {v:Value},LeafV E w x v → placeOf x = none → LeafV ⟨E.rd,κ,ω⟩ w (roL x) v:=fun hx hp=>roL_env κ ω (roL_arg (fun _ h=>h) (fun p b hq _=>by rw [hp] at hq;cases hq) hx)
 have leafs:∀ {xs:List L} {us:List Value},All2 (LeafV E w) xs us → (∀ y ∈ xs,placeOf y = none) → All2 (LeafV ⟨E.rd,κ,ω⟩ w) (xs.map roL) us:=by
  intro xs us h
  induction h with
  | nil=>intro _;exact .nil
  | cons q1 q2 ih=>intro g;exact .cons (leaf q1 (g _ (List.mem_cons_self ..))) (ih (fun y hy=>g y (List.mem_cons_of_mem _ hy)))
 have one1:∀ {x:PV} {v:Value},V1 E w x v → (∀ y ∈ x.cells,placeOf y = none) → V1 ⟨E.rd,κ,ω⟩ w (mapL1 roL x) v:=by
  intro x v h g
  cases x with
  | lf x=>exact leaf h (g x (by simp [PV.cells]))
  | ag xs =>
   obtain ⟨vs,h1,h2⟩:=h
   exact ⟨vs,h1,leafs h2 g⟩
  | tp _=>exact h.elim
 cases x with
 | lf x=>exact one1 (x:=.lf x) h g
 | ag xs=>exact one1 (x:=.ag xs) h g
 | tp xs =>
  obtain ⟨us,h1,h2⟩:=h
  refine ⟨us,h1,?_⟩
  have gen:∀ {xs:List PV} {us:List Value},All2 (V1 E w) xs us → (∀ y ∈ xs.flatMap PV.cells,placeOf y = none) → All2 (V1 ⟨E.rd,κ,ω⟩ w) (xs.map (mapL1 roL)) us:=by
   intro xs us h
   induction h with
   | nil=>intro _;exact .nil
   | cons q1 q2 ih=>intro g;exact .cons (one1 q1 (fun y hy=>g y (by simp only [List.flatMap_cons];exact List.mem_append_left _ hy))) (ih (fun y hy=>g y (by simp only [List.flatMap_cons];exact List.mem_append_right _ hy)))
  exact gen h2 g
theorem argsY_V {E:Env} {w:World} {κ ω:Nat → Option Nat} {y:L} {u:Value} (hs:LeafV ⟨E.rd,κ,ω⟩ w y u):∀ (ip:Nat) (l:List PV) (vs:List Value),All2 (V E w) l vs → vs[ip]? = some u → othersNo ip l = true → All2 (V ⟨E.rd,κ,ω⟩ w) (argsY y ip l) vs
 | ip,[],_,h,hu,_=>by cases h;simp at hu
 | 0,x :: r,_,h,hu,ho=>by
  cases h with
  | cons h1 h2 =>
   simp only [List.getElem?_cons_zero,Option.some.injEq] at hu
   subst hu
   refine .cons hs ?_
   simp only [othersNo,List.take_zero,List.nil_append,List.drop_succ_cons,List.drop_zero,Nat.zero_add] at ho
   have gen:∀ {l:List PV} {vs:List Value},All2 (V E w) l vs → ((l.flatMap PV.leaves).all fun x=>(placeOf x).isNone) = true → All2 (V ⟨E.rd,κ,ω⟩ w) (l.map (mapL roL)) vs:=by
    intro l vs h
    induction h with
    | nil=>intro _;exact .nil
    | cons q1 q2 ih =>
     intro g
     simp only [List.flatMap_cons,List.all_append,Bool.and_eq_true] at g
     exact .cons (V_ro2 κ ω q1 (fun y hy=>by simpa using List.all_eq_true.1 g.1 y hy)) (ih g.2)
   exact gen h2 ho
 | ip + 1,x :: r,_,h,hu,ho=>by
  cases h with
  | cons h1 h2 =>
   simp only [List.getElem?_cons_succ] at hu
   simp only [othersNo,List.take_succ_cons,List.drop_succ_cons,List.cons_append,List.flatMap_cons,List.all_append,Bool.and_eq_true] at ho
   exact .cons (V_ro2 κ ω h1 (fun y hy=>by simpa using List.all_eq_true.1 ho.1 y hy)) (argsY_V hs ip r _ h2 hu ho.2)
theorem row_flat {Rb:Nat → Prop} {w:World} {sz:Nat}:∀ (xs:List (List L)) (vals:List Value),Row Rb w sz xs vals → xs.length * sz ≤ vals.length → All2 (D Rb w) xs.flatten (vals.take (xs.length * sz))
 | [],vals,_,_=>by simp;exact .nil
 | x :: r,vals,h,hl=>by
  obtain ⟨h1,h2⟩:=h 0 x rfl
  simp only [List.length_cons] at hl ⊢
  rw [Nat.add_mul,Nat.one_mul] at hl ⊢
  rw [Nat.add_comm,List.take_add,List.flatten_cons]
  refine .append (.of_get (by rw [List.length_take,h1];omega) (fun i c v hc hv=>?_)) (row_flat r (vals.drop sz) (fun i y hy=>?_) (by rw [List.length_drop];omega))
  ·obtain ⟨u,hu,hd⟩:=h2 i c hc
   have hi:i < sz:=by rw [← h1];exact (List.getElem?_eq_some_iff.1 hc).1
   rw [List.getElem?_take_of_lt hi] at hv
   simp only [Nat.zero_mul,Nat.zero_add] at hu
   rw [hu] at hv
   cases hv
   exact hd
  ·obtain ⟨k1,k2⟩:=h (i + 1) y (by simpa using hy)
   refine ⟨k1,fun j c hc=>?_⟩
   obtain ⟨u,hu,hd⟩:=k2 j c hc
   exact ⟨u,by rw [List.getElem?_drop,show sz + (i * sz + j) = (i + 1) * sz + j by rw [Nat.add_mul];omega];exact hu,hd⟩
theorem flat_row {S:L → Value → Prop} {sz:Nat} {tl:List L}:∀ (ys:List (List L)) (vals:List Value),(∀ y ∈ ys,y.length = sz) → All2 S (ys.flatten ++ tl) vals → ∀ (i:Nat) (y:List L),ys[i]? = some y → ∀ (j:Nat) (c:L),y[j]? = some c → ∃ u,vals[i * sz + j]? = some u ∧ S c u
 | [],vals,_,_,i,y,hy,_,_,_=>by simp at hy
 | x :: r,vals,hl,h,0,y,hy,j,c,hc=>by
  simp only [List.getElem?_cons_zero,Option.some.injEq] at hy
  subst hy
  have hj:=(List.getElem?_eq_some_iff.1 hc).1
  obtain ⟨u,hu,hs⟩:=h.get j c (by rw [List.flatten_cons,List.append_assoc,List.getElem?_append_left hj];exact hc)
  exact ⟨u,by simpa using hu,hs⟩
 | x :: r,vals,hl,h,i + 1,y,hy,j,c,hc=>by
  have hx:x.length = sz:=hl x (List.mem_cons_self ..)
  have h':All2 S (r.flatten ++ tl) (vals.drop sz):=by
   have:=h.drop sz
   rw [List.flatten_cons,List.append_assoc,← hx,List.drop_left] at this
   rw [← hx]
   exact this
  obtain ⟨u,hu,hs⟩:=flat_row r _ (fun y hy=>hl y (List.mem_cons_of_mem _ hy)) h' i y (by simpa using hy) j c hc
  rw [List.getElem?_drop] at hu
  exact ⟨u,by rw [show (i + 1) * sz + j = sz + (i * sz + j) by rw [Nat.add_mul];omega];exact hu,hs⟩
theorem flatL_D {E:Env} {w:World} {x:L} {v:Value} (hx:flatL x = true) (h:LeafV E w x v) (Rb:Nat → Prop) (w':World):D Rb w' x v:=by
 cases x<;>simp only [flatL,Bool.false_eq_true,reduceCtorEq] at hx<;>cases h
 ·exact .bool _
 ·exact .int _ _
 ·exact .str _
 ·exact .nilp
 ·exact .nili
theorem flatB_V {E E':Env} {w w':World} {r:PV} {v:Value} (hr:flatB r = true) (h:V E w r v):V E' w' r v:=by
 have leafs:∀ {xs:List L} {us:List Value},All2 (LeafV E w) xs us → xs.all flatL = true → All2 (LeafV E' w') xs us:=by
  intro xs us h
  induction h with
  | nil=>intro _;exact .nil
  | cons q1 q2 ih =>
   intro g
   simp only [List.all_cons,Bool.and_eq_true] at g
   exact .cons (D.leaf (flatL_D g.1 q1 _ _)) (ih g.2)
 have one:∀ {x:PV} {v:Value},flat1B x = true → V1 E w x v → V1 E' w' x v:=by
  intro x v g h
  cases x with
  | lf x=>exact D.leaf (flatL_D g h _ _)
  | ag xs =>
   obtain ⟨vs,h1,h2⟩:=h
   exact ⟨vs,h1,leafs h2 g⟩
  | tp _=>exact h.elim
 cases r with
 | lf x=>exact one (x:=.lf x) hr h
 | ag xs=>exact one (x:=.ag xs) hr h
 | tp xs =>
  obtain ⟨us,h1,h2⟩:=h
  refine ⟨us,h1,?_⟩
  have gen:∀ {xs:List PV} {us:List Value},All2 (V1 E w) xs us → xs.all flat1B = true → All2 (V1 E' w') xs us:=by
   intro xs us h
   induction h with
   | nil=>intro _;exact .nil
   | cons q1 q2 ih =>
    intro g
    simp only [List.all_cons,Bool.and_eq_true] at g
    exact .cons (one g.1 q1) (ih g.2)
  exact gen h2 hr
theorem flatten_len {sz:Nat}:∀ (xs:List (List L)),(∀ y ∈ xs,y.length = sz) → xs.flatten.length = xs.length * sz
 | [],_=>by simp
 | x :: r,h=>by
  rw [List.flatten_cons,List.length_append,flatten_len r (fun y hy=>h y (List.mem_cons_of_mem _ hy)),h x (List.mem_cons_self ..),List.length_cons,Nat.add_mul,Nat.one_mul,Nat.add_comm]
theorem sound_callC {P:Program} {o:Oper} {c:Call} {f:FuncId} {fn:Func} {args:List AO} (ho:o.op = .call c) (hc:c.callee = .value (.func f)) (hf:P.funcs[f]? = some fn) (hname:(fn.name == "runtime.NumGoroutine") = false) (hb:fn.body.isNone = false) (ha:cArgs P c.args.toList fn.params.toList = some args)
  {E0 E:Env} {w0 w:World} {n:Nat} {σ:St} {a:Act} {K:St → Prop} {Q:Exit → Act → World → Prop} (hX:CxOK X E w) (hr:RelE E0 w0 n E σ a w) (hd:∀ t,o.dst = some t → t < n) (hw:wcallC X P σ o.dst f args K):o.wp P a w (fun a' w'=>∃ σ',K σ' ∧ Rel E0 w0 n σ' a' w') Q:=by
 obtain ⟨ip,p,e,sz,xs,sp,r,ys,hip,hnl,hoth,hR,hflat,hlen,hrow,hK⟩:=hw
 have hall:=cArgs_all hr c.args.toList fn.params.toList args ha
 have hall':All2 (V E w) (args.map σ.ev) (c.args.toList.map a.eval):=hall.map_left σ.ev (fun _ _ h=>h)
 have run:(execOp a.eval o).run P w = .ok (.enter f (c.args.map a.eval)) w:=by
  have he:a.eval (.func f) = .func (.func f) #[] #[]:=rfl
  simp only [execOp,ho,resolve,hc,he,Deferred.ofValue,invoke,callFunc,Sem.run_bind,Sem.run_pure,Result.andThen_ok,run_program,hf,hname,hb]
  simp
 have hvs:(c.args.map a.eval) = (c.args.toList.map a.eval).toArray:=by rw [← Array.toList_map]
 obtain ⟨u,hu,hV0⟩:=hall'.get ip (.lf (.lst (.own p e) sz xs sp)) (by rw [List.getElem?_map];exact hip)
 obtain ⟨A,cap,rfl,hown⟩:=(hV0:LeafV E w (.lst (.own p e) sz xs sp) _)
 have hI:=hr.ws.inj
 rcases hown with ⟨rfl,rfl,rfl,rfl⟩ | ⟨g,cur,rfl,hg,hheap,hcap,hmax,hsz,hRow⟩
 ·obtain rfl:ys = []:=List.eq_nil_of_length_eq_zero (by simpa using hlen)
  have hVs:=argsY_V (E:=E) (w:=w) (κ:=fun _=>none) (ω:=fun _=>none) (y:=.lst .nl sz [] []) (u:=.slice none 0 0) ⟨none,0,rfl,rfl,rfl,rfl,rfl⟩ ip _ _ hall' hu hoth
  have:=hnl rfl ⟨E.rd,fun _=>none,fun _=>none⟩ w _ (hX.sub (fun b hb=>hb)) (inj_none _ _) (fun _ _=>rfl) hVs (fun _ _ h=>by simp at h)
  unfold Oper.wp
  rw [run,Oper.upon_enter,hvs]
  refine this.mono ?_
  rintro ex w' ⟨v,E',rfl,W,hv,_⟩
  have U:Unch (fun _=>False) w w':=⟨W.un.os,W.un.tape,W.un.output,W.un.size,fun b hb _=>W.un.block b hb (by rintro (⟨c,hc⟩ | ⟨p,hp⟩);(simp at hc);(simp at hp))⟩
  have S:=ext_step (m:=σ.m) hI U
  have hf:∀ x v,LeafV E w x v → LeafV E w' (uwP p sz 0 [] x) v:=by
   intro x v hx
   have gen1:LeafV E w' (killP p x) v:=killP_step (p:=p) (S.2.mono (fun _ h=>h.elim)) x v hx
   cases x with
   | lst t z zs sq =>
    cases t with
    | own q e1 =>
     have gen2:LeafV E w' (.lst (.own q e1) z zs sq) v:=hx.step S.2 (by simp [Tag.free,leafFree])
     simp only [uwP]
     split
     ·split
      ·rename_i hz
       obtain ⟨rfl,hzl⟩:=hz
       obtain ⟨A1,cap1,rfl,h1⟩:=gen2
       refine ⟨A1,cap1,by rw [hzl];rfl,?_⟩
       rcases h1 with ⟨h1,h2,_,_⟩ | ⟨g1,cur1,h1,h2,h3,_,h5,h6,_⟩
       ·exact .inl ⟨h1,h2,rfl,rfl⟩
       ·exact .inr ⟨g1,cur1,h1,h2,h3,by simp,h5,h6,fun i y hy=>by simp at hy⟩
      ·trivial
     ·exact gen2
    | ro=>exact gen1
    | nl=>exact gen1
    | vw q=>exact gen1
   | _=>exact gen1
  have hr1:=hr.step (f:=uwP p sz 0 []) S.1 hf (fun c' b u T h1 h2 _=>⟨h1,by rw [U.block b (hI.kr c' b h1).2 (fun h=>h)];exact h2⟩)
  exact ⟨_,hK,E,hr1.put hd (flatB_V hflat hv)⟩
 have hRow':Row E.rd w sz xs cur.toList:=fun i x hx=>hRow i x (by rw [List.getElem?_append_left (List.getElem?_eq_some_iff.1 hx).1];exact hx)
 have hsz':xs.length * sz ≤ cur.toList.length:=by
  have:xs.length * sz ≤ cap * sz:=Nat.mul_le_mul_right _ (by omega)
  simp only [Array.length_toList]
  omega
 have hy:∀ y ∈ ys,y.length = sz ∧ y.all frzD = true:=fun y hy=>by
  have:=List.all_eq_true.1 hrow y hy
  simpa using this
 have hxl:∀ y ∈ xs,y.length = sz:=fun y hy=>by
  obtain ⟨i,hi⟩:=List.getElem?_of_mem hy
  exact (hRow' i y hi).1
 generalize htl:List.replicate (cur.size - xs.length * sz) L.undef = tl
 have hI2:Inj ⟨E.rd,fun i=>if i = 0 then some g else none,fun _=>none⟩ w:=by
  have hw1:=hI.wr p g hg
  refine ⟨fun i j b h1 h2=>?_,fun q q' b h1 _=>(by cases h1),fun i q b _ h2=>(by cases h2),fun i b h1=>?_,fun q b h1=>(by cases h1)⟩
  ·simp only at h1 h2
   split at h1
   ·split at h2
    ·omega
    ·cases h2
   ·cases h1
  ·simp only at h1
   split at h1
   ·cases h1;exact hw1
   ·cases h1
 have hcells:CellsV ⟨E.rd,fun i=>if i = 0 then some g else none,fun _=>none⟩ w (fun j=>[xs.flatten ++ tl][j]?):=by
  intro j cs hj
  cases j with
  | succ j=>simp at hj
  | zero =>
   simp only [List.getElem?_cons_zero,Option.some.injEq] at hj
   subst hj
   refine ⟨g,cur,e,by simp,hheap,?_⟩
   have h1:=row_flat xs cur.toList hRow' hsz'
   have h2:All2 (LeafV ⟨E.rd,fun i=>if i = 0 then some g else none,fun _=>none⟩ w) tl (cur.toList.drop (xs.length * sz)):=by
    rw [← htl]
    refine .of_get (by simp) (fun i x v hx _=>?_)
    rw [List.getElem?_replicate] at hx
    split at hx
    ·cases hx;trivial
    ·cases hx
   have:=All2.append (h1.imp (fun x v h=>D.leaf (E:=⟨E.rd,fun i=>if i = 0 then some g else none,fun _=>none⟩) h)) h2
   rwa [List.take_append_drop] at this
 have hVs:=argsY_V (E:=E) (w:=w) (κ:=fun i=>if i = 0 then some g else none) (ω:=fun _=>none) (y:=.sl 0 0 sz xs.length cap) (u:=.slice (some ⟨g,0,none⟩) xs.length cap) ⟨g,by simp,rfl,by omega,hmax⟩ ip _ _ hall' hu hoth
 rw [← htl] at hcells
 have:=hR (cur.size - xs.length * sz) cap (by omega) (by simp only [Array.length_toList] at hsz';omega) ⟨E.rd,fun i=>if i = 0 then some g else none,fun _=>none⟩ w _ (hX.sub (fun b hb=>hb)) hI2 (fun i hi=>by simp only [List.length_cons,List.length_nil] at hi;simp only;rw [if_neg (by omega)]) hVs hcells
 unfold Oper.wp
 rw [run,Oper.upon_enter,hvs]
 refine this.mono ?_
 rintro ex w' ⟨v,E',rfl,W,hv,hcell⟩
 obtain ⟨b',u',T',k1,k2,k3⟩:=hcell 0 (ys.flatten ++ List.replicate (cur.size - xs.length * sz) .undef) rfl
 have hk:=W.k0 0 (by simp)
 rw [k1] at hk
 simp only [if_true,Option.some.injEq] at hk
 subst hk
 obtain ⟨u2,k4⟩:=W.ty 0 b' cur e (by simp) (by simp) hheap
 rw [k2] at k4
 simp only [Option.some.injEq,Obj.cells.injEq] at k4
 obtain ⟨rfl,rfl,_⟩:=k4
 have hulen:u'.size = cur.size:=by
  have h1:=k3.length
  rw [List.length_append,flatten_len ys (fun y h=>(hy y h).1),hlen,List.length_replicate] at h1
  have e1:u'.toList.length = u'.size:=by simp
  have e2:cur.toList.length = cur.size:=by simp
  omega
 have S:=callw_step (m:=σ.m) hI hg W
 have hrd':∀ b,E'.rd b → b < w'.heap.size → (E.more w E').rd b ∧ w'.heap[b]? = w'.heap[b]?:=fun b hb _=>by
  refine ⟨?_,rfl⟩
  rcases W.rd b hb with h | h | ⟨q,hq⟩ | ⟨i,hi,hq⟩
  ·exact .inl h
  ·exact .inr ⟨h,hb⟩
  ·cases hq
  ·simp only at hq
   simp only [List.length_cons,List.length_nil] at hi
   rw [if_neg (by omega)] at hq
   cases hq
 have hf:∀ x v,LeafV E w x v → LeafV (E.more w E') w' (uwP p sz xs.length ys x) v:=by
  intro x v hx
  have gen:=killP_step (p:=p) S.2 x v hx
  cases x with
  | lst t z zs sq =>
   cases t with
   | own q e1 =>
    simp only [uwP]
    split
    ·rename_i hq
     obtain rfl:q = p:=by simpa using hq
     split
     ·rename_i hz
      obtain ⟨rfl,hzl⟩:=hz
      obtain ⟨A1,cap1,rfl,h1⟩:=hx
      rcases h1 with ⟨rfl,rfl,rfl,_⟩ | ⟨g1,cur1,rfl,hg1,hheap1,hcap1,hmax1,hsz1,_⟩
      ·obtain rfl:ys = []:=List.eq_nil_of_length_eq_zero (by rw [hlen,← hzl];rfl)
       exact ⟨none,0,rfl,.inl ⟨rfl,rfl,rfl,rfl⟩⟩
      rw [hg] at hg1
      cases hg1
      rw [hheap] at hheap1
      simp only [Option.some.injEq,Obj.cells.injEq] at hheap1
      obtain ⟨rfl,rfl,_⟩:=hheap1
      refine ⟨some ⟨b',0,none⟩,cap1,by rw [hlen,hzl],.inr ⟨b',u',rfl,hg,k2,by simp;omega,hmax1,by omega,?_⟩⟩
      intro i y hy'
      rw [List.append_nil] at hy'
      have hmem:y ∈ ys:=List.mem_of_getElem? hy'
      refine ⟨(hy y hmem).1,fun j cc hcc=>?_⟩
      obtain ⟨uu,h5,h6⟩:=flat_row ys _ (fun y h=>(hy y h).1) k3 i y hy' j cc hcc
      exact ⟨uu,h5,(frzD_D (List.all_eq_true.1 (hy y hmem).2 cc (List.mem_of_getElem? hcc)) h6).mono hrd' (Nat.le_refl _)⟩
     ·trivial
    ·rename_i hq
     simpa [killP,tagK,hq] using gen
   | ro=>exact gen
   | nl=>exact gen
   | vw q=>exact gen
  | _=>exact gen
 have hr1:=hr.step (f:=uwP p sz xs.length ys) S.1 hf (fun c' b u T h1 h2 _=>⟨h1,by
  have hne:b ≠ b':=fun e=>hI.kw c' p b h1 (e ▸ hg)
  rw [W.un.block b (hI.kr c' b h1).2 (by
   rintro (⟨i,hi⟩ | ⟨q,hq⟩)
   ·simp only at hi
    split at hi
    ·exact hne (Option.some.inj hi).symm
    ·cases hi
   ·cases hq)]
  exact h2⟩)
 exact ⟨_,hK,E.more w E',hr1.put hd (flatB_V hflat hv)⟩
def Env.give (E:Env) (p:Nat):Env:={ E with ω:=fun q=>if q = p then none else E.ω q }
theorem mv_step {m:Nat} {E E':Env} {w w':World} (hI:Inj E w) (hI':Inj E' w') {p:Nat} (U:Unch (fun b=>E.ω p = some b) w w') (hω:∀ q b,E'.ω q = some b → w.heap.size ≤ b ∨ E.ω p = some b) (d:Nat) (own:Bool) :
  WStep m E w (Env.call (E.give p) w E' d own) w' ∧ Step E w (Env.call (E.give p) w E' d own) w' (fun q=>q = p ∨ (own = true ∧ q ∈ [plT d 0,plT d 1,plT d 2])) (fun _=>False):=by
 have hsz:=U.size
 have key:∀ q b,(Env.call (E.give p) w E' d own).ω q = some b → ((own = true ∧ q ∈ [plT d 0,plT d 1,plT d 2]) ∧ E'.ω (q - 128 * d) = some b) ∨ (¬ (own = true ∧ q ∈ [plT d 0,plT d 1,plT d 2]) ∧ q ≠ p ∧ E.ω q = some b):=by
  intro q b hq
  simp only [Env.call,Env.give] at hq
  split at hq
  ·exact .inl ⟨‹_›,hq⟩
  ·split at hq
   ·cases hq
   ·exact .inr ⟨‹_›,‹_›,hq⟩
 have ge:∀ q,q ∈ [plT d 0,plT d 1,plT d 2] → 128 * d ≤ q:=by
  intro q hq
  simp [plT] at hq
  omega
 have blkK:∀ c b,E.κ c = some b → w'.heap[b]? = w.heap[b]?:=fun c b hc=>U.block b (hI.kr c b hc).2 (fun e=>hI.kw c p b hc e)
 refine ⟨⟨⟨U.os,U.tape,U.output,U.size,fun b hb hn=>U.block b hb (fun e=>hn (.inr ⟨p,e⟩))⟩,⟨hI.kk,?_,?_,?_,?_⟩,?_,fun b hb hlt=>.inl ⟨hb,hlt⟩,?_,fun c b hb=>.inr ⟨c,hb⟩,fun _ _=>rfl,fun c b u T _ hc hu=>⟨u,(blkK c b hc).trans hu⟩⟩,
  ⟨hsz,fun b hb hr=>⟨.inl ⟨hr,hb⟩,U.block b hb (fun e=>(hI.wr p b e).1 hr)⟩,?_,fun _ _ _ h=>h,fun c b u T _ hc hu=>⟨u,(blkK c b hc).trans hu⟩⟩⟩
 ·intro q q' b hq hq'
  rcases key q b hq with ⟨e1,h1⟩ | ⟨e1,n1,h1⟩<;>rcases key q' b hq' with ⟨e3,h3⟩ | ⟨e3,n3,h3⟩
  ·have:=hI'.ww _ _ _ h1 h3
   have g1:=ge q e1.2
   have g2:=ge q' e3.2
   omega
  ·rcases hω _ _ h1 with h | h
   ·have:=(hI.wr q' b h3).2;omega
   ·exact absurd (hI.ww _ _ _ h3 h) n3
  ·rcases hω _ _ h3 with h | h
   ·have:=(hI.wr q b h1).2;omega
   ·exact absurd (hI.ww _ _ _ h1 h) n1
  ·exact hI.ww _ _ _ h1 h3
 ·intro c q b hc hq
  rcases key q b hq with ⟨e1,h1⟩ | ⟨e1,_,h1⟩
  ·rcases hω _ _ h1 with h | h
   ·have:=(hI.kr c b hc).2;omega
   ·exact hI.kw c p b hc h
  ·exact hI.kw c q b hc h1
 ·intro c b hc
  have:=hI.kr c b hc
  refine ⟨fun h=>?_,by omega⟩
  rcases h with h | h
  ·exact this.1 h.1
  ·omega
 ·intro q b hq
  rcases key q b hq with ⟨e1,h1⟩ | ⟨e1,_,h1⟩
  ·refine ⟨fun h=>?_,(hI'.wr _ b h1).2⟩
   rcases h with h | h
   ·rcases hω _ _ h1 with g | g
    ·omega
    ·exact (hI.wr p b g).1 h.1
   ·exact (hI'.wr _ b h1).1 h.1
  ·have:=hI.wr q b h1
   refine ⟨fun h=>?_,by omega⟩
   rcases h with h | h
   ·exact this.1 h.1
   ·omega
 ·intro b hb
  rcases hb with hb | hb
  ·exact .inl hb.1
  ·exact .inr (.inl hb.2)
 ·intro q b hq
  rcases key q b hq with ⟨e1,h1⟩ | ⟨e1,_,h1⟩
  ·rcases hω _ _ h1 with h | h
   ·exact .inl h
   ·exact .inr ⟨p,h⟩
  ·exact .inr ⟨q,h1⟩
 ·intro q b hq hb
  have hqp:q ≠ p:=fun e=>hq (.inl e)
  refine ⟨by simp only [Env.call,Env.give];rw [if_neg (fun h=>hq (.inr h)),if_neg hqp];exact hb,U.block b (hI.wr q b hb).2 (fun e=>hqp (hI.ww _ _ _ hb e))⟩
theorem killPs_cons (p:Nat) (ps:List Nat) (x:L):killPs ps (killP p x) = killPs (p :: ps) x:=by
 have e:∀ t:Tag,tagKs (p :: ps) t = (tagK p t || tagKs ps t):=fun t=>by cases t<;>first | exact List.contains_cons | rfl
 cases x with
 | lst t sz xs sp=>simp only [killP,killPs,e];cases tagK p t<;>simp [killPs]
 | ep t sz xs sp i o=>simp only [killP,killPs,e];cases tagK p t<;>simp [killPs]
 | it q s i =>
  have e2:(p :: ps).contains q = ((q == p) || ps.contains q):=List.contains_cons
  simp only [killP,killPs,e2];cases (q == p)<;>simp [killPs]
 | _=>rfl
theorem sound_callM {P:Program} {o:Oper} {c:Call} {f:FuncId} {fn:Func} {args:List AO} (ho:o.op = .call c) (hc:c.callee = .value (.func f)) (hf:P.funcs[f]? = some fn) (hname:(fn.name == "runtime.NumGoroutine") = false) (hb:fn.body.isNone = false) (ha:cArgs P c.args.toList fn.params.toList = some args)
  {E0 E:Env} {w0 w:World} {n:Nat} {σ:St} {a:Act} {K:St → Prop} {Q:Exit → Act → World → Prop} (hX:CxOK X E w) (hr:RelE E0 w0 n E σ a w) (hd:∀ t,o.dst = some t → t < n) (hw:wcallM X P σ o.dst f args K):o.wp P a w (fun a' w'=>∃ σ',K σ' ∧ Rel E0 w0 n σ' a' w') Q:=by
 obtain ⟨ip,p,e,sz,xs,sp,r,hip,hoth,hR,hres,hflat,hK⟩:=hw
 have hall:=cArgs_all hr c.args.toList fn.params.toList args ha
 have hall':All2 (V E w) (args.map σ.ev) (c.args.toList.map a.eval):=hall.map_left σ.ev (fun _ _ h=>h)
 have run:(execOp a.eval o).run P w = .ok (.enter f (c.args.map a.eval)) w:=by
  have he:a.eval (.func f) = .func (.func f) #[] #[]:=rfl
  simp only [execOp,ho,resolve,hc,he,Deferred.ofValue,invoke,callFunc,Sem.run_bind,Sem.run_pure,Result.andThen_ok,run_program,hf,hname,hb]
  simp
 have hvs:(c.args.map a.eval) = (c.args.toList.map a.eval).toArray:=by rw [← Array.toList_map]
 obtain ⟨u,hu,hV0⟩:∃ u,(c.args.toList.map a.eval)[ip]? = some u ∧ V E w (.lf (.lst (.own p e) sz xs sp)) u:=by
  rcases hip with hip | ⟨hip,rfl,rfl⟩
  ·exact hall'.get ip (.lf (.lst (.own p e) sz xs sp)) (by rw [List.getElem?_map];exact hip)
  ·obtain ⟨u,hu,hV0⟩:=hall'.get ip (.lf (.lst .nl sz [] [])) (by rw [List.getElem?_map];exact hip)
   refine ⟨u,hu,?_⟩
   obtain ⟨A,cap,h1,h2,h3,_,_⟩:=(hV0:LeafV E w (.lst .nl sz [] []) u)
   exact ⟨A,cap,h1,.inl ⟨h2,h3,rfl,rfl⟩⟩
 have hI:=hr.ws.inj
 generalize hE1:(⟨E.rd,fun _=>none,fun q=>if q = plT ip 0 then E.ω p else none⟩:Env) = E1
 have hI1:Inj E1 w:=by
  subst hE1
  refine ⟨fun i j b h1 _=>(by cases h1),fun q q' b h1 h2=>?_,fun i q b h1 _=>(by cases h1),fun i b h1=>(by cases h1),fun q b h1=>?_⟩
  ·simp only at h1 h2
   split at h1
   ·split at h2
    ·omega
    ·cases h2
   ·cases h1
  ·simp only at h1
   split at h1
   ·exact hI.wr p b h1
   ·cases h1
 have hleaf:LeafV E1 w (.lst (.own (plT ip 0) e) sz xs sp) u:=by
  obtain ⟨A,cap,rfl,h⟩:=(hV0:LeafV E w (.lst (.own p e) sz xs sp) _)
  refine ⟨A,cap,rfl,?_⟩
  subst hE1
  rcases h with h | ⟨g,cur,h1,h2,h3⟩
  ·exact .inl h
  ·exact .inr ⟨g,cur,h1,by simp [h2],h3⟩
 have hVs:All2 (V E1 w) (argsY (.lst (.own (plT ip 0) e) sz xs sp) ip (args.map σ.ev)) (c.args.toList.map a.eval):=by
  subst hE1
  exact argsY_V (E:=E) (w:=w) hleaf ip _ _ hall' hu hoth
 have:=hR E1 w _ (hX.sub (fun b hb=>by subst hE1;exact hb)) hI1 (fun _ _=>by subst hE1;rfl) hVs (fun _ _ h=>by simp at h)
 unfold Oper.wp
 rw [run,Oper.upon_enter,hvs]
 refine this.mono ?_
 rintro ex w' ⟨v,E',rfl,W,hv,_⟩
 have U:Unch (fun b=>E.ω p = some b) w w':=⟨W.un.os,W.un.tape,W.un.output,W.un.size,fun b hb hn=>W.un.block b hb (by
  subst hE1
  rintro (⟨c,hc⟩ | ⟨q,hq⟩)
  ·simp at hc
  ·simp only at hq
   split at hq
   ·exact hn hq
   ·cases hq)⟩
 have hω:∀ q b,E'.ω q = some b → w.heap.size ≤ b ∨ E.ω p = some b:=fun q b hq=>by
  rcases W.om q b hq with h | ⟨q',hq'⟩
  ·exact .inl h
  ·subst hE1
   simp only at hq'
   split at hq'
   ·exact .inr hq'
   ·cases hq'
 have hcells:∀ t own c b u T,E.κ c = some b → w.heap[b]? = some (.cells u T (0,0)) → (Go.Proofs.YthcpaohmajjopaaGreatDoor.AM.get σ.ce c).isSome = true → (Env.call (E.give p) w E' t own).κ c = some b ∧ w'.heap[b]? = some (.cells u T (0,0)) :=
  fun t own c b u T h1 h2 _=>⟨h1,by rw [U.block b (hI.kr c b h1).2 (fun e=>hI.kw c p b h1 e)];exact h2⟩
 refine ⟨_,hK,?_⟩
 cases hdd:o.dst with
 | none =>
  have S:=mv_step (m:=σ.m) hI W.inj U hω 0 false
  exact ⟨_,hr.step (f:=killP p) S.1 (killP_step (S.2.mono (fun q hq=>hq.resolve_right (fun h=>by simp at h)))) (hcells 0 false)⟩
 | some t =>
  have S:=mv_step (m:=σ.m) hI W.inj U hω t (ownsV r)
  have h1:RelE E0 w0 n (Env.call (E.give p) w E' t (ownsV r)) ((σ.mapAll (killP p)).clr (some t) r) a w':=by
   unfold St.clr
   simp only
   split
   ·rename_i ho
    rw [mapAll_mapAll,show (fun x=>killPs [plT t 0,plT t 1,plT t 2] (killP p x)) = killPs (p :: [plT t 0,plT t 1,plT t 2]) from funext (killPs_cons p _)]
    exact hr.step S.1 (killPs_step (S.2.mono (fun q hq=>by
     rcases hq with rfl | hq
     ·exact List.mem_cons_self ..
     ·exact List.mem_cons_of_mem _ hq.2))) (hcells t (ownsV r))
   ·rename_i ho
    exact hr.step S.1 (killP_step (S.2.mono (fun q hq=>hq.resolve_right (fun h=>ho h.1)))) (hcells t (ownsV r))
  refine ⟨_,h1.put (fun t' e=>hd t' (by rw [hdd];exact e)) ?_⟩
  simp only [outV]
  cases r with
  | lf x=>exact out_V1 (x:=.lf x) (.inr hflat) (fun h=>h) hres hv
  | ag cs=>exact out_V1 (x:=.ag cs) (.inr hflat) (fun h=>h) hres hv
  | tp vs =>
   obtain ⟨us,h1,h2⟩:=hv
   refine ⟨us,h1,?_⟩
   have gen:∀ {xs:List PV} {us:List Value},All2 (V1 E' w') xs us → Flat (.tp xs) → (ownsV (.tp xs) = true → ownsV (.tp vs) = true) → resOK (.tp xs) = true → All2 (V1 (Env.call (E.give p) w E' t (ownsV (.tp vs))) w') (xs.map (mapL1 (outL t))) us:=by
    intro xs us h
    induction h with
    | nil=>intro _ _ _;exact .nil
    | cons q1 q2 ih =>
     intro g1 g2 g3
     simp only [resOK,List.all_cons,Bool.and_eq_true] at g3
     refine .cons (out_V1 (.inr (g1 _ (List.mem_cons_self ..))) (fun ho=>g2 (by simp only [ownsV,List.any_cons,Bool.or_eq_true];exact .inl ho)) g3.1 q1)
      (ih (fun y hy=>g1 y (List.mem_cons_of_mem _ hy)) (fun ho=>g2 (by simp only [ownsV,List.any_cons,Bool.or_eq_true] at ho ⊢;exact .inr ho)) g3.2)
   exact gen h2 hflat (fun h=>h) hres
theorem sound_call {P:Program} {o:Oper} {c:Call} {f:FuncId} {fn:Func} {args:List AO} (ho:o.op = .call c) (hc:c.callee = .value (.func f)) (hf:P.funcs[f]? = some fn) (hname:(fn.name == "runtime.NumGoroutine") = false) (hb:fn.body.isNone = false) (ha:cArgs P c.args.toList fn.params.toList = some args):Sound X P o (.call f args):=by
 intro E0 E w0 w n σ a K Q hX hr hd hw
 simp only [wop] at hw
 rcases hw with ⟨ip,cc,h1,h2⟩ | hw | ⟨dl,hw⟩ | hw
 ·exact sound_callp (ip:=ip) ho hc hf hname hb ha hX hr hd (by simp only [wop];rw [h1];exact h2)
 ·exact sound_callC ho hc hf hname hb ha hX hr hd hw
 ·obtain ⟨E2,hr2,_,hrd,_⟩:=RelE.downs dl hr
  exact sound_callM ho hc hf hname hb ha (hX.sub hrd) hr2 hd hw
 ·exact sound_callA ho hc hf hname hb ha hX hr hd hw
end Go.Proofs.YthcpaohmajjopaaGreatDoor.AM
