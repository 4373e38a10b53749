/- The abstract machine, part Ops7. -/
import Derived.Test.YthcpaohmajjopaaGreatDoorAmOps6
set_option linter.unusedVariables false
set_option linter.unusedSimpArgs false
namespace Go.Proofs.YthcpaohmajjopaaGreatDoor.AM
open Go
variable {X:Cx}
theorem RelE.newOwn {E0 E:Env} {w0 w:World} {n:Nat} {σ:St} {a:Act} (hr:RelE E0 w0 n E σ a w) {t:Nat} (ht:t < n) (p e sz cap:Nat) {xs sp:List (List L)} {cur:Array Value} (hcap:xs.length + sp.length ≤ cap) (hmax:cap ≤ maxLen) (hsz:cur.size = cap * sz)
  (hrow:Row (E.own p w.heap.size).rd (w.alloc (.cells cur e)) sz (xs ++ sp) cur.toList) :
  RelE E0 w0 n (E.own p w.heap.size) ((σ.mapAll (killP p)).put (some t) (.lf (.lst (.own p e) sz xs sp))) (a.put (some t) (.slice (some ⟨w.heap.size,0,none⟩) xs.length cap)) (w.alloc (.cells cur e)):=by
 have S:=own_step (m:=σ.m) hr.ws.inj (Unch.alloc w (.cells cur e)) (p:=p) (Nat.le_refl _) (b:=w.heap.size) (by rw [size_alloc];omega)
 have h1:=hr.step (f:=killP p) S.1 (killP_step S.2) (fun c b u T h1 h2 _=>⟨h1,by rw [(Unch.alloc w _).block b (hr.ws.inj.kr c b h1).2 (fun h=>h)];exact h2⟩)
 refine h1.put (fun t' e=>by cases e;exact ht) ⟨some ⟨w.heap.size,0,none⟩,cap,rfl,.inr ⟨w.heap.size,cur,rfl,?_,heap_alloc _ _,hcap,hmax,hsz,hrow⟩⟩
 simp [Env.own,upd]
theorem cLeaf_D {Rb:Nat → Prop} {w:World} {P:Program} {t:TypeId} {v:Value} {x:L} (h:cLeaf (fun _ n=>.lst .ro n [] []) P t v = some x):D Rb w x v:=by
 unfold cLeaf at h
 split at h
 ·cases h;exact .bool _
 ·cases h;exact .int _ _
 ·cases h;exact .str _
 ·cases h;exact .nilp
 ·cases h;exact .nili
 ·cases h;exact .nilf
 ·split at h
  ·obtain ⟨n,_,rfl⟩:=Option.map_eq_some_iff.1 h
   exact D_nil _ _ _ _ _ (by simp)
  ·cases h
 ·cases h
theorem cZero_D {Rb:Nat → Prop} {w:World} {P:Program}:∀ (ts:List TypeId) (vs:List Value) (i:Nat) (xs:List L),cZero (fun _ _ n=>.lst .ro n [] []) P i ts vs = some xs → All2 (fun x v=>D Rb w x v) xs vs
 | [],[],i,xs,h=>by simp [cZero] at h;subst h;exact .nil
 | [],_ :: _,_,_,h=>by simp [cZero] at h
 | _ :: _,[],_,_,h=>by simp [cZero] at h
 | t :: ts,v :: vs,i,xs,h=>by
  simp only [cZero] at h
  split at h
  ·rename_i x ys h1 h2
   cases h
   exact .cons (cLeaf_D h1) (cZero_D ts vs (i + 1) ys h2)
  ·cases h
theorem zeroOf_spec {lst:Nat → Nat → Nat → L} {P:Program} {t:TypeId} {xs:List L} (h:zeroOf lst P t = some xs):∃ i z,P.info? t = some i ∧ i.zero = some z ∧ cZero lst P 0 (leafTys P 8 t) z.cells.toList = some xs:=by
 unfold zeroOf at h
 split at h
 ·rename_i i hi
  split at h
  ·rename_i z hz
   exact ⟨i,z,hi,hz,h⟩
  ·cases h
 ·cases h
theorem made_get (z:Array Value) (m i j:Nat) (hj:j < z.size) (h:i * z.size + j < m * z.size):(madeCells z (m * z.size)).toList[i * z.size + j]? = z.toList[j]?:=by
 unfold madeCells
 have h1:(i * z.size + j) % z.size = j:=by rw [Nat.add_comm,Nat.add_mul_mod_self_right];exact Nat.mod_eq_of_lt hj
 rw [Array.getElem?_toList,Array.getElem?_map,Array.getElem?_range,if_pos h,Option.map_some,h1]
 simp [hj]
theorem made_row {Rb:Nat → Prop} {w:World} {zero:List L} {z:Array Value} {n m:Nat} {xs:List (List L)} (hz:All2 (fun x v=>D Rb w x v) zero z.toList) (hn:zero.length = n) (hxs:∀ x ∈ xs,x = zero) (hm:xs.length ≤ m):Row Rb w n xs (madeCells z (m * n)).toList:=by
 intro i x hx
 have e:x = zero:=hxs x (List.mem_of_getElem? hx)
 subst e
 refine ⟨hn,fun j c hc=>?_⟩
 obtain ⟨u,hu,hd⟩:=hz.get j c hc
 have hl:z.size = n:=by rw [← hn,hz.length];simp
 have hj:j < n:=by have:=(List.getElem?_eq_some_iff.1 hc).1;omega
 have hi:i < xs.length:=(List.getElem?_eq_some_iff.1 hx).1
 refine ⟨u,?_,hd⟩
 have hlt:i * n + j < m * n:=by
  have:(i + 1) * n ≤ m * n:=Nat.mul_le_mul_right _ (by omega)
  rw [Nat.add_mul] at this;omega
 have:=made_get z m i j (by omega) (by rw [hl];exact hlt)
 rw [hl] at this
 rw [this];exact hu
theorem sound_ms {P:Program} {o:Oper} {t e:TypeId} {x y:Operand} {ax ay:AO} {i:TypeInfo} {zero:List L} (ho:o.op = .makeSlice t x y) (h1:cOpd P 0 x = some ax) (h2:cOpd P 0 y = some ay) (hu:P.underlying t = some (.slice e)) (hi:P.info? e = some i) (hzo:zeroOf (fun _ _ n=>.lst .ro n [] []) P e = some zero):Sound X P o (.ms e i.size i.bytes zero ax ay):=by
 intro E0 E w0 w n σ a K Q hx hr hd hw
 have hx:=cOpd_ev h1 hr
 have hy:=cOpd_ev h2 hr
 simp only [wop] at hw
 generalize σ.ev ax = px at hx hw
 generalize σ.ev ay = py at hy hw
 obtain ⟨i',z,hi',hz,hcz⟩:=zeroOf_spec hzo
 obtain rfl:i = i':=by rw [hi] at hi';exact Option.some.inj hi'
 split at hw
 ·rename_i td k l k2 c hdst
  obtain ⟨hzl,⟨b1,b2,b3,b4⟩,hK⟩:=hw
  have ex:=V_int hx
  have ey:=V_int hy
  rw [hdst] at hK
  have hbig:c.toNat * i.size = c.toNat * i.size:=rfl
  have hmx:maxLen = 9223372036854775807:=by unfold maxLen;rfl
  have run:(execOp a.eval o).run P w = .ok (.value (.slice (some ⟨w.heap.size,0,none⟩) l.toNat c.toNat)) (w.alloc (.cells (madeCells z.cells (c.toNat * i.size)) e)):=by
   have:=run_make (P:=P) w t e i z hu hi hz k k2 l c b1 b2 (by rw [Int.mul_comm];omega) b4
   simp only [execOp,ho,ex,ey,Sem.run_bind,this]
   rfl
  have hlen:(List.replicate l.toNat zero).length = l.toNat:=by simp
  have h3:=hr.newOwn (hd td hdst) (plT td 0) e i.size c.toNat (xs:=List.replicate l.toNat zero) (sp:=List.replicate (c - l).toNat zero) (cur:=madeCells z.cells (c.toNat * i.size)) (by simp;omega) (by omega) (by rw [size_madeCells])
   (made_row (cZero_D _ _ _ _ hcz) hzl (fun x hx=>by
    rcases List.mem_append.1 hx with hx | hx<;>exact (List.mem_replicate.1 hx).2) (by simp;omega))
  refine wp_value run ⟨_,hK,E.own (plT td 0) w.heap.size,?_⟩
  rw [hdst]
  rw [hlen] at h3
  exact h3
 ·exact hw.elim
theorem foldl_set (off:Nat):∀ (vs:List Value) (k:Nat) (cs:Array Value),off + k + vs.length ≤ cs.size →
  ((vs.zipIdx k).foldl (fun (cs:Array Value) (x:Value × Nat)=>cs.setIfInBounds (off + x.2) x.1) cs).toList = cs.toList.take (off + k) ++ vs ++ cs.toList.drop (off + k + vs.length)
 | [],k,cs,h=>by simp
 | v :: vs,k,cs,h=>by
  simp only [List.length_cons] at h
  simp only [List.zipIdx_cons,List.foldl_cons]
  rw [foldl_set off vs (k + 1) _ (by simp;omega)]
  simp only [Array.toList_setIfInBounds,List.length_cons]
  have hlt:off + k < cs.toList.length:=by simp;omega
  have hlt':off + k < cs.size:=by omega
  rw [List.take_set,List.drop_set,if_pos (show off + k < off + (k + 1) + vs.length by omega)]
  have e1:(List.take (off + (k + 1)) cs.toList).set (off + k) v = cs.toList.take (off + k) ++ [v]:=by
   rw [← Nat.add_assoc,List.take_succ_eq_append_getElem hlt,List.set_append_right _ _ (by simp;omega)]
   simp [Nat.min_eq_left (Nat.le_of_lt hlt')]
  rw [e1]
  simp only [List.append_assoc,List.singleton_append]
  congr 3
  rw [show off + (k + 1) + vs.length = off + k + (vs.length + 1) by omega]
theorem fill_one (place:Nat → Option (Nat × Nat)) (cells:Array Value) (i off:Nat) (v:Value) (rest:List (Nat × Value)) (hp:place i = some (off,v.cells.size)) (hle:off + v.cells.size ≤ cells.size) :
  ∃ cells':Array Value,Instr.fill place cells ((i,v) :: rest) = Instr.fill place cells' rest ∧ cells'.size = cells.size ∧ cells'.toList = cells.toList.take off ++ v.cells.toList ++ cells.toList.drop (off + v.cells.toList.length):=by
 refine ⟨v.cells.zipIdx.foldl (fun cs (x:Value × Nat)=>cs.setIfInBounds (off + x.2) x.1) cells,?_,?_,?_⟩
 ·conv=>lhs;unfold Instr.fill
  simp only [hp]
  rw [if_neg (by simp;omega)]
 ·have key:∀ (l:List (Value × Nat)) (cs:Array Value),(l.foldl (fun (cs:Array Value) (x:Value × Nat)=>cs.setIfInBounds (off + x.2) x.1) cs).size = cs.size:=by
   intro l
   induction l with
   | nil=>intro cs;rfl
   | cons x l ih=>intro cs;rw [List.foldl_cons,ih];simp
  rw [← Array.foldl_toList]
  exact key _ _
 ·rw [← Array.foldl_toList,Array.toList_zipIdx]
  have:=foldl_set off v.cells.toList 0 cells (by simpa using hle)
  simpa using this
theorem wrX_set {Rb:Nat → Prop} {w:World} {sz i:Nat} {xs:List (List L)} {vals:List Value} {cs:List L} (h:Row Rb w sz xs vals) (hc:cs.length = sz):wrX i 0 cs xs = xs.set i cs:=by
 unfold wrX
 apply List.ext_getElem?
 intro k
 rw [List.getElem?_modify,List.getElem?_set]
 by_cases e:i = k
 ·subst e
  cases hx:xs[i]? with
  | none =>
   have:¬ i < xs.length:=fun hlt=>by rw [List.getElem?_eq_getElem hlt] at hx;cases hx
   simp [this]
  | some x =>
   have hl:=(h i x hx).1
   have:i < xs.length:=(List.getElem?_eq_some_iff.1 hx).1
   simp [this,fillL,show x.length ≤ cs.length by omega]
 ·simp only [if_neg e]
  cases xs[k]?<;>rfl
def PartD (Rb:Nat → Prop) (w:World) (σ:St) (a:Act):List (Nat × Operand) → List (Nat × AO) → Prop
 |(_,x) :: ps,(_,y) :: qs=>((σ.ev y).cells.all datL = true → (σ.ev y).cells.length ≠ 0 → All2 (fun c u=>D Rb w c u) ((σ.ev y).cells.map roL) (a.eval x).cells.toList) ∧ PartD Rb w σ a ps qs
 | _,_=>True
theorem fill_row {Rb:Nat → Prop} {w:World} {σ:St} {a:Act} {P:Program} {e:TypeId} {n:Nat} (hn:n ≠ 0) {K:List (List L) → Prop}:∀ (parts:List (Nat × Operand)) (aps:List (Nat × AO)) (xs:List (List L)) (cells:Array Value),cParts P e parts = some aps → PartD Rb w σ a parts aps →
  Row Rb w n xs cells.toList → cells.size = xs.length * n → wlit σ n xs aps K → ∃ cells' xs',Instr.fill (fun i=>some (i * n,n)) cells (parts.map fun p=>(p.1,a.eval p.2)) = some cells' ∧ Row Rb w n xs' cells'.toList ∧ cells'.size = cells.size ∧ xs'.length = xs.length ∧ K xs'
 | [],aps,xs,cells,h,hp,hrow,hsz,hw=>by
  simp only [cParts,Option.some.injEq] at h
  subst h
  exact ⟨cells,xs,rfl,hrow,rfl,rfl,hw⟩
 |(i,x) :: parts,aps,xs,cells,h,hp,hrow,hsz,hw=>by
  simp only [cParts] at h
  split at h
  ·rename_i y ys h1 h2
   obtain rfl:=(Option.some.inj h).symm
   obtain ⟨hi,hl,hdat,hw⟩:=hw
   obtain ⟨hp1,hp2⟩:=hp
   have hall:=hp1 hdat (by omega)
   have hvl:(a.eval x).cells.size = n:=by
    have:=hall.length
    simp at this;omega
   have hlt:i * n + n ≤ cells.size:=by
    have:(i + 1) * n ≤ xs.length * n:=Nat.mul_le_mul_right _ hi
    rw [Nat.add_mul] at this;omega
   obtain ⟨cells1,q1,q2,q3⟩:=fill_one (fun i=>some (i * n,n)) cells i (i * n) (a.eval x) (parts.map fun p=>(p.1,a.eval p.2)) (by rw [hvl]) (by omega)
   have hcl:((σ.ev y).cells.map roL).length = n:=by simpa using hl
   have hrow':=hrow.write (Rb':=Rb) (w':=w) (i:=i) (o:=0) (fun c u h=>h) hall (by omega) (by simp;simp at hcl;omega) (vals':=cells1.toList) (by simpa using q3)
   rw [wrX_set hrow hcl] at hrow'
   obtain ⟨cells2,xs2,r1,r2,r3,r4,r5⟩:=fill_row hn parts ys (xs.set i ((σ.ev y).cells.map roL)) cells1 h2 hp2 hrow' (by simp;omega) hw
   exact ⟨cells2,xs2,by rw [List.map_cons,q1,r1],r2,by omega,by simpa using r4,r5⟩
  ·cases h
theorem dat_cell (x:L) (h:datL x = true):cellL x = true:=by cases x<;>simp_all [datL,cellL]
theorem partD_of {E0 E:Env} {w0 w:World} {n:Nat} {σ:St} {a:Act} {Rb:Nat → Prop} (hr:RelE E0 w0 n E σ a w) (hrd:∀ b,E.rd b → Rb b) {P:Program} {e:TypeId}:∀ (parts:List (Nat × Operand)) (aps:List (Nat × AO)),cParts P e parts = some aps →
  (∀ x ∈ litLeaves σ aps,∀ p b,placeOf x = some p → E.ω p = some b → Rb b) → PartD Rb w σ a parts aps
 | [],aps,h,_=>by
  simp only [cParts,Option.some.injEq] at h
  subst h
  trivial
 |(i,x) :: parts,aps,h,hp=>by
  simp only [cParts] at h
  split at h
  ·rename_i y ys h1 h2
   obtain rfl:=(Option.some.inj h).symm
   refine ⟨fun hdat hne=>?_,partD_of hr hrd parts ys h2 (fun z hz=>hp z (by simp only [litLeaves];exact List.mem_append_right _ hz))⟩
   have hv:=cOpd_ev h1 hr
   have hcell:(σ.ev y).cells.all cellL = true:=by
    rw [List.all_eq_true] at hdat ⊢
    exact fun z hz=>dat_cell z (hdat z hz)
   have hall:=(V_cells hv hcell (.inl hne)).1
   have gen:∀ {cs:List L} {us:List Value},All2 (LeafV E w) cs us → (∀ c ∈ cs,c ∈ (σ.ev y).cells) → cs.all datL = true → All2 (fun c u=>D Rb w c u) (cs.map roL) us:=by
    intro cs us h
    induction h with
    | nil=>intro _ _;exact .nil
    | cons h1 h2 ih =>
     intro hmem hall
     simp only [List.all_cons,Bool.and_eq_true] at hall
     exact .cons (roL_D hrd (fun p b hq hb=>hp _ (by simp only [litLeaves];exact List.mem_append_left _ (hmem _ (List.mem_cons_self ..))) p b hq hb) hall.1 h1) (ih (fun c hc=>hmem c (List.mem_cons_of_mem _ hc)) hall.2)
   exact gen hall (fun c h=>h) hdat
  ·cases h
theorem Row.mono {Rb Rb':Nat → Prop} {w w':World} {sz:Nat} {xs:List (List L)} {vals:List Value} (h:Row Rb w sz xs vals) (hm:∀ c u,D Rb w c u → D Rb' w' c u):Row Rb' w' sz xs vals:=by
 intro i x hx
 obtain ⟨h1,h2⟩:=h i x hx
 exact ⟨h1,fun j c hc=>by obtain ⟨u,hu,hd⟩:=h2 j c hc;exact ⟨u,hu,hm _ _ hd⟩⟩
theorem own_D {E:Env} {w:World} {o:Obj} {p:Nat} (c:L) (u:Value) (h:D E.rd w c u):D (E.own p w.heap.size).rd (w.alloc o) c u :=
 h.mono (fun b hb hlt=>⟨⟨hb,by omega⟩,(Unch.alloc w o).block b hlt (fun h=>h)⟩) (Unch.alloc w o).size
theorem sound_bs {P:Program} {o:Oper} {t e:TypeId} {len n0:Nat} {parts:Array (Nat × Operand)} {aps:List (Nat × AO)} {zero:List L} (ho:o.op = .buildSlice t len parts) (hu:P.underlying t = some (.slice e)) (hn:szOf P e = some n0) (hzo:zeroOf (fun _ _ n=>.lst .ro n [] []) P e = some zero) (hps:cParts P e parts.toList = some aps) (hn0:n0 ≠ 0):SoundN X P o (.bs e n0 len zero aps):=by
 intro E0 E w0 w n σ a K Q hx hr hd hw
 simp only [wop] at hw
 split at hw
 ·rename_i td hdst
  obtain ⟨hbig,hzl,hw⟩:=hw
  obtain ⟨i,z,hi,hz,hcz⟩:=zeroOf_spec hzo
  have hz2:All2 (fun x v=>D (fun _=>False) w x v) zero z.cells.toList:=cZero_D _ _ _ _ hcz
  have hzs:z.cells.size = n0:=by rw [← hzl,hz2.length];simp
  obtain ⟨E1,hr1,hκ,hrd,hplaces,hω,hω2,hm,_⟩:=RelE.downs (litLeaves σ aps) hr
  have hrow0:Row E1.rd w n0 (List.replicate len zero) (madeCells z.cells (len * n0)).toList:=made_row (cZero_D _ _ _ _ hcz) hzl (fun x hx=>(List.mem_replicate.1 hx).2) (by simp)
  obtain ⟨cells',xs',q1,q2,q3,q4,hK⟩:=fill_row hn0 parts.toList aps (List.replicate len zero) (madeCells z.cells (len * n0)) hps (partD_of hr hrd parts.toList aps hps hplaces) hrow0 (by rw [size_madeCells];simp) hw
  rw [size_madeCells] at q3
  simp only [List.length_replicate] at q4
  rw [hdst] at hK
  have hmx:maxLen = 9223372036854775807:=by unfold maxLen;rfl
  have hlen:len ≤ 16777216:=Nat.le_trans (Nat.le_mul_of_pos_right _ (by omega)) hbig
  have run:(execOp a.eval o).run P w = .ok (.value (.slice (some ⟨w.heap.size,0,none⟩) len len)) (w.alloc (.cells cells' e)):=by
   have hf:(parts.map fun p=>(p.1,a.eval p.2)).toList = parts.toList.map fun p=>(p.1,a.eval p.2):=by simp
   have hzero:(zeroValue e).run P w = .ok z w:=by simp [zeroValue,typeInfo,hi,hz]
   have hmade:∀ zc:Array Value,(len * n0 = 0 ∨ zc = z.cells) → (Array.range (len * n0)).map (zc[· % zc.size]!) = madeCells z.cells (len * n0):=by
    intro zc hzc
    rcases hzc with h0 | rfl
    ·rw [h0];simp [madeCells]
    ·rfl
   simp only [execOp,ho,Instr.buildSlice,Sem.run_bind,run_underlying hu,Result.andThen_ok,run_sizeOf' hn]
   rw [if_neg (by omega)]
   by_cases h0:len * n0 = 0
   ·simp only [h0,if_true,Sem.run_bind,Sem.run_pure,Result.andThen_ok,hf]
    have e0:=hmade #[] (.inl h0)
    rw [h0] at e0 q1
    rw [e0,q1]
    rfl
   ·simp only [h0,if_false,Sem.run_bind,Sem.run_pure,Result.andThen_ok,hzero,hf]
    have e0:=hmade z.cells (.inr rfl)
    rw [e0,q1]
    rfl
  have h3:=hr1.newOwn (hd td hdst) (plT td 0) e n0 len (xs:=xs') (sp:=[]) (cur:=cells') (by simp;omega) (by omega) q3 (by
   rw [List.append_nil]
   exact q2.mono (fun c u h=>own_D c u h))
  rw [q4] at h3
  refine wp_value run ⟨⟨_,hK,E1.own (plT td 0) w.heap.size,?_⟩,fun _ b hb _=>(Unch.alloc w (.cells cells' e)).block b hb (fun h=>h)⟩
  rw [hdst]
  exact h3
 ·exact hw.elim
theorem fill_leaf {E0 E:Env} {w0 w:World} {n:Nat} {σ:St} {a:Act} (hr:RelE E0 w0 n E σ a w) {P:Program} {place:Nat → Option (TypeId × Nat)} {pl:Nat → Option (Nat × Nat)} (hpl:∀ i t off n,place i = some (t,off) → szOf P t = some n → pl i = some (off,n)) {K:List L → Prop} :
  ∀ (parts:List (Nat × Operand)) (aps:List (Nat × Nat × AO)) (cs:List L) (cells:Array Value),cFields P place parts = some aps → All2 (LeafV E w) cs cells.toList → wbuild σ cs aps K →
  ∃ cells' cs',Instr.fill pl cells (parts.map fun p=>(p.1,a.eval p.2)) = some cells' ∧ All2 (LeafV E w) cs' cells'.toList ∧ K cs'
 | [],aps,cs,cells,h,hall,hw=>by
  simp only [cFields,Option.some.injEq] at h
  subst h
  exact ⟨cells,cs,rfl,hall,hw⟩
 |(i,x) :: parts,aps,cs,cells,h,hall,hw=>by
  simp only [cFields] at h
  split at h
  ·rename_i t off hp
   split at h
   ·rename_i m y ys h1 h2 h3
    obtain rfl:=(Option.some.inj h).symm
    obtain ⟨hcell,hl,hle,hne,hw⟩:=hw
    have hv:=cOpd_ev h2 hr
    have hvc:=(V_cells hv hcell (.inl (by omega))).1
    have hvl:(a.eval x).cells.size = m:=by have:=hvc.length;simp at this;omega
    have hsz:cells.size = cs.length:=by rw [hall.length];simp
    obtain ⟨cells1,q1,q2,q3⟩:=fill_one pl cells i off (a.eval x) (parts.map fun p=>(p.1,a.eval p.2)) (by rw [hvl];exact hpl i t off m hp h1) (by omega)
    obtain ⟨cells2,cs2,r1,r2,r3⟩:=fill_leaf hr hpl parts ys (fillL cs off (σ.ev y).cells) cells1 h3 (by rw [q3];exact fill_all2 hall hvc off) hw
    exact ⟨cells2,cs2,by rw [List.map_cons,q1,r1],r2,r3⟩
   ·cases h
  ·cases h
theorem mapM_get {P:Program}:∀ (fs:List Field) (places:List (Nat × Nat)),fs.mapM (fun f=>(P.info? f.type).map fun i=>(f.offset,i.size)) = some places → ∀ (i:Nat) (f:Field) (n:Nat),fs[i]? = some f → szOf P f.type = some n → places[i]? = some (f.offset,n)
 | [],places,h,i,f,n,hf,hn=>by simp at hf
 | g :: fs,places,h,i,f,n,hf,hn=>by
  simp only [List.mapM_cons,Option.bind_eq_bind,Option.bind_eq_some_iff] at h
  obtain ⟨p,hp,ps,hps,h⟩:=h
  simp only [Option.pure_def,Option.some.injEq] at h
  subst h
  cases i with
  | zero =>
   simp only [List.getElem?_cons_zero,Option.some.injEq] at hf
   subst hf
   obtain ⟨inf,hi,rfl⟩:=Option.map_eq_some_iff.1 hp
   unfold szOf at hn
   rw [hi] at hn
   simp only [Option.map_some,Option.some.injEq] at hn
   simp [hn]
  | succ i =>
   simp only [List.getElem?_cons_succ] at hf ⊢
   exact mapM_get fs ps hps i f n hf hn
theorem zero_leaf {P:Program} {t:TypeId} {zero:List L} {E:Env} {w:World} (h:zeroOf (fun _ _ n=>.lst .nl n [] []) P t = some zero):∃ i z,P.info? t = some i ∧ i.zero = some z ∧ All2 (LeafV E w) zero z.cells.toList:=by
 obtain ⟨i,z,hi,hz,hc⟩:=zeroOf_spec h
 exact ⟨i,z,hi,hz,cZero_all (lst:=fun _ _ n=>.lst .nl n [] []) (fun _ _ n=>nlL_leaf 0 n) _ _ _ _ hc⟩
theorem sound_bd {P:Program} {o:Oper} {t:TypeId} {fs:Array Field} {places:List (Nat × Nat)} {parts:Array (Nat × Operand)} {aps:List (Nat × Nat × AO)} {zero:List L} (ho:o.op = .build t parts) (hu:P.underlying t = some (.struct fs)) (hzo:zeroOf (fun _ _ n=>.lst .nl n [] []) P t = some zero)
  (hps:cFields P (fun i=>(fs[i]?).map fun f=>(f.type,f.offset)) parts.toList = some aps) (hpl:fs.toList.mapM (fun f=>(P.info? f.type).map fun i=>(f.offset,i.size)) = some places):SoundP X P o (.bd zero aps):=by
 intro E0 E w0 w n σ a K hx hr hd hw
 simp only [wop] at hw
 obtain ⟨i,z,hi,hz,hall⟩:=zero_leaf (E:=E) (w:=w) hzo
 obtain ⟨cells',cs',q1,q2,hK⟩:=fill_leaf hr (pl:=(places.toArray[·]?)) (fun j t off n hp hn=>by
  obtain ⟨f,hf,he⟩:=Option.map_eq_some_iff.1 hp
  simp only [Prod.mk.injEq] at he
  obtain ⟨rfl,rfl⟩:=he
  simpa using mapM_get fs.toList places hpl j f n (by simpa using hf) hn) parts.toList aps zero z.cells hps hall hw
 have hf:(parts.map fun p=>(p.1,a.eval p.2)).toList = parts.toList.map fun p=>(p.1,a.eval p.2):=by simp
 refine putP hK (v:=.agg cells') (fun w1 hU=>?_) ⟨cells'.toList,by simp,q2⟩
 have hb:P.built t (parts.map fun p=>(p.1,a.eval p.2)).toList = some cells':=by
  unfold Program.built
  simp only [hi,hu,hz,hpl,hf]
  exact q1
 simp only [execOp,ho,Sem.run_bind]
 rw [run_build (P:=P) w1 t (parts.map fun p=>(p.1,a.eval p.2)) cells' hb]
 rfl
theorem sound_bda {P:Program} {o:Oper} {t e:TypeId} {len n0:Nat} {parts:Array (Nat × Operand)} {aps:List (Nat × Nat × AO)} {zero:List L} (ho:o.op = .build t parts) (hu:P.underlying t = some (.array len e)) (hn:szOf P e = some n0) (hzo:zeroOf (fun _ _ n=>.lst .nl n [] []) P t = some zero)
  (hps:cFields P (fun i=>some (e,i * n0)) parts.toList = some aps):SoundP X P o (.bd zero aps):=by
 intro E0 E w0 w n σ a K hx hr hd hw
 simp only [wop] at hw
 obtain ⟨i,z,hi,hz,hall⟩:=zero_leaf (E:=E) (w:=w) hzo
 obtain ⟨ie,hie,hin⟩:=Option.map_eq_some_iff.1 hn
 obtain ⟨cells',cs',q1,q2,hK⟩:=fill_leaf hr (pl:=fun i=>some (i * n0,n0)) (fun j t off n hp hn'=>by
  simp only [Option.some.injEq,Prod.mk.injEq] at hp
  obtain ⟨rfl,rfl⟩:=hp
  rw [hn] at hn'
  rw [Option.some.inj hn']) parts.toList aps zero z.cells hps hall hw
 have hf:(parts.map fun p=>(p.1,a.eval p.2)).toList = parts.toList.map fun p=>(p.1,a.eval p.2):=by simp
 refine putP hK (v:=.agg cells') (fun w1 hU=>?_) ⟨cells'.toList,by simp,q2⟩
 have hb:P.built t (parts.map fun p=>(p.1,a.eval p.2)).toList = some cells':=by
  unfold Program.built
  simp only [hi,hu,hz,hie,hin,hf]
  exact q1
 simp only [execOp,ho,Sem.run_bind]
 rw [run_build (P:=P) w1 t (parts.map fun p=>(p.1,a.eval p.2)) cells' hb]
 rfl
end Go.Proofs.YthcpaohmajjopaaGreatDoor.AM
