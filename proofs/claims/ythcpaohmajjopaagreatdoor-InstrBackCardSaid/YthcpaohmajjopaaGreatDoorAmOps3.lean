/- The abstract machine, part Ops3. -/
import Derived.Test.YthcpaohmajjopaaGreatDoorAmOps2
set_option linter.unusedVariables false
set_option linter.unusedSimpArgs false
namespace Go.Proofs.YthcpaohmajjopaaGreatDoor.AM
open Go
variable {X:Cx}
theorem del_mapSnd {α β:Type} (f:α → β):∀ (l:List (Nat × α)) (k:Nat),del (mapSnd f l) k = mapSnd f (del l k)
 | [],_=>rfl
 |(a,v) :: r,k=>by
  simp only [mapSnd,del]
  split
  ·exact del_mapSnd f r k
  ·simp only [mapSnd];rw [del_mapSnd f r k]
theorem Unch.alloc (w:World) (o:Obj):Unch (fun _=>False) w (w.alloc o) :=
 ⟨rfl,rfl,rfl,by rw [show (w.alloc o).heap = w.heap.push o from rfl,Array.size_push];omega,fun b hb _=>heap_alloc_old w o hb⟩
theorem heap_alloc (w:World) (o:Obj):(w.alloc o).heap[w.heap.size]? = some o:=heap_alloc_new w o
theorem size_alloc (w:World) (o:Obj):(w.alloc o).heap.size = w.heap.size + 1:=by rw [show (w.alloc o).heap = w.heap.push o from rfl,Array.size_push]
theorem leaf_one {E:Env} {w:World} {x:L} {v:Value} (hx:cellL x = true) (h:LeafV E w x v):v.cells = #[v] ∧ v.oneCell' = true:=by
 cases x with
 | undef=>simp [cellL] at hx
 | no=>simp [cellL] at hx
 | lst t sz xs sp=>obtain ⟨A,cap,rfl,_⟩:=h;exact ⟨rfl,rfl⟩
 | ptr c o=>obtain ⟨b,_,rfl⟩:=h;exact ⟨rfl,rfl⟩
 | tptr c o T=>obtain ⟨b,u,_,rfl,_⟩:=h;exact ⟨rfl,rfl⟩
 | sl c o z l cp=>obtain ⟨b,_,rfl,_⟩:=h;exact ⟨rfl,rfl⟩
 | it p s i=>obtain ⟨g,_,_,rfl⟩:=h;exact ⟨rfl,rfl⟩
 | gl g o=>cases h;exact ⟨rfl,rfl⟩
 | fn f a b=>obtain ⟨us,vs,rfl,_,_⟩:=h;exact ⟨rfl,rfl⟩
 | ep t sz xs sp i o=>obtain ⟨a,cap,_,_,rfl⟩:=h;exact ⟨rfl,rfl⟩
 | bool b=>cases h;exact ⟨rfl,rfl⟩
 | int k n=>cases h;exact ⟨rfl,rfl⟩
 | str s=>cases h;exact ⟨rfl,rfl⟩
 | nilp=>cases h;exact ⟨rfl,rfl⟩
 | iface t v=>cases h;exact ⟨rfl,rfl⟩
 | nili=>cases h;exact ⟨rfl,rfl⟩
 | nilf=>cases h;exact ⟨rfl,rfl⟩
 | ln _=>cases h;exact ⟨rfl,rfl⟩
 | rp _ _=>cases h;exact ⟨rfl,rfl⟩
theorem RelE.newCell {E0 E:Env} {w0 w:World} {n:Nat} {σ:St} {a:Act} (hr:RelE E0 w0 n E σ a w) {c:Nat} (hc:c < n) (hm:σ.m ≤ c) {cs:List L} {vs:Array Value} (t:TypeId) (hv:All2 (LeafV (E.cell c w.heap.size) (w.alloc (.cells vs t))) cs vs.toList) :
  RelE E0 w0 n (E.cell c w.heap.size) { m:=σ.m,tm:=(c,.lf (.ptr c 0)) :: mapSnd (mapL (killC c)) σ.tm,ce:=(c,cs) :: del (mapSnd (List.map (killC c)) σ.ce) c } (a.put (some c) (.pointer (some ⟨w.heap.size,0,none⟩))) (w.alloc (.cells vs t)):=by
 have S:=cell_step (m:=σ.m) hr.ws.inj (Unch.alloc w (.cells vs t)) hm (Nat.le_refl _) (b:=w.heap.size) (by rw [size_alloc];omega)
 have h0:RelE E0 w0 n E { σ with ce:=del σ.ce c } a w:=hr.weak rfl (fun _ _ h=>h) (fun c' cs' h=>by
  by_cases e:c' = c
  ·subst e;rw [get_del_same] at h;cases h
  ·rwa [get_del_ne _ e] at h)
 have h1:=h0.step (f:=killC c) S.1 (killC_step S.2) (fun c' b u T h1 h2 h3=>by
  have hne:c' ≠ c:=by
   rintro rfl
   rw [get_del_same] at h3;cases h3
  exact ⟨S.2.ce c' b hne h1,by rw [(Unch.alloc w _).block b (hr.ws.inj.kr c' b h1).2 (fun h=>h)];exact h2⟩)
 have h2:RelE E0 w0 n (E.cell c w.heap.size) (({ σ with ce:=del σ.ce c }:St).mapAll (killC c)) a (w.alloc (.cells vs t)):=h1
 have h3:=h2.put (d:=some c) (pv:=.lf (.ptr c 0)) (v:=.pointer (some ⟨w.heap.size,0,none⟩)) (fun t e=>by cases e;exact hc) ⟨_,by simp [Env.cell,upd],rfl⟩
 refine ⟨h3.size,h3.dfr,h3.tm,fun c' cs' h=>?_,h3.ws⟩
 simp only [Go.Proofs.YthcpaohmajjopaaGreatDoor.AM.get] at h
 split at h
 ·rename_i e
  subst e
  obtain rfl:=Option.some.inj h
  exact ⟨w.heap.size,vs,t,by simp [Env.cell,upd],heap_alloc _ _,hv⟩
 ·rw [del_mapSnd] at h
  exact h3.ce c' cs' h
theorem sound_al {P:Program} {o:Oper} {t:TypeId} {zero:List L} (ho:o.op = .alloc t) {i:TypeInfo} {z:Value} (hi:P.info? t = some i) (hz:i.zero = some z) (hl:∀ (E:Env) (w:World),All2 (LeafV E w) zero z.cells.toList):Sound X P o (.al zero):=by
 intro E0 E w0 w n σ a K Q hx hr hd hw
 simp only [wop] at hw
 split at hw
 ·rename_i c hdst
  obtain ⟨hm,hw⟩:=hw
  refine wp_value (v:=.pointer (some ⟨w.heap.size,0,none⟩)) (w':=w.alloc (.cells z.cells t)) ?_ ⟨_,hw,E.cell c w.heap.size,?_⟩
  ·simp [execOp,ho,Instr.alloc,zeroValue,typeInfo,hi,hz,newVar,newRow]
  ·rw [hdst]
   exact hr.newCell (hd _ hdst) hm t (hl _ _)
 ·exact hw.elim
theorem killC_all {E:Env} {w:World} {c:Nat} {cs:List L} {vs:List Value} (h:All2 (LeafV E w) cs vs) {E':Env} {w':World} (S:Step E w E' w' (fun _=>False) (fun c'=>c' = c)):All2 (LeafV E' w') (cs.map (killC c)) vs:=h.map_left _ (killC_step S)
theorem sound_bx {P:Program} {o:Oper} {t:TypeId} {x:Operand} {ax:AO} (ho:o.op = .box t x) (h1:cOpd P t x = some ax):Sound X P o (.bx ax):=by
 intro E0 E w0 w n σ a K Q hx hr hd hw
 have hx:=cOpd_ev h1 hr
 simp only [wop] at hw
 generalize σ.ev ax = px at hx hw
 have run:(execOp a.eval o).run P w = .ok (.value (.pointer (some ⟨w.heap.size,0,none⟩))) (w.alloc (.cells (a.eval x).cells t)):=by
  simp [execOp,ho,Instr.box,newVar,newRow]
 split at hw
 ·rename_i c v hdst
  obtain ⟨hm,hv,hw⟩:=hw
  have S:=cell_step (m:=σ.m) hr.ws.inj (Unch.alloc w (.cells (a.eval x).cells t)) hm (Nat.le_refl _) (b:=w.heap.size) (by rw [size_alloc];omega)
  refine wp_value run ⟨_,hw,E.cell c w.heap.size,?_⟩
  rw [hdst]
  refine hr.newCell (hd _ hdst) hm t ?_
  have e1:=leaf_one hv hx
  have e2:(a.eval x).cells.toList = [a.eval x]:=by rw [e1.1]
  rw [e2]
  exact .cons (killC_step S.2 _ _ hx) .nil
 ·rename_i c vs hdst
  obtain ⟨hm,hw⟩:=hw
  have S:=cell_step (m:=σ.m) hr.ws.inj (Unch.alloc w (.cells (a.eval x).cells t)) hm (Nat.le_refl _) (b:=w.heap.size) (by rw [size_alloc];omega)
  refine wp_value run ⟨_,hw,E.cell c w.heap.size,?_⟩
  rw [hdst]
  obtain ⟨us,ex,hall⟩:=V_ag hx
  refine hr.newCell (hd _ hdst) hm t ?_
  have:(a.eval x).cells.toList = us:=by rw [ex];rfl
  rw [this]
  exact killC_all hall S.2
 ·exact hw.elim
theorem add_add' (a:Addr) (i j:Nat):(a.add i).add j = a.add (i + j):=by
 unfold Addr.add
 by_cases h:i = 0<;>by_cases h':j = 0<;>simp [h,h',Nat.add_assoc]
theorem sound_fa {P:Program} {o:Oper} {t:TypeId} {f:Nat} {x:Operand} {ax:AO} {fs:Array Field} {fd:Field} {n0:Nat} (ho:o.op = .fieldAddr t x f) (h1:cOpd P 0 x = some ax) (hu:P.underlying t = some (.struct fs)) (hf:fs[f]? = some fd) (hn:szOf P fd.type = some n0) (hn0:n0 ≠ 0):SoundU X P o (.fa ax fd.offset):=by
 intro E0 E w0 w n σ a K hx hr hd hw
 have hx:=cOpd_ev h1 hr
 simp only [wop] at hw
 generalize σ.ev ax = px at hx hw
 have run:∀ w1 ad,a.eval x = .pointer (some ad) → (execOp a.eval o).run P w1 = .ok (.value (.pointer (some (ad.add fd.offset)))) w1:=by
  intro w1 ad ex
  simp [execOp,ho,ex,Instr.fieldAt,run_underlying hu,hf,Instr.sureAddr,fieldPlace,run_sizeOf' hn,hn0]
 split at hw
 ·rename_i c off T
  obtain ⟨b,u,hb,ex,hT⟩:=(hx:LeafV E w (.tptr c off T) _)
  exact putU hw (fun w1=>run _ _ ex) ⟨b,u,hb,by rw [add_cell],hT⟩
 ·rename_i g off
  have ex:=V_gl hx
  refine putU hw (fun w1=>run _ _ ex) ?_
  rw [add_cell];exact D.gl g _
 ·rename_i c off
  obtain ⟨b,hb,ex⟩:=V_ptr hx
  exact putU hw (fun w1=>run _ _ ex) ⟨b,hb,by rw [add_cell]⟩
 ·rename_i tg sz xs sp i off
  obtain ⟨ad,cap,h2,h3,ex⟩:=V_ep hx
  exact putU hw (fun w1=>run _ _ ex) ⟨ad,cap,h2,h3,by rw [add_add',Nat.add_assoc]⟩
 ·rename_i cs off
  obtain ⟨b,us,ex,hb,hlt,hl,hu',hd'⟩:=V_rp hx
  refine putU hw (fun w1=>run _ _ ex) ?_
  rw [add_cell];exact D.rp cs _ b us hb hlt hl hu' hd'
 ·exact hw.elim
theorem sound_iaU {P:Program} {o:Oper} {t e:TypeId} {x i:Operand} {ax ai:AO} {n0:Nat} (ho:o.op = .indexAddr t x i) (h1:cOpd P t x = some ax) (h2:cOpd P 0 i = some ai) (hu:P.underlying t = some (.slice e)) (hn:szOf P e = some n0):SoundU X P o (.ia ax ai n0):=by
 intro E0 E w0 w n σ a K hx hr hd hw
 have hx:=cOpd_ev h1 hr
 have hi:=cOpd_ev h2 hr
 simp only [wop] at hw
 generalize σ.ev ax = px at hx hw
 generalize σ.ev ai = pi at hi hw
 split at hw
 ·rename_i tg sz xs sp k i
  obtain ⟨rfl,⟨hb0,hb1⟩,hK⟩:=hw
  have ei:=V_int hi
  obtain ⟨A,cap,ex,hh⟩:=V_lst hx
  obtain ⟨_,ad,hA,_⟩:=hh.read (i:=i.toNat) (x:=xs[i.toNat]) (by rw [List.getElem?_append_left hb1,List.getElem?_eq_getElem hb1])
  subst hA
  refine putU hK (v:=.pointer (some (ad.add (i.toNat * sz)))) (fun w1=>?_) ⟨ad,cap,hh,hb1,by rw [Nat.add_zero]⟩
  simp [execOp,ho,ex,ei,Instr.indexAt,run_underlying hu,asIntOf,run_sizeOf' hn,hb0,show i < xs.length by omega]
 ·rename_i c off sz l cp k i
  obtain ⟨rfl,⟨hb0,hb1⟩,hK⟩:=hw
  have ei:=V_int hi
  obtain ⟨b,hb,ex,hle⟩:=(hx:LeafV E w (.sl c off sz l cp) _)
  refine putU hK (v:=.pointer (some ((⟨b,off,none⟩:Addr).add (i.toNat * sz)))) (fun w1=>?_) ⟨b,hb,by rw [add_cell]⟩
  simp [execOp,ho,ex,ei,Instr.indexAt,run_underlying hu,asIntOf,run_sizeOf' hn,hb0,show i < l by omega]
 ·exact hw.elim
theorem sound_iaa {P:Program} {o:Oper} {t e:TypeId} {x i:Operand} {ax ai:AO} {len n0:Nat} (ho:o.op = .indexAddr t x i) (h1:cOpd P t x = some ax) (h2:cOpd P 0 i = some ai) (hu:P.underlying t = some (.array len e)) (hn:szOf P e = some n0):SoundU X P o (.iaa ax ai len n0):=by
 intro E0 E w0 w n σ a K hx hr hd hw
 have hx:=cOpd_ev h1 hr
 have hi:=cOpd_ev h2 hr
 simp only [wop] at hw
 generalize σ.ev ax = px at hx hw
 generalize σ.ev ai = pi at hi hw
 have run:∀ w1 ad k (i':Int),a.eval x = .pointer (some ad) → a.eval i = .int k i' → 0 ≤ i' → i' < len → (execOp a.eval o).run P w1 = .ok (.value (.pointer (some (ad.add (i'.toNat * n0))))) w1:=by
  intro w1 ad k i' ex ei hb0 hb1
  simp [execOp,ho,ex,ei,Instr.indexAt,run_underlying hu,asIntOf,Instr.sureAddr,run_sizeOf' hn,hb0,hb1]
 split at hw
 ·rename_i c off k i
  obtain ⟨⟨hb0,hb1⟩,hK⟩:=hw
  obtain ⟨b,hb,ex⟩:=V_ptr hx
  exact putU hK (fun w1=>run _ _ _ _ ex (V_int hi) hb0 hb1) ⟨b,hb,by rw [add_cell]⟩
 ·rename_i tg sz xs sp j off k i
  obtain ⟨⟨hb0,hb1⟩,hK⟩:=hw
  obtain ⟨ad,cap,h2,h3,ex⟩:=V_ep hx
  exact putU hK (fun w1=>run _ _ _ _ ex (V_int hi) hb0 hb1) ⟨ad,cap,h2,h3,by rw [add_add',Nat.add_assoc]⟩
 ·rename_i g off k i
  obtain ⟨⟨hb0,hb1⟩,hK⟩:=hw
  have ex:=V_gl hx
  refine putU hK (fun w1=>run _ _ _ _ ex (V_int hi) hb0 hb1) ?_
  rw [add_cell];exact D.gl g _
 ·rename_i cs off k i
  obtain ⟨⟨hb0,hb1⟩,hK⟩:=hw
  obtain ⟨b,us,ex,hb,hlt,hl,hu',hd'⟩:=V_rp hx
  refine putU hK (fun w1=>run _ _ _ _ ex (V_int hi) hb0 hb1) ?_
  rw [add_cell];exact D.rp cs _ b us hb hlt hl hu' hd'
 ·exact hw.elim
theorem cell_lt {w:World} {a:Addr} {v:Value} (h:w.cell? a = some v):a.block < w.heap.size:=by
 unfold World.cell? at h
 split at h
 ·rename_i hh;exact lt_of_heap hh
 ·cases h
theorem Unch.cell {w w1:World} (hU:Unch (fun _=>False) w w1) {a:Addr} {v:Value} (h:w.cell? a = some v):w1.cell? a = some v:=by
 rw [← h]
 exact World.cell?_of_block (hU.block _ (cell_lt h) (fun h=>h))
theorem loadCells_all {P:Program} {E:Env} {w:World} {cs:List L} {a:Addr} {S:World → Prop} (hS:∀ w1,S w1 → ∀ j,j < cs.length → ∀ u,w.cell? (a.add j) = some u → w1.cell? (a.add j) = some u) (h:∀ (j:Nat) (c:L),cs[j]? = some c → ∃ u,w.cell? (a.add j) = some u ∧ LeafV E w c u) :
  ∃ vs:List Value,(∀ w1,S w1 → (loadCells a cs.length).run P w1 = .ok vs.toArray w1) ∧ All2 (LeafV E w) cs vs:=by
 have key:∀ (cs:List L) (k:Nat),(∀ (j:Nat) (c:L),cs[j]? = some c → ∃ u,w.cell? (a.add (k + j)) = some u ∧ LeafV E w c u) → ∃ vs:List Value,(∀ (j:Nat) (v:Value),vs[j]? = some v → w.cell? (a.add (k + j)) = some v) ∧ All2 (LeafV E w) cs vs:=by
  intro cs
  induction cs with
  | nil=>intro k _;exact ⟨[],fun j v hv=>by simp at hv,.nil⟩
  | cons c cs ih =>
   intro k h
   obtain ⟨u,hu,hl⟩:=h 0 c rfl
   obtain ⟨vs,h1,h2⟩:=ih (k + 1) (fun j c' hc=>by
    have:=h (j + 1) c' (by simpa using hc)
    rwa [Nat.add_assoc,Nat.add_comm 1 j])
   refine ⟨u :: vs,fun j v hv=>?_,.cons hl h2⟩
   cases j with
   | zero=>simp at hv;subst hv;exact hu
   | succ j =>
    have:=h1 j v (by simpa using hv)
    rwa [Nat.add_assoc,Nat.add_comm 1 j] at this
 obtain ⟨vs,h1,h2⟩:=key cs 0 (fun j c hc=>by simpa using h j c hc)
 refine ⟨vs,fun w1 hU=>?_,h2⟩
 rw [h2.length]
 exact run_loadCells_list (P:=P) w1 a vs (fun j v hv=>hS w1 hU j (by rw [h2.length];exact (List.getElem?_eq_some_iff.1 hv).1) v (by simpa using h1 j v hv))
theorem load_soundS {P:Program} {S:World → Prop} {t:TypeId} {d:TypeDesc} {n off:Nat} (hu:P.underlying t = some d) (hs:szOf P t = some n) {E:Env} {w:World} {cs:List L} {a:Addr} (hS:∀ w1,S w1 → ∀ j,off ≤ j → j < off + (if isAggT P t then n else 1) → ∀ u,w.cell? (a.add j) = some u → w1.cell? (a.add j) = some u) (h:∀ (j:Nat) (c:L),cs[j]? = some c → ∃ u,w.cell? (a.add j) = some u ∧ LeafV E w c u)
  {K:PV → Prop} (hK:wpart cs off n (isAggT P t) K):∃ pv v,(∀ w1,S w1 → (Instr.loadAt t (.pointer (some (a.add off)))).run P w1 = .ok v w1) ∧ V E w pv v ∧ K pv:=by
 unfold wpart at hK
 unfold Instr.loadAt Instr.sureAddr loadVar
 simp only [Sem.run_bind,Sem.run_pure,Result.andThen_ok,run_isAgg hu]
 split at hK
 ·rename_i hagg
  obtain ⟨hle,hK⟩:=hK
  have hl:((cs.drop off).take n).length = n:=by simp;omega
  obtain ⟨vs,h1,h2⟩:=loadCells_all (P:=P) (E:=E) (w:=w) (cs:=(cs.drop off).take n) (a:=a.add off) (S:=S) (fun w1 h1 j hjl u hj=>by rw [add_add'] at hj ⊢;exact hS w1 h1 _ (by omega) (by rw [hagg];simp only [if_true];omega) u hj) (fun j c hc=>by
   rw [add_add']
   refine h (off + j) c ?_
   rw [List.getElem?_take] at hc
   split at hc
   ·rwa [List.getElem?_drop] at hc
   ·cases hc)
  rw [hl] at h1
  refine ⟨.ag ((cs.drop off).take n),.agg vs.toArray,fun w1 hU=>?_,⟨vs,rfl,h2⟩,hK⟩
  rw [if_pos hagg]
  simp only [Sem.run_bind,run_sizeOf' hs,Result.andThen_ok,h1 w1 hU,Sem.run_pure]
 ·rename_i hagg
  obtain ⟨c,hc,hK⟩:=hK
  obtain ⟨u,hu',hl⟩:=h off c hc
  refine ⟨.lf c,u,fun w1 hU=>?_,hl,hK⟩
  rw [if_neg hagg]
  simp [hS w1 hU off (Nat.le_refl _) (by rw [if_neg hagg];omega) u hu']
theorem load_sound {P:Program} {t:TypeId} {d:TypeDesc} {n off:Nat} (hu:P.underlying t = some d) (hs:szOf P t = some n) {E:Env} {w:World} {cs:List L} {a:Addr} (h:∀ (j:Nat) (c:L),cs[j]? = some c → ∃ u,w.cell? (a.add j) = some u ∧ LeafV E w c u)
  {K:PV → Prop} (hK:wpart cs off n (isAggT P t) K):∃ pv v,(∀ w1,Unch (fun _=>False) w w1 → (Instr.loadAt t (.pointer (some (a.add off)))).run P w1 = .ok v w1) ∧ V E w pv v ∧ K pv :=
 load_soundS hu hs (S:=Unch (fun _=>False) w) (fun _ hU _ _ _ _ hu=>hU.cell hu) h hK
theorem sound_ldL {P:Program} {o:Oper} {t:TypeId} {d:TypeDesc} {x:Operand} {ax:AO} {n0:Nat} (ho:o.op = .load t x) (h1:cOpd P 0 x = some ax) (hn:szOf P t = some n0) (hu:P.underlying t = some d):SoundL X P o (.ld ax n0 (isAggT P t)):=by
 intro E0 E w0 w n σ a K hX hr hd hw hl
 have hx:=cOpd_ev h1 hr
 simp only [wop] at hw
 simp only [ldOK] at hl
 simp only [locOf]
 generalize σ.ev ax = px at hx hw hl ⊢
 unfold ptrV at hl
 split at hl
 case h_2=>cases hl
 rename_i c off
 obtain ⟨cs,hc,hw⟩:=hw
 obtain ⟨b,hb,ex⟩:=V_ptr hx
 obtain ⟨b',u,T,hb',hh,hall⟩:=hr.ce c cs hc
 obtain rfl:b = b':=by rw [hb] at hb';exact Option.some.inj hb'
 obtain ⟨pv,v,hrun,hv,hK⟩:=load_soundS (a:=⟨b,0,none⟩) (off:=off) (S:=fun w'=>∀ j,off ≤ j → j < off + (if isAggT P t then n0 else 1) → w'.cell? ⟨b,j,none⟩ = w.cell? ⟨b,j,none⟩) hu hn (fun w1 hS j h1 h2 u hj=>by
  rw [← hj,add_cell,Nat.zero_add]
  exact hS j h1 h2) (fun j c hj=>by
  obtain ⟨y,hy,hl⟩:=hall.get j c hj
  exact ⟨y,by rw [add_cell,cell_of_cells hh];simpa using hy,hl⟩) hw
 rw [add_cell,Nat.zero_add] at hrun
 exact ⟨pv,v,fun w1 hU=>by simp [execOp,ho,ex,hrun w1 (fun j h1 h2=>hU (c,off,if isAggT P t then n0 else 1) (by simp [ptrLoc]) b hb j h1 h2)],hv,hK⟩
theorem sound_ld {P:Program} {o:Oper} {t:TypeId} {d:TypeDesc} {x:Operand} {ax:AO} {n0:Nat} (ho:o.op = .load t x) (h1:cOpd P 0 x = some ax) (hn:szOf P t = some n0) (hu:P.underlying t = some d):SoundP X P o (.ld ax n0 (isAggT P t)):=by
 intro E0 E w0 w n σ a K hX hr hd hw
 have hx:=cOpd_ev h1 hr
 simp only [wop] at hw
 generalize σ.ev ax = px at hx hw
 split at hw
 ·rename_i c off T
  obtain ⟨cs,hc,hw⟩:=hw
  obtain ⟨b,u0,hb,ex,_⟩:=V_tptr hx
  obtain ⟨b',u,T,hb',hh,hall⟩:=hr.ce c cs hc
  obtain rfl:b = b':=by rw [hb] at hb';exact Option.some.inj hb'
  obtain ⟨pv,v,hrun,hv,hK⟩:=load_sound (a:=⟨b,0,none⟩) (off:=off) hu hn (fun j c hj=>by
   obtain ⟨y,hy,hl⟩:=hall.get j c hj
   exact ⟨y,by rw [add_cell,cell_of_cells hh];simpa using hy,hl⟩) hw
  rw [add_cell,Nat.zero_add] at hrun
  exact putP hK (fun w1 hU=>by simp [execOp,ho,ex,hrun w1 hU]) hv
 ·rename_i g off
  obtain ⟨cs,hc,hw⟩:=hw
  have ex:=V_gl hx
  obtain ⟨_,_,_,hall⟩:=hX g cs hc
  obtain ⟨pv,v,hrun,hv,hK⟩:=load_sound (a:=⟨g,0,none⟩) (off:=off) hu hn (fun j c hj=>by
   obtain ⟨y,hy,hl⟩:=hall j c hj
   exact ⟨y,by rw [add_cell];simpa using hy,hl.leaf⟩) hw
  rw [add_cell,Nat.zero_add] at hrun
  exact putP hK (fun w1 hU=>by simp [execOp,ho,ex,hrun w1 hU]) hv
 ·rename_i c off
  obtain ⟨cs,hc,hw⟩:=hw
  obtain ⟨b,hb,ex⟩:=V_ptr hx
  obtain ⟨b',u,T,hb',hh,hall⟩:=hr.ce c cs hc
  obtain rfl:b = b':=by rw [hb] at hb';exact Option.some.inj hb'
  obtain ⟨pv,v,hrun,hv,hK⟩:=load_sound (a:=⟨b,0,none⟩) (off:=off) hu hn (fun j c hj=>by
   obtain ⟨y,hy,hl⟩:=hall.get j c hj
   exact ⟨y,by rw [add_cell,cell_of_cells hh];simpa using hy,hl⟩) hw
  rw [add_cell,Nat.zero_add] at hrun
  exact putP hK (fun w1 hU=>by simp [execOp,ho,ex,hrun w1 hU]) hv
 ·rename_i tg sz xs sp i off
  obtain ⟨hi,hw⟩:=hw
  obtain ⟨ad,cap,hh,_,ex⟩:=V_ep hx
  obtain ⟨_,ad',hA,hread⟩:=hh.read (i:=i) (x:=xs[i]) (by rw [List.getElem?_append_left hi,List.getElem?_eq_getElem hi])
  obtain rfl:=Option.some.inj hA
  obtain ⟨pv,v,hrun,hv,hK⟩:=load_sound (a:=ad.add (i * sz)) (off:=off) hu hn (fun j c hj=>by
   obtain ⟨y,hy,hl⟩:=hread j c hj
   exact ⟨y,by rw [add_add'];exact hy,hl.leaf⟩) hw
  rw [add_add'] at hrun
  exact putP hK (fun w1 hU=>by simp [execOp,ho,ex,hrun w1 hU]) hv
 ·rename_i cs off
  obtain ⟨b,us,ex,_,_,hl,hu',hd'⟩:=V_rp hx
  obtain ⟨pv,v,hrun,hv,hK⟩:=load_sound (a:=⟨b,0,none⟩) (off:=off) hu hn (fun j c hj=>by
   have hj':j < us.length:=by rw [← hl];exact (List.getElem?_eq_some_iff.1 hj).1
   have e:=List.getElem?_eq_getElem hj'
   exact ⟨us[j],by rw [add_cell,Nat.zero_add];exact hu' j _ e,(hd' j c _ hj e).leaf⟩) hw
  rw [add_cell,Nat.zero_add] at hrun
  exact putP hK (fun w1 hU=>by simp [execOp,ho,ex,hrun w1 hU]) hv
 ·exact hw.elim
theorem sound_nc {P:Program} {o:Oper} {x:Operand} {ax:AO} (ho:o.op = .nilCheck x) (h1:cOpd P o.type x = some ax):SoundU X P o (.nc ax):=by
 intro E0 E w0 w n σ a K hx hr hd hw
 have hx:=cOpd_ev h1 hr
 simp only [wop] at hw
 generalize σ.ev ax = px at hx hw
 split at hw
 ·obtain ⟨b,u,hb,ex,hT⟩:=V_tptr hx
  exact putU hw (fun w1=>by simp [execOp,ho,ex]) ⟨b,u,hb,rfl,hT⟩
 ·have ex:=V_gl hx
  exact putU hw (fun w1=>by simp [execOp,ho,ex]) (D.gl _ _)
 ·obtain ⟨us,vs,ex,h2,h3⟩:=V_fn hx
  exact putU hw (fun w1=>by simp [execOp,ho,ex]) ⟨us,vs,rfl,h2,h3⟩
 ·obtain ⟨b,hb,ex⟩:=V_ptr hx
  exact putU hw (fun w1=>by simp [execOp,ho,ex]) ⟨b,hb,rfl⟩
 ·obtain ⟨ad,cap,h2,h3,ex⟩:=V_ep hx
  exact putU hw (fun w1=>by simp [execOp,ho,ex]) ⟨ad,cap,h2,h3,rfl⟩
 ·obtain ⟨b,us,ex,hb,hlt,hl,hu',hd'⟩:=V_rp hx
  exact putU hw (fun w1=>by simp [execOp,ho,ex]) (D.rp _ _ b us hb hlt hl hu' hd')
 ·exact hw.elim
theorem sound_len {P:Program} {o:Oper} {c:Call} {t e:TypeId} {x:Operand} {ax:AO} (ho:o.op = .call c) (hc:c.callee = .builtin .len) (ha:c.args.toList = [x]) (ht:c.argTypes.toList = [t]) (h1:cOpd P t x = some ax) (hu:P.underlying t = some (.slice e)):SoundP X P o (.len ax):=by
 intro E0 E w0 w n σ a K hx hr hd hw
 have hx:=cOpd_ev h1 hr
 have ea:c.args = #[x]:=by cases hh:c.args;simp_all
 have et:c.argTypes = #[t]:=by cases hh:c.argTypes;simp_all
 simp only [wop] at hw
 generalize σ.ev ax = px at hx hw
 split at hw
 ·rename_i tg sz xs sp
  obtain ⟨A,cap,ex,hh⟩:=V_lst hx
  have hle:=hh.le
  have hK:=hw (by have:maxLen = 9223372036854775807:=(by unfold maxLen;rfl);omega)
  exact putP hK (fun w1 hU=>by simp [execOp,ho,resolve,hc,ea,et,invoke,builtin,Builtin.len_,run_underlying hu,ex,goInt]) (.mk_int ..)
 ·rename_i cc off sz l cp
  obtain ⟨b,hb,ex,hle⟩:=(hx:LeafV E w (.sl cc off sz l cp) _)
  exact putP hw (fun w1 hU=>by simp [execOp,ho,resolve,hc,ea,et,invoke,builtin,Builtin.len_,run_underlying hu,ex,goInt]) (.mk_int ..)
 ·rename_i l
  obtain ⟨cp,A,ex,_,_⟩:∃ cp A,a.eval x = .slice A l cp ∧ l ≤ cp ∧ cp ≤ maxLen:=by
   have h:D E.rd w (.ln l) (a.eval x):=hx
   revert h
   generalize a.eval x = v
   intro h
   cases h with
   | ln _ cp A hc hm=>exact ⟨cp,A,rfl,hc,hm⟩
  exact putP hw (fun w1 hU=>by simp [execOp,ho,resolve,hc,ea,et,invoke,builtin,Builtin.len_,run_underlying hu,ex,goInt]) (.mk_int ..)
 ·exact hw.elim
theorem sound_lns {P:Program} {o:Oper} {c:Call} {t:TypeId} {x:Operand} {ax:AO} (ho:o.op = .call c) (hc:c.callee = .builtin .len) (ha:c.args.toList = [x]) (ht:c.argTypes.toList = [t]) (h1:cOpd P t x = some ax) (hu:P.underlying t = some .string):SoundP X P o (.lns ax):=by
 intro E0 E w0 w n σ a K hx hr hd hw
 have hx:=cOpd_ev h1 hr
 have ea:c.args = #[x]:=by cases hh:c.args;simp_all
 have et:c.argTypes = #[t]:=by cases hh:c.argTypes;simp_all
 simp only [wop] at hw
 generalize σ.ev ax = px at hx hw
 split at hw
 ·rename_i s
  have ex:=V_str hx
  exact putP hw (fun w1 hU=>by simp [execOp,ho,resolve,hc,ea,et,invoke,builtin,Builtin.len_,run_underlying hu,ex,goInt]) (.mk_int ..)
 ·exact hw.elim
end Go.Proofs.YthcpaohmajjopaaGreatDoor.AM
