/- The abstract machine, part OpsB. -/
import Derived.Test.YthcpaohmajjopaaGreatDoorAmCallz
import Derived.Test.YthcpaohmajjopaaGreatDoorAmOpsA
import Derived.Lib.Builder
import Derived.Lib.UnsafeStr
set_option linter.unusedVariables false
set_option linter.unusedSimpArgs false
namespace Go.Proofs.YthcpaohmajjopaaGreatDoor.AM
open Go
variable {X:Cx}
theorem sound_bxt {P:Program} {o:Oper} {t:TypeId} {x:Operand} {ax:AO} (ho:o.op = .box t x) (h1:cOpd P t x = some ax):Sound X P o (.bxt t ax):=by
 intro E0 E w0 w n σ a K Q hx hr hd hw
 have hx:=cOpd_ev h1 hr
 simp only [wop] at hw
 generalize σ.ev ax = px at hx hw
 have run:(execOp a.eval o).run P w = .ok (.value (.pointer (some ⟨w.heap.size,0,none⟩))) (w.alloc (.cells (a.eval x).cells t)):=by
  simp [execOp,ho,Instr.box,newVar,newRow]
 split at hw
 ·rename_i c vs hdst
  obtain ⟨hm,hw⟩:=hw
  have S:=cell_step (m:=σ.m) hr.ws.inj (Unch.alloc w (.cells (a.eval x).cells t)) hm (Nat.le_refl _) (b:=w.heap.size) (by rw [size_alloc];omega)
  refine wp_value run ⟨_,hw,E.cell c w.heap.size,?_⟩
  rw [hdst]
  obtain ⟨us,ex,hall⟩:=V_ag hx
  have hus:(a.eval x).cells.toList = us:=by rw [ex];rfl
  have h:=hr.newCell (cs:=vs.map (killC c)) (vs:=(a.eval x).cells) (hd _ hdst) hm t (by rw [hus];exact killC_all hall S.2)
  refine ⟨h.size,h.dfr,fun u pv hu=>?_,h.ce,h.ws⟩
  by_cases e:c = u
  ·subst e
   simp only [get,if_true] at hu
   cases hu
   obtain ⟨h1,h2⟩:=h.tm c (.lf (.ptr c 0)) (by simp [get])
   refine ⟨h1,?_⟩
   obtain ⟨b,h3,h4⟩:=h2
   have hb:b = w.heap.size:=by simpa [Env.cell,upd,eq_comm] using h3
   subst hb
   exact ⟨_,(a.eval x).cells,h3,h4,heap_alloc _ _⟩
  ·refine h.tm u pv ?_
   simp only [get,if_neg e] at hu ⊢
   exact hu
 ·exact hw.elim
theorem sound_alt {P:Program} {o:Oper} {t:TypeId} {zero:List L} (ho:o.op = .alloc t) {i:TypeInfo} {z:Value} (hi:P.info? t = some i) (hz:i.zero = some z) (hl:∀ (E:Env) (w:World),All2 (LeafV E w) zero z.cells.toList):Sound X P o (.alt t zero):=by
 intro E0 E w0 w n σ a K Q hx hr hd hw
 simp only [wop] at hw
 split at hw
 ·rename_i c hdst
  obtain ⟨hm,hw⟩:=hw
  refine wp_value (v:=.pointer (some ⟨w.heap.size,0,none⟩)) (w':=w.alloc (.cells z.cells t)) ?_ ⟨_,hw,E.cell c w.heap.size,?_⟩
  ·simp [execOp,ho,Instr.alloc,zeroValue,typeInfo,hi,hz,newVar,newRow]
  ·rw [hdst]
   have h:=hr.newCell (hd _ hdst) hm t (hl _ _)
   refine ⟨h.size,h.dfr,fun u pv hu=>?_,h.ce,h.ws⟩
   by_cases e:c = u
   ·subst e
    simp only [get,if_true] at hu
    cases hu
    obtain ⟨h1,h2⟩:=h.tm c (.lf (.ptr c 0)) (by simp [get])
    refine ⟨h1,?_⟩
    obtain ⟨b,h3,h4⟩:=h2
    have hb:b = w.heap.size:=by simpa [Env.cell,upd,eq_comm] using h3
    subst hb
    exact ⟨_,z.cells,h3,h4,heap_alloc _ _⟩
   ·refine h.tm u pv ?_
    simp only [get,if_neg e] at hu ⊢
    exact hu
 ·exact hw.elim
theorem sound_rng {P:Program} {o:Oper} {t:TypeId} {x:Operand} {ax:AO} (ho:o.op = .range t x) (h1:cOpd P t x = some ax) (hu:P.underlying t = some .string):Sound X P o (.rng ax):=by
 intro E0 E w0 w n σ a K Q hx hr hd hw
 have hx:=cOpd_ev h1 hr
 simp only [wop] at hw
 generalize σ.ev ax = px at hx hw
 split at hw
 ·rename_i td s hdst
  have ex:=V_str hx
  refine wp_value (v:=.pointer (some ⟨w.heap.size,0,none⟩)) (w':=w.alloc (.stringIter s 0)) ?_ ⟨_,hw,E.own (plT td 0) w.heap.size,?_⟩
  ·simp [execOp,ho,ex,Instr.range,run_underlying hu]
  ·have S:=own_step (m:=σ.m) hr.ws.inj (Unch.alloc w (.stringIter s 0)) (p:=plT td 0) (Nat.le_refl _) (b:=w.heap.size) (by rw [size_alloc];omega)
   have h1:=hr.step (f:=killP (plT td 0)) S.1 (killP_step S.2) (fun c b u T h1 h2 _=>⟨h1,by rw [(Unch.alloc w _).block b (hr.ws.inj.kr c b h1).2 (fun h=>h)];exact h2⟩)
   rw [hdst]
   refine h1.put (fun t' e=>by cases e;exact hd _ hdst) ⟨w.heap.size,?_,heap_alloc _ _,rfl⟩
   simp [Env.own,upd]
 ·exact hw.elim
theorem itP_step {E E':Env} {w w':World} {p j:Nat} {s:ByteArray} {i:Nat} (S:Step E w E' w' (fun q=>q = p) (fun _=>False)) {g:Nat} (hg:E.ω p = some g) (hg':E'.ω p = some g) (h0:w.heap[g]? = some (.stringIter s i)) (h1:w'.heap[g]? = some (.stringIter s j))
  (x:L) (v:Value) (h:LeafV E w x v):LeafV E' w' (itP p j x) v:=by
 have gen:∀ y:L,leafFree (fun q=>q = p) (fun _=>False) y → LeafV E w y v → LeafV E' w' y v:=fun y hf hy=>hy.step S hf
 have hown:∀ {q e sz:Nat} {xs sp:List (List L)} {A:Option Addr} {cap:Nat},OwnV E w q e sz xs sp A cap → OwnV E' w' q e sz xs sp A cap:=by
  intro q e sz xs sp A cap h
  by_cases hq:q = p
  ·subst hq
   rcases h with h | ⟨g',cur,k1,k2,k3,_⟩
   ·exact .inl h
   ·rw [hg] at k2;cases k2;rw [h0] at k3;cases k3
  ·exact HdrV.step (t:=.own q e) S hq h
 have hvw:∀ {q sz:Nat} {xs sp:List (List L)} {A:Option Addr} {cap:Nat},VwV E w q sz xs sp A cap → VwV E' w' q sz xs sp A cap:=by
  intro q sz xs sp A cap h
  by_cases hq:q = p
  ·subst hq
   obtain ⟨k1,k2,h | ⟨g',off,cur,e,q1,q2,q3,_⟩⟩:=h
   ·exact ⟨k1,k2,.inl h⟩
   ·rw [hg] at q2;cases q2;rw [h0] at q3;cases q3
  ·exact HdrV.step (t:=.vw q) S hq h
 cases x with
 | lst t sz xs sp =>
  obtain ⟨A,cap,h1,h2⟩:=h
  refine ⟨A,cap,h1,?_⟩
  cases t with
  | own q e=>exact hown h2
  | vw q=>exact hvw h2
  | ro=>exact HdrV.step (t:=.ro) S trivial h2
  | nl=>exact HdrV.step (t:=.nl) S trivial h2
 | ep t sz xs sp i o =>
  obtain ⟨a,cap,h1,h2,h3⟩:=h
  refine ⟨a,cap,?_,h2,h3⟩
  cases t with
  | own q e=>exact hown h1
  | vw q=>exact hvw h1
  | ro=>exact HdrV.step (t:=.ro) S trivial h1
  | nl=>exact HdrV.step (t:=.nl) S trivial h1
 | it q s' i' =>
  simp only [itP]
  split
  ·rename_i hq
   obtain rfl:q = p:=by simpa using hq
   obtain ⟨g',k1,k2,k3⟩:=h
   rw [hg] at k1;cases k1
   rw [h0] at k2;cases k2
   exact ⟨g,hg',h1,k3⟩
  ·rename_i hq
   exact gen _ (show ¬ q = p by simpa using hq) h
 | ptr c o=>exact gen _ (fun h=>h) h
 | tptr c o T=>exact gen _ (fun h=>h) h
 | sl c o z l cp=>exact gen _ (fun h=>h) h
 | gl g1 o1=>exact gen _ trivial h
 | fn f a1 b1=>exact gen _ (fun _ _ _ _ h=>h) h
 | undef=>trivial
 | no=>exact h
 | bool b=>exact gen _ trivial h
 | int k n=>exact gen _ trivial h
 | str s=>exact gen _ trivial h
 | nilp=>exact gen _ trivial h
 | iface t v=>exact gen _ trivial h
 | nili=>exact gen _ trivial h
 | nilf=>exact gen _ trivial h
 | ln _=>exact gen _ trivial h
 | rp _ _=>exact gen _ trivial h
theorem sound_nxt {P:Program} {o:Oper} {x:Operand} {ax:AO} {t0:TypeId} (ho:o.op = .next x true) (h1:cOpd P t0 x = some ax):Sound X P o (.nxt ax):=by
 intro E0 E w0 w n σ a K Q hx hr hd hw
 have hx:=cOpd_ev h1 hr
 simp only [wop] at hw
 generalize σ.ev ax = px at hx hw
 split at hw
 ·rename_i p s i
  obtain ⟨g,hg,hh,ex⟩:=V_it hx
  obtain ⟨hK1,hK2⟩:=hw
  by_cases hlt:i < s.size
  ·have hK:=hK1 hlt
   let w':World:={ w with heap:=w.heap.setIfInBounds g (.stringIter s (i + (Utf8.decode s i).2)) }
   have hgl:=lt_of_heap hh
   have run:(execOp a.eval o).run P w = .ok (.value (.tuple #[.bool true,.int .i64 i,.int .i32 (Utf8.decode s i).1])) w':=by
    simp only [execOp,ho,ex,Instr.next,getObj,setObj,Sem.run_bind,Sem.run,hh,Result.andThen,hlt,if_true]
    simp [goInt,Sem.run,hh,w']
   have hsz:w'.heap.size = w.heap.size:=by simp [w']
   have W:=write_step (m:=σ.m) (w':=w') hr.ws.inj (b0:=g) (.inr ⟨p,hg⟩) rfl rfl rfl hsz (fun b hb=>by simp [w',Array.getElem?_setIfInBounds_ne (Ne.symm hb)]) (fun c u T hc _=>absurd hg (hr.ws.inj.kw c p g hc))
   have S:Step E w E w' (fun q=>q = p) (fun _=>False):=W.2.mono (fun q hq=>hr.ws.inj.ww _ _ _ hq hg)
   have hh':w'.heap[g]? = some (.stringIter s (i + (Utf8.decode s i).2)):=by simp [w',hgl]
   have h2:=hr.step (f:=itP p (i + (Utf8.decode s i).2)) W.1 (itP_step S hg hg hh hh') (fun c b u T q1 q2 _=>⟨q1,by
    have hne:b ≠ g:=fun e=>hr.ws.inj.kw c p b q1 (e ▸ hg)
    simp only [w'];rw [Array.getElem?_setIfInBounds_ne (Ne.symm hne)];exact q2⟩)
   exact wp_value run ⟨_,hK,E,h2.put hd ⟨[_,_,_],rfl,.cons (.bool _) (.cons (.int _ _) (.cons (.int _ _) .nil))⟩⟩
  ·have hK:=hK2 (by omega)
   have run:(execOp a.eval o).run P w = .ok (.value (.tuple #[.bool false])) w:=by
    simp [execOp,ho,ex,Instr.next,getObj,Sem.run,hh,hlt]
   exact wp_value run ⟨_,hK,E,hr.put hd ⟨[_],rfl,.cons (.bool _) .nil⟩⟩
 ·exact hw.elim
theorem sound_peq {P:Program} {o:Oper} {neg:Bool} {t te:TypeId} {j:TypeInfo} {x y:Operand} {u:TypeId} {ax ay:AO} (ho:o.op = .binOp (if neg then .neq else .eql) t x y u) (h1:cOpd P t x = some ax) (h2:cOpd P u y = some ay) (hu:P.underlying t = some (.pointer te)) (hj:P.info? te = some j):SoundP X P o (.peq neg ax ay):=by
 intro E0 E w0 w n σ a K hx hr hd hw
 have hx:=cOpd_ev h1 hr
 have hy:=cOpd_ev h2 hr
 simp only [wop] at hw
 generalize σ.ev ax = px at hx hw
 generalize σ.ev ay = py at hy hw
 have gd:∀ (p q:Option Addr) w1,(eqGuard (if neg then .neq else .eql) t x y (.pointer p) (.pointer q)).run P w1 = .ok () w1:=by
  intro p q w1
  cases neg<;>simp [eqGuard]
 have fin:∀ (p q:Option Addr) (b:Bool) w1,a.eval x = .pointer p → a.eval y = .pointer q → (∀ d:Nat,(Op.equalIn (d + 1) t (.pointer p) (.pointer q)).run P w1 = .ok b w1) → (execOp a.eval o).run P w1 = .ok (.value (.bool (if neg then !b else b))) w1:=by
  intro p q b w1 ex ey hd
  have hq:(Op.equal t (.pointer p) (.pointer q)).run P w1 = .ok b w1:=hd 9999
  simp only [execOp,ho,ex,ey,Sem.run_bind,gd,Result.andThen_ok]
  cases neg<;>simp [binOp,hq]
 have same:∀ (d:Nat) (ad:Addr) w1,(Op.equalIn (d + 1) t (.pointer (some ad)) (.pointer (some ad))).run P w1 = .ok true w1:=fun d ad w1=>by
  simp [Op.equalIn,run_underlying hu,sizeOf,typeInfo,hj,run_sameAddr_same]
 split at hw
 ·exact putP hw (fun w1 hU=>by
   have:=fin none none true w1 (V_nilp hx) (V_nilp hy) (fun d=>by simp [Op.equalIn,run_underlying hu])
   simpa using this) (by cases neg<;>exact .bool _)
 ·obtain ⟨b,u0,hb,ex,_⟩:=V_tptr hx
  exact putP hw (fun w1 hU=>by
   have:=fin _ none false w1 ex (V_nilp hy) (fun d=>by simp [Op.equalIn,run_underlying hu])
   simpa using this) (by cases neg<;>exact .bool _)
 ·obtain ⟨b,hb,ex⟩:=V_ptr hx
  exact putP hw (fun w1 hU=>by
   have:=fin _ none false w1 ex (V_nilp hy) (fun d=>by simp [Op.equalIn,run_underlying hu])
   simpa using this) (by cases neg<;>exact .bool _)
 ·obtain ⟨rfl,rfl,hw⟩:=hw
  obtain ⟨b,u0,hb,ex,_⟩:=V_tptr hx
  obtain ⟨b',u1,hb',ey,_⟩:=V_tptr hy
  obtain rfl:b = b':=by rw [hb] at hb';exact Option.some.inj hb'
  exact putP hw (fun w1 hU=>by
   have:=fin _ _ true w1 ex ey (fun d=>same d _ w1)
   simpa using this) (by cases neg<;>exact .bool _)
 ·exact hw.elim
theorem sound_ieq {P:Program} {o:Oper} {neg:Bool} {t:TypeId} {ms:_} {x:Operand} {v:Value} {u:TypeId} {ax:AO} (ho:o.op = .binOp (if neg then .neq else .eql) t x (.const v) u) (h1:cOpd P t x = some ax) (h2:cOpd P u (.const v) = some (.k (.lf .nili))) (hu:P.underlying t = some (.interface ms)):SoundP X P o (.ieq neg ax):=by
 intro E0 E w0 w n σ a K hx hr hd hw
 have hx:=cOpd_ev h1 hr
 have hy:=V_nili (cOpd_ev h2 hr)
 simp only [wop] at hw
 generalize σ.ev ax = px at hx hw
 split at hw
 ·have ex:=V_nili hx
  exact putP hw (fun w1 hU=>by
   have hq0:∀ d:Nat,(Op.equalIn (d + 1) t .nilIface .nilIface).run P w1 = .ok true w1:=fun d=>by
    simp [Op.equalIn,run_underlying hu]
   have hq:(Op.equal t .nilIface .nilIface).run P w1 = .ok true w1:=hq0 9999
   have hg:(eqGuard (if neg then .neq else .eql) t x (.const v) .nilIface .nilIface).run P w1 = .ok () w1:=by
    cases neg<;>simp [eqGuard]
   have run:(execOp a.eval o).run P w1 = .ok (.value (.bool (!neg))) w1:=by
    simp only [execOp,ho,ex,hy,Sem.run_bind,hg,Result.andThen_ok]
    cases neg<;>simp [binOp,hq]
   exact run) (.bool _)
 ·rename_i T y
  obtain ⟨v',ex⟩:∃ v',a.eval x = .iface T v':=by
   generalize a.eval x = z at hx
   cases hx
   exact ⟨_,rfl⟩
  exact putP hw (fun w1 hU=>by
   have hq0:∀ d:Nat,(Op.equalIn (d + 1) t (.iface T v') .nilIface).run P w1 = .ok false w1:=fun d=>by
    simp [Op.equalIn,run_underlying hu]
   have hq:(Op.equal t (.iface T v') .nilIface).run P w1 = .ok false w1:=hq0 9999
   have hg:(eqGuard (if neg then .neq else .eql) t x (.const v) (.iface T v') .nilIface).run P w1 = .ok () w1:=by
    cases neg<;>simp [eqGuard]
   have run:(execOp a.eval o).run P w1 = .ok (.value (.bool (neg))) w1:=by
    simp only [execOp,ho,ex,hy,Sem.run_bind,hg,Result.andThen_ok]
    cases neg<;>simp [binOp,hq]
   exact run) (.bool _)
 ·exact hw.elim
theorem shape_of {w w1:World} {b:Nat} {u:Array Value} {T:TypeId} (h:w.heap[b]? = some (.cells u T (0,0))) (hU:Unch (fun _=>False) w w1):w1.shape? b = some (T,u.size):=by
 have:w1.heap[b]? = some (.cells u T (0,0)):=(hU.block b (lt_of_heap h) (fun h=>h)).trans h
 simp [World.shape?,this]
theorem sound_p2u {P:Program} {o:Oper} {src dst t:TypeId} {j:TypeInfo} {x:Operand} {ax:AO} (ho:o.op = .convert src dst x) (h1:cOpd P src x = some ax) (hs:P.underlying src = some (.pointer t)) (hd':P.underlying dst = some .unsafePointer) (ht:P.info? t = some j) (hj:j.size ≠ 0):SoundP X P o (.p2u ax):=by
 intro E0 E w0 w n σ a K hx hr hd hw
 have hx:=cOpd_ev h1 hr
 simp only [wop] at hw
 generalize σ.ev ax = px at hx hw
 split at hw
 ·rename_i c off T
  obtain ⟨cs,hc,hlt,hK⟩:=hw
  obtain ⟨b,u0,hb,ex,hT⟩:=V_tptr hx
  obtain ⟨b',u,T',hb',hh,hall⟩:=hr.ce c cs hc
  obtain rfl:b = b':=by rw [hb] at hb';exact Option.some.inj hb'
  have hul:u.size = cs.length:=by rw [hall.length];simp
  refine putP hK (fun w1 hU=>?_) hx
  simp only [execOp,ho,Sem.run_bind]
  rw [ex,Lib.run_to_unsafe w1 _ hs hd' ht hj (shape_of hh hU) (by simp only;omega)]
  rfl
 ·exact hw.elim
theorem sound_u2p {P:Program} {o:Oper} {src dst u:TypeId} {j:TypeInfo} {x:Operand} {ax:AO} (ho:o.op = .convert src dst x) (h1:cOpd P src x = some ax) (hs:P.underlying src = some .unsafePointer) (hd':P.underlying dst = some (.pointer u)) (hj:P.info? u = some j):SoundP X P o (.u2p u ax):=by
 intro E0 E w0 w n σ a K hx hr hd hw
 have hx:=cOpd_ev h1 hr
 simp only [wop] at hw
 generalize σ.ev ax = px at hx hw
 split at hw
 ·rename_i c off T
  obtain ⟨cs,hc,hlies,hK⟩:=hw
  obtain ⟨b,u0,hb,ex,hT⟩:=V_tptr hx
  obtain ⟨b',u1,T',hb',hh,hall⟩:=hr.ce c cs hc
  obtain rfl:b = b':=by rw [hb] at hb';exact Option.some.inj hb'
  have hul:u1.size = cs.length:=by rw [hall.length];simp
  rw [hT] at hh
  cases hh
  refine putP hK (fun w1 hU=>?_) hx
  simp only [execOp,ho,Sem.run_bind]
  rw [ex,Lib.run_from_unsafe w1 _ hs hd' hj (shape_of hT hU) (by rw [hul];exact hlies)]
  rfl
 ·exact hw.elim
def extE:Nat → Array Value → Sem Value
 | 0=>Extern.AbiNoEscape.same
 | 1=>Extern.BytealgCount.count
 | _=>Extern.BytealgIndexByte.indexByte
theorem extN_find {fn:Func} {k:Nat} (h:extN fn = some k):fn.body.isNone = true ∧ Extern.findNext fn = none ∧ Extern.find fn = some (extE k) ∧ (fn.name == "runtime.NumGoroutine") = false ∧ k ≤ 2:=by
 unfold extN at h
 split at h
 ·rename_i hc
  simp only [Bool.and_eq_true,beq_iff_eq] at hc
  obtain ⟨hb,ho⟩:=hc
  split at h
  ·rename_i hn
   cases h
   simp only [beq_iff_eq] at hn
   refine ⟨hb,?_,?_,by rw [hn];decide,by omega⟩
   ·unfold Extern.findNext;rw [hn,ho];kernel_rfl
   ·unfold Extern.find;rw [hn,ho];kernel_rfl
  ·split at h
   ·rename_i hn
    cases h
    simp only [beq_iff_eq] at hn
    refine ⟨hb,?_,?_,by rw [hn];decide,by omega⟩
    ·unfold Extern.findNext;rw [hn,ho];kernel_rfl
    ·unfold Extern.find;rw [hn,ho];kernel_rfl
   ·split at h
    ·rename_i hn
     cases h
     simp only [beq_iff_eq] at hn
     refine ⟨hb,?_,?_,by rw [hn];decide,by omega⟩
     ·unfold Extern.findNext;rw [hn,ho];kernel_rfl
     ·unfold Extern.find;rw [hn,ho];kernel_rfl
    ·cases h
 ·cases h
theorem all2_1 {α β:Type} {R:α → β → Prop} {a:α} {vs:List β} (h:All2 R [a] vs):∃ v,vs = [v] ∧ R a v:=by
 cases h with
 | cons h1 h2=>cases h2;exact ⟨_,rfl,h1⟩
theorem all2_2 {α β:Type} {R:α → β → Prop} {a b:α} {vs:List β} (h:All2 R [a,b] vs):∃ v u,vs = [v,u] ∧ R a v ∧ R b u:=by
 cases h with
 | cons h1 h2=>obtain ⟨u,rfl,h3⟩:=all2_1 h2;exact ⟨_,_,rfl,h1,h3⟩
theorem sound_ex {P:Program} {o:Oper} {c:Call} {f:FuncId} {fn:Func} {k:Nat} {args:List AO} (ho:o.op = .call c) (hc:c.callee = .value (.func f)) (hf:P.funcs[f]? = some fn) (hk:extN fn = some k) (ha:cArgs P c.args.toList fn.params.toList = some args):SoundP X P o (.ex k args):=by
 intro E0 E w0 w n σ a K hx hr hd hw
 simp only [wop] at hw
 obtain ⟨pv,he,hK⟩:=hw
 obtain ⟨hb,hn,hfind,hname,hk2⟩:=extN_find hk
 have hall:=cArgs_all hr c.args.toList fn.params.toList args ha
 have hall2:All2 (V E w) (args.map σ.ev) (c.args.toList.map a.eval):=by
  have gen:∀ {as:List AO} {us:List Value},All2 (fun x v=>V E w (σ.ev x) v) as us → All2 (V E w) (as.map σ.ev) us:=by
   intro as us h
   induction h with
   | nil=>exact .nil
   | cons q1 q2 ih=>exact .cons q1 ih
  exact gen hall
 have hvs:(c.args.map a.eval) = (c.args.toList.map a.eval).toArray:=by rw [← Array.toList_map]
 have run:∀ w1 v,(extE k (c.args.map a.eval)).run P w1 = .ok v w1 → (execOp a.eval o).run P w1 = .ok (.value v) w1:=by
  intro w1 v h
  have hev:a.eval (.func f) = .func (.func f) #[] #[]:=rfl
  simp only [execOp,ho,resolve,hc,hev,Deferred.ofValue,invoke,Sem.run_bind,Sem.run_pure,Result.andThen_ok]
  have e:(#[] ++ c.args.map a.eval ++ #[]:Array Value) = c.args.map a.eval:=by simp
  rw [e,run_callFunc_extern hf hname hb hn hfind,h]
  rfl
 generalize args.map σ.ev = pvs at hall2 he
 generalize hus:c.args.toList.map a.eval = us at hall2 hvs
 unfold exV at he
 split at he
 ·cases he
  obtain ⟨v,rfl,hv⟩:=all2_1 hall2
  exact putP hK (v:=v) (fun w1 hU=>run w1 v (by rw [hvs];exact Lib.run_noEscape w1 v)) hv
 ·cases he
  obtain ⟨v,u,rfl,hv,hu⟩:=all2_2 hall2
  rw [V_str hv,V_int hu] at hvs
  exact putP hK (fun w1 hU=>run w1 _ (by rw [hvs];simp only [extE];exact Lib.run_countString (P:=P) _ _ w1)) (.int _ _)
 ·cases he
  obtain ⟨v,u,rfl,hv,hu⟩:=all2_2 hall2
  rw [V_str hv,V_int hu] at hvs
  exact putP hK (fun w1 hU=>run w1 _ (by rw [hvs];simp only [extE];rw [run_indexByte_string,Lib.firstIdx_eq])) (.int _ _)
 ·cases he
end Go.Proofs.YthcpaohmajjopaaGreatDoor.AM
