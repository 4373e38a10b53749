/- The abstract machine, part OpsC. -/
import Derived.Test.YthcpaohmajjopaaGreatDoorAmOpsB
set_option linter.unusedVariables false
set_option linter.unusedSimpArgs false
namespace Go.Proofs.YthcpaohmajjopaaGreatDoor.AM
open Go
variable {X:Cx}
theorem u8_int {n:Int} (h0:0 ≤ n) (h1:n ≤ 255):(n.toNat.toUInt8.toNat:Int) = n:=by
 have:n.toNat.toUInt8.toNat = n.toNat % 256:=rfl
 rw [this];omega
theorem sound_usd {P:Program} {o:Oper} {c:Call} {t:TypeId} {x:Operand} {ax:AO} (ho:o.op = .call c) (hc:c.callee = .builtin .unsafeSliceData) (ha:c.args.toList = [x]) (ht:c.argTypes.toList = [t]) (h1:cOpd P t x = some ax):SoundP X P o (.usd ax):=by
 intro E0 E w0 w n σ a K hx hr hd hw
 have hx:=cOpd_ev h1 hr
 have ea:c.args = #[x]:=by cases hh:c.args;simp_all
 simp only [wop] at hw
 generalize σ.ev ax = px at hx hw
 split at hw
 ·rename_i tg sz xs sp
  obtain ⟨h0,hK⟩:=hw
  obtain ⟨A,cap,ex,hh⟩:=V_lst hx
  obtain ⟨_,ad,hA,_⟩:=hh.read (i:=0) (x:=xs[0]) (by rw [List.getElem?_append_left h0,List.getElem?_eq_getElem h0])
  subst hA
  have hle:=hh.le
  refine putP hK (v:=.pointer (some ad)) (fun w1 hU=>?_) ⟨ad,cap,hh,h0,by simp [Addr.add]⟩
  have hrun:=Lib.run_unsafeSliceData_row (P:=P) w1 c.argTypes o.type ad xs.length cap (by omega)
  simp only [execOp,ho,resolve,hc,Sem.run_bind,Sem.run_pure,Result.andThen_ok,invoke,builtin,ea]
  simp [ex,hrun]
 ·exact hw.elim
def Env.drop (E:Env) (p:Nat):Env:={ rd:=E.rd,κ:=E.κ,ω:=upd E.ω p none }
theorem drop_step {m:Nat} {E:Env} {w w':World} (hI:Inj E w) {p g:Nat} (hg:E.ω p = some g) (hos:w'.os = w.os) (htp:w'.tape = w.tape) (hou:w'.output = w.output) (hsz:w'.heap.size = w.heap.size) (hb:∀ b,b ≠ g → w'.heap[b]? = w.heap[b]?) :
  WStep m E w (E.drop p) w' ∧ Step E w (E.drop p) w' (fun q=>q = p) (fun _=>False):=by
 have W:=write_step (m:=m) hI (b0:=g) (.inr ⟨p,hg⟩) hos htp hou hsz hb (fun c u T hc _=>absurd hg (hI.kw c p g hc))
 have key:∀ r x,(E.drop p).ω r = some x → r ≠ p ∧ E.ω r = some x:=by
  intro r x hr
  simp only [Env.drop,upd] at hr
  split at hr
  ·cases hr
  ·exact ⟨‹_›,hr⟩
 have I:=W.1.inj
 refine ⟨⟨W.1.un,⟨I.kk,fun r r' x h h'=>I.ww r r' x (key r x h).2 (key r' x h').2,fun c r x hc h=>I.kw c r x hc (key r x h).2,I.kr,fun r x h=>I.wr r x (key r x h).2⟩,W.1.rd,W.1.rd0,fun r x h=>W.1.om r x (key r x h).2,W.1.ka,W.1.k0,W.1.ty⟩,
  ⟨W.2.size,W.2.ro,fun q b hq h=>?_,W.2.ce,W.2.ty⟩⟩
 refine ⟨by simp only [Env.drop];rw [upd_ne _ _ hq];exact h,hb b (fun e=>hq (hI.ww _ _ _ h (e ▸ hg)))⟩
theorem freeze_heap (w:World) (g n:Nat) (hn:n ≠ 0):(w.freeze ⟨g,0,none⟩ n).os = w.os ∧ (w.freeze ⟨g,0,none⟩ n).tape = w.tape ∧ (w.freeze ⟨g,0,none⟩ n).output = w.output ∧ (w.freeze ⟨g,0,none⟩ n).heap.size = w.heap.size ∧ ∀ b,b ≠ g → (w.freeze ⟨g,0,none⟩ n).heap[b]? = w.heap[b]?:=by
 unfold World.freeze
 split
 ·exact ⟨rfl,rfl,rfl,rfl,fun _ _=>rfl⟩
 ·refine ⟨rfl,rfl,rfl,by simp,fun b hb=>?_⟩
  simp only [Array.getElem?_modify]
  rw [if_neg (by omega)]
theorem sound_ust {P:Program} {o:Oper} {c:Call} {t u e:TypeId} {x y:Operand} {ax ay:AO} (ho:o.op = .call c) (hc:c.callee = .builtin .unsafeString) (ha:c.args.toList = [x,y]) (ht:c.argTypes.toList = [t,u]) (h1:cOpd P t x = some ax) (h2:cOpd P u y = some ay)
  (hp:P.underlying t = some (.pointer e)) (he:P.cellsOf e = 1):Sound X P o (.ust e ax ay):=by
 intro E0 E w0 w n σ a K Q hx hr hd hw
 have hx:=cOpd_ev h1 hr
 have hy:=cOpd_ev h2 hr
 have ea:c.args = #[x,y]:=by cases hh:c.args;simp_all
 have et:c.argTypes = #[t,u]:=by cases hh:c.argTypes;simp_all
 simp only [wop] at hw
 generalize σ.ev ax = px at hx hw
 generalize σ.ev ay = py at hy hw
 split at hw
 ·rename_i p e' xs sp n
  obtain ⟨he0,hn0,ns,hns,hr8,hK⟩:=hw
  subst hn0
  have ey:=V_int hy
  obtain ⟨ad,cap,hh,hlt,ex⟩:=V_ep hx
  rcases hh with ⟨hA,_⟩ | ⟨g,cur,k1,k2,k3,k4,k5,k6,k7⟩
  ·cases hA
  ·cases k1
   rw [he0] at k3
   have ex:a.eval x = .pointer (some ⟨g,0,none⟩):=by rw [ex];simp [Addr.add]
   have hl:(ns.map fun n=>n.toNat.toUInt8).length = xs.length:=by rw [hns];simp
   have hm:maxLen = 9223372036854775807:=by unfold maxLen;rfl
   have hcell:∀ (j:Nat) (b:UInt8),(ns.map fun n=>n.toNat.toUInt8)[j]? = some b → w.cell? ((⟨g,0,none⟩:Addr).add j) = some (.int .u8 b.toNat):=by
    intro j b hj
    rw [List.getElem?_map] at hj
    obtain ⟨m,hm,rfl⟩:=Option.map_eq_some_iff.1 hj
    have hxj:(xs ++ sp)[j]? = some [.int .u8 m]:=by
     have hjl:j < xs.length:=by rw [hns];simpa using (List.getElem?_eq_some_iff.1 hm).1
     rw [List.getElem?_append_left hjl,hns,List.getElem?_map,hm];rfl
    obtain ⟨_,q2⟩:=k7 j _ hxj
    obtain ⟨v,q3,q4⟩:=q2 0 _ rfl
    cases q4
    have hb:=hr8 m (List.mem_of_getElem? hm)
    rw [add_cell,cell_of_cells k3,u8_int hb.1 hb.2]
    simpa using q3
   have hrun:=Lib.run_unsafeString_row (P:=P) w t u o.type e hp he g cur.size (by simp [World.shape?,k3]) (ns.map fun n=>n.toNat.toUInt8) (fun h=>by have:=congrArg List.length h;rw [hl] at this;simp only [List.length_nil] at this;omega) (by rw [hl,k6,Nat.mul_one];omega) (by rw [hl];rw [hm] at k5;omega) hcell
   rw [hl] at hrun
   have run:(execOp a.eval o).run P w = .ok (.value (.string ⟨(ns.map fun n=>n.toNat.toUInt8).toArray⟩)) (w.freeze ⟨g,0,none⟩ xs.length):=by
    simp only [execOp,ho,resolve,hc,Sem.run_bind,Sem.run_pure,Result.andThen_ok,invoke,builtin,ea,et]
    simp [ex,ey,hrun]
   obtain ⟨f1,f2,f3,f4,f5⟩:=freeze_heap w g xs.length (by omega)
   have S:=drop_step (m:=σ.m) hr.ws.inj k2 f1 f2 f3 f4 f5
   have h3:=hr.step (f:=killP p) S.1 (killP_step S.2) (fun c b u T q1 q2 _=>⟨q1,by
    have hne:b ≠ g:=fun e=>hr.ws.inj.kw c p b q1 (e ▸ k2)
    rw [f5 b hne];exact q2⟩)
   exact wp_value run ⟨_,hK,E.drop p,h3.put hd (.str _)⟩
 ·exact hw.elim
theorem sound_mm {P:Program} {o:Oper} {c:Call} {mx:Bool} {t u:TypeId} {x y:Operand} {ax ay:AO} (ho:o.op = .call c) (hc:c.callee = .builtin (if mx then .max else .min)) (ha:c.args.toList = [x,y]) (h1:cOpd P t x = some ax) (h2:cOpd P u y = some ay):SoundP X P o (.mm mx ax ay):=by
 intro E0 E w0 w n σ a K hx hr hd hw
 have hx:=cOpd_ev h1 hr
 have hy:=cOpd_ev h2 hr
 have ea:c.args = #[x,y]:=by cases hh:c.args;simp_all
 simp only [wop] at hw
 generalize σ.ev ax = px at hx hw
 generalize σ.ev ay = py at hy hw
 split at hw
 ·obtain ⟨rfl,hK⟩:=hw
  have ex:=V_int hx
  have ey:=V_int hy
  refine putP hK (fun w1 hU=>?_) (.int _ _)
  simp only [execOp,ho,resolve,hc,Sem.run_bind,Sem.run_pure,Result.andThen_ok,invoke,ea]
  cases mx
  ·simp only [Bool.false_eq_true,if_false,builtin,Builtin.min_]
   simp [ex,ey,Builtin.min2]
   split<;>omega
  ·simp only [if_true,builtin,Builtin.max_]
   simp [ex,ey,Builtin.max2]
   split<;>omega
 ·exact hw.elim
theorem frz_leaf {E:Env} {w:World} {c b:Nat} {cs:List L} {u:Array Value} {T:TypeId} (hI:Inj E w) (hb:E.κ c = some b) (hh:w.heap[b]? = some (.cells u T (0,0))) (hall:All2 (LeafV E w) cs u.toList) (hf:cs.all frzD = true) (x:L) (v:Value) (h:LeafV E w x v) :
  LeafV ⟨fun y=>E.rd y ∨ y = b,fun i=>if i = c then none else E.κ i,E.ω⟩ w (frzL c cs x) v:=by
 have up:∀ y,E.rd y → y < w.heap.size → (fun y=>E.rd y ∨ y = b) y ∧ w.heap[y]? = w.heap[y]?:=fun y hy _=>⟨.inl hy,rfl⟩
 have rpD:∀ o,D (fun y=>E.rd y ∨ y = b) w (.rp cs o) (.pointer (some ⟨b,o,none⟩)):=fun o =>
  .rp cs o b u.toList (.inr rfl) (hI.kr c b hb).2 hall.length (fun i z hi=>by rw [cell_of_cells hh];simpa using hi) (fun i x z h1 h2=>by
   obtain ⟨k1,k2⟩:=hall.get2 i x z h1 h2
   exact (frzD_D (List.all_eq_true.1 hf x k1) k2).mono up (Nat.le_refl _))
 have S:Step E w ⟨fun y=>E.rd y ∨ y = b,fun i=>if i = c then none else E.κ i,E.ω⟩ w (fun _=>False) (fun c'=>c' = c) :=
  ⟨Nat.le_refl _,fun y _ hr=>⟨.inl hr,rfl⟩,fun _ _ _ h=>⟨h,rfl⟩,fun c' b' hc h=>by simp only;rw [if_neg hc];exact h,fun c' b' z T _ _ h=>⟨z,h⟩⟩
 have gen:∀ y:L,leafFree (fun _=>False) (fun c'=>c' = c) y → LeafV E w y v → LeafV ⟨fun y=>E.rd y ∨ y = b,fun i=>if i = c then none else E.κ i,E.ω⟩ w y v:=fun y hf hy=>hy.step S hf
 have tf:∀ t:Tag,t.free (fun _=>False):=fun t=>by cases t<;>simp [Tag.free]
 have cap:∀ {x:L} {v:Value},CapV E w x v → CapV ⟨fun y=>E.rd y ∨ y = b,fun i=>if i = c then none else E.κ i,E.ω⟩ w (frz1 c cs x) v:=by
  intro x v h
  cases x with
  | ptr c' o =>
   obtain ⟨b',k1,rfl⟩:=h
   simp only [frz1]
   split
   ·rename_i e
    obtain rfl:c' = c:=by simpa using e
    rw [hb] at k1
    cases k1
    exact rpD o
   ·rename_i e
    exact ⟨b',by simp only;rw [if_neg (by simpa using e)];exact k1,rfl⟩
  | tptr c' o T' =>
   obtain ⟨b',u',k1,rfl,k2⟩:=h
   simp only [frz1]
   split
   ·rename_i e
    obtain rfl:c' = c:=by simpa using e
    rw [hb] at k1
    cases k1
    exact rpD o
   ·rename_i e
    exact ⟨b',u',by simp only;rw [if_neg (by simpa using e)];exact k1,rfl,k2⟩
  | _=>exact CapV.step S (fun c' e=>by first | (cases e;done) | (exact absurd e (by simp [cellOf,frz1]))) h
 cases x with
 | lst t sz xs sp=>exact gen _ (tf t) h
 | ep t sz xs sp i o=>exact gen _ (tf t) h
 | ptr c' o =>
  have q:CapV ⟨fun y=>E.rd y ∨ y = b,fun i=>if i = c then none else E.κ i,E.ω⟩ w (frz1 c cs (.ptr c' o)) v:=cap h
  simp only [frz1] at q
  simp only [frzL]
  split
  ·rename_i e;rw [if_pos e] at q;exact q
  ·rename_i e;rw [if_neg e] at q;exact q
 | tptr c' o T' =>
  obtain ⟨b',u',k1,rfl,k2⟩:=h
  simp only [frzL]
  split
  ·rename_i e
   obtain rfl:c' = c:=by simpa using e
   rw [hb] at k1
   cases k1
   exact rpD o
  ·rename_i e
   exact ⟨b',u',by simp only;rw [if_neg (by simpa using e)];exact k1,rfl,k2⟩
 | sl c' o z l cp =>
  simp only [frzL]
  split
  ·trivial
  ·rename_i e
   exact gen _ (show ¬ c' = c by simpa using e) h
 | it q s i=>exact gen _ (fun h=>h) h
 | fn f a b =>
  obtain ⟨us,vs,h1,h2,h3⟩:=h
  exact ⟨us,vs,h1,h2.map_left _ (fun _ _ q=>cap q),h3.map_left _ (fun _ _ q=>cap q)⟩
 | undef=>trivial
 | no=>exact h
 | gl g o=>exact gen _ trivial h
 | bool b=>exact gen _ trivial h
 | int k n=>exact gen _ trivial h
 | str s=>exact gen _ trivial h
 | nilp=>exact gen _ trivial h
 | iface t v=>exact gen _ trivial h
 | nili=>exact gen _ trivial h
 | nilf=>exact gen _ trivial h
 | ln _=>exact gen _ trivial h
 | rp _ _=>exact gen _ trivial h
theorem RelE.frz {E0 E:Env} {w0 w:World} {n:Nat} {σ:St} {a:Act} (hr:RelE E0 w0 n E σ a w) {c:Nat} {cs:List L} (hc:Go.Proofs.YthcpaohmajjopaaGreatDoor.AM.get σ.ce c = some cs) (hm:σ.m ≤ c) (hf:cs.all frzD = true):∃ E',RelE E0 w0 n E' (σ.frz c cs) a w ∧ ∀ y,E.rd y → E'.rd y:=by
 obtain ⟨b,u,T,hb,hh,hall⟩:=hr.ce c cs hc
 have hI:=hr.ws.inj
 have h0:RelE E0 w0 n E { σ with ce:=del σ.ce c } a w:=hr.weak rfl (fun _ _ h=>h) (fun c' cs' h=>by
  by_cases e:c' = c
  ·subst e;simp only at h;rw [get_del_same] at h;cases h
  ·simp only at h;rwa [get_del_ne _ e] at h)
 refine ⟨⟨fun y=>E.rd y ∨ y = b,fun i=>if i = c then none else E.κ i,E.ω⟩,h0.step (f:=frzL c cs) ?_ (frz_leaf hI hb hh hall hf) (fun c' b' u' T' h1 h2 h3=>⟨?_,h2⟩),fun _ h=>.inl h⟩
 ·refine ⟨Unch.refl _ _,⟨fun i j b' h1 h2=>?_,hI.ww,fun i p b' h1=>?_,fun i b' h1=>?_,fun p b' h1=>⟨?_,(hI.wr p b' h1).2⟩⟩,fun b' h=>?_,fun b' h _=>.inl h,fun p b' h=>.inr ⟨p,h⟩,fun i b' h=>?_,fun i hi=>?_,fun i b' u' T' hi h1 h2=>⟨u',h2⟩⟩
  ·simp only at h1 h2
   split at h1
   ·cases h1
   ·split at h2
    ·cases h2
    ·exact hI.kk _ _ _ h1 h2
  ·simp only at h1
   split at h1
   ·cases h1
   ·exact hI.kw _ _ _ h1
  ·simp only at h1
   split at h1
   ·cases h1
   ·rename_i hne
    refine ⟨?_,(hI.kr _ _ h1).2⟩
    rintro (h4 | rfl)
    ·exact (hI.kr _ _ h1).1 h4
    ·exact hne (hI.kk _ _ _ h1 hb)
  ·rintro (h4 | rfl)
   ·exact (hI.wr _ _ h1).1 h4
   ·exact hI.kw _ _ _ hb h1
  ·rcases h with h | rfl
   ·exact .inl h
   ·exact .inr (.inr (.inr ⟨c,hm,hb⟩))
  ·simp only at h
   split at h
   ·cases h
   ·exact .inr ⟨_,h⟩
  ·have hm':σ.m ≤ c:=hm
   have hi':i < σ.m:=hi
   simp only
   rw [if_neg (by omega)]
 ·simp only
  rw [if_neg]
  ·exact h1
  ·rintro rfl
   simp only [get_del_same] at h3
   cases h3
theorem frz_all {E0:Env} {w0 w:World} {n:Nat} {a:Act} {K:St → Prop}:∀ (fz:List Nat) {E:Env} {σ:St},RelE E0 w0 n E σ a w → wfrz σ K fz → ∃ σ' E',K σ' ∧ RelE E0 w0 n E' σ' a w
 | [],E,σ,hr,h=>⟨σ,E,h,hr⟩
 | c :: r,E,σ,hr,h=>by
  obtain ⟨cs,h1,h2,h3,h4⟩:=h
  obtain ⟨E',hr',_⟩:=hr.frz h1 h2 h3
  exact frz_all r hr' h4
theorem frzd_all {E0:Env} {w0 w:World} {n:Nat} {a:Act} {K:St → Prop}:∀ (fz:List Nat) {E:Env} {σ:St},RelE E0 w0 n E σ a w → wfrzd σ K fz → ∃ σ' E',K σ' ∧ RelE E0 w0 n E' σ' a w ∧ ∀ y,E.rd y → E'.rd y
 | [],E,σ,hr,h=>⟨σ,E,h,hr,fun _ h=>h⟩
 | c :: r,E,σ,hr,h=>by
  obtain ⟨cs0,cs,h0,h1,h2,h3,h4⟩:=h
  obtain ⟨E1,hr1,_,hrd1,_,_,_,hm,_⟩:=RelE.downs cs0 hr
  obtain ⟨E2,hr2,hrd2⟩:=hr1.frz h1 (by rw [hm];exact h2) h3
  obtain ⟨σ',E',k1,k2,k3⟩:=frzd_all r hr2 h4
  exact ⟨σ',E',k1,k2,fun y hy=>k3 y (hrd2 y (hrd1 y hy))⟩
theorem sound_bsf {P:Program} {o:Oper} {t e:TypeId} {len n0:Nat} {parts:Array (Nat × Operand)} {aps:List (Nat × AO)} {zero:List L} (ho:o.op = .buildSlice t len parts) (hu:P.underlying t = some (.slice e)) (hn:szOf P e = some n0) (hzo:zeroOf (fun _ _ n=>.lst .ro n [] []) P e = some zero) (hps:cParts P e parts.toList = some aps) (hn0:n0 ≠ 0):Sound X P o (.bsf e n0 len zero aps):=by
 intro E0 E w0 w n σ a K Q hX hr hd hw
 simp only [wop] at hw
 obtain ⟨fz,hw⟩:=hw
 obtain ⟨σ',E',k1,k2,k3⟩:=frzd_all fz hr hw
 exact SoundN.sound (X:=X) (sound_bs ho hu hn hzo hps hn0) (hX.sub k3) k2 hd (by simp only [wop];exact k1)
theorem sound_mkf {P:Program} {o:Oper} {f:Nat} {xs ys:Array Operand} {as bs:List AO} (ho:o.op = .makeFunc (.func f) xs ys) (h1:cArgs P xs.toList [] = some as) (h2:cArgs P ys.toList [] = some bs):Sound X P o (.mkf f as bs):=by
 intro E0 E w0 w n σ a K Q hx hr hd hw
 simp only [wop] at hw
 obtain ⟨l1,l2,e1,e2,c1,c2,fz,hK⟩:=hw
 have v1:=cArgs_all hr xs.toList [] as h1
 have v2:=cArgs_all hr ys.toList [] bs h2
 have lf:∀ {as:List AO} {us:List Value} {l:List L},All2 (fun x v=>V E w (σ.ev x) v) as us → leafs1 (as.map σ.ev) = some l → All2 (LeafV E w) l us:=by
  intro as us l h
  induction h generalizing l with
  | nil=>intro e;cases e;exact .nil
  | @cons x v as us q1 q2 ih =>
   intro e
   simp only [List.map_cons] at e
   cases hp:σ.ev x with
   | lf y =>
    rw [hp] at e q1
    simp only [leafs1] at e
    obtain ⟨l',e1,rfl⟩:=Option.map_eq_some_iff.1 e
    exact .cons q1 (ih e1)
   | ag _=>rw [hp] at e;cases e
   | tp _=>rw [hp] at e;cases e
 have w1:=lf v1 e1
 have w2:=lf v2 e2
 obtain ⟨E2,hr2,hκ,hrd,hplaces,hω,hω2,hm,_⟩:=RelE.downs (l1 ++ l2) hr
 have cap:∀ {l:List L} {us:List Value},All2 (LeafV E w) l us → (∀ x ∈ l,x ∈ l1 ++ l2) → l.all capL = true → All2 (CapV E2 w) (l.map roC) us:=by
  intro l us h
  induction h with
  | nil=>intro _ _;exact .nil
  | @cons x v l us q1 q2 ih =>
   intro g1 g2
   simp only [List.all_cons,Bool.and_eq_true] at g2
   refine .cons ?_ (ih (fun y hy=>g1 y (List.mem_cons_of_mem _ hy)) g2.2)
   by_cases hp:∃ c o,x = .ptr c o
   ·obtain ⟨c,o,rfl⟩:=hp
    obtain ⟨b,k1,k2⟩:=q1
    exact ⟨b,by rw [hκ];exact k1,k2⟩
   ·by_cases hp2:∃ c o T,x = .tptr c o T
    ·obtain ⟨c,o,T,rfl⟩:=hp2
     obtain ⟨b,u,k1,k2,k3⟩:=q1
     exact ⟨b,u,by rw [hκ];exact k1,k2,k3⟩
    have hdat:datL x = true:=by
     have:=g2.1
     cases x<;>first | exact this | exact absurd ⟨_,_,rfl⟩ hp | exact absurd ⟨_,_,_,rfl⟩ hp2
    have he:roC x = roL x:=by cases x<;>first | rfl | exact absurd ⟨_,_,rfl⟩ hp | exact absurd ⟨_,_,_,rfl⟩ hp2
    rw [he]
    exact D.cap (roL_D hrd (fun p b hq hb=>hplaces x (g1 x (List.mem_cons_self ..)) p b hq hb) hdat q1)
 have run:(execOp a.eval o).run P w = .ok (.value (.func (.func f) (xs.toList.map a.eval).toArray (ys.toList.map a.eval).toArray)) w:=by
  simp only [execOp,ho,Instr.makeFunc,Sem.run_bind,Sem.run_pure,Result.andThen_ok]
  rw [← Array.toList_map,← Array.toList_map]
 have hr3:=hr2.put hd (pv:=.lf (.fn f (l1.map roC) (l2.map roC))) ⟨_,_,rfl,cap w1 (fun x hx=>List.mem_append_left _ hx) c1,cap w2 (fun x hx=>List.mem_append_right _ hx) c2⟩
 obtain ⟨σ',E3,hK',hr3'⟩:=frz_all fz hr3 hK
 exact wp_value run ⟨σ',hK',E3,hr3'⟩
theorem sound_cald {P:Program} {o:Oper} {c:Call} {x:Operand} {ax:AO} {args:List AO} {t0:TypeId} {ts:List TypeId} (ho:o.op = .call c) (hc:c.callee = .value x) (h1:cOpd P t0 x = some ax) (ha:cArgs P c.args.toList ts = some args):Sound X P o (.cald ax args):=by
 intro E0 E w0 w n σ a K Q hX hr hd hw
 have hxv:=cOpd_ev h1 hr
 simp only [wop] at hw
 generalize σ.ev ax = px at hxv hw
 split at hw
 case h_2=>exact hw.elim
 rename_i f la lb
 obtain ⟨hfn,hw⟩:=hw
 have hall:=cArgs_all hr c.args.toList ts args ha
 obtain ⟨us,vs,ef,hu,hv⟩:=V_fn hxv
 unfold fnOK at hfn
 split at hfn
 case h_2=>cases hfn
 rename_i fn hf
 simp only [Bool.and_eq_true,Bool.not_eq_true'] at hfn
 have run:(execOp a.eval o).run P w = .ok (.enter f (us.toArray ++ c.args.map a.eval ++ vs.toArray)) w:=by
  simp only [execOp,ho,resolve,hc,ef,Deferred.ofValue,invoke,callFunc,Sem.run_bind,Sem.run_pure,Result.andThen_ok,run_program,hf,hfn.1,hfn.2]
  simp
 have hvs:(us.toArray ++ c.args.map a.eval ++ vs.toArray) = (us ++ c.args.toList.map a.eval ++ vs).toArray:=by
  rw [← Array.toList_map];simp
 obtain ⟨E2,hr2,hκ,hrd,hplaces,hω,hω2,hm,_⟩:=RelE.downs (args.flatMap fun x=>(σ.ev x).leaves) hr
 have hcap:∀ {E3:Env} {l:List L} {us:List Value},(∀ b,E2.rd b → E3.rd b) → l.any isPtr = false → All2 (CapV E w) l us → All2 (V E3 w) (l.map fun x=>PV.lf x) us:=by
  intro E3 l us hE hp h
  induction h with
  | nil=>exact .nil
  | @cons x v l us q1 q2 ih =>
   simp only [List.any_cons,Bool.or_eq_false_iff] at hp
   exact .cons (D.leaf (E:=E3) ((cap_D hp.1 q1).mono (fun b hb _=>⟨hE b (hrd b hb),rfl⟩) (Nat.le_refl _))) (ih hp.2)
 rcases hw with ⟨hpure,hw⟩ | ⟨cc,cs,hcs,r,cs',hR,hres,hK⟩
 rotate_left
 ·obtain ⟨b,u,T,hb1,hb2,hb3⟩:=hr2.ce cc cs hcs
  have hV:All2 (V (E2.incall cc) w) (args.map fun x=>mapL (toA cc) (σ.ev x)) (c.args.toList.map a.eval):=argsA_V hκ hrd hall hplaces
  have capV:∀ {l:List L} {us:List Value},All2 (CapV E w) l us → All2 (V (E2.incall cc) w) (l.map fun x=>PV.lf (capA cc x)) us:=by
   intro l us h
   induction h with
   | nil=>exact .nil
   | @cons x v l us q1 q2 ih =>
    refine .cons (show LeafV (E2.incall cc) w (capA cc x) v from ?_) ih
    cases x
    case ptr c' o =>
     simp only [capA]
     split
     ·rename_i e
      subst e
      obtain ⟨b,k1,k2⟩:=q1
      exact ⟨b,by simp [Env.incall,hκ,k1],k2⟩
     ·trivial
    case tptr c' o T =>
     simp only [capA]
     split
     ·rename_i e
      subst e
      obtain ⟨b,u,k1,k2,k3⟩:=q1
      exact ⟨b,u,by simp [Env.incall,hκ,k1],k2,k3⟩
     ·trivial
    all_goals exact D.leaf (E:=E2.incall cc) (D.mono (fun b hb _=>⟨hrd b hb,rfl⟩) (Nat.le_refl _) q1)
  have:=hR (E2.incall cc) w _ ((hX.sub hrd).sub (fun b hb=>hb)) (incall_inj hr2.ws.inj) (fun i hi=>by simp only [List.length_cons,List.length_nil] at hi;simp only [Env.incall];rw [if_neg (by omega)]) (((capV hu).append hV).append (capV hv)) (fun j x hx=>by
   cases j with
   | zero =>
    simp only [List.getElem?_cons_zero,Option.some.injEq] at hx
    subst hx
    exact ⟨b,u,T,by simp [Env.incall,hb1],hb2,hb3.map_left _ (fun x v hx=>toC_leaf x v hx)⟩
   | succ j=>simp at hx)
  unfold Oper.wp
  rw [run,Oper.upon_enter,hvs]
  refine this.mono ?_
  rintro e w' ⟨v,E',rfl,W,hv,hcell⟩
  obtain ⟨b',u',T',k1,k2,k3⟩:=hcell 0 cs' rfl
  have hk:=W.k0 0 (by simp)
  rw [k1] at hk
  simp only [Env.incall,if_true,hb1,Option.some.injEq] at hk
  subst hk
  exact ⟨_,hK,callp_fin hr2 hd ⟨hr2.ws.inj,W⟩ hb1 hres hv ⟨u',T',k2,k3⟩⟩
 simp only [pureL,Bool.and_eq_true,Bool.not_eq_true'] at hpure
 rcases hw with ⟨ip,cc,hip,cs,hcs,r,cs',hR,hres,hK⟩ | ⟨r,hR,hres,hK⟩
 ·obtain ⟨b,u,T,hb1,hb2,hb3⟩:=hr2.ce cc cs hcs
  have hV:All2 (V (E2.incall cc) w) (args.map fun x=>mapL (toA cc) (σ.ev x)) (c.args.toList.map a.eval):=argsA_V hκ hrd hall hplaces
  have:=hR (E2.incall cc) w _ ((hX.sub hrd).sub (fun b hb=>hb)) (incall_inj hr2.ws.inj) (fun i hi=>by simp only [List.length_cons,List.length_nil] at hi;simp only [Env.incall];rw [if_neg (by omega)]) (((hcap (E3:=E2.incall cc) (fun _ h=>h) hpure.1 hu).append hV).append (hcap (E3:=E2.incall cc) (fun _ h=>h) hpure.2 hv)) (fun j x hx=>by
   cases j with
   | zero =>
    simp only [List.getElem?_cons_zero,Option.some.injEq] at hx
    subst hx
    exact ⟨b,u,T,by simp [Env.incall,hb1],hb2,hb3.map_left _ (fun x v hx=>toC_leaf x v hx)⟩
   | succ j=>simp at hx)
  unfold Oper.wp
  rw [run,Oper.upon_enter,hvs]
  refine this.mono ?_
  rintro e w' ⟨v,E',rfl,W,hv,hcell⟩
  obtain ⟨b',u',T',k1,k2,k3⟩:=hcell 0 cs' rfl
  have hk:=W.k0 0 (by simp)
  rw [k1] at hk
  simp only [Env.incall,if_true,hb1,Option.some.injEq] at hk
  subst hk
  exact ⟨_,hK,callp_fin hr2 hd ⟨hr2.ws.inj,W⟩ hb1 hres hv ⟨u',T',k2,k3⟩⟩
 have hV:All2 (V ⟨E2.rd,fun _=>none,fun _=>none⟩ w) (args.map fun x=>mapL roL (σ.ev x)) (c.args.toList.map a.eval):=by
  have gen:∀ {as:List AO} {us:List Value},All2 (fun x v=>V E w (σ.ev x) v) as us → (∀ y ∈ as.flatMap (fun x=>(σ.ev x).leaves),∀ p b,placeOf y = some p → E.ω p = some b → E2.rd b) → All2 (V ⟨E2.rd,fun _=>none,fun _=>none⟩ w) (as.map fun x=>mapL roL (σ.ev x)) us:=by
   intro as us h
   induction h with
   | nil=>intro _;exact .nil
   | cons q1 q2 ih=>intro g;exact .cons (arg_V hrd (fun y hy=>g y (by simp only [List.flatMap_cons];exact List.mem_append_left _ hy)) q1) (ih (fun y hy=>g y (by simp only [List.flatMap_cons];exact List.mem_append_right _ hy)))
  exact gen hall hplaces
 have:=hR ⟨E2.rd,fun _=>none,fun _=>none⟩ w _ (hX.sub hrd) (inj_none _ _) (fun _ _=>rfl) (((hcap (E3:=⟨E2.rd,fun _=>none,fun _=>none⟩) (fun _ h=>h) hpure.1 hu).append hV).append (hcap (E3:=⟨E2.rd,fun _=>none,fun _=>none⟩) (fun _ h=>h) hpure.2 hv)) (fun _ _ h=>by simp at h)
 unfold Oper.wp
 rw [run,Oper.upon_enter,hvs]
 refine this.mono ?_
 rintro e w' ⟨v,E',rfl,W,hv,_⟩
 have U:Unch (fun _=>False) w w':=⟨W.un.os,W.un.tape,W.un.output,W.un.size,fun b hb _=>W.un.block b hb (by rintro (⟨c,hc⟩ | ⟨p,hp⟩);(simp at hc);(simp at hp))⟩
 have hω:∀ p b,E'.ω p = some b → w.heap.size ≤ b:=fun p b hp=>by
  rcases W.om p b hp with h | ⟨q,hq⟩
  ·exact h
  ·simp at hq
 have hrd:(∀ b,E'.rd b → b < w.heap.size → E2.rd b) ∨ Flat r:=.inl (fun b hb hlt=>by
  rcases W.rd b hb with h4 | h4 | ⟨p,hp⟩ | ⟨c,_,hc⟩
  ·exact h4
  ·omega
  ·simp at hp
  ·simp at hc)
 exact ⟨_,hK,call_fin hr2 hd W.inj U hω hrd hres hv⟩
end Go.Proofs.YthcpaohmajjopaaGreatDoor.AM
