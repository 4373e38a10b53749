/- The abstract machine, part Ops8. -/
import Derived.Test.YthcpaohmajjopaaGreatDoorAmOps7
import Derived.Lib.AppendStr
set_option linter.unusedVariables false
set_option linter.unusedSimpArgs false
namespace Go.Proofs.YthcpaohmajjopaaGreatDoor.AM
open Go
variable {X:Cx}
theorem HdrV.rows {E:Env} {w:World} {t:Tag} {sz:Nat} {xs sp:List (List L)} {A:Option Addr} {cap:Nat} (h:HdrV E w t sz xs sp A cap) (hs:0 < sz) (hne:xs ≠ []) :
  ∃ a news,A = some a ∧ news.length = xs.length * sz ∧ (∀ (j:Nat) (u:Value),news[j]? = some u → w.cell? (a.add j) = some u) ∧ (∀ u ∈ news,u.oneCell' = true) ∧ Row E.rd w sz xs news:=by
 have hl:0 < xs.length:=by cases xs with | nil=>exact absurd rfl hne | cons _ _=>simp
 obtain ⟨_,a,hA,_⟩:=h.read (i:=0) (x:=xs[0]) (by rw [List.getElem?_append_left hl,List.getElem?_eq_getElem hl])
 have rd:∀ (i:Nat) (x:List L),xs[i]? = some x → x.length = sz ∧ ∀ (j:Nat) (c:L),x[j]? = some c → ∃ u,w.cell? (a.add (i * sz + j)) = some u ∧ D E.rd w c u:=by
  intro i x hx
  have hi:=(List.getElem?_eq_some_iff.1 hx).1
  obtain ⟨h1,a',hA',h2⟩:=h.read (i:=i) (x:=x) (by rw [List.getElem?_append_left hi];exact hx)
  obtain rfl:a = a':=by rw [hA] at hA';exact Option.some.inj hA'
  exact ⟨h1,h2⟩
 have cell:∀ k,k < xs.length * sz → ∃ c u,w.cell? (a.add k) = some u ∧ D E.rd w c u:=by
  intro k hk
  have hi:k / sz < xs.length:=Nat.div_lt_of_lt_mul (by rw [Nat.mul_comm];exact hk)
  have hj:k % sz < sz:=Nat.mod_lt _ hs
  obtain ⟨h1,h2⟩:=rd (k / sz) xs[k / sz] (List.getElem?_eq_getElem hi)
  obtain ⟨u,hu,hd⟩:=h2 (k % sz) (xs[k / sz][k % sz]'(by omega)) (List.getElem?_eq_getElem (by omega))
  have e:k / sz * sz + k % sz = k:=by rw [Nat.mul_comm];exact Nat.div_add_mod k sz
  rw [e] at hu
  exact ⟨_,u,hu,hd⟩
 refine ⟨a,(List.range (xs.length * sz)).map (fun k=>(w.cell? (a.add k)).getD default),hA,by simp,?_,?_,?_⟩
 ·intro j u hu
  have hj:j < xs.length * sz:=by have:=(List.getElem?_eq_some_iff.1 hu).1;simpa using this
  obtain ⟨c,u',hu',_⟩:=cell j hj
  rw [List.getElem?_map,List.getElem?_range hj] at hu
  simp [hu'] at hu
  rw [hu',hu]
 ·intro u hu
  obtain ⟨k,hk,rfl⟩:=List.mem_map.1 hu
  obtain ⟨c,u',hu',hd⟩:=cell k (by simpa using hk)
  rw [hu']
  exact (leaf_one (E:=⟨E.rd,fun _=>none,fun _=>none⟩) (w:=w) (x:=c) (by cases hd<;>rfl) (hd.leaf (E:=⟨E.rd,fun _=>none,fun _=>none⟩))).2
 ·intro i x hx
  obtain ⟨h1,h2⟩:=rd i x hx
  refine ⟨h1,fun j c hc=>?_⟩
  obtain ⟨u,hu,hd⟩:=h2 j c hc
  have hi:=(List.getElem?_eq_some_iff.1 hx).1
  have hj:=(List.getElem?_eq_some_iff.1 hc).1
  have hlt:i * sz + j < xs.length * sz:=by
   have:(i + 1) * sz ≤ xs.length * sz:=Nat.mul_le_mul_right _ hi
   rw [Nat.add_mul] at this;omega
  exact ⟨u,by rw [List.getElem?_map,List.getElem?_range hlt,Option.map_some,hu];rfl,hd⟩
theorem Row.append {Rb:Nat → Prop} {w:World} {sz:Nat} {xs ys:List (List L)} {us vs:List Value} (h:Row Rb w sz xs us) (k:Row Rb w sz ys vs) (hl:us.length = xs.length * sz):Row Rb w sz (xs ++ ys) (us ++ vs):=by
 intro i x hx
 by_cases hi:i < xs.length
 ·rw [List.getElem?_append_left hi] at hx
  obtain ⟨h1,h2⟩:=h i x hx
  refine ⟨h1,fun j c hc=>?_⟩
  obtain ⟨u,hu,hd⟩:=h2 j c hc
  have hlt:=(List.getElem?_eq_some_iff.1 hu).1
  exact ⟨u,by rw [List.getElem?_append_left hlt];exact hu,hd⟩
 ·rw [List.getElem?_append_right (by omega)] at hx
  obtain ⟨h1,h2⟩:=k _ x hx
  refine ⟨h1,fun j c hc=>?_⟩
  obtain ⟨u,hu,hd⟩:=h2 j c hc
  refine ⟨u,?_,hd⟩
  have e:xs.length * sz + (i - xs.length) * sz = i * sz:=by rw [← Nat.add_mul];congr 1;omega
  rw [List.getElem?_append_right (by rw [hl];omega),hl,show i * sz + j - xs.length * sz = (i - xs.length) * sz + j by omega]
  exact hu
theorem Row.take {Rb:Nat → Prop} {w:World} {sz:Nat} {xs:List (List L)} {us:List Value} (h:Row Rb w sz xs us):Row Rb w sz xs (us.take (xs.length * sz)):=by
 intro i x hx
 obtain ⟨h1,h2⟩:=h i x hx
 refine ⟨h1,fun j c hc=>?_⟩
 obtain ⟨u,hu,hd⟩:=h2 j c hc
 have hi:=(List.getElem?_eq_some_iff.1 hx).1
 have hj:=(List.getElem?_eq_some_iff.1 hc).1
 have hlt:i * sz + j < xs.length * sz:=by
  have:(i + 1) * sz ≤ xs.length * sz:=Nat.mul_le_mul_right _ hi
  rw [Nat.add_mul] at this;omega
 exact ⟨u,by rw [List.getElem?_take_of_lt hlt];exact hu,hd⟩
def Env.app (E:Env) (p p':Nat) (v:Value):Env:={ rd:=fun x=>E.rd x ∧ v.ownBlock ≠ some x,κ:=E.κ,ω:=upd (upd E.ω p none) p' v.ownBlock }
theorem app_step {m:Nat} {E:Env} {w w':World} (hI:Inj E w) {p p':Nat} {v v':Value} (hv:∀ b,v.ownBlock = some b → E.ω p = some b) (hg:w.grownBy w' v.ownBlock) (hv':∀ b,v'.ownBlock = some b → (v.ownBlock = some b ∨ w.heap.size ≤ b) ∧ b < w'.heap.size) :
  WStep m E w (E.app p p' v') w' ∧ Step E w (E.app p p' v') w' (fun q=>q = p ∨ q = p') (fun _=>False):=by
 have hsz:=hg.size
 have key:∀ q b,(E.app p p' v').ω q = some b → (q = p' ∧ v'.ownBlock = some b) ∨ (q ≠ p' ∧ q ≠ p ∧ E.ω q = some b):=by
  intro q b hq
  simp only [Env.app,upd] at hq
  split at hq
  ·exact .inl ⟨‹_›,hq⟩
  ·split at hq
   ·cases hq
   ·exact .inr ⟨‹_›,‹_›,hq⟩
 have old:∀ b,v'.ownBlock = some b → b < w.heap.size → E.ω p = some b:=by
  intro b hb hlt
  rcases (hv' b hb).1 with h | h
  ·exact hv b h
  ·omega
 have same:∀ b,b < w.heap.size → E.ω p ≠ some b → w'.heap[b]? = w.heap[b]?:=fun b hb hne=>hg.block b hb (fun e=>hne (hv b e.symm))
 refine ⟨⟨⟨hg.os,hg.tape,hg.output,hsz,fun b hb hN=>same b hb (fun e=>hN (.inr ⟨p,e⟩))⟩,⟨hI.kk,?_,?_,?_,?_⟩,fun b hb=>.inl hb.1,fun b hb hlt=>⟨hb,fun e=>(hI.wr p b (old b e hlt)).1 hb⟩,?_,fun c b hb=>.inr ⟨c,hb⟩,fun _ _=>rfl,fun c b u T _ hc hu=>⟨u,(same b (hI.kr c b hc).2 (hI.kw c p b hc)).trans hu⟩⟩,
  ⟨hsz,fun b hb hr=>⟨⟨hr,fun e=>(hI.wr p b (old b e hb)).1 hr⟩,same b hb (fun e=>(hI.wr p b e).1 hr)⟩,?_,fun _ _ _ h=>h,fun c b u T _ hc hu=>⟨u,(same b (hI.kr c b hc).2 (hI.kw c p b hc)).trans hu⟩⟩⟩
 ·intro q q' b hq hq'
  rcases key q b hq with ⟨e1,h1⟩ | ⟨e1,e2,h1⟩<;>rcases key q' b hq' with ⟨e3,h3⟩ | ⟨e3,e4,h3⟩
  ·omega
  ·have:=old b h1 (hI.wr q' b h3).2
   exact absurd (hI.ww _ _ _ h3 this) e4
  ·have:=old b h3 (hI.wr q b h1).2
   exact absurd (hI.ww _ _ _ h1 this) e2
  ·exact hI.ww _ _ _ h1 h3
 ·intro c q b hc hq
  rcases key q b hq with ⟨e1,h1⟩ | ⟨e1,e2,h1⟩
  ·exact hI.kw c p b hc (old b h1 (hI.kr c b hc).2)
  ·exact hI.kw c q b hc h1
 ·intro c b hc
  have:=hI.kr c b hc
  exact ⟨fun h=>this.1 h.1,by omega⟩
 ·intro q b hq
  rcases key q b hq with ⟨e1,h1⟩ | ⟨e1,e2,h1⟩
  ·exact ⟨fun h=>h.2 h1,(hv' b h1).2⟩
  ·have:=hI.wr q b h1
   exact ⟨fun h=>this.1 h.1,by omega⟩
 ·intro q b hq
  rcases key q b hq with ⟨e1,h1⟩ | ⟨e1,e2,h1⟩
  ·rcases (hv' b h1).1 with h | h
   ·exact .inr ⟨p,hv b h⟩
   ·exact .inl h
  ·exact .inr ⟨q,h1⟩
 ·intro q b hq hb
  have hqp:q ≠ p:=fun e=>hq (.inl e)
  have hqp':q ≠ p':=fun e=>hq (.inr e)
  refine ⟨by simp only [Env.app,upd];rw [if_neg hqp',if_neg hqp];exact hb,same b (hI.wr q b hb).2 (fun e=>hqp (hI.ww _ _ _ hb e))⟩
theorem killPP_step {E E':Env} {w w':World} {p p':Nat} (S:Step E w E' w' (fun q=>q = p ∨ q = p') (fun _=>False)) (x:L) (v:Value) (h:LeafV E w x v):LeafV E' w' (killP p' (killP p x)) v:=by
 have gen:∀ y:L,leafFree (fun q=>q = p ∨ q = p') (fun _=>False) y → LeafV E w y v → LeafV E' w' y v:=fun y hf hy=>hy.step S hf
 have tf:∀ t:Tag,tagK p t = false → tagK p' t = false → t.free (fun q=>q = p ∨ q = p'):=by
  intro t h1 h2
  cases t with
  | own q e=>simp [tagK] at h1 h2;simp [Tag.free,h1,h2]
  | vw q=>simp [tagK] at h1 h2;simp [Tag.free,h1,h2]
  | _=>trivial
 cases x with
 | lst t sz xs sp =>
  simp only [killP]
  cases h1:tagK p t with
  | true=>simp only [if_true];trivial
  | false =>
   simp only [Bool.false_eq_true,if_false]
   cases h2:tagK p' t with
   | true=>simp only [if_true];trivial
   | false=>simp only [Bool.false_eq_true,if_false];exact gen _ (tf t h1 h2) h
 | ep t sz xs sp i o =>
  simp only [killP]
  cases h1:tagK p t with
  | true=>simp only [if_true];trivial
  | false =>
   simp only [Bool.false_eq_true,if_false]
   cases h2:tagK p' t with
   | true=>simp only [if_true];trivial
   | false=>simp only [Bool.false_eq_true,if_false];exact gen _ (tf t h1 h2) h
 | ptr c o=>exact gen _ (fun h=>h) h
 | tptr c o T=>exact gen _ (fun h=>h) h
 | sl c o z l cp=>exact gen _ (fun h=>h) h
 | gl g1 o1=>exact gen _ trivial h
 | fn f a1 b1=>exact gen _ (fun _ _ _ _ h=>h) h
 | it q s i =>
  simp only [killP]
  cases h1:(q == p) with
  | true=>simp only [if_true];trivial
  | false =>
   simp only [Bool.false_eq_true,if_false]
   cases h2:(q == p') with
   | true=>simp only [if_true];trivial
   | false=>simp only [Bool.false_eq_true,if_false];exact gen _ (show ¬ (q = p ∨ q = p') by simp at h1 h2;simp [h1,h2]) h
 | undef=>trivial
 | no=>exact h
 | bool b=>exact gen _ trivial h
 | int k n=>exact gen _ trivial h
 | str s=>exact gen _ trivial h
 | nilp=>exact gen _ trivial h
 | iface t v=>exact gen _ trivial h
 | nili=>exact gen _ trivial h
 | nilf=>exact gen _ trivial h
 | ln _=>exact gen _ trivial h
 | rp _ _=>exact gen _ trivial h
theorem Step.mono {E E':Env} {w w':World} {Pk Pk' Ck:Nat → Prop} (S:Step E w E' w' Pk Ck) (h:∀ q,Pk q → Pk' q):Step E w E' w' Pk' Ck :=
 ⟨S.size,S.ro,fun p b hp hb=>S.ow p b (fun e=>hp (h p e)) hb,S.ce,S.ty⟩
theorem Row.of_take {Rb:Nat → Prop} {w:World} {sz k:Nat} {xs:List (List L)} {us:List Value} (h:Row Rb w sz xs (us.take k)):Row Rb w sz xs us:=by
 intro i x hx
 obtain ⟨h1,h2⟩:=h i x hx
 refine ⟨h1,fun j c hc=>?_⟩
 obtain ⟨u,hu,hd⟩:=h2 j c hc
 refine ⟨u,?_,hd⟩
 rw [List.getElem?_take] at hu
 split at hu
 ·exact hu
 ·cases hu
theorem run_app_none {P:Program} {t ty e:TypeId} {i:TypeInfo} (ht:P.underlying t = some (.slice e)) (hi:P.info? e = some i) {w:World} {base n c:Nat} {v:Value} {xs:List Value} (hown:w.ownsRow base e i.size v n xs) :
  (Builtin.append_ #[t,t] ty #[v,.slice none 0 c]).run P w = .ok v w:=by
 rcases hown.2 with ⟨rfl,rfl⟩ | ⟨g,cap,cur,rfl,_,_,hnc,_⟩
 ·simp [Builtin.append_,run_underlying ht,sizeOf,typeInfo,hi,Builtin.lenOf,Builtin.firstCells]
 ·simp [Builtin.append_,run_underlying ht,sizeOf,typeInfo,hi,Builtin.lenOf,Builtin.firstCells,hnc,storeCells]
theorem app_run {P:Program} {t ty e:TypeId} {i:TypeInfo} {z:Value} (ht:P.underlying t = some (.slice e)) (hi:P.info? e = some i) (hz:i.zero = some z) (hzs:z.cells.size = i.size) (hsz:0 < i.size) {E:Env} {w:World} {v:Value} {n:Nat} {vals:List Value} (hown:w.ownsRow 0 e i.size v n vals)
  {tg:Tag} {sz:Nat} {ys sp:List (List L)} {A:Option Addr} {cap:Nat} (hy:HdrV E w tg sz ys sp A cap) (hysz:sz = i.size ∨ ys = []) (hb:(n + ys.length) * i.bytes ≤ 140737488355328) (hnm:n + ys.length ≤ maxLen) :
  ∃ v' w' news,(Builtin.append_ #[t,t] ty #[v,.slice A ys.length cap]).run P w = .ok v' w' ∧ w'.ownsRow 0 e i.size v' (n + ys.length) (vals ++ news) ∧ w.grownBy w' v.ownBlock ∧ (v'.ownBlock = v.ownBlock ∨ ∃ b,v'.ownBlock = some b ∧ w.heap.size ≤ b) ∧ Row E.rd w i.size ys news ∧ news.length = ys.length * i.size:=by
 by_cases hys:ys = []
 ·subst hys
  cases A with
  | none =>
   exact ⟨v,w,[],run_app_none ht hi hown,by simpa using hown,⟨rfl,rfl,rfl,Nat.le_refl _,fun _ _ _=>rfl⟩,.inl rfl,fun i x hx=>by simp at hx,by simp⟩
  | some ad =>
   obtain ⟨v',w',h1,h2,h3,_,h5⟩:=run_append_own_at (P:=P) w 0 t ty e i z i.size i.bytes ht hi hz rfl rfl hzs hsz v n vals hown ad 0 cap [] (by simp) (fun j u hu=>by simp at hu) (fun u hu=>by cases hu) (by simpa using hnm) (by simpa using hb) (Nat.zero_le _)
   exact ⟨v',w',[],h1,by simpa using h2,h3,h5.imp (fun h=>h) (fun h=>⟨_,h,Nat.le_refl _⟩),fun i x hx=>by simp at hx,by simp⟩
 ·have e:sz = i.size:=hysz.resolve_right hys
  subst e
  obtain ⟨a,news,rfl,hl,hc,h1,hrow⟩:=hy.rows hsz hys
  obtain ⟨v',w',h1,h2,h3,_,h5⟩:=run_append_own_at (P:=P) w 0 t ty e i z i.size i.bytes ht hi hz rfl rfl hzs hsz v n vals hown a ys.length cap news hl hc h1 hnm hb (Nat.zero_le _)
  exact ⟨v',w',news,h1,h2,h3,h5.imp (fun h=>h) (fun h=>⟨_,h,Nat.le_refl _⟩),hrow,hl⟩
theorem own_owns {E:Env} {w:World} {p e sz:Nat} {xs sp:List (List L)} {A:Option Addr} {cap:Nat} (h:OwnV E w p e sz xs sp A cap):∃ vals,w.ownsRow 0 e sz (.slice A xs.length cap) xs.length vals ∧ Row E.rd w sz xs vals ∧ vals.length = xs.length * sz ∧ ∀ b,(Value.slice A xs.length cap).ownBlock = some b → E.ω p = some b:=by
 rcases h with ⟨rfl,rfl,rfl,rfl⟩ | ⟨g,cur,rfl,h2,h3,h4,h5,h6,h7⟩
 ·exact ⟨[],⟨by simp,.inl ⟨rfl,rfl⟩⟩,fun i x hx=>by simp at hx,by simp,fun b hb=>by simp [Value.ownBlock] at hb⟩
 ·have hle:xs.length * sz ≤ cur.size:=by rw [h6];exact Nat.mul_le_mul_right _ (by omega)
  refine ⟨cur.toList.take (xs.length * sz),⟨by simp;omega,.inr ⟨g,cap,cur,rfl,Nat.zero_le _,h3,by omega,h5,h6,rfl⟩⟩,?_,by simp;omega,fun b hb=>by simp [Value.ownBlock] at hb;rw [← hb];exact h2⟩
  have:Row E.rd w sz xs cur.toList:=fun i x hx=>h7 i x (by rw [List.getElem?_append_left (List.getElem?_eq_some_iff.1 hx).1];exact hx)
  exact this.take
theorem owns_own {E:Env} {w:World} {p e sz:Nat} {zs:List (List L)} {v:Value} {vals:List Value} (h:w.ownsRow 0 e sz v zs.length vals) (hr:Row E.rd w sz zs vals) (hp:E.ω p = v.ownBlock):V E w (.lf (.lst (.own p e) sz zs [])) v:=by
 obtain ⟨h1,⟨rfl,h2⟩ | ⟨g,cap,cur,rfl,_,h3,h4,h5,h6,h7⟩⟩:=h
 ·have:zs = []:=List.eq_nil_of_length_eq_zero h2
  subst this
  exact ⟨none,0,rfl,.inl ⟨rfl,rfl,rfl,rfl⟩⟩
 ·refine ⟨some ⟨g,0,none⟩,cap,rfl,.inr ⟨g,cur,rfl,by rw [hp];rfl,h3,by simpa using h4,h5,h6,?_⟩⟩
  rw [List.append_nil]
  rw [← h7] at hr
  exact hr.of_take
theorem own_lt' {w:World} {base e sz n:Nat} {v:Value} {vals:List Value} (h:w.ownsRow base e sz v n vals):∀ b,v.ownBlock = some b → b < w.heap.size:=by
 intro b hb
 obtain ⟨_,⟨rfl,_⟩ | ⟨g,cap,cur,rfl,_,h3,_⟩⟩:=h
 ·simp [Value.ownBlock] at hb
 ·simp [Value.ownBlock] at hb
  rw [← hb];exact lt_of_heap h3
theorem mapSnd_mapSnd {α β γ:Type} (f:α → β) (g:β → γ):∀ (l:List (Nat × α)),mapSnd g (mapSnd f l) = mapSnd (fun x=>g (f x)) l
 | []=>rfl
 |(a,v) :: r=>by simp only [mapSnd];rw [mapSnd_mapSnd f g r]
theorem mapL_mapL (f g:L → L) (x:PV):mapL g (mapL f x) = mapL (fun y=>g (f y)) x:=by
 have h1:∀ y,mapL1 g (mapL1 f y) = mapL1 (fun z=>g (f z)) y:=fun y=>by cases y<;>simp [mapL1]
 cases x with
 | lf x=>rfl
 | ag cs=>simp [mapL,mapL1]
 | tp vs =>
  simp only [mapL,List.map_map]
  congr 1
  apply List.map_congr_left
  intro y _
  exact h1 y
theorem mapAll_mapAll (f g:L → L) (σ:St):(σ.mapAll f).mapAll g = σ.mapAll fun x=>g (f x):=by
 simp only [St.mapAll,mapSnd_mapSnd]
 congr 1
 ·congr 1;funext x;exact mapL_mapL f g x
 ·congr 1;funext x;simp
theorem lnPP_step {E E':Env} {w w':World} {p p':Nat} (S:Step E w E' w' (fun q=>q = p ∨ q = p') (fun _=>False)) (x:L) (v:Value) (h:LeafV E w x v):LeafV E' w' (killP p' (lnP p x)) v:=by
 cases x with
 | lst t sz xs sp =>
  cases t with
  | own q e =>
   simp only [lnP]
   split
   ·obtain ⟨A,cap,rfl,hh⟩:=h
    have hl:=HdrV.le (t:=.own q e) hh
    exact D.ln _ cap A (by omega) hl.2
   ·rename_i hq
    have:=killPP_step S _ _ h
    simp only [killP,tagK,hq] at this
    simpa [killP,tagK,hq] using this
  | _=>exact killPP_step S _ _ h
 | _=>exact killPP_step S _ _ h
theorem app_finN {P:Program} {o:Oper} {E0 E:Env} {w0 w w':World} {n:Nat} {σ:St} {a:Act} {K:St → Prop} {Q:Exit → Act → World → Prop} (hr:RelE E0 w0 n E σ a w) {td:Nat} (hdst:o.dst = some td) (htd:td < n) {p e sz:Nat} {v v':Value} (hblk:∀ b,v.ownBlock = some b → E.ω p = some b)
  {xs ys:List (List L)} {vals news:List Value} (hrun:(execOp a.eval o).run P w = .ok (.value v') w') (hown':w'.ownsRow 0 e sz v' (xs.length + ys.length) (vals ++ news)) (hg:w.grownBy w' v.ownBlock) (hat:v'.ownBlock = v.ownBlock ∨ ∃ b,v'.ownBlock = some b ∧ w.heap.size ≤ b)
  (hrow:Row E.rd w sz xs vals) (hlen:vals.length = xs.length * sz) (hrow2:Row E.rd w sz ys news) {kf:L → L} (hkf:∀ (E':Env) (w':World),Step E w E' w' (fun q=>q = p ∨ q = plT td 0) (fun _=>False) → ∀ (x:L) (v:Value),LeafV E w x v → LeafV E' w' (killP (plT td 0) (kf x)) v) (hK:K ((σ.mapAll fun x=>killP (plT td 0) (kf x)).put o.dst (.lf (.lst (.own (plT td 0) e) sz (xs ++ ys) [])))) :
  o.wp P a w (fun a' w'=>(∃ σ',K σ' ∧ Rel E0 w0 n σ' a' w') ∧ Nw E w w') Q:=by
 have hv':∀ b,v'.ownBlock = some b → (v.ownBlock = some b ∨ w.heap.size ≤ b) ∧ b < w'.heap.size:=by
  intro b hb'
  refine ⟨?_,own_lt' hown' b hb'⟩
  rcases hat with hat | hat
  ·exact .inl (hat ▸ hb')
  ·obtain ⟨b2,h1,h2⟩:=hat
   rw [h1] at hb';exact .inr (by have:=Option.some.inj hb';omega)
 have S:=app_step (m:=σ.m) hr.ws.inj (p:=p) (p':=plT td 0) hblk hg hv'
 have hD:∀ c u,D E.rd w c u → D (E.app p (plT td 0) v').rd w' c u:=fun c u h=>h.mono (fun b hb hlt=>S.2.ro b hlt hb) S.2.size
 have h3:=hr.step (f:=fun x=>killP (plT td 0) (kf x)) S.1 (hkf _ _ S.2) (fun c b u T h1 h2 _=>⟨h1,by rw [hg.block b (hr.ws.inj.kr c b h1).2 (fun e=>hr.ws.inj.kw c p b h1 (hblk b e.symm))];exact h2⟩)
 have hV:V (E.app p (plT td 0) v') w' (.lf (.lst (.own (plT td 0) e) sz (xs ++ ys) [])) v' :=
  owns_own (by rw [List.length_append];exact hown') ((hrow.mono hD).append (hrow2.mono hD) hlen) (by simp [Env.app,upd])
 exact wp_value hrun ⟨⟨_,hK,E.app p (plT td 0) v',h3.put (fun t e=>by rw [hdst] at e;cases e;exact htd) hV⟩,fun b hb hn=>hg.block b hb (fun e=>hn p (hblk b e.symm))⟩
theorem app_fin {P:Program} {o:Oper} {E0 E:Env} {w0 w w':World} {n:Nat} {σ:St} {a:Act} {K:St → Prop} {Q:Exit → Act → World → Prop} (hr:RelE E0 w0 n E σ a w) {td:Nat} (hdst:o.dst = some td) (htd:td < n) {p e sz:Nat} {v v':Value} (hblk:∀ b,v.ownBlock = some b → E.ω p = some b)
  {xs ys:List (List L)} {vals news:List Value} (hrun:(execOp a.eval o).run P w = .ok (.value v') w') (hown':w'.ownsRow 0 e sz v' (xs.length + ys.length) (vals ++ news)) (hg:w.grownBy w' v.ownBlock) (hat:v'.ownBlock = v.ownBlock ∨ ∃ b,v'.ownBlock = some b ∧ w.heap.size ≤ b)
  (hrow:Row E.rd w sz xs vals) (hlen:vals.length = xs.length * sz) (hrow2:Row E.rd w sz ys news) (hK:K ((σ.mapAll fun x=>killP (plT td 0) (killP p x)).put o.dst (.lf (.lst (.own (plT td 0) e) sz (xs ++ ys) [])))) :
  o.wp P a w (fun a' w'=>∃ σ',K σ' ∧ Rel E0 w0 n σ' a' w') Q:=Oper.wp_mono (fun _ _ h=>h.1) (app_finN hr hdst htd hblk hrun hown' hg hat hrow hlen hrow2 (fun _ _ S=>killPP_step S) hK)
theorem killP_killP (p:Nat) (x:L):killP p (killP p x) = killP p x:=by
 cases x with
 | lst t sz xs sp=>cases h:tagK p t<;>simp [killP,h]
 | ep t sz xs sp i o=>cases h:tagK p t<;>simp [killP,h]
 | it q s i=>cases h:(q == p)<;>simp [killP,h]
 | _=>rfl
theorem Row.more {Rb:Nat → Prop} {w:World} {sz:Nat} {xs:List (List L)} {us vs:List Value} (h:Row Rb w sz xs us):Row Rb w sz xs (us ++ vs):=by
 intro i x hx
 obtain ⟨h1,h2⟩:=h i x hx
 refine ⟨h1,fun j c hc=>?_⟩
 obtain ⟨u,hu,hd⟩:=h2 j c hc
 exact ⟨u,by rw [List.getElem?_append_left (List.getElem?_eq_some_iff.1 hu).1];exact hu,hd⟩
theorem run_room_off {P:Program} {w:World} (t ty e e':TypeId) (i:TypeInfo) (ht:P.underlying t = some (.slice e)) (hi:P.info? e = some i)
  (g off sLen sCap:Nat) (cur:Array Value) (hg:w.heap[g]? = some (.cells cur e' (0,0)))
  (a:Addr) (m c:Nat) (news:List Value) (hl:news.length = m * i.size) (hnews:∀ j u,news[j]? = some u → w.cell? (a.add j) = some u) (h1:∀ u ∈ news,u.oneCell' = true)
  (hroom:sLen + m ≤ sCap) (hfit:off + sLen * i.size + news.length ≤ cur.size) :
  (Builtin.append_ #[t,t] ty #[.slice (some ⟨g,off,none⟩) sLen sCap,.slice (some a) m c]).run P w =
   .ok (.slice (some ⟨g,off,none⟩) (sLen + m) sCap) (w.setRow g (cur.toList.take (off + sLen * i.size) ++ news ++ cur.toList.drop (off + sLen * i.size + news.length)).toArray):=by
 have hf:=run_firstCells_some (P:=P) w i.size m a m c news hl hnews
 have hst:=run_storeCells_at P g (off + sLen * i.size) e' news 0 cur w hg (by simpa using hfit) h1
 simp only [Nat.add_zero] at hst
 simp [Builtin.append_,run_underlying ht,sizeOf,typeInfo,hi,Builtin.lenOf,hroom,hf,add_cell,hst]
theorem appv_run {P:Program} {t ty e:TypeId} {i:TypeInfo} {z:Value} (ht:P.underlying t = some (.slice e)) (hi:P.info? e = some i) (hz:i.zero = some z) (hzs:z.cells.size = i.size) (hsz:0 < i.size) {E:Env} {w:World} {p:Nat} {xs sp:List (List L)} {A:Option Addr} {cap:Nat}
  (hx:VwV E w p i.size xs sp A cap) {tg:Tag} {ys sq:List (List L)} {B:Option Addr} {cap':Nat} (hy:HdrV E w tg i.size ys sq B cap') (hne:0 < ys.length) (hb:(xs.length + ys.length) * i.bytes ≤ 140737488355328) (hnm:xs.length + ys.length ≤ maxLen) :
  ∃ v' w',(Builtin.append_ #[t,t] ty #[.slice A xs.length cap,.slice B ys.length cap']).run P w = .ok v' w' ∧ w.grownBy w' (Value.slice A xs.length cap).ownBlock ∧ (∀ b,(Value.slice A xs.length cap).ownBlock = some b → E.ω p = some b) ∧
   ∃ g off cur e'' cp vals,v' = .slice (some ⟨g,off,none⟩) (xs.length + ys.length) cp ∧ (((Value.slice A xs.length cap).ownBlock = some g ∨ w.heap.size ≤ g) ∧ g < w'.heap.size) ∧ w'.heap[g]? = some (.cells cur e'' (0,0)) ∧ off + cp * i.size ≤ cur.size ∧ xs.length + ys.length ≤ cp ∧ cp ≤ maxLen ∧
    (∃ rest,cur.toList.drop off = vals ++ rest) ∧ Row E.rd w i.size (xs ++ ys) vals:=by
 obtain ⟨k1,k2,⟨rfl,rfl,rfl,rfl⟩ | ⟨g,off,cur,e',rfl,h2,h3,h4,h5⟩⟩:=hx
 ·obtain ⟨v',w',news,hrun,hown',hg,hat,hrow2,hl2⟩:=app_run (ty:=ty) ht hi hz hzs hsz (World.ownsRow_nil w 0 e i.size) hy (.inl rfl) (by simpa using hb) (by simpa using hnm)
  refine ⟨v',w',hrun,hg,fun b h=>by simp [Value.ownBlock] at h,?_⟩
  obtain ⟨q1,⟨rfl,q2⟩ | ⟨g,cp,cur,rfl,_,q3,q4,q5,q6,q7⟩⟩:=hown'
  ·omega
  ·refine ⟨g,0,cur,e,cp,[] ++ news,by simp,⟨?_,(Array.getElem?_eq_some_iff.1 q3).1⟩,q3,by omega,by simpa using q4,q5,⟨cur.toList.drop ((0 + ys.length) * i.size),?_⟩,by simpa using hrow2⟩
   ·rcases hat with h | ⟨b,h,hlt⟩
    ·simp [Value.ownBlock] at h
    ·simp [Value.ownBlock] at h;exact .inr (by omega)
   ·rw [List.drop_zero]
    have:=List.take_append_drop ((0 + ys.length) * i.size) cur.toList
    rw [q7] at this
    exact this.symm
 ·obtain ⟨a,news,rfl,hl,hc,h1,hrow⟩:=hy.rows hsz (by intro e;rw [e] at hne;simp at hne)
  have hxl:xs.length * i.size ≤ cap * i.size:=Nat.mul_le_mul_right _ (by omega)
  have hRx:Row E.rd w i.size xs (cur.toList.drop off):=fun j x hj=>h5 j x (by rw [List.getElem?_append_left (List.getElem?_eq_some_iff.1 hj).1];exact hj)
  have hRv:=hRx.take
  have hvl:((cur.toList.drop off).take (xs.length * i.size)).length = xs.length * i.size:=by simp;omega
  have hRall:=hRv.append hrow hvl
  have hgl:g < w.heap.size:=(Array.getElem?_eq_some_iff.1 h3).1
  by_cases hroom:xs.length + ys.length ≤ cap
  ·have hfit:off + xs.length * i.size + news.length ≤ cur.size:=by
    have:(xs.length + ys.length) * i.size ≤ cap * i.size:=Nat.mul_le_mul_right _ hroom
    rw [Nat.add_mul] at this
    rw [hl];omega
   have hr:=run_room_off (P:=P) (w:=w) t ty e e' i ht hi g off xs.length cap cur h3 a ys.length cap' news hl hc h1 hroom hfit
   refine ⟨_,_,hr,⟨rfl,rfl,rfl,by simp,fun k _ hk=>setRow_other w g k _ (fun e=>hk (by simp [Value.ownBlock,e]))⟩,fun b h=>by simp [Value.ownBlock] at h;rw [← h];exact h2,g,off,_,e',cap,_,rfl,⟨.inl rfl,by simpa using hgl⟩,setRow_heap w g cur _ e' _ h3,?_,hroom,k2,⟨cur.toList.drop (off + xs.length * i.size + news.length),?_⟩,hRall⟩
   ·simp only [List.size_toArray,List.length_append,List.length_take,List.length_drop,Array.length_toList]
    omega
   ·rw [List.toList_toArray,List.append_assoc,List.take_add,List.append_assoc,List.drop_left' (by simp;omega),List.append_assoc]
  ·have holds:∀ j u,((cur.toList.drop off).take (xs.length * i.size))[j]? = some u → w.cell? ((⟨g,off,none⟩:Addr).add j) = some u:=by
    intro j u hj
    have hjl:j < xs.length * i.size:=by have:=(List.getElem?_eq_some_iff.1 hj).1;omega
    rw [List.getElem?_take_of_lt hjl,List.getElem?_drop] at hj
    rw [add_cell,cell_of_cells h3]
    simpa using hj
   have hmx:maxLen = 9223372036854775807:=by unfold maxLen;rfl
   have hr:=run_append_grow (P:=P) w t ty e i z ht hi hz ⟨g,off,none⟩ xs.length cap _ hvl holds a ys.length cap' news hl hc (by omega) (by omega) (growslice_fits (by omega) hb)
   have hge:=grownCap_ge w (xs.length + ys.length) cap e
   refine ⟨_,_,hr,⟨rfl,rfl,rfl,by simp,fun k hk _=>heap_alloc_old w.drew _ hk⟩,fun b h=>by simp [Value.ownBlock] at h;rw [← h];exact h2,w.heap.size,0,_,e,grownCap w (xs.length + ys.length) cap e,_,rfl,⟨.inr (Nat.le_refl _),by simp⟩,Go.heap_alloc_new w.drew _,?_,hge,grownCap_le_maxLen w _ _ e hnm,⟨(Builtin.zeroCells z.cells (grownCap w (xs.length + ys.length) cap e - (xs.length + ys.length))).toList,?_⟩,hRall⟩
   ·simp only [Array.size_append,List.size_toArray,size_zeroCells,hzs,hvl,hl]
    rw [Nat.zero_add,← Nat.add_mul,← Nat.add_mul]
    exact Nat.mul_le_mul_right _ (by omega)
   ·rw [List.drop_zero]
    simp only [Array.toList_append]
theorem finN {P:Program} {o:Oper} {a:Act} {w:World} {Q:Exit → Act → World → Prop} {A:Act → World → Prop} {B:World → Prop} {g:Prop} (h:o.wp P a w (fun a' w'=>A a' w' ∧ B w') Q):o.wp P a w (fun a' w'=>A a' w' ∧ (g → B w')) Q :=
 Oper.wp_mono (fun _ _ h=>⟨h.1,fun _=>h.2⟩) h
theorem sound_app {P:Program} {o:Oper} {c:Call} {t e:TypeId} {i:TypeInfo} {z:Value} {x y:Operand} {ax ay:AO} (ho:o.op = .call c) (hc:c.callee = .builtin .append) (ha:c.args.toList = [x,y]) (ht:c.argTypes.toList = [t,t]) (h1:cOpd P t x = some ax) (h2:cOpd P t y = some ay)
  (hu:P.underlying t = some (.slice e)) (hi:P.info? e = some i) (hz:i.zero = some z) (hzs:z.cells.size = i.size) (hsz:i.size ≠ 0) (hby:i.bytes ≠ 0):SoundN X P o (.app e i.size i.bytes ax ay):=by
 intro E0 E w0 w n σ a K Q hx hr hd hw
 have hx:=cOpd_ev h1 hr
 have hy:=cOpd_ev h2 hr
 have ea:c.args = #[x,y]:=by cases hh:c.args;simp_all
 have et:c.argTypes = #[t,t]:=by cases hh:c.argTypes;simp_all
 simp only [wop] at hw
 simp only [notSl]
 generalize σ.ev ax = px at hx hw ⊢
 generalize σ.ev ay = py at hy hw
 have hmx:maxLen = 9223372036854775807:=by unfold maxLen;rfl
 have run:∀ v' w',(Builtin.append_ #[t,t] o.type #[a.eval x,a.eval y]).run P w = .ok v' w' → (execOp a.eval o).run P w = .ok (.value v') w':=by
  intro v' w' h
  simp [execOp,ho,resolve,hc,ea,et,invoke,builtin,h]
 split at hw
 ·rename_i td tsz txs tsp tg sz ys sp hdst
  obtain ⟨hysz,hb,hK⟩:=hw
  obtain ⟨A,cap,ex,hO⟩:=V_lst hx
  obtain ⟨B,cap',ey,hY⟩:=V_lst hy
  obtain ⟨rfl,rfl,rfl,rfl⟩:=hO
  have hnm:0 + ys.length ≤ maxLen:=by have:=hY.le;omega
  obtain ⟨v',w',news,hrun,hown',hg,hat,hrow2,hl2⟩:=app_run (ty:=o.type) hu hi hz hzs (by omega) (World.ownsRow_nil w 0 e i.size) hY hysz (by simpa using hb) hnm
  refine finN (A:=fun a' w'=>∃ σ',K σ' ∧ Rel E0 w0 n σ' a' w') (B:=Nw E w) ?_
  refine app_finN (p:=plT td 0) (xs:=[]) (vals:=[]) (v:=.slice none 0 0) hr hdst (hd td hdst) (fun b hb=>by simp [Value.ownBlock] at hb) (run v' w' (by rw [ex,ey];exact hrun)) hown' hg hat (fun i x hx=>by simp at hx) (by simp) hrow2 (fun _ _ S=>killPP_step S) ?_
  have:(fun x=>killP (plT td 0) (killP (plT td 0) x)) = killP (plT td 0):=funext (killP_killP _)
  rw [this]
  exact hK
 ·rename_i td p e' sz xs sp tg sz' ys sp' hdst
  obtain ⟨rfl,rfl,hysz,hb,hK⟩:=hw
  obtain ⟨A,cap,ex,hO⟩:=V_lst hx
  obtain ⟨B,cap',ey,hY⟩:=V_lst hy
  obtain ⟨vals,hown,hrow,hlen,hblk⟩:=own_owns hO
  have hnm:xs.length + ys.length ≤ maxLen:=by
   have:xs.length + ys.length ≤ (xs.length + ys.length) * i.bytes:=Nat.le_mul_of_pos_right _ (by omega)
   omega
  obtain ⟨v',w',news,hrun,hown',hg,hat,hrow2,hl2⟩:=app_run (ty:=o.type) hu hi hz hzs (by omega) hown hY hysz hb hnm
  rw [mapAll_mapAll] at hK
  refine finN (A:=fun a' w'=>∃ σ',K σ' ∧ Rel E0 w0 n σ' a' w') (B:=Nw E w) ?_
  exact app_finN hr hdst (hd td hdst) hblk (run v' w' (by rw [ex,ey];exact hrun)) hown' hg hat hrow hlen hrow2 (fun _ _ S=>lnPP_step S) hK
 ·rename_i td p sz xs sp tg sz' ys sp' hdst
  obtain ⟨rfl,rfl,hne,hb,hK⟩:=hw
  obtain ⟨A,cap,ex,hO⟩:=V_lst hx
  obtain ⟨B,cap',ey,hY⟩:=V_lst hy
  have hnm:xs.length + ys.length ≤ maxLen:=by
   have:xs.length + ys.length ≤ (xs.length + ys.length) * i.bytes:=Nat.le_mul_of_pos_right _ (by omega)
   omega
  obtain ⟨v',w',hrun,hg,hblk,g,off,cur,e'',cp,vals,rfl,hgg,hheap,hbd,hle,hcm,⟨rest,hrest⟩,hrow⟩:=appv_run (ty:=o.type) hu hi hz hzs (by omega) hO hY hne hb hnm
  rw [mapAll_mapAll] at hK
  have hv':∀ b,(Value.slice (some ⟨g,off,none⟩) (xs.length + ys.length) cp).ownBlock = some b → ((Value.slice A xs.length cap).ownBlock = some b ∨ w.heap.size ≤ b) ∧ b < w'.heap.size:=fun b hb'=>by
   simp only [Value.ownBlock,Option.some.injEq] at hb'
   subst hb'
   exact hgg
  have S:=app_step (m:=σ.m) hr.ws.inj (p:=p) (p':=plT td 0) hblk hg hv'
  have hD:∀ c u,D E.rd w c u → D (E.app p (plT td 0) (.slice (some ⟨g,off,none⟩) (xs.length + ys.length) cp)).rd w' c u:=fun c u h=>h.mono (fun b hb hlt=>S.2.ro b hlt hb) S.2.size
  have h3:=hr.step (f:=fun x=>killP (plT td 0) (killP p x)) S.1 (killPP_step S.2) (fun c b u T h1 h2 _=>⟨h1,by rw [hg.block b (hr.ws.inj.kr c b h1).2 (fun e=>hr.ws.inj.kw c p b h1 (hblk b e.symm))];exact h2⟩)
  have hV:V (E.app p (plT td 0) (.slice (some ⟨g,off,none⟩) (xs.length + ys.length) cp)) w' (.lf (.lst (.vw (plT td 0)) i.size (xs ++ ys) [])) (.slice (some ⟨g,off,none⟩) (xs.length + ys.length) cp):=by
   refine ⟨some ⟨g,off,none⟩,cp,by rw [List.length_append],by simp;omega,hcm,.inr ⟨g,off,cur,e'',rfl,by simp [Env.app,upd,Value.ownBlock],hheap,hbd,?_⟩⟩
   rw [List.append_nil,hrest]
   exact (hrow.mono hD).more
  exact wp_value (run _ w' (by rw [ex,ey];exact hrun)) ⟨⟨_,hK,_,h3.put (fun t e=>by rw [hdst] at e;cases e;exact hd td hdst) hV⟩,fun _ b hb hn=>hg.block b hb (fun e=>hn p (hblk b e.symm))⟩
 ·rename_i td c off sz l cap tg sz' ys sp' hdst
  obtain ⟨rfl,rfl,hne,hb,cs,hcs,hfit,hund,hK⟩:=hw
  obtain ⟨g,hgc,ex,hlc,hcm⟩:=(hx:LeafV E w (.sl c off _ l cap) _)
  obtain ⟨B,cap',ey,hY⟩:=V_lst hy
  have hnm:l + ys.length ≤ maxLen:=by
   have:l + ys.length ≤ (l + ys.length) * i.bytes:=Nat.le_mul_of_pos_right _ (by omega)
   omega
  obtain ⟨a0,news,rfl,hl,hcc,hone,hrow⟩:=hY.rows (by omega) (by intro e;rw [e] at hne;simp at hne)
  obtain ⟨b',cur,T,hb',hheap,hall⟩:=hr.ce c cs hcs
  obtain rfl:g = b':=by rw [hgc] at hb';exact Option.some.inj hb'
  have hul:cur.size = cs.length:=by rw [hall.length];simp
  by_cases hroom:l + ys.length ≤ cap
  ·have hfit':off + l * i.size + news.length ≤ cur.size:=by
    have:(l + ys.length) * i.size ≤ cap * i.size:=Nat.mul_le_mul_right _ hroom
    rw [Nat.add_mul] at this
    rw [hl];omega
   have hrun:=run_room_off (P:=P) (w:=w) t o.type e T i hu hi g off l cap cur hheap a0 ys.length cap' news hl hcc hone hroom hfit'
   have e1:=run_storeCells_at P g (off + l * i.size) T news 0 cur w hheap (by simpa using hfit') hone
   have e2:=run_storeCells_cells (P:=P) g (off + l * i.size) news 0 w (fun j hj=>by rw [cell_of_cells hheap];rw [Array.getElem?_eq_getElem (by omega)];rfl) (fun j _=>by simp [World.frozen?,hheap]) hone
   rw [e1] at e2
   simp only [Nat.add_zero,Result.ok.injEq,true_and] at e2
   have hv:All2 (LeafV E w) (List.replicate news.length L.undef) news:=.of_get (by simp) (fun j x v hx _=>by
    rw [List.getElem?_replicate] at hx
    split at hx
    ·cases hx;trivial
    ·cases hx)
   have h3:=hr.setCell' (o:=off + l * i.size) hcs hgc hv (by rw [List.length_replicate];omega)
   have hfill:fillL cs (off + l * i.size) (List.replicate news.length L.undef) = cs:=by
    have hd1:cs.drop (off + l * i.size) = List.replicate (cs.length - (off + l * i.size)) .undef:=List.eq_replicate_iff.2 ⟨by simp,hund⟩
    have hd2:cs.drop (off + l * i.size + news.length) = List.replicate (cs.length - (off + l * i.size) - news.length) .undef:=by rw [← List.drop_drop,hd1,List.drop_replicate]
    unfold fillL
    rw [List.length_replicate,hd2,List.append_assoc,List.replicate_append_replicate,show news.length + (cs.length - (off + l * i.size) - news.length) = cs.length - (off + l * i.size) by omega,← hd1,List.take_append_drop]
   rw [hfill] at h3
   have h4:RelE E0 w0 n E σ a (w.setCells g (off + l * i.size) news):=h3.weak rfl (fun _ _ h=>h) (fun c' cs' h=>by
    simp only [Go.Proofs.YthcpaohmajjopaaGreatDoor.AM.get]
    split
    ·rename_i e;subst e;rw [hcs] at h;exact h
    ·rename_i e;rw [get_del_ne _ (fun e'=>e e'.symm)];exact h)
   have h5:=h4.step (E':=E) (f:=killP (plT td 0)) (w':=w.setCells g (off + l * i.size) news) (WStep.refl h4.ws.inj) (fun y v hy=>killP_leaf (E:=E) _ y v hy) (fun _ _ _ _ h1 h2 _=>⟨h1,h2⟩)
   refine wp_value (run _ _ (by rw [ex,ey];exact hrun)) ⟨⟨_,hK,E,?_⟩,fun h=>by simp [slV] at h⟩
   rw [e2]
   exact h5.put (fun t e=>by rw [hdst] at e;cases e;exact hd td hdst) trivial
  ·have hll:l * i.size ≤ cap * i.size:=Nat.mul_le_mul_right _ hlc
   have hvl:((cur.toList.drop off).take (l * i.size)).length = l * i.size:=by simp;omega
   have holds:∀ j u,((cur.toList.drop off).take (l * i.size))[j]? = some u → w.cell? ((⟨g,off,none⟩:Addr).add j) = some u:=by
    intro j u hj
    have hjl:j < l * i.size:=by have:=(List.getElem?_eq_some_iff.1 hj).1;omega
    rw [List.getElem?_take_of_lt hjl,List.getElem?_drop] at hj
    rw [add_cell,cell_of_cells hheap]
    simpa using hj
   obtain ⟨v',w',hrun,hg,hv'⟩:∃ v' w',(Builtin.append_ #[t,t] o.type #[.slice (some ⟨g,off,none⟩) l cap,.slice (some a0) ys.length cap']).run P w = .ok v' w' ∧ w.grownBy w' (Value.slice none 0 0).ownBlock ∧ (∀ b,v'.ownBlock = some b → ((Value.slice none 0 0).ownBlock = some b ∨ w.heap.size ≤ b) ∧ b < w'.heap.size):=by
    have hr':=run_append_grow (P:=P) w t o.type e i z hu hi hz ⟨g,off,none⟩ l cap _ hvl holds a0 ys.length cap' news hl hcc (by omega) (by omega) (growslice_fits (by omega) hb)
    exact ⟨_,_,hr',⟨rfl,rfl,rfl,by simp,fun k hk _=>heap_alloc_old w.drew _ hk⟩,fun b hb=>by
     simp only [Value.ownBlock,Option.some.injEq] at hb
     subst hb
     exact ⟨.inr (Nat.le_refl _),by simp⟩⟩
   have S:=app_step (m:=σ.m) hr.ws.inj (p:=plT td 0) (p':=plT td 0) (v:=.slice none 0 0) (v':=v') (fun b hb=>by simp [Value.ownBlock] at hb) hg hv'
   have h3:=hr.step (f:=fun x=>killP (plT td 0) (killP (plT td 0) x)) S.1 (killPP_step S.2) (fun c b u T h1 h2 _=>⟨h1,by rw [hg.block b (hr.ws.inj.kr c b h1).2 (by simp [Value.ownBlock])];exact h2⟩)
   have e0:(fun x=>killP (plT td 0) (killP (plT td 0) x)) = killP (plT td 0):=funext (killP_killP _)
   rw [e0] at h3
   exact wp_value (run _ _ (by rw [ex,ey];exact hrun)) ⟨⟨_,hK,_,h3.put (fun t e=>by rw [hdst] at e;cases e;exact hd td hdst) trivial⟩,fun h=>by simp [slV] at h⟩
 ·exact hw.elim
theorem str_row {Rb:Nat → Prop} {w:World} (s:ByteArray):Row Rb w 1 (s.data.toList.map fun b=>[L.int .u8 b.toNat]) (Lib.strCells s):=by
 intro i x hx
 rw [List.getElem?_map] at hx
 obtain ⟨b,hb,rfl⟩:=Option.map_eq_some_iff.1 hx
 refine ⟨rfl,fun j c hc=>?_⟩
 cases j with
 | zero =>
  simp only [List.getElem?_cons_zero,Option.some.injEq] at hc
  subst hc
  exact ⟨_,by unfold Lib.strCells;rw [List.getElem?_map,Nat.mul_one,Nat.add_zero,hb];rfl,.int _ _⟩
 | succ j=>simp at hc
theorem aps_run {P:Program} {t u ty e:TypeId} {i:TypeInfo} (ht:P.underlying t = some (.slice e)) (hu:P.underlying u = some .string) (hi:P.info? e = some i) (hz:i.zero = some (.int .u8 0)) (hs1:i.size = 1) (hb1:i.bytes = 1) {w:World} {v:Value} {n:Nat} {vals:List Value} (hown:w.ownsRow 0 e 1 v n vals) (s:ByteArray) (hb:n + s.size ≤ 140737488355328) :
  ∃ v' w',(Builtin.append_ #[t,u] ty #[v,.string s]).run P w = .ok v' w' ∧ w'.ownsRow 0 e 1 v' (n + s.size) (vals ++ Lib.strCells s) ∧ w.grownBy w' v.ownBlock ∧ (v'.ownBlock = v.ownBlock ∨ ∃ b,v'.ownBlock = some b ∧ w.heap.size ≤ b):=by
 have hmx:maxLen = 9223372036854775807:=by unfold maxLen;rfl
 obtain ⟨v',w',h1,h2,h3,h4⟩:=Lib.run_append_own_string (P:=P) w 0 t u ty e i ht hu hi hz hs1 hb1 v n vals hown s (by omega) hb (Nat.zero_le _)
 refine ⟨v',w',h1,h2,h3,?_⟩
 obtain ⟨hl,⟨rfl,rfl⟩ | ⟨g,cap,cur,rfl,_,hg,hnc,hcm,hcs,htk⟩⟩:=hown
 ·have hv:vals = []:=List.eq_nil_of_length_eq_zero (by simpa using hl)
  subst hv
  obtain ⟨v2,w2,k1,k2,_⟩:=Lib.run_append_own_string (P:=P) w w.heap.size t u ty e i ht hu hi hz hs1 hb1 (.slice none 0 0) 0 [] (World.ownsRow_nil w _ e 1) s (by omega) hb (Nat.le_refl _)
  rw [h1] at k1
  simp only [Result.ok.injEq] at k1
  obtain ⟨rfl,rfl⟩:=k1
  obtain ⟨_,⟨rfl,_⟩ | ⟨g,cap,cur,rfl,hge,_⟩⟩:=k2
  ·exact .inl rfl
  ·exact .inr ⟨g,rfl,hge⟩
 ·have hcs':cur.size = cap:=by simpa using hcs
  by_cases hroom:n + s.size ≤ cap
  ·have k1:=Lib.run_append_room_string (P:=P) w t u ty e i ht hu hi hs1 g n cap cur hg s hroom (by omega)
   rw [h1] at k1
   simp only [Result.ok.injEq] at k1
   obtain ⟨rfl,rfl⟩:=k1
   exact .inl rfl
  ·have holds:∀ (j:Nat) (u:Value),vals[j]? = some u → w.cell? ((⟨g,0,none⟩:Addr).add j) = some u:=by
    intro j u hj
    rw [add_cell,cell_of_cells hg]
    rw [← htk,List.getElem?_take] at hj
    split at hj
    ·simpa using hj
    ·cases hj
   have k1:=Lib.run_append_grow_string (P:=P) (ty:=ty) w t u e i (.int .u8 0) ht hu hi hz ⟨g,0,none⟩ n cap vals (by rw [hs1];exact hl) holds s (by omega) (by omega) (by rw [hb1];exact growslice_fits (by omega) (by omega))
   rw [h1] at k1
   simp only [Result.ok.injEq] at k1
   obtain ⟨rfl,rfl⟩:=k1
   exact .inr ⟨_,rfl,Nat.le_refl _⟩
theorem sound_aps {P:Program} {o:Oper} {c:Call} {t u e:TypeId} {i:TypeInfo} {x y:Operand} {ax ay:AO} (ho:o.op = .call c) (hc:c.callee = .builtin .append) (ha:c.args.toList = [x,y]) (ht:c.argTypes.toList = [t,u]) (h1:cOpd P t x = some ax) (h2:cOpd P u y = some ay)
  (hu:P.underlying t = some (.slice e)) (hus:P.underlying u = some .string) (hi:P.info? e = some i) (hz:i.zero = some (.int .u8 0)) (hs1:i.size = 1) (hb1:i.bytes = 1):Sound X P o (.aps e ax ay):=by
 intro E0 E w0 w n σ a K Q hx hr hd hw
 have hx:=cOpd_ev h1 hr
 have hy:=cOpd_ev h2 hr
 have ea:c.args = #[x,y]:=by cases hh:c.args;simp_all
 have et:c.argTypes = #[t,u]:=by cases hh:c.argTypes;simp_all
 simp only [wop] at hw
 generalize σ.ev ax = px at hx hw
 generalize σ.ev ay = py at hy hw
 have run:∀ v' w',(Builtin.append_ #[t,u] o.type #[a.eval x,a.eval y]).run P w = .ok v' w' → (execOp a.eval o).run P w = .ok (.value v') w':=by
  intro v' w' h
  simp [execOp,ho,resolve,hc,ea,et,invoke,builtin,h]
 have hl:∀ s:ByteArray,(s.data.toList.map fun b=>[L.int .u8 b.toNat]).length = s.size:=fun s=>by rw [List.length_map];exact Lib.strCells_length s ▸ (by simp [Lib.strCells])
 split at hw
 ·rename_i td tsz txs tsp s hdst
  obtain ⟨hb,hK⟩:=hw
  obtain ⟨A,cap,ex,hO⟩:=V_lst hx
  have ey:=V_str hy
  obtain ⟨rfl,rfl,rfl,rfl⟩:=hO
  obtain ⟨v',w',hrun,hown',hg,hat⟩:=aps_run (ty:=o.type) hu hus hi hz hs1 hb1 (World.ownsRow_nil w 0 e 1) s (by omega)
  refine app_fin (p:=plT td 0) (xs:=[]) (ys:=s.data.toList.map fun b=>[L.int .u8 b.toNat]) (vals:=[]) (v:=.slice none 0 0) hr hdst (hd td hdst) (fun b hb=>by simp [Value.ownBlock] at hb) (run v' w' (by rw [ex,ey];exact hrun)) (by rw [hl];exact hown') hg hat (fun i x hx=>by simp at hx) (by simp) (str_row s) ?_
  have:(fun x=>killP (plT td 0) (killP (plT td 0) x)) = killP (plT td 0):=funext (killP_killP _)
  rw [this]
  exact hK
 ·rename_i td p e' sz xs sp s hdst
  obtain ⟨rfl,rfl,hb,hK⟩:=hw
  obtain ⟨A,cap,ex,hO⟩:=V_lst hx
  have ey:=V_str hy
  obtain ⟨vals,hown,hrow,hlen,hblk⟩:=own_owns hO
  obtain ⟨v',w',hrun,hown',hg,hat⟩:=aps_run (ty:=o.type) hu hus hi hz hs1 hb1 hown s hb
  rw [mapAll_mapAll] at hK
  exact app_fin hr hdst (hd td hdst) hblk (run v' w' (by rw [ex,ey];exact hrun)) (by rw [hl];exact hown') hg hat hrow hlen (str_row s) hK
 ·exact hw.elim
end Go.Proofs.YthcpaohmajjopaaGreatDoor.AM
