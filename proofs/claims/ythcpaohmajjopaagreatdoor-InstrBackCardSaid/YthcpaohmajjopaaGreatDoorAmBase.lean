/- The abstract machine, part Base. -/
import Derived.WalkKit
import Derived.Below
import Derived.Maps.AppendAt
import Derived.Deep.Quiet
import Derived.Lib.Bytealg
set_option linter.unusedVariables false
set_option linter.unusedSimpArgs false
namespace Go.Proofs.YthcpaohmajjopaaGreatDoor.AM
open Go
inductive Tag where
 | ro
 | nl
 | own (p e:Nat)
 | vw (p:Nat)
inductive L where
 | undef
 | no
 | bool (b:Bool)
 | int (k:IntKind) (n:Int)
 | str (s:ByteArray)
 | lst (t:Tag) (sz:Nat) (xs sp:List (List L))
 | ptr (c off:Nat)
 | ep (t:Tag) (sz:Nat) (xs sp:List (List L)) (i off:Nat)
 | nilp
 | iface (t:Nat) (v:L)
 | nili
 | tptr (c off T:Nat)
 | it (p:Nat) (s:ByteArray) (i:Nat)
 | gl (g off:Nat)
 | fn (f:Nat) (a b:List L)
 | sl (c off sz len cap:Nat)
 | nilf
 | rp (cs:List L) (off:Nat)
 | ln (n:Nat)
inductive PV where
 | lf (x:L)
 | ag (cs:List L)
 | tp (vs:List PV)
inductive All2 {α β:Type} (R:α → β → Prop):List α → List β → Prop where
 | nil:All2 R [] []
 | cons {a:α} {b:β} {as:List α} {bs:List β}:R a b → All2 R as bs → All2 R (a :: as) (b :: bs)
theorem All2.imp {α β:Type} {R S:α → β → Prop} (h:∀ a b,R a b → S a b):∀ {as:List α} {bs:List β},All2 R as bs → All2 S as bs
 | _,_,.nil=>.nil
 | _,_,.cons h1 h2=>.cons (h _ _ h1) (All2.imp h h2)
theorem All2.length {α β:Type} {R:α → β → Prop}:∀ {as:List α} {bs:List β},All2 R as bs → as.length = bs.length
 | _,_,.nil=>rfl
 | _,_,.cons _ h=>by simp [All2.length h]
theorem All2.get {α β:Type} {R:α → β → Prop}:∀ {as:List α} {bs:List β},All2 R as bs → ∀ (i:Nat) (a:α),as[i]? = some a → ∃ b,bs[i]? = some b ∧ R a b
 | _,_,.nil,i,a,h=>by simp at h
 | _,_,.cons h1 h2,0,a,h=>by
  simp at h;subst h;exact ⟨_,by simp,h1⟩
 | _,_,.cons h1 h2,i + 1,a,h=>by
  simp at h
  obtain ⟨b,hb,hr⟩:=All2.get h2 i a h
  exact ⟨b,by simpa using hb,hr⟩
theorem All2.map_left {α β γ:Type} {R:α → β → Prop} {S:γ → β → Prop} (f:α → γ) (h:∀ a b,R a b → S (f a) b):∀ {as:List α} {bs:List β},All2 R as bs → All2 S (as.map f) bs
 | _,_,.nil=>.nil
 | _,_,.cons h1 h2=>.cons (h _ _ h1) (All2.map_left f h h2)
theorem All2.append {α β:Type} {R:α → β → Prop}:∀ {as:List α} {bs:List β} {cs:List α} {ds:List β},All2 R as bs → All2 R cs ds → All2 R (as ++ cs) (bs ++ ds)
 | _,_,_,_,.nil,h=>h
 | _,_,_,_,.cons h1 h2,h=>.cons h1 (All2.append h2 h)
theorem All2.take {α β:Type} {R:α → β → Prop}:∀ (n:Nat) {as:List α} {bs:List β},All2 R as bs → All2 R (as.take n) (bs.take n)
 | 0,_,_,_=>by simp;exact .nil
 | n + 1,_,_,.nil=>by simp;exact .nil
 | n + 1,_,_,.cons h1 h2=>by simp;exact .cons h1 (All2.take n h2)
theorem All2.drop {α β:Type} {R:α → β → Prop}:∀ (n:Nat) {as:List α} {bs:List β},All2 R as bs → All2 R (as.drop n) (bs.drop n)
 | 0,_,_,h=>by simpa using h
 | n + 1,_,_,.nil=>by simp;exact .nil
 | n + 1,_,_,.cons h1 h2=>by simp;exact All2.drop n h2
inductive D (Rb:Nat → Prop) (w:World):L → Value → Prop where
 | bool (b:Bool):D Rb w (.bool b) (.bool b)
 | int (k:IntKind) (n:Int):D Rb w (.int k n) (.int k n)
 | str (s:ByteArray):D Rb w (.str s) (.string s)
 | nilp:D Rb w .nilp (.pointer none)
 | nili:D Rb w .nili .nilIface
 | iface (t:Nat) (x:L) (v:Value):D Rb w x v → D Rb w (.iface t x) (.iface t v)
 | nilf:D Rb w .nilf .nilFunc
 | ln (n cap:Nat) (A:Option Addr) (hc:n ≤ cap) (hm:cap ≤ maxLen):D Rb w (.ln n) (.slice A n cap)
 | rp (cs:List L) (off b:Nat) (us:List Value) (hb:Rb b) (hlt:b < w.heap.size) (hl:cs.length = us.length)
   (hu:∀ (i:Nat) (u:Value),us[i]? = some u → w.cell? ⟨b,i,none⟩ = some u) (hd:∀ (i:Nat) (c:L) (u:Value),cs[i]? = some c → us[i]? = some u → D Rb w c u) :
   D Rb w (.rp cs off) (.pointer (some ⟨b,off,none⟩))
 | gl (g off:Nat):D Rb w (.gl g off) (.pointer (some ⟨g,off,none⟩))
 | fn (f:Nat) (a b:List L) (us vs:List Value) (h1:a.length = us.length) (h2:b.length = vs.length)
   (ha:∀ (i:Nat) (x:L) (u:Value),a[i]? = some x → us[i]? = some u → D Rb w x u) (hb:∀ (i:Nat) (x:L) (u:Value),b[i]? = some x → vs[i]? = some u → D Rb w x u) :
   D Rb w (.fn f a b) (.func (.func f) us.toArray vs.toArray)
 | lst (sz:Nat) (xs sp:List (List L)) (A:Option Addr) (cap:Nat) (us:Nat → Nat → Value)
   (hc:xs.length + sp.length ≤ cap) (hm:cap ≤ maxLen)
   (ha:0 < xs.length + sp.length → ∃ a,A = some a ∧ Rb a.block ∧ a.block < w.heap.size)
   (hs:∀ (i:Nat) (x:List L),(xs ++ sp)[i]? = some x → x.length = sz)
   (hu:∀ a,A = some a → ∀ (i:Nat) (x:List L) (j:Nat) (c:L),(xs ++ sp)[i]? = some x → x[j]? = some c → w.cell? (a.add (i * sz + j)) = some (us i j))
   (hd:∀ (i:Nat) (x:List L) (j:Nat) (c:L),(xs ++ sp)[i]? = some x → x[j]? = some c → D Rb w c (us i j)) :
   D Rb w (.lst .ro sz xs sp) (.slice A xs.length cap)
theorem add_block (a:Addr) (i:Nat):(a.add i).block = a.block:=by unfold Addr.add;split<;>rfl
theorem D.mono {Rb Rb':Nat → Prop} {w w':World} (h:∀ b,Rb b → b < w.heap.size → Rb' b ∧ w'.heap[b]? = w.heap[b]?) (hsz:w.heap.size ≤ w'.heap.size) {x:L} {v:Value} (hD:D Rb w x v):D Rb' w' x v:=by
 induction hD with
 | bool b=>exact .bool b
 | int k n=>exact .int k n
 | str s=>exact .str s
 | nilp=>exact .nilp
 | nili=>exact .nili
 | iface t x v _ ih=>exact .iface t x v ih
 | gl g off=>exact .gl g off
 | nilf=>exact .nilf
 | ln n cap A hc hm=>exact .ln n cap A hc hm
 | rp cs off b us hb hlt hl hu hd ih=>exact .rp cs off b us (h b hb hlt).1 (by omega) hl (fun i u hi=>(World.cell?_of_block (h b hb hlt).2).trans (hu i u hi)) ih
 | fn f a b us vs h1 h2 ha hb iha ihb=>exact .fn f a b us vs h1 h2 iha ihb
 | lst sz xs sp A cap us hc hm ha hs hu hd ih =>
  refine .lst sz xs sp A cap us hc hm (fun hp=>?_) hs (fun a hA i x j c hx hj=>?_) ih
  ·obtain ⟨a,h1,h2,h3⟩:=ha hp
   exact ⟨a,h1,(h _ h2 h3).1,by omega⟩
  ·have hp:0 < xs.length + sp.length:=by
    have:=(List.getElem?_eq_some_iff.1 hx).1
    simp at this;omega
   obtain ⟨a',h1,h2,h3⟩:=ha hp
   have e:a' = a:=by rw [hA] at h1;exact (Option.some.inj h1).symm
   subst e
   rw [← hu a' hA i x j c hx hj]
   exact World.cell?_of_block (by rw [add_block];exact (h _ h2 h3).2)
structure Env where
 rd:Nat → Prop
 κ:Nat → Option Nat
 ω:Nat → Option Nat
def Row (Rb:Nat → Prop) (w:World) (sz:Nat) (xs:List (List L)) (vals:List Value):Prop :=
 ∀ (i:Nat) (x:List L),xs[i]? = some x → x.length = sz ∧ ∀ (j:Nat) (c:L),x[j]? = some c → ∃ u,vals[i * sz + j]? = some u ∧ D Rb w c u
def OwnV (E:Env) (w:World) (p e sz:Nat) (xs sp:List (List L)) (A:Option Addr) (cap:Nat):Prop :=
 (A = none ∧ cap = 0 ∧ xs = [] ∧ sp = []) ∨
 ∃ g cur,A = some ⟨g,0,none⟩ ∧ E.ω p = some g ∧ w.heap[g]? = some (.cells cur e (0,0)) ∧ xs.length + sp.length ≤ cap ∧ cap ≤ maxLen ∧ cur.size = cap * sz ∧
  Row E.rd w sz (xs ++ sp) cur.toList
def VwV (E:Env) (w:World) (p sz:Nat) (xs sp:List (List L)) (A:Option Addr) (cap:Nat):Prop :=
 xs.length + sp.length ≤ cap ∧ cap ≤ maxLen ∧ ((A = none ∧ cap = 0 ∧ xs = [] ∧ sp = []) ∨
 ∃ g off cur e,A = some ⟨g,off,none⟩ ∧ E.ω p = some g ∧ w.heap[g]? = some (.cells cur e (0,0)) ∧ off + cap * sz ≤ cur.size ∧ Row E.rd w sz (xs ++ sp) (cur.toList.drop off))
def HdrV (E:Env) (w:World) (t:Tag) (sz:Nat) (xs sp:List (List L)) (A:Option Addr) (cap:Nat):Prop :=
 match t with
 | .ro=>D E.rd w (.lst .ro sz xs sp) (.slice A xs.length cap)
 | .nl=>A = none ∧ cap = 0 ∧ xs = [] ∧ sp = []
 | .own p e=>OwnV E w p e sz xs sp A cap
 | .vw p=>VwV E w p sz xs sp A cap
def CapV (E:Env) (w:World) (x:L) (v:Value):Prop :=
 match x with
 | .tptr c off T=>∃ b u,E.κ c = some b ∧ v = .pointer (some ⟨b,off,none⟩) ∧ w.heap[b]? = some (.cells u T (0,0))
 | .ptr c off=>∃ b,E.κ c = some b ∧ v = .pointer (some ⟨b,off,none⟩)
 | x=>D E.rd w x v
def LeafV (E:Env) (w:World) (x:L) (v:Value):Prop :=
 match x with
 | .tptr c off T=>∃ b u,E.κ c = some b ∧ v = .pointer (some ⟨b,off,none⟩) ∧ w.heap[b]? = some (.cells u T (0,0))
 | .it p s i=>∃ g,E.ω p = some g ∧ w.heap[g]? = some (.stringIter s i) ∧ v = .pointer (some ⟨g,0,none⟩)
 | .sl c off _ len cap=>∃ b,E.κ c = some b ∧ v = .slice (some ⟨b,off,none⟩) len cap ∧ len ≤ cap ∧ cap ≤ maxLen
 | .fn f a b=>∃ us vs:List Value,v = .func (.func f) us.toArray vs.toArray ∧ All2 (CapV E w) a us ∧ All2 (CapV E w) b vs
 | .undef=>True
 | .no=>v = Go.undef
 | .lst t sz xs sp=>∃ A cap,v = .slice A xs.length cap ∧ HdrV E w t sz xs sp A cap
 | .ptr c off=>∃ b,E.κ c = some b ∧ v = .pointer (some ⟨b,off,none⟩)
 | .ep t sz xs sp i off=>∃ a cap,HdrV E w t sz xs sp (some a) cap ∧ i < xs.length ∧ v = .pointer (some (a.add (i * sz + off)))
 | x=>D E.rd w x v
def V1 (E:Env) (w:World) (x:PV) (v:Value):Prop :=
 match x with
 | .lf x=>LeafV E w x v
 | .ag cs=>∃ vs:List Value,v = .agg vs.toArray ∧ All2 (LeafV E w) cs vs
 | .tp _=>False
def V (E:Env) (w:World) (x:PV) (v:Value):Prop :=
 match x with
 | .tp xs=>∃ vs:List Value,v = .tuple vs.toArray ∧ All2 (V1 E w) xs vs
 | x=>V1 E w x v
structure Step (E:Env) (w:World) (E':Env) (w':World) (Pk Ck:Nat → Prop):Prop where
 size:w.heap.size ≤ w'.heap.size
 ro:∀ b,b < w.heap.size → E.rd b → E'.rd b ∧ w'.heap[b]? = w.heap[b]?
 ow:∀ p b,¬ Pk p → E.ω p = some b → E'.ω p = some b ∧ w'.heap[b]? = w.heap[b]?
 ce:∀ c b,¬ Ck c → E.κ c = some b → E'.κ c = some b
 ty:∀ c b u T,¬ Ck c → E.κ c = some b → w.heap[b]? = some (.cells u T (0,0)) → ∃ u',w'.heap[b]? = some (.cells u' T (0,0))
theorem Row.step {E E':Env} {w w':World} {Pk Ck:Nat → Prop} (S:Step E w E' w' Pk Ck) {sz:Nat} {xs:List (List L)} {vals:List Value} (h:Row E.rd w sz xs vals):Row E'.rd w' sz xs vals:=by
 intro i x hx
 obtain ⟨h1,h2⟩:=h i x hx
 refine ⟨h1,fun j c hc=>?_⟩
 obtain ⟨u,hu,hd⟩:=h2 j c hc
 exact ⟨u,hu,hd.mono (fun b hb hlt=>S.ro b hlt hb) S.size⟩
def Tag.free (Pk:Nat → Prop):Tag → Prop
 | .own p _=>¬ Pk p
 | .vw p=>¬ Pk p
 | _=>True
theorem HdrV.step {E E':Env} {w w':World} {Pk Ck:Nat → Prop} (S:Step E w E' w' Pk Ck) {t:Tag} (ht:t.free Pk) {sz:Nat} {xs sp:List (List L)} {A:Option Addr} {cap:Nat}
  (h:HdrV E w t sz xs sp A cap):HdrV E' w' t sz xs sp A cap:=by
 cases t with
 | ro=>exact D.mono (fun b hb hlt=>S.ro b hlt hb) S.size h
 | nl=>exact h
 | own p e =>
  rcases h with h | ⟨g,cur,h1,h2,h3,h4,h5,h6,h7⟩
  ·exact .inl h
  ·obtain ⟨k1,k2⟩:=S.ow p g ht h2
   exact .inr ⟨g,cur,h1,k1,k2.trans h3,h4,h5,h6,h7.step S⟩
 | vw p =>
  obtain ⟨k1,k2,h | ⟨g,off,cur,e,h1,h2,h3,h4⟩⟩:=h
  ·exact ⟨k1,k2,.inl h⟩
  ·obtain ⟨q1,q2⟩:=S.ow p g ht h2
   exact ⟨k1,k2,.inr ⟨g,off,cur,e,h1,q1,q2.trans h3,h4.1,h4.2.step S⟩⟩
def cellOf:L → Option Nat
 | .ptr c _=>some c
 | .tptr c _ _=>some c
 | _=>none
def leafFree (Pk Ck:Nat → Prop):L → Prop
 | .lst t _ _ _=>t.free Pk
 | .ep t _ _ _ _ _=>t.free Pk
 | .ptr c _=>¬ Ck c
 | .tptr c _ _=>¬ Ck c
 | .sl c _ _ _ _=>¬ Ck c
 | .it p _ _=>¬ Pk p
 | .fn _ a b=>∀ c x,(x ∈ a ∨ x ∈ b) → cellOf x = some c → ¬ Ck c
 | _=>True
theorem All2.imp_mem {α β:Type} {R S:α → β → Prop}:∀ {as:List α} {bs:List β},(∀ a b,a ∈ as → R a b → S a b) → All2 R as bs → All2 S as bs
 | _,_,_,.nil=>.nil
 | _,_,h,.cons h1 h2=>.cons (h _ _ (List.mem_cons_self ..) h1) (All2.imp_mem (fun a b ha=>h a b (List.mem_cons_of_mem _ ha)) h2)
theorem CapV.step {E E':Env} {w w':World} {Pk Ck:Nat → Prop} (S:Step E w E' w' Pk Ck) {x:L} {v:Value} (hf:∀ c,cellOf x = some c → ¬ Ck c) (h:CapV E w x v):CapV E' w' x v:=by
 cases x
 case ptr c off =>
  obtain ⟨b,h1,h2⟩:=h
  exact ⟨b,S.ce c b (hf c rfl) h1,h2⟩
 case tptr c off T =>
  obtain ⟨b,u,h1,h2,h3⟩:=h
  obtain ⟨u',h4⟩:=S.ty c b u T (hf c rfl) h1 h3
  exact ⟨b,u',S.ce c b (hf c rfl) h1,h2,h4⟩
 all_goals exact D.mono (fun b hb hlt=>S.ro b hlt hb) S.size h
theorem LeafV.step {E E':Env} {w w':World} {Pk Ck:Nat → Prop} (S:Step E w E' w' Pk Ck) {x:L} {v:Value} (hf:leafFree Pk Ck x) (h:LeafV E w x v):LeafV E' w' x v:=by
 cases x with
 | undef=>trivial
 | no=>exact h
 | lst t sz xs sp =>
  obtain ⟨A,cap,h1,h2⟩:=h
  exact ⟨A,cap,h1,h2.step S hf⟩
 | ptr c off =>
  obtain ⟨b,h1,h2⟩:=h
  exact ⟨b,S.ce c b hf h1,h2⟩
 | ep t sz xs sp i off =>
  obtain ⟨a,cap,h1,h2,h3⟩:=h
  exact ⟨a,cap,h1.step S hf,h2,h3⟩
 | tptr c off T =>
  obtain ⟨b,u,h1,h2,h3⟩:=h
  obtain ⟨u',h4⟩:=S.ty c b u T hf h1 h3
  exact ⟨b,u',S.ce c b hf h1,h2,h4⟩
 | it p s i =>
  obtain ⟨g,h1,h2,h3⟩:=h
  obtain ⟨k1,k2⟩:=S.ow p g hf h1
  exact ⟨g,k1,k2.trans h2,h3⟩
 | sl c off sz len cap =>
  obtain ⟨b,h1,h2⟩:=h
  exact ⟨b,S.ce c b hf h1,h2⟩
 | gl g off=>exact D.mono (fun b hb hlt=>S.ro b hlt hb) S.size h
 | fn f a b =>
  obtain ⟨us,vs,h1,h2,h3⟩:=h
  exact ⟨us,vs,h1,h2.imp_mem (fun x v hx hv=>hv.step S (fun c e=>hf c x (.inl hx) e)),h3.imp_mem (fun x v hx hv=>hv.step S (fun c e=>hf c x (.inr hx) e))⟩
 | bool b=>exact D.mono (fun b hb hlt=>S.ro b hlt hb) S.size h
 | int k n=>exact D.mono (fun b hb hlt=>S.ro b hlt hb) S.size h
 | str s=>exact D.mono (fun b hb hlt=>S.ro b hlt hb) S.size h
 | nilp=>exact D.mono (fun b hb hlt=>S.ro b hlt hb) S.size h
 | iface t v=>exact D.mono (fun b hb hlt=>S.ro b hlt hb) S.size h
 | nili=>exact D.mono (fun b hb hlt=>S.ro b hlt hb) S.size h
 | nilf=>exact D.mono (fun b hb hlt=>S.ro b hlt hb) S.size h
 | ln n=>exact D.mono (fun b hb hlt=>S.ro b hlt hb) S.size h
 | rp cs off=>exact D.mono (fun b hb hlt=>S.ro b hlt hb) S.size h
def mapL1 (f:L → L):PV → PV
 | .lf x=>.lf (f x)
 | .ag cs=>.ag (cs.map f)
 | .tp vs=>.tp vs
def mapL (f:L → L):PV → PV
 | .tp vs=>.tp (vs.map (mapL1 f))
 | v=>mapL1 f v
theorem V1.map {E E':Env} {w w':World} {f:L → L} (h:∀ x v,LeafV E w x v → LeafV E' w' (f x) v) {x:PV} {v:Value} (hV:V1 E w x v):V1 E' w' (mapL1 f x) v:=by
 cases x with
 | lf x=>exact h _ _ hV
 | ag cs =>
  obtain ⟨vs,h1,h2⟩:=hV
  exact ⟨vs,h1,h2.map_left f h⟩
 | tp vs=>exact hV.elim
theorem V.map {E E':Env} {w w':World} {f:L → L} (h:∀ x v,LeafV E w x v → LeafV E' w' (f x) v) {x:PV} {v:Value} (hV:V E w x v):V E' w' (mapL f x) v:=by
 cases x with
 | lf x=>exact V1.map h (x:=.lf x) hV
 | ag cs=>exact V1.map h (x:=.ag cs) hV
 | tp vs =>
  obtain ⟨us,h1,h2⟩:=hV
  exact ⟨us,h1,h2.map_left _ (fun x v hx=>V1.map h hx)⟩
theorem D.cap {E:Env} {w:World} {x:L} {v:Value} (h:D E.rd w x v):CapV E w x v:=by
 cases x<;>first | exact h | cases h
theorem All2.of_get {α β:Type} {R:α → β → Prop}:∀ {as:List α} {bs:List β},as.length = bs.length → (∀ (i:Nat) (a:α) (b:β),as[i]? = some a → bs[i]? = some b → R a b) → All2 R as bs
 | [],[],_,_=>.nil
 | [],_ :: _,h,_=>by simp at h
 | _ :: _,[],h,_=>by simp at h
 | a :: as,b :: bs,h,f=>.cons (f 0 a b rfl rfl) (All2.of_get (by simpa using h) fun i x y hx hy=>f (i + 1) x y (by simpa using hx) (by simpa using hy))
theorem D.leaf {E:Env} {w:World} {x:L} {v:Value} (h:D E.rd w x v):LeafV E w x v:=by
 cases h with
 | lst sz xs sp A cap us hc hm ha hs hu hd=>exact ⟨A,cap,rfl,.lst sz xs sp A cap us hc hm ha hs hu hd⟩
 | bool b=>exact .bool b
 | int k n=>exact .int k n
 | str s=>exact .str s
 | nilp=>exact .nilp
 | nili=>exact .nili
 | iface t x v h=>exact .iface t x v h
 | gl g off=>exact .gl g off
 | nilf=>exact .nilf
 | ln n cap A hc hm=>exact .ln n cap A hc hm
 | rp cs off b us hb hlt hl hu hd=>exact .rp cs off b us hb hlt hl hu hd
 | fn f a b us vs h1 h2 ha hb=>exact ⟨us,vs,rfl,.of_get h1 (fun i x u hx hu=>(ha i x u hx hu).cap),.of_get h2 (fun i x u hx hu=>(hb i x u hx hu).cap)⟩
theorem cell_of_cells {w:World} {g:Nat} {cur:Array Value} {e:TypeId} {f:Nat × Nat} (h:w.heap[g]? = some (.cells cur e f)) (i:Nat):w.cell? ⟨g,i,none⟩ = cur[i]?:=by
 simp [World.cell?,h]
theorem add_cell (g o j:Nat):(⟨g,o,none⟩:Addr).add j = ⟨g,o + j,none⟩:=by unfold Addr.add;split<;>simp_all
theorem HdrV.read {E:Env} {w:World} {t:Tag} {sz:Nat} {xs sp:List (List L)} {A:Option Addr} {cap:Nat} (h:HdrV E w t sz xs sp A cap) {i:Nat} {x:List L} (hx:(xs ++ sp)[i]? = some x) :
  x.length = sz ∧ ∃ a,A = some a ∧ ∀ (j:Nat) (c:L),x[j]? = some c → ∃ u,w.cell? (a.add (i * sz + j)) = some u ∧ D E.rd w c u:=by
 have hlt:=(List.getElem?_eq_some_iff.1 hx).1
 have hp:0 < xs.length + sp.length:=by simp at hlt;omega
 cases t with
 | ro =>
  cases h with
  | lst _ _ _ _ _ us hc hm ha hs hu hd =>
   obtain ⟨a,h1,h2,h3⟩:=ha hp
   exact ⟨hs i x hx,a,h1,fun j c hj=>⟨us i j,hu a h1 i x j c hx hj,hd i x j c hx hj⟩⟩
 | nl =>
  obtain ⟨_,_,rfl,rfl⟩:=h
  simp at hx
 | own p e =>
  rcases h with ⟨_,_,rfl,rfl⟩ | ⟨g,cur,h1,h2,h3,h4,h5,h6,h7⟩
  ·simp at hx
  ·obtain ⟨k1,k2⟩:=h7 i x hx
   refine ⟨k1,_,h1,fun j c hj=>?_⟩
   obtain ⟨u,hu,hd⟩:=k2 j c hj
   exact ⟨u,by rw [add_cell,cell_of_cells h3];simpa using hu,hd⟩
 | vw p =>
  obtain ⟨_,_,⟨_,_,rfl,rfl⟩ | ⟨g,off,cur,e,h1,h2,h3,_,h7⟩⟩:=h
  ·simp at hx
  ·obtain ⟨k1,k2⟩:=h7 i x hx
   refine ⟨k1,_,h1,fun j c hj=>?_⟩
   obtain ⟨u,hu,hd⟩:=k2 j c hj
   refine ⟨u,?_,hd⟩
   rw [add_cell,cell_of_cells h3]
   simpa using hu
theorem HdrV.le {E:Env} {w:World} {t:Tag} {sz:Nat} {xs sp:List (List L)} {A:Option Addr} {cap:Nat} (h:HdrV E w t sz xs sp A cap):xs.length + sp.length ≤ cap ∧ cap ≤ maxLen:=by
 cases t with
 | ro=>cases h with
  | lst _ _ _ _ _ us hc hm ha hs hu hd=>exact ⟨hc,hm⟩
 | nl=>obtain ⟨_,rfl,rfl,rfl⟩:=h;simp
 | own p e =>
  rcases h with ⟨_,rfl,rfl,rfl⟩ | ⟨g,cur,h1,h2,h3,h4,h5,h6,h7⟩
  ·simp
  ·exact ⟨h4,h5⟩
 | vw p=>exact ⟨h.1,h.2.1⟩
end Go.Proofs.YthcpaohmajjopaaGreatDoor.AM
