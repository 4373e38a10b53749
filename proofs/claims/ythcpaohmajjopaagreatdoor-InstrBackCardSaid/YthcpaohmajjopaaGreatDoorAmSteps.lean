/- The abstract machine, part Steps. -/
import Derived.Test.YthcpaohmajjopaaGreatDoorAmRel
set_option linter.unusedVariables false
set_option linter.unusedSimpArgs false
namespace Go.Proofs.YthcpaohmajjopaaGreatDoor.AM
open Go
def upd (f:Nat → Option Nat) (p:Nat) (v:Option Nat):Nat → Option Nat:=fun q=>if q = p then v else f q
theorem upd_ne (f:Nat → Option Nat) {p q:Nat} (v:Option Nat) (h:q ≠ p):upd f p v q = f q:=by simp [upd,h]
theorem tagK_free {p:Nat} {t:Tag} (h:tagK p t = false):t.free (fun q=>q = p):=by
 cases t with
 | own q e=>simpa [tagK,Tag.free] using h
 | vw q=>simpa [tagK,Tag.free] using h
 | _=>trivial
theorem killP_step {E E':Env} {w w':World} {p:Nat} (S:Step E w E' w' (fun q=>q = p) (fun _=>False)) (x:L) (v:Value) (h:LeafV E w x v):LeafV E' w' (killP p x) v:=by
 have gen:∀ y:L,leafFree (fun q=>q = p) (fun _=>False) y → LeafV E w y v → LeafV E' w' y v:=fun y hf hy=>hy.step S hf
 cases x with
 | lst t sz xs sp =>
  simp only [killP]
  split
  ·trivial
  ·rename_i hk
   exact gen _ (tagK_free (by simpa using hk)) h
 | ep t sz xs sp i o =>
  simp only [killP]
  split
  ·trivial
  ·rename_i hk
   exact gen _ (tagK_free (by simpa using hk)) h
 | ptr c o=>exact gen _ (fun h=>h) h
 | tptr c o T=>exact gen _ (fun h=>h) h
 | sl c o z l cp=>exact gen _ (fun h=>h) h
 | it q s i =>
  simp only [killP]
  split
  ·trivial
  ·rename_i hk
   exact gen _ (show ¬ q = p by simpa using hk) h
 | gl g o=>exact gen _ trivial h
 | fn f a b=>exact gen _ (fun _ _ _ _ h=>h) h
 | undef=>trivial
 | no=>exact h
 | bool b=>exact gen _ trivial h
 | int k n=>exact gen _ trivial h
 | str s=>exact gen _ trivial h
 | nilp=>exact gen _ trivial h
 | iface t v=>exact gen _ trivial h
 | nili=>exact gen _ trivial h
 | nilf=>exact gen _ trivial h
 | ln _=>exact gen _ trivial h
 | rp _ _=>exact gen _ trivial h
theorem isPtrC_any {c:Nat} {a:List L} (h:a.any (isPtrC c) = false):∀ c' x,x ∈ a → cellOf x = some c' → ¬ c' = c:=by
 intro c' x hm e
 have:=List.any_eq_false.1 h _ hm
 cases x<;>simp only [cellOf,Option.some.injEq,reduceCtorEq] at e
 all_goals
  subst e
  simpa [isPtrC] using this
theorem killC_step {E E':Env} {w w':World} {c:Nat} (S:Step E w E' w' (fun _=>False) (fun c'=>c' = c)) (x:L) (v:Value) (h:LeafV E w x v):LeafV E' w' (killC c x) v:=by
 have gen:∀ y:L,leafFree (fun _=>False) (fun c'=>c' = c) y → LeafV E w y v → LeafV E' w' y v:=fun y hf hy=>hy.step S hf
 have tf:∀ t:Tag,t.free (fun _=>False):=fun t=>by cases t<;>simp [Tag.free]
 cases x with
 | lst t sz xs sp=>exact gen _ (tf t) h
 | ep t sz xs sp i o=>exact gen _ (tf t) h
 | ptr c' o =>
  simp only [killC]
  split
  ·trivial
  ·rename_i hk
   exact gen _ (show ¬ c' = c by simpa using hk) h
 | tptr c' o T =>
  simp only [killC]
  split
  ·trivial
  ·rename_i hk
   exact gen _ (show ¬ c' = c by simpa using hk) h
 | sl c' o z l cp =>
  simp only [killC]
  split
  ·trivial
  ·rename_i hk
   exact gen _ (show ¬ c' = c by simpa using hk) h
 | it q s i=>exact gen _ (fun h=>h) h
 | gl g o=>exact gen _ trivial h
 | fn f a b =>
  simp only [killC]
  split
  ·trivial
  ·rename_i hk
   simp only [Bool.or_eq_true,not_or,Bool.not_eq_true] at hk
   exact gen _ (fun c' y hm e=>by
    rcases hm with hm | hm
    ·exact isPtrC_any hk.1 c' y hm e
    ·exact isPtrC_any hk.2 c' y hm e) h
 | undef=>trivial
 | no=>exact h
 | bool b=>exact gen _ trivial h
 | int k n=>exact gen _ trivial h
 | str s=>exact gen _ trivial h
 | nilp=>exact gen _ trivial h
 | iface t v=>exact gen _ trivial h
 | nili=>exact gen _ trivial h
 | nilf=>exact gen _ trivial h
 | ln _=>exact gen _ trivial h
 | rp _ _=>exact gen _ trivial h
theorem LeafV.keep {E E':Env} {w w':World} (S:Step E w E' w' (fun _=>False) (fun _=>False)) (x:L) (v:Value) (h:LeafV E w x v):LeafV E' w' x v:=by
 have tf:∀ t:Tag,t.free (fun _=>False):=fun t=>by cases t<;>simp [Tag.free]
 refine h.step S ?_
 cases x<;>first | exact tf _ | trivial | exact fun h=>h | exact fun _ _ _ _ h=>h
def Env.own (E:Env) (p b:Nat):Env:={ rd:=fun x=>E.rd x ∧ x ≠ b,κ:=E.κ,ω:=upd E.ω p (some b) }
def Env.cell (E:Env) (c b:Nat):Env:={ rd:=fun x=>E.rd x ∧ x ≠ b,κ:=upd E.κ c (some b),ω:=E.ω }
theorem own_step {m:Nat} {E:Env} {w w':World} (h:Inj E w) (U:Unch (fun _=>False) w w') {p b:Nat} (h1:w.heap.size ≤ b) (h2:b < w'.heap.size) :
  WStep m E w (E.own p b) w' ∧ Step E w (E.own p b) w' (fun q=>q = p) (fun _=>False):=by
 have hsz:=U.size
 refine ⟨⟨⟨U.os,U.tape,U.output,U.size,fun x hx _=>U.block x hx (fun h=>h)⟩,⟨h.kk,?_,?_,?_,?_⟩,fun x hx=>.inl hx.1,fun x hx hlt=>⟨hx,by omega⟩,?_,fun c x hx=>.inr ⟨c,hx⟩,fun _ _=>rfl,fun c x u T _ hc hu=>⟨u,(U.block x (h.kr c x hc).2 (fun h=>h)).trans hu⟩⟩,⟨U.size,?_,?_,fun c x _ hx=>hx,fun c x u T _ hc hu=>⟨u,(U.block x (h.kr c x hc).2 (fun h=>h)).trans hu⟩⟩⟩
 ·intro q q' x hq hq'
  simp only [Env.own,upd] at hq hq'
  split at hq<;>split at hq'
  ·omega
  ·obtain rfl:=Option.some.inj hq
   have:=(h.wr q' _ hq').2;omega
  ·obtain rfl:=Option.some.inj hq'
   have:=(h.wr q _ hq).2;omega
  ·exact h.ww q q' x hq hq'
 ·intro c q x hc hq
  simp only [Env.own,upd] at hc hq
  split at hq
  ·obtain rfl:=Option.some.inj hq
   have:=(h.kr c _ hc).2;omega
  ·exact h.kw c q x hc hq
 ·intro c x hc
  have:=h.kr c x hc
  exact ⟨fun hx=>this.1 hx.1,by omega⟩
 ·intro q x hq
  simp only [Env.own,upd] at hq
  split at hq
  ·obtain rfl:=Option.some.inj hq
   exact ⟨fun hx=>hx.2 rfl,h2⟩
  ·have:=h.wr q x hq
   exact ⟨fun hx=>this.1 hx.1,by omega⟩
 ·intro q x hq
  simp only [Env.own,upd] at hq
  split at hq
  ·obtain rfl:=Option.some.inj hq
   exact .inl h1
  ·exact .inr ⟨q,hq⟩
 ·intro x hx hrd
  exact ⟨⟨hrd,by omega⟩,U.block x hx (fun h=>h)⟩
 ·intro q x hq hx
  refine ⟨by simp only [Env.own];rw [upd_ne _ _ hq];exact hx,U.block x (h.wr q x hx).2 (fun h=>h)⟩
theorem cell_step {m:Nat} {E:Env} {w w':World} (h:Inj E w) (U:Unch (fun _=>False) w w') {c b:Nat} (hm:m ≤ c) (h1:w.heap.size ≤ b) (h2:b < w'.heap.size) :
  WStep m E w (E.cell c b) w' ∧ Step E w (E.cell c b) w' (fun _=>False) (fun c'=>c' = c):=by
 have hsz:=U.size
 refine ⟨⟨⟨U.os,U.tape,U.output,U.size,fun x hx _=>U.block x hx (fun h=>h)⟩,⟨?_,h.ww,?_,?_,?_⟩,fun x hx=>.inl hx.1,fun x hx hlt=>⟨hx,by omega⟩,fun q x hq=>.inr ⟨q,hq⟩,?_,fun c' hc'=>by simp only [Env.cell];exact upd_ne _ _ (by omega),fun c x u T _ hc hu=>⟨u,(U.block x (h.kr c x hc).2 (fun h=>h)).trans hu⟩⟩,
  ⟨U.size,?_,fun q x _ hx=>⟨hx,U.block x (h.wr q x hx).2 (fun h=>h)⟩,fun c' x hc' hx=>by simp only [Env.cell];rw [upd_ne _ _ hc'];exact hx,fun c x u T _ hc hu=>⟨u,(U.block x (h.kr c x hc).2 (fun h=>h)).trans hu⟩⟩⟩
 ·intro q q' x hq hq'
  simp only [Env.cell,upd] at hq hq'
  split at hq<;>split at hq'
  ·omega
  ·obtain rfl:=Option.some.inj hq
   have:=(h.kr q' _ hq').2;omega
  ·obtain rfl:=Option.some.inj hq'
   have:=(h.kr q _ hq).2;omega
  ·exact h.kk q q' x hq hq'
 ·intro c' q x hc hq
  simp only [Env.cell,upd] at hc hq
  split at hc
  ·obtain rfl:=Option.some.inj hc
   have:=(h.wr q _ hq).2;omega
  ·exact h.kw c' q x hc hq
 ·intro q x hq
  simp only [Env.cell,upd] at hq
  split at hq
  ·obtain rfl:=Option.some.inj hq
   exact ⟨fun hx=>hx.2 rfl,h2⟩
  ·have:=h.kr q x hq
   exact ⟨fun hx=>this.1 hx.1,by omega⟩
 ·intro q x hq
  have:=h.wr q x hq
  exact ⟨fun hx=>this.1 hx.1,by omega⟩
 ·intro q x hq
  simp only [Env.cell,upd] at hq
  split at hq
  ·obtain rfl:=Option.some.inj hq
   exact .inl h1
  ·exact .inr ⟨q,hq⟩
 ·intro x hx hrd
  exact ⟨⟨hrd,by omega⟩,U.block x hx (fun h=>h)⟩
theorem ext_step {m:Nat} {E:Env} {w w':World} (h:Inj E w) (U:Unch (fun _=>False) w w'):WStep m E w E w' ∧ Step E w E w' (fun _=>False) (fun _=>False):=by
 have hsz:=U.size
 refine ⟨⟨⟨U.os,U.tape,U.output,U.size,fun x hx _=>U.block x hx (fun h=>h)⟩,⟨h.kk,h.ww,h.kw,fun c b hc=>⟨(h.kr c b hc).1,by have:=(h.kr c b hc).2;omega⟩,fun c b hc=>⟨(h.wr c b hc).1,by have:=(h.wr c b hc).2;omega⟩⟩,fun _ h=>.inl h,fun _ h _=>h,fun p _ h=>.inr ⟨p,h⟩,fun c _ h=>.inr ⟨c,h⟩,fun _ _=>rfl,fun c x u T _ hc hu=>⟨u,(U.block x (h.kr c x hc).2 (fun h=>h)).trans hu⟩⟩,
  ⟨U.size,fun b hb hr=>⟨hr,U.block b hb (fun h=>h)⟩,fun q b _ hq=>⟨hq,U.block b (h.wr q b hq).2 (fun h=>h)⟩,fun _ _ _ h=>h,fun c x u T _ hc hu=>⟨u,(U.block x (h.kr c x hc).2 (fun h=>h)).trans hu⟩⟩⟩
theorem write_step {m:Nat} {E:Env} {w w':World} (h:Inj E w) {b0:Nat} (hN:E.N b0) (hos:w'.os = w.os) (htp:w'.tape = w.tape) (hou:w'.output = w.output) (hsz:w'.heap.size = w.heap.size) (hb:∀ b,b ≠ b0 → w'.heap[b]? = w.heap[b]?)
  (hty:∀ c u T,E.κ c = some b0 → w.heap[b0]? = some (.cells u T (0,0)) → ∃ u',w'.heap[b0]? = some (.cells u' T (0,0))) :
  WStep m E w E w' ∧ Step E w E w' (fun p=>E.ω p = some b0) (fun _=>False):=by
 have ty:∀ c x u T,E.κ c = some x → w.heap[x]? = some (.cells u T (0,0)) → ∃ u',w'.heap[x]? = some (.cells u' T (0,0)):=by
  intro c x u T hc hu
  by_cases e:x = b0
  ·subst e;exact hty c u T hc hu
  ·exact ⟨u,(hb x e).trans hu⟩
 refine ⟨⟨⟨hos,htp,hou,by omega,fun b hlt hn=>hb b (fun e=>hn (e ▸ hN))⟩,⟨h.kk,h.ww,h.kw,fun c b hc=>⟨(h.kr c b hc).1,by have:=(h.kr c b hc).2;omega⟩,fun c b hc=>⟨(h.wr c b hc).1,by have:=(h.wr c b hc).2;omega⟩⟩,fun _ h=>.inl h,fun _ h _=>h,fun p _ h=>.inr ⟨p,h⟩,fun c _ h=>.inr ⟨c,h⟩,fun _ _=>rfl,fun c x u T _=>ty c x u T⟩,
  ⟨by omega,fun b hlt hr=>⟨hr,hb b ?_⟩,fun q b hq hx=>⟨hx,hb b ?_⟩,fun _ _ _ h=>h,fun c x u T _=>ty c x u T⟩⟩
 ·rintro rfl
  rcases hN with ⟨c,hc⟩ | ⟨p,hp⟩
  ·exact (h.kr c b hc).1 hr
  ·exact (h.wr p b hp).1 hr
 ·rintro rfl
  exact hq hx
def Env.ren (E:Env) (q p:Nat):Env:={ E with ω:=upd (upd E.ω q none) p (E.ω q) }
theorem ren_ws {m:Nat} {E:Env} {w:World} (h:Inj E w) {q p:Nat}:WStep m E w (E.ren q p) w:=by
 have key:∀ r x,(E.ren q p).ω r = some x → (r = p ∧ E.ω q = some x) ∨ (r ≠ p ∧ r ≠ q ∧ E.ω r = some x):=by
  intro r x hr
  simp only [Env.ren,upd] at hr
  split at hr
  ·exact .inl ⟨‹_›,hr⟩
  ·split at hr
   ·cases hr
   ·exact .inr ⟨‹_›,‹_›,hr⟩
 refine ⟨Unch.refl _ _,⟨h.kk,?_,?_,h.kr,?_⟩,fun _ h=>.inl h,fun _ h _=>h,?_,fun c _ h=>.inr ⟨c,h⟩,fun _ _=>rfl,fun _ _ u _ _ _ hu=>⟨u,hu⟩⟩
 ·intro r r' x hr hr'
  rcases key r x hr with ⟨e1,h1⟩ | ⟨e1,e2,h1⟩<;>rcases key r' x hr' with ⟨e3,h3⟩ | ⟨e3,e4,h3⟩
  ·omega
  ·exact absurd (h.ww _ _ _ h1 h3).symm e4
  ·exact absurd (h.ww _ _ _ h3 h1).symm e2
  ·exact h.ww _ _ _ h1 h3
 ·intro c r x hc hr
  rcases key r x hr with ⟨e1,h1⟩ | ⟨e1,e2,h1⟩
  ·exact h.kw c q x hc h1
  ·exact h.kw c r x hc h1
 ·intro r x hr
  rcases key r x hr with ⟨e1,h1⟩ | ⟨e1,e2,h1⟩
  ·exact h.wr q x h1
  ·exact h.wr r x h1
 ·intro r x hr
  rcases key r x hr with ⟨e1,h1⟩ | ⟨e1,e2,h1⟩
  ·exact .inr ⟨q,h1⟩
  ·exact .inr ⟨r,h1⟩
theorem ren_hdr {E:Env} {w:World} {q p:Nat} (hqp:q ≠ p) {t:Tag} (hp:tagK p t = false) {sz:Nat} {xs sp:List (List L)} {A:Option Addr} {cap:Nat} (h:HdrV E w t sz xs sp A cap):HdrV (E.ren q p) w (tagR q p t) sz xs sp A cap:=by
 have ho:(E.ren q p).ω p = E.ω q:=by simp [Env.ren,upd]
 have hn:∀ r,r ≠ p → r ≠ q → (E.ren q p).ω r = E.ω r:=fun r h1 h2=>by simp [Env.ren,upd,h1,h2]
 cases t with
 | ro=>exact h
 | nl=>exact h
 | own r e =>
  have hr:r ≠ p:=by simpa [tagK] using hp
  simp only [tagR]
  by_cases hq:r = q
  ·subst hq
   simp only [beq_self_eq_true,if_true]
   rcases h with h | ⟨g,cur,h1,h2,h3⟩
   ·exact .inl h
   ·exact .inr ⟨g,cur,h1,by rw [ho];exact h2,h3⟩
  ·rw [if_neg (by simpa using hq)]
   rcases h with h | ⟨g,cur,h1,h2,h3⟩
   ·exact .inl h
   ·exact .inr ⟨g,cur,h1,by rw [hn r hr hq];exact h2,h3⟩
 | vw r =>
  have hr:r ≠ p:=by simpa [tagK] using hp
  simp only [tagR]
  by_cases hq:r = q
  ·subst hq
   simp only [beq_self_eq_true,if_true]
   obtain ⟨k1,k2,h | ⟨g,off,cur,e,h1,h2,h3⟩⟩:=h
   ·exact ⟨k1,k2,.inl h⟩
   ·exact ⟨k1,k2,.inr ⟨g,off,cur,e,h1,by rw [ho];exact h2,h3⟩⟩
  ·rw [if_neg (by simpa using hq)]
   obtain ⟨k1,k2,h | ⟨g,off,cur,e,h1,h2,h3⟩⟩:=h
   ·exact ⟨k1,k2,.inl h⟩
   ·exact ⟨k1,k2,.inr ⟨g,off,cur,e,h1,by rw [hn r hr hq];exact h2,h3⟩⟩
def noP (p:Nat):L → Bool
 | .lst t _ _ _=>!tagK p t
 | .ep t _ _ _ _ _=>!tagK p t
 | .it q _ _=>!(q == p)
 | _=>true
theorem ren_leaf {E:Env} {w:World} {q p:Nat} (hqp:q ≠ p) (x:L) (v:Value) (hx:noP p x = true) (h:LeafV E w x v):LeafV (E.ren q p) w (renP q p x) v:=by
 cases x with
 | lst t sz xs sp =>
  obtain ⟨A,cap,h1,h2⟩:=h
  exact ⟨A,cap,h1,ren_hdr hqp (by simpa [noP] using hx) h2⟩
 | ep t sz xs sp i o =>
  obtain ⟨a,cap,h1,h2,h3⟩:=h
  exact ⟨a,cap,ren_hdr hqp (by simpa [noP] using hx) h1,h2,h3⟩
 | it r s i =>
  obtain ⟨g,h1,h2,h3⟩:=h
  have hr:r ≠ p:=by simpa [noP] using hx
  refine ⟨g,?_,h2,h3⟩
  simp only [Env.ren,upd]
  by_cases hq:r = q
  ·subst hq;simpa using h1
  ·have e:(r == q) = false:=by simpa using hq
   simp only [e,Bool.false_eq_true,if_false,if_neg hr,if_neg hq];exact h1
 | _=>exact h
theorem noP_killP (p:Nat) (x:L):noP p (killP p x) = true:=by
 cases x with
 | lst t sz xs sp =>
  simp only [killP]
  split
  ·rfl
  ·rename_i h;simp [noP,h]
 | ep t sz xs sp i o =>
  simp only [killP]
  split
  ·rfl
  ·rename_i h;simp [noP,h]
 | it q s i =>
  simp only [killP]
  split
  ·rfl
  ·rename_i h;simpa [noP] using h
 | _=>rfl
def Env.down (E:Env) (p:Nat):Env:={ rd:=fun b=>E.rd b ∨ E.ω p = some b,κ:=E.κ,ω:=upd E.ω p none }
theorem down_ws {m:Nat} {E:Env} {w:World} (h:Inj E w) (p:Nat):WStep m E w (E.down p) w ∧ Step E w (E.down p) w (fun q=>q = p) (fun _=>False):=by
 have key:∀ r x,(E.down p).ω r = some x → r ≠ p ∧ E.ω r = some x:=by
  intro r x hr
  simp only [Env.down,upd] at hr
  split at hr
  ·cases hr
  ·exact ⟨‹_›,hr⟩
 refine ⟨⟨Unch.refl _ _,⟨h.kk,fun r r' x hr hr'=>h.ww r r' x (key r x hr).2 (key r' x hr').2,fun c r x hc hr=>h.kw c r x hc (key r x hr).2,?_,?_⟩,?_,fun _ h _=>.inl h,fun r x hr=>.inr ⟨r,(key r x hr).2⟩,fun c _ h=>.inr ⟨c,h⟩,fun _ _=>rfl,fun _ _ u _ _ _ hu=>⟨u,hu⟩⟩,
  ⟨Nat.le_refl _,fun b _ hb=>⟨.inl hb,rfl⟩,fun q b hq hb=>⟨by simp only [Env.down];rw [upd_ne _ _ hq];exact hb,rfl⟩,fun _ _ _ h=>h,fun _ _ u _ _ _ hu=>⟨u,hu⟩⟩⟩
 ·intro c b hc
  refine ⟨fun hx=>?_,(h.kr c b hc).2⟩
  rcases hx with hx | hx
  ·exact (h.kr c b hc).1 hx
  ·exact h.kw c p b hc hx
 ·intro r b hr
  obtain ⟨h1,h2⟩:=key r b hr
  refine ⟨fun hx=>?_,(h.wr r b h2).2⟩
  rcases hx with hx | hx
  ·exact (h.wr r b h2).1 hx
  ·exact h1 (h.ww _ _ _ h2 hx)
 ·intro b hb
  rcases hb with hb | hb
  ·exact .inl hb
  ·exact .inr (.inr (.inl ⟨p,hb⟩))
theorem lt_of_heap {w:World} {g:Nat} {o:Obj} (h:w.heap[g]? = some o):g < w.heap.size:=(Array.getElem?_eq_some_iff.1 h).1
theorem row_D {Rb:Nat → Prop} {E:Env} {w:World} (hsz:∀ b,E.rd b → Rb b) {sz:Nat} {xs sp:List (List L)} {vals:List Value} (h:Row E.rd w sz (xs ++ sp) vals) {g off cap:Nat} {cur:Array Value} {e:TypeId}
  (hg:w.heap[g]? = some (.cells cur e (0,0))) (hv:vals = cur.toList.drop off) (hr:Rb g) (hc:xs.length + sp.length ≤ cap) (hm:cap ≤ maxLen):D Rb w (.lst .ro sz xs sp) (.slice (some ⟨g,off,none⟩) xs.length cap):=by
 subst hv
 refine .lst sz xs sp _ cap (fun i j=>(cur.toList.drop off).getD (i * sz + j) default) hc hm (fun _=>⟨_,rfl,hr,lt_of_heap hg⟩) (fun i x hx=>(h i x hx).1) (fun a ha i x j c hx hj=>?_) (fun i x j c hx hj=>?_)
 ·obtain rfl:=Option.some.inj ha
  obtain ⟨u,hu,hd⟩:=(h i x hx).2 j c hj
  rw [add_cell,cell_of_cells hg,List.getD_eq_getElem?_getD,hu]
  rw [List.getElem?_drop] at hu
  simpa using hu
 ·obtain ⟨u,hu,hd⟩:=(h i x hx).2 j c hj
  have:(cur.toList.drop off).getD (i * sz + j) default = u:=by rw [List.getD_eq_getElem?_getD,hu];rfl
  show D Rb w c ((cur.toList.drop off).getD (i * sz + j) default)
  rw [this]
  exact hd.mono (fun b hb _=>⟨hsz b hb,rfl⟩) (Nat.le_refl _)
theorem D_nil (Rb:Nat → Prop) (w:World) (sz:Nat) (A:Option Addr) (cap:Nat) (hm:cap ≤ maxLen):D Rb w (.lst .ro sz [] []) (.slice A 0 cap) :=
 .lst sz [] [] A cap (fun _ _=>default) (by simp) hm (fun h=>absurd h (by simp)) (fun i x hx=>by simp at hx) (fun a _ i x j c hx=>by simp at hx) (fun i x j c hx=>by simp at hx)
theorem HdrV.toD {E:Env} {w:World} {Rb:Nat → Prop} (hrd:∀ b,E.rd b → Rb b) {t:Tag} (ht:∀ p b,tagK p t = true → E.ω p = some b → Rb b) {sz:Nat} {xs sp:List (List L)} {A:Option Addr} {cap:Nat} (h:HdrV E w t sz xs sp A cap) :
  D Rb w (.lst .ro sz xs sp) (.slice A xs.length cap):=by
 cases t with
 | ro=>exact D.mono (fun b hb _=>⟨hrd b hb,rfl⟩) (Nat.le_refl _) h
 | nl =>
  obtain ⟨rfl,rfl,rfl,rfl⟩:=h
  exact D_nil _ _ _ _ _ (by simp)
 | own p e =>
  rcases h with ⟨rfl,rfl,rfl,rfl⟩ | ⟨g,cur,h1,h2,h3,h4,h5,h6,h7⟩
  ·exact D_nil _ _ _ _ _ (by simp)
  ·subst h1
   exact row_D hrd h7 h3 (by simp) (ht p g (by simp [tagK]) h2) h4 h5
 | vw p =>
  obtain ⟨k1,k2,⟨_,_,rfl,rfl⟩ | ⟨g,off,cur,e,h1,h2,h3,_,h4⟩⟩:=h
  ·exact D_nil _ _ _ _ _ k2
  ·subst h1
   exact row_D hrd h4 h3 rfl (ht p g (by simp [tagK]) h2) k1 k2
theorem roP_leaf {E:Env} {w:World} (hI:Inj E w) (p:Nat) (x:L) (v:Value) (h:LeafV E w x v):LeafV (E.down p) w (roP p x) v:=by
 have gen:∀ y:L,leafFree (fun q=>q = p) (fun _=>False) y → LeafV E w y v → LeafV (E.down p) w y v:=fun y hf hy=>hy.step (down_ws (m:=0) hI p).2 hf
 cases x with
 | lst t sz xs sp =>
  simp only [roP]
  split
  ·rename_i hk
   obtain ⟨A,cap,h1,h2⟩:=h
   refine ⟨A,cap,h1,?_⟩
   refine h2.toD (Rb:=(E.down p).rd) (fun b hb=>.inl hb) (fun q b hq hb=>?_)
   have:q = p:=by
    cases t with
    | own r e=>simp [tagK] at hq hk;omega
    | vw r=>simp [tagK] at hq hk;omega
    | ro=>simp [tagK] at hk
    | nl=>simp [tagK] at hk
   subst this
   exact .inr hb
  ·rename_i hk
   exact gen _ (tagK_free (by simpa using hk)) h
 | ep t sz xs sp i o =>
  simp only [roP]
  split
  ·rename_i hk
   obtain ⟨a,cap,h1,h2,h3⟩:=h
   refine ⟨a,cap,?_,h2,h3⟩
   refine h1.toD (Rb:=(E.down p).rd) (fun b hb=>.inl hb) (fun q b hq hb=>?_)
   have:q = p:=by
    cases t with
    | own r e=>simp [tagK] at hq hk;omega
    | vw r=>simp [tagK] at hq hk;omega
    | ro=>simp [tagK] at hk
    | nl=>simp [tagK] at hk
   subst this
   exact .inr hb
  ·rename_i hk
   exact gen _ (tagK_free (by simpa using hk)) h
 | ptr c o=>exact gen _ (fun h=>h) h
 | tptr c o T=>exact gen _ (fun h=>h) h
 | sl c o z l cp=>exact gen _ (fun h=>h) h
 | it q s i =>
  simp only [roP]
  split
  ·trivial
  ·rename_i hk
   exact gen _ (show ¬ q = p by simpa using hk) h
 | gl g o=>exact gen _ trivial h
 | fn f a b=>exact gen _ (fun _ _ _ _ h=>h) h
 | undef=>trivial
 | no=>exact h
 | bool b=>exact gen _ trivial h
 | int k n=>exact gen _ trivial h
 | str s=>exact gen _ trivial h
 | nilp=>exact gen _ trivial h
 | iface t v=>exact gen _ trivial h
 | nili=>exact gen _ trivial h
 | nilf=>exact gen _ trivial h
 | ln _=>exact gen _ trivial h
 | rp _ _=>exact gen _ trivial h
theorem pure_all {a:List L} (h:a.any isPtr = false):∀ x ∈ a,isPtr x = false:=fun x hx=>by simpa using List.any_eq_false.1 h x hx
theorem All2.get2 {α β:Type} {R:α → β → Prop}:∀ {as:List α} {bs:List β},All2 R as bs → ∀ (i:Nat) (a:α) (b:β),as[i]? = some a → bs[i]? = some b → a ∈ as ∧ R a b
 | _,_,.nil,i,a,b,h,_=>by simp at h
 | _,_,.cons h1 h2,0,a,b,ha,hb=>by
  simp at ha hb;subst ha hb;exact ⟨List.mem_cons_self ..,h1⟩
 | _,_,.cons h1 h2,i + 1,a,b,ha,hb=>by
  obtain ⟨k1,k2⟩:=All2.get2 h2 i a b (by simpa using ha) (by simpa using hb)
  exact ⟨List.mem_cons_of_mem _ k1,k2⟩
theorem cap_D {E:Env} {w:World} {x:L} {v:Value} (hx:isPtr x = false) (h:CapV E w x v):D E.rd w x v:=by
 cases x<;>first | exact h | (simp [isPtr] at hx)
theorem fn_D {E:Env} {w:World} {f:Nat} {a b:List L} {v:Value} (hx:pureL a b = true) (h:LeafV E w (.fn f a b) v):D E.rd w (.fn f a b) v:=by
 obtain ⟨us,vs,rfl,h1,h2⟩:=h
 simp only [pureL,Bool.and_eq_true,Bool.not_eq_true'] at hx
 exact .fn f a b us vs h1.length h2.length (fun i x u k1 k2=>by
  obtain ⟨q1,q2⟩:=h1.get2 i x u k1 k2
  exact cap_D (pure_all hx.1 x q1) q2) (fun i x u k1 k2=>by
  obtain ⟨q1,q2⟩:=h2.get2 i x u k1 k2
  exact cap_D (pure_all hx.2 x q1) q2)
theorem frzD_D {E:Env} {w:World} {x:L} {v:Value} (hx:frzD x = true) (h:LeafV E w x v):D E.rd w x v:=by
 cases x with
 | lst t z xs sp =>
  cases t<;>simp only [frzD,Bool.false_eq_true,reduceCtorEq] at hx
  obtain ⟨A,cap,rfl,h1⟩:=h
  exact h1
 | fn f a b=>exact fn_D hx h
 | undef=>simp [frzD] at hx
 | no=>simp [frzD] at hx
 | ptr c o=>simp [frzD] at hx
 | tptr c o T=>simp [frzD] at hx
 | sl c o z l cp=>simp [frzD] at hx
 | it q s i=>simp [frzD] at hx
 | ep t z xs sp i o=>simp [frzD] at hx
 | _=>exact h
theorem roL_D {E:Env} {w:World} {Rb:Nat → Prop} (hrd:∀ b,E.rd b → Rb b) {x:L} (hp:∀ p b,placeOf x = some p → E.ω p = some b → Rb b) (hx:datL x = true) {v:Value} (h:LeafV E w x v):D Rb w (roL x) v:=by
 have gen:∀ {y:L},D E.rd w y v → D Rb w y v:=fun hy=>hy.mono (fun b hb _=>⟨hrd b hb,rfl⟩) (Nat.le_refl _)
 cases x with
 | lst t sz xs sp =>
  obtain ⟨A,cap,h1,h2⟩:=h
  subst h1
  refine h2.toD hrd (fun p b hk hb=>hp p b ?_ hb)
  cases t with
  | own q e=>simp [tagK] at hk;simp [placeOf,hk]
  | vw q=>simp [tagK] at hk;simp [placeOf,hk]
  | ro=>simp [tagK] at hk
  | nl=>simp [tagK] at hk
 | ep t sz xs sp i o=>simp [datL] at hx
 | ptr c o=>simp [datL] at hx
 | tptr c o T=>simp [datL] at hx
 | sl c o z l cp=>simp [datL] at hx
 | it q s i=>simp [datL] at hx
 | gl g o=>exact gen h
 | fn f a b =>
  simp only [roL]
  have hx':pureL a b = true:=hx
  rw [if_pos hx']
  exact gen (fn_D hx' h)
 | undef=>simp [datL] at hx
 | no=>simp [datL] at hx
 | bool b=>exact gen h
 | int k n=>exact gen h
 | str s=>exact gen h
 | nilp=>exact gen h
 | iface t v=>exact gen h
 | nili=>exact gen h
 | nilf=>exact gen h
 | ln _=>exact gen h
 | rp _ _=>exact gen h
end Go.Proofs.YthcpaohmajjopaaGreatDoor.AM
