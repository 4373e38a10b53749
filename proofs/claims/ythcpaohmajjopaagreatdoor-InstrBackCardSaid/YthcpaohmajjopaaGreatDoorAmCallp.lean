/- The abstract machine, part Callp. -/
import Derived.Test.YthcpaohmajjopaaGreatDoorAmOps9
set_option linter.unusedVariables false
set_option linter.unusedSimpArgs false
namespace Go.Proofs.YthcpaohmajjopaaGreatDoor.AM
open Go
theorem isC_cplc (c q:Nat):isC c (cplc c q) = true:=by simp [isC,cplc];omega
structure CallE (E:Env) (w:World) (E':Env) (w':World) (c:Nat):Prop where
 hI:Inj E w
 W:WStep 1 ⟨E.rd,fun i=>if i = 0 then E.κ c else none,fun q=>if isC 0 q = true then E.ω (cplc c q) else none⟩ w E' w'
def Env.callc (E:Env) (w:World) (E':Env) (c d:Nat) (own:Bool):Env :=
 {rd:=fun b=>(E.rd b ∧ b < w.heap.size) ∨ E'.rd b,κ:=E.κ,
  ω:=fun q=>if own = true ∧ q ∈ [plT d 0,plT d 1,plT d 2] then E'.ω (q - 128 * d) else if isC c q = true then E'.ω (cplc 0 q) else E.ω q }
theorem cplc_inj {c q q':Nat} (h:isC c q = true) (h':isC c q' = true) (e:cplc 0 q = cplc 0 q'):q = q':=by
 simp only [isC,Bool.and_eq_true,beq_iff_eq] at h h'
 simp only [cplc] at e
 omega
theorem callc_step {m:Nat} {E E':Env} {w w':World} {c:Nat} (H:CallE E w E' w' c) (d:Nat) (own:Bool) :
  WStep m E w (E.callc w E' c d own) w' ∧ Step E w (E.callc w E' c d own) w' (fun q=>(own = true ∧ q ∈ [plT d 0,plT d 1,plT d 2]) ∨ isC c q = true) (fun _=>False):=by
 obtain ⟨hI,W⟩:=H
 have hsz:=W.un.size
 have fromE:∀ x b,E'.ω x = some b → w.heap.size ≤ b ∨ ∃ q,isC 0 q = true ∧ E.ω (cplc c q) = some b:=by
  intro x b hx
  rcases W.om x b hx with h | ⟨q,hq⟩
  ·exact .inl h
  ·simp only at hq
   split at hq
   ·exact .inr ⟨q,‹_›,hq⟩
   ·cases hq
 have nN:∀ b,(∀ b',E.κ c = some b' → b' ≠ b) → (∀ q,isC c q = true → E.ω q ≠ some b) → ¬ Env.N ⟨E.rd,fun i=>if i = 0 then E.κ c else none,fun q=>if isC 0 q = true then E.ω (cplc c q) else none⟩ b:=by
  intro b h1 h2
  rintro (⟨i,hi⟩ | ⟨q,hq⟩)
  ·simp only at hi
   split at hi
   ·exact h1 b hi rfl
   ·cases hi
  ·simp only at hq
   split at hq
   ·exact h2 _ (isC_cplc c q) hq
   ·cases hq
 have rdE:∀ b,E'.rd b → E.rd b ∨ w.heap.size ≤ b ∨ ∃ q,isC c q = true ∧ E.ω q = some b:=by
  intro b hb
  rcases W.rd b hb with h | h | ⟨q,hq⟩ | ⟨i,hi,hk⟩
  ·exact .inl h
  ·exact .inr (.inl h)
  ·simp only at hq
   split at hq
   ·exact .inr (.inr ⟨_,isC_cplc c q,hq⟩)
   ·cases hq
  ·simp only at hk
   rw [if_neg (by omega)] at hk
   cases hk
 have key:∀ q b,(E.callc w E' c d own).ω q = some b → ((own = true ∧ q ∈ [plT d 0,plT d 1,plT d 2]) ∧ E'.ω (q - 128 * d) = some b) ∨ (isC c q = true ∧ E'.ω (cplc 0 q) = some b) ∨ (isC c q = false ∧ E.ω q = some b):=by
  intro q b hq
  simp only [Env.callc] at hq
  split at hq
  ·exact .inl ⟨‹_›,hq⟩
  ·split at hq
   ·exact .inr (.inl ⟨‹_›,hq⟩)
   ·rename_i h;exact .inr (.inr ⟨by simpa using h,hq⟩)
 have old:∀ q x b,isC c q = false → E.ω q = some b → E'.ω x = some b → False:=by
  intro q x b h1 h2 h3
  rcases fromE x b h3 with h | ⟨y,_,h⟩
  ·have:=(hI.wr q b h2).2;omega
  ·have:=hI.ww _ _ _ h2 h
   rw [this,isC_cplc] at h1
   cases h1
 have ty:∀ c' b u T,E.κ c' = some b → w.heap[b]? = some (.cells u T (0,0)) → ∃ u',w'.heap[b]? = some (.cells u' T (0,0)):=by
  intro c' b u T hc hu
  by_cases e:c' = c
  ·subst e
   exact W.ty 0 b u T (by omega) (by simpa using hc) hu
  ·exact ⟨u,(W.un.block b (hI.kr c' b hc).2 (nN b (fun b' h e'=>e (hI.kk c' c b hc (e' ▸ h))) (fun q _=>hI.kw c' q b hc))).trans hu⟩
 refine ⟨⟨⟨W.un.os,W.un.tape,W.un.output,W.un.size,fun b hb hN=>W.un.block b hb (nN b (fun b' h e=>hN (.inl ⟨c,e ▸ h⟩)) (fun q _ h=>hN (.inr ⟨q,h⟩)))⟩,⟨hI.kk,?_,?_,?_,?_⟩,?_,fun b h1 h2=>.inl ⟨h1,h2⟩,?_,fun c' b h=>.inr ⟨c',h⟩,fun _ _=>rfl,fun c' b u T _=>ty c' b u T⟩,⟨W.un.size,?_,?_,fun _ _ _ h=>h,fun c' b u T _=>ty c' b u T⟩⟩
 ·intro q q' b h1 h2
  rcases key q b h1 with ⟨⟨_,a1⟩,a2⟩ | ⟨a1,a2⟩ | ⟨a1,a2⟩<;>rcases key q' b h2 with ⟨⟨_,b1⟩,b2⟩ | ⟨b1,b2⟩ | ⟨b1,b2⟩
  ·have:=W.inj.ww _ _ _ a2 b2
   simp only [plT,List.mem_cons,List.mem_nil_iff,or_false] at a1 b1
   omega
  ·have:=W.inj.ww _ _ _ a2 b2
   simp only [plT,List.mem_cons,List.mem_nil_iff,or_false,cplc] at a1 this
   omega
  ·exact (old _ _ _ b1 b2 a2).elim
  ·have:=W.inj.ww _ _ _ a2 b2
   simp only [plT,List.mem_cons,List.mem_nil_iff,or_false,cplc] at b1 this
   omega
  ·exact cplc_inj a1 b1 (W.inj.ww _ _ _ a2 b2)
  ·exact (old _ _ _ b1 b2 a2).elim
  ·exact (old _ _ _ a1 a2 b2).elim
  ·exact (old _ _ _ a1 a2 b2).elim
  ·exact hI.ww _ _ _ a2 b2
 ·intro c' q b h1 h2
  have gen:∀ x,E'.ω x = some b → False:=by
   intro x hx
   rcases fromE x b hx with h | ⟨y,_,h⟩
   ·have:=(hI.kr c' b h1).2;omega
   ·exact hI.kw c' _ b h1 h
  rcases key q b h2 with ⟨_,a2⟩ | ⟨_,a2⟩ | ⟨_,a2⟩
  ·exact gen _ a2
  ·exact gen _ a2
  ·exact hI.kw c' q b h1 a2
 ·intro c' b h1
  have h2:=hI.kr c' b h1
  refine ⟨?_,by omega⟩
  rintro (⟨h3,_⟩ | h3)
  ·exact h2.1 h3
  ·rcases rdE b h3 with h | h | ⟨q,_,h⟩
   ·exact h2.1 h
   ·omega
   ·exact hI.kw c' q b h1 h
 ·intro q b h1
  have gen:∀ x,E'.ω x = some b → ¬ (E.callc w E' c d own).rd b ∧ b < w'.heap.size:=by
   intro x hx
   have h2:=W.inj.wr x b hx
   refine ⟨?_,h2.2⟩
   rintro (⟨h3,h4⟩ | h3)
   ·rcases fromE x b hx with h | ⟨y,_,h⟩
    ·omega
    ·exact (hI.wr _ b h).1 h3
   ·exact h2.1 h3
  rcases key q b h1 with ⟨_,a2⟩ | ⟨_,a2⟩ | ⟨a1,a2⟩
  ·exact gen _ a2
  ·exact gen _ a2
  ·have h2:=hI.wr q b a2
   refine ⟨?_,by omega⟩
   rintro (⟨h3,_⟩ | h3)
   ·exact h2.1 h3
   ·rcases rdE b h3 with h | h | ⟨q',hq',h⟩
    ·exact h2.1 h
    ·omega
    ·have:=hI.ww _ _ _ a2 h
     rw [this,hq'] at a1
     cases a1
 ·rintro b (⟨h1,_⟩ | h1)
  ·exact .inl h1
  ·rcases rdE b h1 with h | h | ⟨q,_,h⟩
   ·exact .inl h
   ·exact .inr (.inl h)
   ·exact .inr (.inr (.inl ⟨q,h⟩))
 ·intro q b h1
  have gen:∀ x,E'.ω x = some b → w.heap.size ≤ b ∨ ∃ q,E.ω q = some b:=by
   intro x hx
   rcases fromE x b hx with h | ⟨y,_,h⟩
   ·exact .inl h
   ·exact .inr ⟨_,h⟩
  rcases key q b h1 with ⟨_,a2⟩ | ⟨_,a2⟩ | ⟨_,a2⟩
  ·exact gen _ a2
  ·exact gen _ a2
  ·exact .inr ⟨q,a2⟩
 ·intro b hb hrd
  exact ⟨.inl ⟨hrd,hb⟩,W.un.block b hb (nN b (fun b' h e=>(hI.kr c b' h).1 (e ▸ hrd)) (fun q _ h=>(hI.wr q b h).1 hrd))⟩
 ·intro q b hq hb
  simp only [not_or] at hq
  refine ⟨by simp only [Env.callc];rw [if_neg hq.1,if_neg hq.2];exact hb,W.un.block b (hI.wr q b hb).2 (nN b (fun b' h e=>hI.kw c q b (e ▸ h) hb) (fun q' h1 h2=>?_))⟩
  have:=hI.ww _ _ _ hb h2
  rw [this] at hq
  exact hq.2 h1
end Go.Proofs.YthcpaohmajjopaaGreatDoor.AM
