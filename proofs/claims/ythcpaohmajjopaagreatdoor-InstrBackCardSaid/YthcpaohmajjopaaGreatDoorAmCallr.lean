/- The abstract machine, part Callr. -/
import Derived.Test.YthcpaohmajjopaaGreatDoorAmCallq
set_option linter.unusedVariables false
set_option linter.unusedSimpArgs false
namespace Go.Proofs.YthcpaohmajjopaaGreatDoor.AM
open Go
theorem killCl_step {E E':Env} {w w':World} {c:Nat} {Pk:Nat → Prop} (S:Step E w E' w' Pk (fun _=>False)) (hP:∀ q,Pk q → isC c q = true) (x:L) (v:Value) (h:LeafV E w x v):LeafV E' w' (killCl c x) v:=by
 have gen:∀ y:L,leafFree Pk (fun _=>False) y → LeafV E w y v → LeafV E' w' y v:=fun y hf hy=>hy.step S hf
 have tf:∀ t:Tag,¬ tagC c t = true → t.free Pk:=by
  intro t ht
  cases t with
  | own q e=>exact fun hq=>ht (hP q hq)
  | vw q=>exact fun hq=>ht (hP q hq)
  | _=>trivial
 cases x with
 | lst t sz xs sp =>
  simp only [killCl]
  split
  ·trivial
  ·rename_i hk;exact gen _ (tf t hk) h
 | ep t sz xs sp i o =>
  simp only [killCl]
  split
  ·trivial
  ·rename_i hk;exact gen _ (tf t hk) h
 | ptr c' o=>exact gen _ (fun h=>h) h
 | tptr c' o T=>exact gen _ (fun h=>h) h
 | sl c' o z l cp=>exact gen _ (fun h=>h) h
 | gl g1 o1=>exact gen _ trivial h
 | fn f a1 b1=>exact gen _ (fun _ _ _ _ h=>h) h
 | it q s i =>
  simp only [killCl]
  split
  ·trivial
  ·rename_i hk;exact gen _ (fun hq=>hk (hP q hq)) h
 | undef=>trivial
 | no=>exact h
 | bool b=>exact gen _ trivial h
 | int k n=>exact gen _ trivial h
 | str s=>exact gen _ trivial h
 | nilp=>exact gen _ trivial h
 | iface t v=>exact gen _ trivial h
 | nili=>exact gen _ trivial h
 | nilf=>exact gen _ trivial h
 | ln _=>exact gen _ trivial h
 | rp _ _=>exact gen _ trivial h
theorem toA_leaf {E E2:Env} {w:World} {c:Nat} (hκ:E2.κ = E.κ) (hrd:∀ b,E.rd b → E2.rd b) {x:L} (hp:∀ p b,placeOf x = some p → E.ω p = some b → E2.rd b) {v:Value} (h:LeafV E w x v):LeafV (E2.incall c) w (toA c x) v:=by
 have other:LeafV ⟨E2.rd,fun _=>none,fun _=>none⟩ w (roL x) v → (∀ c' o,x ≠ .ptr c' o) → LeafV (E2.incall c) w (roL x) v:=by
  intro q hx
  cases x with
  | ptr c' o=>exact absurd rfl (hx c' o)
  | tptr c' o T=>trivial
  | sl c' o z l cp=>trivial
  | it q s i=>trivial
  | gl g o=>exact q
  | fn f a b =>
   simp only [roL] at q ⊢
   split
   ·rename_i hp
    rw [if_pos hp] at q
    exact D.leaf (E:=E2.incall c) (fn_D (E:=⟨E2.rd,fun _=>none,fun _=>none⟩) hp q)
   ·trivial
  | lst t sz xs sp=>exact q
  | ep t sz xs sp i o=>trivial
  | undef=>trivial
  | no=>exact q
  | bool b=>exact q
  | int k n=>exact q
  | str s=>exact q
  | nilp=>exact q
  | iface t v=>exact q
  | nili=>exact q
  | nilf=>exact q
  | ln _=>exact q
  | rp _ _=>exact q
 cases x with
 | ptr c' o =>
  simp only [toA]
  split
  ·rename_i e
   subst e
   obtain ⟨b,h1,h2⟩:=h
   exact ⟨b,by simp [Env.incall,hκ,h1],h2⟩
  ·trivial
 | tptr c' o T =>
  simp only [toA]
  split
  ·rename_i e
   subst e
   obtain ⟨b,u,h1,h2,h3⟩:=h
   exact ⟨b,u,by simp [Env.incall,hκ,h1],h2,h3⟩
  ·trivial
 | sl c' o z l cp =>
  simp only [toA]
  split
  ·rename_i e
   subst e
   obtain ⟨b,h1,h2⟩:=h
   exact ⟨b,by simp [Env.incall,hκ,h1],h2⟩
  ·trivial
 | _=>exact other (roL_arg hrd hp h) (fun _ _ e=>by cases e)
end Go.Proofs.YthcpaohmajjopaaGreatDoor.AM
