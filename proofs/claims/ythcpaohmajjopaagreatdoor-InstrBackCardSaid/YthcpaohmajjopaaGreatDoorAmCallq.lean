/- The abstract machine, part Callq. -/
import Derived.Test.YthcpaohmajjopaaGreatDoorAmCallp
set_option linter.unusedVariables false
set_option linter.unusedSimpArgs false
namespace Go.Proofs.YthcpaohmajjopaaGreatDoor.AM
open Go
def Env.incall (E:Env) (c:Nat):Env:=⟨E.rd,fun i=>if i = 0 then E.κ c else none,fun q=>if isC 0 q = true then E.ω (cplc c q) else none⟩
theorem cplc_cplc {c q:Nat} (h:isC c q = true):cplc c (cplc 0 q) = q:=by
 simp only [isC,Bool.and_eq_true,beq_iff_eq] at h
 simp only [cplc];omega
theorem cplc_cplc' {c q:Nat} (h:isC 0 q = true):cplc 0 (cplc c q) = q:=by
 simp only [isC,Bool.and_eq_true,beq_iff_eq] at h
 simp only [cplc];omega
theorem own_env {E E':Env} {w:World} {p p' e sz:Nat} {xs sp:List (List L)} {A:Option Addr} {cap:Nat} (h:OwnV E w p e sz xs sp A cap) (hω:∀ g,E.ω p = some g → E'.ω p' = some g) (hrd:∀ b,E.rd b → E'.rd b):OwnV E' w p' e sz xs sp A cap:=by
 rcases h with h | ⟨g,cur,h1,h2,h3,h4,h5,h6,h7⟩
 ·exact .inl h
 ·refine .inr ⟨g,cur,h1,hω g h2,h3,h4,h5,h6,?_⟩
  intro i x hx
  obtain ⟨k1,k2⟩:=h7 i x hx
  exact ⟨k1,fun j c hc=>by
   obtain ⟨u,hu,hd⟩:=k2 j c hc
   exact ⟨u,hu,hd.mono (fun b hb _=>⟨hrd b hb,rfl⟩) (Nat.le_refl _)⟩⟩
theorem toC_leaf {E:Env} {w:World} {c:Nat} (x:L) (v:Value) (h:LeafV E w x v):LeafV (E.incall c) w (toC c x) v:=by
 have gen:∀ {y:L},D E.rd w y v → D (E.incall c).rd w y v:=fun hy=>hy
 cases x with
 | lst t sz xs sp =>
  obtain ⟨A,cap,h1,h2⟩:=h
  cases t with
  | ro=>exact ⟨A,cap,h1,h2⟩
  | nl=>exact ⟨A,cap,h1,h2⟩
  | vw p=>trivial
  | own q e =>
   simp only [toC]
   split
   ·rename_i hq
    refine ⟨A,cap,h1,own_env h2 (fun g hg=>?_) (fun b hb=>hb)⟩
    simp only [Env.incall,isC_cplc,if_true,cplc_cplc hq]
    exact hg
   ·trivial
 | ptr c' o =>
  simp only [toC]
  split
  ·rename_i e
   subst e
   obtain ⟨b,h1,h2⟩:=h
   exact ⟨b,by simp [Env.incall,h1],h2⟩
  ·trivial
 | tptr c' o T =>
  simp only [toC]
  split
  ·rename_i e
   subst e
   obtain ⟨b,u,h1,h2,h3⟩:=h
   exact ⟨b,u,by simp [Env.incall,h1],h2,h3⟩
  ·trivial
 | sl c' o z l cp=>trivial
 | it q s i=>trivial
 | gl g o=>exact gen h
 | fn f a b =>
  simp only [toC]
  split
  ·rename_i hp;exact D.leaf (gen (fn_D hp h))
  ·trivial
 | ep t sz xs sp i o=>trivial
 | undef=>trivial
 | no=>exact h
 | bool b=>exact gen h
 | int k n=>exact gen h
 | str s=>exact gen h
 | nilp=>exact gen h
 | iface t v=>exact gen h
 | nili=>exact gen h
 | nilf=>exact gen h
 | ln _=>exact gen h
 | rp _ _=>exact gen h
theorem fromC_leaf {E E':Env} {w w':World} {c d:Nat} {own:Bool} (H:CallE E w E' w' c) (x:L) (v:Value) (h:LeafV E' w' x v):LeafV (E.callc w E' c d own) w' (fromC c x) v:=by
 have hrd:∀ b,E'.rd b → (E.callc w E' c d own).rd b:=fun b hb=>.inr hb
 have gen:∀ {y:L},D E'.rd w' y v → D (E.callc w E' c d own).rd w' y v:=fun hy=>hy.mono (fun b hb _=>⟨hrd b hb,rfl⟩) (Nat.le_refl _)
 cases x with
 | lst t sz xs sp =>
  obtain ⟨A,cap,h1,h2⟩:=h
  cases t with
  | ro=>exact ⟨A,cap,h1,D.mono (fun b hb _=>⟨hrd b hb,rfl⟩) (Nat.le_refl _) h2⟩
  | nl=>exact ⟨A,cap,h1,h2⟩
  | vw p=>trivial
  | own q e =>
   simp only [fromC]
   split
   ·rename_i hq
    refine ⟨A,cap,h1,own_env h2 (fun g hg=>?_) hrd⟩
    have hne:¬ (own = true ∧ cplc c q ∈ [plT d 0,plT d 1,plT d 2]):=by
     rintro ⟨_,hm⟩
     simp only [plT,cplc,List.mem_cons,List.mem_nil_iff,or_false] at hm
     omega
    simp only [Env.callc]
    rw [if_neg hne,if_pos (isC_cplc c q),cplc_cplc' hq]
    exact hg
   ·trivial
 | ptr c' o =>
  simp only [fromC]
  split
  ·rename_i e
   subst e
   obtain ⟨b,h1,h2⟩:=h
   have:=H.W.k0 0 (by omega)
   rw [h1] at this
   exact ⟨b,by simpa [Env.callc] using this.symm,h2⟩
  ·trivial
 | tptr c' o T =>
  simp only [fromC]
  split
  ·rename_i e
   subst e
   obtain ⟨b,u,h1,h2,h3⟩:=h
   have:=H.W.k0 0 (by omega)
   rw [h1] at this
   exact ⟨b,u,by simpa [Env.callc] using this.symm,h2,h3⟩
  ·trivial
 | sl c' o z l cp=>trivial
 | it q s i=>trivial
 | gl g o=>exact gen h
 | fn f a b =>
  simp only [fromC]
  split
  ·rename_i hp;exact D.leaf (gen (fn_D hp h))
  ·trivial
 | ep t sz xs sp i o=>trivial
 | undef=>trivial
 | no=>exact h
 | bool b=>exact gen h
 | int k n=>exact gen h
 | str s=>exact gen h
 | nilp=>exact gen h
 | iface t v=>exact gen h
 | nili=>exact gen h
 | nilf=>exact gen h
 | ln _=>exact gen h
 | rp _ _=>exact gen h
end Go.Proofs.YthcpaohmajjopaaGreatDoor.AM
