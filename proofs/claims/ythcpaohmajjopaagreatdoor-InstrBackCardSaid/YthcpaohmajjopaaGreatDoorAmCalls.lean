/- The abstract machine, part Calls. -/
import Derived.Test.YthcpaohmajjopaaGreatDoorAmCallr
set_option linter.unusedVariables false
set_option linter.unusedSimpArgs false
namespace Go.Proofs.YthcpaohmajjopaaGreatDoor.AM
open Go
theorem outc_leaf {E E':Env} {w w':World} {c d:Nat} {own:Bool} {x:L} {v:Value} (hown:ownL x = true → own = true) (hx:resL x = true) (h:LeafV E' w' x v):LeafV (E.callc w E' c d own) w' (outL d x) v:=by
 have hrd:∀ b,E'.rd b → (E.callc w E' c d own).rd b:=fun b hb=>.inr hb
 have gen:∀ {y:L},D E'.rd w' y v → D (E.callc w E' c d own).rd w' y v:=fun hy=>hy.mono (fun b hb _=>⟨hrd b hb,rfl⟩) (Nat.le_refl _)
 cases x with
 | lst t sz xs sp =>
  obtain ⟨A,cap,h1,h2⟩:=h
  cases t with
  | ro=>exact ⟨A,cap,h1,D.mono (fun b hb _=>⟨hrd b hb,rfl⟩) (Nat.le_refl _) h2⟩
  | nl=>exact ⟨A,cap,h1,h2⟩
  | vw p=>simp [resL,resT] at hx
  | own q e =>
   refine ⟨A,cap,h1,own_env h2 (fun g hg=>?_) hrd⟩
   have ho:=hown rfl
   simp only [resL,resT,Bool.or_eq_true,beq_iff_eq] at hx
   have hm:128 * d + q ∈ [plT d 0,plT d 1,plT d 2]:=by
    simp only [plT,List.mem_cons,List.mem_nil_iff,or_false]
    omega
   simp only [Env.callc]
   rw [if_pos ⟨ho,hm⟩,show 128 * d + q - 128 * d = q by omega]
   exact hg
 | ptr c' o=>trivial
 | tptr c' o T=>trivial
 | sl c' o z l cp=>trivial
 | it q s i=>trivial
 | gl g o=>exact gen h
 | fn f a b =>
  simp only [outL]
  split
  ·rename_i hp;exact D.leaf (gen (fn_D hp h))
  ·trivial
 | ep t sz xs sp i o=>trivial
 | undef=>trivial
 | no=>exact h
 | bool b=>exact gen h
 | int k n=>exact gen h
 | str s=>exact gen h
 | nilp=>exact gen h
 | iface t v=>exact gen h
 | nili=>exact gen h
 | nilf=>exact gen h
 | ln _=>exact gen h
 | rp _ _=>exact gen h
theorem kill2_step {E E':Env} {w w':World} {c:Nat} {ps:List Nat} (S:Step E w E' w' (fun q=>q ∈ ps ∨ isC c q = true) (fun _=>False)) (x:L) (v:Value) (h:LeafV E w x v):LeafV E' w' (killPs ps (killCl c x)) v:=by
 have gen:∀ y:L,leafFree (fun q=>q ∈ ps ∨ isC c q = true) (fun _=>False) y → LeafV E w y v → LeafV E' w' y v:=fun y hf hy=>hy.step S hf
 have tf:∀ t:Tag,¬ tagC c t = true → ¬ tagKs ps t = true → t.free (fun q=>q ∈ ps ∨ isC c q = true):=by
  intro t h1 h2
  cases t with
  | own q e=>exact fun hq=>hq.elim (fun hq=>h2 (by simpa [tagKs] using hq)) (fun hq=>h1 hq)
  | vw q=>exact fun hq=>hq.elim (fun hq=>h2 (by simpa [tagKs] using hq)) (fun hq=>h1 hq)
  | _=>trivial
 cases x with
 | lst t sz xs sp =>
  simp only [killCl]
  split
  ·trivial
  ·rename_i h1
   simp only [killPs]
   split
   ·trivial
   ·rename_i h2;exact gen _ (tf t h1 h2) h
 | ep t sz xs sp i o =>
  simp only [killCl]
  split
  ·trivial
  ·rename_i h1
   simp only [killPs]
   split
   ·trivial
   ·rename_i h2;exact gen _ (tf t h1 h2) h
 | ptr c' o=>exact gen _ (fun h=>h) h
 | tptr c' o T=>exact gen _ (fun h=>h) h
 | sl c' o z l cp=>exact gen _ (fun h=>h) h
 | gl g1 o1=>exact gen _ trivial h
 | fn f a1 b1=>exact gen _ (fun _ _ _ _ h=>h) h
 | it q s i =>
  simp only [killCl]
  split
  ·trivial
  ·rename_i h1
   simp only [killPs]
   split
   ·trivial
   ·rename_i h2;exact gen _ (fun hq=>hq.elim (fun hq=>h2 (by simpa using hq)) h1) h
 | undef=>trivial
 | no=>exact h
 | bool b=>exact gen _ trivial h
 | int k n=>exact gen _ trivial h
 | str s=>exact gen _ trivial h
 | nilp=>exact gen _ trivial h
 | iface t v=>exact gen _ trivial h
 | nili=>exact gen _ trivial h
 | nilf=>exact gen _ trivial h
 | ln _=>exact gen _ trivial h
 | rp _ _=>exact gen _ trivial h
theorem CallE.other {E E':Env} {w w':World} {c:Nat} (H:CallE E w E' w' c) {c' b:Nat} (hc:c' ≠ c) (hb:E.κ c' = some b):w'.heap[b]? = w.heap[b]?:=by
 refine H.W.un.block b (H.hI.kr c' b hb).2 ?_
 rintro (⟨i,hi⟩ | ⟨q,hq⟩)
 ·simp only at hi
  split at hi
  ·exact hc (H.hI.kk _ _ _ hb hi)
  ·cases hi
 ·simp only at hq
  split at hq
  ·exact H.hI.kw c' _ b hb hq
  ·cases hq
theorem outc_V {E E':Env} {w w':World} {c d:Nat} {r:PV} {v:Value} (hres:resOK r = true) (hV:V E' w' r v):V (E.callc w E' c d (ownsV r)) w' (mapL (outL d) r) v:=by
 have leafs:∀ {own:Bool} {cs:List L} {us:List Value},All2 (LeafV E' w') cs us → (cs.any ownL = true → own = true) → cs.all resL = true → All2 (LeafV (E.callc w E' c d own) w') (cs.map (outL d)) us:=by
  intro own cs us h
  induction h with
  | nil=>intro _ _;exact .nil
  | cons q1 q2 ih =>
   intro g1 g2
   simp only [List.all_cons,Bool.and_eq_true] at g2
   exact .cons (outc_leaf (fun ho=>g1 (by simp [ho])) g2.1 q1) (ih (fun ho=>g1 (by simp [ho])) g2.2)
 have one:∀ {own:Bool} {x:PV} {v:Value},V1 E' w' x v → (owns1 x = true → own = true) → res1 x = true → V1 (E.callc w E' c d own) w' (mapL1 (outL d) x) v:=by
  intro own x v h g1 g2
  cases x with
  | lf x=>exact outc_leaf g1 g2 h
  | ag cs =>
   obtain ⟨vs,h1,h2⟩:=h
   exact ⟨vs,h1,leafs h2 g1 g2⟩
  | tp _=>exact h.elim
 cases r with
 | lf x=>exact one (x:=.lf x) hV (fun h=>h) hres
 | ag cs=>exact one (x:=.ag cs) hV (fun h=>h) hres
 | tp vs =>
  obtain ⟨us,h1,h2⟩:=hV
  refine ⟨us,h1,?_⟩
  have gen:∀ {own:Bool} {xs:List PV} {us:List Value},All2 (V1 E' w') xs us → (xs.any owns1 = true → own = true) → xs.all res1 = true → All2 (V1 (E.callc w E' c d own) w') (xs.map (mapL1 (outL d))) us:=by
   intro own xs us h
   induction h with
   | nil=>intro _ _;exact .nil
   | cons q1 q2 ih =>
    intro g1 g2
    simp only [List.all_cons,Bool.and_eq_true] at g2
    exact .cons (one q1 (fun ho=>g1 (by simp [ho])) g2.1) (ih (fun ho=>g1 (by simp [ho])) g2.2)
  exact gen h2 (fun h=>h) hres
theorem callp_fin {E0 E E':Env} {w0 w w':World} {n:Nat} {σ:St} {a:Act} {c:Nat} (hr:RelE E0 w0 n E σ a w) {d:Option Nat} (hd:∀ t,d = some t → t < n) (H:CallE E w E' w' c) {b:Nat} (hb:E.κ c = some b) {r:PV} {v:Value} (hres:resOK r = true) (hV:V E' w' r v)
  {cs':List L} (hcell:∃ u T,w'.heap[b]? = some (.cells u T (0,0)) ∧ All2 (LeafV E' w') cs' u.toList):Rel E0 w0 n ((callpSt σ c cs' d r).put d (outV d r)) (a.put d v) w':=by
 have main:∀ (t:Nat) (own:Bool),WStep σ.m E w (E.callc w E' c t own) w' → (∀ x v,LeafV E w x v → LeafV (E.callc w E' c t own) w' (kf c d r x) v) → RelE E0 w0 n (E.callc w E' c t own) (callpSt σ c cs' d r) a w':=by
  intro t own hW hf
  have h0:RelE E0 w0 n E { σ with ce:=del σ.ce c } a w:=hr.weak rfl (fun _ _ h=>h) (fun c' cs h=>by
   by_cases e:c' = c
   ·subst e;rw [get_del_same] at h;cases h
   ·rwa [get_del_ne _ e] at h)
  have h1:=h0.step (f:=kf c d r) hW hf (fun c' b' u T g1 g2 g3=>by
   have hne:c' ≠ c:=by
    rintro rfl
    rw [get_del_same] at g3;cases g3
   exact ⟨g1,by rw [H.other hne g1];exact g2⟩)
  refine ⟨h1.size,h1.dfr,h1.tm,fun c' cs h=>?_,h1.ws⟩
  simp only [callpSt,Go.Proofs.YthcpaohmajjopaaGreatDoor.AM.get] at h
  split at h
  ·rename_i e
   subst e
   obtain rfl:=Option.some.inj h
   obtain ⟨u,T,k1,k2⟩:=hcell
   exact ⟨b,u,T,hb,k1,k2.map_left _ (fun x v hx=>fromC_leaf H x v hx)⟩
  ·rw [del_mapSnd] at h
   exact h1.ce c' cs h
 cases d with
 | none =>
  have S:=callc_step (m:=σ.m) H 0 false
  exact ⟨_,main 0 false S.1 (fun x v hx=>killCl_step S.2 (fun q hq=>hq.elim (fun h=>by cases h.1) (fun h=>h)) x v hx)⟩
 | some t =>
  have S:=callc_step (m:=σ.m) H t (ownsV r)
  refine ⟨_,(main t (ownsV r) S.1 (fun x v hx=>?_)).put hd (outc_V hres hV)⟩
  simp only [kf]
  split
  ·exact kill2_step (S.2.mono (fun q hq=>hq.elim (fun h=>.inl h.2) .inr)) x v hx
  ·rename_i ho
   exact killCl_step S.2 (fun q hq=>hq.elim (fun h=>absurd h.1 ho) (fun h=>h)) x v hx
end Go.Proofs.YthcpaohmajjopaaGreatDoor.AM
