/- The abstract machine, part Draw3. -/
import Derived.Test.YthcpaohmajjopaaGreatDoorAmDraw2
set_option linter.unusedVariables false
set_option linter.unusedSimpArgs false
namespace Go.Proofs.YthcpaohmajjopaaGreatDoor.AM
open Go
section
variable {P:Program} {ops:Array Oper} {md:Region.Mode} {S:Bool → World → Prop} {Q:Exit → Act → World → Prop}
def wpAnyS (P:Program) (md:Region.Mode) (ops:Array Oper) (Q:Exit → Act → World → Prop) (S:Bool → World → Prop) (s:Nat):Nat → Array Bool → Act → World → Prop
 | 0,listed,a,w=>Region.ready md ops listed = [] ∧ Q .normal a w
 | f + 1,listed,a,w =>
  (Region.ready md ops listed = [] → Q .normal a w) ∧
  ∀ i ∈ Region.ready md ops listed,wpOp P ops Q i (fun a' w'=>S ((listed.setIfInBounds i true).getD s false) w' ∧ wpAnyS P md ops Q S s f (listed.setIfInBounds i true) a' w') a w
theorem wpAny_of_S {s:Nat}:∀ (f:Nat) (listed:Array Bool) (a:Act) (w:World),wpAnyS P md ops Q S s f listed a w → wpAny P md ops Q f listed a w
 | 0,_,_,_,h=>h
 | f + 1,_,_,_,h=>⟨h.1,fun i hi=>wpOp_mono (fun a' w' h'=>wpAny_of_S f _ a' w' h'.2) (h.2 i hi)⟩
theorem wpAnyS_first {s i:Nat} {oi:Oper} {v:Value} {Si:World → Prop} (his:i ≠ s) (hi:ops[i]? = some oi) (hsel:∀ (j:Nat) (o:Oper) cs b,ops[j]? = some o → o.op ≠ .select cs b)
  (hQ:∀ c a w,Q (.panic c) (a.put oi.dst v) w → Q (.panic c) a w)
  (hSi:∀ listed,Closed md ops listed → listed.getD i true = false → ∀ w,S (listed.getD s false) w → Si w) :
  ∀ (f:Nat) (listed:Array Bool) (a:Act) (w:World),Closed md ops listed →
   (∀ j oj,ops[j]? = some oj → j ≠ i → listed.getD j true = false → (∀ e ∈ oj.after,Region.binds md e = true → e.on ≠ i) → oi.apart ops oj = true) →
   i ∈ Region.ready md ops listed → YieldsIf P ops Si oi v a → S (listed.getD s false) w →
   wpAnyS P md ops Q S s f (listed.setIfInBounds i true) (a.put oi.dst v) w → wpAnyS P md ops Q S s (f + 1) listed a w:=by
 intro f
 induction f with
 | zero =>
  intro listed a w hcl _ hr hy hS H
  refine ⟨fun h=>(by rw [h] at hr;cases hr),fun j hj=>?_⟩
  by_cases hji:j = i
  ·subst hji
   exact hy.wpOp hi (hSi listed hcl (mem_ready.1 hr).1 w hS) ⟨by rw [Go.getD_set_ne false his];exact hS,H⟩
  ·have:=ready_mono hj hji
   rw [H.1] at this
   cases this
 | succ f ih =>
  intro listed a w hcl hfree hr hy hS H
  refine ⟨fun h=>(by rw [h] at hr;cases hr),fun j hj=>?_⟩
  by_cases hji:j = i
  ·subst hji
   exact hy.wpOp hi (hSi listed hcl (mem_ready.1 hr).1 w hS) ⟨by rw [Go.getD_set_ne false his];exact hS,H⟩
  ·have h1:=H.2 j (ready_mono hj hji)
   obtain ⟨hjun,oj,hoj,hall⟩:=mem_ready.1 hj
   have hnot:∀ e ∈ oj.after,Region.binds md e = true → e.on ≠ i:=fun e he hb heq=>by
    have h1:=getD_listed (hall e he hb)
    rw [heq,(mem_ready.1 hr).1] at h1
    cases h1
   have h2:=wpOp_putIf hoj (hfree j oj hoj hji hjun hnot) (fun cs b=>hsel i oi cs b hi) (fun cs b=>hsel j oj cs b hoj) hQ hy h1
   refine wpOp_mono (fun a' w' h3=>?_) h2
   have hS':S ((listed.setIfInBounds j true).getD s false) w':=by
    have:=h3.2.1
    rwa [Array.setIfInBounds_comm _ _ (Ne.symm hji),Go.getD_set_ne false his] at this
   refine ⟨hS',ih (listed.setIfInBounds j true) a' w' (hcl.set hj) (fun k ok hk hki hun hno=>?_) (ready_mono hr (Ne.symm hji)) h3.1 hS' ?_⟩
   ·refine hfree k ok hk hki ?_ hno
    by_cases hjk:j = k
    ·subst hjk;exact hjun
    ·rw [Go.getD_set_ne true hjk] at hun;exact hun
   ·rw [Array.setIfInBounds_comm _ _ hji]
    exact h3.2.2
def ancOf (md:Region.Mode) (ops:Array Oper) (s:Nat):List Nat:=ancFrom md ops s (depsOf md ops s)
theorem anc_waits {s:Nat} {listed:Array Bool} {o:Oper} (ho:ops[s]? = some o) (hcl:Closed md ops listed) (hs:listed.getD s false = true) {i:Nat} (hi:i ∈ ancOf md ops s):listed.getD i false = true:=by
 refine anc_listed hcl s (depsOf md ops s) (fun j hj=>?_) i hi
 unfold depsOf at hj
 rw [ho] at hj
 obtain ⟨e,he,rfl⟩:=List.mem_map.1 hj
 obtain ⟨h1,h2⟩:=List.mem_filter.1 he
 exact hcl s o ho hs e (by simpa using h1) h2
def headSB (md:Region.Mode) (ops:Array Oper) (s:Nat):List Nat → Array Bool → Option (Array Bool)
 | [],listed=>some listed
 | i :: r,listed=>if !(i == s) && (Region.ready md ops listed).contains i && Region.free md ops listed i then headSB md ops s r (listed.setIfInBounds i true) else none
def srtB (md:Region.Mode) (ops:Array Oper) (s:Nat) (hd tl:List Nat):Bool :=
 Region.noSelect ops && decide (hd.length + tl.length = ops.size) && match headSB md ops s hd (Array.replicate ops.size false) with
  | some listed=>rowTB md ops tl listed
  | none=>false
def wpYz (P:Program) (ops:Array Oper) (anc:List Nat) (S0:World → Prop) (K:Act → Prop):List Nat → Act → Prop
 | [],a=>K a
 | i :: r,a=>∃ o v,ops[i]? = some o ∧ (YieldsIf P ops (fun _=>True) o v a ∨ (i ∈ anc ∧ YieldsIf P ops S0 o v a)) ∧ wpYz P ops anc S0 K r (a.put o.dst v)
theorem wpSl_any {s:Nat} (hS:∀ w,S true w):∀ (tl:List Nat) (listed:Array Bool) (a:Act) (w:World),(listed.getD s false = true ∨ ∃ r,tl = s :: r ∧ s < listed.size) → rowTB md ops tl listed = true → wpOps P ops Q tl a w → wpAnyS P md ops Q S s tl.length listed a w
 | [],listed,a,w,_,hB,h=>⟨by simpa [rowTB] using hB,h⟩
 | i :: r,listed,a,w,hs,hB,h=>by
  simp only [rowTB,Bool.and_eq_true,beq_iff_eq] at hB
  refine ⟨fun h0=>(by rw [hB.1] at h0;cases h0),fun j hj=>?_⟩
  have e:j = i:=by rw [hB.1] at hj;simpa using hj
  subst e
  have hs':(listed.setIfInBounds j true).getD s false = true:=by
   rcases hs with hs | ⟨r',e,hlt⟩
   ·exact listed_set hs
   ·cases e
    simp [hlt]
  rw [wpOps_cons] at h
  exact wpOp_mono (fun a' w' hq=>⟨by rw [hs'];exact hS w',wpSl_any hS r _ a' w' (.inl hs') hB.2 hq⟩) h
theorem wpYz_any {s f:Nat} {K:Act → Prop} {w:World} {S0:World → Prop} {listed':Array Bool} {os:Oper} (hos:ops[s]? = some os) (hsel:Region.noSelect ops = true) (hS0:S false = S0) (hS1:∀ w,S true w) (hw:S0 w) (hQ:∀ c a w,Q (.panic c) a w → False)
  (hK:∀ a,K a → wpAnyS P md ops Q S s f listed' a w):∀ (hd:List Nat) (listed:Array Bool) (a:Act),Closed md ops listed → headSB md ops s hd listed = some listed' → wpYz P ops (ancOf md ops s) S0 K hd a → wpAnyS P md ops Q S s (hd.length + f) listed a w
 | [],listed,a,_,hB,h=>by
  simp only [headSB,Option.some.injEq] at hB
  subst hB
  rw [List.length_nil,Nat.zero_add]
  exact hK a h
 | i :: r,listed,a,hcl,hB,h=>by
  simp only [headSB] at hB
  split at hB
  case isFalse=>cases hB
  rename_i hc
  simp only [Bool.and_eq_true,Bool.not_eq_true',beq_eq_false_iff_ne] at hc
  obtain ⟨o,v,hi,hy,h⟩:=h
  rw [List.length_cons,show r.length + 1 + f = (r.length + f) + 1 by omega]
  have hr:i ∈ Region.ready md ops listed:=by simpa using hc.1.2
  have hany:∀ b,S b w:=fun b=>by cases b;(rw [hS0];exact hw);exact hS1 w
  have rcs:=wpYz_any hos hsel hS0 hS1 hw hQ hK r _ _ (hcl.set hr) hB h
  rcases hy with hy | ⟨ha,hy⟩
  ·exact wpAnyS_first (Si:=fun _=>True) hc.1.1 hi (Region.noSelect_spec hsel) (fun c a w h=>(hQ c _ w h).elim) (fun _ _ _ _ _=>trivial) _ listed a w hcl (Region.free_spec hi hc.2) hr hy (hany _) rcs
  ·refine wpAnyS_first (Si:=S0) hc.1.1 hi (Region.noSelect_spec hsel) (fun c a w h=>(hQ c _ w h).elim) (fun l hl hun w' hS=>?_) _ listed a w hcl (Region.free_spec hi hc.2) hr hy (hany _) rcs
   cases hls:l.getD s false with
   | false=>rw [hls,hS0] at hS;exact hS
   | true =>
    have:=getD_listed (anc_waits hos hl hls ha)
    rw [this] at hun
    cases hun
theorem headSB_s {s:Nat}:∀ (hd:List Nat) (listed listed':Array Bool),headSB md ops s hd listed = some listed' → listed'.size = listed.size
 | [],listed,listed',h=>by simp only [headSB,Option.some.injEq] at h;rw [h]
 | i :: r,listed,listed',h=>by
  simp only [headSB] at h
  split at h
  ·rw [headSB_s r _ _ h];simp
  ·cases h
theorem wp_region_srt {id s:Nat} {hd tl:List Nat} {S0:World → Prop} {a:Act} {w:World} (hm:P.follows .mixedOrders = true) (hB:srtB .any ops s hd (s :: tl) = true) (hs:s < ops.size) (hQ:∀ c a w,Q (.panic c) a w → False)
  (hS:S0 { w with drawn:=w.drawn + 1 })
  (h:wpYz P ops (ancOf .any ops s) S0 (fun a'=>wpOps P ops Q (s :: tl) a' { w with drawn:=w.drawn + 1 }) hd a):(Code.region id ops true).wp P Q a w:=by
 simp only [srtB,Bool.and_eq_true,decide_eq_true_eq] at hB
 obtain ⟨⟨hsel,hlen⟩,hf⟩:=hB
 split at hf
 case h_2=>cases hf
 rename_i listed' hl
 refine wp_region_any hm (wpAny_of_S (S:=fun b=>if b = true then fun _=>True else S0) (s:=s) _ _ _ _ ?_)
 have key:=wpYz_any (P:=P) (Q:=Q) (S:=fun b=>if b = true then fun _=>True else S0) (f:=(s :: tl).length) (K:=fun a'=>wpOps P ops Q (s :: tl) a' { w with drawn:=w.drawn + 1 }) (Array.getElem?_eq_getElem hs) hsel (by simp) (fun w=>by simp) hS hQ
  (fun a' h'=>wpSl_any (fun w=>by simp) (s :: tl) listed' a' _ (.inr ⟨tl,rfl,by rw [headSB_s _ _ _ hl];simpa using hs⟩) hf h') hd _ a (Closed.none _) hl h
 rw [hlen] at key
 exact key
end
end Go.Proofs.YthcpaohmajjopaaGreatDoor.AM
