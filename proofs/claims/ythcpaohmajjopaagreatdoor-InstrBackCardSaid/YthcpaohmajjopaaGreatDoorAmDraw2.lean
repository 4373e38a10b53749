/- The abstract machine, part Draw2. -/
import Derived.Test.YthcpaohmajjopaaGreatDoorAmDraw
import Derived.OrdersHeld
set_option linter.unusedVariables false
set_option linter.unusedSimpArgs false
namespace Go.Proofs.YthcpaohmajjopaaGreatDoor.AM
open Go
section
variable {P:Program} {ops:Array Oper} {md:Region.Mode} {S:World → Prop} {Q:Exit → Act → World → Prop}
def wpAnyK (P:Program) (md:Region.Mode) (ops:Array Oper) (Q:Exit → Act → World → Prop) (S:World → Prop) (n:Nat):Nat → Array Bool → Act → World → Prop
 | 0,listed,a,w=>Region.ready md ops listed = [] ∧ Q .normal a w
 | f + 1,listed,a,w =>
  (Region.ready md ops listed = [] → Q .normal a w) ∧
  ∀ i ∈ Region.ready md ops listed,wpOp P ops Q i (fun a' w'=>(i ≠ n → S w') ∧ wpAnyK P md ops Q S n f (listed.setIfInBounds i true) a' w') a w
theorem wpAny_of_K {n:Nat}:∀ (f:Nat) (listed:Array Bool) (a:Act) (w:World),wpAnyK P md ops Q S n f listed a w → wpAny P md ops Q f listed a w
 | 0,_,_,_,h=>h
 | f + 1,_,_,_,h=>⟨h.1,fun i hi=>wpOp_mono (fun a' w' h'=>wpAny_of_K f _ a' w' h'.2) (h.2 i hi)⟩
theorem wpAnyK_first {n i:Nat} {oi:Oper} {v:Value} (hw:WaitsT md ops n) (hin:i < n) (hi:ops[i]? = some oi) (hsel:∀ (j:Nat) (o:Oper) cs b,ops[j]? = some o → o.op ≠ .select cs b)
  (hQ:∀ c a w,Q (.panic c) (a.put oi.dst v) w → Q (.panic c) a w) :
  ∀ (f:Nat) (listed:Array Bool) (a:Act) (w:World),Closed md ops listed →
   (∀ j oj,ops[j]? = some oj → j ≠ i → listed.getD j true = false → (∀ e ∈ oj.after,Region.binds md e = true → e.on ≠ i) → oi.apart ops oj = true) →
   i ∈ Region.ready md ops listed → YieldsIf P ops S oi v a → S w →
   wpAnyK P md ops Q S n f (listed.setIfInBounds i true) (a.put oi.dst v) w → wpAnyK P md ops Q S n (f + 1) listed a w:=by
 have notn:∀ {listed:Array Bool},Closed md ops listed → i ∈ Region.ready md ops listed → n ∉ Region.ready md ops listed:=by
  intro listed hcl hr hn
  have h1:=getD_listed (hw _ hcl hn i hin)
  rw [(mem_ready.1 hr).1] at h1
  cases h1
 intro f
 induction f with
 | zero =>
  intro listed a w hcl _ hr hy hS H
  refine ⟨fun h=>(by rw [h] at hr;cases hr),fun j hj=>?_⟩
  by_cases hji:j = i
  ·subst hji;exact hy.wpOp hi hS ⟨fun _=>hS,H⟩
  ·have:=ready_mono hj hji
   rw [H.1] at this
   cases this
 | succ f ih =>
  intro listed a w hcl hfree hr hy hS H
  refine ⟨fun h=>(by rw [h] at hr;cases hr),fun j hj=>?_⟩
  by_cases hji:j = i
  ·subst hji;exact hy.wpOp hi hS ⟨fun _=>hS,H⟩
  ·have hjn:j ≠ n:=fun e=>notn hcl hr (e ▸ hj)
   have h1:=H.2 j (ready_mono hj hji)
   obtain ⟨hjun,oj,hoj,hall⟩:=mem_ready.1 hj
   have hnot:∀ e ∈ oj.after,Region.binds md e = true → e.on ≠ i:=fun e he hb heq=>by
    have h1:=getD_listed (hall e he hb)
    rw [heq,(mem_ready.1 hr).1] at h1
    cases h1
   have h2:=wpOp_putIf hoj (hfree j oj hoj hji hjun hnot) (fun cs b=>hsel i oi cs b hi) (fun cs b=>hsel j oj cs b hoj) hQ hy h1
   refine wpOp_mono (fun a' w' h3=>⟨h3.2.1,ih (listed.setIfInBounds j true) a' w' (hcl.set hj) (fun k ok hk hki hun hno=>?_) (ready_mono hr (Ne.symm hji)) h3.1 (h3.2.1 hjn) ?_⟩) h2
   ·refine hfree k ok hk hki ?_ hno
    by_cases hjk:j = k
    ·subst hjk;exact hjun
    ·rw [Go.getD_set_ne true hjk] at hun;exact hun
   ·rw [Array.setIfInBounds_comm _ _ hji]
    exact h3.2.2
def headB (md:Region.Mode) (ops:Array Oper) (n:Nat):List Nat → Array Bool → Option (Array Bool)
 | [],listed=>some listed
 | i :: r,listed=>if decide (i < n) && (Region.ready md ops listed).contains i && Region.free md ops listed i then headB md ops n r (listed.setIfInBounds i true) else none
def rowTB (md:Region.Mode) (ops:Array Oper):List Nat → Array Bool → Bool
 | [],listed=>Region.ready md ops listed == []
 | i :: r,listed=>Region.ready md ops listed == [i] && rowTB md ops r (listed.setIfInBounds i true)
def drawB (md:Region.Mode) (ops:Array Oper) (hd tl:List Nat):Bool :=
 Region.noSelect ops && waitsB md ops (ops.size - 1) && decide (hd.length + tl.length = ops.size) && match headB md ops (ops.size - 1) hd (Array.replicate ops.size false) with
  | some listed=>rowTB md ops tl listed
  | none=>false
def wpYs (P:Program) (ops:Array Oper) (S:World → Prop) (K:Act → Prop):List Nat → Act → Prop
 | [],a=>K a
 | i :: r,a=>∃ o v,ops[i]? = some o ∧ YieldsIf P ops S o v a ∧ wpYs P ops S K r (a.put o.dst v)
def wpTl (P:Program) (ops:Array Oper) (Q:Exit → Act → World → Prop) (S:World → Prop) (n:Nat):List Nat → Act → World → Prop
 | [],a,w=>Q .normal a w
 | i :: r,a,w=>wpOp P ops Q i (fun a' w'=>(i ≠ n → S w') ∧ wpTl P ops Q S n r a' w') a w
theorem wpTl_any {n:Nat}:∀ (tl:List Nat) (listed:Array Bool) (a:Act) (w:World),rowTB md ops tl listed = true → wpTl P ops Q S n tl a w → wpAnyK P md ops Q S n tl.length listed a w
 | [],listed,a,w,hB,h=>⟨by simpa [rowTB] using hB,h⟩
 | i :: r,listed,a,w,hB,h=>by
  simp only [rowTB,Bool.and_eq_true,beq_iff_eq] at hB
  refine ⟨fun h0=>(by rw [hB.1] at h0;cases h0),fun j hj=>?_⟩
  have e:j = i:=by rw [hB.1] at hj;simpa using hj
  subst e
  exact wpOp_mono (fun a' w' hq=>⟨hq.1,wpTl_any r _ a' w' hB.2 hq.2⟩) h
theorem wpYs_any {n f:Nat} {K:Act → Prop} {w:World} {listed':Array Bool} (hs:Region.noSelect ops = true) (hw:WaitsT md ops n) (hS:S w) (hQ:∀ c a w,Q (.panic c) a w → False)
  (hK:∀ a,K a → wpAnyK P md ops Q S n f listed' a w):∀ (hd:List Nat) (listed:Array Bool) (a:Act),Closed md ops listed → headB md ops n hd listed = some listed' → wpYs P ops S K hd a → wpAnyK P md ops Q S n (hd.length + f) listed a w
 | [],listed,a,_,hB,h=>by
  simp only [headB,Option.some.injEq] at hB
  subst hB
  rw [List.length_nil,Nat.zero_add]
  exact hK a h
 | i :: r,listed,a,hcl,hB,h=>by
  simp only [headB] at hB
  split at hB
  case isFalse=>cases hB
  rename_i hc
  simp only [Bool.and_eq_true,decide_eq_true_eq] at hc
  obtain ⟨o,v,hi,hy,h⟩:=h
  rw [List.length_cons,show r.length + 1 + f = (r.length + f) + 1 by omega]
  have hr:i ∈ Region.ready md ops listed:=by simpa using hc.1.2
  exact wpAnyK_first hw hc.1.1 hi (Region.noSelect_spec hs) (fun c a w h=>(hQ c _ w h).elim) _ listed a w hcl (Region.free_spec hi hc.2) hr hy hS
   (wpYs_any hs hw hS hQ hK r _ _ (hcl.set hr) hB h)
theorem wp_region_drw {id:Nat} {hd tl:List Nat} {a:Act} {w:World} (hm:P.follows .mixedOrders = true) (hB:drawB .any ops hd tl = true) (hQ:∀ c a w,Q (.panic c) a w → False)
  (hS:S { w with drawn:=w.drawn + 1 })
  (h:wpYs P ops S (fun a'=>wpTl P ops Q S (ops.size - 1) tl a' { w with drawn:=w.drawn + 1 }) hd a):(Code.region id ops true).wp P Q a w:=by
 simp only [drawB,Bool.and_eq_true,decide_eq_true_eq] at hB
 obtain ⟨⟨⟨hs,hw⟩,hlen⟩,hf⟩:=hB
 split at hf
 case h_2=>cases hf
 rename_i listed' hl
 refine wp_region_any hm (wpAny_of_K (S:=S) (n:=ops.size - 1) _ _ _ _ ?_)
 have key:=wpYs_any (f:=tl.length) (K:=fun a'=>wpTl P ops Q S (ops.size - 1) tl a' { w with drawn:=w.drawn + 1 }) hs (.of_B hw) hS hQ (fun a' h'=>wpTl_any tl listed' a' _ hf h') hd _ a (Closed.none _) hl h
 rw [hlen] at key
 exact key
end
end Go.Proofs.YthcpaohmajjopaaGreatDoor.AM
