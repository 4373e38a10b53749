/- The abstract machine, part Draw. -/
import Derived.Test.YthcpaohmajjopaaGreatDoorAmCode
import Derived.Orders
import Derived.Deep.Quiet
set_option linter.unusedVariables false
set_option linter.unusedSimpArgs false
namespace Go.Proofs.YthcpaohmajjopaaGreatDoor.AM
open Go
section
variable {P:Program} {ops:Array Oper} {md:Region.Mode} {C:World → Prop}
def tailFrom (md:Region.Mode) (ops:Array Oper) (n:Nat):Nat → Nat → Array Bool → Bool
 | 0,_,listed=>Region.ready md ops listed == [n]
 | f + 1,k,listed=>(Region.ready md ops listed).contains k && Region.free md ops listed k && tailFrom md ops n f (k + 1) (listed.setIfInBounds k true)
def waitsAll (md:Region.Mode) (ops:Array Oper) (n:Nat):Bool :=
 match ops[n]? with
 | some o=>(List.range n).all fun i=>o.after.any fun e=>Region.binds md e && e.on == i
 | none=>false
def tailB (md:Region.Mode) (ops:Array Oper):Bool :=
 Region.noSelect ops && waitsAll md ops (ops.size - 1) && decide (0 < ops.size) && tailFrom md ops (ops.size - 1) (ops.size - 1) 0 (Array.replicate ops.size false)
theorem waitsAll_spec {n:Nat} (h:waitsAll md ops n = true):∃ o,ops[n]? = some o ∧ ∀ i,i < n → ∃ e ∈ o.after,Region.binds md e = true ∧ e.on = i:=by
 unfold waitsAll at h
 split at h
 ·rename_i o ho
  refine ⟨o,ho,fun i hi=>?_⟩
  have h1:=List.all_eq_true.1 h i (List.mem_range.2 hi)
  obtain ⟨e,he,hb⟩:=Array.any_eq_true'.1 h1
  simp only [Bool.and_eq_true,beq_iff_eq] at hb
  exact ⟨e,he,hb.1,hb.2⟩
 ·cases h
def AnyT (P:Program) (md:Region.Mode) (ops:Array Oper) (C:World → Prop) (n:Nat) (Z:Act → Prop):Nat → Array Bool → Act → Prop
 | 0,listed,a=>Region.ready md ops listed = [n] ∧ Z a
 | f + 1,listed,a=>Region.ready md ops listed ≠ [] ∧ ∀ i ∈ Region.ready md ops listed,i ≠ n ∧ qOp P ops C i (AnyT P md ops C n Z f (listed.setIfInBounds i true)) a
theorem ready_waits {n i:Nat} (hw:waitsAll md ops n = true) {listed:Array Bool} (hn:n ∈ Region.ready md ops listed) (hi:i < n):listed.getD i false = true:=by
 obtain ⟨o,ho,hall⟩:=waitsAll_spec hw
 obtain ⟨_,o',ho',h⟩:=mem_ready.1 hn
 rw [ho] at ho'
 obtain rfl:=Option.some.inj ho'
 obtain ⟨e,he,hb,rfl⟩:=hall i hi
 exact h e he hb
theorem getD_listed {listed:Array Bool} {i:Nat} (h:listed.getD i false = true):listed.getD i true = true:=by
 rcases Nat.lt_or_ge i listed.size with h' | h'
 ·simp [h'] at h ⊢;exact h
 ·simp [Array.getElem?_eq_none h'] at h
theorem any_of_T {n:Nat} {Z:Act → Prop} {Q':Exit → Act → World → Prop} (hn:n + 1 = ops.size) (hw:waitsAll md ops n = true)
  (hZ:∀ a w,C w → Z a → wpOp P ops Q' n (fun a' w'=>Q' .normal a' w') a w):∀ (f:Nat) (listed:Array Bool) (a:Act) (w:World),listed.size = ops.size → C w → AnyT P md ops C n Z f listed a → wpAny P md ops Q' (f + 1) listed a w
 | 0,listed,a,w,hs,hC,h=>by
  refine ⟨fun h0=>(by rw [h.1] at h0;cases h0),fun i hi=>?_⟩
  have hnr:n ∈ Region.ready md ops listed:=by rw [h.1];exact List.mem_cons_self
  have e:i = n:=by rw [h.1] at hi;simpa using hi
  subst e
  refine wpOp_mono (fun a' w' hq=>?_) (hZ a w hC h.2)
  refine ⟨?_,hq⟩
  apply List.eq_nil_iff_forall_not_mem.2
  intro j hj
  obtain ⟨hun,o,ho,_⟩:=mem_ready.1 hj
  have hlt:j < ops.size:=(Array.getElem?_eq_some_iff.1 ho).1
  by_cases hji:i = j
  ·subst hji
   simp [show i < listed.size by omega] at hun
  ·rw [Go.getD_set_ne true hji] at hun
   have:=getD_listed (ready_waits hw hnr (show j < i by omega))
   rw [this] at hun
   cases hun
 | f + 1,listed,a,w,hs,hC,h=>⟨fun h0=>absurd h0 h.1,fun i hi=>wpOp_of_qOp hC (fun a' w' hC'=>any_of_T hn hw hZ f _ a' w' (by simp [hs]) hC') (h.2 i hi).2⟩
def Closed (md:Region.Mode) (ops:Array Oper) (listed:Array Bool):Prop:=∀ i o,ops[i]? = some o → listed.getD i false = true → ∀ e ∈ o.after,Region.binds md e = true → listed.getD e.on false = true
theorem Closed.none (m:Nat):Closed md ops (Array.replicate m false):=by
 intro i o _ h
 exfalso
 rcases Nat.lt_or_ge i m with h' | h'
 ·simp [h'] at h
 ·simp [show ¬ i < m by omega] at h
theorem listed_set {listed:Array Bool} {i k:Nat} (h:listed.getD k false = true):(listed.setIfInBounds i true).getD k false = true:=by
 by_cases e:i = k
 ·subst e
  have hlt:i < listed.size:=by
   rcases Nat.lt_or_ge i listed.size with h' | h'
   ·exact h'
   ·simp [Array.getElem?_eq_none h'] at h
  simp [hlt]
 ·rw [Go.getD_set_ne false e];exact h
theorem Closed.set {listed:Array Bool} {i:Nat} (h:Closed md ops listed) (hr:i ∈ Region.ready md ops listed):Closed md ops (listed.setIfInBounds i true):=by
 intro k o ho hk e he hb
 obtain ⟨_,o',ho',hdep⟩:=mem_ready.1 hr
 by_cases hki:i = k
 ·subst hki
  rw [ho] at ho'
  obtain rfl:=Option.some.inj ho'
  exact listed_set (hdep e he hb)
 ·rw [Go.getD_set_ne false hki] at hk
  exact listed_set (h k o ho hk e he hb)
def WaitsT (md:Region.Mode) (ops:Array Oper) (n:Nat):Prop:=∀ listed,Closed md ops listed → n ∈ Region.ready md ops listed → ∀ i,i < n → listed.getD i false = true
theorem WaitsT.of_all {n:Nat} (h:waitsAll md ops n = true):WaitsT md ops n:=fun _ _ hn i hi=>ready_waits h hn hi
def depsOf (md:Region.Mode) (ops:Array Oper) (k:Nat):List Nat :=
 match ops[k]? with
 | some o=>(o.after.toList.filter (Region.binds md)).map (·.on)
 | none=>[]
def ancFrom (md:Region.Mode) (ops:Array Oper):Nat → List Nat → List Nat
 | 0,S=>S
 | k + 1,S=>ancFrom md ops k (if S.contains k then S ++ depsOf md ops k else S)
def waitsB (md:Region.Mode) (ops:Array Oper) (n:Nat):Bool :=
 let S:=ancFrom md ops n (depsOf md ops n)
 (List.range n).all fun i=>S.contains i
theorem anc_listed {listed:Array Bool} (hc:Closed md ops listed):∀ (k:Nat) (S:List Nat),(∀ i ∈ S,listed.getD i false = true) → ∀ i ∈ ancFrom md ops k S,listed.getD i false = true
 | 0,S,h,i,hi=>h i hi
 | k + 1,S,h,i,hi=>by
  unfold ancFrom at hi
  refine anc_listed hc k _ ?_ i hi
  split
  ·rename_i hk
   intro j hj
   rcases List.mem_append.1 hj with hj | hj
   ·exact h j hj
   ·unfold depsOf at hj
    split at hj
    ·rename_i o ho
     obtain ⟨e,he,rfl⟩:=List.mem_map.1 hj
     obtain ⟨h1,h2⟩:=List.mem_filter.1 he
     exact hc k o ho (h k (by simpa using hk)) e (by simpa using h1) h2
    ·cases hj
  ·exact h
theorem WaitsT.of_B {n:Nat} (h:waitsB md ops n = true):WaitsT md ops n:=by
 intro listed hc hn i hi
 have h1:=List.all_eq_true.1 h i (List.mem_range.2 hi)
 refine anc_listed hc n (depsOf md ops n) (fun j hj=>?_) i (by simpa using h1)
 obtain ⟨_,o,ho,hdep⟩:=mem_ready.1 hn
 unfold depsOf at hj
 rw [ho] at hj
 obtain ⟨e,he,rfl⟩:=List.mem_map.1 hj
 obtain ⟨h1,h2⟩:=List.mem_filter.1 he
 exact hdep e (by simpa using h1) h2
theorem AnyT_first {n i:Nat} {Z:Act → Prop} {oi:Oper} {v:Value} (hw:WaitsT md ops n) (hin:i < n) (hi:ops[i]? = some oi) (hsel:∀ (j:Nat) (o:Oper) cs b,ops[j]? = some o → o.op ≠ .select cs b) :
  ∀ (f:Nat) (listed:Array Bool) (a:Act),Closed md ops listed →
   (∀ j oj,ops[j]? = some oj → j ≠ i → listed.getD j true = false → (∀ e ∈ oj.after,Region.binds md e = true → e.on ≠ i) → oi.apart ops oj = true) →
   i ∈ Region.ready md ops listed → YieldsIn P ops C oi v a →
   AnyT P md ops C n Z f (listed.setIfInBounds i true) (a.put oi.dst v) → AnyT P md ops C n Z (f + 1) listed a:=by
 intro f
 have notn:∀ {listed:Array Bool},Closed md ops listed → i ∈ Region.ready md ops listed → n ∉ Region.ready md ops listed:=by
  intro listed hcl hr hn
  have h1:=getD_listed (hw _ hcl hn i hin)
  rw [(mem_ready.1 hr).1] at h1
  cases h1
 induction f with
 | zero =>
  intro listed a hcl _ hr hy H
  refine ⟨List.ne_nil_of_mem hr,fun j hj=>?_⟩
  by_cases hji:j = i
  ·subst hji;exact ⟨by omega,hy.qOp hi H⟩
  ·have:=ready_mono hj hji
   rw [H.1] at this
   have e:j = n:=by simpa using this
   subst e
   exact absurd hj (notn hcl hr)
 | succ f ih =>
  intro listed a hcl hfree hr hy H
  refine ⟨List.ne_nil_of_mem hr,fun j hj=>?_⟩
  by_cases hji:j = i
  ·subst hji;exact ⟨by omega,hy.qOp hi H⟩
  ·refine ⟨fun e=>notn hcl hr (e ▸ hj),?_⟩
   have h1:=(H.2 j (ready_mono hj hji)).2
   obtain ⟨hjun,oj,hoj,hall⟩:=mem_ready.1 hj
   have hnot:∀ e ∈ oj.after,Region.binds md e = true → e.on ≠ i:=fun e he hb heq=>by
    have h1:=getD_listed (hall e he hb)
    rw [heq,(mem_ready.1 hr).1] at h1
    cases h1
   have h2:=qOp_put hoj (hfree j oj hoj hji hjun hnot) (fun cs b=>hsel i oi cs b hi) (fun cs b=>hsel j oj cs b hoj) hy h1
   refine qOp_mono (fun a' h3=>ih (listed.setIfInBounds j true) a' (hcl.set hj) (fun k ok hk hki hun hno=>?_) (ready_mono hr (Ne.symm hji)) h3.1 ?_) h2
   ·refine hfree k ok hk hki ?_ hno
    by_cases hjk:j = k
    ·subst hjk;exact hjun
    ·rw [Go.getD_set_ne true hjk] at hun;exact hun
   ·rw [Array.setIfInBounds_comm _ _ hji]
    exact h3.2
theorem AnyT_lex {n:Nat} {Z:Act → Prop} (hs:Region.noSelect ops = true) (hw:WaitsT md ops n):∀ (l:List Oper) (k:Nat) (listed:Array Bool) (a:Act),(∀ j,j < l.length → l[j]? = ops[k + j]?) → k + l.length = n → Closed md ops listed →
  tailFrom md ops n l.length k listed = true → wpQuiet P ops C Z l a → AnyT P md ops C n Z l.length listed a
 | [],k,listed,a,_,_,_,hB,h=>⟨by simpa [tailFrom] using hB,h⟩
 | o :: l,k,listed,a,hl,hk,hcl,hB,h=>by
  have h0:ops[k]? = some o:=by simpa using (hl 0 (by simp)).symm
  simp only [List.length_cons,tailFrom,Bool.and_eq_true] at hB
  obtain ⟨⟨hr,hf⟩,hB'⟩:=hB
  have hst:qOp P ops C k (wpQuiet P ops C Z l) a:=by unfold qOp;simp only [h0];exact h
  obtain ⟨v,hy,hK⟩:=yieldsIn_of_qOp h0 hst
  simp only [List.length_cons] at hk
  exact AnyT_first hw (by omega) h0 (Region.noSelect_spec hs) l.length listed a hcl (Region.free_spec h0 hf) (by simpa using hr) hy
   (AnyT_lex hs hw l (k + 1) _ _ (fun j hj=>by have:=hl (j + 1) (by simp;omega);simpa [Nat.add_assoc,Nat.add_comm 1 j] using this) (by omega) (hcl.set (by simpa using hr)) hB' hK)
def rowB (md:Region.Mode) (ops:Array Oper) (n:Nat):Bool :=
 (List.range (ops.size - n)).all fun k=>waitsB md ops (n + k) && (match ops[n + k]? with
  | some o=>o.after.all fun e=>!Region.binds md e || decide (e.on < n + k)
  | none=>false)
def tailsB (md:Region.Mode) (ops:Array Oper) (n:Nat):Bool :=
 Region.noSelect ops && rowB md ops n && decide (n < ops.size) && tailFrom md ops n n 0 (Array.replicate ops.size false)
theorem rowB_spec {n:Nat} (h:rowB md ops n = true) {j:Nat} (h1:n ≤ j) (h2:j < ops.size):WaitsT md ops j ∧ ∀ o,ops[j]? = some o → ∀ e ∈ o.after,Region.binds md e = true → e.on < j:=by
 have:=List.all_eq_true.1 h (j - n) (List.mem_range.2 (by omega))
 rw [show n + (j - n) = j by omega] at this
 simp only [Bool.and_eq_true] at this
 refine ⟨.of_B this.1,fun o ho e he hb=>?_⟩
 have h3:=this.2
 rw [ho] at h3
 have:=Array.all_eq_true'.1 h3 e he
 simpa [hb] using this
theorem any_row {n:Nat} {Q':Exit → Act → World → Prop} (hB:rowB md ops n = true):∀ (r j:Nat) (listed:Array Bool) (a:Act) (w:World),Closed md ops listed → n ≤ j → j + r = ops.size → listed.size = ops.size → (∀ i,i < j → listed.getD i false = true) → (∀ i,j ≤ i → i < ops.size → listed.getD i true = false) →
  wpOps P ops Q' (List.range' j r) a w → wpAny P md ops Q' r listed a w
 | 0,j,listed,a,w,hcl,hn,hj,hs,h1,h2,h=>by
  refine ⟨?_,h⟩
  apply List.eq_nil_iff_forall_not_mem.2
  intro k hk
  obtain ⟨hun,o,ho,_⟩:=mem_ready.1 hk
  have hlt:k < ops.size:=(Array.getElem?_eq_some_iff.1 ho).1
  rw [getD_listed (h1 k (by omega))] at hun
  cases hun
 | r + 1,j,listed,a,w,hcl,hn,hj,hs,h1,h2,h=>by
  have hjr:j ∈ Region.ready md ops listed:=by
   refine mem_ready.2 ⟨h2 j (Nat.le_refl _) (by omega),ops[j]'(by omega),Array.getElem?_eq_getElem (by omega),fun e he hb=>?_⟩
   exact h1 _ ((rowB_spec hB hn (by omega)).2 _ (Array.getElem?_eq_getElem (by omega)) e he hb)
  refine ⟨fun h0=>(by rw [h0] at hjr;cases hjr),fun i hi=>?_⟩
  obtain ⟨hun,o,ho,hdep⟩:=mem_ready.1 hi
  have hlt:i < ops.size:=(Array.getElem?_eq_some_iff.1 ho).1
  have e:i = j:=by
   rcases Nat.lt_trichotomy i j with h3 | h3 | h3
   ·rw [getD_listed (h1 i h3)] at hun;cases hun
   ·exact h3
   ·have:=(rowB_spec hB (show n ≤ i by omega) hlt).1 _ hcl hi j h3
    have h4:=h2 j (Nat.le_refl _) (by omega)
    rw [getD_listed this] at h4
    cases h4
  subst e
  rw [List.range'_succ,wpOps_cons] at h
  refine wpOp_mono (fun a' w' hq=>?_) h
  refine any_row hB r (i + 1) _ a' w' (hcl.set hi) (by omega) (by omega) (by simp [hs]) (fun k hk=>?_) (fun k hk1 hk2=>?_) hq
  ·by_cases hki:i = k
   ·subst hki;simp [show i < listed.size by omega]
   ·rw [Go.getD_set_ne false hki];exact h1 k (by omega)
  ·rw [Go.getD_set_ne true (by omega)];exact h2 k (by omega) hk2
theorem any_of_row {n:Nat} {Z:Act → Prop} {Q':Exit → Act → World → Prop} (hn:n < ops.size) (hB:rowB md ops n = true)
  (hZ:∀ a w,C w → Z a → wpOps P ops Q' (List.range' n (ops.size - n)) a w):∀ (f:Nat) (listed:Array Bool) (a:Act) (w:World),Closed md ops listed → listed.size = ops.size → C w → (∀ i,n ≤ i → i < ops.size → listed.getD i true = false) →
   AnyT P md ops C n Z f listed a → wpAny P md ops Q' (f + (ops.size - n)) listed a w
 | 0,listed,a,w,hcl,hs,hC,hun,h=>by
  rw [Nat.zero_add]
  have hnr:n ∈ Region.ready md ops listed:=by rw [h.1];exact List.mem_cons_self
  exact any_row hB _ n listed a w hcl (Nat.le_refl _) (by omega) hs (fun i hi=>(rowB_spec hB (Nat.le_refl _) hn).1 _ hcl hnr i hi) hun (hZ a w hC h.2)
 | f + 1,listed,a,w,hcl,hs,hC,hun,h=>by
  rw [show f + 1 + (ops.size - n) = (f + (ops.size - n)) + 1 by omega]
  refine ⟨fun h0=>absurd h0 h.1,fun i hi=>wpOp_of_qOp hC (fun a' w' hC' hq=>any_of_row hn hB hZ f _ a' w' (hcl.set hi) (by simp [hs]) hC' (fun k hk1 hk2=>?_) hq) (h.2 i hi).2⟩
  have hin:i < n:=by
   rcases Nat.lt_or_ge i n with h' | h'
   ·exact h'
   ·have hne:=(h.2 i hi).1
    obtain ⟨_,o,ho,_⟩:=mem_ready.1 hi
    have hlt:i < ops.size:=(Array.getElem?_eq_some_iff.1 ho).1
    have:=(rowB_spec hB h' hlt).1 _ hcl hi n (show n < i by omega)
    have h4:=hun n (Nat.le_refl _) hn
    rw [getD_listed this] at h4
    cases h4
  rw [Go.getD_set_ne true (by omega)]
  exact hun k hk1 hk2
theorem wp_region_row {id n:Nat} {Q:Exit → Act → World → Prop} {a:Act} {w:World} (hm:P.follows .mixedOrders = true) (hB:tailsB .any ops n = true) (hC:C { w with drawn:=w.drawn + 1 })
  (h:wpQuiet P ops C (fun a'=>∀ w',C w' → wpOps P ops Q (List.range' n (ops.size - n)) a' w') (ops.toList.take n) a):(Code.region id ops true).wp P Q a w:=by
 simp only [tailsB,Bool.and_eq_true,decide_eq_true_eq] at hB
 obtain ⟨⟨⟨hs,hw⟩,hpos⟩,hf⟩:=hB
 have hl:(ops.toList.take n).length = n:=by simp;omega
 refine wp_region_any hm ?_
 have h2:=AnyT_lex (C:=C) (md:=.any) hs (rowB_spec hw (Nat.le_refl _) hpos).1 (ops.toList.take n) 0 (Array.replicate ops.size false) a (fun j hj=>by
  rw [hl] at hj
  rw [List.getElem?_take_of_lt hj]
  simp) (by rw [hl];omega) (Closed.none _) (by rw [hl];exact hf) h
 have h3:=any_of_row (Q':=Q) hpos hw (fun a w hc hz=>hz w hc) _ _ _ _ (Closed.none _) (by simp) hC (fun i _ hi=>by simp [hi]) h2
 rw [hl,show n + (ops.size - n) = ops.size by omega] at h3
 exact h3
theorem wp_region_tail {id:Nat} {Q:Exit → Act → World → Prop} {a:Act} {w:World} (hm:P.follows .mixedOrders = true) (hB:tailB .any ops = true) (hC:C { w with drawn:=w.drawn + 1 })
  (h:wpQuiet P ops C (fun a'=>∀ w',C w' → wpOp P ops Q (ops.size - 1) (fun a'' w''=>Q .normal a'' w'') a' w') (ops.toList.take (ops.size - 1)) a):(Code.region id ops true).wp P Q a w:=by
 simp only [tailB,Bool.and_eq_true,decide_eq_true_eq] at hB
 obtain ⟨⟨⟨hs,hw⟩,hpos⟩,hf⟩:=hB
 have hl:(ops.toList.take (ops.size - 1)).length = ops.size - 1:=by simp
 refine wp_region_any hm ?_
 have h2:=AnyT_lex (C:=C) (md:=.any) hs (.of_all hw) (ops.toList.take (ops.size - 1)) 0 (Array.replicate ops.size false) a (fun j hj=>by
  rw [hl] at hj
  rw [List.getElem?_take_of_lt hj]
  simp) (by rw [hl];omega) (Closed.none _) (by rw [hl];exact hf) h
 have h3:=any_of_T (Q':=Q) (n:=ops.size - 1) (by omega) hw (fun a w hc hz=>hz w hc) _ _ _ _ (by simp) hC h2
 rw [hl,show ops.size - 1 + 1 = ops.size by omega] at h3
 exact h3
end
end Go.Proofs.YthcpaohmajjopaaGreatDoor.AM
