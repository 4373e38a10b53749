/- The abstract machine, part Draw5. -/
import Derived.Test.YthcpaohmajjopaaGreatDoorAmDraw4
set_option linter.unusedVariables false
set_option linter.unusedSimpArgs false
namespace Go.Proofs.YthcpaohmajjopaaGreatDoor.AM
open Go
section
variable {P:Program} {ops:Array Oper} {md:Region.Mode} {S:World → Prop} {Q:Exit → Act → World → Prop} {pu:Nat → Bool}
def wpTlp (P:Program) (ops:Array Oper) (Q:Exit → Act → World → Prop) (S:World → Prop) (n:Nat) (pu:Nat → Bool):List Nat → Act → World → Prop
 | [],a,w=>Q .normal a w
 | i :: r,a,w=>if pu i = true then ∃ o v,ops[i]? = some o ∧ YieldsIf P ops (fun _=>True) o v a ∧ wpTlp P ops Q S n pu r (a.put o.dst v) w
   else wpOp P ops Q i (fun a' w'=>(i ≠ n → S w') ∧ wpTlp P ops Q S n pu r a' w') a w
def rowLB (md:Region.Mode) (ops:Array Oper) (n:Nat) (pu:Nat → Bool):List Nat → Array Bool → Bool
 | [],listed=>Region.ready md ops listed == []
 | i :: r,listed=>(if pu i = true then decide (i < n) && (Region.ready md ops listed).contains i && Region.free md ops listed i else Region.ready md ops listed == [i] && (!(i == n) || r.isEmpty)) && rowLB md ops n pu r (listed.setIfInBounds i true)
theorem wpTlp_any {n:Nat} (hs:Region.noSelect ops = true) (hw:WaitsT md ops n) (hQ:∀ c a w,Q (.panic c) a w → False):∀ (tl:List Nat) (listed:Array Bool) (a:Act) (w:World),Closed md ops listed → rowLB md ops n pu tl listed = true → (S w ∨ tl = []) → wpTlp P ops Q S n pu tl a w → wpAnyK P md ops Q S n tl.length listed a w
 | [],listed,a,w,_,hB,_,h=>⟨by simpa [rowLB] using hB,h⟩
 | i :: r,listed,a,w,hcl,hB,hS,h=>by
  have hS:S w:=by rcases hS with h | h;exact h;cases h
  simp only [rowLB,Bool.and_eq_true] at hB
  obtain ⟨hB1,hB2⟩:=hB
  simp only [wpTlp] at h
  by_cases hp:pu i = true
  ·rw [if_pos hp] at hB1 h
   simp only [Bool.and_eq_true,decide_eq_true_eq] at hB1
   obtain ⟨o,v,hi,hy,h⟩:=h
   have hr:i ∈ Region.ready md ops listed:=by simpa using hB1.1.2
   have hy':YieldsIf P ops S o v a:=by
    rcases hy with ⟨h1,h2⟩ | h1
    ·exact .inl ⟨h1,fun w _=>h2 w trivial⟩
    ·exact .inr h1
   exact wpAnyK_first hw hB1.1.1 hi (Region.noSelect_spec hs) (fun c a w h=>(hQ c _ w h).elim) _ listed a w hcl (Region.free_spec hi hB1.2) hr hy' hS
    (wpTlp_any hs hw hQ r _ _ w (hcl.set hr) hB2 (.inl hS) h)
  ·rw [if_neg hp] at hB1 h
   simp only [Bool.and_eq_true,beq_iff_eq] at hB1
   refine ⟨fun h0=>(by rw [hB1.1] at h0;cases h0),fun j hj=>?_⟩
   have e:j = i:=by rw [hB1.1] at hj;simpa using hj
   subst e
   refine wpOp_mono (fun a' w' hq=>⟨hq.1,wpTlp_any hs hw hQ r _ a' w' (hcl.set hj) hB2 ?_ hq.2⟩) h
   by_cases hjn:j = n
   ·right
    have:=hB1.2
    rw [hjn] at this
    simpa using this
   ·exact .inl (hq.1 hjn)
theorem headB_closed {n:Nat}:∀ (hd:List Nat) (listed listed':Array Bool),headB md ops n hd listed = some listed' → Closed md ops listed → Closed md ops listed'
 | [],listed,listed',h,hc=>by
  simp only [headB,Option.some.injEq] at h
  subst h;exact hc
 | i :: r,listed,listed',h,hc=>by
  simp only [headB] at h
  split at h
  case isFalse=>cases h
  rename_i hk
  simp only [Bool.and_eq_true,decide_eq_true_eq] at hk
  exact headB_closed r _ _ h (hc.set (by simpa using hk.1.2))
def rows2B (md:Region.Mode) (ops:Array Oper) (n:Nat) (pu:Nat → Bool) (listed:Array Bool):List Nat → List Nat → Bool
 | x :: ra,y :: rb=>Region.ready md ops listed == [x,y] && !pu x && !pu y && !(x == n) && !(y == n) && ra.length == rb.length && rowLB md ops n pu ra (listed.setIfInBounds x true) && rowLB md ops n pu rb (listed.setIfInBounds y true)
 | _,_=>false
def draw2B (md:Region.Mode) (ops:Array Oper) (pu:Nat → Bool) (hd ra rb:List Nat):Bool :=
 Region.noSelect ops && waitsB md ops (ops.size - 1) && decide (hd.length + ra.length = ops.size) && match headB md ops (ops.size - 1) hd (Array.replicate ops.size false) with
  | some listed=>rows2B md ops (ops.size - 1) pu listed ra rb
  | none=>false
theorem rows2_any {n:Nat} (hs:Region.noSelect ops = true) (hw:WaitsT md ops n) (hQ:∀ c a w,Q (.panic c) a w → False) {ra rb:List Nat} {listed:Array Bool} {a:Act} {w:World} (hcl:Closed md ops listed) (hB:rows2B md ops n pu listed ra rb = true)
  (h1:wpTlp P ops Q S n pu ra a w) (h2:wpTlp P ops Q S n pu rb a w):wpAnyK P md ops Q S n ra.length listed a w:=by
 unfold rows2B at hB
 split at hB
 case h_2=>cases hB
 rename_i x ra y rb
 simp only [Bool.and_eq_true,beq_iff_eq,Bool.not_eq_true',beq_eq_false_iff_ne] at hB
 obtain ⟨⟨⟨⟨⟨⟨⟨hr,hx⟩,hy⟩,hxn⟩,hyn⟩,hlen⟩,hA⟩,hB⟩:=hB
 simp only [wpTlp,hx,hy,Bool.false_eq_true,if_false] at h1 h2
 refine ⟨fun h0=>(by rw [hr] at h0;cases h0),fun j hj=>?_⟩
 have e:j = x ∨ j = y:=by rw [hr] at hj;simpa using hj
 rcases e with rfl | rfl
 ·exact wpOp_mono (fun a' w' hq=>⟨hq.1,wpTlp_any hs hw hQ ra _ a' w' (hcl.set hj) hA (.inl (hq.1 hxn)) hq.2⟩) h1
 ·refine wpOp_mono (fun a' w' hq=>⟨hq.1,?_⟩) h2
  have:=wpTlp_any hs hw hQ rb _ a' w' (hcl.set hj) hB (.inl (hq.1 hyn)) hq.2
  rw [← hlen] at this
  exact this
theorem wp_region_drw2 {id:Nat} {hd ra rb:List Nat} {a:Act} {w:World} (hm:P.follows .mixedOrders = true) (hB:draw2B .any ops pu hd ra rb = true) (hQ:∀ c a w,Q (.panic c) a w → False)
  (hS:S { w with drawn:=w.drawn + 1 })
  (h:wpYs P ops S (fun a'=>wpTlp P ops Q S (ops.size - 1) pu ra a' { w with drawn:=w.drawn + 1 } ∧ wpTlp P ops Q S (ops.size - 1) pu rb a' { w with drawn:=w.drawn + 1 }) hd a):(Code.region id ops true).wp P Q a w:=by
 simp only [draw2B,Bool.and_eq_true,decide_eq_true_eq] at hB
 obtain ⟨⟨⟨hs,hw⟩,hlen⟩,hf⟩:=hB
 split at hf
 case h_2=>cases hf
 rename_i listed' hl
 refine wp_region_any hm (wpAny_of_K (S:=S) (n:=ops.size - 1) _ _ _ _ ?_)
 have key:=wpYs_any (f:=ra.length) (K:=fun a'=>wpTlp P ops Q S (ops.size - 1) pu ra a' { w with drawn:=w.drawn + 1 } ∧ wpTlp P ops Q S (ops.size - 1) pu rb a' { w with drawn:=w.drawn + 1 }) hs (.of_B hw) hS hQ
  (fun a' h'=>rows2_any hs (.of_B hw) hQ (headB_closed _ _ _ hl (Closed.none _)) hf h'.1 h'.2) hd _ a (Closed.none _) hl h
 rw [hlen] at key
 exact key
end
end Go.Proofs.YthcpaohmajjopaaGreatDoor.AM
