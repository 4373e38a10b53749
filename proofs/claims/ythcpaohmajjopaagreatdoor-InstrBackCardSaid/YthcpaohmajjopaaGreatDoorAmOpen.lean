/- The abstract machine, part Open. -/
import Derived.Test.YthcpaohmajjopaaGreatDoorAmBridge
import Derived.ChangeArms
import Derived.OpenShut
import Derived.ChangeBears
import Derived.WideShapes
import Derived.SizedLaws
set_option linter.unusedVariables false
set_option linter.unusedSimpArgs false
namespace Go.Proofs.YthcpaohmajjopaaGreatDoor.AM
open Go
inductive WT (P:Program):TypeId → List L → Prop where
 | bool {t:TypeId} (b:Bool):P.underlying t = some .bool → WT P t [.bool b]
 | int {t:TypeId} {k:IntKind} (n:Int):P.underlying t = some (.int k) → (Lit.int k n).wf = true → WT P t [.int k n]
 | str {t:TypeId} (s:ByteArray):P.underlying t = some .string → s.size ≤ reachBytes → WT P t [.str s]
 | lst {t e:TypeId} (xs sp:List (List L)):P.underlying t = some (.slice e) → (xs.length + sp.length) * P.bytesOf e ≤ reachBytes → xs.length + sp.length ≤ maxLen →
   (∀ (i:Nat) (x:List L),(xs ++ sp)[i]? = some x → WT P e x) → WT P t [.lst .ro (P.cellsOf e) xs sp]
 | struct {t:TypeId} {fs:Array Field} (ls:List (List L)):P.underlying t = some (.struct fs) → ls.length = fs.size →
   (∀ (i:Nat) (f:Field) (l:List L),fs[i]? = some f → ls[i]? = some l → WT P f.type l) → WT P t ls.flatten
 | array {t e:TypeId} {n:Nat} (ls:List (List L)):P.underlying t = some (.array n e) → ls.length = n → (∀ (i:Nat) (l:List L),ls[i]? = some l → WT P e l) → WT P t ls.flatten
def okS (P:Program) (S:List TypeId):Bool:=S.all fun t=>decide (t < P.types.size) && match P.underlying t with
 | some .bool=>true
 | some (.int _)=>true
 | some .string=>true
 | some (.slice e)=>S.contains e && decide (0 < P.cellsOf e)
 | some (.struct fs)=>fs.toList.all fun f=>S.contains f.type
 | some (.array _ e)=>S.contains e
 | _=>false
theorem list_of {α:Type} {Q:Nat → α → Prop}:∀ (n:Nat),(∀ i,i < n → ∃ y,Q i y) → ∃ ys:List α,ys.length = n ∧ ∀ (i:Nat) (y:α),ys[i]? = some y → Q i y
 | 0,_=>⟨[],rfl,fun i y h=>by simp at h⟩
 | n + 1,h=>by
  obtain ⟨ys,h1,h2⟩:=list_of n (fun i hi=>h i (by omega))
  obtain ⟨y,hy⟩:=h n (by omega)
  refine ⟨ys ++ [y],by simp [h1],fun i z hz=>?_⟩
  rw [List.getElem?_append] at hz
  split at hz
  ·exact h2 i z hz
  ·rename_i hlt
   have e:i = n:=by
    have:=(List.getElem?_eq_some_iff.1 hz).1
    simp at this;omega
   subst e
   rw [h1,Nat.sub_self] at hz
   simp at hz;subst hz;exact hy
theorem All2.flatten {α β:Type} {R:α → β → Prop}:∀ {as:List (List α)} {bs:List (List β)},All2 (All2 R) as bs → All2 R as.flatten bs.flatten
 | _,_,.nil=>.nil
 | _,_,.cons h1 h2=>by simpa using All2.append h1 (All2.flatten h2)
def cuts {α:Type}:List Nat → List α → List (List α)
 | [],_=>[]
 | n :: ns,cs=>cs.take n :: cuts ns (cs.drop n)
theorem cuts_flatten {α:Type}:∀ (ns:List Nat) (cs:List α),cs.length = ns.sum → (cuts ns cs).flatten = cs
 | [],cs,h=>by simp at h;simp [cuts,h]
 | n :: ns,cs,h=>by
  simp only [List.sum_cons] at h
  simp only [cuts,List.flatten_cons,cuts_flatten ns (cs.drop n) (by simp [h]),List.take_append_drop]
theorem cuts_length {α:Type}:∀ (ns:List Nat) (cs:List α),(cuts ns cs).length = ns.length
 | [],_=>rfl
 | n :: ns,cs=>by simp [cuts,cuts_length ns]
theorem cuts_get {α:Type}:∀ (ns:List Nat) (cs:List α) (i n:Nat),ns[i]? = some n → (cuts ns cs)[i]? = some ((cs.drop (ns.take i).sum).take n)
 | [],_,i,n,h=>by simp at h
 | m :: ns,cs,0,n,h=>by simp at h;simp [cuts,h]
 | m :: ns,cs,i + 1,n,h=>by
  simp only [List.getElem?_cons_succ] at h
  simp only [cuts,List.getElem?_cons_succ,cuts_get ns (cs.drop m) i n h,List.drop_drop,List.take_succ_cons,List.sum_cons]
section
variable {H:Type} {enc:TypeId × Value → H} {P:Program} {w:World} {held:Bool}
theorem weights_each {ts:List TypeId} {ds:List (DataW H)} {B:Nat} (h:∀ n ∈ DataW.weightsEach P ts ds,n ≤ B) {i:Nat} {t:TypeId} {d:DataW H} (ht:ts[i]? = some t) (hd:ds[i]? = some d):∀ n ∈ d.weights P t,n ≤ B :=
 fun n hn=>h n (DataW.weights_mem_each ht hd n hn)
theorem weights_all {e:TypeId} {B:Nat}:∀ {ds:List (DataW H)},(∀ n ∈ DataW.weightsAll P e ds,n ≤ B) → ∀ (i:Nat) (d:DataW H),ds[i]? = some d → ∀ n ∈ d.weights P e,n ≤ B
 | [],_,i,d,hd,_,_=>by simp at hd
 | d0 :: ds,h,0,d,hd,n,hn=>by
  simp at hd;subst hd
  exact h n (by simp [DataW.weightsAll,hn])
 | d0 :: ds,h,i + 1,d,hd,n,hn=>weights_all (ds:=ds) (fun n hn=>h n (by rw [DataW.weightsAll];exact List.mem_append_right _ hn)) i d (by simpa using hd) n hn
theorem open_D {S:List TypeId} (hS:okS P S = true) (hl:laidOutB P = true):∀ (fuel:Nat) (t:TypeId) (cs:List Value) (x:DataW H × List MemPlace),t ∈ S → DataW.trod enc P w 0 (fun _=>true) held fuel t cs = some x →
  (∀ n ∈ x.1.weights P t,n ≤ reachBytes) → ∃ ls,WT P t ls ∧ All2 (D (fun _=>True) w) ls cs
 | 0,t,cs,x,_,h,_=>by simp [DataW.trod] at h
 | fuel + 1,t,cs,x,ht,h,hw=>by
  have ok:=List.all_eq_true.1 hS t ht
  simp only [Bool.and_eq_true,decide_eq_true_eq] at ok
  obtain ⟨hrow,ok⟩:=ok
  split at ok
  ·rename_i hu
   obtain ⟨b,rfl,rfl⟩:=DataW.trod_bool hu h
   exact ⟨_,.bool b hu,.cons (.bool b) .nil⟩
  ·rename_i k hu
   obtain ⟨n,rfl,rfl,hn⟩:=DataW.trod_int hu h
   exact ⟨_,.int n hu hn,.cons (.int k n) .nil⟩
  ·rename_i hu
   obtain ⟨s,rfl,rfl,hs⟩:=DataW.trod_string hu h
   exact ⟨_,.str s hu (by simpa [DataW.weights] using hw),.cons (.str s) .nil⟩
  ·rename_i e hu
   simp only [Bool.and_eq_true,decide_eq_true_eq,List.contains_iff_mem] at ok
   obtain ⟨he,hc⟩:=ok
   rcases DataW.trod_slice hu h with ⟨rfl,rfl⟩ | ⟨a,len,cap,elems,rest,n,hf,rfl,rfl,hb,hlc,hcm,hlen,h1,h2,_⟩
   ·refine ⟨[.lst .ro (P.cellsOf e) [] []],.lst [] [] hu (by simp) (by simp) (fun i x hx=>by simp at hx),.cons (.lst _ [] [] none 0 (fun _ _=>undef) (by simp) (by simp) (fun hp=>by simp at hp) (fun i x hx=>by simp at hx) (fun a ha=>by simp at ha) (fun i x j c hx=>by simp at hx)) .nil⟩
   ·obtain rfl:n = fuel:=by omega
    obtain ⟨h2,h3⟩:=h2 rfl
    simp only [DataW.weights,hu,List.mem_cons,List.mem_append,List.length_map] at hw
    have hbytes:(elems.length + rest.length) * P.bytesOf e ≤ reachBytes:=hw _ (.inl rfl)
    have hwa:∀ (i:Nat) (y:DataW H × List MemPlace),(elems ++ rest)[i]? = some y → ∀ n ∈ y.1.weights P e,n ≤ reachBytes:=by
     intro i y hy
     rw [List.getElem?_append] at hy
     split at hy
     ·exact weights_all (fun n hn=>hw n (.inr (.inl hn))) i y.1 (by simp [hy])
     ·exact weights_all (fun n hn=>hw n (.inr (.inr hn))) (i - elems.length) y.1 (by simp [hy])
    have hel:∀ i,i < cap → ∃ cs' y,w.cells? 0 (a.add (i * P.cellsOf e)) (P.cellsOf e) = some cs' ∧ (elems ++ rest)[i]? = some y ∧ DataW.trod enc P w 0 (fun _=>true) held n e cs' = some y:=by
     intro i hi
     by_cases hil:i < len
     ·have q:=h1 i hil
      rw [List.getElem?_eq_getElem (by omega)] at q
      obtain ⟨cs',q1,q2⟩:=Option.bind_eq_some_iff.1 q
      exact ⟨cs',_,q1,by rw [List.getElem?_append_left (by omega),List.getElem?_eq_getElem (by omega)],q2⟩
     ·have q:=h3 (i - len) (by omega)
      rw [List.getElem?_eq_getElem (by omega),show len + (i - len) = i by omega] at q
      obtain ⟨cs',q1,q2⟩:=Option.bind_eq_some_iff.1 q
      refine ⟨cs',_,q1,?_,q2⟩
      rw [List.getElem?_append_right (by omega),hlen,List.getElem?_eq_getElem (by omega)]
    have hls:∀ i,i < cap → ∃ l:List L,WT P e l ∧ ∃ cs',w.cells? 0 (a.add (i * P.cellsOf e)) (P.cellsOf e) = some cs' ∧ All2 (D (fun _=>True) w) l cs':=by
     intro i hi
     obtain ⟨cs',y,q1,q2,q3⟩:=hel i hi
     obtain ⟨l,q4,q5⟩:=open_D hS hl n e cs' y he q3 (hwa i y q2)
     exact ⟨l,q4,cs',q1,q5⟩
    obtain ⟨ys,g1,g2⟩:=list_of cap hls
    have glen:∀ (i:Nat) (x:List L),ys[i]? = some x → x.length = P.cellsOf e:=by
     intro i x hx
     obtain ⟨_,cs',q1,q2⟩:=g2 i x hx
     rw [q2.length,(World.cells?_some q1).2.1]
    have el:(ys.take len).length = len:=by simp [g1];omega
    have ap:ys.take len ++ ys.drop len = ys:=List.take_append_drop _ _
    have etot:(ys.take len).length + (ys.drop len).length = cap:=by simp [g1];omega
    refine ⟨[.lst .ro (P.cellsOf e) (ys.take len) (ys.drop len)],.lst _ _ hu ?_ (by rw [etot];exact hcm) ?_,?_⟩
    ·rw [etot]
     rw [show elems.length + rest.length = cap by omega] at hbytes
     exact hbytes
    ·rw [ap];exact fun i x hx=>(g2 i x hx).1
    ·have key:D (fun _=>True) w (.lst .ro (P.cellsOf e) (ys.take len) (ys.drop len)) (.slice (some a) (ys.take len).length cap):=by
      refine .lst _ _ _ (some a) cap (fun i j=>(w.cell? (a.add (i * P.cellsOf e + j))).getD undef) (by omega) hcm (fun hp=>⟨a,rfl,trivial,?_⟩) ?_ ?_ ?_
      ·obtain ⟨cs',y,q1,_⟩:=hel 0 (by omega)
       have:=World.cells?_block q1 hc
       simpa [add_block] using this
      ·rw [ap];exact glen
      ·rw [ap]
       rintro _ ⟨⟩ i x j c hx hj
       obtain ⟨_,cs',q1,q2⟩:=g2 i x hx
       obtain ⟨u,hu',_⟩:=q2.get j c hj
       have:=(World.cells?_some q1).2.2 j (by have:=glen i x hx;have:=(List.getElem?_eq_some_iff.1 hj).1;omega)
       rw [Addr.add_add] at this
       rw [this,hu'];rfl
      ·rw [ap]
       intro i x j c hx hj
       obtain ⟨_,cs',q1,q2⟩:=g2 i x hx
       obtain ⟨u,hu',hD⟩:=q2.get j c hj
       have:=(World.cells?_some q1).2.2 j (by have:=glen i x hx;have:=(List.getElem?_eq_some_iff.1 hj).1;omega)
       rw [Addr.add_add] at this
       rw [this,hu'];exact hD
     rw [el] at key
     exact .cons key .nil
  ·rename_i fs hu
   simp only [List.all_eq_true,List.contains_iff_mem] at ok
   obtain ⟨xs,n,hf,rfl,hlen,hxs,hfs⟩:=DataW.trod_struct hu h
   obtain rfl:n = fuel:=by omega
   obtain ⟨kr,ksz,koff⟩:=kid_struct hl hrow hu
   simp only [DataW.weights,hu] at hw
   have hp:∀ i,i < fs.size → ∃ l:List L,(∀ f,fs[i]? = some f → WT P f.type l ∧ All2 (D (fun _=>True) w) l ((cs.drop f.offset).take (P.cellsOf f.type))):=by
    intro i hi
    have hfi:fs[i]? = some fs[i]:=by simp [hi]
    have q:=hfs i fs[i] hfi
    rw [List.getElem?_eq_getElem (by omega)] at q
    obtain ⟨l,q1,q2⟩:=open_D hS hl n _ _ _ (ok _ (by simp)) q (weights_each (i:=i) hw (by simp [hi]) (by simp [hxs,hi]))
    exact ⟨l,fun f hf=>by rw [hfi] at hf;cases hf;exact ⟨q1,q2⟩⟩
   obtain ⟨ls,g1,g2⟩:=list_of fs.size hp
   refine ⟨ls.flatten,.struct ls hu g1 (fun i f l hf hl=>(g2 i l hl f hf).1),?_⟩
   have e:(cuts (fs.toList.map fun f=>P.cellsOf f.type) cs).flatten = cs:=cuts_flatten _ _ (by rw [hlen,ksz])
   rw [← e]
   refine All2.flatten (All2.of_get (by rw [g1,cuts_length];simp) (fun i l c hl hc=>?_))
   have hi:i < fs.size:=by rw [← g1];exact (List.getElem?_eq_some_iff.1 hl).1
   have hfi:fs.toList[i]? = some fs[i]:=by simp [hi]
   rw [cuts_get _ _ i (P.cellsOf fs[i].type) (by simp [hi])] at hc
   obtain rfl:=Option.some.inj hc
   have:=(g2 i l hl fs[i] (by simp [hi])).2
   rw [koff i _ hfi] at this
   rw [← List.map_take]
   exact this
  ·rename_i m e hu
   simp only [List.contains_iff_mem] at ok
   obtain ⟨xs,n,hf,rfl,hlen,hxs,hfs⟩:=DataW.trod_array hu h
   obtain rfl:n = fuel:=by omega
   obtain ⟨kr,ksz⟩:=kid_array hl hrow hu
   simp only [DataW.weights,hu] at hw
   have hp:∀ i,i < m → ∃ l:List L,WT P e l ∧ All2 (D (fun _=>True) w) l ((cs.drop (i * P.cellsOf e)).take (P.cellsOf e)):=by
    intro i hi
    have q:=hfs i hi
    rw [List.getElem?_eq_getElem (by omega)] at q
    exact open_D hS hl n _ _ _ ok q (weights_all hw i _ (by simp [hxs,hi]))
   obtain ⟨ls,g1,g2⟩:=list_of m hp
   refine ⟨ls.flatten,.array ls hu g1 (fun i l hl=>(g2 i l hl).1),?_⟩
   have e:(cuts (List.replicate m (P.cellsOf e)) cs).flatten = cs:=cuts_flatten _ _ (by rw [hlen,ksz];simp)
   rw [← e]
   refine All2.flatten (All2.of_get (by rw [g1,cuts_length];simp) (fun i l c hl hc=>?_))
   have hi:i < m:=by rw [← g1];exact (List.getElem?_eq_some_iff.1 hl).1
   rw [cuts_get _ _ i _ (by simp [hi];rfl)] at hc
   obtain rfl:=Option.some.inj hc
   have:=(g2 i l hl).2
   rw [List.take_replicate,Nat.min_eq_left (by omega)]
   simpa using this
  ·simp at ok
theorem WT.inv_int {t:TypeId} {ls:List L} {k:IntKind} (h:WT P t ls) (hu:P.underlying t = some (.int k)):∃ n,ls = [.int k n] ∧ (Lit.int k n).wf = true:=by
 cases h with
 | bool b h1=>rw [hu] at h1;cases h1
 | int n h1 h2=>rw [hu] at h1;cases h1;exact ⟨n,rfl,h2⟩
 | str n h1 _=>rw [hu] at h1;cases h1
 | lst _ _ h1=>rw [hu] at h1;cases h1
 | struct _ h1=>rw [hu] at h1;cases h1
 | array _ h1=>rw [hu] at h1;cases h1
theorem WT.inv_str {t:TypeId} {ls:List L} (h:WT P t ls) (hu:P.underlying t = some .string):∃ s,ls = [.str s] ∧ s.size ≤ 140737488351232:=by
 cases h with
 | bool b h1=>rw [hu] at h1;cases h1
 | int n h1 h2=>rw [hu] at h1;cases h1
 | str s h1 h2=>exact ⟨s,rfl,h2⟩
 | lst _ _ h1=>rw [hu] at h1;cases h1
 | struct _ h1=>rw [hu] at h1;cases h1
 | array _ h1=>rw [hu] at h1;cases h1
theorem WT.inv_lst {t e:TypeId} {ls:List L} (h:WT P t ls) (hu:P.underlying t = some (.slice e)):∃ xs sp,ls = [.lst .ro (P.cellsOf e) xs sp] ∧ (xs.length + sp.length) * P.bytesOf e ≤ 140737488351232 ∧ xs.length + sp.length ≤ maxLen ∧
  (∀ (i:Nat) (x:List L),(xs ++ sp)[i]? = some x → WT P e x):=by
 cases h with
 | bool b h1=>rw [hu] at h1;cases h1
 | int n h1 h2=>rw [hu] at h1;cases h1
 | str s h1 h2=>rw [hu] at h1;cases h1
 | lst xs sp h1 h2 h3 h4=>rw [hu] at h1;cases h1;exact ⟨xs,sp,rfl,h2,h3,h4⟩
 | struct _ h1=>rw [hu] at h1;cases h1
 | array _ h1=>rw [hu] at h1;cases h1
theorem WT.inv_struct {t:TypeId} {fs:Array Field} {ls:List L} (h:WT P t ls) (hu:P.underlying t = some (.struct fs)):∃ lss:List (List L),ls = lss.flatten ∧ All2 (fun (f:Field) l=>WT P f.type l) fs.toList lss:=by
 cases h with
 | bool b h1=>rw [hu] at h1;cases h1
 | int n h1 h2=>rw [hu] at h1;cases h1
 | str s h1 h2=>rw [hu] at h1;cases h1
 | lst xs sp h1=>rw [hu] at h1;cases h1
 | struct lss h1 h2 h3=>rw [hu] at h1;cases h1;exact ⟨lss,rfl,All2.of_get (by simp [h2]) (fun i f l hf hl=>h3 i f l (by simpa using hf) hl)⟩
 | array _ h1=>rw [hu] at h1;cases h1
theorem WT.inv_array {t e:TypeId} {n:Nat} {ls:List L} (h:WT P t ls) (hu:P.underlying t = some (.array n e)):∃ lss:List (List L),ls = lss.flatten ∧ lss.length = n ∧ ∀ (i:Nat) (l:List L),lss[i]? = some l → WT P e l:=by
 cases h with
 | bool b h1=>rw [hu] at h1;cases h1
 | int n h1 h2=>rw [hu] at h1;cases h1
 | str s h1 h2=>rw [hu] at h1;cases h1
 | lst xs sp h1=>rw [hu] at h1;cases h1
 | struct lss h1=>rw [hu] at h1;cases h1
 | array lss h1 h2 h3=>rw [hu] at h1;cases h1;exact ⟨lss,rfl,h2,h3⟩
theorem All2.cons_inv {α β:Type} {R:α → β → Prop} {a:α} {as:List α} {bs:List β} (h:All2 R (a :: as) bs):∃ b bs',bs = b :: bs' ∧ R a b ∧ All2 R as bs':=by
 cases h with
 | cons h1 h2=>exact ⟨_,_,rfl,h1,h2⟩
theorem All2.nil_inv {α β:Type} {R:α → β → Prop} {bs:List β} (h:All2 R [] bs):bs = []:=by
 cases h;rfl
abbrev env0:Env:=⟨fun _=>True,fun _=>none,fun _=>none⟩
theorem arg_one {x:L} {v:Value} (h:All2 (D (fun _=>True) w) [x] v.cells.toList) (hv:∀ cs,v ≠ .agg cs):V env0 w (.lf x) v:=by
 have e:v.cells.toList = [v]:=by cases v<;>first | rfl | exact absurd rfl (hv _)
 rw [e] at h
 cases h with
 | cons h1 _=>exact D.leaf (E:=env0) h1
theorem open_arg {S:List TypeId} (hS:okS P S = true) (hl:laidOutB P = true) {t:TypeId} (ht:t ∈ S) {v:Value} {d:DataW H} {ps:List MemPlace} (h:DataW.Trod enc P w 0 (fun _=>true) held t v d ps)
  (hw:∀ n ∈ d.weights P t,n ≤ reachBytes):∃ ls,WT P t ls ∧ All2 (D (fun _=>True) w) ls v.cells.toList:=by
 obtain ⟨fuel,h⟩:=h
 exact open_D hS hl fuel t _ _ ht h hw
end
end Go.Proofs.YthcpaohmajjopaaGreatDoor.AM
