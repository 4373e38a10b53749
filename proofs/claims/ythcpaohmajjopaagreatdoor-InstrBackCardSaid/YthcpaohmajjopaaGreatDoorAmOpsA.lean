/- The abstract machine, part OpsA. -/
import Derived.Test.YthcpaohmajjopaaGreatDoorAmOps9
import Derived.ChangeKeysEq
set_option linter.unusedVariables false
set_option linter.unusedSimpArgs false
namespace Go.Proofs.YthcpaohmajjopaaGreatDoor.AM
open Go
variable {X:Cx}
def mkT (P:Program) (t:TypeId) (xs:List Value):Value:=if isAggT P t then .agg xs.toArray else xs.headD undef
theorem part_mk {P:Program} {t:TypeId} {n:Nat} {d:TypeDesc} (hu:P.underlying t = some d) (hs:szOf P t = some n) (h1:isAggT P t = false → n = 1) {w:World} {vs:List Value} {off:Nat} (hle:off + n ≤ vs.length):(part t vs.toArray off).run P w = .ok (mkT P t ((vs.drop off).take n)) w:=by
 unfold part mkT
 rw [Sem.run_bind,run_isAgg hu]
 simp only [Result.andThen_ok]
 split
 ·simp only [Sem.run_bind,run_sizeOf' hs,Result.andThen_ok,Sem.run_pure,toArray_extract]
  congr 4
  omega
 ·rename_i hagg
  have:n = 1:=h1 (by simpa using hagg)
  subst this
  have hlt:off < vs.length:=by omega
  have e:(vs.drop off).take 1 = [vs[off]]:=by
   rw [List.drop_eq_getElem_cons hlt];rfl
  rw [e]
  simp [List.getElem?_eq_getElem hlt]
def AllT (as bs:List L):Prop:=∀ (i:Nat) (a b:L),as[i]? = some a → bs[i]? = some b → eqL a b = some true
def AllS (as bs:List L):Prop:=∀ (i:Nat) (a b:L),as[i]? = some a → bs[i]? = some b → (eqL a b).isSome = true
theorem AllS.drop {as bs:List L} (h:AllS as bs) (n:Nat):AllS (as.drop n) (bs.drop n):=fun i a b ha hb=>h (n + i) a b (by rwa [List.getElem?_drop] at ha) (by rwa [List.getElem?_drop] at hb)
theorem AllS.take {as bs:List L} (h:AllS as bs) (n:Nat):AllS (as.take n) (bs.take n):=fun i a b ha hb=>by
 rw [List.getElem?_take] at ha hb
 split at ha
 ·rw [if_pos ‹_›] at hb;exact h i a b ha hb
 ·cases ha
theorem AllT.split {as bs:List L} (n:Nat):AllT as bs ↔ AllT (as.take n) (bs.take n) ∧ AllT (as.drop n) (bs.drop n):=by
 constructor
 ·intro h
  refine ⟨fun i a b ha hb=>?_,fun i a b ha hb=>h (n + i) a b (by rwa [List.getElem?_drop] at ha) (by rwa [List.getElem?_drop] at hb)⟩
  rw [List.getElem?_take] at ha hb
  split at ha
  ·rw [if_pos ‹_›] at hb;exact h i a b ha hb
  ·cases ha
 ·rintro ⟨h1,h2⟩ i a b ha hb
  by_cases hi:i < n
  ·exact h1 i a b (by rw [List.getElem?_take_of_lt hi];exact ha) (by rw [List.getElem?_take_of_lt hi];exact hb)
  ·exact h2 (i - n) a b (by rw [List.getElem?_drop,show n + (i - n) = i by omega];exact ha) (by rw [List.getElem?_drop,show n + (i - n) = i by omega];exact hb)
theorem eqTy_sz {P:Program} {d:Nat} {t:TypeId} (h:eqTy P d t = true):szOf P t = some (kindsT P d t).length ∧ ∃ de,P.underlying t = some de ∧ (isAggT P t = false → (kindsT P d t).length = 1):=by
 cases d with
 | zero=>simp [eqTy] at h
 | succ d =>
  unfold eqTy at h
  simp only [Bool.and_eq_true,beq_iff_eq] at h
  refine ⟨h.1,?_⟩
  have h:=h.2
  split at h
  ·rename_i hu;exact ⟨_,hu,fun _=>by simp [kindsT,hu]⟩
  ·rename_i hu;exact ⟨_,hu,fun _=>by simp [kindsT,hu]⟩
  ·rename_i hu;exact ⟨_,hu,fun _=>by simp [kindsT,hu]⟩
  ·rename_i hu;exact ⟨_,hu,fun h=>by simp [isAggT,hu] at h⟩
  ·rename_i hu;exact ⟨_,hu,fun h=>by simp [isAggT,hu] at h⟩
  ·cases h
def EqRuns (P:Program) (E:Env) (w:World) (d:Nat) (t:TypeId):Prop :=
 ∀ (k:Nat) (as bs:List L) (xs ys:List Value),as.map kindL = kindsT P d t → bs.map kindL = kindsT P d t → All2 (LeafV E w) as xs → All2 (LeafV E w) bs ys → AllS as bs →
  ∃ r,(Op.equalIn (d + k) t (mkT P t xs) (mkT P t ys)).run P w = .ok r w ∧ (r = true ↔ AllT as bs)
theorem layOK_le {P:Program}:∀ (fs:List Field) (off e:Nat),layOK P off fs e = true → off ≤ e
 | [],off,e,h=>by simp [layOK] at h;omega
 | f :: fs,off,e,h=>by
  simp only [layOK,Bool.and_eq_true] at h
  obtain ⟨_,h⟩:=h
  split at h
  ·have:=layOK_le fs _ _ h;omega
  ·cases h
theorem eqFields_run {P:Program} {E:Env} {w:World} {d k:Nat} {xs ys:List Value}:∀ (fs:List Field) (off:Nat) (as bs:List L),(∀ f ∈ fs,eqTy P d f.type = true ∧ EqRuns P E w d f.type) → layOK P off fs xs.length = true → layOK P off fs ys.length = true →
  as.map kindL = fs.flatMap (fun f=>kindsT P d f.type) → bs.map kindL = fs.flatMap (fun f=>kindsT P d f.type) → All2 (LeafV E w) as (xs.drop off) → All2 (LeafV E w) bs (ys.drop off) → AllS as bs →
  ∃ r,(Op.eqFields (d + k) xs.toArray ys.toArray fs).run P w = .ok r w ∧ (r = true ↔ AllT as bs)
 | [],off,as,bs,_,_,_,ka,kb,_,_,_=>by
  have ea:as = []:=by simpa using ka
  refine ⟨true,by simp [Op.eqFields],?_⟩
  subst ea
  simp [AllT]
 | f :: fs,off,as,bs,hfs,hl,hl',ka,kb,hx,hy,hS=>by
  obtain ⟨hty,hrun⟩:=hfs f (List.mem_cons_self ..)
  obtain ⟨hsz,de,hu,h1⟩:=eqTy_sz hty
  simp only [layOK,hsz,Bool.and_eq_true,bne_iff_ne,ne_eq,beq_iff_eq] at hl hl'
  obtain ⟨⟨hname,rfl⟩,hl⟩:=hl
  obtain ⟨_,hl'⟩:=hl'
  generalize hn:(kindsT P d f.type).length = n at *
  simp only [List.flatMap_cons] at ka kb
  have la:n ≤ as.length:=by have:=congrArg List.length ka;simp at this;omega
  have lb:n ≤ bs.length:=by have:=congrArg List.length kb;simp at this;omega
  have hxl:=layOK_le _ _ _ hl
  have hyl:=layOK_le _ _ _ hl'
  have hk1:(as.take n).map kindL = kindsT P d f.type:=by rw [List.map_take,ka,List.take_append_of_le_length (by omega),List.take_of_length_le (by omega)]
  have hk2:(bs.take n).map kindL = kindsT P d f.type:=by rw [List.map_take,kb,List.take_append_of_le_length (by omega),List.take_of_length_le (by omega)]
  obtain ⟨r1,q1,q2⟩:=hrun k (as.take n) (bs.take n) ((xs.drop f.offset).take n) ((ys.drop f.offset).take n) hk1 hk2 (hx.take n) (hy.take n) (hS.take n)
  have hk3:(as.drop n).map kindL = fs.flatMap fun f=>kindsT P d f.type:=by rw [List.map_drop,ka,List.drop_append_of_le_length (by omega),List.drop_of_length_le (by omega)];rfl
  have hk4:(bs.drop n).map kindL = fs.flatMap fun f=>kindsT P d f.type:=by rw [List.map_drop,kb,List.drop_append_of_le_length (by omega),List.drop_of_length_le (by omega)];rfl
  obtain ⟨r2,q3,q4⟩:=eqFields_run (k:=k) (xs:=xs) (ys:=ys) fs (f.offset + n) (as.drop n) (bs.drop n) (fun g hg=>hfs g (List.mem_cons_of_mem _ hg)) hl hl' hk3 hk4 (by rw [← List.drop_drop];exact hx.drop n) (by rw [← List.drop_drop];exact hy.drop n) (hS.drop n)
  have p1:=part_mk (P:=P) (t:=f.type) (w:=w) (vs:=xs) (off:=f.offset) hu hsz h1 (by omega)
  have p2:=part_mk (P:=P) (t:=f.type) (w:=w) (vs:=ys) (off:=f.offset) hu hsz h1 (by omega)
  simp only [Op.eqFields,hname,not_false_eq_true,ne_eq,if_true,Sem.run_bind,p1,p2,Result.andThen_ok,q1]
  rw [AllT.split n]
  cases r1 with
  | true=>exact ⟨r2,by simpa using q3,by rw [q4];exact ⟨fun h=>⟨q2.1 rfl,h⟩,fun h=>h.2⟩⟩
  | false=>exact ⟨false,by simp,by simp only [Bool.false_eq_true,false_iff];rintro ⟨h,_⟩;exact absurd (q2.2 h) (by simp)⟩
theorem eqItems_run {P:Program} {E:Env} {w:World} {d k:Nat} {e:TypeId} {xs ys:List Value} (hty:eqTy P d e = true) (hrun:EqRuns P E w d e):∀ (m i:Nat) (as bs:List L),i * (kindsT P d e).length + m * (kindsT P d e).length = xs.length → i * (kindsT P d e).length + m * (kindsT P d e).length = ys.length →
  as.map kindL = (List.replicate m (kindsT P d e)).flatten → bs.map kindL = (List.replicate m (kindsT P d e)).flatten → All2 (LeafV E w) as (xs.drop (i * (kindsT P d e).length)) → All2 (LeafV E w) bs (ys.drop (i * (kindsT P d e).length)) → AllS as bs →
  ∃ r,(Op.eqItems (d + k) e (kindsT P d e).length xs.toArray ys.toArray (List.range' i m)).run P w = .ok r w ∧ (r = true ↔ AllT as bs)
 | 0,i,as,bs,_,_,ka,kb,_,_,_=>by
  have ea:as = []:=by simpa using ka
  refine ⟨true,by simp [Op.eqItems],?_⟩
  subst ea
  simp [AllT]
 | m + 1,i,as,bs,hl,hl',ka,kb,hx,hy,hS=>by
  obtain ⟨hsz,de,hu,h1⟩:=eqTy_sz hty
  generalize hn:(kindsT P d e).length = n at *
  rw [Nat.add_mul] at hl hl'
  simp only [List.replicate_succ,List.flatten_cons] at ka kb
  have la:n ≤ as.length:=by have:=congrArg List.length ka;simp at this;omega
  have lb:n ≤ bs.length:=by have:=congrArg List.length kb;simp at this;omega
  have hk1:(as.take n).map kindL = kindsT P d e:=by rw [List.map_take,ka,List.take_append_of_le_length (by omega),List.take_of_length_le (by omega)]
  have hk2:(bs.take n).map kindL = kindsT P d e:=by rw [List.map_take,kb,List.take_append_of_le_length (by omega),List.take_of_length_le (by omega)]
  obtain ⟨r1,q1,q2⟩:=hrun k (as.take n) (bs.take n) ((xs.drop (i * n)).take n) ((ys.drop (i * n)).take n) hk1 hk2 (hx.take n) (hy.take n) (hS.take n)
  have hk3:(as.drop n).map kindL = (List.replicate m (kindsT P d e)).flatten:=by rw [List.map_drop,ka,List.drop_append_of_le_length (by omega),List.drop_of_length_le (by omega)];rfl
  have hk4:(bs.drop n).map kindL = (List.replicate m (kindsT P d e)).flatten:=by rw [List.map_drop,kb,List.drop_append_of_le_length (by omega),List.drop_of_length_le (by omega)];rfl
  have ei:(i + 1) * n = i * n + n:=by rw [Nat.add_mul];omega
  obtain ⟨r2,q3,q4⟩:=eqItems_run (k:=k) (xs:=xs) (ys:=ys) hty hrun m (i + 1) (as.drop n) (bs.drop n) (by rw [hn,ei];omega) (by rw [hn,ei];omega) hk3 hk4 (by rw [hn,ei,← List.drop_drop];exact hx.drop n) (by rw [hn,ei,← List.drop_drop];exact hy.drop n) (hS.drop n)
  rw [hn] at q3
  have p1:=part_mk (P:=P) (t:=e) (w:=w) (vs:=xs) (off:=i * n) hu hsz h1 (by omega)
  have p2:=part_mk (P:=P) (t:=e) (w:=w) (vs:=ys) (off:=i * n) hu hsz h1 (by omega)
  simp only [List.range'_succ,Op.eqItems,Sem.run_bind,p1,p2,Result.andThen_ok,q1]
  rw [AllT.split n]
  cases r1 with
  | true=>exact ⟨r2,by simpa using q3,by rw [q4];exact ⟨fun h=>⟨q2.1 rfl,h⟩,fun h=>h.2⟩⟩
  | false=>exact ⟨false,by simp,by simp only [Bool.false_eq_true,false_iff];rintro ⟨h,_⟩;exact absurd (q2.2 h) (by simp)⟩
theorem eq_run {P:Program} {E:Env} {w:World}:∀ (d:Nat) (t:TypeId),eqTy P d t = true → EqRuns P E w d t
 | 0,t,h=>by simp [eqTy] at h
 | d + 1,t,h=>by
  obtain ⟨hsz,de,hu',h1⟩:=eqTy_sz h
  intro k as bs xs ys ka kb hx hy hS
  have e1:d + 1 + k = (d + k) + 1:=by omega
  have scalar:∀ c,kindsT P (d + 1) t = [c] → isAggT P t = false → (∀ a b u v,kindL a = c → kindL b = c → LeafV E w a u → LeafV E w b v → (eqL a b).isSome = true → ∃ r,(Op.equalIn (d + 1 + k) t u v).run P w = .ok r w ∧ eqL a b = some r) → ∃ r,(Op.equalIn (d + 1 + k) t (mkT P t xs) (mkT P t ys)).run P w = .ok r w ∧ (r = true ↔ AllT as bs):=by
   intro c hc hagg hrun
   rw [hc] at ka kb
   obtain ⟨a,rfl⟩:∃ a,as = [a]:=by cases as with | nil=>simp at ka | cons a l=>cases l with | nil=>exact ⟨a,rfl⟩ | cons _ _=>simp at ka
   obtain ⟨b,rfl⟩:∃ b,bs = [b]:=by cases bs with | nil=>simp at kb | cons b l=>cases l with | nil=>exact ⟨b,rfl⟩ | cons _ _=>simp at kb
   cases hx with
   | cons hx1 hx2 =>
    cases hx2
    cases hy with
    | cons hy1 hy2 =>
     cases hy2
     obtain ⟨r,h1,h2⟩:=hrun a b _ _ (by simpa using ka) (by simpa using kb) hx1 hy1 (hS 0 a b rfl rfl)
     refine ⟨r,by simpa [mkT,hagg] using h1,?_⟩
     constructor
     ·rintro rfl i a' b' ha' hb'
      cases i with
      | zero=>simp at ha' hb';subst ha';subst hb';exact h2
      | succ i=>simp at ha'
     ·intro hT
      have:=hT 0 a b rfl rfl
      rw [h2] at this;exact Option.some.inj this
  unfold eqTy at h
  simp only [Bool.and_eq_true] at h
  have h:=h.2
  split at h
  ·rename_i hu
   refine scalar 1 (by simp [kindsT,hu]) (by simp [isAggT,hu]) (fun a b u v qa qb hau hbv hsome=>?_)
   cases a<;>simp [kindL] at qa
   cases b<;>simp [kindL] at qb
   cases hau;cases hbv
   exact ⟨_,by rw [e1];exact run_equalIn_bool w _ _ _ _ hu,rfl⟩
  ·rename_i hu
   refine scalar 2 (by simp [kindsT,hu]) (by simp [isAggT,hu]) (fun a b u v qa qb hau hbv hsome=>?_)
   cases a<;>simp [kindL] at qa
   cases b<;>simp [kindL] at qb
   cases hau;cases hbv
   simp [eqL] at hsome
   subst hsome
   exact ⟨_,by rw [e1];exact run_equalIn_int w _ _ _ _ _ _ hu,by simp [eqL,int_beq]⟩
  ·rename_i hu
   refine scalar 3 (by simp [kindsT,hu]) (by simp [isAggT,hu]) (fun a b u v qa qb hau hbv hsome=>?_)
   cases a<;>simp [kindL] at qa
   cases b<;>simp [kindL] at qb
   cases hau;cases hbv
   exact ⟨_,by rw [e1];exact run_equalIn_string w _ _ _ _ hu,by simp [eqL,toList_inj]⟩
  ·rename_i fs hu
   simp only [Bool.and_eq_true] at h
   obtain ⟨⟨hsi,hlay⟩,hall⟩:=h
   have hk:kindsT P (d + 1) t = fs.toList.flatMap fun f=>kindsT P d f.type:=by simp [kindsT,hu]
   have hxl:xs.length = (kindsT P (d + 1) t).length:=by rw [← hx.length,← ka];simp
   have hyl:ys.length = (kindsT P (d + 1) t).length:=by rw [← hy.length,← kb];simp
   have hf:P.fieldsOf t = fs:=by simp [Program.fieldsOf,hu]
   obtain ⟨r,q1,q2⟩:=eqFields_run (k:=k) (xs:=xs) (ys:=ys) fs.toList 0 as bs (fun f hf=>by
    have:=(List.all_eq_true.1 hall) f hf
    exact ⟨this,eq_run (E:=E) (w:=w) d f.type this⟩) (by rw [hxl];exact hlay) (by rw [hyl];exact hlay) (by rw [ka,hk]) (by rw [kb,hk]) (by simpa using hx) (by simpa using hy) hS
   have hagg:isAggT P t = true:=by simp [isAggT,hu]
   refine ⟨r,?_,q2⟩
   simp only [mkT,hagg,if_true]
   rw [e1,run_equalIn_struct w (d + k) t _ _ (by rw [hf];exact hu) (by simpa using hsi),hf]
   exact q1
  ·rename_i m e hu
   have hk:kindsT P (d + 1) t = (List.replicate m (kindsT P d e)).flatten:=by simp [kindsT,hu]
   have hxl:xs.length = (kindsT P (d + 1) t).length:=by rw [← hx.length,← ka];simp
   have hyl:ys.length = (kindsT P (d + 1) t).length:=by rw [← hy.length,← kb];simp
   have hlen:(kindsT P (d + 1) t).length = m * (kindsT P d e).length:=by rw [hk];simp
   obtain ⟨hsz2,_⟩:=eqTy_sz h
   obtain ⟨i,hi,hin⟩:=Option.map_eq_some_iff.1 hsz2
   obtain ⟨r,q1,q2⟩:=eqItems_run (k:=k) (xs:=xs) (ys:=ys) h (eq_run (E:=E) (w:=w) d e h) m 0 as bs (by omega) (by omega) (by rw [ka,hk]) (by rw [kb,hk]) (by simpa using hx) (by simpa using hy) hS
   have hagg:isAggT P t = true:=by simp [isAggT,hu]
   refine ⟨r,?_,q2⟩
   simp only [mkT,hagg,if_true]
   rw [e1,run_equalIn_array w (d + k) _ _ hu hi]
   rw [List.range_eq_range',show P.cellsOf e = (kindsT P d e).length by simp [Program.cellsOf,hi,hin]]
   exact q1
  ·cases h
theorem eqLs_spec:∀ (as bs:List L) (t:Bool),eqLs as bs = some t → as.length = bs.length ∧ AllS as bs ∧ (t = true ↔ AllT as bs)
 | [],[],t,h=>by simp [eqLs] at h;subst h;simp [AllS,AllT]
 | [],_ :: _,t,h=>by simp [eqLs] at h
 | _ :: _,[],t,h=>by simp [eqLs] at h
 | [x],[y],t,h=>by
  simp only [eqLs] at h
  refine ⟨rfl,fun i a b ha hb=>?_,?_⟩
  ·cases i with
   | zero=>simp at ha hb;subst ha;subst hb;simp [h]
   | succ i=>simp at ha
  ·constructor
   ·rintro rfl i a b ha hb
    cases i with
    | zero=>simp at ha hb;subst ha;subst hb;exact h
    | succ i=>simp at ha
   ·intro hT
    have:=hT 0 x y rfl rfl
    rw [h] at this;exact Option.some.inj this
 | x :: x2 :: xs,y :: ys,t,h=>eqLs_cons x (x2 :: xs) y ys t (by
   have:eqLs (x :: x2 :: xs) (y :: ys) = (match eqL x y,eqLs (x2 :: xs) ys with | some a,some b=>some (a && b) | _,_=>none):=by cases ys<;>rfl
   rw [this] at h;exact h) (fun t h=>eqLs_spec (x2 :: xs) ys t h)
 | [x],y :: y2 :: ys,t,h=>eqLs_cons x [] y (y2 :: ys) t (by
   have:eqLs [x] (y :: y2 :: ys) = (match eqL x y,eqLs [] (y2 :: ys) with | some a,some b=>some (a && b) | _,_=>none):=rfl
   rw [this] at h;exact h) (fun t h=>eqLs_spec [] (y2 :: ys) t h)
where
 eqLs_cons (x:L) (xs:List L) (y:L) (ys:List L) (t:Bool) (h:(match eqL x y,eqLs xs ys with | some a,some b=>some (a && b) | _,_=>none) = some t) (ih:∀ t,eqLs xs ys = some t → xs.length = ys.length ∧ AllS xs ys ∧ (t = true ↔ AllT xs ys)) :
   (x :: xs).length = (y :: ys).length ∧ AllS (x :: xs) (y :: ys) ∧ (t = true ↔ AllT (x :: xs) (y :: ys)):=by
  split at h
  ·rename_i a b h1 h2
   obtain ⟨k1,k2,k3⟩:=ih b h2
   obtain rfl:=(Option.some.inj h).symm
   refine ⟨by simp [k1],fun i c d hc hd=>?_,?_⟩
   ·cases i with
    | zero=>simp at hc hd;subst hc;subst hd;simp [h1]
    | succ i=>exact k2 i c d (by simpa using hc) (by simpa using hd)
   ·rw [Bool.and_eq_true,k3]
    constructor
    ·rintro ⟨rfl,hT⟩ i c d hc hd
     cases i with
     | zero=>simp at hc hd;subst hc;subst hd;exact h1
     | succ i=>exact hT i c d (by simpa using hc) (by simpa using hd)
    ·intro hT
     refine ⟨?_,fun i c d hc hd=>hT (i + 1) c d (by simpa using hc) (by simpa using hd)⟩
     have:=hT 0 x y rfl rfl
     rw [h1] at this;exact Option.some.inj this
  ·cases h
theorem sound_beq {P:Program} {o:Oper} {t u:TypeId} {neg:Bool} {x y:Operand} {ax ay:AO} (ho:o.op = .binOp (if neg then .neq else .eql) t x y u) (h1:cOpd P t x = some ax) (h2:cOpd P u y = some ay) (hty:eqTy P 6 t = true) (hagg:isAggT P t = true) (hg:P.eqGuardType P.depth t = false):SoundP X P o (.beq neg (kindsT P 6 t) ax ay):=by
 intro E0 E w0 w n σ a K hx hr hd hw
 have hx:=cOpd_ev h1 hr
 have hy:=cOpd_ev h2 hr
 simp only [wop] at hw
 generalize σ.ev ax = px at hx hw
 generalize σ.ev ay = py at hy hw
 split at hw
 ·rename_i as bs
  obtain ⟨ka,kb,r,hr1,hK⟩:=hw
  obtain ⟨xs,ex,hxs⟩:=V_ag hx
  obtain ⟨ys,ey,hys⟩:=V_ag hy
  obtain ⟨_,hS,hT⟩:=eqLs_spec as bs r hr1
  refine putP hK (v:=.bool (if neg then !r else r)) (fun w1 hU=>?_) (.mk_bool ..)
  have keep:=(ext_step (m:=0) hr.ws.inj hU).2
  obtain ⟨r',q1,q2⟩:=eq_run (E:=E) (w:=w1) 6 t hty 9994 as bs xs ys ka kb (hxs.imp (LeafV.keep keep)) (hys.imp (LeafV.keep keep)) hS
  have e:r' = r:=by
   cases r<;>cases r'<;>simp_all
  subst e
  simp only [mkT,hagg,if_true] at q1
  have q3:(Op.equal t (.agg xs.toArray) (.agg ys.toArray)).run P w1 = .ok r' w1:=q1
  cases neg with
  | false=>simp [execOp,ho,ex,ey,eqGuard,hg,binOp,q3]
  | true=>simp [execOp,ho,ex,ey,eqGuard,hg,binOp,q3]
 ·exact hw.elim
theorem sound_bqb {P:Program} {o:Oper} {t u:TypeId} {neg:Bool} {x y:Operand} {ax ay:AO} (ho:o.op = .binOp (if neg then .neq else .eql) t x y u) (h1:cOpd P t x = some ax) (h2:cOpd P u y = some ay) (hu:P.underlying t = some .bool):SoundP X P o (.bqb neg ax ay):=by
 intro E0 E w0 w n σ a K hx hr hd hw
 have hx:=cOpd_ev h1 hr
 have hy:=cOpd_ev h2 hr
 simp only [wop] at hw
 generalize σ.ev ax = px at hx hw
 generalize σ.ev ay = py at hy hw
 split at hw
 ·rename_i b1 b2
  have ex:=V_bool hx
  have ey:=V_bool hy
  refine putP hw (v:=.bool (if neg then !(b1 == b2) else (b1 == b2))) (fun w1 hU=>?_) (.mk_bool ..)
  have q:=run_equal_bool w1 t b1 b2 hu
  cases neg with
  | false=>simp [execOp,ho,ex,ey,eqGuard,binOp,q]
  | true=>simp [execOp,ho,ex,ey,eqGuard,binOp,q]
 ·exact hw.elim
theorem sound_cbs {P:Program} {o:Oper} {s t e:TypeId} {x:Operand} {ax:AO} (ho:o.op = .convert s t x) (h1:cOpd P s x = some ax) (hs:P.underlying s = some (.slice e)) (ht:P.underlying t = some .string) (he:P.underlying e = some (.int .u8)):Sound X P o (.cbs ax):=by
 intro E0 E w0 w n σ a K Q hx hr hd hw
 have hx:=cOpd_ev h1 hr
 simp only [wop] at hw
 generalize σ.ev ax = px at hx hw
 split at hw
 ·rename_i tg sz xs sp
  obtain ⟨ns,rfl,hK⟩:=hw
  obtain ⟨A,cap,ex,hh⟩:=V_lst hx
  refine sound_put hr hd hK (v:=.string (strOfNums ns)) ?_ (.mk_str ..)
  have fin:∀ v,(convert s t (a.eval x)).run P w = .ok v w → (execOp a.eval o).run P w = .ok (.value v) w:=by
   intro v hv
   simp [execOp,ho,hv]
  refine fin _ ?_
  rw [ex]
  by_cases hns:ns = []
  ·subst hns
   cases A with
   | none=>simp [convert,run_underlying hs,run_underlying ht,run_underlying he,Conv.bytesToString,strOfNums,ByteArray.empty,ByteArray.emptyWithCapacity];rfl
   | some ad=>simp [convert,run_underlying hs,run_underlying ht,run_underlying he,Conv.bytesToString,loadCells,loadCellsFrom,strOfNums,ByteArray.empty,ByteArray.emptyWithCapacity];rfl
  ·have hne:ns.map (fun n=>[L.int .u8 n]) ≠ []:=by simpa using hns
   have hl:0 < ns.length:=by cases ns with | nil=>exact absurd rfl hns | cons _ _=>simp
   have rd:∀ i,i < ns.length → ∃ ad,A = some ad ∧ w.cell? (ad.add (i * sz + 0)) = some (.int .u8 (ns.getD i 0)) ∧ sz = 1:=by
    intro i hi
    obtain ⟨h1,ad,hA,h2⟩:=hh.read (i:=i) (x:=[L.int .u8 ns[i]]) (by rw [List.getElem?_append_left (by simpa using hi)];simp [hi])
    obtain ⟨u,hu,hD⟩:=h2 0 (.int .u8 ns[i]) rfl
    cases hD
    exact ⟨ad,hA,by rw [hu];simp [hi],by simpa using h1.symm⟩
   obtain ⟨ad,rfl,h0,rfl⟩:=rd 0 hl
   have hspot:ad.spot = none:=by
    have:w.cell? ad = some (.int .u8 (ns.getD 0 0)):=by simpa [add_zero'] using h0
    unfold World.cell? at this
    split at this
    ·split at this
     ·cases this
     ·rename_i hs;simpa using hs
    ·cases this
   obtain ⟨bk,off,spot⟩:=ad
   simp only at hspot
   subst hspot
   have:=run_convert_bytes_arg (P:=P) w s e hs he bk off ns.length cap ns rfl (fun i hi=>by
    obtain ⟨ad',h1,h2,_⟩:=rd i hi
    obtain rfl:=Option.some.inj h1
    rw [add_cell] at h2
    simpa using h2) t ht
   simpa using this
 ·exact hw.elim
end Go.Proofs.YthcpaohmajjopaaGreatDoor.AM
