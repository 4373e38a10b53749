/- The abstract machine, part Ops6. -/
import Derived.Test.YthcpaohmajjopaaGreatDoorAmOps5
set_option linter.unusedVariables false
set_option linter.unusedSimpArgs false
namespace Go.Proofs.YthcpaohmajjopaaGreatDoor.AM
open Go
variable {X:Cx}
theorem HdrV.reslice {E:Env} {w:World} {t:Tag} {sz:Nat} {xs sp:List (List L)} {A:Option Addr} {cap h:Nat} (H:HdrV E w t sz xs sp A cap) (hle:h ≤ xs.length + sp.length):HdrV E w t sz ((xs ++ sp).take h) ((xs ++ sp).drop h) A cap:=by
 have e:(xs ++ sp).take h ++ (xs ++ sp).drop h = xs ++ sp:=List.take_append_drop _ _
 have el:((xs ++ sp).take h).length + ((xs ++ sp).drop h).length = xs.length + sp.length:=by rw [← List.length_append,e,List.length_append]
 cases t with
 | ro =>
  cases H with
  | lst _ _ _ _ _ us hc hm ha hs hu hd =>
   exact .lst sz _ _ A cap us (by rw [el];exact hc) hm (by rw [el];exact ha) (by rw [e];exact hs) (by rw [e];exact hu) (by rw [e];exact hd)
 | nl =>
  obtain ⟨h1,h2,rfl,rfl⟩:=H
  exact ⟨h1,h2,by simp,by simp⟩
 | own p e' =>
  rcases H with ⟨h1,h2,rfl,rfl⟩ | ⟨g,cur,h1,h2,h3,h4,h5,h6,h7⟩
  ·exact .inl ⟨h1,h2,by simp,by simp⟩
  ·exact .inr ⟨g,cur,h1,h2,h3,by rw [el];exact h4,h5,h6,by rw [e];exact h7⟩
 | vw p =>
  obtain ⟨k1,k2,⟨a1,a2,rfl,rfl⟩ | ⟨g,off,cur,e',h1,h2,h3,h4⟩⟩:=H
  ·exact ⟨by simp,k2,.inl ⟨a1,a2,by simp,by simp⟩⟩
  ·exact ⟨by rw [el];exact k1,k2,.inr ⟨g,off,cur,e',h1,h2,h3,h4.1,by rw [e];exact h4.2⟩⟩
theorem Row.drop {Rb:Nat → Prop} {w:World} {sz l:Nat} {xs:List (List L)} {vals:List Value} (h:Row Rb w sz xs vals):Row Rb w sz (xs.drop l) (vals.drop (l * sz)):=by
 intro i x hx
 rw [List.getElem?_drop] at hx
 obtain ⟨h1,h2⟩:=h _ x hx
 refine ⟨h1,fun j c hc=>?_⟩
 obtain ⟨u,hu,hd⟩:=h2 j c hc
 refine ⟨u,?_,hd⟩
 rw [List.getElem?_drop,← hu]
 congr 1
 rw [Nat.add_mul];omega
theorem HdrV.drop {E:Env} {w:World} {t:Tag} {sz:Nat} {xs sp:List (List L)} {A:Option Addr} {cap l:Nat} (H:HdrV E w t sz xs sp A cap) (hle:l ≤ xs.length):HdrV E w (tagV t) sz (xs.drop l) sp (if cap = l then A else A.map (·.add (l * sz))) (cap - l):=by
 have hcap:=H.le
 have ed:xs.drop l ++ sp = (xs ++ sp).drop l:=by rw [List.drop_append_of_le_length hle]
 by_cases hcl:cap = l
 ·have e1:xs.drop l = []:=List.drop_eq_nil_of_le (by omega)
  have e2:sp = []:=List.eq_nil_of_length_eq_zero (by omega)
  rw [e1,e2,if_pos hcl]
  cases t with
  | ro=>exact D_nil _ _ _ _ _ (by omega)
  | nl=>obtain ⟨h1,h2,_,_⟩:=H;exact ⟨h1,by omega,rfl,rfl⟩
  | own p e' =>
   rcases H with ⟨h1,h2,_,_⟩ | ⟨g,cur,h1,h2,h3,_,_,_,_⟩
   ·exact ⟨by simp,by omega,.inl ⟨h1,by omega,rfl,rfl⟩⟩
   ·exact ⟨by simp,by omega,.inr ⟨g,0,cur,e',h1,h2,h3,by rw [hcl,Nat.sub_self];simp,fun i x hx=>by simp at hx⟩⟩
  | vw p =>
   obtain ⟨_,_,⟨h1,h2,_,_⟩ | ⟨g,off,cur,e',h1,h2,h3,h4,_⟩⟩:=H
   ·exact ⟨by simp,by omega,.inl ⟨h1,by omega,rfl,rfl⟩⟩
   ·exact ⟨by simp,by omega,.inr ⟨g,off,cur,e',h1,h2,h3,by rw [hcl,Nat.sub_self];omega,fun i x hx=>by simp at hx⟩⟩
 ·rw [if_neg hcl]
  cases t with
  | ro =>
   cases H with
   | lst _ _ _ _ _ us hc hm ha hs hu hd =>
    have:=D.lst (Rb:=E.rd) (w:=w) sz (xs.drop l) sp (A.map (·.add (l * sz))) (cap - l) (fun i j=>us (l + i) j) (by simp;omega) (by omega)
     (fun hp=>by
      obtain ⟨a,h1,h2,h3⟩:=ha (by simp at hp;omega)
      exact ⟨a.add (l * sz),by rw [h1];rfl,by rw [add_block];exact h2,by rw [add_block];exact h3⟩)
     (fun i x hx=>by rw [ed,List.getElem?_drop] at hx;exact hs _ x hx)
     (fun a ha' i x j c hx hj=>by
      rw [ed,List.getElem?_drop] at hx
      obtain ⟨a0,h0,rfl⟩:=Option.map_eq_some_iff.1 ha'
      rw [add_add',show l * sz + (i * sz + j) = (l + i) * sz + j by rw [Nat.add_mul];omega]
      exact hu a0 h0 (l + i) x j c hx hj)
     (fun i x j c hx hj=>by rw [ed,List.getElem?_drop] at hx;exact hd _ x j c hx hj)
    exact this
  | nl =>
   obtain ⟨h1,h2,rfl,rfl⟩:=H
   simp at hle;omega
  | own p e' =>
   rcases H with ⟨h1,h2,rfl,rfl⟩ | ⟨g,cur,h1,h2,h3,h4,h5,h6,h7⟩
   ·simp at hle;omega
   ·subst h1
    refine ⟨by simp;omega,by omega,.inr ⟨g,l * sz,cur,e',by simp [add_cell],h2,h3,by rw [← Nat.add_mul,show l + (cap - l) = cap by omega];omega,by rw [ed];exact h7.drop⟩⟩
  | vw p =>
   obtain ⟨k1,k2,⟨_,a2,rfl,rfl⟩ | ⟨g,off,cur,e',h1,h2,h3,h5,h4⟩⟩:=H
   ·simp at hle;omega
   ·subst h1
    refine ⟨by simp;omega,by omega,.inr ⟨g,off + l * sz,cur,e',by simp [add_cell],h2,h3,by rw [Nat.add_assoc,← Nat.add_mul,show l + (cap - l) = cap by omega];exact h5,?_⟩⟩
    rw [ed,← List.drop_drop]
    exact h4.drop
theorem add_zero' (a:Addr):a.add 0 = a:=by simp [Addr.add]
theorem map_add_zero (A:Option Addr):A.map (·.add 0) = A:=by cases A<;>simp [add_zero']
theorem optA_none {P:Program} {t:TypeId} {x:Option Operand} (h:optA P t x = some none):x = none:=by
 cases x with
 | none=>rfl
 | some x=>simp [optA] at h
theorem optA_some {P:Program} {t:TypeId} {x:Option Operand} {ao:AO} (h:optA P t x = some (some ao)):∃ y,x = some y ∧ cOpd P t y = some ao:=by
 cases x with
 | none=>simp [optA] at h
 | some x=>exact ⟨x,rfl,by simpa [optA] using h⟩
theorem sound_sls {P:Program} {o:Oper} {t:TypeId} {x:Operand} {lo hi:Option Operand} {ax:AO} {alo ahi:Option AO} (ho:o.op = .slice t x lo hi none) (h1:cOpd P t x = some ax) (h2:optA P 0 lo = some alo) (h3:optA P 0 hi = some ahi) (hu:P.underlying t = some .string):SoundP X P o (.sls ax alo ahi):=by
 intro E0 E w0 w n σ a K hx hr hd hw
 have hx:=cOpd_ev h1 hr
 simp only [wop] at hw
 generalize σ.ev ax = px at hx hw
 cases alo with
 | none =>
  obtain rfl:=optA_none h2
  cases ahi with
  | none =>
   obtain rfl:=optA_none h3
   simp only [Option.map_none] at hw
   split at hw<;>simp_all
   rename_i s
   have ex:=V_str hx
   exact putP hw (fun w1 hU=>by simp [execOp,ho,ex,Instr.sliceAt,Instr.slice,Instr.sliceBounds,run_underlying hu,ByteArray.extract_zero_size]) (.mk_str ..)
  | some ah =>
   obtain ⟨y,rfl,hy⟩:=optA_some h3
   have hyv:=cOpd_ev hy hr
   simp only [Option.map_none,Option.map_some] at hw
   generalize σ.ev ah = ph at hyv hw
   split at hw<;>simp_all
   rename_i s k h _
   have ex:=V_str hx
   have ey:=V_int hyv
   obtain ⟨⟨b1,b2⟩,hK⟩:=hw
   exact putP hK (fun w1 hU=>by simp [execOp,ho,ex,ey,Instr.sliceAt,Instr.slice,Instr.sliceBounds,run_underlying hu,Instr.sliceBound,asIntOf,b1,b2]) (.mk_str ..)
 | some al =>
  obtain ⟨z,rfl,hz⟩:=optA_some h2
  have hzv:=cOpd_ev hz hr
  cases ahi with
  | none =>
   obtain rfl:=optA_none h3
   simp only [Option.map_none,Option.map_some] at hw
   generalize σ.ev al = pl at hzv hw
   split at hw<;>simp_all
   rename_i s k l _
   have ex:=V_str hx
   have ey:=V_int hzv
   obtain ⟨⟨b1,b2⟩,hK⟩:=hw
   exact putP hK (fun w1 hU=>by simp [execOp,ho,ex,ey,Instr.sliceAt,Instr.slice,Instr.sliceBounds,run_underlying hu,Instr.sliceBound,asIntOf,b1,b2]) (.mk_str ..)
  | some ah =>
   obtain ⟨y,rfl,hy⟩:=optA_some h3
   have hyv:=cOpd_ev hy hr
   simp only [Option.map_some] at hw
   generalize σ.ev ah = ph at hyv hw
   generalize σ.ev al = pl at hzv hw
   split at hw<;>simp_all
   rename_i s k l k2 h _ _
   have ex:=V_str hx
   have ez:=V_int hzv
   have ey:=V_int hyv
   obtain ⟨⟨b1,b2,b3⟩,hK⟩:=hw
   exact putP hK (fun w1 hU=>by simp [execOp,ho,ex,ey,ez,Instr.sliceAt,Instr.slice,Instr.sliceBounds,run_underlying hu,Instr.sliceBound,asIntOf,b1,b3,show 0 ≤ h by omega];omega) (.mk_str ..)
theorem sound_sll {P:Program} {o:Oper} {t e:TypeId} {x:Operand} {lo hi:Option Operand} {ax:AO} {alo ahi:Option AO} {n0:Nat} (ho:o.op = .slice t x lo hi none) (h1:cOpd P t x = some ax) (h2:optA P 0 lo = some alo) (h3:optA P 0 hi = some ahi) (hu:P.underlying t = some (.slice e)) (hn:szOf P e = some n0):SoundU X P o (.sll n0 ax alo ahi):=by
 intro E0 E w0 w n σ a K hx hr hd hw
 have hx:=cOpd_ev h1 hr
 simp only [wop] at hw
 generalize σ.ev ax = px at hx hw
 cases alo with
 | none =>
  obtain rfl:=optA_none h2
  cases ahi with
  | none =>
   obtain rfl:=optA_none h3
   simp only [Option.map_none] at hw
   split at hw<;>simp_all
   rename_i tg sz xs sp
   obtain ⟨A,cap,ex,hh⟩:=V_lst hx
   exact putU hw (fun w1=>by simp [execOp,ho,ex,Instr.sliceAt,Instr.slice,Instr.sliceBounds,run_underlying hu,run_sizeOf' hn,map_add_zero]) ⟨A,cap,rfl,hh⟩
  | some ah =>
   obtain ⟨y,rfl,hy⟩:=optA_some h3
   have hyv:=cOpd_ev hy hr
   simp only [Option.map_none,Option.map_some] at hw
   generalize σ.ev ah = ph at hyv hw
   split at hw<;>simp_all
   rename_i tg sz xs sp k h _
   obtain ⟨A,cap,ex,hh⟩:=V_lst hx
   have ey:=V_int hyv
   obtain ⟨⟨b1,b2⟩,hK⟩:=hw
   have hle:=hh.le
   have hr2:=hh.reslice (h:=h.toNat) (by omega)
   exact putU hK (v:=.slice A h.toNat cap) (fun w1=>by simp [execOp,ho,ex,ey,Instr.sliceAt,Instr.slice,Instr.sliceBounds,run_underlying hu,run_sizeOf' hn,map_add_zero,Instr.sliceBound,asIntOf,b1,show h ≤ cap by omega]) ⟨A,cap,by simp;omega,hr2⟩
 | some al =>
  obtain ⟨z,rfl,hz⟩:=optA_some h2
  have hzv:=cOpd_ev hz hr
  cases ahi with
  | none =>
   obtain rfl:=optA_none h3
   simp only [Option.map_none,Option.map_some] at hw
   generalize σ.ev al = pl at hzv hw
   split at hw<;>simp_all
   rename_i tg sz xs sp k l _
   obtain ⟨A,cap,ex,hh⟩:=V_lst hx
   have ez:=V_int hzv
   obtain ⟨rfl,⟨b1,b2⟩,hK⟩:=hw
   have hr2:=hh.drop (show l.toNat ≤ xs.length by omega)
   exact putU hK (v:=.slice (if cap = l.toNat then A else A.map (·.add (l.toNat * sz))) (xs.drop l.toNat).length (cap - l.toNat)) (fun w1=>by simp [execOp,ho,ex,ez,Instr.sliceAt,Instr.slice,Instr.sliceBounds,run_underlying hu,run_sizeOf' hn,Instr.sliceBound,asIntOf,b1,show l ≤ xs.length by omega]) ⟨_,_,rfl,hr2⟩
  | some ah =>
   obtain ⟨y,rfl,hy⟩:=optA_some h3
   have hyv:=cOpd_ev hy hr
   simp only [Option.map_some] at hw
   generalize σ.ev ah = ph at hyv hw
   generalize σ.ev al = pl at hzv hw
   split at hw<;>simp_all
   rename_i tg sz xs sp k l k2 h _ _
   obtain ⟨A,cap,ex,hh⟩:=V_lst hx
   have ez:=V_int hzv
   have ey:=V_int hyv
   obtain ⟨rfl,⟨b1,b2,b3⟩,hK⟩:=hw
   have hle:=hh.le
   have hr2:=(hh.reslice (h:=h.toNat) (by omega)).drop (l:=l.toNat) (by simp;omega)
   exact putU hK (v:=.slice (if cap = l.toNat then A else A.map (·.add (l.toNat * sz))) (((xs ++ sp).take h.toNat).drop l.toNat).length (cap - l.toNat)) (fun w1=>by simp [execOp,ho,ex,ey,ez,Instr.sliceAt,Instr.slice,Instr.sliceBounds,run_underlying hu,run_sizeOf' hn,Instr.sliceBound,asIntOf,b1,show 0 ≤ h by omega,show h ≤ cap by omega,show l ≤ max h 0 by omega];omega) ⟨_,_,rfl,hr2⟩
theorem sound_mi {P:Program} {o:Oper} {t:TypeId} {d:TypeDesc} {x:Operand} {ax:AO} (ho:o.op = .makeInterface t x) (h1:cOpd P t x = some ax) (hu:P.underlying t = some d) (hd0:(∃ k,d = .int k) ∨ d = .string):SoundP X P o (.mi t ax):=by
 intro E0 E w0 w n σ a K hx hr hd hw
 have hx:=cOpd_ev h1 hr
 simp only [wop] at hw
 generalize σ.ev ax = px at hx hw
 split at hw
 ·rename_i v
  obtain ⟨hf,hK⟩:=hw
  have hD:D E.rd w v (a.eval x):=by
   cases v<;>first | exact hx | simp [flatL] at hf
  refine putP hK (v:=.iface t (a.eval x)) (fun w1 hU=>?_) (D.iface t v _ hD)
  rcases hd0 with ⟨k,rfl⟩ | rfl<;>simp [execOp,ho,Instr.makeInterface,run_underlying hu]
 ·exact hw.elim
end Go.Proofs.YthcpaohmajjopaaGreatDoor.AM
