/- The abstract machine, part Ops2. -/
import Derived.Test.YthcpaohmajjopaaGreatDoorAmOps1
set_option linter.unusedVariables false
set_option linter.unusedSimpArgs false
namespace Go.Proofs.YthcpaohmajjopaaGreatDoor.AM
open Go
variable {X:Cx}
theorem sound_as {P:Program} {o:Oper} {x:Operand} {ao:AO} {e n0:Nat} (ho:o.op = .assign x) (h:cOpd P o.type x = some ao):Sound X P o (.as e n0 ao):=by
 intro E0 E w0 w n σ a K Q hx hr hd hw
 have hx:=cOpd_ev h hr
 simp only [wop] at hw
 generalize σ.ev ao = px at hx hw
 have run:(execOp a.eval o).run P w = .ok (.value (a.eval x)) w:=by simp [execOp,ho]
 unfold St.asg at hw
 split at hw
 ·rename_i d q e' sz xs sp hdst
  split at hw
  ·exact sound_put hr hd (by rw [hdst];exact hw) run hx
  ·rename_i hq
   have hqp:q ≠ plT d 0:=by simpa using hq
   have h1:=hr.put (d:=o.dst) hd hx
   rw [hdst] at h1
   refine wp_value run ⟨_,hw,E.ren q (plT d 0),?_⟩
   rw [hdst]
   exact h1.step (E':=E.ren q (plT d 0)) (w':=w) (ren_ws h1.ws.inj) (fun y v hy=>ren_leaf hqp _ _ (noP_killP _ y) (killP_leaf (E:=E) (w:=w) _ y v hy)) (fun _ _ _ _ h1 h2 _=>⟨h1,h2⟩)
 ·rename_i d sz xs sp hdst
  have h1:=hr.same (killP_leaf (E:=E) (w:=w) (plT d 0))
  obtain ⟨A,cap,k1,k2,k3,k4,k5⟩:=V_lst hx
  subst k2 k3 k4
  rw [← hdst] at hw
  exact sound_put h1 hd hw run (by rw [k1];exact ⟨none,0,rfl,.inl ⟨rfl,rfl,rfl,k5 ▸ rfl⟩⟩)
 ·exact sound_put hr hd hw run hx
theorem sound_pk {P:Program} {o:Oper} {c x y:Operand} {ac ax ay:AO} (ho:o.op = .pick c x y) (h0:cOpd P o.type c = some ac) (h1:cOpd P o.type x = some ax) (h2:cOpd P o.type y = some ay):SoundP X P o (.pk ac ax ay):=by
 intro E0 E w0 w n σ a K hx hr hd hw
 have hc:=cOpd_ev h0 hr
 have hx:=cOpd_ev h1 hr
 have hy:=cOpd_ev h2 hr
 simp only [wop] at hw
 generalize σ.ev ac = pc at hc hw
 split at hw
 ·rename_i t
  have ec:=V_bool hc
  cases t with
  | true=>exact putP (hw.1 rfl) (fun w1 hU=>by simp [execOp,ho,ec,asBool]) hx
  | false=>exact putP (hw.2 rfl) (fun w1 hU=>by simp [execOp,ho,ec,asBool]) hy
 ·exact hw.elim
theorem sound_un {P:Program} {o:Oper} {op:UnOp} {t:TypeId} {x:Operand} {ax:AO} (ho:o.op = .unOp op t x) (h1:cOpd P t x = some ax):SoundP X P o (.un op ax):=by
 intro E0 E w0 w n σ a K hx hr hd hw
 have hx:=cOpd_ev h1 hr
 simp only [wop] at hw
 generalize σ.ev ax = px at hx hw
 unfold wun at hw
 split at hw
 ·have ex:=V_bool hx
  exact putP hw (fun w1 hU=>by simp [execOp,ho,ex,Op.unary]) (.mk_bool ..)
 ·have ex:=V_int hx
  exact putP hw (fun w1 hU=>by simp [execOp,ho,ex,Op.unary,Op.intArith]) (.mk_int ..)
 ·have ex:=V_int hx
  exact putP hw (fun w1 hU=>by simp [execOp,ho,ex,Op.unary,Op.intBits,Go.bits]) (.mk_int ..)
 ·exact hw.elim
theorem sound_cvi {P:Program} {o:Oper} {s t:TypeId} {k0 k:IntKind} {x:Operand} {ax:AO} (ho:o.op = .convert s t x) (h1:cOpd P s x = some ax) (hs:P.underlying s = some (.int k0)) (ht:P.underlying t = some (.int k)):SoundU X P o (.cvi k ax):=by
 intro E0 E w0 w n σ a K hx hr hd hw
 have hx:=cOpd_ev h1 hr
 simp only [wop] at hw
 generalize σ.ev ax = px at hx hw
 split at hw
 ·have ex:=V_int hx
  exact putU hw (fun w1=>by simp [execOp,ho,ex,convert,run_underlying hs,run_underlying ht,Conv.intToInt]) (.mk_int ..)
 ·exact hw.elim
theorem sound_cvs {P:Program} {o:Oper} {s t:TypeId} {x:Operand} {ax:AO} (ho:o.op = .convert s t x) (h1:cOpd P s x = some ax) (hs:P.underlying s = some .string) (ht:P.underlying t = some .string):SoundP X P o (.cvs ax):=by
 intro E0 E w0 w n σ a K hx hr hd hw
 have hx:=cOpd_ev h1 hr
 simp only [wop] at hw
 generalize σ.ev ax = px at hx hw
 split at hw
 ·have ex:=V_str hx
  exact putP hw (fun w1 hU=>by simp [execOp,ho,ex,convert,run_underlying hs,run_underlying ht]) (.mk_str ..)
 ·exact hw.elim
theorem sound_ext {P:Program} {o:Oper} {i:Nat} {x:Operand} {ax:AO} (ho:o.op = .extract x i) (h1:cOpd P o.type x = some ax):SoundU X P o (.ext ax i):=by
 intro E0 E w0 w n σ a K hx hr hd hw
 have hx:=cOpd_ev h1 hr
 simp only [wop] at hw
 generalize σ.ev ax = px at hx hw
 split at hw
 ·obtain ⟨pv,hp,hK⟩:=hw
  obtain ⟨vs,ex,hall⟩:=V_tp hx
  obtain ⟨v,hv,h2⟩:=hall.get i pv hp
  exact putU hK (fun w1=>by simp [execOp,ho,ex,Instr.extract,hv]) h2.toV
 ·exact hw.elim
theorem run_isAgg {P:Program} {t:TypeId} {d:TypeDesc} (h:P.underlying t = some d) (w:World):(isAgg t).run P w = .ok (isAggT P t) w:=by
 unfold isAgg isAggT
 rw [Sem.run_bind,run_underlying h,h]
 cases d<;>rfl
theorem run_sizeOf' {P:Program} {t:TypeId} {n:Nat} (h:szOf P t = some n) (w:World):(sizeOf t).run P w = .ok n w:=by
 unfold szOf at h
 obtain ⟨i,h1,h2⟩:=Option.map_eq_some_iff.1 h
 simp [sizeOf,typeInfo,h1,h2]
theorem toArray_extract (vs:List Value) (i j:Nat):vs.toArray.extract i j = ((vs.drop i).take (j - i)).toArray:=by
 simp [List.extract_toArray,List.extract_eq_take_drop]
theorem part_sound {P:Program} {t:TypeId} {d:TypeDesc} {n off:Nat} (hu:P.underlying t = some d) (hs:szOf P t = some n) {E:Env} {w:World} {cs:List L} {vs:List Value} (hall:All2 (LeafV E w) cs vs) {K:PV → Prop} (hK:wpart cs off n (isAggT P t) K) :
  ∃ pv v,(∀ w1:World,(part t vs.toArray off).run P w1 = .ok v w1) ∧ V E w pv v ∧ K pv:=by
 unfold wpart at hK
 unfold part
 split at hK
 ·rename_i hagg
  obtain ⟨hle,hK⟩:=hK
  refine ⟨.ag ((cs.drop off).take n),.agg ((vs.drop off).take n).toArray,fun w1=>?_,⟨(vs.drop off).take n,rfl,(hall.drop off).take n⟩,hK⟩
  rw [Sem.run_bind,run_isAgg hu]
  simp only [Result.andThen_ok]
  rw [if_pos hagg]
  simp only [Sem.run_bind,run_sizeOf' hs,Result.andThen_ok,Sem.run_pure,toArray_extract]
  congr 4
  omega
 ·rename_i hagg
  obtain ⟨c,hc,hK⟩:=hK
  obtain ⟨v,hv,hl⟩:=hall.get off c hc
  refine ⟨.lf c,v,fun w1=>?_,hl,hK⟩
  rw [Sem.run_bind,run_isAgg hu]
  simp only [Result.andThen_ok]
  rw [if_neg hagg]
  simp [hv]
theorem sound_fld {P:Program} {o:Oper} {t:TypeId} {f:Nat} {x:Operand} {ax:AO} {fs:Array Field} {fd:Field} {n0:Nat} {dd:TypeDesc} (ho:o.op = .field t x f) (h1:cOpd P t x = some ax) (hu:P.underlying t = some (.struct fs)) (hf:fs[f]? = some fd) (hn:szOf P fd.type = some n0) (hd0:P.underlying fd.type = some dd):SoundP X P o (.fld ax fd.offset n0 (isAggT P fd.type)):=by
 intro E0 E w0 w n σ a K hx hr hd hw
 have hx:=cOpd_ev h1 hr
 simp only [wop] at hw
 generalize σ.ev ax = px at hx hw
 split at hw
 ·obtain ⟨vs,ex,hall⟩:=V_ag hx
  obtain ⟨pv,v,hrun,hv,hK⟩:=part_sound hd0 hn hall hw
  exact putP hK (fun w1 hU=>by simp [execOp,ho,ex,Instr.field,run_underlying hu,hf,asAgg,hrun]) hv
 ·exact hw.elim
theorem sound_ixs {P:Program} {o:Oper} {t:TypeId} {x i:Operand} {ax ai:AO} (ho:o.op = .index t x i) (h1:cOpd P t x = some ax) (h2:cOpd P 0 i = some ai) (hu:P.underlying t = some .string):SoundP X P o (.ixs ax ai):=by
 intro E0 E w0 w n σ a K hx hr hd hw
 have hx:=cOpd_ev h1 hr
 have hi:=cOpd_ev h2 hr
 simp only [wop] at hw
 generalize σ.ev ax = px at hx hw
 generalize σ.ev ai = pi at hi hw
 split at hw
 ·obtain ⟨hb,hK⟩:=hw
  have ex:=V_str hx
  have ei:=V_int hi
  refine putP hK (fun w1 hU=>?_) (.mk_int ..)
  simp [execOp,ho,ex,ei,Instr.index,run_underlying hu,asIntOf,hb.1,hb.2]
 ·exact hw.elim
end Go.Proofs.YthcpaohmajjopaaGreatDoor.AM
