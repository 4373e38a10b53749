/- The abstract machine, part Ops1. -/
import Derived.Test.YthcpaohmajjopaaGreatDoorAmComp
set_option linter.unusedVariables false
set_option linter.unusedSimpArgs false
namespace Go.Proofs.YthcpaohmajjopaaGreatDoor.AM
open Go
variable {X:Cx}
section
variable {E:Env} {w:World} {v:Value}
theorem V_bool {b:Bool} (h:V E w (.lf (.bool b)) v):v = .bool b:=by cases h;rfl
theorem V_int {k:IntKind} {n:Int} (h:V E w (.lf (.int k n)) v):v = .int k n:=by cases h;rfl
theorem V_str {s:ByteArray} (h:V E w (.lf (.str s)) v):v = .string s:=by cases h;rfl
theorem V_nilp (h:V E w (.lf .nilp) v):v = .pointer none:=by cases h;rfl
theorem V_rp {cs:List L} {o:Nat} (h:V E w (.lf (.rp cs o)) v):∃ (b:Nat) (us:List Value),v = .pointer (some ⟨b,o,none⟩) ∧ E.rd b ∧ b < w.heap.size ∧ cs.length = us.length ∧ (∀ (i:Nat) (u:Value),us[i]? = some u → w.cell? ⟨b,i,none⟩ = some u) ∧ (∀ (i:Nat) (c:L) (u:Value),cs[i]? = some c → us[i]? = some u → D E.rd w c u):=by
 cases h with
 | rp _ _ b us hb hlt hl hu hd=>exact ⟨b,us,rfl,hb,hlt,hl,hu,hd⟩
theorem V_gl {g o:Nat} (h:V E w (.lf (.gl g o)) v):v = .pointer (some ⟨g,o,none⟩):=by cases h;rfl
theorem V_tptr {c off T:Nat} (h:V E w (.lf (.tptr c off T)) v):∃ b u,E.κ c = some b ∧ v = .pointer (some ⟨b,off,none⟩) ∧ w.heap[b]? = some (.cells u T (0,0)):=h
theorem V_fn {f:Nat} {a b:List L} (h:V E w (.lf (.fn f a b)) v):∃ us vs:List Value,v = .func (.func f) us.toArray vs.toArray ∧ All2 (CapV E w) a us ∧ All2 (CapV E w) b vs:=h
theorem V_it {p i:Nat} {s:ByteArray} (h:V E w (.lf (.it p s i)) v):∃ g,E.ω p = some g ∧ w.heap[g]? = some (.stringIter s i) ∧ v = .pointer (some ⟨g,0,none⟩):=h
theorem V_nili (h:V E w (.lf .nili) v):v = .nilIface:=by cases h;rfl
theorem V_lst {t:Tag} {sz:Nat} {xs sp:List (List L)} (h:V E w (.lf (.lst t sz xs sp)) v):∃ A cap,v = .slice A xs.length cap ∧ HdrV E w t sz xs sp A cap:=h
theorem V_ptr {c off:Nat} (h:V E w (.lf (.ptr c off)) v):∃ b,E.κ c = some b ∧ v = .pointer (some ⟨b,off,none⟩):=h
theorem V_ep {t:Tag} {sz:Nat} {xs sp:List (List L)} {i off:Nat} (h:V E w (.lf (.ep t sz xs sp i off)) v):∃ a cap,HdrV E w t sz xs sp (some a) cap ∧ i < xs.length ∧ v = .pointer (some (a.add (i * sz + off))):=h
theorem V_ag {cs:List L} (h:V E w (.ag cs) v):∃ vs:List Value,v = .agg vs.toArray ∧ All2 (LeafV E w) cs vs:=h
theorem V_tp {xs:List PV} (h:V E w (.tp xs) v):∃ vs:List Value,v = .tuple vs.toArray ∧ All2 (V1 E w) xs vs:=h
theorem V.mk_bool (E:Env) (w:World) (b:Bool):V E w (.lf (.bool b)) (.bool b):=D.bool b
theorem V.mk_int (E:Env) (w:World) (k:IntKind) (n:Int):V E w (.lf (.int k n)) (.int k n):=D.int k n
theorem V.mk_str (E:Env) (w:World) (s:ByteArray):V E w (.lf (.str s)) (.string s):=D.str s
theorem V1.toV {x:PV} (h:V1 E w x v):V E w x v:=by
 cases x with
 | lf x=>exact h
 | ag cs=>exact h
 | tp vs=>exact h.elim
end
theorem cLeaf_leaf {E:Env} {w:World} {P:Program} {t:TypeId} {lst:Nat → Nat → L} (hl:∀ e n,LeafV E w (lst e n) (.slice none 0 0)) {v:Value} {x:L} (h:cLeaf lst P t v = some x):LeafV E w x v:=by
 unfold cLeaf at h
 split at h
 ·cases h;exact .bool _
 ·cases h;exact .int _ _
 ·cases h;exact .str _
 ·cases h;exact .nilp
 ·cases h;exact .nili
 ·cases h;exact .nilf
 ·split at h
  ·obtain ⟨n,_,rfl⟩:=Option.map_eq_some_iff.1 h
   exact hl _ _
  ·cases h
 ·cases h
theorem nlL_leaf {E:Env} {w:World} (e n:Nat):LeafV E w (nlL e n) (.slice none 0 0):=⟨none,0,rfl,rfl,rfl,rfl,rfl⟩
theorem cOpd_ev {P:Program} {t:TypeId} {x:Operand} {ao:AO} (h:cOpd P t x = some ao) {E0 E:Env} {w0 w:World} {n:Nat} {σ:St} {a:Act} (hr:RelE E0 w0 n E σ a w):V E w (σ.ev ao) (a.eval x):=by
 unfold cOpd at h
 split at h
 ·cases h
  exact hr.get _
 ·obtain ⟨y,h1,rfl⟩:=Option.map_eq_some_iff.1 h
  exact cLeaf_leaf nlL_leaf h1
 ·cases h
  exact D.gl _ 0
 ·cases h
  exact ⟨[],[],rfl,.nil,.nil⟩
theorem cZero_all {E:Env} {w:World} {P:Program} {lst:Nat → Nat → Nat → L} (hl:∀ i e n,LeafV E w (lst i e n) (.slice none 0 0)):∀ (ts:List TypeId) (vs:List Value) (i:Nat) (xs:List L),cZero lst P i ts vs = some xs → All2 (LeafV E w) xs vs
 | [],[],i,xs,h=>by simp [cZero] at h;subst h;exact .nil
 | [],_ :: _,_,_,h=>by simp [cZero] at h
 | _ :: _,[],_,_,h=>by simp [cZero] at h
 | t :: ts,v :: vs,i,xs,h=>by
  simp only [cZero] at h
  split at h
  ·rename_i x ys h1 h2
   cases h
   exact .cons (cLeaf_leaf (hl i) h1) (cZero_all hl ts vs (i + 1) ys h2)
  ·cases h
theorem wp_value {P:Program} {o:Oper} {a:Act} {w w':World} {next:Act → World → Prop} {Q:Exit → Act → World → Prop} {v:Value} (h:(execOp a.eval o).run P w = .ok (.value v) w') (hn:next (a.put o.dst v) w'):o.wp P a w next Q:=by
 unfold Oper.wp;rw [h];exact hn
theorem wp_skip_ {P:Program} {o:Oper} {a:Act} {w w':World} {next:Act → World → Prop} {Q:Exit → Act → World → Prop} (h:(execOp a.eval o).run P w = .ok .skip w') (hn:next (a.put o.dst undef) w'):o.wp P a w next Q:=by
 unfold Oper.wp;rw [h];exact hn
def Sound (X:Cx) (P:Program) (o:Oper) (ao:AOp):Prop :=
 ∀ {E0 E:Env} {w0 w:World} {n:Nat} {σ:St} {a:Act} {K:St → Prop} {Q:Exit → Act → World → Prop},CxOK X E w → RelE E0 w0 n E σ a w → (∀ t,o.dst = some t → t < n) → wop X P σ o.dst ao K → o.wp P a w (fun a' w'=>∃ σ',K σ' ∧ Rel E0 w0 n σ' a' w') Q
def SoundP (X:Cx) (P:Program) (o:Oper) (ao:AOp):Prop :=
 ∀ {E0 E:Env} {w0 w:World} {n:Nat} {σ:St} {a:Act} {K:St → Prop},CxOK X E w → RelE E0 w0 n E σ a w → (∀ t,o.dst = some t → t < n) → wop X P σ o.dst ao K →
  ∃ pv v,(∀ w',Unch (fun _=>False) w w' → (execOp a.eval o).run P w' = .ok (.value v) w') ∧ V E w pv v ∧ K (σ.put o.dst pv)
theorem SoundP.sound {P:Program} {o:Oper} {ao:AOp} (h:SoundP X P o ao):Sound X P o ao:=by
 intro E0 E w0 w n σ a K Q hx hr hd hw
 obtain ⟨pv,v,h1,h2,h3⟩:=h hx hr hd hw
 exact wp_value (h1 w (Unch.refl _ _)) ⟨_,h3,E,hr.put hd h2⟩
def SoundU (X:Cx) (P:Program) (o:Oper) (ao:AOp):Prop :=
 ∀ {E0 E:Env} {w0 w:World} {n:Nat} {σ:St} {a:Act} {K:St → Prop},CxOK X E w → RelE E0 w0 n E σ a w → (∀ t,o.dst = some t → t < n) → wop X P σ o.dst ao K →
  ∃ pv v,(∀ w',(execOp a.eval o).run P w' = .ok (.value v) w') ∧ V E w pv v ∧ K (σ.put o.dst pv)
theorem SoundU.P {P:Program} {o:Oper} {ao:AOp} (h:SoundU X P o ao):SoundP X P o ao:=by
 intro E0 E w0 w n σ a K hx hr hd hw
 obtain ⟨pv,v,h1,h2,h3⟩:=h hx hr hd hw
 exact ⟨pv,v,fun w' _=>h1 w',h2,h3⟩
theorem putU {P:Program} {o:Oper} {E:Env} {w:World} {σ:St} {a:Act} {K:St → Prop} {pv:PV} (hK:K (σ.put o.dst pv)) {v:Value}
  (h:∀ w',(execOp a.eval o).run P w' = .ok (.value v) w') (hv:V E w pv v):∃ pv v,(∀ w',(execOp a.eval o).run P w' = .ok (.value v) w') ∧ V E w pv v ∧ K (σ.put o.dst pv):=⟨pv,v,h,hv,hK⟩
theorem putP {P:Program} {o:Oper} {E:Env} {w:World} {σ:St} {a:Act} {K:St → Prop} {pv:PV} (hK:K (σ.put o.dst pv)) {v:Value}
  (h:∀ w',Unch (fun _=>False) w w' → (execOp a.eval o).run P w' = .ok (.value v) w') (hv:V E w pv v):∃ pv v,(∀ w',Unch (fun _=>False) w w' → (execOp a.eval o).run P w' = .ok (.value v) w') ∧ V E w pv v ∧ K (σ.put o.dst pv):=⟨pv,v,h,hv,hK⟩
theorem sound_put {P:Program} {o:Oper} {E0 E:Env} {w0 w:World} {n:Nat} {σ:St} {a:Act} {K:St → Prop} {Q:Exit → Act → World → Prop} (hr:RelE E0 w0 n E σ a w) (hd:∀ t,o.dst = some t → t < n) {pv:PV} (hK:K (σ.put o.dst pv)) {v:Value}
  (h:(execOp a.eval o).run P w = .ok (.value v) w) (hv:V E w pv v):o.wp P a w (fun a' w'=>∃ σ',K σ' ∧ Rel E0 w0 n σ' a' w') Q :=
 wp_value h ⟨_,hK,E,hr.put hd hv⟩
def Nw (E:Env) (w w':World):Prop:=∀ b,b < w.heap.size → (∀ p,E.ω p ≠ some b) → w'.heap[b]? = w.heap[b]?
def SoundN (X:Cx) (P:Program) (o:Oper) (ao:AOp):Prop :=
 ∀ {E0 E:Env} {w0 w:World} {n:Nat} {σ:St} {a:Act} {K:St → Prop} {Q:Exit → Act → World → Prop},CxOK X E w → RelE E0 w0 n E σ a w → (∀ t,o.dst = some t → t < n) → wop X P σ o.dst ao K → o.wp P a w (fun a' w'=>(∃ σ',K σ' ∧ Rel E0 w0 n σ' a' w') ∧ (notSl σ ao = true → Nw E w w')) Q
theorem SoundN.sound {P:Program} {o:Oper} {ao:AOp} (h:SoundN X P o ao):Sound X P o ao:=fun hx hr hd hw=>Oper.wp_mono (fun _ _ h=>h.1) (h hx hr hd hw)
def SoundL (X:Cx) (P:Program) (o:Oper) (ao:AOp):Prop :=
 ∀ {E0 E:Env} {w0 w:World} {n:Nat} {σ:St} {a:Act} {K:St → Prop},CxOK X E w → RelE E0 w0 n E σ a w → (∀ t,o.dst = some t → t < n) → wop X P σ o.dst ao K → ldOK σ ao = true →
  ∃ pv v,(∀ w',(∀ l,l ∈ locOf σ ao → ∀ b,E.κ l.1 = some b → ∀ j,l.2.1 ≤ j → j < l.2.1 + l.2.2 → w'.cell? ⟨b,j,none⟩ = w.cell? ⟨b,j,none⟩) → (execOp a.eval o).run P w' = .ok (.value v) w') ∧ V E w pv v ∧ K (σ.put o.dst pv)
def SoundT (X:Cx) (P:Program) (o:Oper) (ao:AOp):Prop :=
 ∀ {E0 E:Env} {w0 w:World} {n:Nat} {σ:St} {a:Act} {K:St → Prop} {Q:Exit → Act → World → Prop} (ls:List (Nat × Nat × Nat)),CxOK X E w → RelE E0 w0 n E σ a w → (∀ t,o.dst = some t → t < n) → wop X P σ o.dst ao K → stOK ls σ ao = true →
  o.wp P a w (fun a' w'=>∃ σ',K σ' ∧ RelE E0 w0 n E σ' a' w' ∧ ∀ l,l ∈ ls → ∀ b,E.κ l.1 = some b → ∀ j,l.2.1 ≤ j → j < l.2.1 + l.2.2 → w'.cell? ⟨b,j,none⟩ = w.cell? ⟨b,j,none⟩) Q
theorem sound_mvU {P:Program} {o:Oper} {x:Operand} {ao:AO} (ho:o.op = .move x) (h:cOpd P o.type x = some ao):SoundU X P o (.mv ao):=by
 intro E0 E w0 w n σ a K hx hr hd hw
 exact putU hw (fun w1=>by simp [execOp,ho]) (cOpd_ev h hr)
theorem toList_inj (a b:ByteArray):(a.toList == b.toList) = decide (a = b):=by
 have key:a.toList = b.toList ↔ a = b:=by
  constructor
  ·intro h
   rw [ByteArray.toList_eq,ByteArray.toList_eq] at h
   cases a;cases b
   simpa [← Array.toList_inj] using h
  ·intro h;rw [h]
 by_cases h:a = b
 ·simp [h]
 ·have:¬ a.toList = b.toList:=fun e=>h (key.1 e)
  simp [h,this]
theorem int_beq (i j:Int):(i == j) = decide (i = j):=by by_cases h:i = j<;>simp [h]
theorem i64_max:IntKind.i64.max = 9223372036854775807:=by decide
theorem sound_binU {P:Program} {o:Oper} {op:BinOp} {t u:TypeId} {x y:Operand} {ax ay:AO} (ho:o.op = .binOp op t x y u) (h1:cOpd P t x = some ax) (h2:cOpd P u y = some ay):SoundU X P o (.bin op ax ay):=by
 intro E0 E w0 w n σ a K hx hr hd hw
 have hx:=cOpd_ev h1 hr
 have hy:=cOpd_ev h2 hr
 simp only [wop] at hw
 generalize σ.ev ax = px at hx hw
 generalize σ.ev ay = py at hy hw
 unfold wbin at hw
 split at hw
 ·rename_i k i k' j
  have ex:=V_int hx
  have ey:=V_int hy
  have run:∀ w1 v,(binOp op t (.int k i) (.int k' j)).run P w1 = .ok v w1 → (execOp a.eval o).run P w1 = .ok (.value v) w1:=by
   intro w1 v hv
   cases op<;>simp [execOp,ho,ex,ey,eqGuard,hv]
  cases op<;>simp only at hw
  case add=>obtain ⟨rfl,hK⟩:=hw;exact putU hK (fun w1=>run _ _ (by simp [binOp,Op.intArith])) (.mk_int ..)
  case sub=>obtain ⟨rfl,hK⟩:=hw;exact putU hK (fun w1=>run _ _ (by simp [binOp,Op.intArith])) (.mk_int ..)
  case mul=>obtain ⟨rfl,hK⟩:=hw;exact putU hK (fun w1=>run _ _ (by simp [binOp,Op.intArith])) (.mk_int ..)
  case quo=>obtain ⟨rfl,h0,hK⟩:=hw;exact putU hK (fun w1=>run _ _ (by simp [binOp,Op.intDiv,h0])) (.mk_int ..)
  case rem=>obtain ⟨rfl,h0,hK⟩:=hw;exact putU hK (fun w1=>run _ _ (by simp [binOp,Op.intDiv,h0])) (.mk_int ..)
  case and=>obtain ⟨rfl,hK⟩:=hw;exact putU hK (fun w1=>run _ _ (by simp [binOp,Op.intBits,Go.bits])) (.mk_int ..)
  case or=>obtain ⟨rfl,hK⟩:=hw;exact putU hK (fun w1=>run _ _ (by simp [binOp,Op.intBits,Go.bits])) (.mk_int ..)
  case xor=>obtain ⟨rfl,hK⟩:=hw;exact putU hK (fun w1=>run _ _ (by simp [binOp,Op.intBits,Go.bits])) (.mk_int ..)
  case andNot=>obtain ⟨rfl,hK⟩:=hw;exact putU hK (fun w1=>run _ _ (by simp [binOp,Op.intBits,Go.bits])) (.mk_int ..)
  case shl=>obtain ⟨h0,hK⟩:=hw;exact putU hK (fun w1=>run _ _ (by simp [binOp,Op.shift,show ¬ j < 0 by omega])) (.mk_int ..)
  case shr=>obtain ⟨h0,hK⟩:=hw;exact putU hK (fun w1=>run _ _ (by simp [binOp,Op.shift,show ¬ j < 0 by omega])) (.mk_int ..)
  case eql=>obtain ⟨rfl,hK⟩:=hw;exact putU hK (fun w1=>run _ _ (by simp [binOp,Op.intCmp,int_beq])) (.mk_bool ..)
  case neq=>obtain ⟨rfl,hK⟩:=hw;exact putU hK (fun w1=>run _ _ (by simp [binOp,Op.intCmp,bne,int_beq])) (.mk_bool ..)
  case lss=>obtain ⟨rfl,hK⟩:=hw;exact putU hK (fun w1=>run _ _ (by simp [binOp,Op.intCmp])) (.mk_bool ..)
  case leq=>obtain ⟨rfl,hK⟩:=hw;exact putU hK (fun w1=>run _ _ (by simp [binOp,Op.intCmp])) (.mk_bool ..)
  case gtr=>obtain ⟨rfl,hK⟩:=hw;exact putU hK (fun w1=>run _ _ (by simp [binOp,Op.intCmp])) (.mk_bool ..)
  case geq=>obtain ⟨rfl,hK⟩:=hw;exact putU hK (fun w1=>run _ _ (by simp [binOp,Op.intCmp])) (.mk_bool ..)
 ·rename_i s1 s2
  have ex:=V_str hx
  have ey:=V_str hy
  have run:∀ w1 v,(binOp op t (.string s1) (.string s2)).run P w1 = .ok v w1 → (execOp a.eval o).run P w1 = .ok (.value v) w1:=by
   intro w1 v hv
   cases op<;>simp [execOp,ho,ex,ey,eqGuard,hv]
  cases op<;>simp only at hw<;>try exact hw.elim
  case add=>obtain ⟨h0,hK⟩:=hw;exact putU hK (fun w1=>run _ _ (by simp only [binOp,Op.stringOp,i64_max];rw [if_neg (by omega)];rfl)) (.mk_str ..)
  case eql=>exact putU hw (fun w1=>run _ _ (by simp [binOp,Op.stringOp,toList_inj])) (.mk_bool ..)
  case neq=>exact putU hw (fun w1=>run _ _ (by simp [binOp,Op.stringOp,toList_inj])) (.mk_bool ..)
  case lss=>exact putU hw (fun w1=>run _ _ (by simp [binOp,Op.stringOp])) (.mk_bool ..)
  case leq=>exact putU hw (fun w1=>run _ _ (by simp [binOp,Op.stringOp,toList_inj])) (.mk_bool ..)
  case gtr=>exact putU hw (fun w1=>run _ _ (by simp [binOp,Op.stringOp,toList_inj])) (.mk_bool ..)
  case geq=>exact putU hw (fun w1=>run _ _ (by simp [binOp,Op.stringOp])) (.mk_bool ..)
 ·exact hw.elim
end Go.Proofs.YthcpaohmajjopaaGreatDoor.AM
