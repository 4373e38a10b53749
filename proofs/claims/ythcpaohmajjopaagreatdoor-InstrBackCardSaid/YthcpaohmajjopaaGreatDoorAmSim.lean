/- The abstract machine, part Sim. -/
import Derived.Test.YthcpaohmajjopaaGreatDoorAmFun
set_option linter.unusedVariables false
set_option linter.unusedSimpArgs false
namespace Go.Proofs.YthcpaohmajjopaaGreatDoor.AM
open Go
variable {X:Cx}
section
variable {P:Program} {Q:Out → St → Prop} {σ:St} {K:St → Prop}
def opsK (keep:List Nat) (Q:Out → St → Prop) (σ:St):Prop:=Q .nrm (σ.restrict keep)
def seqK (X:Cx) (P:Program) (b:AC) (Q:Out → St → Prop) (o:Out) (σ:St):Prop :=
 match o with
 | .nrm=>awp X P b Q σ
 | o=>Q o σ
def blkK (id:Nat) (Q:Out → St → Prop) (o:Out) (σ:St):Prop :=
 match o with
 | .ex i=>if i = id then Q .nrm σ else Q (.ex i) σ
 | o=>Q o σ
def loopK (keep:List Nat) (Q:Out → St → Prop) (X:St → Prop) (o:Out) (σ:St):Prop :=
 match o with
 | .nrm=>X (σ.head keep)
 | o=>Q o σ
def LoopAt (X:Cx) (P:Program) (b:AC) (keep:List Nat) (Q:Out → St → Prop) (σ:St):Prop :=
 ∀ Z:St → Prop,(∀ σ,awp X P b (loopK keep Q Z) σ → Z σ) → Z σ
def cnd (X:Cx) (P:Program) (v:PV) (a b:AC) (Q:Out → St → Prop) (σ:St):Prop :=
 match v with
 | .lf (.bool t)=>if t = true then awp X P a Q σ else awp X P b Q σ
 | _=>False
theorem s_bad:awp X P .bad Q σ = False:=rfl
theorem s_skip:awp X P .skip Q σ = Q .nrm σ:=rfl
theorem s_exit {id:Nat}:awp X P (.exit id) Q σ = Q (.ex id) σ:=rfl
theorem s_ret:awp X P .ret Q σ = Q .ret σ:=rfl
theorem s_ops0 {l:List AOper} {keep:List Nat}:awp X P (.ops 0 l keep) Q σ = wops X P l σ (opsK keep Q):=rfl
theorem s_ops1 {l:List AOper} {keep:List Nat}:awp X P (.ops 1 l keep) Q σ = wopsT X P l σ (opsK keep Q):=rfl
theorem s_ops2 {l:List AOper} {keep:List Nat}:awp X P (.ops 2 l keep) Q σ = wopsq X P l σ (opsK keep Q):=rfl
theorem s_seq {a b:AC}:awp X P (.seq a b) Q σ = awp X P a (seqK X P b Q) σ:=by
 simp only [awp];congr 1
theorem s_cond {c:AO} {a b:AC}:awp X P (.cond c a b) Q σ = cnd X P (σ.ev c) a b Q σ:=by
 simp only [awp,cnd]
 split
 ·rename_i t ht
  rw [ht]
  cases t<;>simp
 ·rename_i h
  split
  ·rename_i t ht
   exact absurd ht (h t)
  ·rfl
theorem s_block {id:Nat} {b:AC}:awp X P (.block id b) Q σ = awp X P b (blkK id Q) σ:=by
 simp only [awp];congr 1
theorem s_loop {b:AC} {keep:List Nat}:awp X P (.loop b keep) Q σ = LoopAt X P b keep Q (σ.head keep):=by
 rfl
theorem s_opsK {keep:List Nat}:opsK keep Q σ = Q .nrm (σ.restrict keep):=rfl
theorem s_seqK_n {b:AC}:seqK X P b Q .nrm σ = awp X P b Q σ:=rfl
theorem s_seqK_e {b:AC} {i:Nat}:seqK X P b Q (.ex i) σ = Q (.ex i) σ:=rfl
theorem s_seqK_r {b:AC}:seqK X P b Q .ret σ = Q .ret σ:=rfl
theorem s_blkK_n {id:Nat}:blkK id Q .nrm σ = Q .nrm σ:=rfl
theorem s_blkK_e {id i:Nat}:blkK id Q (.ex i) σ = if i = id then Q .nrm σ else Q (.ex i) σ:=rfl
theorem s_blkK_r {id:Nat}:blkK id Q .ret σ = Q .ret σ:=rfl
theorem s_loopK_n {keep:List Nat} {X:St → Prop}:loopK keep Q X .nrm σ = X (σ.head keep):=rfl
theorem s_loopK_e {keep:List Nat} {X:St → Prop} {i:Nat}:loopK keep Q X (.ex i) σ = Q (.ex i) σ:=rfl
theorem s_loopK_r {keep:List Nat} {X:St → Prop}:loopK keep Q X .ret σ = Q .ret σ:=rfl
theorem s_cnd {t:Bool} {a b:AC}:cnd X P (.lf (.bool t)) a b Q σ = if t = true then awp X P a Q σ else awp X P b Q σ:=rfl
def wopsK (X:Cx) (P:Program) (os:List AOper) (K:St → Prop) (σ:St):Prop:=wops X P os σ K
def wopsTK (X:Cx) (P:Program) (os:List AOper) (K:St → Prop) (σ:St):Prop:=wopsT X P os σ K
def wopsqK (X:Cx) (P:Program) (os:List AOper) (K:St → Prop) (σ:St):Prop:=wopsq X P os σ K
def putK (σ:St) (d:Option Nat) (K:St → Prop) (v:PV):Prop:=K (σ.put d v)
def wgrd (X:Cx) (P:Program) (q:Bool) (v:PV) (t:Nat) (want:Bool) (d:Option Nat) (op:AOp) (σ:St) (K:St → Prop):Prop :=
 match v with
 | .lf (.bool b)=>if b = want then cond q (wopq X P { σ with tm:=(t,.lf (.bool want)) :: σ.tm } d op K) (wop X P { σ with tm:=(t,.lf (.bool want)) :: σ.tm } d op K)
  else K (St.put { σ with tm:=(t,.lf (.bool (!want))) :: σ.tm } d (.lf .no))
 | .lf .no=>K (σ.put d (.lf .no))
 | _=>False
theorem s_nil:wops X P [] σ K = K σ:=rfl
theorem s_cons {d:Option Nat} {op:AOp} {os:List AOper}:wops X P (⟨d,op,none⟩ :: os) σ K = wop X P σ d op (wopsK X P os K):=rfl
theorem s_guard {d:Option Nat} {op:AOp} {os:List AOper} {t:Nat} {want:Bool}:wops X P (⟨d,op,some (t,want)⟩ :: os) σ K = wgrd X P false (σ.ev (.t t)) t want d op σ (wopsK X P os K):=by
 simp only [wops,wgrd,cond]
 generalize σ.ev (.t t) = v
 split
 ·rename_i b
  cases b<;>cases want<;>simp [wopsK]<;>rfl
 ·rfl
 ·rename_i h1 h2
  split
  ·exact absurd rfl (h1 _)
  ·exact absurd rfl h2
  ·rfl
theorem s_reg {Q:Out → St → Prop} {hd tl:List AOper} {keep:List Nat}:awp X P (.reg hd tl keep) Q σ = wopsq X P hd σ (wopsK X P tl (opsK keep Q)):=rfl
theorem s_wopsK {os:List AOper}:wopsK X P os K σ = wops X P os σ K:=rfl
theorem s_wopsTK {os:List AOper}:wopsTK X P os K σ = wopsT X P os σ K:=rfl
theorem s_wopsqK {os:List AOper}:wopsqK X P os K σ = wopsq X P os σ K:=rfl
theorem s_putK {d:Option Nat} {v:PV}:putK σ d K v = K (σ.put d v):=rfl
theorem s_grd {q b:Bool} {t:Nat} {want:Bool} {d:Option Nat} {op:AOp}:wgrd X P q (.lf (.bool b)) t want d op σ K = if b = want then cond q (wopq X P { σ with tm:=(t,.lf (.bool want)) :: σ.tm } d op K) (wop X P { σ with tm:=(t,.lf (.bool want)) :: σ.tm } d op K)
  else K (St.put { σ with tm:=(t,.lf (.bool (!want))) :: σ.tm } d (.lf .no)):=rfl
theorem s_grd_no {q:Bool} {t:Nat} {want:Bool} {d:Option Nat} {op:AOp}:wgrd X P q (.lf .no) t want d op σ K = K (σ.put d (.lf .no)):=rfl
theorem s_qnil:wopsq X P [] σ K = K σ:=rfl
theorem s_qcons {d:Option Nat} {op:AOp} {os:List AOper}:wopsq X P (⟨d,op,none⟩ :: os) σ K = wopq X P σ d op (wopsqK X P os K):=rfl
theorem gw_eq {q:Bool} {d:Option Nat} {op:AOp} {t:Nat} {want:Bool}:gw (fun σ K=>wopq X P σ d op K) ⟨d,op,some (t,want)⟩ σ K = wgrd X P true (σ.ev (.t t)) t want d op σ K:=by
 simp only [gw,wgrd,cond]
 generalize σ.ev (.t t) = v
 split
 ·rename_i b
  cases b<;>cases want<;>simp<;>rfl
 ·rfl
 ·rename_i h1 h2
  split
  ·exact absurd rfl (h1 _)
  ·exact absurd rfl h2
  ·rfl
theorem s_qguard {d:Option Nat} {op:AOp} {os:List AOper} {t:Nat} {want:Bool}:wopsq X P (⟨d,op,some (t,want)⟩ :: os) σ K = wgrd X P true (σ.ev (.t t)) t want d op σ (wopsqK X P os K):=gw_eq (q:=true)
theorem s_tone {o:AOper}:wopsT X P [o] σ K = wops X P [o] σ K:=rfl
theorem s_tcons {d:Option Nat} {op:AOp} {o:AOper} {os:List AOper}:wopsT X P (⟨d,op,none⟩ :: o :: os) σ K = wopq X P σ d op (wopsTK X P (o :: os) K):=rfl
theorem s_tguard {d:Option Nat} {op:AOp} {o:AOper} {os:List AOper} {t:Nat} {want:Bool}:wopsT X P (⟨d,op,some (t,want)⟩ :: o :: os) σ K = wgrd X P true (σ.ev (.t t)) t want d op σ (wopsTK X P (o :: os) K):=gw_eq (q:=true)
variable {d:Option Nat}
theorem q_as {e n:Nat} {x:AO}:wopq X P σ d (.as e n x) K = (notOwn (σ.ev x) = true ∧ K (σ.put d (σ.ev x))):=rfl
def wcallq (X:Cx) (P:Program) (f:Nat) (args:List PV) (σ:St) (d:Option Nat) (K:St → Prop):Prop:=∃ r,R X P f args [] r [] ∧ (detPV r).isSome = true ∧ K (σ.put d r)
theorem q_call {f:Nat} {args:List AO}:wopq X P σ d (.call f args) K = wcallq X P f (args.map fun x=>mapL roL (σ.ev x)) σ d K:=rfl
theorem wcallq_i {f:Nat} {args:List PV} {r:PV} (h:R X P f args [] r []) (h2:(detPV r).isSome = true) (h3:K (σ.put d r)):wcallq X P f args σ d K:=⟨r,h,h2,h3⟩
theorem q_mv {x:AO}:wopq X P σ d (.mv x) K = K (σ.put d (σ.ev x)):=by simp [wopq,isQ,wop]
theorem q_pk {c a b:AO}:wopq X P σ d (.pk c a b) K = wop X P σ d (.pk c a b) K:=by simp [wopq,isQ]
theorem q_bin {op:BinOp} {x y:AO}:wopq X P σ d (.bin op x y) K = wop X P σ d (.bin op x y) K:=by simp [wopq,isQ]
theorem q_beq {neg:Bool} {ks:List Nat} {x y:AO}:wopq X P σ d (.beq neg ks x y) K = wop X P σ d (.beq neg ks x y) K:=by simp [wopq,isQ]
theorem q_bqb {neg:Bool} {x y:AO}:wopq X P σ d (.bqb neg x y) K = wop X P σ d (.bqb neg x y) K:=by simp [wopq,isQ]
theorem q_un {op:UnOp} {x:AO}:wopq X P σ d (.un op x) K = wop X P σ d (.un op x) K:=by simp [wopq,isQ]
theorem q_cvi {k:IntKind} {x:AO}:wopq X P σ d (.cvi k x) K = wop X P σ d (.cvi k x) K:=by simp [wopq,isQ]
theorem q_cvs {x:AO}:wopq X P σ d (.cvs x) K = wop X P σ d (.cvs x) K:=by simp [wopq,isQ]
theorem q_ext {x:AO} {i:Nat}:wopq X P σ d (.ext x i) K = wop X P σ d (.ext x i) K:=by simp [wopq,isQ]
theorem q_fld {x:AO} {off n:Nat} {agg:Bool}:wopq X P σ d (.fld x off n agg) K = wop X P σ d (.fld x off n agg) K:=by simp [wopq,isQ]
theorem q_ixs {x i:AO}:wopq X P σ d (.ixs x i) K = wop X P σ d (.ixs x i) K:=by simp [wopq,isQ]
theorem q_fa {x:AO} {off:Nat}:wopq X P σ d (.fa x off) K = wop X P σ d (.fa x off) K:=by simp [wopq,isQ]
theorem q_ia {x i:AO} {n:Nat}:wopq X P σ d (.ia x i n) K = wop X P σ d (.ia x i n) K:=by simp [wopq,isQ]
theorem q_iaa {x i:AO} {len n:Nat}:wopq X P σ d (.iaa x i len n) K = wop X P σ d (.iaa x i len n) K:=by simp [wopq,isQ]
theorem q_ld {x:AO} {n:Nat} {agg:Bool}:wopq X P σ d (.ld x n agg) K = wop X P σ d (.ld x n agg) K:=by simp [wopq,isQ]
theorem q_nc {x:AO}:wopq X P σ d (.nc x) K = wop X P σ d (.nc x) K:=by simp [wopq,isQ]
theorem q_bd {zero:List L} {ps:List (Nat × Nat × AO)}:wopq X P σ d (.bd zero ps) K = wop X P σ d (.bd zero ps) K:=by simp [wopq,isQ]
theorem q_len {x:AO}:wopq X P σ d (.len x) K = wop X P σ d (.len x) K:=by simp [wopq,isQ]
theorem q_lns {x:AO}:wopq X P σ d (.lns x) K = wop X P σ d (.lns x) K:=by simp [wopq,isQ]
theorem q_sls {x:AO} {lo hi:Option AO}:wopq X P σ d (.sls x lo hi) K = wop X P σ d (.sls x lo hi) K:=by simp [wopq,isQ]
theorem q_sll {n:Nat} {x:AO} {lo hi:Option AO}:wopq X P σ d (.sll n x lo hi) K = wop X P σ d (.sll n x lo hi) K:=by simp [wopq,isQ]
theorem q_mi {t:Nat} {x:AO}:wopq X P σ d (.mi t x) K = wop X P σ d (.mi t x) K:=by simp [wopq,isQ]
theorem q_ieq {neg:Bool} {x:AO}:wopq X P σ d (.ieq neg x) K = wop X P σ d (.ieq neg x) K:=by simp [wopq,isQ]
theorem q_peq {neg:Bool} {x y:AO}:wopq X P σ d (.peq neg x y) K = wop X P σ d (.peq neg x y) K:=by simp [wopq,isQ]
theorem q_p2u {x:AO}:wopq X P σ d (.p2u x) K = wop X P σ d (.p2u x) K:=by simp [wopq,isQ]
theorem q_u2p {u:Nat} {x:AO}:wopq X P σ d (.u2p u x) K = wop X P σ d (.u2p u x) K:=by simp [wopq,isQ]
theorem q_ex {k:Nat} {args:List AO}:wopq X P σ d (.ex k args) K = wop X P σ d (.ex k args) K:=by simp [wopq,isQ]
theorem q_usd {x:AO}:wopq X P σ d (.usd x) K = wop X P σ d (.usd x) K:=by simp [wopq,isQ]
theorem q_mm {mx:Bool} {x y:AO}:wopq X P σ d (.mm mx x y) K = wop X P σ d (.mm mx x y) K:=by simp [wopq,isQ]
theorem o_mv {x:AO}:wop X P σ d (.mv x) K = K (σ.put d (σ.ev x)):=rfl
theorem o_as {e n:Nat} {x:AO}:wop X P σ d (.as e n x) K = K (σ.asg e n d (σ.ev x)):=rfl
def wpk (c a b:PV) (K:PV → Prop):Prop :=
 match c with
 | .lf (.bool t)=>if t = true then K a else K b
 | _=>False
theorem o_pk {c a b:AO}:wop X P σ d (.pk c a b) K = wpk (σ.ev c) (σ.ev a) (σ.ev b) (putK σ d K):=by
 simp only [wop,wpk]
 generalize σ.ev c = v
 split
 ·rename_i t
  cases t<;>simp [putK]
 ·rename_i h
  split
  ·exact absurd rfl (h _)
  ·rfl
theorem v_pk {t:Bool} {a b:PV} {K:PV → Prop}:wpk (.lf (.bool t)) a b K = if t = true then K a else K b:=rfl
theorem o_bin {op:BinOp} {x y:AO}:wop X P σ d (.bin op x y) K = wbin op (σ.ev x) (σ.ev y) (putK σ d K):=rfl
section
variable {k k':IntKind} {a b:Int} {K:PV → Prop}
theorem v_add:wbin .add (.lf (.int k a)) (.lf (.int k b)) K = K (.lf (.int k (k.wrap (a + b)))):=by simp [wbin]
theorem v_sub:wbin .sub (.lf (.int k a)) (.lf (.int k b)) K = K (.lf (.int k (k.wrap (a - b)))):=by simp [wbin]
theorem v_mul:wbin .mul (.lf (.int k a)) (.lf (.int k b)) K = K (.lf (.int k (k.wrap (a * b)))):=by simp [wbin]
theorem v_quo:wbin .quo (.lf (.int k a)) (.lf (.int k b)) K = (b ≠ 0 ∧ K (.lf (.int k (k.wrap (a.tdiv b))))):=by simp [wbin]
theorem v_rem:wbin .rem (.lf (.int k a)) (.lf (.int k b)) K = (b ≠ 0 ∧ K (.lf (.int k (a.tmod b)))):=by simp [wbin]
theorem v_and:wbin .and (.lf (.int k a)) (.lf (.int k b)) K = K (.lf (.int k (Go.bits .and k a b))):=by simp [wbin]
theorem v_or:wbin .or (.lf (.int k a)) (.lf (.int k b)) K = K (.lf (.int k (Go.bits .or k a b))):=by simp [wbin]
theorem v_xor:wbin .xor (.lf (.int k a)) (.lf (.int k b)) K = K (.lf (.int k (Go.bits .xor k a b))):=by simp [wbin]
theorem v_andNot:wbin .andNot (.lf (.int k a)) (.lf (.int k b)) K = K (.lf (.int k (Go.bits .andNot k a b))):=by simp [wbin]
theorem v_shl:wbin .shl (.lf (.int k a)) (.lf (.int k' b)) K = (0 ≤ b ∧ K (.lf (.int k (k.wrap (a * 2 ^ (min b.toNat k.bits)))))):=rfl
theorem v_shr:wbin .shr (.lf (.int k a)) (.lf (.int k' b)) K = (0 ≤ b ∧ K (.lf (.int k (a.fdiv (2 ^ (min b.toNat k.bits)))))):=rfl
theorem v_eql:wbin .eql (.lf (.int k a)) (.lf (.int k b)) K = K (.lf (.bool (decide (a = b)))):=by simp [wbin]
theorem v_neq:wbin .neq (.lf (.int k a)) (.lf (.int k b)) K = K (.lf (.bool (decide (a ≠ b)))):=by simp [wbin]
theorem v_lss:wbin .lss (.lf (.int k a)) (.lf (.int k b)) K = K (.lf (.bool (decide (a < b)))):=by simp [wbin]
theorem v_leq:wbin .leq (.lf (.int k a)) (.lf (.int k b)) K = K (.lf (.bool (decide (a ≤ b)))):=by simp [wbin]
theorem v_gtr:wbin .gtr (.lf (.int k a)) (.lf (.int k b)) K = K (.lf (.bool (decide (b < a)))):=by simp [wbin]
theorem v_geq:wbin .geq (.lf (.int k a)) (.lf (.int k b)) K = K (.lf (.bool (decide (b ≤ a)))):=by simp [wbin]
variable {s t:ByteArray}
theorem v_sadd:wbin .add (.lf (.str s)) (.lf (.str t)) K = (((s.size + t.size:Nat):Int) ≤ 9223372036854775807 ∧ K (.lf (.str (s ++ t)))):=rfl
theorem v_seql:wbin .eql (.lf (.str s)) (.lf (.str t)) K = K (.lf (.bool (decide (s = t)))):=rfl
theorem v_sneq:wbin .neq (.lf (.str s)) (.lf (.str t)) K = K (.lf (.bool (decide (s ≠ t)))):=rfl
theorem v_slss:wbin .lss (.lf (.str s)) (.lf (.str t)) K = K (.lf (.bool (Op.bytesLess s.toList t.toList))):=rfl
theorem v_sleq:wbin .leq (.lf (.str s)) (.lf (.str t)) K = K (.lf (.bool (Op.bytesLess s.toList t.toList || decide (s = t)))):=rfl
theorem v_sgtr:wbin .gtr (.lf (.str s)) (.lf (.str t)) K = K (.lf (.bool (!(Op.bytesLess s.toList t.toList || decide (s = t))))):=rfl
theorem v_sgeq:wbin .geq (.lf (.str s)) (.lf (.str t)) K = K (.lf (.bool (!Op.bytesLess s.toList t.toList))):=rfl
end
def wbeq (neg:Bool) (ks:List Nat) (x y:PV) (K:PV → Prop):Prop :=
 match x,y with
 | .ag a,.ag b=>a.map kindL = ks ∧ b.map kindL = ks ∧ ∃ t,eqLs a b = some t ∧ K (.lf (.bool (if neg then !t else t)))
 | _,_=>False
theorem o_beq {neg:Bool} {ks:List Nat} {x y:AO}:wop X P σ d (.beq neg ks x y) K = wbeq neg ks (σ.ev x) (σ.ev y) (putK σ d K):=rfl
theorem v_beq {neg:Bool} {ks:List Nat} {a b:List L} {t:Bool} {K:PV → Prop} (h:eqLs a b = some t):wbeq neg ks (.ag a) (.ag b) K = (a.map kindL = ks ∧ b.map kindL = ks ∧ K (.lf (.bool (if neg then !t else t)))):=by
 simp [wbeq,h]
def wbqb (neg:Bool) (x y:PV) (K:PV → Prop):Prop :=
 match x,y with
 | .lf (.bool a),.lf (.bool b)=>K (.lf (.bool (if neg then !(a == b) else (a == b))))
 | _,_=>False
theorem o_bqb {neg:Bool} {x y:AO}:wop X P σ d (.bqb neg x y) K = wbqb neg (σ.ev x) (σ.ev y) (putK σ d K):=rfl
theorem v_bqb {neg a b:Bool} {K:PV → Prop}:wbqb neg (.lf (.bool a)) (.lf (.bool b)) K = K (.lf (.bool (if neg then !(a == b) else (a == b)))):=rfl
theorem o_un {op:UnOp} {x:AO}:wop X P σ d (.un op x) K = wun op (σ.ev x) (putK σ d K):=rfl
theorem v_not {b:Bool} {K:PV → Prop}:wun .not (.lf (.bool b)) K = K (.lf (.bool !b)):=rfl
theorem v_neg {k:IntKind} {n:Int} {K:PV → Prop}:wun .neg (.lf (.int k n)) K = K (.lf (.int k (k.wrap (0 - n)))):=rfl
theorem v_cmp {k:IntKind} {n:Int} {K:PV → Prop}:wun .xor (.lf (.int k n)) K = K (.lf (.int k (Go.bits .xor k (if k.signed then -1 else k.max) n))):=rfl
def cviK (k:IntKind) (K:PV → Prop) (x:PV):Prop :=
 match x with
 | .lf (.int _ n)=>K (.lf (.int k (k.wrap n)))
 | _=>False
theorem o_cvi {k:IntKind} {x:AO}:wop X P σ d (.cvi k x) K = cviK k (putK σ d K) (σ.ev x):=rfl
theorem v_cvi {k k':IntKind} {n:Int} {K:PV → Prop}:cviK k K (.lf (.int k' n)) = K (.lf (.int k (k.wrap n))):=rfl
def cvsK (K:PV → Prop) (x:PV):Prop :=
 match x with
 | .lf (.str s)=>K (.lf (.str s))
 | _=>False
theorem o_cvs {x:AO}:wop X P σ d (.cvs x) K = cvsK (putK σ d K) (σ.ev x):=rfl
theorem v_cvs {s:ByteArray} {K:PV → Prop}:cvsK K (.lf (.str s)) = K (.lf (.str s)):=rfl
def cbsK (K:PV → Prop) (x:PV):Prop :=
 match x with
 | .lf (.lst _ _ xs _)=>∃ ns:List Int,xs = ns.map (fun n=>[.int .u8 n]) ∧ K (.lf (.str (strOfNums ns)))
 | _=>False
theorem o_cbs {x:AO}:wop X P σ d (.cbs x) K = cbsK (putK σ d K) (σ.ev x):=rfl
def extK (i:Nat) (K:PV → Prop) (x:PV):Prop :=
 match x with
 | .tp vs=>∃ v,vs[i]? = some v ∧ K v
 | _=>False
theorem o_ext {x:AO} {i:Nat}:wop X P σ d (.ext x i) K = extK i (putK σ d K) (σ.ev x):=rfl
theorem v_ext0 {x:PV} {vs:List PV} {K:PV → Prop}:extK 0 K (.tp (x :: vs)) = K x:=by simp [extK]
theorem v_ext1 {x y:PV} {vs:List PV} {K:PV → Prop}:extK 1 K (.tp (x :: y :: vs)) = K y:=by simp [extK]
theorem v_ext2 {x y z:PV} {vs:List PV} {K:PV → Prop}:extK 2 K (.tp (x :: y :: z :: vs)) = K z:=by simp [extK]
theorem v_ext3 {x y z u:PV} {vs:List PV} {K:PV → Prop}:extK 3 K (.tp (x :: y :: z :: u :: vs)) = K u:=by simp [extK]
def fldK (off n:Nat) (agg:Bool) (K:PV → Prop) (x:PV):Prop :=
 match x with
 | .ag cs=>wpart cs off n agg K
 | _=>False
theorem o_fld {x:AO} {off n:Nat} {agg:Bool}:wop X P σ d (.fld x off n agg) K = fldK off n agg (putK σ d K) (σ.ev x):=rfl
theorem v_fld {off n:Nat} {agg:Bool} {K:PV → Prop} {cs:List L}:fldK off n agg K (.ag cs) = wpart cs off n agg K:=rfl
theorem v_part_t {cs:List L} {off n:Nat} {K:PV → Prop}:wpart cs off n true K = (off + n ≤ cs.length ∧ K (.ag ((cs.drop off).take n))):=rfl
def atK (K:PV → Prop):Option L → Prop
 | some c=>K (.lf c)
 | none=>False
theorem v_part_f {cs:List L} {off n:Nat} {K:PV → Prop}:wpart cs off n false K = atK K cs[off]?:=by
 simp only [wpart,Bool.false_eq_true,if_false]
 cases cs[off]?<;>simp [atK]
theorem v_atK {c:L} {K:PV → Prop}:atK K (some c) = K (.lf c):=rfl
def byteAt (s:ByteArray) (i:Int):Int:=((s.data.toList.getD i.toNat 0).toNat:Int)
theorem byteAt_eq {s:ByteArray} {i:Int} (h:i.toNat < s.size):((s[i.toNat]'h).toNat:Int) = byteAt s i:=by
 unfold byteAt
 rw [List.getD_eq_getElem?_getD,Array.getElem?_toList,Array.getElem?_eq_getElem (by simpa using h)]
 rfl
theorem byteAt_0 (s:ByteArray) (i:Int):0 ≤ byteAt s i:=by unfold byteAt;omega
theorem byteAt_1 (s:ByteArray) (i:Int):byteAt s i ≤ 255:=by
 unfold byteAt
 have:=(s.data.toList.getD i.toNat 0).toNat_lt
 omega
def ixsK (x i:PV) (K:PV → Prop):Prop :=
 match x,i with
 | .lf (.str s),.lf (.int _ i)=>(0 ≤ i ∧ i < s.size) ∧ K (.lf (.int .u8 (byteAt s i)))
 | _,_=>False
theorem o_ixs {x i:AO}:wop X P σ d (.ixs x i) K = ixsK (σ.ev x) (σ.ev i) (putK σ d K):=by
 simp only [wop,ixsK]
 generalize σ.ev x = px
 generalize σ.ev i = pi
 split
 ·rename_i s k i
  apply propext
  constructor
  ·rintro ⟨⟨h0,h1⟩,hK⟩
   rw [byteAt_eq h1] at hK
   exact ⟨⟨h0,by omega⟩,hK⟩
  ·rintro ⟨⟨h0,h1⟩,hK⟩
   have h2:i.toNat < s.size:=by omega
   refine ⟨⟨h0,h2⟩,?_⟩
   rw [byteAt_eq h2]
   exact hK
 ·rename_i h
  split
  ·exact absurd rfl (h _ _ _ rfl)
  ·rfl
theorem v_ixs {s:ByteArray} {k:IntKind} {i:Int} {K:PV → Prop}:ixsK (.lf (.str s)) (.lf (.int k i)) K = ((0 ≤ i ∧ i < s.size) ∧ K (.lf (.int .u8 (byteAt s i)))):=rfl
theorem o_al {c:Nat} {zero:List L}:wop X P σ (some c) (.al zero) K = (σ.m ≤ c ∧ K { m:=σ.m,tm:=(c,.lf (.ptr c 0)) :: (σ.mapAll (killC c)).tm,ce:=(c,zero) :: del (σ.mapAll (killC c)).ce c }):=rfl
def bxK (σ:St) (c:Nat) (K:St → Prop) (v:PV):Prop :=
 match v with
 | .lf v=>σ.m ≤ c ∧ cellL v = true ∧ K { m:=σ.m,tm:=(c,.lf (.ptr c 0)) :: (σ.mapAll (killC c)).tm,ce:=(c,[killC c v]) :: del (σ.mapAll (killC c)).ce c }
 | .ag vs=>σ.m ≤ c ∧ K { m:=σ.m,tm:=(c,.lf (.ptr c 0)) :: (σ.mapAll (killC c)).tm,ce:=(c,vs.map (killC c)) :: del (σ.mapAll (killC c)).ce c }
 | _=>False
theorem o_bx {c:Nat} {x:AO}:wop X P σ (some c) (.bx x) K = bxK σ c K (σ.ev x):=by
 simp only [wop,bxK]
 generalize σ.ev x = v
 cases v<;>rfl
def faK (off:Nat) (K:PV → Prop) (x:PV):Prop :=
 match x with
 | .lf (.tptr c o T)=>K (.lf (.tptr c (o + off) T))
 | .lf (.gl g o)=>K (.lf (.gl g (o + off)))
 | .lf (.ptr c o)=>K (.lf (.ptr c (o + off)))
 | .lf (.ep t sz xs sp i o)=>K (.lf (.ep t sz xs sp i (o + off)))
 | .lf (.rp cs o)=>K (.lf (.rp cs (o + off)))
 | _=>False
theorem o_fa {x:AO} {off:Nat}:wop X P σ d (.fa x off) K = faK off (putK σ d K) (σ.ev x):=rfl
theorem v_fa_r {off o:Nat} {cs:List L} {K:PV → Prop}:faK off K (.lf (.rp cs o)) = K (.lf (.rp cs (o + off))):=rfl
theorem v_fa_t {off c o T:Nat} {K:PV → Prop}:faK off K (.lf (.tptr c o T)) = K (.lf (.tptr c (o + off) T)):=rfl
theorem v_fa_g {off g o:Nat} {K:PV → Prop}:faK off K (.lf (.gl g o)) = K (.lf (.gl g (o + off))):=rfl
theorem v_fa_p {off c o:Nat} {K:PV → Prop}:faK off K (.lf (.ptr c o)) = K (.lf (.ptr c (o + off))):=rfl
theorem v_fa_e {off:Nat} {t:Tag} {sz:Nat} {xs sp:List (List L)} {i o:Nat} {K:PV → Prop}:faK off K (.lf (.ep t sz xs sp i o)) = K (.lf (.ep t sz xs sp i (o + off))):=rfl
def iaK (n:Nat) (x i:PV) (K:PV → Prop):Prop :=
 match x,i with
 | .lf (.lst t sz xs sp),.lf (.int _ i)=>sz = n ∧ (0 ≤ i ∧ i.toNat < xs.length) ∧ K (.lf (.ep t sz xs sp i.toNat 0))
 | .lf (.sl c o sz l _),.lf (.int _ i)=>sz = n ∧ (0 ≤ i ∧ i.toNat < l) ∧ K (.lf (.ptr c (o + i.toNat * n)))
 | _,_=>False
theorem v_ia_s {n c o sz l cp:Nat} {k:IntKind} {i:Int} {K:PV → Prop}:iaK n (.lf (.sl c o sz l cp)) (.lf (.int k i)) K = (sz = n ∧ (0 ≤ i ∧ i.toNat < l) ∧ K (.lf (.ptr c (o + i.toNat * n)))):=rfl
theorem o_ia {x i:AO} {n:Nat}:wop X P σ d (.ia x i n) K = iaK n (σ.ev x) (σ.ev i) (putK σ d K):=rfl
theorem v_ia {n:Nat} {t:Tag} {sz:Nat} {xs sp:List (List L)} {k:IntKind} {i:Int} {K:PV → Prop}:iaK n (.lf (.lst t sz xs sp)) (.lf (.int k i)) K = (sz = n ∧ (0 ≤ i ∧ i.toNat < xs.length) ∧ K (.lf (.ep t sz xs sp i.toNat 0))):=rfl
def iaaK (len n:Nat) (x i:PV) (K:PV → Prop):Prop :=
 match x,i with
 | .lf (.ptr c o),.lf (.int _ i)=>(0 ≤ i ∧ i < len) ∧ K (.lf (.ptr c (o + i.toNat * n)))
 | .lf (.ep t sz xs sp j o),.lf (.int _ i)=>(0 ≤ i ∧ i < len) ∧ K (.lf (.ep t sz xs sp j (o + i.toNat * n)))
 | .lf (.gl g o),.lf (.int _ i)=>(0 ≤ i ∧ i < len) ∧ K (.lf (.gl g (o + i.toNat * n)))
 | .lf (.rp cs o),.lf (.int _ i)=>(0 ≤ i ∧ i < len) ∧ K (.lf (.rp cs (o + i.toNat * n)))
 | _,_=>False
theorem o_iaa {x i:AO} {len n:Nat}:wop X P σ d (.iaa x i len n) K = iaaK len n (σ.ev x) (σ.ev i) (putK σ d K):=rfl
theorem v_iaa_r {len n o:Nat} {cs:List L} {k:IntKind} {i:Int} {K:PV → Prop}:iaaK len n (.lf (.rp cs o)) (.lf (.int k i)) K = ((0 ≤ i ∧ i < len) ∧ K (.lf (.rp cs (o + i.toNat * n)))):=rfl
theorem v_iaa_g {len n g o:Nat} {k:IntKind} {i:Int} {K:PV → Prop}:iaaK len n (.lf (.gl g o)) (.lf (.int k i)) K = ((0 ≤ i ∧ i < len) ∧ K (.lf (.gl g (o + i.toNat * n)))):=rfl
theorem v_iaa_p {len n c o:Nat} {k:IntKind} {i:Int} {K:PV → Prop}:iaaK len n (.lf (.ptr c o)) (.lf (.int k i)) K = ((0 ≤ i ∧ i < len) ∧ K (.lf (.ptr c (o + i.toNat * n)))):=rfl
theorem v_iaa_e {len n:Nat} {t:Tag} {sz:Nat} {xs sp:List (List L)} {j o:Nat} {k:IntKind} {i:Int} {K:PV → Prop}:iaaK len n (.lf (.ep t sz xs sp j o)) (.lf (.int k i)) K = ((0 ≤ i ∧ i < len) ∧ K (.lf (.ep t sz xs sp j (o + i.toNat * n)))):=rfl
def ldC (o n:Nat) (agg:Bool) (K:PV → Prop):Option (List L) → Prop
 | some cs=>wpart cs o n agg K
 | none=>False
def ldK (X:Cx) (σ:St) (n:Nat) (agg:Bool) (K:PV → Prop) (x:PV):Prop :=
 match x with
 | .lf (.tptr c o _)=>ldC o n agg K (get σ.ce c)
 | .lf (.gl g o)=>ldC o n agg K (X.G g)
 | .lf (.ptr c o)=>ldC o n agg K (get σ.ce c)
 | .lf (.ep _ _ xs _ i o)=>i < xs.length ∧ wpart (xs.getD i []) o n agg K
 | .lf (.rp cs o)=>wpart cs o n agg K
 | _=>False
theorem o_ld {x:AO} {n:Nat} {agg:Bool}:wop X P σ d (.ld x n agg) K = ldK X σ n agg (putK σ d K) (σ.ev x):=by
 simp only [wop,ldK]
 generalize σ.ev x = v
 split
 ·rename_i c o T
  cases h:Go.Proofs.YthcpaohmajjopaaGreatDoor.AM.get σ.ce c with
  | none=>simp [ldC,h]
  | some cs=>simp [ldC,h];rfl
 ·rename_i g o
  cases h:X.G g with
  | none=>simp [ldC,h]
  | some cs=>simp [ldC,h];rfl
 ·rename_i c o
  cases h:Go.Proofs.YthcpaohmajjopaaGreatDoor.AM.get σ.ce c with
  | none=>simp [ldC,h]
  | some cs=>simp [ldC,h];rfl
 ·rename_i t sz xs sp i o
  apply propext
  constructor
  ·rintro ⟨h,hK⟩
   refine ⟨h,?_⟩
   rw [List.getD_eq_getElem?_getD,List.getElem?_eq_getElem h]
   exact hK
  ·rintro ⟨h,hK⟩
   refine ⟨h,?_⟩
   rw [List.getD_eq_getElem?_getD,List.getElem?_eq_getElem h] at hK
   exact hK
 ·rfl
 ·rename_i h1 h2 h3 h4 h5
  split
  ·exact absurd rfl (h1 _ _ _)
  ·exact absurd rfl (h2 _ _)
  ·exact absurd rfl (h3 _ _)
  ·exact absurd rfl (h4 _ _ _ _ _ _)
  ·exact absurd rfl (h5 _ _)
  ·rfl
theorem v_ld_r {n:Nat} {agg:Bool} {o:Nat} {cs:List L} {K:PV → Prop}:ldK X σ n agg K (.lf (.rp cs o)) = wpart cs o n agg K:=rfl
theorem v_ld_t {n:Nat} {agg:Bool} {c o T:Nat} {K:PV → Prop}:ldK X σ n agg K (.lf (.tptr c o T)) = ldC o n agg K (get σ.ce c):=rfl
theorem v_ld_g {n:Nat} {agg:Bool} {g o:Nat} {K:PV → Prop}:ldK X σ n agg K (.lf (.gl g o)) = ldC o n agg K (X.G g):=rfl
theorem v_ld_p {n:Nat} {agg:Bool} {c o:Nat} {K:PV → Prop}:ldK X σ n agg K (.lf (.ptr c o)) = ldC o n agg K (get σ.ce c):=rfl
theorem v_ldC {o n:Nat} {agg:Bool} {K:PV → Prop} {cs:List L}:ldC o n agg K (some cs) = wpart cs o n agg K:=rfl
theorem v_ld_e {n:Nat} {agg:Bool} {t:Tag} {sz:Nat} {xs sp:List (List L)} {i o:Nat} {K:PV → Prop}:ldK X σ n agg K (.lf (.ep t sz xs sp i o)) = (i < xs.length ∧ wpart (xs.getD i []) o n agg K):=rfl
theorem v_ld_m {α:Type} [Inhabited α] {n:Nat} {agg:Bool} {t:Tag} {sz:Nat} {f:α → List L} {as:List α} {sp:List (List L)} {i o:Nat} {K:PV → Prop}:ldK X σ n agg K (.lf (.ep t sz (as.map f) sp i o)) = (i < as.length ∧ wpart (f (as.getD i default)) o n agg K):=by
 rw [v_ld_e,List.length_map]
 apply propext
 refine and_congr_right fun h=>?_
 rw [List.getD_eq_getElem?_getD,List.getElem?_map,List.getElem?_eq_getElem h,List.getD_eq_getElem?_getD,List.getElem?_eq_getElem h]
 rfl
def stCK (σ:St) (c o n:Nat) (v:PV) (K:St → Prop):Option (List L) → Prop
 | some cs=>o + n ≤ cs.length ∧ K (σ.stC c o cs v)
 | none=>False
def stK (σ:St) (n:Nat) (x v:PV) (K:St → Prop):Prop :=
 v.cells.length = n ∧ v.cells.all cellL = true ∧ match x with
  | .lf (.ptr c o)=>stCK σ c o n v K (get σ.ce c)
  | .lf (.tptr c o _)=>stCK σ c o n v K (get σ.ce c)
  | .lf (.ep (.own p _) sz _ _ i o)=>o + n ≤ sz ∧ v.cells.all datL = true ∧ (∀ x ∈ v.cells,placeOf x ≠ some p) ∧ K ((σ.down v.cells).mapAll (wrP p sz i o (v.cells.map roL)))
  | _=>False
theorem o_st {x v:AO} {n:Nat}:wop X P σ d (.st x v n) K = stK σ n (σ.ev x) (σ.ev v) K:=by
 simp only [wop,stK]
 congr 2
 generalize σ.ev x = px
 split
 ·rename_i c o
  cases h:Go.Proofs.YthcpaohmajjopaaGreatDoor.AM.get σ.ce c with
  | none=>simp [stCK,h]
  | some cs=>simp [stCK,h]
 ·rename_i c o T
  cases h:Go.Proofs.YthcpaohmajjopaaGreatDoor.AM.get σ.ce c with
  | none=>simp [stCK,h]
  | some cs=>simp [stCK,h]
 ·rfl
 ·rename_i h1 h2 h3
  split
  ·exact absurd rfl (h1 _ _)
  ·exact absurd rfl (h2 _ _ _)
  ·exact absurd rfl (h3 _ _ _ _ _ _ _)
  ·rfl
theorem v_st_t {n c o T:Nat} {v:PV}:stK σ n (.lf (.tptr c o T)) v K = (v.cells.length = n ∧ v.cells.all cellL = true ∧ stCK σ c o n v K (get σ.ce c)):=rfl
theorem v_st_p {n c o:Nat} {v:PV}:stK σ n (.lf (.ptr c o)) v K = (v.cells.length = n ∧ v.cells.all cellL = true ∧ stCK σ c o n v K (get σ.ce c)):=rfl
theorem v_stCK {n c o:Nat} {v:PV} {cs:List L}:stCK σ c o n v K (some cs) = (o + n ≤ cs.length ∧ K (σ.stC c o cs v)):=rfl
theorem v_st_e {n p e sz i o:Nat} {xs sp:List (List L)} {v:PV}:stK σ n (.lf (.ep (.own p e) sz xs sp i o)) v K = (v.cells.length = n ∧ v.cells.all cellL = true ∧ o + n ≤ sz ∧ v.cells.all datL = true ∧ (∀ x ∈ v.cells,placeOf x ≠ some p) ∧ K ((σ.down v.cells).mapAll (wrP p sz i o (v.cells.map roL)))):=rfl
def ncK (K:PV → Prop) (x:PV):Prop :=
 match x with
 | .lf (.tptr c o T)=>K (.lf (.tptr c o T))
 | .lf (.gl g o)=>K (.lf (.gl g o))
 | .lf (.fn f a b)=>K (.lf (.fn f a b))
 | .lf (.ptr c o)=>K (.lf (.ptr c o))
 | .lf (.ep t sz xs sp i o)=>K (.lf (.ep t sz xs sp i o))
 | .lf (.rp cs o)=>K (.lf (.rp cs o))
 | _=>False
theorem o_nc {x:AO}:wop X P σ d (.nc x) K = ncK (putK σ d K) (σ.ev x):=rfl
theorem v_nc_r {o:Nat} {cs:List L} {K:PV → Prop}:ncK K (.lf (.rp cs o)) = K (.lf (.rp cs o)):=rfl
theorem v_nc_t {c o T:Nat} {K:PV → Prop}:ncK K (.lf (.tptr c o T)) = K (.lf (.tptr c o T)):=rfl
theorem v_nc_g {g o:Nat} {K:PV → Prop}:ncK K (.lf (.gl g o)) = K (.lf (.gl g o)):=rfl
theorem v_nc_f {f:Nat} {a b:List L} {K:PV → Prop}:ncK K (.lf (.fn f a b)) = K (.lf (.fn f a b)):=rfl
theorem v_nc_p {c o:Nat} {K:PV → Prop}:ncK K (.lf (.ptr c o)) = K (.lf (.ptr c o)):=rfl
theorem v_nc_e {t:Tag} {sz:Nat} {xs sp:List (List L)} {i o:Nat} {K:PV → Prop}:ncK K (.lf (.ep t sz xs sp i o)) = K (.lf (.ep t sz xs sp i o)):=rfl
def agK (σ:St) (d:Option Nat) (K:St → Prop) (cs:List L):Prop:=K (σ.put d (.ag cs))
theorem o_bd {zero:List L} {ps:List (Nat × Nat × AO)}:wop X P σ d (.bd zero ps) K = wbuild σ zero ps (agK σ d K):=rfl
theorem v_agK {cs:List L}:agK σ d K cs = K (σ.put d (.ag cs)):=rfl
theorem v_bd_n {cs:List L} {K:List L → Prop}:wbuild σ cs [] K = K cs:=rfl
theorem v_bd_c {cs:List L} {off n:Nat} {x:AO} {ps:List (Nat × Nat × AO)} {K:List L → Prop}:wbuild σ cs ((off,n,x) :: ps) K = ((σ.ev x).cells.all cellL = true ∧ (σ.ev x).cells.length = n ∧ off + n ≤ cs.length ∧ n ≠ 0 ∧ wbuild σ (fillL cs off (σ.ev x).cells) ps K):=rfl
def bsK (σ:St) (e n t:Nat) (ls:List L) (K:St → Prop) (xs:List (List L)):Prop:=K ((((σ.down ls).mapAll (killP (plT t 0)))).put (some t) (.lf (.lst (.own (plT t 0) e) n xs [])))
theorem o_bs {t e n len:Nat} {zero:List L} {ps:List (Nat × AO)}:wop X P σ (some t) (.bs e n len zero ps) K = (len * n ≤ 16777216 ∧ zero.length = n ∧ wlit σ n (List.replicate len zero) ps (bsK σ e n t (litLeaves σ ps) K)):=rfl
theorem v_bsK {e n t:Nat} {ls:List L} {xs:List (List L)}:bsK σ e n t ls K xs = K ((((σ.down ls).mapAll (killP (plT t 0)))).put (some t) (.lf (.lst (.own (plT t 0) e) n xs []))):=rfl
theorem v_lit_n {n:Nat} {xs:List (List L)} {K:List (List L) → Prop}:wlit σ n xs [] K = K xs:=rfl
theorem v_lit_c {n:Nat} {xs:List (List L)} {i:Nat} {x:AO} {ps:List (Nat × AO)} {K:List (List L) → Prop}:wlit σ n xs ((i,x) :: ps) K = (i < xs.length ∧ (σ.ev x).cells.length = n ∧ (σ.ev x).cells.all datL = true ∧ wlit σ n (xs.set i ((σ.ev x).cells.map roL)) ps K):=rfl
def msK (σ:St) (t e n bytes:Nat) (zero:List L) (l c:PV) (K:St → Prop):Prop :=
 match l,c with
 | .lf (.int _ l),.lf (.int _ c)=>zero.length = n ∧ (0 ≤ l ∧ l ≤ c ∧ c * bytes ≤ 140737488355328 ∧ c ≤ 9223372036854775807) ∧ K ((σ.mapAll (killP (plT t 0))).put (some t) (.lf (.lst (.own (plT t 0) e) n (List.replicate l.toNat zero) (List.replicate (c - l).toNat zero))))
 | _,_=>False
theorem o_ms {t e n bytes:Nat} {zero:List L} {l c:AO}:wop X P σ (some t) (.ms e n bytes zero l c) K = msK σ t e n bytes zero (σ.ev l) (σ.ev c) K:=by
 simp only [wop,msK]
 generalize σ.ev l = pl
 generalize σ.ev c = pc
 rcases pl with x | _ | _<;>try rfl
 cases x<;>try rfl
 rcases pc with y | _ | _<;>try rfl
 cases y<;>rfl
def lenK (K:PV → Prop) (x:PV):Prop :=
 match x with
 | .lf (.lst _ _ xs _)=>(xs.length ≤ 9223372036854775807 → K (.lf (.int .i64 xs.length)))
 | .lf (.sl _ _ _ l _)=>K (.lf (.int .i64 l))
 | .lf (.ln l)=>K (.lf (.int .i64 l))
 | _=>False
theorem v_len_n {l:Nat} {K:PV → Prop}:lenK K (.lf (.ln l)) = K (.lf (.int .i64 l)):=rfl
theorem v_len_s {c o sz l cp:Nat} {K:PV → Prop}:lenK K (.lf (.sl c o sz l cp)) = K (.lf (.int .i64 l)):=rfl
theorem o_len {x:AO}:wop X P σ d (.len x) K = lenK (putK σ d K) (σ.ev x):=rfl
theorem v_len {t:Tag} {sz:Nat} {xs sp:List (List L)} {K:PV → Prop}:lenK K (.lf (.lst t sz xs sp)) = (xs.length ≤ 9223372036854775807 → K (.lf (.int .i64 xs.length))):=rfl
def lnsK (K:PV → Prop) (x:PV):Prop :=
 match x with
 | .lf (.str s)=>K (.lf (.int .i64 s.size))
 | _=>False
theorem o_lns {x:AO}:wop X P σ d (.lns x) K = lnsK (putK σ d K) (σ.ev x):=rfl
theorem v_lns {s:ByteArray} {K:PV → Prop}:lnsK K (.lf (.str s)) = K (.lf (.int .i64 s.size)):=rfl
def appK (σ:St) (t e n bytes:Nat) (x y:PV) (K:St → Prop):Prop :=
 match x,y with
 | .lf (.lst .nl _ _ _),.lf (.lst _ sz' ys _)=>(sz' = n ∨ ys = []) ∧ ys.length * bytes ≤ 140737488355328 ∧ K ((σ.mapAll (killP (plT t 0))).put (some t) (.lf (.lst (.own (plT t 0) e) n ys [])))
 | .lf (.lst (.own p e') sz xs _),.lf (.lst _ sz' ys _)=>e' = e ∧ sz = n ∧ (sz' = n ∨ ys = []) ∧ (xs.length + ys.length) * bytes ≤ 140737488355328 ∧
   K (((σ.mapAll (lnP p)).mapAll (killP (plT t 0))).put (some t) (.lf (.lst (.own (plT t 0) e) n (xs ++ ys) [])))
 | .lf (.lst (.vw p) sz xs _),.lf (.lst _ sz' ys _)=>sz = n ∧ sz' = n ∧ 0 < ys.length ∧ (xs.length + ys.length) * bytes ≤ 140737488355328 ∧
   K (((σ.mapAll (killP p)).mapAll (killP (plT t 0))).put (some t) (.lf (.lst (.vw (plT t 0)) n (xs ++ ys) [])))
 | .lf (.sl c off sz l cap),.lf (.lst _ sz' ys _)=>sz = n ∧ sz' = n ∧ 0 < ys.length ∧ (l + ys.length) * bytes ≤ 140737488355328 ∧
   ∃ cs,get σ.ce c = some cs ∧ off + cap * n ≤ cs.length ∧ (∀ x ∈ cs.drop (off + l * n),x = .undef) ∧ K ((σ.mapAll (killP (plT t 0))).put (some t) (.lf .undef))
 | _,_=>False
theorem v_app_sl {t e n bytes c off sz l cap:Nat} {tg:Tag} {sz':Nat} {ys sp':List (List L)}:appK σ t e n bytes (.lf (.sl c off sz l cap)) (.lf (.lst tg sz' ys sp')) K = (sz = n ∧ sz' = n ∧ 0 < ys.length ∧ (l + ys.length) * bytes ≤ 140737488355328 ∧
   ∃ cs,get σ.ce c = some cs ∧ off + cap * n ≤ cs.length ∧ (∀ x ∈ cs.drop (off + l * n),x = .undef) ∧ K ((σ.mapAll (killP (plT t 0))).put (some t) (.lf .undef))):=rfl
theorem v_app_v {t e n bytes sz p:Nat} {xs sp:List (List L)} {tg:Tag} {sz':Nat} {ys sp':List (List L)}:appK σ t e n bytes (.lf (.lst (.vw p) sz xs sp)) (.lf (.lst tg sz' ys sp')) K = (sz = n ∧ sz' = n ∧ 0 < ys.length ∧ (xs.length + ys.length) * bytes ≤ 140737488355328 ∧
   K (((σ.mapAll (killP p)).mapAll (killP (plT t 0))).put (some t) (.lf (.lst (.vw (plT t 0)) n (xs ++ ys) [])))):=rfl
theorem o_app {t e n bytes:Nat} {x y:AO}:wop X P σ (some t) (.app e n bytes x y) K = appK σ t e n bytes (σ.ev x) (σ.ev y) K:=by
 simp only [wop,appK]
 generalize σ.ev x = px
 generalize σ.ev y = py
 rcases px with x | _ | _<;>try rfl
 cases x<;>try rfl
 case lst tg _ _ _=>cases tg<;>(rcases py with y | _ | _<;>try rfl)<;>(cases y<;>rfl)
 case sl=>(rcases py with y | _ | _<;>try rfl)<;>(cases y<;>rfl)
theorem v_app_n {t e n bytes sz:Nat} {xs sp:List (List L)} {tg:Tag} {sz':Nat} {ys sp':List (List L)}:appK σ t e n bytes (.lf (.lst .nl sz xs sp)) (.lf (.lst tg sz' ys sp')) K = ((sz' = n ∨ ys = []) ∧ ys.length * bytes ≤ 140737488355328 ∧ K ((σ.mapAll (killP (plT t 0))).put (some t) (.lf (.lst (.own (plT t 0) e) n ys [])))):=rfl
theorem v_app_o {t e n bytes sz p e':Nat} {xs sp:List (List L)} {tg:Tag} {sz':Nat} {ys sp':List (List L)}:appK σ t e n bytes (.lf (.lst (.own p e') sz xs sp)) (.lf (.lst tg sz' ys sp')) K = (e' = e ∧ sz = n ∧ (sz' = n ∨ ys = []) ∧ (xs.length + ys.length) * bytes ≤ 140737488355328 ∧
   K (((σ.mapAll (lnP p)).mapAll (killP (plT t 0))).put (some t) (.lf (.lst (.own (plT t 0) e) n (xs ++ ys) [])))):=rfl
def bytesL (s:ByteArray):List (List L):=s.data.toList.map (fun b=>[.int .u8 b.toNat])
def apsK (σ:St) (t e:Nat) (x y:PV) (K:St → Prop):Prop :=
 match x,y with
 | .lf (.lst .nl _ _ _),.lf (.str s)=>s.size ≤ 140737488355328 ∧ K ((σ.mapAll (killP (plT t 0))).put (some t) (.lf (.lst (.own (plT t 0) e) 1 (bytesL s) [])))
 | .lf (.lst (.own p e') sz xs _),.lf (.str s)=>e' = e ∧ sz = 1 ∧ xs.length + s.size ≤ 140737488355328 ∧
   K (((σ.mapAll (killP p)).mapAll (killP (plT t 0))).put (some t) (.lf (.lst (.own (plT t 0) e) 1 (xs ++ bytesL s) [])))
 | _,_=>False
theorem o_aps {t e:Nat} {x y:AO}:wop X P σ (some t) (.aps e x y) K = apsK σ t e (σ.ev x) (σ.ev y) K:=by
 simp only [wop,apsK]
 generalize σ.ev x = px
 generalize σ.ev y = py
 rcases px with x | _ | _<;>try rfl
 cases x<;>try rfl
 rename_i tg _ _ _
 cases tg<;>(rcases py with y | _ | _<;>try rfl)<;>(cases y<;>rfl)
theorem v_aps_n {t e sz:Nat} {xs sp:List (List L)} {s:ByteArray}:apsK σ t e (.lf (.lst .nl sz xs sp)) (.lf (.str s)) K = (s.size ≤ 140737488355328 ∧ K ((σ.mapAll (killP (plT t 0))).put (some t) (.lf (.lst (.own (plT t 0) e) 1 (bytesL s) [])))):=rfl
theorem v_aps_o {t e sz p e':Nat} {xs sp:List (List L)} {s:ByteArray}:apsK σ t e (.lf (.lst (.own p e') sz xs sp)) (.lf (.str s)) K = (e' = e ∧ sz = 1 ∧ xs.length + s.size ≤ 140737488355328 ∧
   K (((σ.mapAll (killP p)).mapAll (killP (plT t 0))).put (some t) (.lf (.lst (.own (plT t 0) e) 1 (xs ++ bytesL s) [])))):=rfl
def slsK (x:PV) (lo hi:Option PV) (K:PV → Prop):Prop :=
 match x,lo,hi with
 | .lf (.str s),none,none=>K (.lf (.str s))
 | .lf (.str s),some (.lf (.int _ l)),none=>(0 ≤ l ∧ l ≤ s.size) ∧ K (.lf (.str (s.extract l.toNat s.size)))
 | .lf (.str s),none,some (.lf (.int _ h))=>(0 ≤ h ∧ h ≤ s.size) ∧ K (.lf (.str (s.extract 0 h.toNat)))
 | .lf (.str s),some (.lf (.int _ l)),some (.lf (.int _ h))=>(0 ≤ l ∧ l ≤ h ∧ h ≤ s.size) ∧ K (.lf (.str (s.extract l.toNat h.toNat)))
 | _,_,_=>False
theorem o_sls {x:AO} {lo hi:Option AO}:wop X P σ d (.sls x lo hi) K = slsK (σ.ev x) (lo.map σ.ev) (hi.map σ.ev) (putK σ d K):=rfl
section
variable {s:ByteArray} {k k':IntKind} {l h:Int} {K:PV → Prop}
theorem v_sls_a:slsK (.lf (.str s)) none none K = K (.lf (.str s)):=rfl
theorem v_sls_b:slsK (.lf (.str s)) (some (.lf (.int k l))) none K = ((0 ≤ l ∧ l ≤ s.size) ∧ K (.lf (.str (s.extract l.toNat s.size)))):=rfl
theorem v_sls_c:slsK (.lf (.str s)) none (some (.lf (.int k h))) K = ((0 ≤ h ∧ h ≤ s.size) ∧ K (.lf (.str (s.extract 0 h.toNat)))):=rfl
theorem v_sls_d:slsK (.lf (.str s)) (some (.lf (.int k l))) (some (.lf (.int k' h))) K = ((0 ≤ l ∧ l ≤ h ∧ h ≤ s.size) ∧ K (.lf (.str (s.extract l.toNat h.toNat)))):=rfl
end
def sllK (n:Nat) (x:PV) (lo hi:Option PV) (K:PV → Prop):Prop :=
 match x,lo,hi with
 | .lf (.lst t sz xs sp),none,none=>K (.lf (.lst t sz xs sp))
 | .lf (.lst t sz xs sp),none,some (.lf (.int _ h))=>(0 ≤ h ∧ h.toNat ≤ xs.length + sp.length) ∧ K (.lf (.lst t sz ((xs ++ sp).take h.toNat) ((xs ++ sp).drop h.toNat)))
 | .lf (.lst t sz xs sp),some (.lf (.int _ l)),none=>sz = n ∧ (0 ≤ l ∧ l.toNat ≤ xs.length) ∧ K (.lf (.lst (tagV t) sz (xs.drop l.toNat) sp))
 | .lf (.lst t sz xs sp),some (.lf (.int _ l)),some (.lf (.int _ h))=>sz = n ∧ (0 ≤ l ∧ l ≤ h ∧ h.toNat ≤ xs.length + sp.length) ∧
   K (.lf (.lst (tagV t) sz (((xs ++ sp).take h.toNat).drop l.toNat) ((xs ++ sp).drop h.toNat)))
 | _,_,_=>False
theorem o_sll {n:Nat} {x:AO} {lo hi:Option AO}:wop X P σ d (.sll n x lo hi) K = sllK n (σ.ev x) (lo.map σ.ev) (hi.map σ.ev) (putK σ d K):=rfl
section
variable {n sz:Nat} {t:Tag} {xs sp:List (List L)} {k k':IntKind} {l h:Int} {K:PV → Prop}
theorem v_sll_a:sllK n (.lf (.lst t sz xs sp)) none none K = K (.lf (.lst t sz xs sp)):=rfl
theorem v_sll_b:sllK n (.lf (.lst t sz xs sp)) none (some (.lf (.int k h))) K = ((0 ≤ h ∧ h.toNat ≤ xs.length + sp.length) ∧ K (.lf (.lst t sz ((xs ++ sp).take h.toNat) ((xs ++ sp).drop h.toNat)))):=rfl
theorem v_sll_c:sllK n (.lf (.lst t sz xs sp)) (some (.lf (.int k l))) none K = (sz = n ∧ (0 ≤ l ∧ l.toNat ≤ xs.length) ∧ K (.lf (.lst (tagV t) sz (xs.drop l.toNat) sp))):=rfl
theorem v_sll_d:sllK n (.lf (.lst t sz xs sp)) (some (.lf (.int k l))) (some (.lf (.int k' h))) K = (sz = n ∧ (0 ≤ l ∧ l ≤ h ∧ h.toNat ≤ xs.length + sp.length) ∧
   K (.lf (.lst (tagV t) sz (((xs ++ sp).take h.toNat).drop l.toNat) ((xs ++ sp).drop h.toNat)))):=rfl
end
def wcB (X:Cx) (P:Program) (f:Nat) (evs:List PV) (ls:List L) (σ:St) (d:Option Nat) (K:St → Prop):Prop :=
 ∃ ip c:Nat,((evs[ip]?).bind ptrC) = some c ∧ ∃ cs,get (σ.down ls).ce c = some cs ∧ ∃ r cs',R X P f (evs.map fun x=>mapL (toA c) x) [cs.map (toC c)] r [cs'] ∧ resOK r = true ∧ K ((callpSt (σ.down ls) c cs' d r).put d (outV d r))
def wcC (X:Cx) (P:Program) (f:Nat) (evs:List PV) (σ:St) (d:Option Nat) (K:St → Prop):Prop :=
 ∃ (ip p e sz:Nat) (xs sp:List (List L)) (r:PV) (ys:List (List L)),evs[ip]? = some (.lf (.lst (.own p e) sz xs sp)) ∧ (xs = [] → R X P f (argsY (.lst .nl sz [] []) ip evs) [] r []) ∧ othersNo ip evs = true ∧
  (∀ k cap:Nat,xs.length ≤ cap → cap * sz ≤ xs.length * sz + k → R X P f (argsC sz xs.length cap ip evs) [xs.flatten ++ List.replicate k .undef] r [ys.flatten ++ List.replicate k .undef]) ∧ flatB r = true ∧ ys.length = xs.length ∧ rowOK sz ys = true ∧ K ((σ.mapAll (uwP p sz xs.length ys)).put d r)
def wcall (X:Cx) (P:Program) (f:Nat) (args:List PV) (ls:List L) (evs:List PV) (aos:List AO) (σ:St) (d:Option Nat) (K:St → Prop):Prop :=
 wcB X P f evs ls σ d K ∨ wcC X P f evs σ d K ∨ (∃ dl,wcallM X P (σ.down dl) d f aos K) ∨ ∃ r,R X P f args [] r [] ∧ resOK r = true ∧ ((Flat r ∧ K ((σ.clr d r).put d (outV d r))) ∨ K (((σ.down ls).clr d r).put d (outV d r)))
theorem o_call {f:Nat} {args:List AO}:wop X P σ d (.call f args) K = wcall X P f (args.map fun x=>mapL roL (σ.ev x)) (args.flatMap fun x=>(σ.ev x).leaves) (args.map fun x=>σ.ev x) args σ d K:=by
 have eB:wcB X P f (args.map fun x=>σ.ev x) (args.flatMap fun x=>(σ.ev x).leaves) σ d K = wcallB X P σ d f args K:=by
  have e:∀ ip:Nat,(((args.map fun x=>σ.ev x)[ip]?).bind ptrC) = ((args[ip]?).bind fun x=>ptrC (σ.ev x)):=fun ip=>by rw [List.getElem?_map];cases args[ip]?<;>rfl
  simp only [wcB,wcallB,e,List.map_map];rfl
 have eC:wcC X P f (args.map fun x=>σ.ev x) σ d K = wcallC X P σ d f args K:=by
  simp only [wcC,wcallC,List.getElem?_map]
 simp only [wop,wcall,eB,eC,wcallA]
theorem wcall_flat {f:Nat} {args:List PV} {ls:List L} {evs:List PV} {aos:List AO} {r:PV} (h:R X P f args [] r []) (h1:resOK r = true) (h2:Flat r) (h3:K ((σ.clr d r).put d (outV d r))):wcall X P f args ls evs aos σ d K:=.inr (.inr (.inr ⟨r,h,h1,.inl ⟨h2,h3⟩⟩))
theorem wcall_down {f:Nat} {args:List PV} {ls:List L} {evs:List PV} {aos:List AO} {r:PV} (h:R X P f args [] r []) (h1:resOK r = true) (h3:K (((σ.down ls).clr d r).put d (outV d r))):wcall X P f args ls evs aos σ d K:=.inr (.inr (.inr ⟨r,h,h1,.inr h3⟩))
theorem wcall_m {f:Nat} {args:List PV} {ls:List L} {evs:List PV} {aos:List AO} {r:PV} {p e sz:Nat} {xs sp:List (List L)} {as:List PV} (dl:List L) (ip:Nat) (hip:(aos[ip]?).map (σ.down dl).ev = some (.lf (.lst (.own p e) sz xs sp))) (hno:othersNo ip (aos.map (σ.down dl).ev) = true)
  (h:R X P f as [] r []) (ea:argsY (.lst (.own (plT ip 0) e) sz xs sp) ip (aos.map (σ.down dl).ev) = as) (h1:resOK r = true) (h2:Flat r) (h3:K ((((σ.down dl).mapAll (killP p)).clr d r).put d (outV d r))):wcall X P f args ls evs aos σ d K :=
 .inr (.inr (.inl ⟨dl,ip,p,e,sz,xs,sp,r,.inl hip,hno,ea.symm ▸ h,h1,h2,h3⟩))
def miK (t:Nat) (K:PV → Prop) (x:PV):Prop :=
 match x with
 | .lf v=>flatL v = true ∧ K (.lf (.iface t v))
 | _=>False
theorem o_mi {t:Nat} {x:AO}:wop X P σ d (.mi t x) K = miK t (putK σ d K) (σ.ev x):=rfl
theorem v_mi {t:Nat} {v:L} {K:PV → Prop}:miK t K (.lf v) = (flatL v = true ∧ K (.lf (.iface t v))):=rfl
end
theorem e_t {σ:St} {n:Nat}:σ.ev (.t n) = (get σ.tm n).getD (.lf .undef):=rfl
theorem e_k {σ:St} {v:PV}:σ.ev (.k v) = v:=rfl
theorem e_put {m:Nat} {tm:List (Nat × PV)} {ce:List (Nat × List L)} {d:Nat} {v:PV}:St.put ⟨m,tm,ce⟩ (some d) v = ⟨m,(d,v) :: tm,ce⟩:=rfl
theorem e_put_n {σ:St} {v:PV}:St.put σ none v = σ:=rfl
theorem e_get {α:Type} {l:List (Nat × α)} {a k:Nat} {v:α}:get ((a,v) :: l) k = if a = k then some v else get l k:=rfl
theorem e_get_n {α:Type} {k:Nat}:get ([]:List (Nat × α)) k = none:=rfl
def keep1 {α:Type} (t:Nat):Option α → List (Nat × α) → List (Nat × α)
 | some v,r=>(t,v) :: r
 | none,r=>r
def keepT (tm:List (Nat × PV)):List Nat → List (Nat × PV)
 | []=>[]
 | t :: ts=>keep1 t (get tm t) (keepT tm ts)
theorem keepT_eq (tm:List (Nat × PV)):∀ keep:List Nat,(keep.filterMap fun t=>(get tm t).map fun v=>(t,v)) = keepT tm keep
 | []=>rfl
 | t :: ts=>by
  simp only [List.filterMap_cons,keepT]
  cases get tm t<;>simp [keep1,keepT_eq tm ts]
theorem e_res {m:Nat} {tm:List (Nat × PV)} {ce:List (Nat × List L)} {keep:List Nat}:St.restrict ⟨m,tm,ce⟩ keep = ⟨m,keepT tm keep,ce⟩:=by
 simp only [St.restrict,keepT_eq]
theorem e_keep_n {tm:List (Nat × PV)}:keepT tm [] = []:=rfl
theorem e_keep_c {tm:List (Nat × PV)} {t:Nat} {ts:List Nat}:keepT tm (t :: ts) = keep1 t (get tm t) (keepT tm ts):=rfl
theorem e_keep1_s {α:Type} {t:Nat} {v:α} {r:List (Nat × α)}:keep1 t (some v) r = (t,v) :: r:=rfl
theorem e_keep1_n {α:Type} {t:Nat} {r:List (Nat × α)}:keep1 t none r = r:=rfl
theorem e_asg_b {m:Nat} {tm:List (Nat × PV)} {ce:List (Nat × List L)} {e n d:Nat} {b:Bool}:St.asg ⟨m,tm,ce⟩ e n (some d) (.lf (.bool b)) = ⟨m,(d,.lf (.bool b)) :: tm,ce⟩:=rfl
theorem e_asg_i {m:Nat} {tm:List (Nat × PV)} {ce:List (Nat × List L)} {e n d:Nat} {k:IntKind} {i:Int}:St.asg ⟨m,tm,ce⟩ e n (some d) (.lf (.int k i)) = ⟨m,(d,.lf (.int k i)) :: tm,ce⟩:=rfl
theorem e_asg_s {m:Nat} {tm:List (Nat × PV)} {ce:List (Nat × List L)} {e n d:Nat} {s:ByteArray}:St.asg ⟨m,tm,ce⟩ e n (some d) (.lf (.str s)) = ⟨m,(d,.lf (.str s)) :: tm,ce⟩:=rfl
theorem e_asg_a {m:Nat} {tm:List (Nat × PV)} {ce:List (Nat × List L)} {e n d:Nat} {cs:List L}:St.asg ⟨m,tm,ce⟩ e n (some d) (.ag cs) = ⟨m,(d,.ag cs) :: tm,ce⟩:=rfl
theorem e_asg_r {m:Nat} {tm:List (Nat × PV)} {ce:List (Nat × List L)} {e n d sz:Nat} {xs sp:List (List L)}:St.asg ⟨m,tm,ce⟩ e n (some d) (.lf (.lst .ro sz xs sp)) = ⟨m,(d,.lf (.lst .ro sz xs sp)) :: tm,ce⟩:=rfl
end Go.Proofs.YthcpaohmajjopaaGreatDoor.AM
