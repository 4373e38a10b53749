/- The abstract machine, part Mach. -/
import Derived.Test.YthcpaohmajjopaaGreatDoorAmBase
set_option linter.unusedVariables false
set_option linter.unusedSimpArgs false
namespace Go.Proofs.YthcpaohmajjopaaGreatDoor.AM
open Go
@[reducible] def plT (t k:Nat):Nat:=2 * (64 * t + k)
@[reducible] def plC (c k:Nat):Nat:=2 * (64 * c + k) + 1
def get {α:Type}:List (Nat × α) → Nat → Option α
 | [],_=>none
 |(a,v) :: r,k=>if a = k then some v else get r k
def del {α:Type}:List (Nat × α) → Nat → List (Nat × α)
 | [],_=>[]
 |(a,v) :: r,k=>if a = k then del r k else (a,v) :: del r k
structure St where
 m:Nat
 tm:List (Nat × PV)
 ce:List (Nat × List L)
def St.put (σ:St) (d:Option Nat) (v:PV):St :=
 match d with
 | none=>σ
 | some d=>{ σ with tm:=(d,v) :: σ.tm }
def mapSnd {α β:Type} (f:α → β):List (Nat × α) → List (Nat × β)
 | []=>[]
 |(a,v) :: r=>(a,f v) :: mapSnd f r
def St.mapAll (f:L → L) (σ:St):St:={ m:=σ.m,tm:=mapSnd (mapL f) σ.tm,ce:=mapSnd (List.map f) σ.ce }
def tagK (p:Nat):Tag → Bool
 | .own q _=>q == p
 | .vw q=>q == p
 | _=>false
def killP (p:Nat):L → L
 | .lst t sz xs sp=>if tagK p t then .undef else .lst t sz xs sp
 | .ep t sz xs sp i o=>if tagK p t then .undef else .ep t sz xs sp i o
 | .it q s i=>if q == p then .undef else .it q s i
 | x=>x
def tagKs (ps:List Nat):Tag → Bool
 | .own q _=>ps.contains q
 | .vw q=>ps.contains q
 | _=>false
def killPs (ps:List Nat):L → L
 | .lst t sz xs sp=>if tagKs ps t then .undef else .lst t sz xs sp
 | .ep t sz xs sp i o=>if tagKs ps t then .undef else .ep t sz xs sp i o
 | .it q s i=>if ps.contains q then .undef else .it q s i
 | x=>x
def isPtr:L → Bool
 | .ptr _ _=>true
 | .tptr _ _ _=>true
 | _=>false
def pureL (a b:List L):Bool:=!a.any isPtr && !b.any isPtr
def isPtrC (c:Nat):L → Bool
 | .ptr c' _=>c' == c
 | .tptr c' _ _=>c' == c
 | _=>false
def killC (c:Nat):L → L
 | .ptr c' o=>if c' == c then .undef else .ptr c' o
 | .tptr c' o T=>if c' == c then .undef else .tptr c' o T
 | .sl c' o sz l cap=>if c' == c then .undef else .sl c' o sz l cap
 | .fn f a b=>if a.any (isPtrC c) || b.any (isPtrC c) then .undef else .fn f a b
 | x=>x
def tagR (q p:Nat):Tag → Tag
 | .own q' e=>if q' == q then .own p e else .own q' e
 | .vw q'=>if q' == q then .vw p else .vw q'
 | t=>t
def renP (q p:Nat):L → L
 | .lst t sz xs sp=>.lst (tagR q p t) sz xs sp
 | .ep t sz xs sp i o=>.ep (tagR q p t) sz xs sp i o
 | .it q' s i=>.it (if q' == q then p else q') s i
 | x=>x
def roP (p:Nat):L → L
 | .lst t sz xs sp=>if tagK p t then .lst .ro sz xs sp else .lst t sz xs sp
 | .ep t sz xs sp i o=>if tagK p t then .ep .ro sz xs sp i o else .ep t sz xs sp i o
 | .it q s i=>if q == p then .undef else .it q s i
 | x=>x
def placeOf:L → Option Nat
 | .lst (.own p _) _ _ _=>some p
 | .lst (.vw p) _ _ _=>some p
 | _=>none
def St.down (σ:St):List L → St
 | []=>σ
 | x :: xs=>match placeOf x with
  | some p=>(σ.mapAll (roP p)).down xs
  | none=>σ.down xs
def roL:L → L
 | .lst _ sz xs sp=>.lst .ro sz xs sp
 | .ptr _ _=>.undef
 | .ep _ _ _ _ _ _=>.undef
 | .tptr _ _ _=>.undef
 | .it _ _ _=>.undef
 | .sl _ _ _ _ _=>.undef
 | .fn f a b=>if pureL a b then .fn f a b else .undef
 | x=>x
def datL:L → Bool
 | .undef=>false
 | .no=>false
 | .ptr _ _=>false
 | .ep _ _ _ _ _ _=>false
 | .tptr _ _ _=>false
 | .it _ _ _=>false
 | .sl _ _ _ _ _=>false
 | .fn _ a b=>pureL a b
 | _=>true
def cellL:L → Bool
 | .undef=>false
 | .no=>false
 | _=>true
def PV.cells:PV → List L
 | .lf x=>[x]
 | .ag cs=>cs
 | .tp _=>[]
inductive AO where
 | t (n:Nat)
 | k (v:PV)
def St.ev (σ:St):AO → PV
 | .t n=>(get σ.tm n).getD (.lf .undef)
 | .k v=>v
inductive AOp where
 | mv (x:AO)
 | as (e n:Nat) (x:AO)
 | pk (c a b:AO)
 | bin (op:BinOp) (x y:AO)
 | beq (neg:Bool) (ks:List Nat) (x y:AO)
 | bqb (neg:Bool) (x y:AO)
 | un (op:UnOp) (x:AO)
 | cvi (k:IntKind) (x:AO)
 | cvs (x:AO)
 | cbs (x:AO)
 | ext (x:AO) (i:Nat)
 | fld (x:AO) (off n:Nat) (agg:Bool)
 | ixs (x i:AO)
 | al (zero:List L)
 | bx (x:AO)
 | fa (x:AO) (off:Nat)
 | ia (x i:AO) (n:Nat)
 | iaa (x i:AO) (len n:Nat)
 | ld (x:AO) (n:Nat) (agg:Bool)
 | st (x v:AO) (n:Nat)
 | nc (x:AO)
 | bd (zero:List L) (parts:List (Nat × Nat × AO))
 | bs (e n len:Nat) (zero:List L) (parts:List (Nat × AO))
 | ms (e n bytes:Nat) (zero:List L) (l c:AO)
 | len (x:AO)
 | lns (x:AO)
 | app (e n bytes:Nat) (x y:AO)
 | aps (e:Nat) (x y:AO)
 | sls (x:AO) (lo hi:Option AO)
 | sll (n:Nat) (x:AO) (lo hi:Option AO)
 | call (f:Nat) (args:List AO)
 | callp (f ip:Nat) (args:List AO)
 | mi (t:Nat) (x:AO)
 | alt (T:Nat) (zero:List L)
 | rng (x:AO)
 | nxt (x:AO)
 | peq (neg:Bool) (x y:AO)
 | ieq (neg:Bool) (x:AO)
 | p2u (x:AO)
 | u2p (u:Nat) (x:AO)
 | ex (k:Nat) (args:List AO)
 | usd (x:AO)
 | ust (e:Nat) (x n:AO)
 | mkf (f:Nat) (a b:List AO)
 | cald (x:AO) (args:List AO)
 | mm (mx:Bool) (x y:AO)
 | bxt (T:Nat) (x:AO)
 | bsf (e n len:Nat) (zero:List L) (parts:List (Nat × AO))
 | callg (f ip:Nat) (args:List AO)
 | bad
structure AOper where
 d:Option Nat
 op:AOp
 g:Option (Nat × Bool)
inductive OT where
 | nil
 | one (o:AOper) (t:OT)
 | alt (a b:OT)
inductive AC where
 | bad
 | skip
 | ops (dr:Nat) (l:List AOper) (keep:List Nat)
 | reg (hd tl:List AOper) (keep:List Nat)
 | drw (src:AO) (hd tl:List AOper) (keep:List Nat)
 | gdr (ts:List Nat) (hd tl:List AOper) (keep:List Nat)
 | gdq (hd tl:List AOper) (keep:List Nat)
 | gds (hd tl:List AOper) (keep:List Nat)
 | gd2 (ts:List Nat) (hd a b:List AOper) (keep:List Nat)
 | gdt (t:OT) (keep:List Nat)
 | seq (a b:AC)
 | cond (c:AO) (a b:AC)
 | block (id:Nat) (b:AC)
 | loop (b:AC) (keep:List Nat)
 | exit (id:Nat)
 | ret
def kindL:L → Nat
 | .bool _=>1
 | .int _ _=>2
 | .str _=>3
 | _=>0
def eqL:L → L → Option Bool
 | .int k a,.int k' b=>if k = k' then some (decide (a = b)) else none
 | .str a,.str b=>some (decide (a = b))
 | .bool a,.bool b=>some (a == b)
 | _,_=>none
def eqLs:List L → List L → Option Bool
 | [],[]=>some true
 | [x],[y]=>eqL x y
 | x :: xs,y :: ys=>match eqL x y,eqLs xs ys with
  | some a,some b=>some (a && b)
  | _,_=>none
 | _,_=>none
def wbin (op:BinOp) (x y:PV) (K:PV → Prop):Prop :=
 match x,y with
 | .lf (.int k a),.lf (.int k' b) =>
  match op with
  | .shl=>0 ≤ b ∧ K (.lf (.int k (k.wrap (a * 2 ^ (min b.toNat k.bits)))))
  | .shr=>0 ≤ b ∧ K (.lf (.int k (a.fdiv (2 ^ (min b.toNat k.bits)))))
  | .add=>k = k' ∧ K (.lf (.int k (k.wrap (a + b))))
  | .sub=>k = k' ∧ K (.lf (.int k (k.wrap (a - b))))
  | .mul=>k = k' ∧ K (.lf (.int k (k.wrap (a * b))))
  | .quo=>k = k' ∧ b ≠ 0 ∧ K (.lf (.int k (k.wrap (a.tdiv b))))
  | .rem=>k = k' ∧ b ≠ 0 ∧ K (.lf (.int k (a.tmod b)))
  | .and | .or | .xor | .andNot=>k = k' ∧ K (.lf (.int k (Go.bits op k a b)))
  | .eql=>k = k' ∧ K (.lf (.bool (decide (a = b))))
  | .neq=>k = k' ∧ K (.lf (.bool (decide (a ≠ b))))
  | .lss=>k = k' ∧ K (.lf (.bool (decide (a < b))))
  | .leq=>k = k' ∧ K (.lf (.bool (decide (a ≤ b))))
  | .gtr=>k = k' ∧ K (.lf (.bool (decide (b < a))))
  | .geq=>k = k' ∧ K (.lf (.bool (decide (b ≤ a))))
 | .lf (.str a),.lf (.str b) =>
  match op with
  | .add=>((a.size + b.size:Nat):Int) ≤ 9223372036854775807 ∧ K (.lf (.str (a ++ b)))
  | .eql=>K (.lf (.bool (decide (a = b))))
  | .neq=>K (.lf (.bool (decide (a ≠ b))))
  | .lss=>K (.lf (.bool (Op.bytesLess a.toList b.toList)))
  | .leq=>K (.lf (.bool (Op.bytesLess a.toList b.toList || decide (a = b))))
  | .gtr=>K (.lf (.bool (!(Op.bytesLess a.toList b.toList || decide (a = b)))))
  | .geq=>K (.lf (.bool (!Op.bytesLess a.toList b.toList)))
  | _=>False
 | _,_=>False
def wun (op:UnOp) (x:PV) (K:PV → Prop):Prop :=
 match op,x with
 | .not,.lf (.bool b)=>K (.lf (.bool !b))
 | .neg,.lf (.int k n)=>K (.lf (.int k (k.wrap (0 - n))))
 | .xor,.lf (.int k n)=>K (.lf (.int k (Go.bits .xor k (if k.signed then -1 else k.max) n)))
 | _,_=>False
def wpart (cs:List L) (off n:Nat) (agg:Bool) (K:PV → Prop):Prop :=
 if agg then off + n ≤ cs.length ∧ K (.ag ((cs.drop off).take n)) else ∃ c,cs[off]? = some c ∧ K (.lf c)
def PV.leaves:PV → List L
 | .lf x=>[x]
 | .ag cs=>cs
 | .tp vs=>vs.flatMap PV.cells
def fillL (cs:List L) (off:Nat) (vs:List L):List L:=cs.take off ++ vs ++ cs.drop (off + vs.length)
def wbuild (σ:St):List L → List (Nat × Nat × AO) → (List L → Prop) → Prop
 | cs,[],K=>K cs
 | cs,(off,n,x) :: ps,K=>(σ.ev x).cells.all cellL = true ∧ (σ.ev x).cells.length = n ∧ off + n ≤ cs.length ∧ n ≠ 0 ∧ wbuild σ (fillL cs off (σ.ev x).cells) ps K
def wlit (σ:St) (n:Nat):List (List L) → List (Nat × AO) → (List (List L) → Prop) → Prop
 | xs,[],K=>K xs
 | xs,(i,x) :: ps,K=>i < xs.length ∧ (σ.ev x).cells.length = n ∧ (σ.ev x).cells.all datL = true ∧ wlit σ n (xs.set i ((σ.ev x).cells.map roL)) ps K
def litLeaves (σ:St):List (Nat × AO) → List L
 | []=>[]
 |(_,x) :: ps=>(σ.ev x).cells ++ litLeaves σ ps
def wrX (i off:Nat) (vs:List L) (xs:List (List L)):List (List L):=xs.modify i fun x=>fillL x off vs
def wrS (i off:Nat) (vs:List L) (n:Nat) (sp:List (List L)):List (List L):=if i < n then sp else sp.modify (i - n) fun x=>fillL x off vs
def wrP (p sz i off:Nat) (vs:List L):L → L
 | .lst (.own q e) z xs sp=>if q == p then (if z == sz then .lst (.own q e) z (wrX i off vs xs) (wrS i off vs xs.length sp) else .undef) else .lst (.own q e) z xs sp
 | .lst (.vw q) z xs sp=>if q == p then .undef else .lst (.vw q) z xs sp
 | .ep (.own q e) z xs sp j o=>if q == p then (if z == sz then .ep (.own q e) z (wrX i off vs xs) (wrS i off vs xs.length sp) j o else .undef) else .ep (.own q e) z xs sp j o
 | .ep (.vw q) z xs sp j o=>if q == p then .undef else .ep (.vw q) z xs sp j o
 | .it q s i=>if q == p then .undef else .it q s i
 | x=>x
def St.asg (σ:St) (e n:Nat) (d:Option Nat) (v:PV):St :=
 match d,v with
 | some d,.lf (.lst (.own q e') sz xs sp) =>
  if q == plT d 0 then σ.put (some d) (.lf (.lst (.own q e') sz xs sp)) else (σ.put (some d) (.lf (.lst (.own q e') sz xs sp))).mapAll fun x=>renP q (plT d 0) (killP (plT d 0) x)
 | some d,.lf (.lst .nl _ _ _)=>(σ.mapAll (killP (plT d 0))).put (some d) (.lf (.lst (.own (plT d 0) e) n [] []))
 | d,v=>σ.put d v
def St.stC (σ:St) (c off:Nat) (cs:List L) (v:PV):St :=
 match v with
 | .lf (.lst (.own q e) sz xs sp) =>
  if q == plC c off then { σ with ce:=(c,fillL cs off [.lst (.own q e) sz xs sp]) :: del σ.ce c }
  else St.mapAll (fun x=>renP q (plC c off) (killP (plC c off) x)) { σ with ce:=(c,fillL cs off [.lst (.own q e) sz xs sp]) :: del σ.ce c }
 | v=>{ σ with ce:=(c,fillL cs off v.cells) :: del σ.ce c }
def flatL:L → Bool
 | .bool _=>true
 | .int _ _=>true
 | .str _=>true
 | .nilp=>true
 | .nili=>true
 | _=>false
def flatE (xs:List (List L)):Prop:=∀ x ∈ xs,∀ c ∈ x,flatL c = true
def Flat1:L → Prop
 | .lst (.own _ _) _ xs sp=>flatE xs ∧ sp = []
 | x=>flatL x = true
def Flat1V:PV → Prop
 | .lf x=>Flat1 x
 | .ag cs=>∀ c ∈ cs,Flat1 c
 | .tp _=>False
def Flat:PV → Prop
 | .tp vs=>∀ v ∈ vs,Flat1V v
 | v=>Flat1V v
def outT (d:Nat):Tag → Tag
 | .own p e=>.own (128 * d + p) e
 | t=>t
def outL (d:Nat):L → L
 | .lst t sz xs sp=>.lst (outT d t) sz xs sp
 | .ep _ _ _ _ _ _=>.undef
 | .ptr _ _=>.undef
 | .tptr _ _ _=>.undef
 | .it _ _ _=>.undef
 | .sl _ _ _ _ _=>.undef
 | .fn f a b=>if pureL a b then .fn f a b else .undef
 | x=>x
def outV (d:Option Nat) (r:PV):PV :=
 match d with
 | some d=>mapL (outL d) r
 | none=>.lf .undef
def resT:Tag → Bool
 | .own p _=>p == 0 || p == 2 || p == 4
 | .vw _=>false
 | _=>true
def resL:L → Bool
 | .lst t _ _ _=>resT t
 | _=>true
def res1:PV → Bool
 | .lf x=>resL x
 | .ag cs=>cs.all resL
 | .tp _=>false
def resOK:PV → Bool
 | .tp vs=>vs.all res1
 | v=>res1 v
def ownL:L → Bool
 | .lst (.own _ _) _ _ _=>true
 | _=>false
def owns1:PV → Bool
 | .lf x=>ownL x
 | .ag cs=>cs.any ownL
 | .tp _=>false
def ownsV:PV → Bool
 | .tp vs=>vs.any owns1
 | v=>owns1 v
def St.clr (σ:St) (d:Option Nat) (r:PV):St :=
 match d with
 | some t=>if ownsV r then σ.mapAll (killPs [plT t 0,plT t 1,plT t 2]) else σ
 | none=>σ
def tagV:Tag → Tag
 | .own p _=>.vw p
 | t=>t
structure Inj (E:Env) (w:World):Prop where
 kk:∀ c c' b,E.κ c = some b → E.κ c' = some b → c = c'
 ww:∀ p p' b,E.ω p = some b → E.ω p' = some b → p = p'
 kw:∀ c p b,E.κ c = some b → E.ω p ≠ some b
 kr:∀ c b,E.κ c = some b → ¬ E.rd b ∧ b < w.heap.size
 wr:∀ p b,E.ω p = some b → ¬ E.rd b ∧ b < w.heap.size
def CellsV (E:Env) (w:World) (l:Nat → Option (List L)):Prop :=
 ∀ c cs,l c = some cs → ∃ b u T,E.κ c = some b ∧ w.heap[b]? = some (.cells u T (0,0)) ∧ All2 (LeafV E w) cs u.toList
def Env.N (E:Env) (b:Nat):Prop:=(∃ c,E.κ c = some b) ∨ ∃ p,E.ω p = some b
structure Unch (N:Nat → Prop) (w w':World):Prop where
 os:w'.os = w.os
 tape:w'.tape = w.tape
 output:w'.output = w.output
 size:w.heap.size ≤ w'.heap.size
 block:∀ b,b < w.heap.size → ¬ N b → w'.heap[b]? = w.heap[b]?
structure WStep (m:Nat) (E:Env) (w:World) (E':Env) (w':World):Prop where
 un:Unch E.N w w'
 inj:Inj E' w'
 rd:∀ b,E'.rd b → E.rd b ∨ w.heap.size ≤ b ∨ (∃ p,E.ω p = some b) ∨ ∃ c,m ≤ c ∧ E.κ c = some b
 rd0:∀ b,E.rd b → b < w.heap.size → E'.rd b
 om:∀ p b,E'.ω p = some b → w.heap.size ≤ b ∨ ∃ q,E.ω q = some b
 ka:∀ c b,E'.κ c = some b → w.heap.size ≤ b ∨ ∃ c',E.κ c' = some b
 k0:∀ c,c < m → E'.κ c = E.κ c
 ty:∀ c b u T,c < m → E.κ c = some b → w.heap[b]? = some (.cells u T (0,0)) → ∃ u',w'.heap[b]? = some (.cells u' T (0,0))
structure Cx where
 G:Nat → Option (List L)
def CxOK (X:Cx) (E:Env) (w:World):Prop :=
 ∀ g cs,X.G g = some cs → E.rd g ∧ g < w.heap.size ∧ w.cell? ⟨g,cs.length,none⟩ = none ∧ ∀ (j:Nat) (c:L),cs[j]? = some c → ∃ u,w.cell? ⟨g,j,none⟩ = some u ∧ D E.rd w c u
def R (X:Cx) (P:Program) (f:Nat) (args:List PV) (cs:List (List L)) (r:PV) (cs':List (List L)):Prop :=
 ∀ (E:Env) (w:World) (vs:List Value),CxOK X E w → Inj E w → (∀ c,cs.length ≤ c → E.κ c = none) → All2 (V E w) args vs → CellsV E w (fun j=>cs[j]?) →
  Calls P f vs.toArray w fun e w'=>∃ v E',e = .returned v ∧ WStep cs.length E w E' w' ∧ V E' w' r v ∧ CellsV E' w' (fun j=>cs'[j]?)
def isC (c q:Nat):Bool:=q % 2 == 1 && q / 2 / 64 == c
def cplc (c q:Nat):Nat:=2 * (64 * c + q / 2 % 64) + 1
def toC (c:Nat):L → L
 | .lst (.own q e) sz xs sp=>if isC c q = true then .lst (.own (cplc 0 q) e) sz xs sp else .undef
 | .lst (.vw _) _ _ _=>.undef
 | .ptr c' o=>if c' = c then .ptr 0 o else .undef
 | .ep _ _ _ _ _ _=>.undef
 | .tptr c' o T=>if c' = c then .tptr 0 o T else .undef
 | .it _ _ _=>.undef
 | .sl _ _ _ _ _=>.undef
 | .fn f a b=>if pureL a b then .fn f a b else .undef
 | x=>x
def toA (c:Nat):L → L
 | .ptr c' o=>if c' = c then .ptr 0 o else .undef
 | .tptr c' o T=>if c' = c then .tptr 0 o T else .undef
 | .sl c' o sz l cap=>if c' = c then .sl 0 o sz l cap else .undef
 | x=>roL x
def fromC (c:Nat):L → L
 | .lst (.own q e) sz xs sp=>if isC 0 q = true then .lst (.own (cplc c q) e) sz xs sp else .undef
 | .lst (.vw _) _ _ _=>.undef
 | .ptr c' o=>if c' = 0 then .ptr c o else .undef
 | .ep _ _ _ _ _ _=>.undef
 | .tptr c' o T=>if c' = 0 then .tptr c o T else .undef
 | .it _ _ _=>.undef
 | .sl _ _ _ _ _=>.undef
 | .fn f a b=>if pureL a b then .fn f a b else .undef
 | x=>x
def tagC (c:Nat):Tag → Bool
 | .own q _=>isC c q
 | .vw q=>isC c q
 | _=>false
def killCl (c:Nat):L → L
 | .lst t sz xs sp=>if tagC c t = true then .undef else .lst t sz xs sp
 | .ep t sz xs sp i o=>if tagC c t = true then .undef else .ep t sz xs sp i o
 | .it q s i=>if isC c q = true then .undef else .it q s i
 | x=>x
def kf (c:Nat) (d:Option Nat) (r:PV) (x:L):L :=
 match d with
 | some t=>if ownsV r = true then killPs [plT t 0,plT t 1,plT t 2] (killCl c x) else killCl c x
 | none=>killCl c x
def callpSt (σ:St) (c:Nat) (cs':List L) (d:Option Nat) (r:PV):St :=
 {m:=σ.m,tm:=mapSnd (mapL (kf c d r)) σ.tm,ce:=(c,cs'.map (fromC c)) :: del (mapSnd (List.map (kf c d r)) σ.ce) c }
def itP (p j:Nat):L → L
 | .it q s i=>if q == p then .it q s j else .it q s i
 | x=>x
def exV:Nat → List PV → Option PV
 | 0,[x]=>some x
 | 1,[.lf (.str s),.lf (.int .u8 c)]=>some (.lf (.int .i64 (Lib.countByte s.data.toList c.toNat.toUInt8:Nat)))
 | 2,[.lf (.str s),.lf (.int .u8 c)]=>some (.lf (.int .i64 (Lib.indexByte s.data.toList c.toNat.toUInt8)))
 | _,_=>none
def fnOK (P:Program) (f:Nat):Bool :=
 match P.funcs[f]? with
 | some fn=>!fn.body.isNone && !(fn.name == "runtime.NumGoroutine")
 | none=>false
def roC:L → L
 | .ptr c o=>.ptr c o
 | .tptr c o T=>.tptr c o T
 | x=>roL x
def frzD:L → Bool
 | .bool _=>true
 | .int _ _=>true
 | .str _=>true
 | .nilp=>true
 | .nili=>true
 | .nilf=>true
 | .iface _ _=>true
 | .gl _ _=>true
 | .rp _ _=>true
 | .lst .ro _ _ _=>true
 | .fn _ a b=>pureL a b
 | _=>false
def frz1 (c:Nat) (cs:List L):L → L
 | .ptr c' o=>if c' == c then .rp cs o else .ptr c' o
 | .tptr c' o T=>if c' == c then .rp cs o else .tptr c' o T
 | x=>x
def frzL (c:Nat) (cs:List L):L → L
 | .ptr c' o=>if c' == c then .rp cs o else .ptr c' o
 | .tptr c' o T=>if c' == c then .rp cs o else .tptr c' o T
 | .sl c' o sz l cap=>if c' == c then .undef else .sl c' o sz l cap
 | .fn f a b=>.fn f (a.map (frz1 c cs)) (b.map (frz1 c cs))
 | x=>x
def capL:L → Bool
 | .ptr _ _=>true
 | .tptr _ _ _=>true
 | x=>datL x
def St.frz (σ:St) (c:Nat) (cs:List L):St:={ m:=σ.m,tm:=mapSnd (mapL (frzL c cs)) σ.tm,ce:=mapSnd (List.map (frzL c cs)) (del σ.ce c) }
def wfrz (σ:St) (K:St → Prop):List Nat → Prop
 | []=>K σ
 | c :: r=>∃ cs,get σ.ce c = some cs ∧ σ.m ≤ c ∧ cs.all frzD = true ∧ wfrz (σ.frz c cs) K r
def leafs1:List PV → Option (List L)
 | []=>some []
 | .lf x :: r=>(leafs1 r).map fun l=>x :: l
 | _=>none
def ptrC:PV → Option Nat
 | .lf (.ptr c _)=>some c
 | .lf (.tptr c _ _)=>some c
 | .lf (.sl c _ _ _ _)=>some c
 | _=>none
def argsY (y:L):Nat → List PV → List PV
 | _,[]=>[]
 | 0,_ :: r=>.lf y :: r.map (mapL roL)
 | ip + 1,x :: r=>mapL roL x :: argsY y ip r
def argsC (sz n cap:Nat):Nat → List PV → List PV:=argsY (.sl 0 0 sz n cap)
def uwP (p sz n:Nat) (ys:List (List L)):L → L
 | .lst (.own q e) z xs sp=>if q == p then (if z = sz ∧ xs.length = n then .lst (.own q e) z ys [] else .undef) else .lst (.own q e) z xs sp
 | x=>killP p x
def flat1B:PV → Bool
 | .lf x=>flatL x
 | .ag cs=>cs.all flatL
 | .tp _=>false
def flatB:PV → Bool
 | .tp vs=>vs.all flat1B
 | v=>flat1B v
def othersNo (ip:Nat) (l:List PV):Bool:=((l.take ip ++ l.drop (ip + 1)).flatMap PV.leaves).all fun x=>(placeOf x).isNone
def rowOK (sz:Nat) (ys:List (List L)):Bool:=ys.all fun x=>x.length == sz && x.all frzD
def wcallB (X:Cx) (P:Program) (σ:St) (d:Option Nat) (f:Nat) (args:List AO) (K:St → Prop):Prop :=
 ∃ ip c:Nat,((args[ip]?).bind fun x=>ptrC (σ.ev x)) = some c ∧ ∃ cs,get (σ.down (args.flatMap fun x=>(σ.ev x).leaves)).ce c = some cs ∧ ∃ r cs',R X P f (args.map fun x=>mapL (toA c) (σ.ev x)) [cs.map (toC c)] r [cs'] ∧ resOK r = true ∧
  K ((callpSt (σ.down (args.flatMap fun x=>(σ.ev x).leaves)) c cs' d r).put d (outV d r))
def wcallC (X:Cx) (P:Program) (σ:St) (d:Option Nat) (f:Nat) (args:List AO) (K:St → Prop):Prop :=
 ∃ (ip p e sz:Nat) (xs sp:List (List L)) (r:PV) (ys:List (List L)),((args[ip]?).map σ.ev) = some (.lf (.lst (.own p e) sz xs sp)) ∧ (xs = [] → R X P f (argsY (.lst .nl sz [] []) ip (args.map σ.ev)) [] r []) ∧ othersNo ip (args.map σ.ev) = true ∧
  (∀ k cap:Nat,xs.length ≤ cap → cap * sz ≤ xs.length * sz + k → R X P f (argsC sz xs.length cap ip (args.map σ.ev)) [xs.flatten ++ List.replicate k .undef] r [ys.flatten ++ List.replicate k .undef]) ∧ flatB r = true ∧ ys.length = xs.length ∧ rowOK sz ys = true ∧ K ((σ.mapAll (uwP p sz xs.length ys)).put d r)
def wcallM (X:Cx) (P:Program) (σ:St) (d:Option Nat) (f:Nat) (args:List AO) (K:St → Prop):Prop :=
 ∃ (ip p e sz:Nat) (xs sp:List (List L)) (r:PV),(((args[ip]?).map σ.ev) = some (.lf (.lst (.own p e) sz xs sp)) ∨ (((args[ip]?).map σ.ev) = some (.lf (.lst .nl sz [] [])) ∧ xs = [] ∧ sp = [])) ∧ othersNo ip (args.map σ.ev) = true ∧
  R X P f (argsY (.lst (.own (plT ip 0) e) sz xs sp) ip (args.map σ.ev)) [] r [] ∧ resOK r = true ∧ Flat r ∧ K (((σ.mapAll (killP p)).clr d r).put d (outV d r))
def wcallA (X:Cx) (P:Program) (σ:St) (d:Option Nat) (f:Nat) (args:List AO) (K:St → Prop):Prop :=
   ∃ r,R X P f (args.map fun x=>mapL roL (σ.ev x)) [] r [] ∧ resOK r = true ∧
   ((Flat r ∧ K ((σ.clr d r).put d (outV d r))) ∨ K (((σ.down (args.flatMap fun x=>(σ.ev x).leaves)).clr d r).put d (outV d r)))
def capA (c:Nat):L → L
 | .ptr c' o=>if c' = c then .ptr 0 o else .undef
 | .tptr c' o T=>if c' = c then .tptr 0 o T else .undef
 | x=>x
def wcaldC (X:Cx) (P:Program) (σ:St) (d:Option Nat) (f:Nat) (a b:List L) (args:List AO) (K:St → Prop):Prop :=
 ∃ c:Nat,∃ cs,get (σ.down (args.flatMap fun x=>(σ.ev x).leaves)).ce c = some cs ∧
  ∃ r cs',R X P f (a.map (fun x=>.lf (capA c x)) ++ (args.map fun x=>mapL (toA c) (σ.ev x)) ++ b.map (fun x=>.lf (capA c x))) [cs.map (toC c)] r [cs'] ∧ resOK r = true ∧
   K ((callpSt (σ.down (args.flatMap fun x=>(σ.ev x).leaves)) c cs' d r).put d (outV d r))
def lnP (p:Nat) (x:L):L :=
 match x with
 | .lst (.own q e) sz xs sp=>if (q == p) = true then .ln xs.length else .lst (.own q e) sz xs sp
 | x=>killP p x
def gvP (c:Nat):Nat:=cplc c 127
def cellO:Option (List L) → List L
 | some l=>l
 | none=>[]
def toG (c:Nat):L → L
 | .lst (.own q e) sz xs sp=>if isC c q = true then .lst (.own (cplc 0 q) e) sz xs sp else .lst .ro sz xs sp
 | .lst (.vw q) sz xs sp=>if isC c q = true then .undef else .lst .ro sz xs sp
 | .lst .nl sz xs sp=>.lst .nl sz xs sp
 | x=>toA c x
def noC (c:Nat) (x:L):Bool :=
 match placeOf x with
 | some q=>!isC c q
 | none=>true
def wcallG (X:Cx) (P:Program) (σ:St) (d:Option Nat) (f ip:Nat) (args:List AO) (K:St → Prop):Prop :=
 ∃ (c jp p e sz:Nat) (xs sp:List (List L)) (σ1:St),(((args[jp]?).map σ.ev) = some (.lf (.lst (.own p e) sz xs sp)) ∨ ((args[jp]?).map σ.ev) = some (.lf (.lst .nl sz xs sp))) ∧ ((p = gvP c ∧ σ1 = σ) ∨ (p ≠ gvP c ∧ σ1 = σ.mapAll (fun x=>renP p (gvP c) (killP (gvP c) x)))) ∧ ((args[ip]?).bind fun x=>ptrC (σ.ev x)) = some c ∧
  ∃ cs,get (σ1.down (((args.flatMap fun x=>(σ1.ev x).leaves) ++ cellO (get σ1.ce c)).filter (noC c))).ce c = some cs ∧
   ∃ r cs',R X P f (args.map fun x=>mapL (toG c) (σ1.ev x)) [cs.map (toC c)] r [cs'] ∧ resOK r = true ∧
    K ((callpSt (σ1.down (((args.flatMap fun x=>(σ1.ev x).leaves) ++ cellO (get σ1.ce c)).filter (noC c))) c cs' d r).put d (outV d r))
def wfrzd (σ:St) (K:St → Prop):List Nat → Prop
 | []=>K σ
 | c :: r=>∃ cs0 cs,get σ.ce c = some cs0 ∧ get (σ.down cs0).ce c = some cs ∧ σ.m ≤ c ∧ cs.all frzD = true ∧ wfrzd ((σ.down cs0).frz c cs) K r
def wbs (σ:St) (d:Option Nat) (e n len:Nat) (zero:List L) (parts:List (Nat × AO)) (K:St → Prop):Prop :=
 match d with
 | some t=>len * n ≤ 16777216 ∧ zero.length = n ∧ wlit σ n (List.replicate len zero) parts fun xs=>K ((((σ.down (litLeaves σ parts)).mapAll (killP (plT t 0)))).put d (.lf (.lst (.own (plT t 0) e) n xs [])))
 | none=>False
def wcaldP (X:Cx) (P:Program) (σ:St) (d:Option Nat) (f:Nat) (a b:List L) (args:List AO) (K:St → Prop):Prop :=
 ∃ ip c:Nat,((args[ip]?).bind fun x=>ptrC (σ.ev x)) = some c ∧ ∃ cs,get (σ.down (args.flatMap fun x=>(σ.ev x).leaves)).ce c = some cs ∧
  ∃ r cs',R X P f (a.map (fun x=>.lf x) ++ (args.map fun x=>mapL (toA c) (σ.ev x)) ++ b.map (fun x=>.lf x)) [cs.map (toC c)] r [cs'] ∧ resOK r = true ∧
   K ((callpSt (σ.down (args.flatMap fun x=>(σ.ev x).leaves)) c cs' d r).put d (outV d r))
def wop (X:Cx) (P:Program) (σ:St) (d:Option Nat) (op:AOp) (K:St → Prop):Prop :=
 match op with
 | .mv x=>K (σ.put d (σ.ev x))
 | .as e n x=>K (σ.asg e n d (σ.ev x))
 | .pk c a b=>match σ.ev c with
  | .lf (.bool t)=>(t = true → K (σ.put d (σ.ev a))) ∧ (t = false → K (σ.put d (σ.ev b)))
  | _=>False
 | .bin op x y=>wbin op (σ.ev x) (σ.ev y) fun v=>K (σ.put d v)
 | .beq neg ks x y=>match σ.ev x,σ.ev y with
  | .ag a,.ag b=>a.map kindL = ks ∧ b.map kindL = ks ∧ ∃ t,eqLs a b = some t ∧ K (σ.put d (.lf (.bool (if neg then !t else t))))
  | _,_=>False
 | .bqb neg x y=>match σ.ev x,σ.ev y with
  | .lf (.bool a),.lf (.bool b)=>K (σ.put d (.lf (.bool (if neg then !(a == b) else (a == b)))))
  | _,_=>False
 | .un op x=>wun op (σ.ev x) fun v=>K (σ.put d v)
 | .cvi k x=>match σ.ev x with
  | .lf (.int _ n)=>K (σ.put d (.lf (.int k (k.wrap n))))
  | _=>False
 | .cvs x=>match σ.ev x with
  | .lf (.str s)=>K (σ.put d (.lf (.str s)))
  | _=>False
 | .cbs x=>match σ.ev x with
  | .lf (.lst _ _ xs _)=>∃ ns:List Int,xs = ns.map (fun n=>[.int .u8 n]) ∧ K (σ.put d (.lf (.str (strOfNums ns))))
  | _=>False
 | .ext x i=>match σ.ev x with
  | .tp vs=>∃ v,vs[i]? = some v ∧ K (σ.put d v)
  | _=>False
 | .fld x off n agg=>match σ.ev x with
  | .ag cs=>wpart cs off n agg fun v=>K (σ.put d v)
  | _=>False
 | .ixs x i=>match σ.ev x,σ.ev i with
  | .lf (.str s),.lf (.int _ i)=>∃ h:0 ≤ i ∧ i.toNat < s.size,K (σ.put d (.lf (.int .u8 (s[i.toNat]'h.2).toNat)))
  | _,_=>False
 | .al zero=>match d with
  | some c=>σ.m ≤ c ∧ K (let σ:=σ.mapAll (killC c);{ m:=σ.m,tm:=(c,.lf (.ptr c 0)) :: σ.tm,ce:=(c,zero) :: del σ.ce c })
  | none=>False
 | .bx x=>match d,σ.ev x with
  | some c,.lf v=>σ.m ≤ c ∧ cellL v = true ∧ K (let σ:=σ.mapAll (killC c);{ m:=σ.m,tm:=(c,.lf (.ptr c 0)) :: σ.tm,ce:=(c,[killC c v]) :: del σ.ce c })
  | some c,.ag vs=>σ.m ≤ c ∧ K (let σ:=σ.mapAll (killC c);{ m:=σ.m,tm:=(c,.lf (.ptr c 0)) :: σ.tm,ce:=(c,vs.map (killC c)) :: del σ.ce c })
  | _,_=>False
 | .fa x off=>match σ.ev x with
  | .lf (.tptr c o T)=>K (σ.put d (.lf (.tptr c (o + off) T)))
  | .lf (.gl g o)=>K (σ.put d (.lf (.gl g (o + off))))
  | .lf (.ptr c o)=>K (σ.put d (.lf (.ptr c (o + off))))
  | .lf (.ep t sz xs sp i o)=>K (σ.put d (.lf (.ep t sz xs sp i (o + off))))
  | .lf (.rp cs o)=>K (σ.put d (.lf (.rp cs (o + off))))
  | _=>False
 | .ia x i n=>match σ.ev x,σ.ev i with
  | .lf (.lst t sz xs sp),.lf (.int _ i)=>sz = n ∧ (0 ≤ i ∧ i.toNat < xs.length) ∧ K (σ.put d (.lf (.ep t sz xs sp i.toNat 0)))
  | .lf (.sl c o sz l _),.lf (.int _ i)=>sz = n ∧ (0 ≤ i ∧ i.toNat < l) ∧ K (σ.put d (.lf (.ptr c (o + i.toNat * n))))
  | _,_=>False
 | .iaa x i len n=>match σ.ev x,σ.ev i with
  | .lf (.ptr c o),.lf (.int _ i)=>(0 ≤ i ∧ i < len) ∧ K (σ.put d (.lf (.ptr c (o + i.toNat * n))))
  | .lf (.ep t sz xs sp j o),.lf (.int _ i)=>(0 ≤ i ∧ i < len) ∧ K (σ.put d (.lf (.ep t sz xs sp j (o + i.toNat * n))))
  | .lf (.gl g o),.lf (.int _ i)=>(0 ≤ i ∧ i < len) ∧ K (σ.put d (.lf (.gl g (o + i.toNat * n))))
  | .lf (.rp cs o),.lf (.int _ i)=>(0 ≤ i ∧ i < len) ∧ K (σ.put d (.lf (.rp cs (o + i.toNat * n))))
  | _,_=>False
 | .ld x n agg=>match σ.ev x with
  | .lf (.tptr c o _)=>∃ cs,get σ.ce c = some cs ∧ wpart cs o n agg fun v=>K (σ.put d v)
  | .lf (.gl g o)=>∃ cs,X.G g = some cs ∧ wpart cs o n agg fun v=>K (σ.put d v)
  | .lf (.ptr c o)=>∃ cs,get σ.ce c = some cs ∧ wpart cs o n agg fun v=>K (σ.put d v)
  | .lf (.ep _ _ xs _ i o)=>∃ h:i < xs.length,wpart (xs[i]'h) o n agg fun v=>K (σ.put d v)
  | .lf (.rp cs o)=>wpart cs o n agg fun v=>K (σ.put d v)
  | _=>False
 | .st x v n=>(σ.ev v).cells.length = n ∧ (σ.ev v).cells.all cellL = true ∧ match σ.ev x with
  | .lf (.ptr c o)=>∃ cs,get σ.ce c = some cs ∧ o + n ≤ cs.length ∧ K (σ.stC c o cs (σ.ev v))
  | .lf (.tptr c o _)=>∃ cs,get σ.ce c = some cs ∧ o + n ≤ cs.length ∧ K (σ.stC c o cs (σ.ev v))
  | .lf (.ep (.own p _) sz _ _ i o)=>o + n ≤ sz ∧ (σ.ev v).cells.all datL = true ∧ (∀ x ∈ (σ.ev v).cells,placeOf x ≠ some p) ∧ K ((σ.down (σ.ev v).cells).mapAll (wrP p sz i o ((σ.ev v).cells.map roL)))
  | _=>False
 | .nc x=>match σ.ev x with
  | .lf (.tptr c o T)=>K (σ.put d (.lf (.tptr c o T)))
  | .lf (.gl g o)=>K (σ.put d (.lf (.gl g o)))
  | .lf (.fn f a b)=>K (σ.put d (.lf (.fn f a b)))
  | .lf (.ptr c o)=>K (σ.put d (.lf (.ptr c o)))
  | .lf (.ep t sz xs sp i o)=>K (σ.put d (.lf (.ep t sz xs sp i o)))
  | .lf (.rp cs o)=>K (σ.put d (.lf (.rp cs o)))
  | _=>False
 | .bd zero parts=>wbuild σ zero parts fun cs=>K (σ.put d (.ag cs))
 | .bs e n len zero parts=>match d with
  | some t=>len * n ≤ 16777216 ∧ zero.length = n ∧ wlit σ n (List.replicate len zero) parts fun xs=>K ((((σ.down (litLeaves σ parts)).mapAll (killP (plT t 0)))).put d (.lf (.lst (.own (plT t 0) e) n xs [])))
  | none=>False
 | .ms e n bytes zero l c=>match d,σ.ev l,σ.ev c with
  | some t,.lf (.int _ l),.lf (.int _ c)=>zero.length = n ∧ (0 ≤ l ∧ l ≤ c ∧ c * bytes ≤ 140737488355328 ∧ c ≤ 9223372036854775807) ∧ K ((σ.mapAll (killP (plT t 0))).put d (.lf (.lst (.own (plT t 0) e) n (List.replicate l.toNat zero) (List.replicate (c - l).toNat zero))))
  | _,_,_=>False
 | .len x=>match σ.ev x with
  | .lf (.lst _ _ xs _)=>(xs.length ≤ 9223372036854775807 → K (σ.put d (.lf (.int .i64 xs.length))))
  | .lf (.sl _ _ _ l _)=>K (σ.put d (.lf (.int .i64 l)))
  | .lf (.ln l)=>K (σ.put d (.lf (.int .i64 l)))
  | _=>False
 | .lns x=>match σ.ev x with
  | .lf (.str s)=>K (σ.put d (.lf (.int .i64 s.size)))
  | _=>False
 | .app e n bytes x y=>match d,σ.ev x,σ.ev y with
  | some t,.lf (.lst .nl _ _ _),.lf (.lst _ sz' ys _)=>(sz' = n ∨ ys = []) ∧ ys.length * bytes ≤ 140737488355328 ∧ K ((σ.mapAll (killP (plT t 0))).put d (.lf (.lst (.own (plT t 0) e) n ys [])))
  | some t,.lf (.lst (.own p e') sz xs _),.lf (.lst _ sz' ys _)=>e' = e ∧ sz = n ∧ (sz' = n ∨ ys = []) ∧ (xs.length + ys.length) * bytes ≤ 140737488355328 ∧
    K (((σ.mapAll (lnP p)).mapAll (killP (plT t 0))).put d (.lf (.lst (.own (plT t 0) e) n (xs ++ ys) [])))
  | some t,.lf (.lst (.vw p) sz xs _),.lf (.lst _ sz' ys _)=>sz = n ∧ sz' = n ∧ 0 < ys.length ∧ (xs.length + ys.length) * bytes ≤ 140737488355328 ∧
    K (((σ.mapAll (killP p)).mapAll (killP (plT t 0))).put d (.lf (.lst (.vw (plT t 0)) n (xs ++ ys) [])))
  | some t,.lf (.sl c off sz l cap),.lf (.lst _ sz' ys _)=>sz = n ∧ sz' = n ∧ 0 < ys.length ∧ (l + ys.length) * bytes ≤ 140737488355328 ∧
    ∃ cs,get σ.ce c = some cs ∧ off + cap * n ≤ cs.length ∧ (∀ x ∈ cs.drop (off + l * n),x = .undef) ∧ K ((σ.mapAll (killP (plT t 0))).put d (.lf .undef))
  | _,_,_=>False
 | .aps e x y=>match d,σ.ev x,σ.ev y with
  | some t,.lf (.lst .nl _ _ _),.lf (.str s)=>s.size ≤ 140737488355328 ∧ K ((σ.mapAll (killP (plT t 0))).put d (.lf (.lst (.own (plT t 0) e) 1 (s.data.toList.map (fun b=>[.int .u8 b.toNat])) [])))
  | some t,.lf (.lst (.own p e') sz xs _),.lf (.str s)=>e' = e ∧ sz = 1 ∧ xs.length + s.size ≤ 140737488355328 ∧
    K (((σ.mapAll (killP p)).mapAll (killP (plT t 0))).put d (.lf (.lst (.own (plT t 0) e) 1 (xs ++ s.data.toList.map (fun b=>[.int .u8 b.toNat])) [])))
  | _,_,_=>False
 | .sls x lo hi=>match σ.ev x,lo.map σ.ev,hi.map σ.ev with
  | .lf (.str s),none,none=>K (σ.put d (.lf (.str s)))
  | .lf (.str s),some (.lf (.int _ l)),none=>(0 ≤ l ∧ l ≤ s.size) ∧ K (σ.put d (.lf (.str (s.extract l.toNat s.size))))
  | .lf (.str s),none,some (.lf (.int _ h))=>(0 ≤ h ∧ h ≤ s.size) ∧ K (σ.put d (.lf (.str (s.extract 0 h.toNat))))
  | .lf (.str s),some (.lf (.int _ l)),some (.lf (.int _ h))=>(0 ≤ l ∧ l ≤ h ∧ h ≤ s.size) ∧ K (σ.put d (.lf (.str (s.extract l.toNat h.toNat))))
  | _,_,_=>False
 | .sll n x lo hi=>match σ.ev x,lo.map σ.ev,hi.map σ.ev with
  | .lf (.lst t sz xs sp),none,none=>K (σ.put d (.lf (.lst t sz xs sp)))
  | .lf (.lst t sz xs sp),none,some (.lf (.int _ h))=>(0 ≤ h ∧ h.toNat ≤ xs.length + sp.length) ∧ K (σ.put d (.lf (.lst t sz ((xs ++ sp).take h.toNat) ((xs ++ sp).drop h.toNat))))
  | .lf (.lst t sz xs sp),some (.lf (.int _ l)),none=>sz = n ∧ (0 ≤ l ∧ l.toNat ≤ xs.length) ∧ K (σ.put d (.lf (.lst (tagV t) sz (xs.drop l.toNat) sp)))
  | .lf (.lst t sz xs sp),some (.lf (.int _ l)),some (.lf (.int _ h))=>sz = n ∧ (0 ≤ l ∧ l ≤ h ∧ h.toNat ≤ xs.length + sp.length) ∧
    K (σ.put d (.lf (.lst (tagV t) sz (((xs ++ sp).take h.toNat).drop l.toNat) ((xs ++ sp).drop h.toNat))))
  | _,_,_=>False
 | .call f args=>wcallB X P σ d f args K ∨ wcallC X P σ d f args K ∨ (∃ dl,wcallM X P (σ.down dl) d f args K) ∨ wcallA X P σ d f args K
 | .callp f ip args=>match (args[ip]?).bind fun x=>ptrC (σ.ev x) with
  | some c=>∃ cs,get (σ.down (args.flatMap fun x=>(σ.ev x).leaves)).ce c = some cs ∧ ∃ r cs',R X P f (args.map fun x=>mapL (toA c) (σ.ev x)) [cs.map (toC c)] r [cs'] ∧ resOK r = true ∧
    K ((callpSt (σ.down (args.flatMap fun x=>(σ.ev x).leaves)) c cs' d r).put d (outV d r))
  | _=>wcallA X P σ d f args K
 | .callg f ip args=>(match (args[ip]?).bind fun x=>ptrC (σ.ev x) with
  | some c=>∃ cs,get (σ.down (args.flatMap fun x=>(σ.ev x).leaves)).ce c = some cs ∧ ∃ r cs',R X P f (args.map fun x=>mapL (toA c) (σ.ev x)) [cs.map (toC c)] r [cs'] ∧ resOK r = true ∧
    K ((callpSt (σ.down (args.flatMap fun x=>(σ.ev x).leaves)) c cs' d r).put d (outV d r))
  | _=>wcallA X P σ d f args K) ∨ wcallG X P σ d f ip args K
 | .bxt T x=>match d,σ.ev x with
  | some c,.ag vs=>σ.m ≤ c ∧ K (let σ:=σ.mapAll (killC c);{ m:=σ.m,tm:=(c,.lf (.tptr c 0 T)) :: σ.tm,ce:=(c,vs.map (killC c)) :: del σ.ce c })
  | _,_=>False
 | .bsf e n len zero parts=>∃ fz,wfrzd σ (fun σ=>wbs σ d e n len zero parts K) fz
 | .mi t x=>match σ.ev x with
  | .lf v=>flatL v = true ∧ K (σ.put d (.lf (.iface t v)))
  | _=>False
 | .alt T zero=>match d with
  | some c=>σ.m ≤ c ∧ K (let σ:=σ.mapAll (killC c);{ m:=σ.m,tm:=(c,.lf (.tptr c 0 T)) :: σ.tm,ce:=(c,zero) :: del σ.ce c })
  | none=>False
 | .rng x=>match d,σ.ev x with
  | some t,.lf (.str s)=>K ((σ.mapAll (killP (plT t 0))).put d (.lf (.it (plT t 0) s 0)))
  | _,_=>False
 | .nxt x=>match σ.ev x with
  | .lf (.it p s i)=>(i < s.size → K ((σ.mapAll (itP p (i + (Utf8.decode s i).2))).put d (.tp [.lf (.bool true),.lf (.int .i64 i),.lf (.int .i32 (Utf8.decode s i).1)]))) ∧ (s.size ≤ i → K (σ.put d (.tp [.lf (.bool false)])))
  | _=>False
 | .peq neg x y=>match σ.ev x,σ.ev y with
  | .lf .nilp,.lf .nilp=>K (σ.put d (.lf (.bool !neg)))
  | .lf (.tptr _ _ _),.lf .nilp=>K (σ.put d (.lf (.bool neg)))
  | .lf (.ptr _ _),.lf .nilp=>K (σ.put d (.lf (.bool neg)))
  | .lf (.tptr c o _),.lf (.tptr c' o' _)=>c = c' ∧ o = o' ∧ K (σ.put d (.lf (.bool !neg)))
  | _,_=>False
 | .ieq neg x=>match σ.ev x with
  | .lf .nili=>K (σ.put d (.lf (.bool !neg)))
  | .lf (.iface _ _)=>K (σ.put d (.lf (.bool neg)))
  | _=>False
 | .p2u x=>match σ.ev x with
  | .lf (.tptr c o T)=>∃ cs,get σ.ce c = some cs ∧ o < cs.length ∧ K (σ.put d (.lf (.tptr c o T)))
  | _=>False
 | .u2p u x=>match σ.ev x with
  | .lf (.tptr c o T)=>∃ cs,get σ.ce c = some cs ∧ liesAt P P.depth T (cs.length / P.cellsOf T) o u 1 = true ∧ K (σ.put d (.lf (.tptr c o T)))
  | _=>False
 | .ex k args=>∃ v,exV k (args.map σ.ev) = some v ∧ K (σ.put d v)
 | .usd x=>match σ.ev x with
  | .lf (.lst t sz xs sp)=>0 < xs.length ∧ K (σ.put d (.lf (.ep t sz xs sp 0 0)))
  | _=>False
 | .ust e x n=>match σ.ev x,σ.ev n with
  | .lf (.ep (.own p e') 1 xs _ 0 0),.lf (.int .i64 n)=>e' = e ∧ n = xs.length ∧ ∃ ns:List Int,xs = ns.map (fun n=>[.int .u8 n]) ∧ (∀ n ∈ ns,0 ≤ n ∧ n ≤ 255) ∧ K ((σ.mapAll (killP p)).put d (.lf (.str (strOfNums ns))))
  | _,_=>False
 | .mkf f a b=>∃ as bs,leafs1 (a.map σ.ev) = some as ∧ leafs1 (b.map σ.ev) = some bs ∧ as.all capL = true ∧ bs.all capL = true ∧ ∃ fz,wfrz ((σ.down (as ++ bs)).put d (.lf (.fn f (as.map roC) (bs.map roC)))) K fz
 | .cald x args=>match σ.ev x with
  | .lf (.fn f a b)=>fnOK P f = true ∧ ((pureL a b = true ∧ (wcaldP X P σ d f a b args K ∨ ∃ r,R X P f (a.map (fun x=>.lf x) ++ (args.map fun x=>mapL roL (σ.ev x)) ++ b.map (fun x=>.lf x)) [] r [] ∧ resOK r = true ∧
   K (((σ.down (args.flatMap fun x=>(σ.ev x).leaves)).clr d r).put d (outV d r)))) ∨ wcaldC X P σ d f a b args K)
  | _=>False
 | .mm mx x y=>match σ.ev x,σ.ev y with
  | .lf (.int k a),.lf (.int k' b)=>k = k' ∧ K (σ.put d (.lf (.int k (if mx then max a b else min a b))))
  | _,_=>False
 | .bad=>False
def St.restrict (σ:St) (keep:List Nat):St :=
 {m:=σ.m,tm:=keep.filterMap fun t=>(get σ.tm t).map fun v=>(t,v),ce:=σ.ce }
def wops (X:Cx) (P:Program):List AOper → St → (St → Prop) → Prop
 | [],σ,K=>K σ
 | o :: os,σ,K=>match o.g with
  | none=>wop X P σ o.d o.op fun σ=>wops X P os σ K
  | some (t,want)=>match σ.ev (.t t) with
   | .lf (.bool b) =>
    (b = want → wop X P { σ with tm:=(t,.lf (.bool want)) :: σ.tm } o.d o.op fun σ=>wops X P os σ K) ∧
    (b = (!want) → wops X P os (St.put { σ with tm:=(t,.lf (.bool (!want))) :: σ.tm } o.d (.lf .no)) K)
   | .lf .no=>wops X P os (σ.put o.d (.lf .no)) K
   | _=>False
def notOwn:PV → Bool
 | .lf (.lst (.own _ _) _ _ _)=>false
 | .lf (.lst .nl _ _ _)=>true
 | _=>true
def detL:L → Option Value
 | .bool b=>some (.bool b)
 | .int k n=>some (.int k n)
 | .str s=>some (.string s)
 | .nilp=>some (.pointer none)
 | .nili=>some .nilIface
 | .lst .nl _ [] []=>some (.slice none 0 0)
 | _=>none
def detLs:List L → Option (List Value)
 | []=>some []
 | x :: xs=>match detL x,detLs xs with
  | some v,some vs=>some (v :: vs)
  | _,_=>none
def det1:PV → Option Value
 | .lf x=>detL x
 | .ag cs=>(detLs cs).map fun vs=>.agg vs.toArray
 | .tp _=>none
def det1s:List PV → Option (List Value)
 | []=>some []
 | x :: xs=>match det1 x,det1s xs with
  | some v,some vs=>some (v :: vs)
  | _,_=>none
def detPV:PV → Option Value
 | .tp vs=>(det1s vs).map fun vs=>.tuple vs.toArray
 | v=>det1 v
def isQ:AOp → Bool
 | .as _ _ _=>false
 | .al _=>false
 | .bx _=>false
 | .st _ _ _=>false
 | .cbs _=>false
 | .bs _ _ _ _ _=>false
 | .ms _ _ _ _ _ _=>false
 | .app _ _ _ _ _=>false
 | .aps _ _ _=>false
 | .call _ _=>false
 | .callp _ _ _=>false
 | .alt _ _=>false
 | .rng _=>false
 | .nxt _=>false
 | .ust _ _ _=>false
 | .mkf _ _ _=>false
 | .cald _ _=>false
 | .bxt _ _=>false
 | .bsf _ _ _ _ _=>false
 | .callg _ _ _=>false
 | .bad=>false
 | _=>true
def wopq (X:Cx) (P:Program) (σ:St) (d:Option Nat) (op:AOp) (K:St → Prop):Prop :=
 match op with
 | .as _ _ x=>notOwn (σ.ev x) = true ∧ K (σ.put d (σ.ev x))
 | .call f args=>∃ r,R X P f (args.map fun x=>mapL roL (σ.ev x)) [] r [] ∧ (detPV r).isSome = true ∧ K (σ.put d r)
 | op=>isQ op = true ∧ wop X P σ d op K
def gw (W:St → (St → Prop) → Prop) (o:AOper) (σ:St) (K:St → Prop):Prop :=
 match o.g with
 | none=>W σ K
 | some (t,want)=>match σ.ev (.t t) with
  | .lf (.bool b) =>
   (b = want → W { σ with tm:=(t,.lf (.bool want)) :: σ.tm } K) ∧
   (b = (!want) → K (St.put { σ with tm:=(t,.lf (.bool (!want))) :: σ.tm } o.d (.lf .no)))
  | .lf .no=>K (σ.put o.d (.lf .no))
  | _=>False
def wopsq (X:Cx) (P:Program):List AOper → St → (St → Prop) → Prop
 | [],σ,K=>K σ
 | o :: os,σ,K=>gw (fun σ K=>wopq X P σ o.d o.op K) o σ fun σ=>wopsq X P os σ K
def wopsT (X:Cx) (P:Program):List AOper → St → (St → Prop) → Prop
 | [],σ,K=>K σ
 | [o],σ,K=>wops X P [o] σ K
 | o :: os,σ,K=>gw (fun σ K=>wopq X P σ o.d o.op K) o σ fun σ=>wopsT X P os σ K
def detK:PV → Bool
 | .lf (.bool _)=>true
 | .lf (.int _ _)=>true
 | .lf (.str _)=>true
 | .lf .nilp=>true
 | .lf .nili=>true
 | .lf (.ptr _ _)=>true
 | _=>false
def detG:Option PV → Bool
 | some pv=>detK pv
 | none=>false
def detD (σ:St):Option Nat → Bool
 | some t=>detG (get σ.tm t)
 | none=>false
def St.cutc (σ:St) (c:Nat):St:={ m:=σ.m,tm:=mapSnd (mapL (killCl c)) σ.tm,ce:=del (mapSnd (List.map (killCl c)) σ.ce) c }
def isK:AOp → Bool
 | .mv _=>true
 | .bin _ _ _=>true
 | .cvi _ _=>true
 | .fa _ _=>true
 | .iaa _ _ _ _=>true
 | .ld _ _ _=>true
 | .nc _=>true
 | _=>false
def isU:AOp → Bool
 | .mv _=>true
 | .bin _ _ _=>true
 | .ia _ _ _=>true
 | .cvi _ _=>true
 | .fa _ _=>true
 | .iaa _ _ _ _=>true
 | .nc _=>true
 | .sll _ _ _ _=>true
 | .ext _ _=>true
 | _=>false
def wopsk (X:Cx) (P:Program):List AOper → St → (St → Prop) → Prop
 | [],σ,K=>K σ
 | o :: os,σ,K=>wop X P σ o.d o.op fun σ'=>detD σ' o.d = true ∧ wopsk X P os σ' K
def noPl (x:L):Bool:=(placeOf x).isNone
def callArg (ip:Nat) (args:List AO) (σ:St):Option Nat:=(args[ip]?).bind fun x=>ptrC (σ.ev x)
def wdrw (X:Cx) (P:Program) (src:AO) (hd:List AOper) (σ:St) (K:St → Prop):List AOper → Prop
 | o :: rest=>match o.op with
  | .callp f ip args=>match ptrC (σ.ev src) with
   | some c=>∃ cs,get σ.ce c = some cs ∧ wopsk X P hd (σ.cutc c) fun σ1=>callArg ip args σ1 = some c ∧ (args.flatMap fun x=>(σ1.ev x).leaves).all noPl = true ∧
     wop X P { m:=σ1.m,tm:=σ1.tm,ce:=(c,cs) :: σ1.ce } o.d (.callp f ip args) fun σ2=>detD σ2 o.d = true ∧ wops X P rest σ2 K
   | none=>False
  | _=>False
 | []=>False
def goodL (cs:List Nat):L → Bool
 | .bool _=>true
 | .int _ _=>true
 | .str _=>true
 | .nilp=>true
 | .nili=>true
 | .ptr c _=>cs.contains c
 | .fn _ [] []=>true
 | _=>false
def simL:L → Bool
 | .bool _=>true
 | .int _ _=>true
 | .str _=>true
 | .nilp=>true
 | .nili=>true
 | _=>false
def goodV (cs:List Nat):PV → Bool
 | .lf x=>goodL cs x
 | .ag xs=>xs.all simL
 | _=>false
def goodV0 (cs:List Nat):PV → Bool
 | .lf x=>goodL cs x
 | _=>false
def cutG (cs:List Nat) (v:PV):PV:=if goodV0 cs v = true then v else .lf .undef
def ptr1 (o:Option PV):Option Nat :=
 match o with
 | some (.lf (.ptr c _))=>some c
 | _=>none
def pcons:Option Nat → List Nat → List Nat
 | some c,l=>c :: l
 | none,l=>l
def ptrsAt (σ:St):List Nat → List Nat
 | []=>[]
 | t :: r=>pcons (ptr1 (get σ.tm t)) (ptrsAt σ r)
def fixL:L → Bool
 | .bool _=>true
 | .int _ _=>true
 | .str _=>true
 | .nilp=>true
 | .nili=>true
 | .lst .ro _ _ _=>true
 | .lst .nl _ _ _=>true
 | .fn _ [] []=>true
 | _=>false
def ccons (c:Nat):Option (List L) → List (Nat × List L) → List (Nat × List L)
 | some x,l=>(c,x) :: l
 | none,l=>l
def cellsAt (σ:St):List Nat → List (Nat × List L)
 | []=>[]
 | c :: r=>ccons c (get σ.ce c) (cellsAt σ r)
def fixC:List (Nat × List L) → Bool
 | []=>true
 |(_,x) :: r=>x.all fixL && fixC r
def St.cutg (σ:St) (cs:List Nat):St:={ m:=σ.m,tm:=mapSnd (cutG cs) σ.tm,ce:=cellsAt σ cs }
def goodO (cs:List Nat):Option PV → Bool
 | some v=>goodV cs v
 | none=>false
def goodD (cs:List Nat) (σ:St):Option Nat → Bool
 | some t=>goodO cs (get σ.tm t)
 | none=>false
def evD (σ:St):Option Nat → PV
 | some t=>σ.ev (.t t)
 | none=>.lf .undef
def mvOf:AOp → Option AO
 | .mv x=>some x
 | _=>none
def wopsg (X:Cx) (P:Program) (cs:List Nat):List AOper → St → St → (St → Prop) → Prop
 | [],_,σf,K=>K σf
 | o :: os,σ,σf,K=>match mvOf o.op with
  | some x=>wopsg X P cs os (σ.put o.d (cutG cs (σ.ev x))) (σf.put o.d (σf.ev x)) K
  | none=>wop X P σ o.d o.op fun σ'=>goodD cs σ' o.d = true ∧ wopsg X P cs os σ' (σf.put o.d (evD σ' o.d)) K
def keepO (σ0 σ':St) (t:Nat):Option PV → Prop
 | some (.lf (.ptr c o))=>get σ'.tm t = some (.lf (.ptr c o)) ∧ get σ'.ce c = get σ0.ce c
 | _=>True
def keepS (σ0 σ':St):List Nat → Prop
 | []=>True
 | t :: r=>keepO σ0 σ' t (get σ0.tm t) ∧ keepS σ0 σ' r
def wopsr (X:Cx) (P:Program) (σ0:St) (ts:List Nat):List AOper → St → (St → Prop) → Prop
 | [],_,_=>False
 | [o],σ,K=>wop X P σ o.d o.op fun σ'=>σ'.m = σ0.m ∧ K σ'
 | o :: os,σ,K=>wop X P σ o.d o.op fun σ'=>σ'.m = σ0.m ∧ keepS σ0 σ' ts ∧ wopsr X P σ0 ts os σ' K
def wgdr (X:Cx) (P:Program) (ts:List Nat) (hd tl:List AOper) (σ:St) (K:St → Prop):Prop :=
 wopsg X P (ptrsAt σ ts) hd (σ.cutg (ptrsAt σ ts)) σ fun σ1=>wopsr X P σ ts tl σ1 K
def wpot (X:Cx) (P:Program):OT → St → (St → Prop) → Prop
 | .nil,σ,K=>K σ
 | .one o t,σ,K=>wop X P σ o.d o.op fun σ'=>wpot X P t σ' K
 | .alt a b,σ,K=>wpot X P a σ K ∧ wpot X P b σ K
def wgd2 (X:Cx) (P:Program) (ts:List Nat) (hd a b:List AOper) (σ:St) (K:St → Prop):Prop :=
 wopsg X P (ptrsAt σ ts) hd (σ.cutg (ptrsAt σ ts)) σ fun σ1=>wopsr X P σ ts a σ1 K ∧ wopsr X P σ ts b σ1 K
def isLd:AOp → Bool
 | .ld _ _ _=>true
 | _=>false
def isN:AOp → Bool
 | .bs _ _ _ _ _=>true
 | .app _ _ _ _ _=>true
 | _=>false
def ptrV:PV → Bool
 | .lf (.ptr _ _)=>true
 | _=>false
def slV:PV → Bool
 | .lf (.sl _ _ _ _ _)=>true
 | _=>false
def ldOK (σ:St):AOp → Bool
 | .ld x _ _=>ptrV (σ.ev x)
 | _=>true
def notSl (σ:St):AOp → Bool
 | .app _ _ _ x _=>!slV (σ.ev x)
 | _=>true
def wopsh (X:Cx) (P:Program):List AOper → St → (St → Prop) → Prop
 | [],σ,K=>K σ
 | o :: os,σ,K=>ldOK σ o.op = true ∧ wop X P σ o.d o.op fun σ'=>wopsh X P os σ' K
def wopst (X:Cx) (P:Program) (m:Nat):List AOper → St → (St → Prop) → Prop
 | [],_,_=>False
 | [o],σ,K=>wop X P σ o.d o.op fun σ'=>σ'.m = m ∧ K σ'
 | o :: os,σ,K=>notSl σ o.op = true ∧ wop X P σ o.d o.op fun σ'=>σ'.m = m ∧ wopst X P m os σ' K
def wgdq (X:Cx) (P:Program) (hd tl:List AOper) (σ:St) (K:St → Prop):Prop:=wopsh X P hd σ fun σ1=>wopst X P σ.m tl σ1 K
def isSt:AOp → Bool
 | .st _ _ _=>true
 | _=>false
def ptrLoc (n:Nat):PV → List (Nat × Nat × Nat)
 | .lf (.ptr c o)=>[(c,o,n)]
 | _=>[]
def locOf (σ:St):AOp → List (Nat × Nat × Nat)
 | .ld x n agg=>ptrLoc (if agg then n else 1) (σ.ev x)
 | _=>[]
def apartL (c o n:Nat) (ls:List (Nat × Nat × Nat)):Bool:=ls.all fun l=>!(l.1 == c) || decide (o + n ≤ l.2.1) || decide (l.2.1 + l.2.2 ≤ o)
def stOKv (ls:List (Nat × Nat × Nat)) (n:Nat) (v:PV):PV → Bool
 | .lf (.ptr c o)=>apartL c o n ls && !ownsV v
 | _=>false
def stOK (ls:List (Nat × Nat × Nat)) (σ:St):AOp → Bool
 | .st x v n=>stOKv ls n (σ.ev v) (σ.ev x)
 | op=>isQ op
def wopsh2 (X:Cx) (P:Program):List AOper → List (Nat × Nat × Nat) → St → (List (Nat × Nat × Nat) → St → Prop) → Prop
 | [],ls,σ,K=>K ls σ
 | o :: os,ls,σ,K=>ldOK σ o.op = true ∧ wop X P σ o.d o.op fun σ'=>wopsh2 X P os (locOf σ o.op ++ ls) σ' K
def wopss (X:Cx) (P:Program) (m:Nat) (ls:List (Nat × Nat × Nat)):List AOper → St → (St → Prop) → Prop
 | [],_,_=>False
 | [o],σ,K=>wop X P σ o.d o.op fun σ'=>σ'.m = m ∧ K σ'
 | o :: os,σ,K=>stOK ls σ o.op = true ∧ wop X P σ o.d o.op fun σ'=>σ'.m = m ∧ wopss X P m ls os σ' K
def wgds (X:Cx) (P:Program) (hd tl:List AOper) (σ:St) (K:St → Prop):Prop:=wopsh2 X P hd [] σ fun ls σ1=>wopss X P σ.m ls tl σ1 K
inductive Out where
 | nrm
 | ex (id:Nat)
 | ret
def ptrsOf:List (Nat × PV) → List Nat
 | []=>[]
 |(_,.lf (.ptr c _)) :: r=>c :: ptrsOf r
 |(_,.lf (.tptr c _ _)) :: r=>c :: ptrsOf r
 |(_,.lf (.sl c _ _ _ _)) :: r=>c :: ptrsOf r
 | _ :: r=>ptrsOf r
def St.head (σ:St) (keep:List Nat):St :=
 let tm:=keep.filterMap fun t=>(get σ.tm t).map fun v=>(t,v)
 {m:=σ.m,tm,ce:=(List.range σ.m ++ ptrsOf tm).filterMap fun c=>(get σ.ce c).map fun v=>(c,v) }
def awp (X:Cx) (P:Program):AC → (Out → St → Prop) → St → Prop
 | .bad,_,_=>False
 | .skip,Q,σ=>Q .nrm σ
 | .ops 0 l keep,Q,σ=>wops X P l σ fun σ=>Q .nrm (σ.restrict keep)
 | .ops 1 l keep,Q,σ=>wopsT X P l σ fun σ=>Q .nrm (σ.restrict keep)
 | .ops _ l keep,Q,σ=>wopsq X P l σ fun σ=>Q .nrm (σ.restrict keep)
 | .drw src hd tl keep,Q,σ=>wdrw X P src hd σ (fun σ=>Q .nrm (σ.restrict keep)) tl
 | .gdr ts hd tl keep,Q,σ=>wgdr X P ts hd tl σ (fun σ=>Q .nrm (σ.restrict keep))
 | .gdq hd tl keep,Q,σ=>wgdq X P hd tl σ (fun σ=>Q .nrm (σ.restrict keep))
 | .gd2 ts hd a b keep,Q,σ=>wgd2 X P ts hd a b σ (fun σ=>Q .nrm (σ.restrict keep))
 | .gdt t keep,Q,σ=>wpot X P t σ (fun σ=>Q .nrm (σ.restrict keep))
 | .gds hd tl keep,Q,σ=>wgds X P hd tl σ (fun σ=>Q .nrm (σ.restrict keep))
 | .reg hd tl keep,Q,σ=>wopsq X P hd σ fun σ=>wops X P tl σ fun σ=>Q .nrm (σ.restrict keep)
 | .seq a b,Q,σ=>awp X P a (fun o σ=>match o with | .nrm=>awp X P b Q σ | o=>Q o σ) σ
 | .cond c a b,Q,σ=>match σ.ev c with
  | .lf (.bool t)=>(t = true → awp X P a Q σ) ∧ (t = false → awp X P b Q σ)
  | _=>False
 | .block id b,Q,σ=>awp X P b (fun o σ=>match o with | .ex i=>if i = id then Q .nrm σ else Q (.ex i) σ | o=>Q o σ) σ
 | .loop b keep,Q,σ=>∀ Z:St → Prop,(∀ σ,awp X P b (fun o σ=>match o with | .nrm=>Z (σ.head keep) | o=>Q o σ) σ → Z σ) → Z (σ.head keep)
 | .exit id,Q,σ=>Q (.ex id) σ
 | .ret,Q,σ=>Q .ret σ
end Go.Proofs.YthcpaohmajjopaaGreatDoor.AM
